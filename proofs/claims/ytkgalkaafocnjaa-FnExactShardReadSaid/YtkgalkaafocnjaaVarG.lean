/- putVar and putZig onto a row of the caller's own, with the row's block known. -/
import Derived.Test.YtkgalkaafocnjaaZig
import Derived.Test.YtkgalkaafocnjaaNestA
namespace Go.Proofs.Ytkgalkaafocnjaa
open Go.RowKit
/-- From w to w' only the row's own block is written; the row lies where it lay, or in a new block. -/
structure GrowS (w w' : World) (v v' : Value) : Prop where
  gr : w.grownBy w' v.ownBlock
  blk : v'.ownBlock = v.ownBlock ∨ ∀ g, v'.ownBlock = some g → w.heap.size ≤ g
theorem GrowS.refl (w : World) (v : Value) : GrowS w w v v := ⟨grown_refl w _, Or.inl rfl⟩
theorem GrowS.alloc (w : World) (o : Obj) (v : Value) : GrowS w (w.alloc o) v v := ⟨World.grownBy_alloc w o _, Or.inl rfl⟩
theorem GrowS.trans {w w1 w2 : World} {v v1 v2 : Value} (h : GrowS w w1 v v1) (k : GrowS w1 w2 v1 v2) : GrowS w w2 v v2 := by
  refine ⟨⟨k.gr.os.trans h.gr.os, k.gr.tape.trans h.gr.tape, k.gr.output.trans h.gr.output, Nat.le_trans h.gr.size k.gr.size, fun i hi hr => ?_⟩, ?_⟩
  · rw [k.gr.block i (Nat.lt_of_lt_of_le hi h.gr.size) (fun e => ?_), h.gr.block i hi hr]
    rcases h.blk with h1 | h1
    · exact hr (by rw [← h1]; exact e)
    · have := h1 i e.symm; omega
  · rcases k.blk with k1 | k1
    · rcases h.blk with h1 | h1
      · exact Or.inl (k1.trans h1)
      · exact Or.inr (fun g hg => h1 g (by rw [← k1]; exact hg))
    · exact Or.inr (fun g hg => Nat.le_trans h.gr.size (k1 g hg))
theorem GrowS.below {w0 w w' : World} {v v' : Value} (h : GrowS w w' v v') {B : Nat} (hb : Below B w0 w) (hB : B ≤ w.heap.size) (hv : ∀ g, v.ownBlock = some g → B ≤ g) : Below B w0 w' := hb.grown h.gr hB hv
theorem GrowS.block {w w' : World} {v v' : Value} (h : GrowS w w' v v') {b : Nat} (hb : b < w.heap.size) (hne : v.ownBlock ≠ some b) : w'.heap[b]? = w.heap[b]? := h.gr.block b hb (fun e => hne e.symm)
theorem GrowS.away {w w' : World} {v v' : Value} (h : GrowS w w' v v') {b : Nat} (hb : b < w.heap.size) (hne : v.ownBlock ≠ some b) : v'.ownBlock ≠ some b := by
  intro e
  rcases h.blk with h1 | h1
  · exact hne (by rw [← h1]; exact e)
  · have := h1 b e; omega
set_option maxRecDepth 100000 in
set_option maxHeartbeats 800000 in
/-- putVar appends the digits of m to a row of the caller's own. -/
theorem putVar_gn (a : Option Addr) (n cap : Nat) (zs : List Int) (m : Nat) (B : Nat) (w : World) (h : w.ownsRow B 5 1 (.slice a n cap) n (zs.map (.int .u8))) (hz : zs.length = n) (hB : B ≤ w.heap.size) (hn : n ≤ 1099511627776) (hm : m ≤ 4611686018427387903) :
    Calls Try.prog 66 #[.slice a n cap, .int .i64 m] w fun e w' => ∃ a' n' cap', e = .returned (.slice a' n' cap') ∧ w'.ownsRow B 5 1 (.slice a' n' cap') n' ((zs ++ vdig m).map (.int .u8)) ∧ n' = n + (vdig m).length ∧ GrowS w w' (.slice a n cap) (.slice a' n' cap') := by
  obtain ⟨i0, hi, hz0, hz1, hz2⟩ := info_parts infoByteS
  have hlen := vdig_len9 hm
  have HZ := Lib.hid hz
  clear hz
  go_enter Try.func66, Try.ntmps66
  go_wp2
  go_loopw [0, 1] (fun v q wr => ∃ (a' : Option Addr) (n' cap' : Nat) (xs : List Int) (p : Nat), v = .slice a' n' cap' ∧ q = .int .i64 p ∧ p ≤ m ∧ wr.ownsRow B 5 1 (.slice a' n' cap') n' (xs.map (.int .u8)) ∧ xs.length = n' ∧ Hid (xs ++ vdig p = zs ++ vdig m) ∧ n' + (vdig p).length ≤ n + (vdig m).length ∧ GrowS w wr (.slice a n cap) (.slice a' n' cap')) (fun _ q _ => (intOf q).toNat)
  case atStart => exact ⟨a, n, cap, zs, m, rfl, rfl, Nat.le_refl _, h, HZ.out, rfl, Nat.le_refl _, GrowS.refl _ _⟩
  case round =>
    obtain ⟨a', n', cap', xs, p, rfl, rfl, hp, ho, hx, he, hl, hb⟩ := hrel
    have HX := Lib.hid hx
    clear hx h
    have hbz := hb.gr.size
    by_cases hlt : p < 128
    · have HV := Lib.hid (vdig_lt hlt)
      go_wp2_with (at_builtin; refine app_two rfl _ _ 22 rfl B 5 Try.underlying22 hi hz0 hz1 hz2 rfl (by decide) a' n' cap' (xs.map (.int .u8)) rfl (ho.alloc _) ⟨wr.heap.size, 0, none⟩ 1 1 [.int .u8 (p : Int)] rfl rfl (fun j u hu => one_news _ _ _ _ rfl j u hu) (int_one _ _) (by decide) ?c4 ?c5 ?c6 ?_)
      case c4 => unfold maxLen; omega
      case c5 => omega
      case c6 => simp; omega
      intro A C w2 ho2 hg2 hk2
      have hb2 : GrowS wr w2 (.slice a' n' cap') (.slice A (n' + 1) C) := (GrowS.alloc wr _ _).trans ⟨hg2, by rw [World.size_alloc]; exact hk2⟩
      go_wp2
      go_ret
      refine ⟨A, n' + 1, C, rfl, ?_, ?_, hb.trans hb2⟩
      · rw [← he.out, HV.out, List.map_append]; exact ho2
      · have := congrArg List.length he.out
        simp only [List.length_append, HV.out, HX.out, HZ.out, List.length_cons, List.length_nil] at this
        omega
    · have HV := Lib.hid (vdig_ge hlt)
      have hlen2 : (vdig p).length = 1 + (vdig (p / 128)).length := by rw [HV.out]; simp; omega
      have HL2 := Lib.hid hlen2
      clear hlen2
      have hbd : n' + 1 ≤ n + (vdig m).length := by have := HL2.out; omega
      go_wp2_with (at_builtin; refine app_two rfl _ _ 22 rfl B 5 Try.underlying22 hi hz0 hz1 hz2 rfl (by decide) a' n' cap' (xs.map (.int .u8)) rfl (ho.alloc _) ⟨wr.heap.size, 0, none⟩ 1 1 [.int .u8 ((p % 128 + 128 : Nat) : Int)] rfl rfl (fun j u hu => one_news _ _ _ _ rfl j u hu) (int_one _ _) (by decide) ?d4 ?d5 ?d6 ?_)
      case d4 => unfold maxLen; omega
      case d5 => omega
      case d6 => simp; omega
      intro A C w2 ho2 hg2 hk2
      have hb2 : GrowS wr w2 (.slice a' n' cap') (.slice A (n' + 1) C) := (GrowS.alloc wr _ _).trans ⟨hg2, by rw [World.size_alloc]; exact hk2⟩
      go_wp2
      go_roundw
      case rel =>
        refine ⟨A, n' + 1, C, xs ++ [((p % 128 + 128 : Nat) : Int)], p / 128, rfl, by go_num, by omega, ?_, by rw [List.length_append, HX.out]; rfl, ?_, by have := HL2.out; omega, hb.trans hb2⟩
        · rw [List.map_append]; exact ho2
        · show _ ++ _ ++ _ = _
          rw [← he.out, HV.out, List.append_assoc]; rfl
      case measure => simp [intOf]; omega

theorem putVar_g (a : Option Addr) (n cap : Nat) (zs : List Int) (x : Int) (B : Nat) (w : World) (h : w.ownsRow B 5 1 (.slice a n cap) n (zs.map (.int .u8))) (hz : zs.length = n) (hB : B ≤ w.heap.size) (hn : n ≤ 1099511627776) (hx0 : 0 ≤ x) (hx1 : x ≤ 4611686018427387903) :
    Calls Try.prog 66 #[.slice a n cap, .int .i64 x] w fun e w' => ∃ a' n' cap', e = .returned (.slice a' n' cap') ∧ w'.ownsRow B 5 1 (.slice a' n' cap') n' ((zs ++ vdig x.toNat).map (.int .u8)) ∧ n' = n + (vdig x.toNat).length ∧ GrowS w w' (.slice a n cap) (.slice a' n' cap') := by
  have e : x = ((x.toNat : Nat) : Int) := by omega
  have := putVar_gn a n cap zs x.toNat B w h hz hB hn (by omega)
  rw [← e] at this
  exact this
set_option maxRecDepth 100000 in
set_option maxHeartbeats 800000 in
theorem putZig_g (a : Option Addr) (n cap : Nat) (zs : List Int) (x : Int) (B : Nat) (w : World) (h : w.ownsRow B 5 1 (.slice a n cap) n (zs.map (.int .u8))) (hz : zs.length = n) (hB : B ≤ w.heap.size) (hn : n ≤ 1099511627776) (hx0 : -1152921504606846976 ≤ x) (hx1 : x ≤ 1152921504606846976) :
    Calls Try.prog 61 #[.slice a n cap, .int .i64 x] w fun e w' => ∃ a' n' cap', e = .returned (.slice a' n' cap') ∧ w'.ownsRow B 5 1 (.slice a' n' cap') n' ((zs ++ vdig (zigN x)).map (.int .u8)) ∧ n' = n + (vdig (zigN x)).length ∧ GrowS w w' (.slice a n cap) (.slice a' n' cap') := by
  by_cases hx : 0 ≤ x
  · have HZ := Lib.hid (zigN_pos hx)
    go_enter Try.func61, Try.ntmps61
    go_wp2_with fail
    rw [← HZ.out]
    refine (putVar_gn _ _ _ zs (zigN x) B _ h hz hB hn (by have := HZ.out; omega)).mono ?_
    rintro e w1 ⟨a1, n1, c1, rfl, ho, hn1, hb⟩
    have HN := Lib.hid hn1
    clear hn1
    go_wp2
    go_ret
    exact ⟨a1, n1, c1, rfl, ho, HN.out, hb⟩
  · have HZ := Lib.hid (zigN_neg hx)
    go_enter Try.func61, Try.ntmps61
    go_wp2_with fail
    rw [← HZ.out]
    refine (putVar_gn _ _ _ zs (zigN x) B _ h hz hB hn (by have := HZ.out; omega)).mono ?_
    rintro e w1 ⟨a1, n1, c1, rfl, ho, hn1, hb⟩
    have HN := Lib.hid hn1
    clear hn1
    go_wp2
    go_ret
    exact ⟨a1, n1, c1, rfl, ho, HN.out, hb⟩
end Go.Proofs.Ytkgalkaafocnjaa
