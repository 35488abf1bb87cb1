/- Whether an operation fits, and doing it: in the program, over a map. -/
import Derived.Test.YtoodlmhnemamhaaDiskI
import Derived.Test.YtoodlmhnemamhaaDiskM
namespace Go.Proofs.Ytoodlmhnemamhaa
open Go.RowKit Go.Maps Go.WideMaps
theorem hzd0 : heldR (.slice Option.none 0 0) = some (.held (.slice Option.none 0 0), []) := rfl
set_option maxRecDepth 100000 in
set_option maxHeartbeats 3200000 in
theorem fits_any (b n : Nat) (M : List (ByteArray × Row Int)) (o : FsOpR) (w : World) (h : FM w b n M) (hs : strFsOp o) :
    Calls Try.prog 59 #[.map (some b), .agg #[.int .i64 o.kind, .string o.name, .string o.dst, .slice o.dataA o.dataN o.dataC]] w fun e w' => e = .returned (.bool (fitsB (datM M) (datFsOp o))) ∧ Below w.heap.size w w' := by
  have hb0 := (Below.refl w.heap.size w).alloc (Nat.le_refl _) (.cells #[.int .i64 o.kind, .string o.name, .string o.dst, .slice o.dataA o.dataN o.dataC] 27)
  have HF0 := Lib.hid (h.later hb0)
  have HK := Lib.hid (keyS hs.1)
  have hse := toList_eqN o.dst o.name
  have HX0 := Lib.hid (show ∀ q, hasF M o.name = q → fitsB (datM M) (datFsOp o) = if o.kind = 1 then q || decide (M.length < 12) else if o.kind = 3 then q && !eqN o.dst o.name else q from fun q hq => by
    unfold fitsB datFsOp datM
    simp only
    rw [has_snd, hq, List.length_map])
  have HM := Lib.hid (mapD_has M o.name)
  have HZ := Lib.hid (mapD_size M)
  have BB := hb0
  clear h hs
  go_enter Try.func59, Try.ntmps59
  go_wp2_with (first
    | (at_lookup; refine wpList_lookup_own_ok _ rfl _ _ 77 rfl 9 22 lawS Try.underlying77 heldR (zeroSl _) (.held (.slice Option.none 0 0)) [] hzd0 b n (mapD M) rfl HF0.out.own _ _ rfl HK.out ?_)
    | fail)
  intro v ps hv
  rw [HM.out]
  obtain ⟨q, hq⟩ : ∃ q, hasF M o.name = q := ⟨_, rfl⟩
  have HX := Lib.hid (HX0.out q hq)
  rw [hq]
  clear hq HX0 hv HM
  obtain ⟨ok, onm, odst, oA, oN, oC, oL⟩ := o
  simp only at hse HX hb0 BB HF0 ⊢
  by_cases h1 : ok = 1
  · subst h1
    cases q with
    | true => 
      have HY : Hid (fitsB (datM M) (datFsOp ⟨1, onm, odst, oA, oN, oC, oL⟩) = true) := Lib.hid (by rw [HX.out]; simp)
      go_wp2; go_ret; exact ⟨by rw [HY.out] <;> rfl, BB⟩
    | false =>
      by_cases h12 : M.length < 12
      · have HY : Hid (fitsB (datM M) (datFsOp ⟨1, onm, odst, oA, oN, oC, oL⟩) = true) := Lib.hid (by rw [HX.out]; simp [h12])
        have h12i : ((M.length : Nat) : Int) < 12 := by omega
        have hlen := fun ty => HF0.out.own.len (e := 22) Try.underlying77 ty
        rw [HZ.out] at hlen
        go_wp2; go_ret; exact ⟨by rw [HY.out] <;> rfl, BB⟩
      · have HY : Hid (fitsB (datM M) (datFsOp ⟨1, onm, odst, oA, oN, oC, oL⟩) = false) := Lib.hid (by rw [HX.out]; simp [h12])
        have h12i : ¬ ((M.length : Nat) : Int) < 12 := by omega
        have hlen := fun ty => HF0.out.own.len (e := 22) Try.underlying77 ty
        rw [HZ.out] at hlen
        go_wp2; go_ret; exact ⟨by rw [HY.out] <;> rfl, BB⟩
  · by_cases h3 : ok = 3
    · subst h3
      cases hq : eqN odst onm <;> rw [hq] at hse HX <;> cases q <;> (simp at HX; go_wp2; go_ret; exact ⟨by rw [HX.out] <;> rfl, BB⟩)
    · simp [h1, h3] at HX
      by_cases h2 : ok = 2
      · subst h2
        cases q <;> (go_wp2; go_ret; exact ⟨by rw [HX.out] <;> rfl, BB⟩)
      · cases q <;> (go_wp2; go_ret; exact ⟨by rw [HX.out] <;> rfl, BB⟩)
set_option maxHeartbeats 800000 in
theorem copyBytes_any (a : Option Addr) (n c : Nat) (zs : List Int) (w : World) (h : Rd (encI .u8) 1 w a n c zs) (hn : n ≤ 100000000) :
    Calls Try.prog 56 #[.slice a n c] w fun e w' => RetL .u8 5 zs w e w' := by
  obtain ⟨i0, hi, hz0, hz1, hz2⟩ := info_parts infoByte
  have hle := h.le
  have hm := h.max
  unfold maxLen at hm
  have HR := Lib.hid h
  go_enter Try.func56, Try.ntmps56
  go_wp2_with (at_builtin; refine app_any rfl _ _ 22 rfl w.heap.size 5 Try.underlying22 hi hz0 hz1 hz2 rfl (by decide) Option.none 0 0 [] rfl (World.ownsRow_nil _ _ _ _) a n c (zs.map (.int .u8)) rfl ?c1 h.news h.none (int_bytes zs) ?c2 ?c3 (Nat.le_refl _) ?_)
  case c1 => rw [List.length_map, h.len]; omega
  case c2 => unfold maxLen; omega
  case c3 => omega
  intro A2 C2 w2 ho2 hb2
  have ho3 : w2.ownsRow w.heap.size 5 1 (.slice A2 n C2) n (zs.map (.int .u8)) := by simpa using ho2
  go_wp2
  go_ret
  exact ⟨A2, n, C2, rfl, OwnS.toI (OwnS.of (by rw [flat_encI]; exact ho3) HR.out.len (by omega)), hb2⟩
end Go.Proofs.Ytoodlmhnemamhaa
