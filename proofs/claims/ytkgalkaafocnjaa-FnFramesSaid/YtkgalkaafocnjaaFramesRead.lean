/- FramesRead: what it computes, in the form that the laws' walks use. -/
import Derived.Test.YtkgalkaafocnjaaFrameRead
import Derived.Test.YtkgalkaafocnjaaFrameSK
import Derived.Test.YtkgalkaafocnjaaNestA
import Derived.Deep.AppendLies
namespace Go.Proofs.Ytkgalkaafocnjaa
open Go.RowKit
def framesGo (zs : List Int) : Nat → Nat → List (Int × List Int) × Int
  | 0, q => ([], (q : Int))
  | f + 1, q => if (frameReadF zs q).2.2 = 0 then ((frameReadF zs q).1 :: (framesGo zs f (frameReadF zs q).2.1.toNat).1, (framesGo zs f (frameReadF zs q).2.1.toNat).2) else ([], (q : Int))
def framesReadF (zs : List Int) : List (Int × List Int) × Int := framesGo zs (zs.length + 1) 0
theorem framesGo_stop {zs : List Int} {f q : Nat} (h : (frameReadF zs q).2.2 ≠ 0) : framesGo zs (f + 1) q = ([], (q : Int)) := by unfold framesGo; rw [if_neg h]
theorem framesGo_step {zs : List Int} {f q q' : Nat} (h : (frameReadF zs q).2.2 = 0) (hq : (frameReadF zs q).2.1 = (q' : Int)) : framesGo zs (f + 1) q = ((frameReadF zs q).1 :: (framesGo zs f q').1, (framesGo zs f q').2) := by
  show (if (frameReadF zs q).2.2 = 0 then _ else _) = _
  rw [if_pos h, hq]; rfl
theorem frameReadL_ok {l : List Int} {p : Int} (h : (frameReadL l p).2.2 = 0) : (frameReadL l p).2.1 = p + 20 + ((frameReadL l p).1.2.length : Int) ∧ 20 + (frameReadL l p).1.2.length ≤ l.length := by
  by_cases h1 : l.length < 14
  · rw [frameReadL_2 p h1] at h; simp at h
  · by_cases h2 : frBad l
    · rw [frameReadL_3 p h1 h2] at h; simp at h
    · by_cases h3 : l.length < 20 + frN l
      · rw [frameReadL_4 p h1 h2 h3] at h; simp at h
      · by_cases h4 : frS l = crcN (frD l)
        · rw [frameReadL_0 p h1 h2 h3 h4]
          simp only
          rw [frD_len (by omega)]
          exact ⟨rfl, by omega⟩
        · rw [frameReadL_5 p h1 h2 h3 h4] at h; simp at h
theorem frameReadF_ok {zs : List Int} {q : Nat} (h : (frameReadF zs q).2.2 = 0) : (frameReadF zs q).2.1 = ((q + 20 + (frameReadF zs q).1.2.length : Nat) : Int) ∧ q + 20 + (frameReadF zs q).1.2.length ≤ zs.length := by
  by_cases hq : q ≤ zs.length
  · rw [frameReadF_in zs hq] at h ⊢
    obtain ⟨h1, h2⟩ := frameReadL_ok h
    rw [List.length_drop] at h2
    exact ⟨by rw [h1]; omega, by omega⟩
  · rw [frameReadF_1 (by omega)] at h; simp at h
theorem oneFrame (x : FrameR) : ∀ u ∈ encFrame x, u.oneCell' = true := by
  intro u hu
  simp [encFrame] at hu
  rcases hu with rfl | rfl <;> rfl
theorem infoFrame : (Try.prog.info? 43).map (fun i => (i.zero, i.size, i.bytes)) = some (some (.agg #[.int .i64 0, .slice none 0 0]), 2, 32) := by kernel_rfl
theorem preFrame_snoc (xs : List FrameR) (x : FrameR) : preFrame (xs ++ [x]) (xs.length + 1) = preFrame xs xs.length + bulkFrame x := by
  unfold preFrame
  rw [List.take_of_length_le (by simp), List.take_of_length_le (Nat.le_refl _), List.map_append, List.sum_append]
  simp
/-- FramesRead's end. -/
def RetFrsK (r : List (Int × List Int) × Int) (w : World) (en : Ending) (w' : World) : Prop := ∃ y : Row FrameR, en = .returned (.tuple #[.slice y.a y.n y.c, .int .i64 r.2]) ∧ datFrameS y = r.1 ∧ OwnFrameS w.heap.size w'.heap.size w' y ∧ bulkFrameS y ≤ 1048576 ∧ Below w.heap.size w w'
/-- What holds at each round's head. -/
def FrsInv (D : List Int) (n : Nat) (w : World) (o i : Value) (wr : World) : Prop := ∃ (q f : Nat) (y : Row FrameR), q ≤ n ∧ n + 1 ≤ f + q ∧ i = .int .i64 q ∧ o = .slice y.a y.n y.c ∧ OwnFrameS w.heap.size wr.heap.size wr y ∧ bulkFrameS y ≤ q ∧ framesReadF D = (datFrameS y ++ (framesGo D f q).1, (framesGo D f q).2) ∧ Below w.heap.size w wr
theorem FrsInv.next {D : List Int} {n : Nat} {w wr w1 W0 w2 : World} {q f : Nat} {y : Row FrameR} {x : FrameR} {A2 : Option Addr} {C2 : Nat}
    (hD : D.length = n) (hN : OwnFrameS w.heap.size wr.heap.size wr y) (hq : n + 1 ≤ f + q) (hqn : q ≤ n) (hbk : bulkFrameS y ≤ q) (hfin : framesReadF D = (datFrameS y ++ (framesGo D f q).1, (framesGo D f q).2)) (hb : Below w.heap.size w wr)
    (hdf : datFrame x = (frameReadF D q).1) (hok : (frameReadF D q).2.2 = 0) (ho : OwnFrame wr.heap.size w1.heap.size w1 x) (hb1 : Below wr.heap.size wr w1) (hb2 : Below w1.heap.size w1 W0)
    (ho2 : w2.ownsRow w.heap.size 43 2 (.slice A2 (y.n + 1) C2) (y.n + 1) (y.l.flatMap encFrame ++ encFrame x)) (hg2 : W0.grownBy w2 (Value.slice y.a y.n y.c).ownBlock)
    (hnew : (Value.slice A2 (y.n + 1) C2).ownBlock = (Value.slice y.a y.n y.c).ownBlock ∨ ∀ g, (Value.slice A2 (y.n + 1) C2).ownBlock = some g → W0.heap.size ≤ g) (hn : n ≤ 1048576) :
    FrsInv D n w (.slice A2 (y.n + 1) C2) (.int .i64 ((frameReadF D q).2.1)) w2 := by
  obtain ⟨h1, h2⟩ := frameReadF_ok hok
  have hxl : x.data.length = (frameReadF D q).1.2.length := by rw [← hdf]; rfl
  have hyl := hN.nest.row.len
  have hxn := ho.row.len
  obtain ⟨f', rfl⟩ : ∃ f', f = f' + 1 := ⟨f - 1, by omega⟩
  have hbW : Below wr.heap.size wr W0 := hb1.trans (hb2.mono hb1.size)
  have hsz := hbW.size
  have hbw := hb.size
  have hinn : OwnS (encI .u8) 1 5 w.heap.size W0.heap.size W0 (slFrame x).a (slFrame x).n (slFrame x).c (slFrame x).l := ((ho.row.below hb2).lo_le hbw).grow hb2.size (Nat.le_refl _)
  have hbig := (hN.nest.below hbW).grow hsz (Nat.le_refl _)
  have hsn := hbig.snoc x A2 C2 (OwnS.of (by rw [List.flatMap_append]; simpa using ho2) (by simp; omega) (by have : y.n ≤ bulkFrameS y := Nat.le_add_right _ _; omega)) hinn hg2 hnew
    (fun g hg e => by
      have e1 := hN.nest.row.lt g e
      have e2 := (World.ownsRow.lt ho.row.own g hg).1
      omega)
    (fun i hi0 g hg e => by
      have e1 := (hN.nest.inner i hi0).lt g hg
      have e2 := (World.ownsRow.lt ho.row.own g e).1
      omega) hg2.size (Nat.le_refl _)
  refine ⟨q + 20 + (frameReadF D q).1.2.length, f', ⟨A2, y.n + 1, C2, y.l ++ [x]⟩, by omega, by omega, by rw [h1], rfl, ⟨hsn⟩, ?_, ?_, ?_⟩
  · have hs := preFrame_snoc y.l x
    unfold bulkFrameS at hbk ⊢
    simp only
    rw [List.length_append]
    simp only [List.length_cons, List.length_nil, Nat.zero_add]
    rw [hs]
    unfold bulkFrame
    omega
  · rw [hfin, framesGo_step hok h1]
    unfold datFrameS
    simp only [List.map_append, List.map_cons, List.map_nil, hdf, List.append_assoc, List.cons_append, List.nil_append]
  · exact (hb.trans (hbW.mono hbw)).grown hg2 (by omega) (fun k hk => by
      exact (World.ownsRow.lt hN.nest.row.own k hk).1)
set_option maxRecDepth 100000 in
set_option maxHeartbeats 1600000 in
theorem framesRead_impl_k (y : Row Int) (D : List Int) (hD : datByteS y = D) (w : World) (g : rdByteS w y) (o : ∀ z ∈ D, In8 z) (hn : bulkByteS y ≤ 1048576) :
    Calls Try.prog 43 #[.slice y.a y.n y.c] w fun e w' => RetFrsK (framesReadF D) w e w' := by
  have hn' : y.n ≤ 1048576 := hn
  have HN := Lib.hid hn
  have HL : Hid (D.length = y.n) := Lib.hid (by subst hD; exact g.len)
  have HD := Lib.hid hD
  obtain ⟨j0, ji, jz0, jz1, jz2⟩ := info_parts infoFrame
  clear hD hn
  go_enter Try.func43, Try.ntmps43
  go_wp2
  go_loopw [4, 5] (fun o i wr => FrsInv D y.n w o i wr) (fun _ i _ => y.n - (intOf i).toNat)
  case atStart =>
    exact ⟨0, y.n + 1, ⟨none, 0, 0, []⟩, by omega, by omega, rfl, rfl, ⟨OwnN.nil _ _ _ _ _ _ _ _ _⟩, Nat.le_refl _, by unfold framesReadF; rw [HL.out]; simp [datFrameS], Below.refl _ _⟩
  case round =>
    obtain ⟨q, f, ⟨A, r, C, xs⟩, hq, hf, rfl, rfl, hN, hbk, hfin, hb⟩ := hrel
    have HFIN := Lib.hid hfin
    have HNN := Lib.hid hN
    have HBK := Lib.hid hbk
    have hrn : r ≤ q := by unfold bulkFrameS at hbk; simp only at hbk; omega
    clear hfin hN hbk
    simp only
    go_wp2_with fail
    refine (frameRead_impl_k y D HD.out q _ (rdByteS_below g hb (Nat.le_refl _)) o (by unfold In64; omega) HN.out).mono ?_
    rintro e w1 ⟨⟨fk, fa, fn, fc, fd⟩, rfl, hdf, ho, hbk1, hb1⟩
    have HDF := Lib.hid hdf
    have HO := Lib.hid ho
    clear hdf ho hbk1
    simp only
    by_cases c1 : (frameReadF D q).2.2 = 0
    · have HC := Lib.hid c1
      have hok := frameReadF_ok c1
      have HQ := Lib.hid hok.1
      have i1 : ((frameReadF D q).2.2 != 0) = false := by simp [c1]
      have hle2 := hok.2
      rw [HL.out] at hle2
      clear c1 hok
      have hbW : Below w1.heap.size w1 ((w1.alloc (.cells #[.int .i64 fk, .slice fa fn fc] 43)).alloc (.cells #[.int .i64 fk, .slice fa fn fc] 43)) := ((Below.refl _ _).alloc (Nat.le_refl _) _).alloc (by simp) _
      have hbWr := hb1.trans (hbW.mono hb1.size)
      have hsz1 := hb1.size
      have hsz0 := hb.size
      go_wp2_with (at_builtin; refine app_two rfl _ _ 50 rfl w.heap.size 43 Try.underlying50 ji jz0 jz1 jz2 rfl (by decide) A r C (xs.flatMap encFrame) rfl ((HNN.out.nest.row.below hbWr).own) ⟨w1.heap.size + 1, 0, none⟩ 1 1 (encFrame ⟨fk, fa, fn, fc, fd⟩) rfl rfl ?c1 (oneFrame _) (by decide) ?c2 ?c3 ?c4 ?_)
      case c1 =>
        have h9 := heap_alloc_new (w1.alloc (.cells #[.int .i64 fk, .slice fa fn fc] 43)) (.cells #[.int .i64 fk, .slice fa fn fc] 43)
        rw [World.size_alloc] at h9
        exact World.news_of_block h9
      case c2 => unfold maxLen; omega
      case c3 => omega
      case c4 => simp; omega
      intro A2 C2 w2 ho2 hg2 hnew2
      have HNX := Lib.hid (FrsInv.next HL.out HNN.out hf hq HBK.out HFIN.out hb HDF.out HC.out HO.out hb1 hbW ho2 hg2 (by simpa using hnew2) hn')
      clear ho2 hg2 hnew2 hbW hbWr
      generalize hnx : (frameReadF D q).2.1 = nx at *
      have HX := Lib.hid hnx
      clear hnx
      go_wp2
      go_roundw
      case rel => exact HNX.out
      case measure => rw [HQ.out]; simp [intOf]; omega
    · have i1 : ((frameReadF D q).2.2 != 0) = true := by simp [c1]
      obtain ⟨f', rfl⟩ : ∃ f', f = f' + 1 := ⟨f - 1, by omega⟩
      have HST := Lib.hid (framesGo_stop (f := f') c1)
      clear c1
      go_wp2
      go_ret2
      refine ⟨⟨A, r, C, xs⟩, by rw [HFIN.out, HST.out]; rfl, by rw [HFIN.out, HST.out]; simp, ?_, by have := HBK.out; omega, (hb.trans (hb1.mono hb.size)).alloc (by have := hb1.size; have := hb.size; omega) _⟩
      have hbA := hb1.trans (((Below.refl w1.heap.size w1).alloc (Nat.le_refl _) (.cells #[.int .i64 fk, .slice fa fn fc] 43)).mono hb1.size)
      exact ⟨(HNN.out.nest.below hbA).grow hbA.size (Nat.le_refl _)⟩
set_option maxRecDepth 100000 in
set_option maxHeartbeats 1600000 in
theorem framesRead_spec_k (y : Row Int) (D : List Int) (hD : datByteS y = D) (w : World) (g : rdByteS w y) (o : ∀ z ∈ D, In8 z) (hn : bulkByteS y ≤ 1048576) :
    Calls Try.prog 42 #[.slice y.a y.n y.c] w fun e w' => RetFrsK (framesReadF D) w e w' := by
  have hn' : y.n ≤ 1048576 := hn
  have HN := Lib.hid hn
  have HL : Hid (D.length = y.n) := Lib.hid (by subst hD; exact g.len)
  have HD := Lib.hid hD
  obtain ⟨j0, ji, jz0, jz1, jz2⟩ := info_parts infoFrame
  clear hD hn
  go_enter Try.func42, Try.ntmps42
  go_wp2
  go_loopw [4, 5] (fun o i wr => FrsInv D y.n w o i wr) (fun _ i _ => y.n - (intOf i).toNat)
  case atStart =>
    refine ⟨0, y.n + 1, ⟨some ⟨w.heap.size, 0, none⟩, 0, 0, []⟩, by omega, by omega, rfl, rfl, ⟨⟨OwnS.of (World.ownsRow_lit w #[] 0 (Nat.le_refl _) (by unfold maxLen; omega) rfl) rfl (Nat.zero_le _), fun i hi => absurd hi (by simp), fun i hi => absurd hi (by simp), fun i i' hi => absurd hi (by simp)⟩⟩, Nat.le_refl _, by unfold framesReadF; rw [HL.out]; simp [datFrameS], (Below.refl _ _).alloc (Nat.le_refl _) _⟩
  case round =>
    obtain ⟨q, f, ⟨A, r, C, xs⟩, hq, hf, rfl, rfl, hN, hbk, hfin, hb⟩ := hrel
    have HFIN := Lib.hid hfin
    have HNN := Lib.hid hN
    have HBK := Lib.hid hbk
    have hrn : r ≤ q := by unfold bulkFrameS at hbk; simp only at hbk; omega
    clear hfin hN hbk
    simp only
    go_wp2_with fail
    refine (frameRead_spec_k y D HD.out q _ (rdByteS_below g hb (Nat.le_refl _)) o (by unfold In64; omega) HN.out).mono ?_
    rintro e w1 ⟨⟨fk, fa, fn, fc, fd⟩, rfl, hdf, ho, hbk1, hb1⟩
    have HDF := Lib.hid hdf
    have HO := Lib.hid ho
    clear hdf ho hbk1
    simp only
    by_cases c1 : (frameReadF D q).2.2 = 0
    · have HC := Lib.hid c1
      have hok := frameReadF_ok c1
      have HQ := Lib.hid hok.1
      have i1 : ((frameReadF D q).2.2 != 0) = false := by simp [c1]
      have hle2 := hok.2
      rw [HL.out] at hle2
      clear c1 hok
      have hbW : Below w1.heap.size w1 ((w1.alloc (.cells #[.int .i64 fk, .slice fa fn fc] 43)).alloc (.cells #[.int .i64 fk, .slice fa fn fc] 43)) := ((Below.refl _ _).alloc (Nat.le_refl _) _).alloc (by simp) _
      have hbWr := hb1.trans (hbW.mono hb1.size)
      have hsz1 := hb1.size
      have hsz0 := hb.size
      go_wp2_with (at_builtin; refine app_two rfl _ _ 50 rfl w.heap.size 43 Try.underlying50 ji jz0 jz1 jz2 rfl (by decide) A r C (xs.flatMap encFrame) rfl ((HNN.out.nest.row.below hbWr).own) ⟨w1.heap.size + 1, 0, none⟩ 1 1 (encFrame ⟨fk, fa, fn, fc, fd⟩) rfl rfl ?c1 (oneFrame _) (by decide) ?c2 ?c3 ?c4 ?_)
      case c1 =>
        have h9 := heap_alloc_new (w1.alloc (.cells #[.int .i64 fk, .slice fa fn fc] 43)) (.cells #[.int .i64 fk, .slice fa fn fc] 43)
        rw [World.size_alloc] at h9
        exact World.news_of_block h9
      case c2 => unfold maxLen; omega
      case c3 => omega
      case c4 => simp; omega
      intro A2 C2 w2 ho2 hg2 hnew2
      have HNX := Lib.hid (FrsInv.next HL.out HNN.out hf hq HBK.out HFIN.out hb HDF.out HC.out HO.out hb1 hbW ho2 hg2 (by simpa using hnew2) hn')
      clear ho2 hg2 hnew2 hbW hbWr
      generalize hnx : (frameReadF D q).2.1 = nx at *
      have HX := Lib.hid hnx
      clear hnx
      go_wp2
      go_roundw
      case rel => exact HNX.out
      case measure => rw [HQ.out]; simp [intOf]; omega
    · have i1 : ((frameReadF D q).2.2 != 0) = true := by simp [c1]
      obtain ⟨f', rfl⟩ : ∃ f', f = f' + 1 := ⟨f - 1, by omega⟩
      have HST := Lib.hid (framesGo_stop (f := f') c1)
      clear c1
      go_wp2
      go_ret2
      refine ⟨⟨A, r, C, xs⟩, by rw [HFIN.out, HST.out]; rfl, by rw [HFIN.out, HST.out]; simp, ?_, by have := HBK.out; omega, (hb.trans (hb1.mono hb.size)).alloc (by have := hb1.size; have := hb.size; omega) _⟩
      have hbA := hb1.trans (((Below.refl w1.heap.size w1).alloc (Nat.le_refl _) (.cells #[.int .i64 fk, .slice fa fn fc] 43)).mono hb1.size)
      exact ⟨(HNN.out.nest.below hbA).grow hbA.size (Nat.le_refl _)⟩
end Go.Proofs.Ytkgalkaafocnjaa
