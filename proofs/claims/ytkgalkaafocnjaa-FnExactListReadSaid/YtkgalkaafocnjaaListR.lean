/- ListRead of the program and of the reference: what they compute. -/
import Derived.Test.YtkgalkaafocnjaaReader
import Derived.Test.YtkgalkaafocnjaaIntS
namespace Go.Proofs.Ytkgalkaafocnjaa
open Go.RowKit
def fixes (zs : List Int) (p n : Nat) : List Int := (List.range n).map fun i : Nat => ((fixN ((zs.drop (p + 6 * i)).take 6) : Nat) : Int)
theorem fixes_len (zs : List Int) (p n : Nat) : (fixes zs p n).length = n := by simp [fixes]
theorem fixes_snoc (zs : List Int) (p n : Nat) : fixes zs p (n + 1) = fixes zs p n ++ [((fixN ((zs.drop (p + 6 * n)).take 6) : Nat) : Int)] := by simp [fixes, List.range_succ]
def listReadF (zs : List Int) (p : Int) : List Int × Int × Bool :=
  if (getVarF zs p).2.2 = true ∧ (getVarF zs p).1 ≤ 400 ∧ (getVarF zs p).2.1 + 6 * (getVarF zs p).1 ≤ zs.length then
    (fixes zs (getVarF zs p).2.1.toNat (getVarF zs p).1.toNat, (getVarF zs p).2.1 + 6 * (getVarF zs p).1, true) else ([], 0, false)
theorem listReadF_no {zs : List Int} {p : Int} (h : ¬ ((getVarF zs p).2.2 = true ∧ (getVarF zs p).1 ≤ 400 ∧ (getVarF zs p).2.1 + 6 * (getVarF zs p).1 ≤ zs.length)) : listReadF zs p = ([], 0, false) := if_neg h
theorem listReadF_yes {zs : List Int} {p : Int} {N M : Nat} (h1 : (getVarF zs p).2.2 = true) (hN : (getVarF zs p).1 = (N : Int)) (hM : (getVarF zs p).2.1 = (M : Int)) (h2 : N ≤ 400) (h3 : M + 6 * N ≤ zs.length) : listReadF zs p = (fixes zs M N, (M : Int) + 6 * (N : Int), true) := by
  unfold listReadF
  rw [hN, hM, if_pos ⟨h1, by omega, by omega⟩, Int.toNat_natCast, Int.toNat_natCast]
/-- list's end. -/
def RetList (R : Nat) (a : Option Addr) (n cap : Nat) (zs : List Int) (p : Int) (w : World) (en : Ending) (w' : World) : Prop :=
  ∃ (a' : Option Addr) (n' c' : Nat) (xs : List Int) (p' : Int) (ok : Bool), en = .returned (.slice a' n' c') ∧ Rdr w' R a n cap p' ok ∧ OwnI .i64 3 w.heap.size w'.heap.size w' a' n' c' xs ∧ listReadF zs p = (if ok then (xs, p', true) else ([], 0, false)) ∧ Win R (R + 1) w w'
theorem infoInt : (Try.prog.info? 3).map (fun i => (i.zero, i.size, i.bytes)) = some (some (.int .i64 0), 1, 8) := by kernel_rfl

set_option maxRecDepth 100000 in
set_option maxHeartbeats 1600000 in
theorem list_any (R : Nat) (a : Option Addr) (n cap : Nat) (zs : List Int) (p : Int) (w0 w : World) (h : Rd (encI .u8) 1 w0 a n cap zs) (hb0 : Below w0.heap.size w0 w) (hw0 : w0.heap.size ≤ R) (hR : Rdr w R a n cap p true) (g0 : ∀ y ∈ zs, In8 y) (g1 : In64 p) (hn : n ≤ 4611686018427387904) :
    Calls Try.prog 70 #[.pointer (some ⟨R, 0, none⟩)] w fun e w' => RetList R a n cap zs p w e w' := by
  obtain ⟨i0, hi, hz0, hz1, hz2⟩ := info_parts infoInt
  have HR := Lib.hid hR
  have hRlt := hR.lt
  clear hR
  cases ho : (getVarF zs p).2.2 with
  | false =>
    have HN := Lib.hid (numF_no (ok := true) ho)
    have HF := Lib.hid (listReadF_no (zs := zs) (p := p) (by rw [ho]; simp))
    go_enter Try.func70, Try.ntmps70
    go_wp2_with fail
    refine (num_any R a n cap zs p true w0 _ h hb0 HR.out g0 g1 hn).mono ?_
    rintro e w1 ⟨rfl, hr1, hw1⟩
    rw [HN.out] at hr1 ⊢
    have HR1 := Lib.hid hr1
    obtain ⟨d0, d1, d2, e1, e2⟩ := hr1
    go_wp2
    refine wp_loop_rounds 1 ?_
    rw [rounds_succ]
    go_wp2
    go_ret
    exact ⟨none, 0, 0, [], p, false, rfl, HR1.out, OwnI.nil _ _ _ _, HF.out, hw1⟩
  | true =>
    obtain ⟨b0, b1, b2, b3, b4⟩ := getVarF_ok ho
    have HN := Lib.hid (numF_yes (ok := true) ho)
    have hlz : (zs.length : Int) ≤ 4611686018427387904 := by have := h.len; omega
    obtain ⟨N, hN⟩ := Int.eq_ofNat_of_zero_le b0
    obtain ⟨M, hM⟩ : ∃ M : Nat, (getVarF zs p).2.1 = (M : Int) := Int.eq_ofNat_of_zero_le (by omega)
    rw [hN] at b1
    rw [hM] at b3 b4
    by_cases h4 : N ≤ 400
    · have HNN := Lib.hid hN
      have HMM := Lib.hid hM
      have HO := Lib.hid ho
      clear hN hM ho
      have hwB : ∀ w', Win R (R + 1) w w' → Below w0.heap.size w0 w' := fun w' hh => hb0.trans (hh.below hw0 hb0.size)
      have HWB := Lib.hid hwB
      clear hwB
      go_enter Try.func70, Try.ntmps70
      go_wp2_with fail
      refine (num_any R a n cap zs p true w0 _ h hb0 HR.out g0 g1 hn).mono ?_
      rintro e w1 ⟨rfl, hr1, hw1⟩
      rw [HN.out, HNN.out] at hr1 ⊢
      rw [HMM.out] at hr1
      have HR1 := Lib.hid hr1
      have hlt1 := hr1.lt
      clear hr1
      go_wp2
      go_loopw [4, 5] (fun v i wr => ∃ (k : Nat) (a' : Option Addr) (c' : Nat) (xs : List Int) (q : Int) (ok : Bool), k ≤ N ∧ i = .int .i64 k ∧ v = .slice a' k c' ∧ Rdr wr R a n cap q ok ∧ OwnI .i64 3 w.heap.size wr.heap.size wr a' k c' xs ∧ Hid (if ok then q = (M : Int) + 6 * (k : Int) ∧ xs = fixes zs M k ∧ M + 6 * k ≤ zs.length else zs.length < M + 6 * N) ∧ Win R (R + 1) w wr) (fun _ i _ => N - (intOf i).toNat)
      case atStart => exact ⟨0, none, 0, [], (M : Int), true, Nat.zero_le _, rfl, rfl, HR1.out, OwnI.nil _ _ _ _, by show (M : Int) = _ ∧ _ ∧ _; exact ⟨by simp, rfl, by omega⟩, hw1⟩
      case round =>
        obtain ⟨k, a', c', xs, q, ok, hk, rfl, rfl, hr, ho, hok, hw⟩ := hrel
        have hrlt := hr.lt
        have hsz := hw.size
        have HRR := Lib.hid hr
        obtain ⟨d0, d1, d2, e1, e2⟩ := hr
        cases ok with
        | false =>
          have hov : zs.length < M + 6 * N := hok.out
          have HF := Lib.hid (listReadF_no (zs := zs) (p := p) (by rw [HNN.out, HMM.out]; omega))
          by_cases hkN : k < N
          · go_wp2
            go_ret
            exact ⟨a', k, c', xs, q, false, rfl, HRR.out, ho, HF.out, hw⟩
          · go_wp2
            go_ret
            exact ⟨a', k, c', xs, q, false, rfl, HRR.out, ho, HF.out, hw⟩
        | true =>
          obtain ⟨hq, hxs, hin⟩ : q = (M : Int) + 6 * (k : Int) ∧ xs = fixes zs M k ∧ M + 6 * k ≤ zs.length := hok.out
          have HQ := Lib.hid hq
          have HXS := Lib.hid hxs
          clear hxs hok
          have hqin : In64 q := by unfold In64; omega
          have hq0 : 0 ≤ q := by omega
          have hql : q ≤ zs.length := by omega
          clear hq
          by_cases hkN : k < N
          · have hfin : ∀ (v : Int) (w2 : World) (A : Option Addr) (C : Nat) (w3 : World), Win R (R + 1) wr w2 → w3.ownsRow w.heap.size 3 1 (.slice A (k + 1) C) (k + 1) (xs.map (.int .i64) ++ [.int .i64 v]) → Below w.heap.size w2 w3 → OwnI .i64 3 w.heap.size w3.heap.size w3 A (k + 1) C (xs ++ [v]) ∧ Win R (R + 1) w w3 := by
              intro v w2 A C w3 hw2 ho3 hb3
              exact ⟨OwnI.of (by rw [List.map_append]; exact ho3) (by rw [List.length_append, ho.len]; rfl) (by omega), (hw.trans hw2).then_below hb3⟩
            have HFIN := Lib.hid hfin
            clear hfin
            cases hg : (getFixF zs q).2 with
            | true =>
              have HFX := Lib.hid (fixF_yes (ok := true) hg)
              obtain ⟨_, hq6⟩ := getFixF_ok hg
              have hm6 : M + 6 * k + 6 ≤ zs.length := by have := HQ.out; omega
              have hv : (getFixF zs q).1 = ((fixN ((zs.drop (M + 6 * k)).take 6) : Nat) : Int) := by
                rw [show q = ((M + 6 * k : Nat) : Int) from by have := HQ.out; omega, getFixF_yes zs hm6]
              have HV := Lib.hid hv
              obtain ⟨V, hVV⟩ : ∃ V, V = (getFixF zs q).1 := ⟨_, rfl⟩
              rw [← hVV] at HFX
              have HVV := Lib.hid hVV
              clear hv hg hVV
              go_wp2_with fail
              refine (fix_any R a n cap zs q true w0 _ h (HWB.out _ hw) HRR.out g0 hqin hn).mono ?_
              rintro e w2 ⟨rfl, hr2, hw2⟩
              rw [HFX.out] at hr2 ⊢
              have ho2 := ho.win hw2 (by omega)
              have HR2 := Lib.hid hr2
              have hsz2 := hw2.size
              clear hr2 d0 d1 d2 e1 e2
              go_wp2_with (at_builtin; refine app_any rfl _ _ 31 rfl w.heap.size 3 Try.underlying31 hi hz0 hz1 hz2 rfl (by decide) a' k c' (xs.map (.int .i64)) rfl (ho2.own.alloc _) (some ⟨w2.heap.size, 0, none⟩) 1 1 [.int .i64 V] rfl rfl (one_news _ _ _) (fun hh => by cases hh) (int_one _ _) ?c4 ?c5 ?c6 ?_)
              case c4 => unfold maxLen; omega
              case c5 => omega
              case c6 => first | omega | (simp; omega)
              intro A C w3 ho3 hb3
              have hba : Below w.heap.size w2 w3 := ((Below.refl _ _).alloc (by omega) _).trans hb3
              have HE := Lib.hid (HFIN.out V w2 A C w3 hw2 ho3 hba)
              have HR3 := Lib.hid (HR2.out.belowB hba hRlt)
              obtain ⟨k0, k1, k2, _, _⟩ := HR3.out
              go_wp2
              go_roundw
              case rel =>
                refine ⟨k + 1, A, C, xs ++ [V], q + 6, true, by omega, by go_num, rfl, HR3.out, HE.out.1, ?_, HE.out.2⟩
                show _ ∧ _ ∧ _
                exact ⟨by have := HQ.out; omega, by rw [fixes_snoc, HXS.out, HVV.out, HV.out], by omega⟩
              case measure => simp [intOf]; omega
            | false =>
              have HFX := Lib.hid (fixF_no (ok := true) hg)
              have hlt6 : zs.length < M + 6 * N := by
                rcases Nat.lt_or_ge zs.length (M + 6 * N) with hh | hh
                · exact hh
                · exfalso
                  rw [show q = ((M + 6 * k : Nat) : Int) from by have := HQ.out; omega, getFixF_yes zs (by omega)] at hg
                  cases hg
              clear hg
              go_wp2_with fail
              refine (fix_any R a n cap zs q true w0 _ h (HWB.out _ hw) HRR.out g0 hqin hn).mono ?_
              rintro e w2 ⟨rfl, hr2, hw2⟩
              rw [HFX.out] at hr2 ⊢
              have ho2 := ho.win hw2 (by omega)
              have HR2 := Lib.hid hr2
              have hsz2 := hw2.size
              clear hr2 d0 d1 d2 e1 e2
              go_wp2_with (at_builtin; refine app_any rfl _ _ 31 rfl w.heap.size 3 Try.underlying31 hi hz0 hz1 hz2 rfl (by decide) a' k c' (xs.map (.int .i64)) rfl (ho2.own.alloc _) (some ⟨w2.heap.size, 0, none⟩) 1 1 [.int .i64 0] rfl rfl (one_news _ _ _) (fun hh => by cases hh) (int_one _ _) ?d4 ?d5 ?d6 ?_)
              case d4 => unfold maxLen; omega
              case d5 => omega
              case d6 => first | omega | (simp; omega)
              intro A C w3 ho3 hb3
              have hba : Below w.heap.size w2 w3 := ((Below.refl _ _).alloc (by omega) _).trans hb3
              have HE := Lib.hid (HFIN.out 0 w2 A C w3 hw2 ho3 hba)
              have HR3 := Lib.hid (HR2.out.belowB hba hRlt)
              obtain ⟨k0, k1, k2, _, _⟩ := HR3.out
              go_wp2
              go_roundw
              case rel =>
                refine ⟨k + 1, A, C, xs ++ [0], q, false, by omega, by go_num, rfl, HR3.out, HE.out.1, ?_, HE.out.2⟩
                exact hlt6
              case measure => simp [intOf]; omega
          · obtain rfl : k = N := by omega
            have HF := Lib.hid (listReadF_yes (zs := zs) (p := p) HO.out HNN.out HMM.out h4 hin)
            go_wp2
            go_ret
            refine ⟨a', k, c', xs, q, true, rfl, HRR.out, ho, ?_, hw⟩
            rw [HF.out, if_pos rfl, HXS.out, HQ.out]
    · have HF := Lib.hid (listReadF_no (zs := zs) (p := p) (by rw [hN]; omega))
      have HNN := Lib.hid hN
      have HMM := Lib.hid hM
      clear hN hM ho
      go_enter Try.func70, Try.ntmps70
      go_wp2_with fail
      refine (num_any R a n cap zs p true w0 _ h hb0 HR.out g0 g1 hn).mono ?_
      rintro e w1 ⟨rfl, hr1, hw1⟩
      rw [HN.out, HNN.out] at hr1 ⊢
      have HR1 := Lib.hid hr1
      obtain ⟨d0, d1, d2, e1, e2⟩ := hr1
      go_wp2
      refine wp_loop_rounds 1 ?_
      rw [rounds_succ]
      go_wp2
      go_ret
      exact ⟨none, 0, 0, [], _, false, rfl, HR1.out.setOk false, OwnI.nil _ _ _ _, HF.out, hw1.trans (Win.set _ R 2 _ (Nat.le_refl _) (by omega))⟩

/-- ListRead's end. -/
def RetLIB (k : IntKind) (e : TypeId) (r : List Int × Int × Bool) (w : World) (en : Ending) (w' : World) : Prop := ∃ (a : Option Addr) (n cap : Nat), en = .returned (.tuple #[.slice a n cap, .int .i64 r.2.1, .bool r.2.2]) ∧ OwnI k e w.heap.size w'.heap.size w' a n cap r.1 ∧ Below w.heap.size w w'
set_option maxHeartbeats 800000 in
theorem listRead_impl (a : Option Addr) (n cap : Nat) (zs : List Int) (p : Int) (w : World) (h : Rd (encI .u8) 1 w a n cap zs) (g0 : ∀ y ∈ zs, In8 y) (g1 : In64 p) (hn : n ≤ 4611686018427387904) :
    Calls Try.prog 29 #[.slice a n cap, .int .i64 p] w fun e w' => RetLIB .i64 3 (listReadF zs p) w e w' := by
  have hb0 := (Below.refl w.heap.size w).alloc (Nat.le_refl _) (.cells #[.slice a n cap, .int .i64 p, .bool true] 79)
  have hR : Rdr (w.alloc (.cells #[.slice a n cap, .int .i64 p, .bool true] 79)) w.heap.size a n cap p true := by
    constructor <;> simp [go_sem]
  go_enter Try.func29, Try.ntmps29
  go_wp2_with fail
  refine (list_any w.heap.size a n cap zs p w _ h hb0 (Nat.le_refl _) hR g0 g1 hn).mono ?_
  rintro e w1 ⟨a1, n1, c1, xs, q, ok, rfl, hr, ho, hf, hw⟩
  have hw1 := hb0.trans (hw.below (Nat.le_refl _) (by simp))
  have HF := Lib.hid hf
  obtain ⟨d0, d1, d2, _, _⟩ := hr
  clear hf hR
  cases ok with
  | false =>
    go_wp2
    go_ret3
    rw [HF.out]
    exact ⟨none, 0, 0, rfl, OwnI.nil _ _ _ _, hw1⟩
  | true =>
    go_wp2
    go_quiet (fail)
    go_wp2
    go_ret3
    rw [HF.out]
    have hd := below_drewN (Below.refl w1.heap.size w1) nq
    exact ⟨a1, n1, c1, rfl, ((ho.lo_le (by simp)).below hd).grow hd.size (Nat.le_refl _), hw1.trans (hd.mono hw1.size)⟩

set_option maxRecDepth 100000 in
set_option maxHeartbeats 1600000 in
theorem listRead_spec (a : Option Addr) (n cap : Nat) (zs : List Int) (p : Int) (w : World) (h : Rd (encI .u8) 1 w a n cap zs) (g0 : ∀ y ∈ zs, In8 y) (g1 : In64 p) (hn : n ≤ 4611686018427387904) :
    Calls Try.prog 28 #[.slice a n cap, .int .i64 p] w fun e w' => RetLIB .i64 3 (listReadF zs p) w e w' := by
  obtain ⟨i0, hi, hz0, hz1, hz2⟩ := info_parts infoInt
  have hL := Lib.hid h.len
  cases ho : (getVarF zs p).2.2 with
  | false =>
    have HN := Lib.hid (getVarF_not ho)
    have HF := Lib.hid (listReadF_no (zs := zs) (p := p) (by rw [ho]; simp))
    clear ho
    go_enter Try.func28, Try.ntmps28
    go_wp2_with fail
    refine (getVar_spec _ _ _ zs p _ h g0 g1 hn).mono ?_
    rintro e w1 ⟨rfl, hb1⟩
    rw [HN.out]
    go_wp2
    go_ret3
    rw [HF.out]
    exact ⟨none, 0, 0, rfl, OwnI.nil _ _ _ _, hb1⟩
  | true =>
    obtain ⟨b0, b1, b2, b3, b4⟩ := getVarF_ok ho
    obtain ⟨N, hN⟩ := Int.eq_ofNat_of_zero_le b0
    obtain ⟨M, hM⟩ : ∃ M : Nat, (getVarF zs p).2.1 = (M : Int) := Int.eq_ofNat_of_zero_le (by omega)
    rw [hN] at b1
    rw [hM] at b3 b4
    have hMn : M ≤ n := by have := h.len; omega
    have HNN := Lib.hid hN
    have HMM := Lib.hid hM
    have HO := Lib.hid ho
    clear hN hM ho
    by_cases h4 : N ≤ 400
    · by_cases h5 : M + 6 * N ≤ n
      · have HF := Lib.hid (listReadF_yes (zs := zs) (p := p) HO.out HNN.out HMM.out h4 (by rw [hL.out]; exact h5))
        have h4i : (N : Int) ≤ 400 := by omega
        have h5i : 6 * (N : Int) ≤ (n : Int) - (M : Int) := by omega
        go_enter Try.func28, Try.ntmps28
        go_wp2_with fail
        refine (getVar_spec _ _ _ zs p _ h g0 g1 hn).mono ?_
        rintro e w1 ⟨rfl, hb1⟩
        rw [HO.out, HNN.out, HMM.out]
        have hsz1 := hb1.size
        go_wp2
        go_loopw [10, 8, 11] (fun v q i wr => ∃ (k : Nat) (a' : Option Addr) (c' : Nat), k ≤ N ∧ i = .int .i64 k ∧ q = .int .i64 ((M : Int) + 6 * (k : Int)) ∧ v = .slice a' k c' ∧ wr.ownsRow w.heap.size 3 1 (.slice a' k c') k ((fixes zs M k).map (.int .i64)) ∧ Below w.heap.size w wr) (fun _ _ i _ => N - (intOf i).toNat)
        case atStart => exact ⟨0, some ⟨w1.heap.size, 0, none⟩, 0, Nat.zero_le _, rfl, by go_num, by simp, own_base (World.ownsRow_lit w1 #[] 0 (Nat.le_refl _) (by unfold maxLen; omega) rfl) hsz1, hb1.alloc hsz1 _⟩
        case round =>
          obtain ⟨k, a', c', hk, rfl, rfl, rfl, ho, hb⟩ := hrel
          have hsz := hb.size
          by_cases hkN : k < N
          · have hm6 : M + 6 * k + 6 ≤ n := by omega
            have hv : getFixF zs ((M : Int) + 6 * (k : Int)) = (((fixN ((zs.drop (M + 6 * k)).take 6) : Nat) : Int), true) := by
              rw [show (M : Int) + 6 * (k : Int) = ((M + 6 * k : Nat) : Int) from by omega, getFixF_yes zs (by rw [hL.out]; exact hm6)]
            obtain ⟨V, hVV⟩ : ∃ V : Int, V = ((fixN ((zs.drop (M + 6 * k)).take 6) : Nat) : Int) := ⟨_, rfl⟩
            rw [← hVV] at hv
            have HV := Lib.hid hv
            have HVV := Lib.hid hVV
            clear hv hVV
            obtain ⟨XS, hXS⟩ : ∃ XS, XS = (fixes zs M k).map (Value.int .i64) := ⟨_, rfl⟩
            rw [← hXS] at ho
            have HXS := Lib.hid hXS
            clear hXS
            go_wp2_with fail
            refine (getFix_spec _ _ _ _ zs _ (h.below hb (Nat.le_refl _)) g0 (by unfold In64; omega)).mono ?_
            rintro e w2 ⟨rfl, hb2⟩
            rw [HV.out]
            have ho2 := own_below ho hb2 (Nat.le_refl _)
            have hsz2 := hb2.size
            go_wp2_with (at_builtin; refine app_any rfl _ _ 31 rfl w.heap.size 3 Try.underlying31 hi hz0 hz1 hz2 rfl (by decide) a' k c' XS rfl (ho2.alloc _) (some ⟨w2.heap.size, 0, none⟩) 1 1 [.int .i64 V] rfl rfl (one_news _ _ _) (fun hh => by cases hh) (int_one _ _) ?c4 ?c5 ?c6 ?_)
            case c4 => unfold maxLen; omega
            case c5 => omega
            case c6 => first | omega | (simp; omega)
            intro A C w3 ho3 hb3
            have hba : Below w.heap.size w2 w3 := ((Below.refl _ _).alloc (by omega) _).trans hb3
            go_wp2
            go_roundw
            case rel => exact ⟨k + 1, A, C, by omega, by go_num, by go_num, rfl, by rw [fixes_snoc, List.map_append, ← HXS.out, ← HVV.out]; exact ho3, (hb.trans (hb2.mono hsz)).trans hba⟩
            case measure => simp [intOf]; omega
          · obtain rfl : k = N := by omega
            go_wp2
            go_ret3
            rw [HF.out]
            exact ⟨a', k, c', rfl, OwnI.of ho (fixes_len _ _ _) (by omega), hb⟩
      · have HF := Lib.hid (listReadF_no (zs := zs) (p := p) (by rw [HNN.out, HMM.out, hL.out]; omega))
        have h4i : (N : Int) ≤ 400 := by omega
        have h5i : (n : Int) - (M : Int) < 6 * (N : Int) := by omega
        clear h5
        go_enter Try.func28, Try.ntmps28
        go_wp2_with fail
        refine (getVar_spec _ _ _ zs p _ h g0 g1 hn).mono ?_
        rintro e w1 ⟨rfl, hb1⟩
        rw [HO.out, HNN.out, HMM.out]
        go_wp2
        go_ret3
        rw [HF.out]
        exact ⟨none, 0, 0, rfl, OwnI.nil _ _ _ _, hb1⟩
    · have HF := Lib.hid (listReadF_no (zs := zs) (p := p) (by rw [HNN.out]; omega))
      have h4i : (400 : Int) < (N : Int) := by omega
      clear h4
      go_enter Try.func28, Try.ntmps28
      go_wp2_with fail
      refine (getVar_spec _ _ _ zs p _ h g0 g1 hn).mono ?_
      rintro e w1 ⟨rfl, hb1⟩
      rw [HO.out, HNN.out, HMM.out]
      go_wp2
      go_ret3
      rw [HF.out]
      exact ⟨none, 0, 0, rfl, OwnI.nil _ _ _ _, hb1⟩
end Go.Proofs.Ytkgalkaafocnjaa
