/- FsOpOk: what it computes. -/
import Derived.Test.YtoodlmhnemamhaaName
import Derived.Test.YtoodlmhnemamhaaFsOpK
namespace Go.Proofs.Ytoodlmhnemamhaa
open Go.RowKit
def opB (k : Int) (nm to : ByteArray) (n : Nat) : Bool :=
  nameB nm && (if k = 1 ∨ k = 4 then decide (to.size = 0) && decide (n = 0) else if k = 2 then decide (to.size = 0) && (decide (1 ≤ n) && decide (n ≤ 200000)) else if k = 3 then nameB to && decide (n = 0) else false)
theorem noBytes {s : ByteArray} (h : s.size = 0) : s = ⟨#[]⟩ := by
  cases s with
  | mk d =>
    have h2 : d = #[] := Array.eq_empty_of_size_eq_zero h
    rw [h2]
theorem someBytes {s : ByteArray} (h : ¬ s.size = 0) : s.toList ≠ [] := by
  intro e
  apply h
  rw [ByteArray.toList_eq] at e
  have : s.data.size = 0 := by rw [← Array.length_toList, e]; rfl
  exact this
set_option maxRecDepth 100000 in
set_option maxHeartbeats 3200000 in
theorem fsOpOk_impl (k : Int) (nm to : ByteArray) (a : Option Addr) (n cap : Nat) (zs : List Int) (w : World) (h : Rd (encI .u8) 1 w a n cap zs) (h1 : nm.size ≤ maxLen) (h2 : to.size ≤ maxLen) :
    Calls Try.prog 13 #[.agg #[.int .i64 k, .string nm, .string to, .slice a n cap]] w fun e w' => e = .returned (.bool (opB k nm to n)) ∧ Below w.heap.size w w' := by
  have hm := h.max
  have hle := h.le
  unfold maxLen at hm
  have hb0 := (Below.refl w.heap.size w).alloc (Nat.le_refl _) (.cells #[.int .i64 k, .string nm, .string to, .slice a n cap] 27)
  clear h
  cases hnm : nameB nm with
  | true =>
    have HN := Lib.hid hnm
    clear hnm
    go_enter Try.func13, Try.ntmps13
    go_wp2_with fail
    refine (nameOk_impl nm _ h1).mono ?_
    rintro e w1 ⟨rfl, hb1⟩
    rw [HN.out]
    obtain ⟨hc, hf⟩ := bcell hb1
    have c0 : w1.cell? ⟨w.heap.size, 0, none⟩ = some (.int .i64 k) := by rw [hc _ _ (by simp)]; simp [go_sem]
    have c2 : w1.cell? ⟨w.heap.size, 2, none⟩ = some (.string to) := by rw [hc _ _ (by simp)]; simp [go_sem]
    have c3 : w1.cell? ⟨w.heap.size, 3, none⟩ = some (.slice a n cap) := by rw [hc _ _ (by simp)]; simp [go_sem]
    have BB1 := hb0.trans (hb1.mono hb0.size)
    clear hc hf hb0
    by_cases k1 : k = 1
    · subst k1
      by_cases ht : to.size = 0
      · obtain rfl := noBytes ht
        clear ht
        by_cases n0 : n = 0
        · subst n0
          go_wp2
          go_ret
          exact ⟨by unfold opB; rw [HN.out]; rw [show decide ((⟨#[]⟩ : ByteArray).size = 0) = true from rfl]; simp, BB1⟩
        · have n1 : ((n : Int) == 0) = false := by simp; omega
          go_wp2
          go_ret
          exact ⟨by unfold opB; rw [HN.out]; simp [n0], BB1⟩
      · have t1 := someBytes ht
        have t2 : to.toList.isEmpty = false := by rw [Bool.eq_false_iff]; intro e; exact t1 (List.isEmpty_iff.1 e)
        have t3 : (to.toList == []) = false := by rw [beq_eq_false_iff_ne]; exact t1
        have HT := Lib.hid (decide_eq_false ht)
        clear ht
        go_wp2
        go_ret
        exact ⟨by unfold opB; rw [HN.out]; simp only [Bool.true_and, HT.out]; simp, BB1⟩
    · by_cases k4 : k = 4
      · subst k4
        by_cases ht : to.size = 0
        · obtain rfl := noBytes ht
          clear ht
          by_cases n0 : n = 0
          · subst n0
            go_wp2
            go_ret
            exact ⟨by unfold opB; rw [HN.out]; rw [show decide ((⟨#[]⟩ : ByteArray).size = 0) = true from rfl]; simp, BB1⟩
          · have n1 : ((n : Int) == 0) = false := by simp; omega
            go_wp2
            go_ret
            exact ⟨by unfold opB; rw [HN.out]; simp [n0], BB1⟩
        · have t1 := someBytes ht
          have t2 : to.toList.isEmpty = false := by rw [Bool.eq_false_iff]; intro e; exact t1 (List.isEmpty_iff.1 e)
          have t3 : (to.toList == []) = false := by rw [beq_eq_false_iff_ne]; exact t1
          have HT := Lib.hid (decide_eq_false ht)
          clear ht
          go_wp2
          go_ret
          exact ⟨by unfold opB; rw [HN.out]; simp only [Bool.true_and, HT.out]; simp, BB1⟩
      · by_cases k2 : k = 2
        · subst k2
          by_cases ht : to.size = 0
          · obtain rfl := noBytes ht
            clear ht
            by_cases n0 : 1 ≤ n
            · have n3 : (1 : Int) ≤ (n : Int) := by omega
              by_cases n2 : n ≤ 200000
              · have n4 : (n : Int) ≤ 200000 := by omega
                go_wp2
                go_ret
                exact ⟨by unfold opB; rw [HN.out]; rw [show decide ((⟨#[]⟩ : ByteArray).size = 0) = true from rfl]; simp [n0, n2], BB1⟩
              · have n4 : 200000 < (n : Int) := by omega
                go_wp2
                go_ret
                exact ⟨by unfold opB; rw [HN.out]; simp [n2] <;> omega, BB1⟩
            · obtain rfl : n = 0 := by omega
              go_wp2
              go_ret
              exact ⟨by unfold opB; rw [HN.out]; simp, BB1⟩
          · have t1 := someBytes ht
            have t2 : to.toList.isEmpty = false := by rw [Bool.eq_false_iff]; intro e; exact t1 (List.isEmpty_iff.1 e)
            have t3 : (to.toList == []) = false := by rw [beq_eq_false_iff_ne]; exact t1
            have HT := Lib.hid (decide_eq_false ht)
            clear ht
            go_wp2
            go_ret
            exact ⟨by unfold opB; rw [HN.out]; simp only [Bool.true_and, HT.out]; simp, BB1⟩
        · by_cases k3 : k = 3
          · subst k3
            cases hto : nameB to with
            | true =>
              have HTO := Lib.hid hto
              clear hto
              go_wp2_with fail
              refine (nameOk_impl to _ h2).mono ?_
              rintro e w2 ⟨rfl, hb2⟩
              rw [HTO.out]
              have c4 := cell_later hb2 c3
              have BB2 := BB1.trans (hb2.mono BB1.size)
              by_cases n0 : n = 0
              · subst n0
                go_wp2
                go_ret
                exact ⟨by unfold opB; rw [HN.out]; rw [HTO.out]; simp, BB2⟩
              · have n1 : ((n : Int) == 0) = false := by simp; omega
                go_wp2
                go_ret
                exact ⟨by unfold opB; rw [HN.out]; rw [HTO.out]; simp [n0], BB2⟩
            | false =>
              have HTO := Lib.hid hto
              clear hto
              go_wp2_with fail
              refine (nameOk_impl to _ h2).mono ?_
              rintro e w2 ⟨rfl, hb2⟩
              rw [HTO.out]
              have BB2 := BB1.trans (hb2.mono BB1.size)
              go_wp2
              go_ret
              exact ⟨by unfold opB; rw [HN.out]; rw [HTO.out]; simp, BB2⟩
          · have HK : Hid (¬ (k = 1 ∨ k = 4) ∧ ¬ k = 2 ∧ ¬ k = 3) := Lib.hid ⟨by omega, k2, k3⟩
            have b1 : (k == 1) = false := by simp [k1]
            have b2 : (k == 2) = false := by simp [k2]
            have b3 : (k == 3) = false := by simp [k3]
            have b4 : (k == 4) = false := by simp [k4]
            clear k1 k2 k3 k4
            go_wp2
            go_ret
            exact ⟨by unfold opB; rw [HN.out]; rw [if_neg HK.out.1, if_neg HK.out.2.1, if_neg HK.out.2.2]; rfl, BB1⟩
  | false =>
    have HN := Lib.hid hnm
    clear hnm
    go_enter Try.func13, Try.ntmps13
    go_wp2_with fail
    refine (nameOk_impl nm _ h1).mono ?_
    rintro e w1 ⟨rfl, hb1⟩
    rw [HN.out]
    go_wp2
    go_ret
    exact ⟨by unfold opB; rw [HN.out]; rfl, hb0.trans (hb1.mono hb0.size)⟩
theorem fsOpOk_impl_k (y : FsOpR) (D : Int × ByteArray × ByteArray × List Int) (hD : datFsOp y = D) (w : World) (g : goodFsOp w y) :
    Calls Try.prog 13 #[.agg #[.int .i64 y.kind, .string y.name, .string y.dst, .slice y.dataA y.dataN y.dataC]] w fun e w' => e = .returned (.bool (opB D.1 D.2.1 D.2.2.1 D.2.2.2.length)) ∧ Below w.heap.size w w' := by
  subst hD
  have e := fsOpOk_impl y.kind y.name y.dst y.dataA y.dataN y.dataC y.data w g.2.2.2.1 g.2.1 g.2.2.1
  rw [← g.2.2.2.1.len] at e
  have e2 : (datFsOp y).2.2.2.length = y.data.length := rfl
  rw [e2]
  rw [g.2.2.2.1.len] at e ⊢
  exact e
set_option maxRecDepth 100000 in
set_option maxHeartbeats 3200000 in
theorem fsOpOk_spec (k : Int) (nm to : ByteArray) (a : Option Addr) (n cap : Nat) (zs : List Int) (w : World) (h : Rd (encI .u8) 1 w a n cap zs) (h1 : nm.size ≤ maxLen) (h2 : to.size ≤ maxLen) :
    Calls Try.prog 11 #[.agg #[.int .i64 k, .string nm, .string to, .slice a n cap]] w fun e w' => e = .returned (.bool (opB k nm to n)) ∧ Below w.heap.size w w' := by
  have hm := h.max
  have hle := h.le
  unfold maxLen at hm
  have hb0 := (Below.refl w.heap.size w).alloc (Nat.le_refl _) (.cells #[.int .i64 k, .string nm, .string to, .slice a n cap] 27)
  clear h
  cases hnm : nameB nm with
  | true =>
    have HN := Lib.hid hnm
    clear hnm
    by_cases k1 : k = 1
    · subst k1
      by_cases ht : to.size = 0
      · obtain rfl := noBytes ht
        clear ht
        by_cases n0 : n = 0
        · subst n0
          go_enter Try.func11, Try.ntmps11
          go_wp2_with fail
          refine (nameOk_spec nm _ h1).mono ?_
          rintro e w1 ⟨rfl, hb1⟩
          rw [HN.out]
          obtain ⟨hc, hf⟩ := bcell hb1
          have c0 : w1.cell? ⟨w.heap.size, 0, none⟩ = some (.int .i64 1) := by rw [hc _ _ (by simp)]; simp [go_sem]
          have c2 : w1.cell? ⟨w.heap.size, 2, none⟩ = some (.string ⟨#[]⟩) := by rw [hc _ _ (by simp)]; simp [go_sem]
          have c3 : w1.cell? ⟨w.heap.size, 3, none⟩ = some (.slice a 0 cap) := by rw [hc _ _ (by simp)]; simp [go_sem]
          have BB1 := hb0.trans (hb1.mono hb0.size)
          clear hc hf hb0
          go_wp2
          go_ret
          exact ⟨by unfold opB; rw [HN.out]; rw [show decide ((⟨#[]⟩ : ByteArray).size = 0) = true from rfl]; simp, BB1⟩
        · have n1 : ((n : Int) == 0) = false := by simp; omega
          go_enter Try.func11, Try.ntmps11
          go_wp2_with fail
          refine (nameOk_spec nm _ h1).mono ?_
          rintro e w1 ⟨rfl, hb1⟩
          rw [HN.out]
          obtain ⟨hc, hf⟩ := bcell hb1
          have c0 : w1.cell? ⟨w.heap.size, 0, none⟩ = some (.int .i64 1) := by rw [hc _ _ (by simp)]; simp [go_sem]
          have c2 : w1.cell? ⟨w.heap.size, 2, none⟩ = some (.string ⟨#[]⟩) := by rw [hc _ _ (by simp)]; simp [go_sem]
          have c3 : w1.cell? ⟨w.heap.size, 3, none⟩ = some (.slice a n cap) := by rw [hc _ _ (by simp)]; simp [go_sem]
          have BB1 := hb0.trans (hb1.mono hb0.size)
          clear hc hf hb0
          go_wp2
          go_ret
          exact ⟨by unfold opB; rw [HN.out]; simp [n0], BB1⟩
      · have t1 := someBytes ht
        have t2 : to.toList.isEmpty = false := by rw [Bool.eq_false_iff]; intro e; exact t1 (List.isEmpty_iff.1 e)
        have t3 : (to.toList == []) = false := by rw [beq_eq_false_iff_ne]; exact t1
        have HT := Lib.hid (decide_eq_false ht)
        clear ht
        go_enter Try.func11, Try.ntmps11
        go_wp2_with fail
        refine (nameOk_spec nm _ h1).mono ?_
        rintro e w1 ⟨rfl, hb1⟩
        rw [HN.out]
        obtain ⟨hc, hf⟩ := bcell hb1
        have c0 : w1.cell? ⟨w.heap.size, 0, none⟩ = some (.int .i64 1) := by rw [hc _ _ (by simp)]; simp [go_sem]
        have c2 : w1.cell? ⟨w.heap.size, 2, none⟩ = some (.string to) := by rw [hc _ _ (by simp)]; simp [go_sem]
        have c3 : w1.cell? ⟨w.heap.size, 3, none⟩ = some (.slice a n cap) := by rw [hc _ _ (by simp)]; simp [go_sem]
        have BB1 := hb0.trans (hb1.mono hb0.size)
        clear hc hf hb0
        go_wp2
        go_ret
        exact ⟨by unfold opB; rw [HN.out]; simp only [Bool.true_and, HT.out]; simp, BB1⟩
    · by_cases k4 : k = 4
      · subst k4
        by_cases ht : to.size = 0
        · obtain rfl := noBytes ht
          clear ht
          by_cases n0 : n = 0
          · subst n0
            go_enter Try.func11, Try.ntmps11
            go_wp2_with fail
            refine (nameOk_spec nm _ h1).mono ?_
            rintro e w1 ⟨rfl, hb1⟩
            rw [HN.out]
            obtain ⟨hc, hf⟩ := bcell hb1
            have c0 : w1.cell? ⟨w.heap.size, 0, none⟩ = some (.int .i64 4) := by rw [hc _ _ (by simp)]; simp [go_sem]
            have c2 : w1.cell? ⟨w.heap.size, 2, none⟩ = some (.string ⟨#[]⟩) := by rw [hc _ _ (by simp)]; simp [go_sem]
            have c3 : w1.cell? ⟨w.heap.size, 3, none⟩ = some (.slice a 0 cap) := by rw [hc _ _ (by simp)]; simp [go_sem]
            have BB1 := hb0.trans (hb1.mono hb0.size)
            clear hc hf hb0
            go_wp2
            go_ret
            exact ⟨by unfold opB; rw [HN.out]; rw [show decide ((⟨#[]⟩ : ByteArray).size = 0) = true from rfl]; simp, BB1⟩
          · have n1 : ((n : Int) == 0) = false := by simp; omega
            go_enter Try.func11, Try.ntmps11
            go_wp2_with fail
            refine (nameOk_spec nm _ h1).mono ?_
            rintro e w1 ⟨rfl, hb1⟩
            rw [HN.out]
            obtain ⟨hc, hf⟩ := bcell hb1
            have c0 : w1.cell? ⟨w.heap.size, 0, none⟩ = some (.int .i64 4) := by rw [hc _ _ (by simp)]; simp [go_sem]
            have c2 : w1.cell? ⟨w.heap.size, 2, none⟩ = some (.string ⟨#[]⟩) := by rw [hc _ _ (by simp)]; simp [go_sem]
            have c3 : w1.cell? ⟨w.heap.size, 3, none⟩ = some (.slice a n cap) := by rw [hc _ _ (by simp)]; simp [go_sem]
            have BB1 := hb0.trans (hb1.mono hb0.size)
            clear hc hf hb0
            go_wp2
            go_ret
            exact ⟨by unfold opB; rw [HN.out]; simp [n0], BB1⟩
        · have t1 := someBytes ht
          have t2 : to.toList.isEmpty = false := by rw [Bool.eq_false_iff]; intro e; exact t1 (List.isEmpty_iff.1 e)
          have t3 : (to.toList == []) = false := by rw [beq_eq_false_iff_ne]; exact t1
          have HT := Lib.hid (decide_eq_false ht)
          clear ht
          go_enter Try.func11, Try.ntmps11
          go_wp2_with fail
          refine (nameOk_spec nm _ h1).mono ?_
          rintro e w1 ⟨rfl, hb1⟩
          rw [HN.out]
          obtain ⟨hc, hf⟩ := bcell hb1
          have c0 : w1.cell? ⟨w.heap.size, 0, none⟩ = some (.int .i64 4) := by rw [hc _ _ (by simp)]; simp [go_sem]
          have c2 : w1.cell? ⟨w.heap.size, 2, none⟩ = some (.string to) := by rw [hc _ _ (by simp)]; simp [go_sem]
          have c3 : w1.cell? ⟨w.heap.size, 3, none⟩ = some (.slice a n cap) := by rw [hc _ _ (by simp)]; simp [go_sem]
          have BB1 := hb0.trans (hb1.mono hb0.size)
          clear hc hf hb0
          go_wp2
          go_ret
          exact ⟨by unfold opB; rw [HN.out]; simp only [Bool.true_and, HT.out]; simp, BB1⟩
      · by_cases k2 : k = 2
        · subst k2
          by_cases ht : to.size = 0
          · obtain rfl := noBytes ht
            clear ht
            by_cases n0 : 1 ≤ n
            · have n3 : (1 : Int) ≤ (n : Int) := by omega
              by_cases n2 : n ≤ 200000
              · have n4 : (n : Int) ≤ 200000 := by omega
                go_enter Try.func11, Try.ntmps11
                go_wp2_with fail
                refine (nameOk_spec nm _ h1).mono ?_
                rintro e w1 ⟨rfl, hb1⟩
                rw [HN.out]
                obtain ⟨hc, hf⟩ := bcell hb1
                have c0 : w1.cell? ⟨w.heap.size, 0, none⟩ = some (.int .i64 2) := by rw [hc _ _ (by simp)]; simp [go_sem]
                have c2 : w1.cell? ⟨w.heap.size, 2, none⟩ = some (.string ⟨#[]⟩) := by rw [hc _ _ (by simp)]; simp [go_sem]
                have c3 : w1.cell? ⟨w.heap.size, 3, none⟩ = some (.slice a n cap) := by rw [hc _ _ (by simp)]; simp [go_sem]
                have BB1 := hb0.trans (hb1.mono hb0.size)
                clear hc hf hb0
                go_wp2
                go_ret
                exact ⟨by unfold opB; rw [HN.out]; rw [show decide ((⟨#[]⟩ : ByteArray).size = 0) = true from rfl]; simp [n0, n2], BB1⟩
              · have n4 : 200000 < (n : Int) := by omega
                go_enter Try.func11, Try.ntmps11
                go_wp2_with fail
                refine (nameOk_spec nm _ h1).mono ?_
                rintro e w1 ⟨rfl, hb1⟩
                rw [HN.out]
                obtain ⟨hc, hf⟩ := bcell hb1
                have c0 : w1.cell? ⟨w.heap.size, 0, none⟩ = some (.int .i64 2) := by rw [hc _ _ (by simp)]; simp [go_sem]
                have c2 : w1.cell? ⟨w.heap.size, 2, none⟩ = some (.string ⟨#[]⟩) := by rw [hc _ _ (by simp)]; simp [go_sem]
                have c3 : w1.cell? ⟨w.heap.size, 3, none⟩ = some (.slice a n cap) := by rw [hc _ _ (by simp)]; simp [go_sem]
                have BB1 := hb0.trans (hb1.mono hb0.size)
                clear hc hf hb0
                go_wp2
                go_ret
                exact ⟨by unfold opB; rw [HN.out]; simp [n2] <;> omega, BB1⟩
            · obtain rfl : n = 0 := by omega
              go_enter Try.func11, Try.ntmps11
              go_wp2_with fail
              refine (nameOk_spec nm _ h1).mono ?_
              rintro e w1 ⟨rfl, hb1⟩
              rw [HN.out]
              obtain ⟨hc, hf⟩ := bcell hb1
              have c0 : w1.cell? ⟨w.heap.size, 0, none⟩ = some (.int .i64 2) := by rw [hc _ _ (by simp)]; simp [go_sem]
              have c2 : w1.cell? ⟨w.heap.size, 2, none⟩ = some (.string ⟨#[]⟩) := by rw [hc _ _ (by simp)]; simp [go_sem]
              have c3 : w1.cell? ⟨w.heap.size, 3, none⟩ = some (.slice a 0 cap) := by rw [hc _ _ (by simp)]; simp [go_sem]
              have BB1 := hb0.trans (hb1.mono hb0.size)
              clear hc hf hb0
              go_wp2
              go_ret
              exact ⟨by unfold opB; rw [HN.out]; simp, BB1⟩
          · have t1 := someBytes ht
            have t2 : to.toList.isEmpty = false := by rw [Bool.eq_false_iff]; intro e; exact t1 (List.isEmpty_iff.1 e)
            have t3 : (to.toList == []) = false := by rw [beq_eq_false_iff_ne]; exact t1
            have HT := Lib.hid (decide_eq_false ht)
            clear ht
            go_enter Try.func11, Try.ntmps11
            go_wp2_with fail
            refine (nameOk_spec nm _ h1).mono ?_
            rintro e w1 ⟨rfl, hb1⟩
            rw [HN.out]
            obtain ⟨hc, hf⟩ := bcell hb1
            have c0 : w1.cell? ⟨w.heap.size, 0, none⟩ = some (.int .i64 2) := by rw [hc _ _ (by simp)]; simp [go_sem]
            have c2 : w1.cell? ⟨w.heap.size, 2, none⟩ = some (.string to) := by rw [hc _ _ (by simp)]; simp [go_sem]
            have c3 : w1.cell? ⟨w.heap.size, 3, none⟩ = some (.slice a n cap) := by rw [hc _ _ (by simp)]; simp [go_sem]
            have BB1 := hb0.trans (hb1.mono hb0.size)
            clear hc hf hb0
            go_wp2
            go_ret
            exact ⟨by unfold opB; rw [HN.out]; simp only [Bool.true_and, HT.out]; simp, BB1⟩
        · by_cases k3 : k = 3
          · subst k3
            cases hto : nameB to with
            | true =>
              have HTO := Lib.hid hto
              clear hto
              by_cases n0 : n = 0
              · subst n0
                go_enter Try.func11, Try.ntmps11
                go_wp2_with fail
                refine (nameOk_spec nm _ h1).mono ?_
                rintro e w1 ⟨rfl, hb1⟩
                rw [HN.out]
                obtain ⟨hc, hf⟩ := bcell hb1
                have c0 : w1.cell? ⟨w.heap.size, 0, none⟩ = some (.int .i64 3) := by rw [hc _ _ (by simp)]; simp [go_sem]
                have c2 : w1.cell? ⟨w.heap.size, 2, none⟩ = some (.string to) := by rw [hc _ _ (by simp)]; simp [go_sem]
                have c3 : w1.cell? ⟨w.heap.size, 3, none⟩ = some (.slice a 0 cap) := by rw [hc _ _ (by simp)]; simp [go_sem]
                have BB1 := hb0.trans (hb1.mono hb0.size)
                clear hc hf hb0
                go_wp2_with fail
                refine (nameOk_spec to _ h2).mono ?_
                rintro e w2 ⟨rfl, hb2⟩
                rw [HTO.out]
                have c4 := cell_later hb2 c3
                have c5 := cell_later hb2 c0
                have BB2 := BB1.trans (hb2.mono BB1.size)
                go_wp2
                go_ret
                exact ⟨by unfold opB; rw [HN.out]; rw [HTO.out]; simp, BB2⟩
              · have n1 : ((n : Int) == 0) = false := by simp; omega
                go_enter Try.func11, Try.ntmps11
                go_wp2_with fail
                refine (nameOk_spec nm _ h1).mono ?_
                rintro e w1 ⟨rfl, hb1⟩
                rw [HN.out]
                obtain ⟨hc, hf⟩ := bcell hb1
                have c0 : w1.cell? ⟨w.heap.size, 0, none⟩ = some (.int .i64 3) := by rw [hc _ _ (by simp)]; simp [go_sem]
                have c2 : w1.cell? ⟨w.heap.size, 2, none⟩ = some (.string to) := by rw [hc _ _ (by simp)]; simp [go_sem]
                have c3 : w1.cell? ⟨w.heap.size, 3, none⟩ = some (.slice a n cap) := by rw [hc _ _ (by simp)]; simp [go_sem]
                have BB1 := hb0.trans (hb1.mono hb0.size)
                clear hc hf hb0
                go_wp2_with fail
                refine (nameOk_spec to _ h2).mono ?_
                rintro e w2 ⟨rfl, hb2⟩
                rw [HTO.out]
                have c4 := cell_later hb2 c3
                have c5 := cell_later hb2 c0
                have BB2 := BB1.trans (hb2.mono BB1.size)
                go_wp2
                go_ret
                exact ⟨by unfold opB; rw [HN.out]; rw [HTO.out]; simp [n0], BB2⟩
            | false =>
              have HTO := Lib.hid hto
              clear hto
              go_enter Try.func11, Try.ntmps11
              go_wp2_with fail
              refine (nameOk_spec nm _ h1).mono ?_
              rintro e w1 ⟨rfl, hb1⟩
              rw [HN.out]
              obtain ⟨hc, hf⟩ := bcell hb1
              have c0 : w1.cell? ⟨w.heap.size, 0, none⟩ = some (.int .i64 3) := by rw [hc _ _ (by simp)]; simp [go_sem]
              have c2 : w1.cell? ⟨w.heap.size, 2, none⟩ = some (.string to) := by rw [hc _ _ (by simp)]; simp [go_sem]
              have c3 : w1.cell? ⟨w.heap.size, 3, none⟩ = some (.slice a n cap) := by rw [hc _ _ (by simp)]; simp [go_sem]
              have BB1 := hb0.trans (hb1.mono hb0.size)
              clear hc hf hb0
              go_wp2_with fail
              refine (nameOk_spec to _ h2).mono ?_
              rintro e w2 ⟨rfl, hb2⟩
              rw [HTO.out]
              have c4 := cell_later hb2 c3
              have c5 := cell_later hb2 c0
              have BB2 := BB1.trans (hb2.mono BB1.size)
              go_wp2
              go_ret
              exact ⟨by unfold opB; rw [HN.out]; rw [HTO.out]; simp, BB2⟩
          · have HK : Hid (¬ (k = 1 ∨ k = 4) ∧ ¬ k = 2 ∧ ¬ k = 3) := Lib.hid ⟨by omega, k2, k3⟩
            by_cases k0 : k < 1
            · clear k1 k2 k3 k4
              go_enter Try.func11, Try.ntmps11
              go_wp2
              go_ret
              exact ⟨by unfold opB; rw [if_neg HK.out.1, if_neg HK.out.2.1, if_neg HK.out.2.2, Bool.and_false]; rfl, hb0⟩
            · have k5 : 4 < k := by omega
              clear k1 k2 k3 k4
              go_enter Try.func11, Try.ntmps11
              go_wp2
              go_ret
              exact ⟨by unfold opB; rw [if_neg HK.out.1, if_neg HK.out.2.1, if_neg HK.out.2.2, Bool.and_false]; rfl, hb0⟩
  | false =>
    have HN := Lib.hid hnm
    clear hnm
    by_cases k0 : k < 1
    · go_enter Try.func11, Try.ntmps11
      go_wp2
      go_ret
      exact ⟨by unfold opB; rw [HN.out]; rfl, hb0⟩
    · by_cases k5 : 4 < k
      · go_enter Try.func11, Try.ntmps11
        go_wp2
        go_ret
        exact ⟨by unfold opB; rw [HN.out]; rfl, hb0⟩
      · go_enter Try.func11, Try.ntmps11
        go_wp2_with fail
        refine (nameOk_spec nm _ h1).mono ?_
        rintro e w1 ⟨rfl, hb1⟩
        rw [HN.out]
        go_wp2
        go_ret
        exact ⟨by unfold opB; rw [HN.out]; rfl, hb0.trans (hb1.mono hb0.size)⟩
theorem fsOpOk_spec_k (y : FsOpR) (D : Int × ByteArray × ByteArray × List Int) (hD : datFsOp y = D) (w : World) (g : goodFsOp w y) :
    Calls Try.prog 11 #[.agg #[.int .i64 y.kind, .string y.name, .string y.dst, .slice y.dataA y.dataN y.dataC]] w fun e w' => e = .returned (.bool (opB D.1 D.2.1 D.2.2.1 D.2.2.2.length)) ∧ Below w.heap.size w w' := by
  subst hD
  have e := fsOpOk_spec y.kind y.name y.dst y.dataA y.dataN y.dataC y.data w g.2.2.2.1 g.2.1 g.2.2.1
  rw [← g.2.2.2.1.len] at e
  have e2 : (datFsOp y).2.2.2.length = y.data.length := rfl
  rw [e2]
  rw [g.2.2.2.1.len] at e ⊢
  exact e
end Go.Proofs.Ytoodlmhnemamhaa
