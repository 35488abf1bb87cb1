/- The readers' methods over a shard's bytes: one form of contract for all four. -/
import Derived.Test.YtkgalkaafocnjaaReader
import Derived.Test.YtkgalkaafocnjaaShRP
namespace Go.Proofs.Ytkgalkaafocnjaa
open Go.RowKit
theorem getZigF_not {zs : List Int} {p : Int} (h : (getZigF zs p).2.2 = false) : getZigF zs p = (0, 0, false) := by
  unfold getZigF at h ⊢
  cases hv : (getVarF zs p).2.2 with
  | false => rfl
  | true => rw [hv] at h; simp at h
def zigF (zs : List Int) (p : Int) (ok : Bool) : Int × Int × Bool := if (getZigF zs p).2.2 then ((getZigF zs p).1, (getZigF zs p).2.1, ok) else (0, p, false)
theorem zigF_yes {zs : List Int} {p : Int} {ok : Bool} (h : (getZigF zs p).2.2 = true) : zigF zs p ok = ((getZigF zs p).1, (getZigF zs p).2.1, ok) := by unfold zigF; rw [if_pos h]
theorem zigF_no {zs : List Int} {p : Int} {ok : Bool} (h : (getZigF zs p).2.2 = false) : zigF zs p ok = (0, p, false) := by unfold zigF; rw [if_neg (by rw [h]; simp)]
set_option maxHeartbeats 800000 in
theorem zig_any (R : Nat) (a : Option Addr) (n cap : Nat) (zs : List Int) (p : Int) (ok : Bool) (w0 w : World) (h : Rd (encI .u8) 1 w0 a n cap zs) (hb0 : Below w0.heap.size w0 w) (hR : Rdr w R a n cap p ok) (g0 : ∀ y ∈ zs, In8 y) (g1 : In64 p) (hn : n ≤ 4611686018427387904) :
    Calls Try.prog 102 #[.pointer (some ⟨R, 0, none⟩)] w fun e w' => RetR R a n cap (zigF zs p ok) w e w' := by
  obtain ⟨c0, c1, c2, f1, f2⟩ := hR
  have HR : Hid (Rdr w R a n cap p ok) := ⟨c0, c1, c2, f1, f2⟩
  have hlt := HR.out.lt
  cases ho : (getZigF zs p).2.2 with
  | false =>
    have HN := Lib.hid (getZigF_not ho)
    have HF := Lib.hid (zigF_no (ok := ok) ho)
    clear ho
    go_enter Try.func102, Try.ntmps102
    go_wp2_with fail
    go_region_held3 (fun w' => w'.cell? ⟨R, 0, none⟩ = some (.slice a n cap) ∧ w'.cell? ⟨R, 1, none⟩ = some (.int .i64 p) ∧ Below w.heap.size w w') (first | exact keepd2 (by assumption) | exact keep2 (by assumption) (Nat.le_refl _) (by assumption) | exact ⟨c0, c1, (Below.refl _ _).drew⟩) (first | (go_at_call 22; refine (getZig_impl _ _ _ zs p _ (h.below (hb0.trans ((tail2 (by assumption) : Below w.heap.size w _).mono hb0.size)) (Nat.le_refl _)) g0 g1 hn).mono ?_; rintro e w1 ⟨rfl, hb⟩))
    have hb : Below w.heap.size w _ := tail2 (by assumption)
    rw [HN.out]
    have HR1 := Lib.hid (HR.out.below hb)
    obtain ⟨d0, d1, d2, e1, e2⟩ := HR1.out
    clear c0 c1 c2 f1 f2
    go_wp2
    go_ret
    rw [HF.out]
    exact ⟨rfl, HR1.out.setOk false, (Win.of_below hb).trans (Win.set _ R 2 _ (Nat.le_refl _) (by omega))⟩
  | true =>
    have HF := Lib.hid (zigF_yes (ok := ok) ho)
    have HO := Lib.hid ho
    clear ho
    go_enter Try.func102, Try.ntmps102
    go_wp2_with fail
    go_region_held3 (fun w' => w'.cell? ⟨R, 0, none⟩ = some (.slice a n cap) ∧ w'.cell? ⟨R, 1, none⟩ = some (.int .i64 p) ∧ Below w.heap.size w w') (first | exact keepd2 (by assumption) | exact keep2 (by assumption) (Nat.le_refl _) (by assumption) | exact ⟨c0, c1, (Below.refl _ _).drew⟩) (first | (go_at_call 22; refine (getZig_impl _ _ _ zs p _ (h.below (hb0.trans ((tail2 (by assumption) : Below w.heap.size w _).mono hb0.size)) (Nat.le_refl _)) g0 g1 hn).mono ?_; rintro e w1 ⟨rfl, hb⟩))
    have hb : Below w.heap.size w _ := tail2 (by assumption)
    rw [HO.out]
    have HR1 := Lib.hid (HR.out.below hb)
    obtain ⟨d0, d1, d2, e1, e2⟩ := HR1.out
    clear c0 c1 c2 f1 f2
    go_wp2
    go_ret
    rw [HF.out]
    exact ⟨rfl, HR1.out.setAt _, (Win.of_below hb).trans (Win.set _ R 1 _ (Nat.le_refl _) (by omega))⟩
def varS (zs : List Int) (p : Int) (bad : Bool) : Int × Int × Bool := if (getVarF zs p).2.2 && !bad then ((getVarF zs p).1, (getVarF zs p).2.1, false) else (0, p, true)
theorem varS_yes {zs : List Int} {p : Int} (h : (getVarF zs p).2.2 = true) : varS zs p false = ((getVarF zs p).1, (getVarF zs p).2.1, false) := by unfold varS; rw [h]; rfl
theorem varS_no {zs : List Int} {p : Int} {bad : Bool} (h : (getVarF zs p).2.2 = false) : varS zs p bad = (0, p, true) := by unfold varS; rw [h]; rfl
theorem varS_bad {zs : List Int} {p : Int} : varS zs p true = (0, p, true) := by unfold varS; rw [Bool.not_true, Bool.and_false]; rfl
set_option maxHeartbeats 1600000 in
theorem l08Var_any (R : Nat) (a : Option Addr) (n cap : Nat) (zs : List Int) (p : Int) (bad : Bool) (w0 w : World) (h : Rd (encI .u8) 1 w0 a n cap zs) (hb0 : Below w0.heap.size w0 w) (hR : Rdr w R a n cap p bad) (g0 : ∀ y ∈ zs, In8 y) (g1 : In64 p) (hn : n ≤ 4611686018427387904) :
    Calls Try.prog 88 #[.pointer (some ⟨R, 0, none⟩)] w fun e w' => RetR R a n cap (varS zs p bad) w e w' := by
  obtain ⟨c0, c1, c2, f1, f2⟩ := hR
  have HR : Hid (Rdr w R a n cap p bad) := ⟨c0, c1, c2, f1, f2⟩
  have hlt := HR.out.lt
  cases ho : (getVarF zs p).2.2 with
  | false =>
    have HN := Lib.hid (getVarF_not ho)
    have HF := Lib.hid (varS_no (bad := bad) ho)
    clear ho
    go_enter Try.func88, Try.ntmps88
    go_wp2_with fail
    go_region_held3 (fun w' => w'.cell? ⟨R, 0, none⟩ = some (.slice a n cap) ∧ w'.cell? ⟨R, 1, none⟩ = some (.int .i64 p) ∧ Below w.heap.size w w') (first | exact keepd2 (by assumption) | exact keep2 (by assumption) (Nat.le_refl _) (by assumption) | exact ⟨c0, c1, (Below.refl _ _).drew⟩) (first | (go_at_call 63; refine (getVar_spec _ _ _ zs p _ (h.below (hb0.trans ((tail2 (by assumption) : Below w.heap.size w _).mono hb0.size)) (Nat.le_refl _)) g0 g1 hn).mono ?_; rintro e w1 ⟨rfl, hb⟩))
    have hb : Below w.heap.size w _ := tail2 (by assumption)
    rw [HN.out]
    have HR1 := Lib.hid (HR.out.below hb)
    obtain ⟨d0, d1, d2, e1, e2⟩ := HR1.out
    clear c0 c1 c2 f1 f2
    go_wp2
    go_ret
    rw [HF.out]
    exact ⟨rfl, HR1.out.setOk true, (Win.of_below hb).trans (Win.set _ R 2 _ (Nat.le_refl _) (by omega))⟩
  | true =>
    cases bad with
    | true =>
      have HF := Lib.hid (varS_bad (zs := zs) (p := p))
      have HO := Lib.hid ho
      clear ho
      go_enter Try.func88, Try.ntmps88
      go_wp2_with fail
      go_region_held3 (fun w' => w'.cell? ⟨R, 0, none⟩ = some (.slice a n cap) ∧ w'.cell? ⟨R, 1, none⟩ = some (.int .i64 p) ∧ Below w.heap.size w w') (first | exact keepd2 (by assumption) | exact keep2 (by assumption) (Nat.le_refl _) (by assumption) | exact ⟨c0, c1, (Below.refl _ _).drew⟩) (first | (go_at_call 63; refine (getVar_spec _ _ _ zs p _ (h.below (hb0.trans ((tail2 (by assumption) : Below w.heap.size w _).mono hb0.size)) (Nat.le_refl _)) g0 g1 hn).mono ?_; rintro e w1 ⟨rfl, hb⟩))
      have hb : Below w.heap.size w _ := tail2 (by assumption)
      rw [HO.out]
      have HR1 := Lib.hid (HR.out.below hb)
      obtain ⟨d0, d1, d2, e1, e2⟩ := HR1.out
      clear c0 c1 c2 f1 f2
      go_wp2
      go_ret
      rw [HF.out]
      exact ⟨rfl, HR1.out.setOk true, (Win.of_below hb).trans (Win.set _ R 2 _ (Nat.le_refl _) (by omega))⟩
    | false =>
      have HF := Lib.hid (varS_yes ho)
      have HO := Lib.hid ho
      clear ho
      go_enter Try.func88, Try.ntmps88
      go_wp2_with fail
      go_region_held3 (fun w' => w'.cell? ⟨R, 0, none⟩ = some (.slice a n cap) ∧ w'.cell? ⟨R, 1, none⟩ = some (.int .i64 p) ∧ Below w.heap.size w w') (first | exact keepd2 (by assumption) | exact keep2 (by assumption) (Nat.le_refl _) (by assumption) | exact ⟨c0, c1, (Below.refl _ _).drew⟩) (first | (go_at_call 63; refine (getVar_spec _ _ _ zs p _ (h.below (hb0.trans ((tail2 (by assumption) : Below w.heap.size w _).mono hb0.size)) (Nat.le_refl _)) g0 g1 hn).mono ?_; rintro e w1 ⟨rfl, hb⟩))
      have hb : Below w.heap.size w _ := tail2 (by assumption)
      rw [HO.out]
      have HR1 := Lib.hid (HR.out.below hb)
      obtain ⟨d0, d1, d2, e1, e2⟩ := HR1.out
      clear c0 c1 c2 f1 f2
      go_wp2
      go_ret
      rw [HF.out]
      exact ⟨rfl, HR1.out.setAt _, (Win.of_below hb).trans (Win.set _ R 1 _ (Nat.le_refl _) (by omega))⟩
def zigS (zs : List Int) (p : Int) (bad : Bool) : Int × Int × Bool := if (getZigF zs p).2.2 && !bad then ((getZigF zs p).1, (getZigF zs p).2.1, false) else (0, p, true)
theorem zigS_yes {zs : List Int} {p : Int} (h : (getZigF zs p).2.2 = true) : zigS zs p false = ((getZigF zs p).1, (getZigF zs p).2.1, false) := by unfold zigS; rw [h]; rfl
theorem zigS_no {zs : List Int} {p : Int} {bad : Bool} (h : (getZigF zs p).2.2 = false) : zigS zs p bad = (0, p, true) := by unfold zigS; rw [h]; rfl
theorem zigS_bad {zs : List Int} {p : Int} : zigS zs p true = (0, p, true) := by unfold zigS; rw [Bool.not_true, Bool.and_false]; rfl
set_option maxHeartbeats 1600000 in
theorem l08Zig_any (R : Nat) (a : Option Addr) (n cap : Nat) (zs : List Int) (p : Int) (bad : Bool) (w0 w : World) (h : Rd (encI .u8) 1 w0 a n cap zs) (hb0 : Below w0.heap.size w0 w) (hR : Rdr w R a n cap p bad) (g0 : ∀ y ∈ zs, In8 y) (g1 : In64 p) (hn : n ≤ 4611686018427387904) :
    Calls Try.prog 89 #[.pointer (some ⟨R, 0, none⟩)] w fun e w' => RetR R a n cap (zigS zs p bad) w e w' := by
  obtain ⟨c0, c1, c2, f1, f2⟩ := hR
  have HR : Hid (Rdr w R a n cap p bad) := ⟨c0, c1, c2, f1, f2⟩
  have hlt := HR.out.lt
  cases ho : (getZigF zs p).2.2 with
  | false =>
    have HN := Lib.hid (getZigF_not ho)
    have HF := Lib.hid (zigS_no (bad := bad) ho)
    clear ho
    go_enter Try.func89, Try.ntmps89
    go_wp2_with fail
    go_region_held3 (fun w' => w'.cell? ⟨R, 0, none⟩ = some (.slice a n cap) ∧ w'.cell? ⟨R, 1, none⟩ = some (.int .i64 p) ∧ Below w.heap.size w w') (first | exact keepd2 (by assumption) | exact keep2 (by assumption) (Nat.le_refl _) (by assumption) | exact ⟨c0, c1, (Below.refl _ _).drew⟩) (first | (go_at_call 21; refine (getZig_spec _ _ _ zs p _ (h.below (hb0.trans ((tail2 (by assumption) : Below w.heap.size w _).mono hb0.size)) (Nat.le_refl _)) g0 g1 hn).mono ?_; rintro e w1 ⟨rfl, hb⟩))
    have hb : Below w.heap.size w _ := tail2 (by assumption)
    rw [HN.out]
    have HR1 := Lib.hid (HR.out.below hb)
    obtain ⟨d0, d1, d2, e1, e2⟩ := HR1.out
    clear c0 c1 c2 f1 f2
    go_wp2
    go_ret
    rw [HF.out]
    exact ⟨rfl, HR1.out.setOk true, (Win.of_below hb).trans (Win.set _ R 2 _ (Nat.le_refl _) (by omega))⟩
  | true =>
    cases bad with
    | true =>
      have HF := Lib.hid (zigS_bad (zs := zs) (p := p))
      have HO := Lib.hid ho
      clear ho
      go_enter Try.func89, Try.ntmps89
      go_wp2_with fail
      go_region_held3 (fun w' => w'.cell? ⟨R, 0, none⟩ = some (.slice a n cap) ∧ w'.cell? ⟨R, 1, none⟩ = some (.int .i64 p) ∧ Below w.heap.size w w') (first | exact keepd2 (by assumption) | exact keep2 (by assumption) (Nat.le_refl _) (by assumption) | exact ⟨c0, c1, (Below.refl _ _).drew⟩) (first | (go_at_call 21; refine (getZig_spec _ _ _ zs p _ (h.below (hb0.trans ((tail2 (by assumption) : Below w.heap.size w _).mono hb0.size)) (Nat.le_refl _)) g0 g1 hn).mono ?_; rintro e w1 ⟨rfl, hb⟩))
      have hb : Below w.heap.size w _ := tail2 (by assumption)
      rw [HO.out]
      have HR1 := Lib.hid (HR.out.below hb)
      obtain ⟨d0, d1, d2, e1, e2⟩ := HR1.out
      clear c0 c1 c2 f1 f2
      go_wp2
      go_ret
      rw [HF.out]
      exact ⟨rfl, HR1.out.setOk true, (Win.of_below hb).trans (Win.set _ R 2 _ (Nat.le_refl _) (by omega))⟩
    | false =>
      have HF := Lib.hid (zigS_yes ho)
      have HO := Lib.hid ho
      clear ho
      go_enter Try.func89, Try.ntmps89
      go_wp2_with fail
      go_region_held3 (fun w' => w'.cell? ⟨R, 0, none⟩ = some (.slice a n cap) ∧ w'.cell? ⟨R, 1, none⟩ = some (.int .i64 p) ∧ Below w.heap.size w w') (first | exact keepd2 (by assumption) | exact keep2 (by assumption) (Nat.le_refl _) (by assumption) | exact ⟨c0, c1, (Below.refl _ _).drew⟩) (first | (go_at_call 21; refine (getZig_spec _ _ _ zs p _ (h.below (hb0.trans ((tail2 (by assumption) : Below w.heap.size w _).mono hb0.size)) (Nat.le_refl _)) g0 g1 hn).mono ?_; rintro e w1 ⟨rfl, hb⟩))
      have hb : Below w.heap.size w _ := tail2 (by assumption)
      rw [HO.out]
      have HR1 := Lib.hid (HR.out.below hb)
      obtain ⟨d0, d1, d2, e1, e2⟩ := HR1.out
      clear c0 c1 c2 f1 f2
      go_wp2
      go_ret
      rw [HF.out]
      exact ⟨rfl, HR1.out.setAt _, (Win.of_below hb).trans (Win.set _ R 1 _ (Nat.le_refl _) (by omega))⟩
/-- What a read of a number gives: v, the place behind it, and whether all went well so far. -/
structure RdNum (zs : List Int) (p : Int) (ok : Bool) (v p' : Int) (ok' : Bool) : Prop where
  v0 : 0 ≤ v
  v1 : v ≤ 281474976710655
  at' : In64 p'
  yes : ok' = true → ok = true ∧ (getVarF zs p).2.2 = true ∧ v = (getVarF zs p).1 ∧ p' = (getVarF zs p).2.1
  no : ok' = false → ok = false ∨ (getVarF zs p).2.2 = false
structure RdZig (zs : List Int) (p : Int) (ok : Bool) (v p' : Int) (ok' : Bool) : Prop where
  v0 : -140737488355328 ≤ v
  v1 : v ≤ 140737488355327
  at' : In64 p'
  yes : ok' = true → ok = true ∧ (getZigF zs p).2.2 = true ∧ v = (getZigF zs p).1 ∧ p' = (getZigF zs p).2.1
  no : ok' = false → ok = false ∨ (getZigF zs p).2.2 = false
theorem getZigF_ok {zs : List Int} {p : Int} (h : (getZigF zs p).2.2 = true) : 0 ≤ p ∧ p < (getZigF zs p).2.1 ∧ (getZigF zs p).2.1 ≤ zs.length := by
  unfold getZigF at h ⊢
  cases hv : (getVarF zs p).2.2 with
  | false => rw [hv] at h; simp at h
  | true =>
    have hb := getVarF_ok hv
    simp only [if_true]
    omega
theorem RdNum.impl {zs : List Int} {p : Int} (ok : Bool) (g1 : In64 p) (hl : zs.length ≤ 4611686018427387904) : RdNum zs p ok (numF zs p ok).1 (numF zs p ok).2.1 (numF zs p ok).2.2 := by
  unfold In64 at g1
  cases hv : (getVarF zs p).2.2 with
  | false => rw [numF_no hv]; exact ⟨by simp only; omega, by simp only; omega, g1, (fun h => by cases h), fun _ => Or.inr hv⟩
  | true =>
    have hb := getVarF_ok hv
    rw [numF_yes hv]
    exact ⟨hb.1, hb.2.1, by unfold In64; simp only; omega, fun h => ⟨h, hv, rfl, rfl⟩, fun h => Or.inl h⟩
theorem RdZig.impl {zs : List Int} {p : Int} (ok : Bool) (g1 : In64 p) (hl : zs.length ≤ 4611686018427387904) : RdZig zs p ok (zigF zs p ok).1 (zigF zs p ok).2.1 (zigF zs p ok).2.2 := by
  unfold In64 at g1
  cases hv : (getZigF zs p).2.2 with
  | false => rw [zigF_no hv]; exact ⟨by simp only; omega, by simp only; omega, g1, (fun h => by cases h), fun _ => Or.inr hv⟩
  | true =>
    have hb := getZigF_ok hv
    have hr := getZigF_rng hv
    rw [zigF_yes hv]
    exact ⟨hr.1, hr.2, by unfold In64; simp only; omega, fun h => ⟨h, hv, rfl, rfl⟩, fun h => Or.inl h⟩
theorem RdNum.spec {zs : List Int} {p : Int} (ok : Bool) (g1 : In64 p) (hl : zs.length ≤ 4611686018427387904) : RdNum zs p ok (varS zs p (!ok)).1 (varS zs p (!ok)).2.1 (!(varS zs p (!ok)).2.2) := by
  unfold In64 at g1
  cases hv : (getVarF zs p).2.2 with
  | false => rw [varS_no hv]; exact ⟨by simp only; omega, by simp only; omega, g1, (fun h => by cases h), fun _ => Or.inr hv⟩
  | true =>
    have hb := getVarF_ok hv
    cases ok with
    | false => rw [Bool.not_false, varS_bad]; exact ⟨by simp only; omega, by simp only; omega, g1, (fun h => by cases h), fun _ => Or.inl rfl⟩
    | true => rw [Bool.not_true, varS_yes hv]; exact ⟨hb.1, hb.2.1, by unfold In64; simp only; omega, fun h => ⟨rfl, hv, rfl, rfl⟩, (fun h => by cases h)⟩
theorem RdZig.spec {zs : List Int} {p : Int} (ok : Bool) (g1 : In64 p) (hl : zs.length ≤ 4611686018427387904) : RdZig zs p ok (zigS zs p (!ok)).1 (zigS zs p (!ok)).2.1 (!(zigS zs p (!ok)).2.2) := by
  unfold In64 at g1
  cases hv : (getZigF zs p).2.2 with
  | false => rw [zigS_no hv]; exact ⟨by simp only; omega, by simp only; omega, g1, (fun h => by cases h), fun _ => Or.inr hv⟩
  | true =>
    have hb := getZigF_ok hv
    have hr := getZigF_rng hv
    cases ok with
    | false => rw [Bool.not_false, zigS_bad]; exact ⟨by simp only; omega, by simp only; omega, g1, (fun h => by cases h), fun _ => Or.inl rfl⟩
    | true => rw [Bool.not_true, zigS_yes hv]; exact ⟨hr.1, hr.2, by unfold In64; simp only; omega, fun h => ⟨rfl, hv, rfl, rfl⟩, (fun h => by cases h)⟩
/-- A read's end. f: how the flag stands in the reader's block. -/
def RetRd (Q : Int → Int → Bool → Prop) (f : Bool → Bool) (R : Nat) (a : Option Addr) (n cap : Nat) (w : World) (en : Ending) (w' : World) : Prop := ∃ (v p' : Int) (ok' : Bool), en = .returned (.int .i64 v) ∧ Rdr w' R a n cap p' (f ok') ∧ Win R (R + 1) w w' ∧ Q v p' ok'
theorem num_rd (R : Nat) (a : Option Addr) (n cap : Nat) (zs : List Int) (p : Int) (ok : Bool) (w0 w : World) (h : Rd (encI .u8) 1 w0 a n cap zs) (hb0 : Below w0.heap.size w0 w) (hR : Rdr w R a n cap p ok) (g0 : ∀ y ∈ zs, In8 y) (g1 : In64 p) (hn : n ≤ 4611686018427387904) :
    Calls Try.prog 95 #[.pointer (some ⟨R, 0, none⟩)] w fun e w' => RetRd (RdNum zs p ok) id R a n cap w e w' :=
  (num_any R a n cap zs p ok w0 w h hb0 hR g0 g1 hn).mono fun _ _ ⟨h1, h2, h3⟩ => ⟨_, _, _, h1, h2, h3, RdNum.impl ok g1 (by rw [h.len]; exact hn)⟩
theorem zig_rd (R : Nat) (a : Option Addr) (n cap : Nat) (zs : List Int) (p : Int) (ok : Bool) (w0 w : World) (h : Rd (encI .u8) 1 w0 a n cap zs) (hb0 : Below w0.heap.size w0 w) (hR : Rdr w R a n cap p ok) (g0 : ∀ y ∈ zs, In8 y) (g1 : In64 p) (hn : n ≤ 4611686018427387904) :
    Calls Try.prog 102 #[.pointer (some ⟨R, 0, none⟩)] w fun e w' => RetRd (RdZig zs p ok) id R a n cap w e w' :=
  (zig_any R a n cap zs p ok w0 w h hb0 hR g0 g1 hn).mono fun _ _ ⟨h1, h2, h3⟩ => ⟨_, _, _, h1, h2, h3, RdZig.impl ok g1 (by rw [h.len]; exact hn)⟩
theorem var_rd (R : Nat) (a : Option Addr) (n cap : Nat) (zs : List Int) (p : Int) (ok : Bool) (w0 w : World) (h : Rd (encI .u8) 1 w0 a n cap zs) (hb0 : Below w0.heap.size w0 w) (hR : Rdr w R a n cap p (!ok)) (g0 : ∀ y ∈ zs, In8 y) (g1 : In64 p) (hn : n ≤ 4611686018427387904) :
    Calls Try.prog 88 #[.pointer (some ⟨R, 0, none⟩)] w fun e w' => RetRd (RdNum zs p ok) not R a n cap w e w' :=
  (l08Var_any R a n cap zs p (!ok) w0 w h hb0 hR g0 g1 hn).mono fun _ _ ⟨h1, h2, h3⟩ => ⟨_, _, _, h1, by rw [Bool.not_not]; exact h2, h3, RdNum.spec ok g1 (by rw [h.len]; exact hn)⟩
theorem zigs_rd (R : Nat) (a : Option Addr) (n cap : Nat) (zs : List Int) (p : Int) (ok : Bool) (w0 w : World) (h : Rd (encI .u8) 1 w0 a n cap zs) (hb0 : Below w0.heap.size w0 w) (hR : Rdr w R a n cap p (!ok)) (g0 : ∀ y ∈ zs, In8 y) (g1 : In64 p) (hn : n ≤ 4611686018427387904) :
    Calls Try.prog 89 #[.pointer (some ⟨R, 0, none⟩)] w fun e w' => RetRd (RdZig zs p ok) not R a n cap w e w' :=
  (l08Zig_any R a n cap zs p (!ok) w0 w h hb0 hR g0 g1 hn).mono fun _ _ ⟨h1, h2, h3⟩ => ⟨_, _, _, h1, by rw [Bool.not_not]; exact h2, h3, RdZig.spec ok g1 (by rw [h.len]; exact hn)⟩
end Go.Proofs.Ytkgalkaafocnjaa
