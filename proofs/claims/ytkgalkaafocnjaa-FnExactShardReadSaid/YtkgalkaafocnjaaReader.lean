/- The methods num and fix of the program's reader: what they return and how they move the reader. -/
import Derived.Test.YtkgalkaafocnjaaGetVar
import Derived.Test.YtkgalkaafocnjaaZig
import Derived.Test.YtkgalkaafocnjaaKeep
namespace Go.Proofs.Ytkgalkaafocnjaa
open Go.RowKit
/-- The reader in block R: over the slice a n cap, at p, with its flag. -/
structure Rdr (w : World) (R : Nat) (a : Option Addr) (n cap : Nat) (p : Int) (ok : Bool) : Prop where
  c0 : w.cell? ⟨R, 0, none⟩ = some (.slice a n cap)
  c1 : w.cell? ⟨R, 1, none⟩ = some (.int .i64 p)
  c2 : w.cell? ⟨R, 2, none⟩ = some (.bool ok)
  f1 : w.frozen? ⟨R, 1, none⟩ = false
  f2 : w.frozen? ⟨R, 2, none⟩ = false
theorem Rdr.lt {w : World} {R : Nat} {a : Option Addr} {n cap : Nat} {p : Int} {ok : Bool} (h : Rdr w R a n cap p ok) : R < w.heap.size := World.block_lt_of_cell? _ _ h.c0
theorem Rdr.below {w w' : World} {R : Nat} {a : Option Addr} {n cap : Nat} {p : Int} {ok : Bool} (h : Rdr w R a n cap p ok) (hb : Below w.heap.size w w') : Rdr w' R a n cap p ok := by
  have hl := h.lt
  exact ⟨cell_later hb h.c0, cell_later hb h.c1, cell_later hb h.c2, (hb.frozen (p := ⟨R, 1, none⟩) hl).trans h.f1, (hb.frozen (p := ⟨R, 2, none⟩) hl).trans h.f2⟩
theorem Rdr.belowB {w w' : World} {R : Nat} {a : Option Addr} {n cap : Nat} {p : Int} {ok : Bool} (h : Rdr w R a n cap p ok) {B : Nat} (hb : Below B w w') (hl : R < B) : Rdr w' R a n cap p ok :=
  ⟨(hb.cell (p := ⟨R, 0, none⟩) hl).trans h.c0, (hb.cell (p := ⟨R, 1, none⟩) hl).trans h.c1, (hb.cell (p := ⟨R, 2, none⟩) hl).trans h.c2, (hb.frozen (p := ⟨R, 1, none⟩) hl).trans h.f1, (hb.frozen (p := ⟨R, 2, none⟩) hl).trans h.f2⟩
theorem Rdr.setOk {w : World} {R : Nat} {a : Option Addr} {n cap : Nat} {p : Int} {ok : Bool} (h : Rdr w R a n cap p ok) (b : Bool) : Rdr (w.setCell ⟨R, 2, none⟩ (.bool b)) R a n cap p b := by
  obtain ⟨c0, c1, c2, f1, f2⟩ := h
  constructor <;> simp [go_sem, c0, c1, c2, f1, f2]
theorem Rdr.setAt {w : World} {R : Nat} {a : Option Addr} {n cap : Nat} {p : Int} {ok : Bool} (h : Rdr w R a n cap p ok) (q : Int) : Rdr (w.setCell ⟨R, 1, none⟩ (.int .i64 q)) R a n cap q ok := by
  obtain ⟨c0, c1, c2, f1, f2⟩ := h
  constructor <;> simp [go_sem, c0, c1, c2, f1, f2]

def numF (zs : List Int) (p : Int) (ok : Bool) : Int × Int × Bool := if (getVarF zs p).2.2 then ((getVarF zs p).1, (getVarF zs p).2.1, ok) else (0, p, false)
theorem numF_yes {zs : List Int} {p : Int} {ok : Bool} (h : (getVarF zs p).2.2 = true) : numF zs p ok = ((getVarF zs p).1, (getVarF zs p).2.1, ok) := by unfold numF; rw [if_pos h]
theorem numF_no {zs : List Int} {p : Int} {ok : Bool} (h : (getVarF zs p).2.2 = false) : numF zs p ok = (0, p, false) := by unfold numF; rw [if_neg (by rw [h]; simp)]
/-- A reader's method ended: it returned r.1, the reader stands at r.2.1 with the flag r.2.2; only its block was written. -/
def RetR (R : Nat) (a : Option Addr) (n cap : Nat) (r : Int × Int × Bool) (w : World) (en : Ending) (w' : World) : Prop := en = .returned (.int .i64 r.1) ∧ Rdr w' R a n cap r.2.1 r.2.2 ∧ Win R (R + 1) w w'

set_option maxHeartbeats 800000 in
theorem num_any (R : Nat) (a : Option Addr) (n cap : Nat) (zs : List Int) (p : Int) (ok : Bool) (w0 w : World) (h : Rd (encI .u8) 1 w0 a n cap zs) (hb0 : Below w0.heap.size w0 w) (hR : Rdr w R a n cap p ok) (g0 : ∀ y ∈ zs, In8 y) (g1 : In64 p) (hn : n ≤ 4611686018427387904) :
    Calls Try.prog 95 #[.pointer (some ⟨R, 0, none⟩)] w fun e w' => RetR R a n cap (numF zs p ok) w e w' := by
  obtain ⟨c0, c1, c2, f1, f2⟩ := hR
  have HR : Hid (Rdr w R a n cap p ok) := ⟨c0, c1, c2, f1, f2⟩
  have hlt := HR.out.lt
  cases ho : (getVarF zs p).2.2 with
  | false =>
    have HN := Lib.hid (getVarF_not ho)
    have HF := Lib.hid (numF_no (ok := ok) ho)
    clear ho
    go_enter Try.func95, Try.ntmps95
    go_wp2_with fail
    go_region_held3 (fun w' => w'.cell? ⟨R, 0, none⟩ = some (.slice a n cap) ∧ w'.cell? ⟨R, 1, none⟩ = some (.int .i64 p) ∧ Below w.heap.size w w') (first | exact keepd2 (by assumption) | exact keep2 (by assumption) (Nat.le_refl _) (by assumption) | exact ⟨c0, c1, (Below.refl _ _).drew⟩) (first | (go_at_call 64; refine (getVar_impl _ _ _ zs p _ (h.below (hb0.trans ((tail2 (by assumption) : Below w.heap.size w _).mono hb0.size)) (Nat.le_refl _)) g0 g1 hn).mono ?_; rintro e w1 ⟨rfl, hb⟩))
    have hb : Below w.heap.size w _ := tail2 (by assumption)
    rw [HN.out]
    have HR1 := Lib.hid (HR.out.below hb)
    obtain ⟨d0, d1, d2, e1, e2⟩ := HR1.out
    clear c0 c1 c2 f1 f2
    go_wp2
    go_ret
    rw [HF.out]
    exact ⟨rfl, HR1.out.setOk false, (Win.of_below hb).trans (Win.set _ R 2 _ (Nat.le_refl _) (by omega))⟩
  | true =>
    have HF := Lib.hid (numF_yes (ok := ok) ho)
    have HO := Lib.hid ho
    clear ho
    go_enter Try.func95, Try.ntmps95
    go_wp2_with fail
    go_region_held3 (fun w' => w'.cell? ⟨R, 0, none⟩ = some (.slice a n cap) ∧ w'.cell? ⟨R, 1, none⟩ = some (.int .i64 p) ∧ Below w.heap.size w w') (first | exact keepd2 (by assumption) | exact keep2 (by assumption) (Nat.le_refl _) (by assumption) | exact ⟨c0, c1, (Below.refl _ _).drew⟩) (first | (go_at_call 64; refine (getVar_impl _ _ _ zs p _ (h.below (hb0.trans ((tail2 (by assumption) : Below w.heap.size w _).mono hb0.size)) (Nat.le_refl _)) g0 g1 hn).mono ?_; rintro e w1 ⟨rfl, hb⟩))
    have hb : Below w.heap.size w _ := tail2 (by assumption)
    rw [HO.out]
    have HR1 := Lib.hid (HR.out.below hb)
    obtain ⟨d0, d1, d2, e1, e2⟩ := HR1.out
    clear c0 c1 c2 f1 f2
    go_wp2
    go_ret
    rw [HF.out]
    exact ⟨rfl, HR1.out.setAt _, (Win.of_below hb).trans (Win.set _ R 1 _ (Nat.le_refl _) (by omega))⟩

def fixF (zs : List Int) (p : Int) (ok : Bool) : Int × Int × Bool := if (getFixF zs p).2 then ((getFixF zs p).1, p + 6, ok) else (0, p, false)
theorem fixF_yes {zs : List Int} {p : Int} {ok : Bool} (h : (getFixF zs p).2 = true) : fixF zs p ok = ((getFixF zs p).1, p + 6, ok) := by unfold fixF; rw [if_pos h]
theorem fixF_no {zs : List Int} {p : Int} {ok : Bool} (h : (getFixF zs p).2 = false) : fixF zs p ok = (0, p, false) := by unfold fixF; rw [if_neg (by rw [h]; simp)]
theorem getFixF_not {zs : List Int} {p : Int} (h : (getFixF zs p).2 = false) : getFixF zs p = (0, false) := by
  unfold getFixF at h ⊢
  split
  · rfl
  · rename_i h1; rw [if_neg h1] at h; cases h
theorem getFixF_ok {zs : List Int} {p : Int} (h : (getFixF zs p).2 = true) : 0 ≤ p ∧ p + 6 ≤ zs.length := by
  unfold getFixF at h
  split at h
  · cases h
  · omega

set_option maxHeartbeats 800000 in
theorem fix_any (R : Nat) (a : Option Addr) (n cap : Nat) (zs : List Int) (p : Int) (ok : Bool) (w0 w : World) (h : Rd (encI .u8) 1 w0 a n cap zs) (hb0 : Below w0.heap.size w0 w) (hR : Rdr w R a n cap p ok) (g0 : ∀ y ∈ zs, In8 y) (g1 : In64 p) (hn : n ≤ 4611686018427387904) :
    Calls Try.prog 96 #[.pointer (some ⟨R, 0, none⟩)] w fun e w' => RetR R a n cap (fixF zs p ok) w e w' := by
  obtain ⟨c0, c1, c2, f1, f2⟩ := hR
  have HR : Hid (Rdr w R a n cap p ok) := ⟨c0, c1, c2, f1, f2⟩
  have hlt := HR.out.lt
  cases ho : (getFixF zs p).2 with
  | false =>
    have HN := Lib.hid (getFixF_not ho)
    have HF := Lib.hid (fixF_no (ok := ok) ho)
    clear ho
    go_enter Try.func96, Try.ntmps96
    go_wp2_with fail
    go_region_held3 (fun w' => w'.cell? ⟨R, 0, none⟩ = some (.slice a n cap) ∧ w'.cell? ⟨R, 1, none⟩ = some (.int .i64 p) ∧ Below w.heap.size w w') (first | exact keepd2 (by assumption) | exact keep2 (by assumption) (Nat.le_refl _) (by assumption) | exact ⟨c0, c1, (Below.refl _ _).drew⟩) (first | (go_at_call 76; refine (getFix_impl p _ _ _ zs _ (h.below (hb0.trans ((tail2 (by assumption) : Below w.heap.size w _).mono hb0.size)) (Nat.le_refl _)) g0 g1).mono ?_; rintro e w1 ⟨rfl, hb⟩))
    have hb : Below w.heap.size w _ := tail2 (by assumption)
    rw [HN.out]
    have HR1 := Lib.hid (HR.out.below hb)
    obtain ⟨d0, d1, d2, e1, e2⟩ := HR1.out
    clear c0 c1 c2 f1 f2
    go_wp2
    go_ret
    rw [HF.out]
    exact ⟨rfl, HR1.out.setOk false, (Win.of_below hb).trans (Win.set _ R 2 _ (Nat.le_refl _) (by omega))⟩
  | true =>
    have HF := Lib.hid (fixF_yes (ok := ok) ho)
    obtain ⟨hp0, hp1⟩ := getFixF_ok ho
    have hlz : (zs.length : Int) ≤ 4611686018427387904 := by have := h.len; omega
    have HO := Lib.hid ho
    clear ho
    go_enter Try.func96, Try.ntmps96
    go_wp2_with fail
    go_region_held3 (fun w' => w'.cell? ⟨R, 0, none⟩ = some (.slice a n cap) ∧ w'.cell? ⟨R, 1, none⟩ = some (.int .i64 p) ∧ Below w.heap.size w w') (first | exact keepd2 (by assumption) | exact keep2 (by assumption) (Nat.le_refl _) (by assumption) | exact ⟨c0, c1, (Below.refl _ _).drew⟩) (first | (go_at_call 76; refine (getFix_impl p _ _ _ zs _ (h.below (hb0.trans ((tail2 (by assumption) : Below w.heap.size w _).mono hb0.size)) (Nat.le_refl _)) g0 g1).mono ?_; rintro e w1 ⟨rfl, hb⟩))
    have hb : Below w.heap.size w _ := tail2 (by assumption)
    rw [HO.out]
    have HR1 := Lib.hid (HR.out.below hb)
    obtain ⟨d0, d1, d2, e1, e2⟩ := HR1.out
    clear c0 c1 c2 f1 f2
    go_wp2
    go_ret
    rw [HF.out]
    exact ⟨rfl, HR1.out.setAt _, (Win.of_below hb).trans (Win.set _ R 1 _ (Nat.le_refl _) (by omega))⟩
end Go.Proofs.Ytkgalkaafocnjaa
