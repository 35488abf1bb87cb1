/- Reading a shard: the plain function; what was read is what is written. Nothing of the program. -/
import Derived.Test.YtkgalkaafocnjaaShBP
import Derived.Test.YtkgalkaafocnjaaGetVar
import Derived.Test.YtkgalkaafocnjaaZig
namespace Go.Proofs.Ytkgalkaafocnjaa
open Go.RowKit
def readEd (zs : List Int) (l : SEdgeR) (p : Int) : Bool × SEdgeR × Int :=
  ((getVarF zs p).2.2 && ((getZigF zs (getVarF zs p).2.1).2.2 && ((getVarF zs (getZigF zs (getVarF zs p).2.1).2.1).2.2 && (getZigF zs (getVarF zs (getZigF zs (getVarF zs p).2.1).2.1).2.1).2.2)),
   ⟨wrap64 (l.fr + (getVarF zs p).1), wrap64 (l.to + (getZigF zs (getVarF zs p).2.1).1), (getVarF zs (getZigF zs (getVarF zs p).2.1).2.1).1, wrap64 (l.ix + (getZigF zs (getVarF zs (getZigF zs (getVarF zs p).2.1).2.1).2.1).1), 0⟩,
   (getZigF zs (getVarF zs (getZigF zs (getVarF zs p).2.1).2.1).2.1).2.1)
def readEds (zs : List Int) : Nat → SEdgeR → Int → Bool × List SEdgeR × Int
  | 0, _, p => (true, [], p)
  | n + 1, l, p => if (readEd zs l p).1 then ((readEds zs n (readEd zs l p).2.1 (readEd zs l p).2.2).1, (readEd zs l p).2.1 :: (readEds zs n (readEd zs l p).2.1 (readEd zs l p).2.2).2.1, (readEds zs n (readEd zs l p).2.1 (readEd zs l p).2.2).2.2) else (false, [], p)
theorem readEds_no {zs : List Int} {n : Nat} {l : SEdgeR} {p : Int} (h : (readEd zs l p).1 = false) : (readEds zs (n + 1) l p).1 = false := by
  unfold readEds; rw [if_neg (by rw [h]; simp)]
theorem readEds_yes {zs : List Int} {n : Nat} {l : SEdgeR} {p : Int} (h : (readEd zs l p).1 = true) : readEds zs (n + 1) l p = ((readEds zs n (readEd zs l p).2.1 (readEd zs l p).2.2).1, (readEd zs l p).2.1 :: (readEds zs n (readEd zs l p).2.1 (readEd zs l p).2.2).2.1, (readEds zs n (readEd zs l p).2.1 (readEd zs l p).2.2).2.2) := by
  show (if (readEd zs l p).1 then _ else _) = _
  rw [if_pos h]
theorem readEds_len {zs : List Int} : ∀ (n : Nat) (l : SEdgeR) (p : Int), (readEds zs n l p).1 = true → (readEds zs n l p).2.1.length = n := by
  intro n
  induction n with
  | zero => intro l p _; rfl
  | succ n ih =>
    intro l p h
    cases he : (readEd zs l p).1 with
    | false => rw [readEds_no he] at h; cases h
    | true =>
      rw [readEds_yes he] at h ⊢
      simp only [List.length_cons]
      rw [ih _ _ h]
def readSh (zs : List Int) (p : Int) : Bool × (Int × Int × List SEdgeR) × Int :=
  ((getVarF zs p).2.2 && ((getVarF zs (getVarF zs p).2.1).2.2 && ((getVarF zs (getVarF zs (getVarF zs p).2.1).2.1).2.2 && (readEds zs (getVarF zs (getVarF zs (getVarF zs p).2.1).2.1).1.toNat ⟨0, (getVarF zs p).1, 0, 0, 0⟩ (getVarF zs (getVarF zs (getVarF zs p).2.1).2.1).2.1).1)),
   ((getVarF zs p).1, (getVarF zs (getVarF zs p).2.1).1, (readEds zs (getVarF zs (getVarF zs (getVarF zs p).2.1).2.1).1.toNat ⟨0, (getVarF zs p).1, 0, 0, 0⟩ (getVarF zs (getVarF zs (getVarF zs p).2.1).2.1).2.1).2.1),
   (readEds zs (getVarF zs (getVarF zs (getVarF zs p).2.1).2.1).1.toNat ⟨0, (getVarF zs p).1, 0, 0, 0⟩ (getVarF zs (getVarF zs (getVarF zs p).2.1).2.1).2.1).2.2)
def shOkB (s : Int × Int × List SEdgeR) : Bool := shardB s.1 s.2.1 s.2.2
def shardReadF (zs : List Int) (p : Int) : (Int × Int × List SEdgeR) × Int × Bool := if (readSh zs p).1 && shOkB (readSh zs p).2.1 then ((readSh zs p).2.1, (readSh zs p).2.2, true) else ((0, 0, []), 0, false)
theorem shardReadF_yes {zs : List Int} {p : Int} (h : (readSh zs p).1 = true) (h2 : shOkB (readSh zs p).2.1 = true) : shardReadF zs p = ((readSh zs p).2.1, (readSh zs p).2.2, true) := by unfold shardReadF; rw [h, h2]; rfl
theorem shardReadF_bad {zs : List Int} {p : Int} (h : (readSh zs p).1 = false) : shardReadF zs p = ((0, 0, []), 0, false) := by unfold shardReadF; rw [h]; rfl
theorem shardReadF_no {zs : List Int} {p : Int} (h2 : shOkB (readSh zs p).2.1 = false) : shardReadF zs p = ((0, 0, []), 0, false) := by unfold shardReadF; rw [h2, Bool.and_false]; rfl
/-- A window of the bytes. -/
def wnd (zs : List Int) (q q' : Nat) : List Int := (zs.drop q).take (q' - q)
theorem wnd_app (zs : List Int) {q q1 q2 : Nat} (h1 : q ≤ q1) (h2 : q1 ≤ q2) : wnd zs q q1 ++ wnd zs q1 q2 = wnd zs q q2 := by
  unfold wnd
  rw [show q2 - q = (q1 - q) + (q2 - q1) from by omega, List.take_add, List.drop_drop, show q + (q1 - q) = q1 from by omega]
theorem wnd_self (zs : List Int) (q : Nat) : wnd zs q q = [] := by unfold wnd; rw [Nat.sub_self, List.take_zero]
theorem getVarF_bytes {zs : List Int} (h8 : ∀ y ∈ zs, In8 y) {p : Int} (h : (getVarF zs p).2.2 = true) : ∃ q q' : Nat, p = (q : Int) ∧ (getVarF zs p).2.1 = (q' : Int) ∧ q < q' ∧ q' ≤ zs.length ∧ vdig (getVarF zs p).1.toNat = wnd zs q q' := by
  by_cases hp : p < 0 ∨ (zs.length : Int) ≤ p
  · rw [getVarF_out zs hp] at h; cases h
  · obtain ⟨q, rfl⟩ := Int.eq_ofNat_of_zero_le (show 0 ≤ p by omega)
    have hq : q < zs.length := by omega
    rw [getVarF_in zs hq] at h ⊢
    have hl8 : ∀ y ∈ zs.drop q, In8 y := fun y hy => h8 y (List.mem_of_mem_drop hy)
    have hll : (zs.drop q).length = zs.length - q := List.length_drop
    by_cases hv : vrun (zs.drop q) < 7 ∧ vrun (zs.drop q) < (zs.drop q).length
    · by_cases hb : ((zs.drop q).getD (vrun (zs.drop q)) 0 = 0 ∧ 0 < vrun (zs.drop q)) ∨ 281474976710655 < vval ((zs.drop q).take (vrun (zs.drop q) + 1))
      · rw [getVarL_bad _ _ _ rfl hv.1 hv.2 hb] at h; cases h
      · have hg := getVarL_good (zs.drop q) (q : Int) _ rfl hv.1 hv.2 hb
        have hc := (vdig_vval (zs.drop q) hv.2 hl8).2 (fun hh => hb (Or.inl hh))
        rw [hg]
        refine ⟨q, q + (vrun (zs.drop q) + 1), rfl, by simp only; omega, by omega, by omega, ?_⟩
        simp only [Int.toNat_natCast]
        rw [hc]
        unfold wnd
        rw [Nat.add_sub_cancel_left]
    · rw [getVarL_long _ _ hv] at h; cases h
theorem zig_back {m : Int} (h0 : 0 ≤ m) : zigN (if m % 2 = 0 then m / 2 else -(m / 2) - 1) = m.toNat := by
  by_cases h : m % 2 = 0
  · rw [if_pos h]
    have := zigN_pos (x := m / 2) (by omega)
    omega
  · rw [if_neg h]
    have := zigN_neg (x := -(m / 2) - 1) (by omega)
    omega
theorem getZigF_bytes {zs : List Int} (h8 : ∀ y ∈ zs, In8 y) {p : Int} (h : (getZigF zs p).2.2 = true) : ∃ q q' : Nat, p = (q : Int) ∧ (getZigF zs p).2.1 = (q' : Int) ∧ q < q' ∧ q' ≤ zs.length ∧ vdig (zigN (getZigF zs p).1) = wnd zs q q' := by
  unfold getZigF at h ⊢
  cases hv : (getVarF zs p).2.2 with
  | false => rw [hv] at h; simp at h
  | true =>
    obtain ⟨q, q', h1, h2, h3, h4, h5⟩ := getVarF_bytes h8 hv
    have hb := getVarF_ok hv
    simp only [if_true]
    exact ⟨q, q', h1, h2, h3, h4, by rw [zig_back hb.1]; exact h5⟩
theorem getZigF_rng {zs : List Int} {p : Int} (h : (getZigF zs p).2.2 = true) : -140737488355328 ≤ (getZigF zs p).1 ∧ (getZigF zs p).1 ≤ 140737488355327 := by
  unfold getZigF at h ⊢
  cases hv : (getVarF zs p).2.2 with
  | false => rw [hv] at h; simp at h
  | true =>
    have hb := getVarF_ok hv
    simp only [if_true]
    split <;> omega
/-- What is written, edge after edge. -/
def shFrom : SEdgeR → List SEdgeR → List Int
  | _, [] => []
  | l, e :: r => shEdge l e ++ shFrom e r
def prevOf (l : SEdgeR) (xs : List SEdgeR) (k : Nat) : SEdgeR := if k = 0 then l else atSEdge xs (k - 1)
theorem prevOf_cons (l e : SEdgeR) (r : List SEdgeR) (k : Nat) : prevOf l (e :: r) (k + 1) = prevOf e r k := by
  unfold prevOf
  rw [if_neg (by omega), Nat.add_sub_cancel]
  cases k with
  | zero => rfl
  | succ k => rw [if_neg (by omega), Nat.add_sub_cancel]; rfl
theorem shFrom_eq : ∀ (xs : List SEdgeR) (l : SEdgeR), ((List.range xs.length).flatMap fun i => shEdge (prevOf l xs i) (atSEdge xs i)) = shFrom l xs := by
  intro xs
  induction xs with
  | nil => intro l; rfl
  | cons e r ih =>
    intro l
    rw [List.length_cons, List.range_succ_eq_map, List.flatMap_cons, List.flatMap_map]
    show shEdge (prevOf l (e :: r) 0) (atSEdge (e :: r) 0) ++ _ = shEdge l e ++ shFrom e r
    rw [← ih e]
    have e1 : (fun i => shEdge (prevOf l (e :: r) (Nat.succ i)) (atSEdge (e :: r) (Nat.succ i))) = fun i => shEdge (prevOf e r i) (atSEdge r i) := by
      funext i
      show shEdge (prevOf l (e :: r) (i + 1)) (atSEdge (e :: r) (i + 1)) = _
      rw [prevOf_cons]; rfl
    rw [e1]
    rfl
theorem shTo_from (lo hi : Int) (xs : List SEdgeR) : shTo lo hi xs xs.length = shHead lo hi xs.length ++ shFrom ⟨0, lo, 0, 0, 0⟩ xs := by
  unfold shTo
  rw [← shFrom_eq]; rfl
theorem wrap_in {x : Int} (h0 : -4611686018427387904 ≤ x) (h1 : x ≤ 4611686018427387904) : wrap64 x = x := IntWalk.wrap64_in _ ⟨by omega, by omega⟩
theorem readEd_bytes {zs : List Int} (h8 : ∀ y ∈ zs, In8 y) {l : SEdgeR} {p : Int} (h : (readEd zs l p).1 = true) (hB : ShB l (readEd zs l p).2.1) : ∃ q q' : Nat, p = (q : Int) ∧ (readEd zs l p).2.2 = (q' : Int) ∧ q ≤ q' ∧ shEdge l (readEd zs l p).2.1 = wnd zs q q' := by
  unfold readEd at h hB ⊢
  simp only [Bool.and_eq_true] at h
  obtain ⟨a, b, c, d⟩ := h
  obtain ⟨q0, q1, e0, e1, l1, _, w1⟩ := getVarF_bytes h8 a
  obtain ⟨q1', q2, e1', e2, l2, _, w2⟩ := getZigF_bytes h8 b
  obtain ⟨q2', q3, e2', e3, l3, _, w3⟩ := getVarF_bytes h8 c
  obtain ⟨q3', q4, e3', e4, l4, _, w4⟩ := getZigF_bytes h8 d
  have r1 := getVarF_ok a
  have r2 := getZigF_rng b
  have r3 := getVarF_ok c
  have r4 := getZigF_rng d
  obtain rfl : q1 = q1' := by omega
  obtain rfl : q2 = q2' := by omega
  obtain rfl : q3 = q3' := by omega
  obtain ⟨f0, f1, f2, t0, t1, t2, t3, v0, v1, i0, i1, i2, i3⟩ := hB
  simp only at f0 f1 f2 t0 t1 t2 t3 v0 v1 i0 i1 i2 i3 ⊢
  refine ⟨q0, q4, e0, e4, by omega, ?_⟩
  have hlf : l.fr ≤ 150 := by omega
  unfold shEdge
  simp only
  rw [wrap_in (x := l.fr + _) (by omega) (by omega)] at f1 f2 ⊢
  rw [wrap_in (x := l.to + _) (by omega) (by omega), wrap_in (x := l.ix + _) (by omega) (by omega)]
  rw [show l.fr + (getVarF zs p).1 - l.fr = (getVarF zs p).1 from by omega, show l.to + (getZigF zs (getVarF zs p).2.1).1 - l.to = (getZigF zs (getVarF zs p).2.1).1 from by omega]
  rw [show l.ix + (getZigF zs (getVarF zs (getZigF zs (getVarF zs p).2.1).2.1).2.1).1 - l.ix = (getZigF zs (getVarF zs (getZigF zs (getVarF zs p).2.1).2.1).2.1).1 from by omega]
  rw [w1, w2, w3, w4, wnd_app zs (by omega) (by omega), wnd_app zs (by omega) (by omega), wnd_app zs (by omega) (by omega)]
theorem readEds_bytes {zs : List Int} (h8 : ∀ y ∈ zs, In8 y) : ∀ (n : Nat) (l : SEdgeR) (q : Nat), (readEds zs n l (q : Int)).1 = true → (∀ k, k < n → ShB (prevOf l (readEds zs n l (q : Int)).2.1 k) (atSEdge (readEds zs n l (q : Int)).2.1 k)) →
    ∃ q' : Nat, (readEds zs n l (q : Int)).2.2 = (q' : Int) ∧ q ≤ q' ∧ shFrom l (readEds zs n l (q : Int)).2.1 = wnd zs q q' := by
  intro n
  induction n with
  | zero => intro l q _ _; exact ⟨q, rfl, Nat.le_refl _, by rw [wnd_self]; rfl⟩
  | succ n ih =>
    intro l q h hB
    cases he : (readEd zs l (q : Int)).1 with
    | false => rw [readEds_no he] at h; cases h
    | true =>
      rw [readEds_yes he] at h hB ⊢
      simp only at h hB ⊢
      have b0 := hB 0 (by omega)
      obtain ⟨q0, q1, e0, e1, l1, w1⟩ := readEd_bytes h8 he b0
      obtain rfl : q = q0 := by omega
      rw [e1] at h hB ⊢
      obtain ⟨q2, e2, l2, w2⟩ := ih _ q1 h (fun k hk => by
        have := hB (k + 1) (by omega)
        rw [prevOf_cons] at this
        exact this)
      refine ⟨q2, e2, by omega, ?_⟩
      show shEdge l _ ++ shFrom _ _ = _
      rw [w1, w2, wnd_app zs l1 l2]
/-- What was read, if it is a right shard, is written as it stood there. -/
theorem readSh_same {zs : List Int} (h8 : ∀ y ∈ zs, In8 y) {p : Int} (h : (readSh zs p).1 = true) (hok : shOkB (readSh zs p).2.1 = true) :
    ∃ q q' : Nat, p = (q : Int) ∧ (readSh zs p).2.2 = (q' : Int) ∧ q ≤ q' ∧ shTo (readSh zs p).2.1.1 (readSh zs p).2.1.2.1 (readSh zs p).2.1.2.2 (readSh zs p).2.1.2.2.length = wnd zs q q' := by
  unfold readSh at h hok ⊢
  simp only [Bool.and_eq_true] at h hok ⊢
  obtain ⟨a, b, c, d⟩ := h
  have ⟨q0, q1, e0, e1, l1, _, w1⟩ := getVarF_bytes h8 a
  have ⟨q1', q2, e1', e2, l2, _, w2⟩ := getVarF_bytes h8 b
  have ⟨q2', q3, e2', e3, l3, _, w3⟩ := getVarF_bytes h8 c
  obtain rfl : q1 = q1' := by omega
  obtain rfl : q2 = q2' := by omega
  have hn := readEds_len _ _ _ d
  have r3 := getVarF_ok c
  unfold shOkB at hok
  simp only at hok
  have hd := d
  rw [e3] at hd hok hn ⊢
  obtain ⟨q4, e4, l4, w4⟩ := readEds_bytes h8 _ _ q3 hd (fun k hk => by
    have := shFacts hok (k := k) (by rw [hn]; exact hk)
    exact this)
  refine ⟨q0, q4, e0, e4, by omega, ?_⟩
  rw [shTo_from, w4]
  unfold shHead
  rw [w1, w2, hn, w3, wnd_app zs (by omega) (by omega), wnd_app zs (by omega) (by omega), wnd_app zs (by omega) (by omega)]
theorem readSh_lt {zs : List Int} {p : Int} (h : (readSh zs p).1 = true) : p < zs.length := by
  unfold readSh at h
  simp only [Bool.and_eq_true] at h
  have := getVarF_ok h.1
  omega
end Go.Proofs.Ytkgalkaafocnjaa
