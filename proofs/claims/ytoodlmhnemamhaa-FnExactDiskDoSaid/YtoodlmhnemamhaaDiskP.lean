/- Files by their names, a disk's operations: plain; the map's datum. Nothing of the program. -/
import Derived.Maps.OwnSet
import Derived.Maps.RangeWalk
import Derived.Lib.Strings
import Derived.WideShapes
import Derived.Test.YtoodlmhnemamhaaFsOpOk
import Derived.Test.YtoodlmhnemamhaaRow
namespace Go.Proofs.Ytoodlmhnemamhaa
open Go.RowKit
/-! names -/
def eqN (a b : ByteArray) : Bool := a.data.toList == b.data.toList
def ltN (a b : ByteArray) : Bool := Op.bytesLess a.data.toList b.data.toList
theorem eqN_iff {a b : ByteArray} : eqN a b = true ↔ a = b := by
  unfold eqN
  rw [beq_iff_eq]
  constructor
  · intro h
    cases a; cases b
    simp only at h
    rw [ByteArray.mk.injEq]
    exact Array.toList_inj.1 h
  · intro h; rw [h]
theorem eqN_self (a : ByteArray) : eqN a a = true := eqN_iff.2 rfl
theorem eqN_ne {a b : ByteArray} (h : a ≠ b) : eqN a b = false := by
  cases e : eqN a b
  · rfl
  · exact absurd (eqN_iff.1 e) h
theorem eqN_comm (a b : ByteArray) : eqN a b = eqN b a := by
  unfold eqN
  by_cases h : a.data.toList = b.data.toList
  · rw [h]
  · rw [beq_eq_false_iff_ne.2 h, beq_eq_false_iff_ne.2 (Ne.symm h)]
theorem less_before : ∀ (x y : List UInt8), Op.bytesLess x y = bytesBefore x y
  | [], [] => rfl
  | _ :: _, [] => rfl
  | [], _ :: _ => rfl
  | a :: x, b :: y => by simp only [Op.bytesLess, bytesBefore, less_before x y]
theorem ltN_trans {a b c : ByteArray} (h : ltN a b = true) (h2 : ltN b c = true) : ltN a c = true := by
  unfold ltN at *
  rw [less_before] at *
  exact WideShapes.bytes_trans _ _ _ h h2
theorem ltN_irr (a : ByteArray) : ltN a a = false := by
  unfold ltN
  rw [less_before]
  exact WideAt.bytes_irrefl _
theorem ltN_asym {a b : ByteArray} (h : ltN a b = true) : ltN b a = false := by
  cases e : ltN b a
  · rfl
  · have := ltN_trans h e
    rw [ltN_irr] at this
    cases this
theorem ltN_ne {a b : ByteArray} (h : ltN a b = true) : a ≠ b := by
  intro e
  rw [e, ltN_irr] at h
  cases h
/-! files by their names -/
section
variable {α β : Type}
def lessF (l : List (ByteArray × α)) (nm : ByteArray) : List (ByteArray × α) := l.filter fun f => !eqN f.1 nm
def insF (x : ByteArray × α) : List (ByteArray × α) → List (ByteArray × α)
  | [] => [x]
  | y :: r => if ltN x.1 y.1 then x :: y :: r else y :: insF x r
def withF (l : List (ByteArray × α)) (x : ByteArray × α) : List (ByteArray × α) := insF x (lessF l x.1)
def hasF (l : List (ByteArray × α)) (nm : ByteArray) : Bool := l.any fun f => eqN f.1 nm
def findF (l : List (ByteArray × α)) (nm : ByteArray) : Option α := (l.find? fun f => eqN f.1 nm).map (·.2)
def sndF (g : α → β) (f : ByteArray × α) : ByteArray × β := (f.1, g f.2)
theorem less_snd (g : α → β) (l : List (ByteArray × α)) (nm : ByteArray) : (lessF l nm).map (sndF g) = lessF (l.map (sndF g)) nm := by
  unfold lessF
  rw [List.filter_map]
  rfl
theorem ins_snd (g : α → β) (x : ByteArray × α) : ∀ l : List (ByteArray × α), (insF x l).map (sndF g) = insF (sndF g x) (l.map (sndF g)) := by
  intro l
  induction l with
  | nil => rfl
  | cons y r ih =>
    rw [List.map_cons]
    simp only [insF]
    show _ = if ltN x.1 y.1 then _ else _
    by_cases h : ltN x.1 y.1 = true
    · rw [if_pos h, if_pos h, List.map_cons, List.map_cons]
    · rw [if_neg h, if_neg h, List.map_cons, ih]
theorem with_snd (g : α → β) (l : List (ByteArray × α)) (x : ByteArray × α) : (withF l x).map (sndF g) = withF (l.map (sndF g)) (sndF g x) := by
  unfold withF
  rw [ins_snd, less_snd]
  rfl
theorem has_snd (g : α → β) (l : List (ByteArray × α)) (nm : ByteArray) : hasF (l.map (sndF g)) nm = hasF l nm := by
  unfold hasF
  rw [List.any_map]
  rfl
theorem find_snd (g : α → β) (l : List (ByteArray × α)) (nm : ByteArray) : findF (l.map (sndF g)) nm = (findF l nm).map g := by
  unfold findF
  rw [List.find?_map]
  rw [Option.map_map, Option.map_map]
  rfl
theorem find_none {l : List (ByteArray × α)} {nm : ByteArray} (h : hasF l nm = false) : findF l nm = none := by
  unfold findF
  rw [Option.map_eq_none_iff, List.find?_eq_none]
  intro f hf e
  have := (List.any_eq_false.1 h) f hf
  exact this e
theorem find_some {l : List (ByteArray × α)} {nm : ByteArray} (h : hasF l nm = true) : ∃ x, findF l nm = some x ∧ (nm, x) ∈ l := by
  unfold findF
  cases e : l.find? fun f => eqN f.1 nm with
  | none =>
    rw [List.find?_eq_none] at e
    obtain ⟨f, hf, h2⟩ := List.any_eq_true.1 h
    exact absurd h2 (e f hf)
  | some f =>
    have h2 := List.find?_some e
    have h3 := eqN_iff.1 h2
    refine ⟨f.2, rfl, ?_⟩
    rw [← h3]
    exact List.mem_of_find?_eq_some e
theorem mem_less {l : List (ByteArray × α)} {nm : ByteArray} {f : ByteArray × α} (h : f ∈ lessF l nm) : f ∈ l := (List.mem_filter.1 h).1
theorem mem_ins {x f : ByteArray × α} : ∀ {l : List (ByteArray × α)}, f ∈ insF x l → f = x ∨ f ∈ l := by
  intro l
  induction l with
  | nil => intro h; left; simpa [insF] using h
  | cons y r ih =>
    intro h
    simp only [insF] at h
    split at h
    · rcases List.mem_cons.1 h with h | h
      · exact Or.inl h
      · exact Or.inr h
    · rcases List.mem_cons.1 h with h | h
      · exact Or.inr (by rw [h]; exact List.mem_cons_self)
      · rcases ih h with h | h
        · exact Or.inl h
        · exact Or.inr (List.mem_cons_of_mem _ h)
theorem mem_with {l : List (ByteArray × α)} {x f : ByteArray × α} (h : f ∈ withF l x) : f = x ∨ f ∈ l := by
  rcases mem_ins h with h | h
  · exact Or.inl h
  · exact Or.inr (mem_less h)
theorem len_less (l : List (ByteArray × α)) (nm : ByteArray) : (lessF l nm).length ≤ l.length := List.length_filter_le _ _
theorem len_ins (x : ByteArray × α) : ∀ l : List (ByteArray × α), (insF x l).length = l.length + 1 := by
  intro l
  induction l with
  | nil => rfl
  | cons y r ih =>
    simp only [insF]
    split
    · rfl
    · rw [List.length_cons, ih, List.length_cons]
theorem len_with (l : List (ByteArray × α)) (x : ByteArray × α) : (withF l x).length ≤ l.length + 1 := by
  unfold withF
  rw [len_ins]
  have := len_less l x.1
  omega
/-- A name above all: at the end. -/
theorem with_last {l : List (ByteArray × α)} {x : ByteArray × α} (h : ∀ f ∈ l, ltN f.1 x.1 = true) : withF l x = l ++ [x] := by
  unfold withF
  have h1 : lessF l x.1 = l := by
    unfold lessF
    rw [List.filter_eq_self]
    intro f hf
    rw [eqN_ne (ltN_ne (h f hf))]
    rfl
  rw [h1]
  clear h1
  induction l with
  | nil => rfl
  | cons y r ih =>
    simp only [insF]
    rw [if_neg (by rw [ltN_asym (h y (by simp))]; simp), ih (fun f hf => h f (by simp [hf])), List.cons_append]
end
/-! the map's datum -/
def litN (s : ByteArray) : Lit := .string s.data.toList
theorem litN_same (a b : ByteArray) : (litN a).sameKey (litN b) = eqN a b := rfl
theorem litN_inj {a b : ByteArray} (h : litN a = litN b) : a = b := by
  unfold litN at h
  rw [Lit.string.injEq] at h
  exact eqN_iff.1 (by unfold eqN; rw [h]; simp)
def valR (r : Row Int) : Value := .slice r.a r.n r.c
def entD (f : ByteArray × Row Int) : Lit × DataW Value := (litN f.1, .held (valR f.2))
def mapD (l : List (ByteArray × Row Int)) : DataW Value := .map (l.map entD)
def heldR (v : Value) : Option (DataW Value × List MemPlace) := some (.held v, [])
theorem mapD_ins (x : ByteArray × Row Int) : ∀ l : List (ByteArray × Row Int), DataW.insert (entD x) (l.map entD) = (insF x l).map entD := by
  intro l
  induction l with
  | nil => rfl
  | cons y r ih =>
    rw [List.map_cons]
    simp only [insF, DataW.insert]
    have e : (entD x).1.before (entD y).1 = ltN x.1 y.1 := by
      show bytesBefore _ _ = _
      rw [← less_before]; rfl
    rw [e]
    by_cases h : ltN x.1 y.1 = true
    · rw [if_pos h, if_pos h, List.map_cons, List.map_cons]
    · rw [if_neg h, if_neg h, List.map_cons, ih]
theorem mapD_less (l : List (ByteArray × Row Int)) (nm : ByteArray) : (l.map entD).filter (fun p => !p.1.sameKey (litN nm)) = (lessF l nm).map entD := by
  unfold lessF
  rw [List.filter_map]
  rfl
theorem mapD_put (l : List (ByteArray × Row Int)) (nm : ByteArray) (r : Row Int) : (mapD l).put (litN nm) (.held (valR r)) = mapD (withF l (nm, r)) := by
  show DataW.map (DataW.insert (entD (nm, r)) ((l.map entD).filter fun p => !p.1.sameKey (litN nm))) = _
  rw [mapD_less, mapD_ins]
  rfl
theorem mapD_del (l : List (ByteArray × Row Int)) (nm : ByteArray) : (mapD l).del (litN nm) = mapD (lessF l nm) := by
  show DataW.map ((l.map entD).filter fun p => !p.1.sameKey (litN nm)) = _
  rw [mapD_less]
  rfl
theorem mapD_has (l : List (ByteArray × Row Int)) (nm : ByteArray) : Maps.has (mapD l) (litN nm) = hasF l nm := by
  unfold mapD hasF
  rw [Maps.has_eq, List.any_map]
  rfl
theorem mapD_size (l : List (ByteArray × Row Int)) : Maps.size (mapD l) = l.length := by
  unfold mapD
  rw [Maps.size_eq, List.length_map]
theorem mapD_at (l : List (ByteArray × Row Int)) (nm : ByteArray) (z : DataW Value) : (mapD l).atKey (litN nm) z = match findF l nm with | some r => .held (valR r) | none => z := by
  unfold mapD findF
  simp only [DataW.atKey]
  rw [List.find?_map]
  have e : ((fun p : Lit × DataW Value => p.1.sameKey (litN nm)) ∘ entD) = fun f : ByteArray × Row Int => eqN f.1 nm := rfl
  rw [e]
  cases l.find? fun f => eqN f.1 nm <;> rfl
/-- The lengths of the entries that the walk has met. -/
def doneS (left : Lit → Bool) (l : List (ByteArray × Row Int)) : Nat := (l.map fun f => if left (litN f.1) then 0 else f.2.n).sum
def sizeM (l : List (ByteArray × Row Int)) : Nat := (l.map fun f => f.2.n).sum
theorem doneS_start : ∀ l : List (ByteArray × Row Int), doneS (Maps.has (mapD l)) l = 0 := by
  have h : ∀ (D : DataW Value) (l : List (ByteArray × Row Int)), (∀ f ∈ l, Maps.has D (litN f.1) = true) → doneS (Maps.has D) l = 0 := by
    intro D l
    induction l with
    | nil => intro _; rfl
    | cons y r ih =>
      intro h
      have := ih (fun f hf => h f (by simp [hf]))
      unfold doneS at *
      rw [List.map_cons, List.sum_cons, this, if_pos (h y (by simp))]
  intro l
  refine h _ l (fun f hf => ?_)
  rw [mapD_has]
  unfold hasF
  rw [List.any_eq_true]
  exact ⟨f, hf, eqN_self _⟩
theorem doneS_end {left : Lit → Bool} (h : ∀ k, left k = false) (l : List (ByteArray × Row Int)) : doneS left l = sizeM l := by
  unfold doneS sizeM
  congr 1
  apply List.map_congr_left
  intro f _
  rw [h]
  rfl
theorem doneS_le (left : Lit → Bool) : ∀ (l : List (ByteArray × Row Int)), doneS left l ≤ sizeM l := by
  intro l
  induction l with
  | nil => exact Nat.le_refl _
  | cons y r ih =>
    unfold doneS sizeM at *
    rw [List.map_cons, List.sum_cons, List.map_cons, List.sum_cons]
    split <;> omega
theorem doneS_other (left : Lit → Bool) (nm : ByteArray) : ∀ l : List (ByteArray × Row Int), (∀ f ∈ l, nm ≠ f.1) → doneS (fun x => left x && !x.sameKey (litN nm)) l = doneS left l := by
  intro l h
  unfold doneS
  congr 1
  apply List.map_congr_left
  intro f hf
  simp only [litN_same, eqN_ne (Ne.symm (h f hf)), Bool.not_false, Bool.and_true]
theorem doneS_step {left : Lit → Bool} {nm : ByteArray} {r : Row Int} (hl : left (litN nm) = true) : ∀ l : List (ByteArray × Row Int), l.Pairwise (fun p q => p.1 ≠ q.1) → (nm, r) ∈ l → doneS (fun x => left x && !x.sameKey (litN nm)) l = doneS left l + r.n := by
  intro l
  induction l with
  | nil => intro _ h; cases h
  | cons y t ih =>
    intro hp hm
    obtain ⟨h1, h2⟩ := List.pairwise_cons.1 hp
    rcases List.mem_cons.1 hm with e | hm
    · subst e
      have := doneS_other left nm t (fun f hf => h1 f hf)
      unfold doneS at *
      rw [List.map_cons, List.sum_cons, List.map_cons, List.sum_cons, this]
      simp only [litN_same, eqN_self, hl, Bool.not_true, Bool.and_false, if_true]
      simp
      omega
    · have := ih h2 hm
      have hne : nm ≠ y.1 := fun e => h1 (nm, r) hm e.symm
      unfold doneS at *
      rw [List.map_cons, List.sum_cons, List.map_cons, List.sum_cons, this]
      simp only [litN_same, eqN_ne (Ne.symm hne), Bool.not_false, Bool.and_true]
      omega
/-- An entry that the walk meets. -/
theorem mapD_met {l : List (ByteArray × Row Int)} {nm : ByteArray} {d : DataW Value} (h : ∀ z, (mapD l).atKey (litN nm) z = d) : ∃ r, d = .held (valR r) ∧ (nm, r) ∈ l := by
  have hh := Maps.has_true_of_atKey h
  rw [mapD_has] at hh
  obtain ⟨r, e, hm⟩ := find_some hh
  have := h .nil
  rw [mapD_at, e] at this
  exact ⟨r, this.symm, hm⟩
/-! a disk -/
abbrev FD := ByteArray × List Int
abbrev OD := Int × ByteArray × ByteArray × List Int
def getF (l : List FD) (nm : ByteArray) : List Int := (findF l nm).getD []
def sizeF (l : List FD) : Nat := (l.map fun f => f.2.length).sum
def opOk (o : OD) : Bool := opB o.1 o.2.1 o.2.2.1 o.2.2.2.length
def fitsB (l : List FD) (o : OD) : Bool := if o.1 = 1 then hasF l o.2.1 || decide (l.length < 12) else if o.1 = 3 then hasF l o.2.1 && !eqN o.2.2.1 o.2.1 else hasF l o.2.1
def makeF (l : List FD) (o : OD) : List FD :=
  if o.1 = 1 then withF l (o.2.1, []) else if o.1 = 2 then withF l (o.2.1, getF l o.2.1 ++ o.2.2.2) else if o.1 = 3 then withF (lessF l o.2.1) (o.2.2.1, getF l o.2.1) else lessF l o.2.1
def runF (room : Int) : List FD → List OD → Option (List FD)
  | l, [] => some l
  | l, o :: r => if opOk o && (fitsB l o && decide ((sizeF (makeF l o) : Int) ≤ room)) then runF room (makeF l o) r else none
theorem runF_no {room : Int} {l : List FD} {o : OD} {r : List OD} (h : (opOk o && (fitsB l o && decide ((sizeF (makeF l o) : Int) ≤ room))) = false) : runF room l (o :: r) = none := by
  simp only [runF]; rw [if_neg (by rw [h]; simp)]
theorem runF_yes {room : Int} {l : List FD} {o : OD} {r : List OD} (h : opOk o = true) (h2 : fitsB l o = true) (h3 : (sizeF (makeF l o) : Int) ≤ room) : runF room l (o :: r) = runF room (makeF l o) r := by
  simp only [runF]; rw [h, h2, decide_eq_true h3]; rfl
def atFD (l : List FD) (k : Nat) : FD := l.getD k (⟨#[]⟩, [])
def nameStep (l : List FD) (k : Nat) : Bool := nameB (atFD l k).1 && (decide (k = 0) || ltN (atFD l (k - 1)).1 (atFD l k).1)
def namesB (l : List FD) : Bool := (List.range l.length).all (nameStep l)
theorem namesB_no {l : List FD} {k : Nat} (h : k < l.length) (hs : nameStep l k = false) : namesB l = false := by
  unfold namesB
  rw [List.all_eq_false]
  exact ⟨k, by simpa using h, by simp [hs]⟩
theorem namesB_yes {l : List FD} (h : namesB l = true) : ∀ k, k < l.length → nameStep l k = true := by
  unfold namesB at h
  rw [List.all_eq_true] at h
  intro k hk
  exact h k (by simpa using hk)
theorem namesB_all {l : List FD} (h : ∀ k, k < l.length → nameStep l k = true) : namesB l = true := by
  unfold namesB
  rw [List.all_eq_true]
  intro k hk
  exact h k (by simpa using hk)
theorem names_below {l : List FD} (h : namesB l = true) : ∀ k, k < l.length → ∀ j, j < k → ltN (atFD l j).1 (atFD l k).1 = true := by
  intro k
  induction k with
  | zero => intro _ j hj; omega
  | succ k ih =>
    intro hk j hj
    have h1 := namesB_yes h (k + 1) hk
    unfold nameStep at h1
    simp only [Bool.and_eq_true] at h1
    have h2 : ltN (atFD l k).1 (atFD l (k + 1)).1 = true := by simpa using h1.2
    by_cases e : j = k
    · rw [e]; exact h2
    · exact ltN_trans (ih (by omega) j (by omega)) h2
/-- A disk's test. -/
def headB (room fuse : Int) (F : List FD) (O : List OD) : Bool := decide (0 ≤ room) && (decide (room ≤ 200000) && (decide (-1 ≤ fuse) && (decide (fuse ≤ 2000) && (decide (F.length ≤ 12) && decide (O.length ≤ 60)))))
def seenB (room : Int) (F : List FD) (O : List OD) : Option (List FD) := if (sizeF F : Int) ≤ room then runF room F O else none
def diskB (room fuse : Int) (F : List FD) (O : List OD) : Bool := headB room fuse F O && (namesB F && (seenB room F O).isSome)
end Go.Proofs.Ytoodlmhnemamhaa
