/- Rows of files in the reference: how many bytes, where a name lies, without a name, with a file. -/
import Derived.Test.YtoodlmhnemamhaaDiskP
import Derived.Test.YtoodlmhnemamhaaFileSK
import Derived.Test.YtoodlmhnemamhaaOut
namespace Go.Proofs.Ytoodlmhnemamhaa
open Go.RowKit
theorem toList_eqN (a b : ByteArray) : (a.toList == b.toList) = eqN a b := by rw [ByteArray.toList_eq, ByteArray.toList_eq]; rfl
theorem toList_ltN (a b : ByteArray) : Op.bytesLess a.toList b.toList = ltN a b := by rw [ByteArray.toList_eq, ByteArray.toList_eq]; rfl
def sumN (xs : List FileR) (k : Nat) : Nat := ((xs.take k).map fun f => f.dataN).sum
theorem sumN_succ (xs : List FileR) (k : Nat) (h : k < xs.length) : sumN xs (k + 1) = sumN xs k + (atFile xs k).dataN := by
  unfold sumN
  rw [List.take_succ_eq_append_getElem h, List.map_append, List.sum_append, atFile_eq xs k h]
  simp
theorem sumN_all {w : World} {y : Row FileR} (g : rdFileS w y) : sumN y.l y.l.length = sizeF (datFileS y) := by
  unfold sumN sizeF datFileS
  rw [List.take_length, List.map_map]
  congr 1
  apply List.map_congr_left
  intro f hf
  exact (g.2 f hf).len.symm
theorem sumN_up (xs : List FileR) (k : Nat) : sumN xs k ≤ sumN xs xs.length := by
  unfold sumN
  rw [List.take_length]
  conv => rhs; rw [← List.take_append_drop k xs]
  rw [List.map_append, List.sum_append]
  omega
set_option maxHeartbeats 1600000 in
theorem l02Bytes_any (y : Row FileR) (w : World) (g : rdFileS w y) (hz : sizeF (datFileS y) ≤ 4611686018427387904) :
    Calls Try.prog 48 #[.slice y.a y.n y.c] w fun e w' => e = .returned (.int .i64 (sizeF (datFileS y) : Nat)) ∧ Below w.heap.size w w' := by
  have HS := Lib.hid (sumN_all g)
  obtain ⟨a, n, c, xs⟩ := y
  obtain ⟨gr, gi⟩ := g
  simp only at gr gi HS ⊢
  rw [← HS.out] at hz
  have hm := gr.max
  have hle := gr.le
  have HB := Lib.hid (fun k => Nat.le_trans (sumN_up xs k) hz)
  clear hz
  have HL := Lib.hid gr.len
  unfold maxLen at hm
  go_enter Try.func48, Try.ntmps48
  go_wp2
  go_loopw [3, 8] (fun s i wr => ∃ k : Nat, k ≤ n ∧ s = .int .i64 (sumN xs k : Nat) ∧ i = .int .i64 k ∧ Below w.heap.size w wr) (fun _ i _ => n - (intOf i).toNat)
  case atStart => exact ⟨0, Nat.zero_le _, rfl, rfl, Below.refl _ _⟩
  case round =>
    obtain ⟨k, hk, rfl, rfl, hb⟩ := hrel
    by_cases hlt : k < n
    · obtain ⟨b, off, rfl, hbl, hc⟩ := gr.rowFile (by omega)
      obtain ⟨k0, k1⟩ := hc k hlt
      have cb : ∀ o, wr.cell? ⟨b, o, none⟩ = w.cell? ⟨b, o, none⟩ := fun o => hb.cell (p := ⟨b, o, none⟩) hbl
      rw [← cb] at k0 k1
      have HN := Lib.hid (sumN_succ xs k (by rw [HL.out]; exact hlt))
      have q1 := HB.out k
      have q2 := HB.out (k + 1)
      rw [HN.out] at q2
      have hi1 : (k : Int) < (n : Int) := by omega
      have ha := hb.trans (((Below.refl wr.heap.size wr).alloc (Nat.le_refl _) (.cells #[.string (atFile xs k).name, .slice (atFile xs k).dataA (atFile xs k).dataN (atFile xs k).dataC] 71)).mono hb.size)
      clear hc cb
      generalize atFile xs k = x at *
      obtain ⟨nm, xA, xN, xC, xL⟩ := x
      try simp only at k0 k1 q2 HN ha
      go_wp2
      go_roundw
      case rel => exact ⟨k + 1, by omega, by rw [HN.out]; go_num, by go_num, ha⟩
      case measure => simp [intOf]; omega
    · obtain rfl : k = n := by omega
      have HE : Hid (sumN xs k = sizeF (datFileS ⟨a, k, c, xs⟩)) := Lib.hid (by rw [← HS.out, HL.out])
      go_wp2
      go_ret
      exact ⟨by rw [HE.out] <;> rfl, hb⟩
/-- Where a name lies. -/
def AtRes (xs : List FileR) (nm : ByteArray) (r : Int) : Prop := (r = -1 ∧ hasF (xs.map datFile) nm = false) ∨ ∃ k : Nat, r = (k : Int) ∧ k < xs.length ∧ hasF (xs.map datFile) nm = true ∧ findF (xs.map datFile) nm = some (atFile xs k).data
theorem at_none {xs : List FileR} {nm : ByteArray} (h : ∀ j, j < xs.length → eqN (atFile xs j).name nm = false) : AtRes xs nm (-1) := by
  refine Or.inl ⟨rfl, ?_⟩
  unfold hasF
  rw [List.any_eq_false]
  intro f hf
  obtain ⟨g, hg, rfl⟩ := List.mem_map.1 hf
  obtain ⟨j, hj, rfl⟩ := List.getElem_of_mem hg
  have := h j hj
  rw [atFile_eq xs j hj] at this
  show ¬ eqN xs[j].name nm = true
  rw [this]
  simp
theorem at_some {xs : List FileR} {nm : ByteArray} {k : Nat} (hk : k < xs.length) (h : ∀ j, j < k → eqN (atFile xs j).name nm = false) (he : eqN (atFile xs k).name nm = true) : AtRes xs nm (k : Int) := by
  rw [atFile_eq xs k hk] at he
  have hf : (xs.map datFile).find? (fun f => eqN f.1 nm) = some (datFile xs[k]) := by
    have e2 : xs.map datFile = (xs.take k).map datFile ++ datFile xs[k] :: (xs.drop (k + 1)).map datFile := by
      rw [← List.map_cons, ← List.drop_eq_getElem_cons hk, ← List.map_append, List.take_append_drop]
    rw [e2, List.find?_append]
    have h1 : ((xs.take k).map datFile).find? (fun f => eqN f.1 nm) = none := by
      rw [List.find?_eq_none]
      intro f hf
      obtain ⟨g, hg, rfl⟩ := List.mem_map.1 hf
      obtain ⟨j, hj, rfl⟩ := List.getElem_of_mem hg
      rw [List.length_take] at hj
      rw [List.getElem_take]
      have := h j (by omega)
      rw [atFile_eq xs j (by omega)] at this
      show ¬ eqN xs[j].name nm = true
      rw [this]; simp
    rw [h1, List.find?_cons_of_pos (by exact he)]
    simp
  refine Or.inr ⟨k, rfl, hk, ?_, ?_⟩
  · unfold hasF
    rw [List.any_eq_true]
    exact ⟨datFile xs[k], List.mem_map_of_mem (List.getElem_mem hk), he⟩
  · unfold findF
    rw [hf, atFile_eq xs k hk]
    rfl
def RetAt (xs : List FileR) (nm : ByteArray) (w : World) (en : Ending) (w' : World) : Prop := ∃ r : Int, en = .returned (.int .i64 r) ∧ AtRes xs nm r ∧ Below w.heap.size w w'
set_option maxHeartbeats 1600000 in
theorem l02At_any (y : Row FileR) (nm : ByteArray) (w : World) (g : rdFileS w y) :
    Calls Try.prog 55 #[.slice y.a y.n y.c, .string nm] w fun e w' => RetAt y.l nm w e w' := by
  obtain ⟨a, n, c, xs⟩ := y
  obtain ⟨gr, gi⟩ := g
  simp only at gr gi ⊢
  have hm := gr.max
  have hle := gr.le
  have HL := Lib.hid gr.len
  unfold maxLen at hm
  clear gi
  go_enter Try.func55, Try.ntmps55
  go_wp2
  go_loopw [9] (fun i wr => ∃ k : Nat, k ≤ n ∧ i = .int .i64 k ∧ Hid (∀ j, j < k → eqN (atFile xs j).name nm = false) ∧ Below w.heap.size w wr) (fun i _ => n - (intOf i).toNat)
  case atStart => exact ⟨0, Nat.zero_le _, rfl, Lib.hid (fun j hj => absurd hj (Nat.not_lt_zero j)), Below.refl _ _⟩
  case round =>
    obtain ⟨k, hk, rfl, HE, hb⟩ := hrel
    by_cases hlt : k < n
    · obtain ⟨b, off, rfl, hbl, hc⟩ := gr.rowFile (by omega)
      obtain ⟨k0, k1⟩ := hc k hlt
      have cb : ∀ o, wr.cell? ⟨b, o, none⟩ = w.cell? ⟨b, o, none⟩ := fun o => hb.cell (p := ⟨b, o, none⟩) hbl
      rw [← cb] at k0 k1
      have hi1 : (k : Int) < (n : Int) := by omega
      have ha := hb.trans (((Below.refl wr.heap.size wr).alloc (Nat.le_refl _) (.cells #[.string (atFile xs k).name, .slice (atFile xs k).dataA (atFile xs k).dataN (atFile xs k).dataC] 71)).mono hb.size)
      have hse := toList_eqN (atFile xs k).name nm
      have HQ : Hid (eqN (atFile xs k).name nm = true → AtRes xs nm (k : Int)) := Lib.hid (fun h => at_some (by rw [HL.out]; exact hlt) HE.out h)
      have HW : Hid (eqN (atFile xs k).name nm = false → ∀ j, j < k + 1 → eqN (atFile xs j).name nm = false) := Lib.hid (fun h j hj => by
        by_cases e : j = k
        · rw [e]; exact h
        · exact HE.out j (by omega))
      clear hc cb HE
      generalize atFile xs k = x at *
      obtain ⟨nm2, xA, xN, xC, xL⟩ := x
      try simp only at k0 k1 ha hse HQ HW
      cases hq : eqN nm2 nm with
      | true =>
        rw [hq] at hse
        have HX := Lib.hid (HQ.out hq)
        clear hq HW HQ
        go_wp2
        go_ret
        exact ⟨_, rfl, HX.out, ha⟩
      | false =>
        rw [hq] at hse
        have HX := Lib.hid (HW.out hq)
        clear hq HW HQ
        go_wp2
        go_roundw
        case rel => exact ⟨k + 1, by omega, by go_num, HX, ha⟩
        case measure => simp [intOf]; omega
    · obtain rfl : k = n := by omega
      have HX := Lib.hid (at_none (xs := xs) (nm := nm) (fun j hj => HE.out j (by rw [HL.out] at hj; exact hj)))
      clear HE
      go_wp2
      go_ret
      exact ⟨_, rfl, HX.out, hb⟩
/-- A row of files that a call hands back: readable. -/
def FrB (lo : Nat) (y : Row FileR) : Prop := ∀ g, blkR y = some g → lo ≤ g
def RetFl (F : List FD) (w : World) (en : Ending) (w' : World) : Prop := ∃ y : Row FileR, en = .returned (.slice y.a y.n y.c) ∧ datFileS y = F ∧ rdFileS w' y ∧ Below w.heap.size w w' ∧ FrB w.heap.size y
def lessM (xs : List FileR) (nm : ByteArray) : List FileR := xs.filter fun f => !eqN f.name nm
theorem lessM_dat (xs : List FileR) (nm : ByteArray) : (lessM xs nm).map datFile = lessF (xs.map datFile) nm := by
  unfold lessM lessF
  rw [List.filter_map]
  rfl
theorem lessM_hit {xs : List FileR} {nm : ByteArray} {k : Nat} (h : k < xs.length) (he : eqN (atFile xs k).name nm = true) : lessM (xs.take (k + 1)) nm = lessM (xs.take k) nm := by
  unfold lessM
  rw [List.take_succ_eq_append_getElem h, List.filter_append, ← atFile_eq xs k h]
  simp [he]
theorem lessM_miss {xs : List FileR} {nm : ByteArray} {k : Nat} (h : k < xs.length) (he : eqN (atFile xs k).name nm = false) : lessM (xs.take (k + 1)) nm = lessM (xs.take k) nm ++ [atFile xs k] := by
  unfold lessM
  rw [List.take_succ_eq_append_getElem h, List.filter_append, ← atFile_eq xs k h]
  simp [he]
theorem one_file (x : FileR) : ∀ u ∈ encFile x, u.oneCell' = true := by
  intro u hu
  simp [encFile] at hu
  rcases hu with rfl | rfl <;> rfl
theorem news_two (w : World) (o : Obj) (x y : Value) (t : TypeId) : ∀ (j : Nat) (u : Value), [x, y][j]? = some u → ((w.alloc o).alloc (.cells #[x, y] t)).cell? ((⟨w.heap.size + 1, 0, none⟩ : Addr).add j) = some u := by
  intro j u hu
  rcases j with _ | _ | j
  · obtain rfl : x = u := by simpa using hu
    simp [Addr.add, go_sem]
  · obtain rfl : y = u := by simpa using hu
    simp [Addr.add, go_sem]
  · simp at hu
theorem news_twoB (w : World) (x y : Value) (t : TypeId) : ∀ (j : Nat) (u : Value), [x, y][j]? = some u → (w.alloc (.cells #[x, y] t)).cell? ((⟨w.heap.size, 0, none⟩ : Addr).add j) = some u := by
  intro j u hu
  rcases j with _ | _ | j
  · obtain rfl : x = u := by simpa using hu
    simp [Addr.add, go_sem]
  · obtain rfl : y = u := by simpa using hu
    simp [Addr.add, go_sem]
  · simp at hu
/-- Append onto an output row: nothing but the row is written. -/
theorem app_outg {P : Program} {w : World} {ops : Array Oper} {rest : List Oper} {o : Oper} {a : Act} {Q : Exit → Act → World → Prop} (hgd : o.guard = none) (s x : Operand) (t : TypeId)
    (ho : o.op = .call { callee := .builtin .append, args := #[s, x], argTypes := #[t, t] })
    (lo B : Nat) (e : TypeId) {i : TypeInfo} {z : Value} {size bytes : Nat} (ht : P.underlying t = some (.slice e)) (hi : P.info? e = some i) (hz : i.zero = some z)
    (hsize : i.size = size) (hby : i.bytes = bytes) (hzs : z.cells.size = size) (hsz : 0 < size)
    (A : Option Addr) (n C : Nat) (xs : List Value) (hs : a.eval s = .slice A n C) (hown : OutRow lo B e size w A n C xs)
    (ad : Addr) (m c : Nat) (news : List Value) (hx : a.eval x = .slice (some ad) m c) (hl : news.length = m * size) (hnews : ∀ (j : Nat) (u : Value), news[j]? = some u → w.cell? (ad.add j) = some u)
    (h1 : ∀ u ∈ news, u.oneCell' = true) (hm : 0 < m)
    (h63 : n + m ≤ maxLen) (hbytes : (n + m) * bytes ≤ 140737488355328) (hbase : lo ≤ B) (hbB : B ≤ w.heap.size)
    (h : ∀ (A' : Option Addr) (C' : Nat) (w' : World), OutRow lo B e size w' A' (n + m) C' (xs ++ news) → w.grownBy w' (Value.slice A n C).ownBlock → Below B w w' → wpList P ops Q rest (a.put o.dst (.slice A' (n + m) C')) w') : wpList P ops Q (o :: rest) a w := by
  rcases hown.2 with hB | hC
  · refine wpList_append_own w hgd s x t ho B e i z size bytes ht hi hz hsize hby hzs hsz _ n xs hs hB ad m c news hx hl hnews h1 h63 hbytes hbB ?_
    intro v' w' ho' hg _
    obtain ⟨A', C', rfl, _⟩ := own_shape ho'
    exact h A' C' w' ⟨own_base ho' hbase, Or.inl ho'⟩ hg (below_grown hg hbB (fun k hk => (World.ownsRow.lt hB k hk).1))
  · subst hC
    obtain ⟨A2, cap2, hv, hn, _⟩ := own_shape hown.1
    cases hv
    obtain rfl : n = 0 := by omega
    have hnil : xs = [] := by
      have := hown.1.1
      exact List.eq_nil_of_length_eq_zero (by omega)
    subst hnil
    refine wpList_append_grows w hgd s x t ho e i z size bytes ht hi hz hsize hby hzs hsz A 0 0 [] hs (fun _ => ⟨rfl, rfl⟩) (by simp) (fun b _ j u hu => by simp at hu) ad m c news hx hl hnews h1 (by omega) h63 hbytes ?_
    intro v' w' ho' hg
    obtain ⟨A', C', rfl, _⟩ := own_shape ho'
    exact h A' C' w' ⟨own_base ho' (Nat.le_trans hbase hbB), Or.inl (own_base ho' hbB)⟩ (hg.but _) (below_grown hg hbB (fun k hk => by cases hk))
/-- An output row of files: owned from lo on; what stood in w1 stands. -/
structure FlInv (lo : Nat) (w1 : World) (wr : World) (A : Option Addr) (m C : Nat) (es : List FileR) : Prop where
  out : OutRow lo w1.heap.size 71 2 wr A m C (es.flatMap encFile)
  len : es.length = m
  bel : Below w1.heap.size w1 wr
  lo_le : lo ≤ w1.heap.size
theorem FlInv.start (w w1 : World) (hb : Below (w.alloc (.cells #[] 71)).heap.size (w.alloc (.cells #[] 71)) w1) : FlInv w.heap.size w1 w1 (some ⟨w.heap.size, 0, none⟩) 0 0 [] :=
  ⟨(OutRow.lit w _ 2 _).below hb, rfl, Below.refl _ _, by have := hb.size; simp at this; omega⟩
theorem FlInv.later {lo : Nat} {w1 wr w' : World} {A : Option Addr} {m C : Nat} {es : List FileR} (h : FlInv lo w1 wr A m C es) (hb : Below wr.heap.size wr w') : FlInv lo w1 w' A m C es :=
  ⟨h.out.below hb, h.len, h.bel.trans (hb.mono h.bel.size), h.lo_le⟩
theorem FlInv.ret {lo : Nat} {w w1 wr : World} {A : Option Addr} {m C : Nat} {es : List FileR} (h : FlInv lo w1 wr A m C es) (hb : Below w.heap.size w w1) (hi : ∀ f ∈ es, rdFile wr f) (hlo : w.heap.size ≤ lo) : RetFl (es.map datFile) w (.returned (.slice A m C)) wr :=
  ⟨⟨A, m, C, es⟩, rfl, rfl, ⟨Rd.of_own (fun x _ => lenFile x) h.out.1 h.len, hi⟩, hb.trans (h.bel.mono hb.size), fun g hg => Nat.le_trans hlo (World.ownsRow.lt h.out.1 g hg).1⟩
/-- One more, out of a world in which the row stands. -/
theorem FlInv.snoc {lo : Nat} {w1 wr w4 : World} {A : Option Addr} {m C : Nat} {es : List FileR} (h : FlInv lo w1 wr A m C es) {A2 : Option Addr} {C2 : Nat} {x : FileR} {B : Nat} (hB : B = w1.heap.size) (ho : OutRow lo B 71 2 w4 A2 (m + 1) C2 (es.flatMap encFile ++ encFile x)) (hb : Below B wr w4) : FlInv lo w1 w4 A2 (m + 1) C2 (es ++ [x]) := by
  subst hB
  exact ⟨by rw [List.flatMap_append]; simpa using ho, by rw [List.length_append, h.len]; rfl, h.bel.trans hb, h.lo_le⟩
set_option maxHeartbeats 3200000 in
theorem l02Less_any (y : Row FileR) (nm : ByteArray) (w : World) (g : rdFileS w y) (hn : y.n ≤ 1000) :
    Calls Try.prog 67 #[.slice y.a y.n y.c, .string nm] w fun e w' => RetFl (lessF (datFileS y) nm) w e w' := by
  obtain ⟨a, n, c, xs⟩ := y
  obtain ⟨gr, gi⟩ := g
  simp only at gr gi hn ⊢
  have hm := gr.max
  have hle := gr.le
  have HL := Lib.hid gr.len
  unfold maxLen at hm
  obtain ⟨i0, hi, hz0, hz1, hz2⟩ := info_parts infoFile
  have HR : Hid (lessF (datFileS ⟨a, n, c, xs⟩) nm = (lessM (xs.take xs.length) nm).map datFile) := Lib.hid (by rw [List.take_length, lessM_dat]; rfl)
  have HG := Lib.hid gi
  have hb0 := (Below.refl w.heap.size w).alloc (Nat.le_refl _) (.cells #[] 71)
  clear gi
  rw [HR.out]
  go_enter Try.func67, Try.ntmps67
  go_wp2
  go_loopw [5, 11] (fun o i wr => ∃ (k : Nat) (A : Option Addr) (m C : Nat), k ≤ n ∧ o = .slice A m C ∧ i = .int .i64 k ∧ m ≤ k ∧ Hid (FlInv w.heap.size (w.alloc (.cells #[] 71)) wr A m C (lessM (xs.take k) nm))) (fun _ i _ => n - (intOf i).toNat)
  case atStart => exact ⟨0, _, 0, 0, Nat.zero_le _, rfl, rfl, Nat.le_refl _, Lib.hid (FlInv.start w _ (Below.refl _ _))⟩
  case round =>
    obtain ⟨k, A, m, C, hk, rfl, rfl, hmk, HI⟩ := hrel
    by_cases hlt : k < n
    · obtain ⟨b, off, rfl, hbl, hc⟩ := gr.rowFile (by omega)
      obtain ⟨k0, k1⟩ := hc k hlt
      have cb : ∀ o, wr.cell? ⟨b, o, none⟩ = w.cell? ⟨b, o, none⟩ := fun o => (HI.out.bel.cell (p := ⟨b, o, none⟩) (by simp; omega)).trans (hb0.cell (p := ⟨b, o, none⟩) hbl)
      rw [← cb] at k0 k1
      have hi1 : (k : Int) < (n : Int) := by omega
      have hse := toList_eqN (atFile xs k).name nm
      have hkx : k < xs.length := by rw [HL.out]; exact hlt
      have H1 : Hid (eqN (atFile xs k).name nm = true → lessM (xs.take (k + 1)) nm = lessM (xs.take k) nm) := Lib.hid (lessM_hit hkx)
      have H2 : Hid (eqN (atFile xs k).name nm = false → lessM (xs.take (k + 1)) nm = lessM (xs.take k) nm ++ [atFile xs k]) := Lib.hid (lessM_miss hkx)
      clear hc cb hkx
      generalize lessM (xs.take k) nm = es at *
      generalize atFile xs k = x at *
      obtain ⟨nm2, xA, xN, xC, xL⟩ := x
      try simp only at k0 k1 hse H1 H2
      cases hq : eqN nm2 nm with
      | true =>
        rw [hq] at hse
        have HX := Lib.hid (H1.out hq)
        have HI2 := Lib.hid (HI.out.later ((Below.refl wr.heap.size wr).alloc (Nat.le_refl _) (.cells #[.string nm2, .slice xA xN xC] 71)))
        clear hq H1 H2 HI
        go_wp2
        go_roundw
        case rel => exact ⟨k + 1, A, m, C, by omega, rfl, by go_num, by omega, by rw [HX.out]; exact HI2⟩
        case measure => simp [intOf]; omega
      | false =>
        rw [hq] at hse
        have HX := Lib.hid (H2.out hq)
        have HI2 := Lib.hid (HI.out.later (((Below.refl wr.heap.size wr).alloc (Nat.le_refl _) (.cells #[.string nm2, .slice xA xN xC] 71)).alloc (by simp) (.cells #[.string nm2, .slice xA xN xC] 71)))
        clear hq H1 H2
        go_wp2_with (at_builtin; refine app_outg rfl _ _ 31 rfl w.heap.size (w.alloc (.cells #[] 71)).heap.size 71 Try.underlying31 hi hz0 hz1 hz2 rfl (by decide) A m C (es.flatMap encFile) rfl HI2.out.out ⟨wr.heap.size + 1, 0, none⟩ 1 1 [.string nm2, .slice xA xN xC] rfl rfl ?c3 (one_file ⟨nm2, xA, xN, xC, []⟩) (by decide) ?c4 ?c5 ?c6 ?c7 ?_)
        case c3 => exact news_two wr _ _ _ _
        case c4 => unfold maxLen; omega
        case c5 => omega
        case c6 => exact HI2.out.lo_le
        case c7 => exact HI2.out.bel.size
        intro A2 C2 w4 ho2 _ hb4
        have HN : Hid (FlInv w.heap.size (w.alloc (.cells #[] 71)) w4 A2 (m + 1) C2 (es ++ [⟨nm2, xA, xN, xC, xL⟩])) := Lib.hid (HI2.out.snoc (by simp) ho2 hb4)
        clear HI HI2 ho2 hb4
        go_wp2
        go_roundw
        case rel => exact ⟨k + 1, A2, m + 1, C2, by omega, rfl, by go_num, by omega, by rw [HX.out]; exact HN⟩
        case measure => simp [intOf]; omega
    · obtain rfl : k = n := by omega
      have HG2 : Hid (∀ f ∈ lessM (xs.take xs.length) nm, rdFile wr f) := Lib.hid (fun f hf => rdFile_below (HG.out f (List.mem_of_mem_take (List.mem_filter.1 hf).1)) (hb0.trans (HI.out.bel.mono hb0.size)) (Nat.le_refl _))
      have HI2 : Hid (FlInv w.heap.size (w.alloc (.cells #[] 71)) wr A m C (lessM (xs.take xs.length) nm)) := Lib.hid (by rw [HL.out]; exact HI.out)
      clear HI
      go_wp2
      go_ret
      exact HI2.out.ret hb0 HG2.out (Nat.le_refl _)
theorem gt_eqN (a b : ByteArray) : (!(ltN a b || eqN a b)) = ltN b a := by
  cases h : ltN b a
  · by_cases e : a = b
    · rw [e, eqN_self]; simp
    · have : ltN a b = true := by
        unfold ltN at *
        rw [less_before] at *
        rcases WideAt.bytes_total a.data.toList b.data.toList (fun h2 => e (eqN_iff.1 (by unfold eqN; rw [h2]; simp))) with h3 | h3
        · exact h3
        · rw [h3] at h; cases h
      rw [this]; simp
  · rw [ltN_asym h, eqN_ne (Ne.symm (ltN_ne h))]; rfl
/-- Putting in, step by step: what is written, and whether x is in. -/
def stepW (x : FileR) (s : List FileR × Bool) (f : FileR) : List FileR × Bool := if s.2 = false ∧ ltN x.name f.name = true then (s.1 ++ [x, f], true) else (s.1 ++ [f], s.2)
def foldW (x : FileR) (l : List FileR) : List FileR × Bool := l.foldl (stepW x) ([], false)
def endW (x : FileR) (s : List FileR × Bool) : List FileR := if s.2 then s.1 else s.1 ++ [x]
theorem foldW_succ (x : FileR) (l : List FileR) (k : Nat) (h : k < l.length) : foldW x (l.take (k + 1)) = stepW x (foldW x (l.take k)) (atFile l k) := by
  unfold foldW
  rw [List.take_succ_eq_append_getElem h, List.foldl_append, atFile_eq l k h]
  rfl
theorem fold_in (x : FileR) : ∀ (l es : List FileR), l.foldl (stepW x) (es, true) = (es ++ l, true) := by
  intro l
  induction l with
  | nil => intro es; simp
  | cons f r ih =>
    intro es
    rw [List.foldl_cons, show stepW x (es, true) f = (es ++ [f], true) from by unfold stepW; simp, ih]
    simp
theorem fold_out (x : FileR) : ∀ (l es : List FileR), (endW x (l.foldl (stepW x) (es, false))).map datFile = es.map datFile ++ insF (datFile x) (l.map datFile) := by
  intro l
  induction l with
  | nil => intro es; simp [endW, insF]
  | cons f r ih =>
    intro es
    rw [List.foldl_cons, List.map_cons]
    simp only [insF]
    by_cases h : ltN x.name f.name = true
    · rw [show stepW x (es, false) f = (es ++ [x, f], true) from by unfold stepW; simp [h], fold_in, if_pos (show ltN (datFile x).1 (datFile f).1 = true from h)]
      simp [endW]
    · rw [show stepW x (es, false) f = (es ++ [f], false) from by unfold stepW; simp [h], ih, if_neg (show ¬ ltN (datFile x).1 (datFile f).1 = true from h)]
      simp
theorem foldW_dat (x : FileR) (l : List FileR) : (endW x (foldW x l)).map datFile = insF (datFile x) (l.map datFile) := by
  unfold foldW
  rw [fold_out]
  rfl
theorem fold_mem (x : FileR) : ∀ (l : List FileR) (s : List FileR × Bool), ∀ f ∈ (l.foldl (stepW x) s).1, f ∈ s.1 ∨ f = x ∨ f ∈ l := by
  intro l
  induction l with
  | nil => intro s f hf; exact Or.inl hf
  | cons g r ih =>
    intro s f hf
    rw [List.foldl_cons] at hf
    rcases ih _ f hf with h | h | h
    · unfold stepW at h
      split at h
      · simp only [List.mem_append, List.mem_cons, List.not_mem_nil, or_false] at h
        rcases h with h | h | h
        · exact Or.inl h
        · exact Or.inr (Or.inl h)
        · exact Or.inr (Or.inr (by simp [h]))
      · simp only [List.mem_append, List.mem_cons, List.not_mem_nil, or_false] at h
        rcases h with h | h
        · exact Or.inl h
        · exact Or.inr (Or.inr (by simp [h]))
    · exact Or.inr (Or.inl h)
    · exact Or.inr (Or.inr (by simp [h]))
theorem foldW_mem (x : FileR) (l : List FileR) : ∀ f ∈ endW x (foldW x l), f = x ∨ f ∈ l := by
  intro f hf
  unfold endW foldW at hf
  have key : ∀ f ∈ (l.foldl (stepW x) ([], false)).1, f = x ∨ f ∈ l := by
    intro f hf
    rcases fold_mem x l ([], false) f hf with h | h
    · cases h
    · exact h
  split at hf
  · exact key f hf
  · rcases List.mem_append.1 hf with h | h
    · exact key f h
    · exact Or.inl (by simpa using h)
theorem foldW_len (x : FileR) : ∀ (l : List FileR) (s : List FileR × Bool), (l.foldl (stepW x) s).1.length ≤ s.1.length + 2 * l.length := by
  intro l
  induction l with
  | nil => intro s; simp
  | cons f r ih =>
    intro s
    rw [List.foldl_cons]
    have h1 := ih (stepW x s f)
    have h2 : (stepW x s f).1.length ≤ s.1.length + 2 := by unfold stepW; split <;> simp
    rw [List.length_cons]
    omega
set_option maxRecDepth 100000 in
set_option maxHeartbeats 6400000 in
theorem l02With_any (y : Row FileR) (x : FileR) (w : World) (g : rdFileS w y) (gx : rdFile w x) (hn : y.n ≤ 1000) :
    Calls Try.prog 66 #[.slice y.a y.n y.c, .agg #[.string x.name, .slice x.dataA x.dataN x.dataC]] w fun e w' => RetFl (withF (datFileS y) (datFile x)) w e w' := by
  have hb0 := (Below.refl w.heap.size w).alloc (Nat.le_refl _) (.cells #[.string x.name, .slice x.dataA x.dataN x.dataC] 71)
  have HG0 := Lib.hid (rdFileS_below g hb0 (Nat.le_refl _))
  have HX0 := Lib.hid (rdFile_below gx hb0 (Nat.le_refl _))
  have hyl : (datFileS y).length = y.n := by unfold datFileS; rw [List.length_map]; exact g.1.len
  have hln : (lessF (datFileS y) x.name).length ≤ 1000 := by have := len_less (datFileS y) x.name; omega
  have B0 : (w.alloc (.cells #[.string x.name, .slice x.dataA x.dataN x.dataC] 71)).cell? ⟨w.heap.size, 0, none⟩ = some (.string x.name) := by simp [go_sem]
  have B1 : (w.alloc (.cells #[.string x.name, .slice x.dataA x.dataN x.dataC] 71)).cell? ⟨w.heap.size, 1, none⟩ = some (.slice x.dataA x.dataN x.dataC) := by simp [go_sem]
  have hbl0 : w.heap.size < (w.alloc (.cells #[.string x.name, .slice x.dataA x.dataN x.dataC] 71)).heap.size := by simp
  have HZ0 : Hid ((w.alloc (.cells #[.string x.name, .slice x.dataA x.dataN x.dataC] 71)).heap.size = w.heap.size + 1) := Lib.hid (by simp)
  clear g gx hyl
  go_enter Try.func66, Try.ntmps66
  go_wp2_with fail
  generalize w.alloc (.cells #[.string x.name, .slice x.dataA x.dataN x.dataC] 71) = W0 at *
  have hal := (Below.refl W0.heap.size W0).alloc (Nat.le_refl _) (.cells #[] 71)
  refine (l02Less_any y x.name _ (rdFileS_below HG0.out hal (Nat.le_refl _)) hn).mono ?_
  rintro e w1 ⟨⟨qA, qN, qC, qs⟩, rfl, hdq, ⟨hrq, hiq⟩, hb1, _⟩
  have HI0 := Lib.hid (FlInv.start W0 w1 hb1)
  rw [HZ0.out] at HI0
  have hW1 := hal.trans (hb1.mono hal.size)
  have HX1 := Lib.hid (rdFile_below HX0.out hW1 (Nat.le_refl _))
  have HQ1 := Lib.hid hiq
  have B01 := cell_later hW1 B0
  have B11 := cell_later hW1 B1
  have hqn : qN ≤ 1000 := by
    have h2 := hrq.len
    simp only at h2
    rw [← hdq] at hln
    unfold datFileS at hln
    rw [List.length_map] at hln
    simp only at hln
    omega
  have HF : Hid (withF (datFileS y) (datFile x) = (endW x (foldW x (qs.take qs.length))).map datFile) := Lib.hid (by
    rw [List.take_length, foldW_dat]
    unfold withF
    rw [show lessF (datFileS y) (datFile x).1 = qs.map datFile from hdq.symm])
  have HQL := Lib.hid hrq.len
  have rm := hrq.max
  have rl := hrq.le
  unfold maxLen at rm
  simp only at rm rl hrq HQL
  have HBW := Lib.hid (hb0.trans (hW1.mono hb0.size))
  have hx1 := hb0.size
  have hx2 := hW1.size
  obtain ⟨i0, hi, hz0, hz1, hz2⟩ := info_parts infoFile
  clear B0 B1 hal hb1 hdq hiq HG0 HX0 hln hW1
  go_wp2
  go_loopw [5, 6, 15] (fun o d i wr => ∃ (k : Nat) (A : Option Addr) (m C : Nat), k ≤ qN ∧ o = .slice A m C ∧ d = .bool (foldW x (qs.take k)).2 ∧ i = .int .i64 k ∧ m ≤ 2 * k ∧ Hid (FlInv (w.heap.size + 1) w1 wr A m C (foldW x (qs.take k)).1)) (fun _ _ i _ => qN - (intOf i).toNat)
  case atStart => exact ⟨0, _, 0, 0, Nat.zero_le _, rfl, rfl, rfl, Nat.zero_le _, HI0⟩
  case round =>
    obtain ⟨k, A, m, C, hk, rfl, rfl, rfl, hmk, HI⟩ := hrel
    have B02 := cell_later HI.out.bel B01
    have B12 := cell_later HI.out.bel B11
    have hsz := HI.out.bel.size
    by_cases hlt : k < qN
    · obtain ⟨b, off, rfl, hbl, hc⟩ := hrq.rowFile (by omega)
      obtain ⟨k0, k1⟩ := hc k hlt
      have cb : ∀ o, wr.cell? ⟨b, o, none⟩ = w1.cell? ⟨b, o, none⟩ := fun o => HI.out.bel.cell (p := ⟨b, o, none⟩) hbl
      rw [← cb] at k0 k1
      have hi1 : (k : Int) < (qN : Int) := by omega
      have h1 := toList_ltN (atFile qs k).name x.name
      have h2 := toList_eqN (atFile qs k).name x.name
      have h3 := gt_eqN (atFile qs k).name x.name
      have HS := Lib.hid (foldW_succ x qs k (by rw [HQL.out]; exact hlt))
      clear hc cb
      obtain ⟨⟨es, dn⟩, hes⟩ : ∃ s, s = foldW x (qs.take k) := ⟨_, rfl⟩
      rw [← hes] at HI HS ⊢
      generalize atFile qs k = f at *
      obtain ⟨nm2, xA, xN, xC, xL⟩ := f
      try simp only at k0 k1 h1 h2 h3 HI
      have halF := (Below.refl wr.heap.size wr).alloc (Nat.le_refl _) (.cells #[.string nm2, .slice xA xN xC] 71)
      have B03 := cell_later halF B02
      have B13 := cell_later halF B12
      have HI2 := Lib.hid (HI.out.later (((Below.refl wr.heap.size wr).alloc (Nat.le_refl _) (.cells #[.string nm2, .slice xA xN xC] 71)).alloc (by simp) (.cells #[.string nm2, .slice xA xN xC] 71)))
      have HI3 := Lib.hid (HI.out.later (((Below.refl wr.heap.size wr).alloc (Nat.le_refl _) (.cells #[.string nm2, .slice xA xN xC] 71)).alloc (by simp) (.cells #[.string x.name, .slice x.dataA x.dataN x.dataC] 71)))
      cases dn with
      | true =>
        have HX : Hid (foldW x (qs.take (k + 1)) = (es ++ [⟨nm2, xA, xN, xC, xL⟩], true)) := Lib.hid (by rw [HS.out]; unfold stepW; simp)
        clear HS h1 h2 h3 HI HI3
        go_wp2_with (at_builtin; refine app_outg rfl _ _ 31 rfl (w.heap.size + 1) w1.heap.size 71 Try.underlying31 hi hz0 hz1 hz2 rfl (by decide) A m C (es.flatMap encFile) rfl HI2.out.out ⟨wr.heap.size + 1, 0, none⟩ 1 1 [.string nm2, .slice xA xN xC] rfl rfl ?c3 (one_file ⟨nm2, xA, xN, xC, []⟩) (by decide) ?c4 ?c5 ?c6 ?c7 ?_)
        case c3 => exact news_two wr _ _ _ _
        case c4 => unfold maxLen; omega
        case c5 => omega
        case c6 => exact HI2.out.lo_le
        case c7 => exact HI2.out.bel.size
        intro A2 C2 w4 ho2 _ hb4
        have HN : Hid (FlInv (w.heap.size + 1) w1 w4 A2 (m + 1) C2 (es ++ [⟨nm2, xA, xN, xC, xL⟩])) := Lib.hid (HI2.out.snoc rfl ho2 hb4)
        clear HI2 ho2 hb4
        go_wp2
        go_roundw
        case rel => exact ⟨k + 1, A2, m + 1, C2, by omega, rfl, by rw [HX.out], by go_num, by omega, by rw [HX.out]; exact HN⟩
        case measure => simp [intOf]; omega
      | false =>
        cases hq : ltN x.name nm2 with
        | false =>
          have HX : Hid (foldW x (qs.take (k + 1)) = (es ++ [⟨nm2, xA, xN, xC, xL⟩], false)) := Lib.hid (by rw [HS.out]; unfold stepW; simp [hq])
          have hcase : Op.bytesLess nm2.toList x.name.toList = true ∨ (Op.bytesLess nm2.toList x.name.toList = false ∧ (nm2.toList == x.name.toList) = true) := by
            rw [h1, h2]
            rw [hq] at h3
            cases ha : ltN nm2 x.name
            · rw [ha] at h3
              right
              exact ⟨rfl, by simpa using h3⟩
            · exact Or.inl rfl
          clear HS h1 h2 h3 HI HI3 hq
          rcases hcase with g1 | ⟨g1, g2⟩
          · go_wp2_with (at_builtin; refine app_outg rfl _ _ 31 rfl (w.heap.size + 1) w1.heap.size 71 Try.underlying31 hi hz0 hz1 hz2 rfl (by decide) A m C (es.flatMap encFile) rfl HI2.out.out ⟨wr.heap.size + 1, 0, none⟩ 1 1 [.string nm2, .slice xA xN xC] rfl rfl ?d3 (one_file ⟨nm2, xA, xN, xC, []⟩) (by decide) ?d4 ?d5 ?d6 ?d7 ?_)
            case d3 => exact news_two wr _ _ _ _
            case d4 => unfold maxLen; omega
            case d5 => omega
            case d6 => exact HI2.out.lo_le
            case d7 => exact HI2.out.bel.size
            intro A2 C2 w4 ho2 _ hb4
            have HN : Hid (FlInv (w.heap.size + 1) w1 w4 A2 (m + 1) C2 (es ++ [⟨nm2, xA, xN, xC, xL⟩])) := Lib.hid (HI2.out.snoc rfl ho2 hb4)
            clear HI2 ho2 hb4
            go_wp2
            go_roundw
            case rel => exact ⟨k + 1, A2, m + 1, C2, by omega, rfl, by rw [HX.out], by go_num, by omega, by rw [HX.out]; exact HN⟩
            case measure => simp [intOf]; omega
          · go_wp2_with (at_builtin; refine app_outg rfl _ _ 31 rfl (w.heap.size + 1) w1.heap.size 71 Try.underlying31 hi hz0 hz1 hz2 rfl (by decide) A m C (es.flatMap encFile) rfl HI2.out.out ⟨wr.heap.size + 1, 0, none⟩ 1 1 [.string nm2, .slice xA xN xC] rfl rfl ?f3 (one_file ⟨nm2, xA, xN, xC, []⟩) (by decide) ?f4 ?f5 ?f6 ?f7 ?_)
            case f3 => exact news_two wr _ _ _ _
            case f4 => unfold maxLen; omega
            case f5 => omega
            case f6 => exact HI2.out.lo_le
            case f7 => exact HI2.out.bel.size
            intro A2 C2 w4 ho2 _ hb4
            have HN : Hid (FlInv (w.heap.size + 1) w1 w4 A2 (m + 1) C2 (es ++ [⟨nm2, xA, xN, xC, xL⟩])) := Lib.hid (HI2.out.snoc rfl ho2 hb4)
            clear HI2 ho2 hb4
            go_wp2
            go_roundw
            case rel => exact ⟨k + 1, A2, m + 1, C2, by omega, rfl, by rw [HX.out], by go_num, by omega, by rw [HX.out]; exact HN⟩
            case measure => simp [intOf]; omega
        | true =>
          have HX : Hid (foldW x (qs.take (k + 1)) = (es ++ [x] ++ [⟨nm2, xA, xN, xC, xL⟩], true)) := Lib.hid (by rw [HS.out]; unfold stepW; simp [hq])
          have g1 : Op.bytesLess nm2.toList x.name.toList = false := by rw [h1]; exact ltN_asym hq
          have g2 : (nm2.toList == x.name.toList) = false := by rw [h2]; exact eqN_ne (Ne.symm (ltN_ne hq))
          have hfl : ∀ g, (Value.slice A m C).ownBlock = some g → g < wr.heap.size := fun g hg => (World.ownsRow.lt HI.out.out.1 g hg).2
          clear HS h1 h2 h3 HI HI2 hq
          go_wp2_with (at_builtin; refine app_outg rfl _ _ 31 rfl (w.heap.size + 1) w1.heap.size 71 Try.underlying31 hi hz0 hz1 hz2 rfl (by decide) A m C (es.flatMap encFile) rfl HI3.out.out ⟨wr.heap.size + 1, 0, none⟩ 1 1 [.string x.name, .slice x.dataA x.dataN x.dataC] rfl rfl ?e3 (one_file x) (by decide) ?e4 ?e5 ?e6 ?e7 ?_)
          case e3 => exact news_two wr _ _ _ _
          case e4 => unfold maxLen; omega
          case e5 => omega
          case e6 => exact HI3.out.lo_le
          case e7 => exact HI3.out.bel.size
          intro A2 C2 w4 ho2 hg4 hb4
          have hbk : w4.heap[wr.heap.size]? = ((wr.alloc (.cells #[.string nm2, .slice xA xN xC] 71)).alloc (.cells #[.string x.name, .slice x.dataA x.dataN x.dataC] 71)).heap[wr.heap.size]? := hg4.block _ (by simp; omega) (fun e1 => Nat.lt_irrefl _ (hfl _ e1.symm))
          have F0 : w4.cell? ⟨wr.heap.size, 0, none⟩ = some (.string nm2) := (World.cell?_of_block (a := ⟨wr.heap.size, 0, none⟩) hbk).trans (by simp [go_sem])
          have F1 : w4.cell? ⟨wr.heap.size, 1, none⟩ = some (.slice xA xN xC) := (World.cell?_of_block (a := ⟨wr.heap.size, 1, none⟩) hbk).trans (by simp [go_sem])
          have HN4 : Hid (FlInv (w.heap.size + 1) w1 w4 A2 (m + 1) C2 (es ++ [x])) := Lib.hid (HI3.out.snoc rfl ho2 hb4)
          have HN5 := Lib.hid (HN4.out.later ((Below.refl w4.heap.size w4).alloc (Nat.le_refl _) (.cells #[.string nm2, .slice xA xN xC] 71)))
          clear HI3 ho2 hg4 hb4 hbk hfl HN4
          go_wp2_with (at_builtin; refine app_outg rfl _ _ 31 rfl (w.heap.size + 1) w1.heap.size 71 Try.underlying31 hi hz0 hz1 hz2 rfl (by decide) A2 (m + 1) C2 ((es ++ [x]).flatMap encFile) rfl HN5.out.out ⟨w4.heap.size, 0, none⟩ 1 1 [.string nm2, .slice xA xN xC] rfl rfl ?g3 (one_file ⟨nm2, xA, xN, xC, []⟩) (by decide) ?g4 ?g5 ?g6 ?g7 ?_)
          case g3 => exact news_twoB w4 _ _ _
          case g4 => unfold maxLen; omega
          case g5 => omega
          case g6 => exact HN5.out.lo_le
          case g7 => exact HN5.out.bel.size
          intro A3 C3 w5 ho3 _ hb5
          have HN : Hid (FlInv (w.heap.size + 1) w1 w5 A3 (m + 1 + 1) C3 (es ++ [x] ++ [⟨nm2, xA, xN, xC, xL⟩])) := Lib.hid (HN5.out.snoc rfl (by show OutRow _ _ _ _ _ _ _ _ ((es ++ [x]).flatMap encFile ++ [.string nm2, .slice xA xN xC]); simpa using ho3) hb5)
          clear HN5 ho3 hb5
          go_wp2
          go_roundw
          case rel => exact ⟨k + 1, A3, m + 1 + 1, C3, by omega, rfl, by rw [HX.out], by go_num, by omega, by rw [HX.out]; exact HN⟩
          case measure => simp [intOf]; omega
    · obtain rfl : k = qN := by omega
      have HM : Hid (∀ f ∈ endW x (foldW x (qs.take qs.length)), rdFile wr f) := Lib.hid (fun f hf => by
        rcases foldW_mem x _ f hf with h | h
        · rw [h]; exact rdFile_below HX1.out HI.out.bel (Nat.le_refl _)
        · exact rdFile_below (HQ1.out f (List.mem_of_mem_take h)) HI.out.bel (Nat.le_refl _))
      rw [← HQL.out] at HI ⊢
      obtain ⟨⟨es, dn⟩, hes⟩ : ∃ s, s = foldW x (qs.take qs.length) := ⟨_, rfl⟩
      rw [← hes] at HI HM HF ⊢
      try simp only at HI
      cases dn with
      | true =>
        have HE : Hid (endW x (es, true) = es) := Lib.hid rfl
        rw [HE.out] at HM HF
        go_wp2
        go_ret
        rw [HF.out]
        exact HI.out.ret HBW.out HM.out (Nat.le_succ _)
      | false =>
        have HE : Hid (endW x (es, false) = es ++ [x]) := Lib.hid rfl
        rw [HE.out] at HM HF
        have HI4 := Lib.hid (HI.out.later ((Below.refl wr.heap.size wr).alloc (Nat.le_refl _) (.cells #[.string x.name, .slice x.dataA x.dataN x.dataC] 71)))
        have HRR : Hid (∀ w4, Below w1.heap.size w1 w4 → ∀ f ∈ es ++ [x], rdFile w4 f) := Lib.hid (fun w4 hb f hf => by
          have hf2 : f ∈ endW x (foldW x (qs.take qs.length)) := by rw [← hes, HE.out]; exact hf
          rcases foldW_mem x _ f hf2 with h | h
          · rw [h]; exact rdFile_below HX1.out hb (Nat.le_refl _)
          · exact rdFile_below (HQ1.out f (List.mem_of_mem_take h)) hb (Nat.le_refl _))
        clear HI hes
        go_wp2_with (at_builtin; refine app_outg rfl _ _ 31 rfl (w.heap.size + 1) w1.heap.size 71 Try.underlying31 hi hz0 hz1 hz2 rfl (by decide) A m C (es.flatMap encFile) rfl HI4.out.out ⟨wr.heap.size, 0, none⟩ 1 1 [.string x.name, .slice x.dataA x.dataN x.dataC] rfl rfl ?h3 (one_file x) (by decide) ?h4 ?h5 ?h6 ?h7 ?_)
        case h3 => exact news_twoB wr _ _ _
        case h4 => unfold maxLen; omega
        case h5 => omega
        case h6 => exact HI4.out.lo_le
        case h7 => exact HI4.out.bel.size
        intro A2 C2 w4 ho2 _ hb4
        have HN : Hid (FlInv (w.heap.size + 1) w1 w4 A2 (m + 1) C2 (es ++ [x])) := Lib.hid (HI4.out.snoc rfl ho2 hb4)
        clear HI4 ho2 hb4
        go_wp2
        go_ret
        rw [HF.out]
        exact HN.out.ret HBW.out (HRR.out w4 HN.out.bel) (Nat.le_succ _)
end Go.Proofs.Ytoodlmhnemamhaa
