/- Whether an operation fits, and doing it: in the reference. -/
import Derived.Test.YtoodlmhnemamhaaDiskS
import Derived.Test.YtoodlmhnemamhaaFsOpSK
import Derived.Test.YtoodlmhnemamhaaFsOpK
import Derived.Test.YtoodlmhnemamhaaKeep
import Derived.Laws.AppendOwnNone
namespace Go.Proofs.Ytoodlmhnemamhaa
open Go.RowKit
set_option maxRecDepth 100000 in
set_option maxHeartbeats 3200000 in
theorem l02Fits_any (y : Row FileR) (o : FsOpR) (w : World) (g : rdFileS w y) :
    Calls Try.prog 49 #[.slice y.a y.n y.c, .agg #[.int .i64 o.kind, .string o.name, .string o.dst, .slice o.dataA o.dataN o.dataC]] w fun e w' => e = .returned (.bool (fitsB (datFileS y) (datFsOp o))) ∧ Below w.heap.size w w' := by
  have hb0 := (Below.refl w.heap.size w).alloc (Nat.le_refl _) (.cells #[.int .i64 o.kind, .string o.name, .string o.dst, .slice o.dataA o.dataN o.dataC] 27)
  have HG0 := Lib.hid (rdFileS_below g hb0 (Nat.le_refl _))
  have HLN : Hid ((datFileS y).length = y.n) := Lib.hid (by unfold datFileS; rw [List.length_map]; exact g.1.len)
  have hmx := g.1.max
  have hmle := g.1.le
  unfold maxLen at hmx
  have hse := toList_eqN o.dst o.name
  have HF := Lib.hid (show ∀ b, hasF (datFileS y) o.name = b → fitsB (datFileS y) (datFsOp o) = if o.kind = 1 then b || decide (y.n < 12) else if o.kind = 3 then b && !eqN o.dst o.name else b from fun b hb => by
    unfold fitsB datFsOp
    simp only
    rw [hb, HLN.out])
  clear g
  go_enter Try.func49, Try.ntmps49
  go_wp2_with fail
  refine (l02At_any y o.name _ HG0.out).mono ?_
  rintro e w1 ⟨r, rfl, hr, hb1⟩
  obtain ⟨hc, _⟩ := bcell hb1
  have c0 : w1.cell? ⟨w.heap.size, 0, none⟩ = some (.int .i64 o.kind) := by rw [hc _ _ (by simp)]; simp [go_sem]
  have c1 : w1.cell? ⟨w.heap.size, 1, none⟩ = some (.string o.name) := by rw [hc _ _ (by simp)]; simp [go_sem]
  have c2 : w1.cell? ⟨w.heap.size, 2, none⟩ = some (.string o.dst) := by rw [hc _ _ (by simp)]; simp [go_sem]
  have BB := hb0.trans (hb1.mono hb0.size)
  obtain ⟨b, hb, hrb⟩ : ∃ b, hasF (datFileS y) o.name = b ∧ decide (r ≥ 0) = b := by
    rcases hr with ⟨rfl, h⟩ | ⟨k, rfl, _, h, _⟩
    · exact ⟨false, h, by decide⟩
    · exact ⟨true, h, by simp⟩
  have HX := Lib.hid (HF.out b hb)
  clear hc HF hb hr hb1 hb0 HG0 HLN
  obtain ⟨ok, onm, odst, oA, oN, oC, oL⟩ := o
  obtain ⟨yA, yN, yC, yl⟩ := y
  simp only at hmx hmle hse c0 c1 c2 HX ⊢
  by_cases h1 : ok = 1
  · subst h1
    by_cases h12 : yN < 12
    · have h12i : (yN : Int) < 12 := by omega
      cases b <;> (simp [h12] at HX; go_wp2; go_ret; exact ⟨by rw [HX.out] <;> rfl, BB⟩)
    · have h12i : ¬ (yN : Int) < 12 := by omega
      cases b <;> (simp [h12] at HX; go_wp2; go_ret; exact ⟨by rw [HX.out] <;> rfl, BB⟩)
  · by_cases h3 : ok = 3
    · subst h3
      cases hq : eqN odst onm <;> rw [hq] at hse HX <;> cases b <;> (simp at HX; go_wp2; go_ret; exact ⟨by rw [HX.out] <;> rfl, BB⟩)
    · simp [h1, h3] at HX
      cases b <;> (go_wp2; go_ret; exact ⟨by rw [HX.out] <;> rfl, BB⟩)
theorem infoByte : (Try.prog.info? 5).map (fun i => (i.zero, i.size, i.bytes)) = some (some (.int .u8 0), 1, 1) := by kernel_rfl
theorem int_bytes (zs : List Int) : ∀ u ∈ zs.map (Value.int .u8), u.oneCell' = true := by
  intro u hu
  obtain ⟨z, _, rfl⟩ := List.mem_map.1 hu
  rfl
/-- Append at a step of a drawn region: what lies below the base is as it was. -/
theorem step_app_b {P : Program} {w : World} {ops : Array Oper} {o : Oper} {a : Act} {K : Act → World → Prop} {Q : Exit → Act → World → Prop} {E : Prop} (hgd : o.guard = none) (s x : Operand) (t : TypeId)
    (ho : o.op = .call { callee := .builtin .append, args := #[s, x], argTypes := #[t, t] })
    (base : Nat) (e : TypeId) {i : TypeInfo} {z : Value} (ht : P.underlying t = some (.slice e)) (hi : P.info? e = some i) (hz : i.zero = some z)
    (hsize : i.size = 1) (hby : i.bytes = 1) (hzs : z.cells.size = 1)
    (A : Option Addr) (n C : Nat) (xs : List Int) (hs : a.eval s = .slice A n C) (hown : w.ownsRow base e 1 (.slice A n C) n (xs.map (.int .u8)))
    (ad : Option Addr) (m c : Nat) (ys : List Int) (hx : a.eval x = .slice ad m c) (hr : Rd (encI .u8) 1 w ad m c ys)
    (h63 : n + m ≤ 100000000000000) (hbase : base ≤ w.heap.size)
    (h : ∀ (A' : Option Addr) (C' : Nat) (w' : World), w'.ownsRow base e 1 (.slice A' (n + m) C') (n + m) ((xs ++ ys).map (.int .u8)) → Below base w w' → w.grownBy w' (Value.slice A n C).ownBlock → K (a.put o.dst (.slice A' (n + m) C')) w') :
    if Region.wanted o (yielded ops a.tmps) = true then Oper.wp P o a w K Q else E := by
  have hw : Region.wanted o (yielded ops a.tmps) = true := by simp [Region.wanted, hgd]
  rw [if_pos hw]
  cases ad with
  | none =>
    obtain ⟨h1, h2⟩ := hr.none rfl
    subst h1
    subst h2
    have hn : ys = [] := List.eq_nil_of_length_eq_zero hr.len
    subst hn
    have hrun := run_append_owned_none (P := P) (w := w) base t o.type e i 1 ht hi _ n (xs.map (.int .u8)) hown
    unfold Oper.wp
    simp [execOp, ho, resolve, invoke, builtin, hs, hx, hrun, Result.andThen]
    exact h A C w (by simpa using hown) (Below.refl _ _) (grown_refl _ _)
  | some b =>
    obtain ⟨v', w', hrun, ho', hg, _⟩ := run_append_own (P := P) (w := w) base t o.type e i z 1 1 ht hi hz hsize hby hzs (by omega) _ n (xs.map (.int .u8)) hown b m c (ys.map (.int .u8)) (by rw [List.length_map, hr.len]; omega) (hr.news b rfl) (int_bytes ys) (by unfold maxLen; omega) (by omega) hbase
    obtain ⟨A', C', rfl, _⟩ := own_shape ho'
    unfold Oper.wp
    simp [execOp, ho, resolve, invoke, builtin, hs, hx, hrun, Result.andThen]
    exact h A' C' w' (by rw [List.map_append]; exact ho') (below_grown hg hbase (fun k hk => (World.ownsRow.lt hown k hk).1)) hg
/-- What can be read is still there where only a block without cells was written. -/
theorem rd_grown {α : Type} {enc : α → List Value} {sz : Nat} {w w' : World} {a : Option Addr} {n cap : Nat} {xs : List α} (h : Rd enc sz w a n cap xs) {g : Nat} (hg : w.grownBy w' (some g)) (he : ∀ o, w.cell? ⟨g, o, none⟩ = none) : Rd enc sz w' a n cap xs := by
  refine ⟨h.le, h.max, h.len, h.nil, fun hn => ?_⟩
  obtain ⟨b, off, ha, hl, hc⟩ := h.spot hn
  refine ⟨b, off, ha, Nat.lt_of_lt_of_le hl hg.size, fun i hi f u hu => ?_⟩
  have h1 := hc i hi f u hu
  by_cases e : b = g
  · subst e
    rw [he] at h1
    cases h1
  · rw [World.cell?_of_block (w := w) (a := ⟨b, off + i * sz + f, none⟩) (hg.block b hl (fun e2 => e (by cases e2; rfl)))]
    exact h1
theorem rdFileS_grown {w w' : World} {y : Row FileR} (h : rdFileS w y) {g : Nat} (hg : w.grownBy w' (some g)) (he : ∀ o, w.cell? ⟨g, o, none⟩ = none) : rdFileS w' y := ⟨rd_grown h.1 hg he, fun f hf => rd_grown (h.2 f hf) hg he⟩
theorem lit_none (w : World) (t : TypeId) (o : Nat) : (w.alloc (.cells #[] t)).cell? ⟨w.heap.size, o, none⟩ = none := by simp [go_sem]
theorem less_n {w : World} {y q : Row FileR} {nm : ByteArray} (hd : datFileS q = lessF (datFileS y) nm) (hq : rdFileS w q) (hy : (datFileS y).length ≤ 1000) : q.n ≤ 1000 := by
  have h1 := len_less (datFileS y) nm
  rw [← hd] at h1
  unfold datFileS at h1
  rw [List.length_map, hq.1.len] at h1
  unfold datFileS at hy
  omega
theorem keepM {w0 w w' : World} {X B o1 o2 : Nat} {v1 v2 : Value} (hX : X < B) (hb : Below B w w') (h : w.cell? ⟨X, o1, none⟩ = some v1 ∧ w.cell? ⟨X, o2, none⟩ = some v2 ∧ Below B w0 w) : w'.cell? ⟨X, o1, none⟩ = some v1 ∧ w'.cell? ⟨X, o2, none⟩ = some v2 ∧ Below B w0 w' :=
  ⟨(hb.cell (p := ⟨X, o1, none⟩) hX).trans h.1, (hb.cell (p := ⟨X, o2, none⟩) hX).trans h.2.1, h.2.2.trans hb⟩
theorem keepMA {w0 w : World} {X B o1 o2 : Nat} {v1 v2 : Value} (hX : X < B) (hB : B ≤ w0.heap.size) (o : Obj) (h : w.cell? ⟨X, o1, none⟩ = some v1 ∧ w.cell? ⟨X, o2, none⟩ = some v2 ∧ Below B w0 w) : (w.alloc o).cell? ⟨X, o1, none⟩ = some v1 ∧ (w.alloc o).cell? ⟨X, o2, none⟩ = some v2 ∧ Below B w0 (w.alloc o) :=
  keepM hX ((Below.refl B w).alloc (Nat.le_trans hB h.2.2.size) o) h
theorem keepMD {w0 w : World} {X B o1 o2 : Nat} {v1 v2 : Value} (h : w.cell? ⟨X, o1, none⟩ = some v1 ∧ w.cell? ⟨X, o2, none⟩ = some v2 ∧ Below B w0 w) : w.drew.cell? ⟨X, o1, none⟩ = some v1 ∧ w.drew.cell? ⟨X, o2, none⟩ = some v2 ∧ Below B w0 w.drew := ⟨h.1, h.2.1, h.2.2.drew⟩
theorem keepMF {w0 w w' : World} {X B o1 o2 : Nat} {v1 v2 : Value} (hX : X < B) (hB : B ≤ w0.heap.size) (hb : Below w.heap.size w w') (h : w.cell? ⟨X, o1, none⟩ = some v1 ∧ w.cell? ⟨X, o2, none⟩ = some v2 ∧ Below B w0 w) : w'.cell? ⟨X, o1, none⟩ = some v1 ∧ w'.cell? ⟨X, o2, none⟩ = some v2 ∧ Below B w0 w' :=
  keepM hX (hb.mono (Nat.le_trans hB h.2.2.size)) h
theorem tailM {w0 w : World} {X B o1 o2 : Nat} {v1 v2 : Value} (h : w.cell? ⟨X, o1, none⟩ = some v1 ∧ w.cell? ⟨X, o2, none⟩ = some v2 ∧ Below B w0 w) : Below B w0 w := h.2.2
theorem sizeKM {w0 w : World} {X B o1 o2 : Nat} {v1 v2 : Value} (hB : B ≤ w0.heap.size) (h : w.cell? ⟨X, o1, none⟩ = some v1 ∧ w.cell? ⟨X, o2, none⟩ = some v2 ∧ Below B w0 w) : B ≤ w.heap.size := Nat.le_trans hB h.2.2.size
theorem l02With_f (y : Row FileR) (nm : ByteArray) (A : Option Addr) (n C : Nat) (L : List Int) (w : World) (g : rdFileS w y) (gx : Rd (encI .u8) 1 w A n C L) (hn : y.n ≤ 1000) :
    Calls Try.prog 66 #[.slice y.a y.n y.c, .agg #[.string nm, .slice A n C]] w fun e w' => RetFl (withF (datFileS y) (nm, L)) w e w' := l02With_any y ⟨nm, A, n, C, L⟩ w g gx hn
theorem le_sizeF : ∀ (l : List FD) (f : FD), f ∈ l → f.2.length ≤ sizeF l := by
  intro l
  induction l with
  | nil => intro f h; cases h
  | cons a r ih =>
    intro f h
    unfold sizeF at *
    rw [List.map_cons, List.sum_cons]
    rcases List.mem_cons.1 h with h | h
    · rw [h]; omega
    · have := ih f h; omega
set_option maxRecDepth 100000 in
set_option maxHeartbeats 6400000 in
theorem l02Make_any (y : Row FileR) (o : FsOpR) (w : World) (g : rdFileS w y) (go : rdFsOp w o) (hn : y.n ≤ 999) (hs1 : sizeF (datFileS y) ≤ 10000000) (hs2 : o.dataN ≤ 10000000) (hf : fitsB (datFileS y) (datFsOp o) = true) :
    Calls Try.prog 50 #[.slice y.a y.n y.c, .agg #[.int .i64 o.kind, .string o.name, .string o.dst, .slice o.dataA o.dataN o.dataC]] w fun e w' => RetFl (makeF (datFileS y) (datFsOp o)) w e w' := by
  have hb0 := (Below.refl w.heap.size w).alloc (Nat.le_refl _) (.cells #[.int .i64 o.kind, .string o.name, .string o.dst, .slice o.dataA o.dataN o.dataC] 27)
  have HG0 := Lib.hid (rdFileS_below g hb0 (Nat.le_refl _))
  have HO0 := Lib.hid (rdFsOp_below go hb0 (Nat.le_refl _))
  have HFI := Lib.hid hf
  have HGW := Lib.hid g
  have HOW := Lib.hid go
  have HYL : Hid ((datFileS y).length = y.n) := Lib.hid (by unfold datFileS; rw [List.length_map]; exact g.1.len)
  clear g go hf
  obtain ⟨ok, onm, odst, oA, oN, oC, oL⟩ := o
  simp only at *
  by_cases h1 : ok = 1
  · subst h1
    have HF : Hid (makeF (datFileS y) (datFsOp ⟨1, onm, odst, oA, oN, oC, oL⟩) = withF (datFileS y) (datFile ⟨onm, none, 0, 0, []⟩)) := Lib.hid (by unfold makeF datFsOp; rw [if_pos rfl]; rfl)
    rw [HF.out]
    go_enter Try.func50, Try.ntmps50
    go_wp2_with fail
    refine (l02With_any y ⟨onm, none, 0, 0, []⟩ _ HG0.out ⟨Nat.le_refl _, Nat.zero_le _, rfl, fun _ => rfl, fun h => absurd h (Nat.lt_irrefl _)⟩ (by omega)).mono ?_
    rintro e w1 ⟨q, rfl, hd, hr, hb1, hfr⟩
    go_wp2
    go_ret
    exact ⟨q, rfl, hd, hr, hb0.trans (hb1.mono hb0.size), fun g hg => Nat.le_trans hb0.size (hfr g hg)⟩
  · by_cases h2 : ok = 2
    · subst h2
      have hhas : hasF (datFileS y) onm = true := by have h := HFI.out; unfold fitsB datFsOp at h; simpa using h
      have HH := Lib.hid hhas
      clear hhas HFI
      go_enter Try.func50, Try.ntmps50
      go_wp2_with fail
      refine (l02At_any y onm _ HG0.out).mono ?_
      rintro e w1 ⟨r, rfl, hr, hb1⟩
      obtain ⟨hc, _⟩ := bcell hb1
      have c1 : w1.cell? ⟨w.heap.size, 1, none⟩ = some (.string onm) := by rw [hc _ _ (by simp)]; simp [go_sem]
      have c3 : w1.cell? ⟨w.heap.size, 3, none⟩ = some (.slice oA oN oC) := by rw [hc _ _ (by simp)]; simp [go_sem]
      have BB1 := hb0.trans (hb1.mono hb0.size)
      have hz1 : w.heap.size + 1 ≤ w1.heap.size := by have := hb1.size; simpa using this
      obtain ⟨k, rfl, hk, hfd⟩ : ∃ k : Nat, r = (k : Int) ∧ k < y.l.length ∧ findF (datFileS y) onm = some (atFile y.l k).data := by
        rcases hr with ⟨_, h⟩ | ⟨k, e1, e2, _, e3⟩
        · have := HH.out; unfold datFileS at this; rw [h] at this; cases this
        · exact ⟨k, e1, e2, e3⟩
      have HFD : Hid (getF (datFileS y) onm = (atFile y.l k).data) := Lib.hid (by unfold getF; rw [hfd]; rfl)
      have HG1 := Lib.hid (rdFileS_below HGW.out BB1 (Nat.le_refl _))
      have hxr : rdFile w1 (atFile y.l k) := by rw [atFile_eq y.l k hk]; exact HG1.out.2 _ (List.getElem_mem hk)
      have hxn : (atFile y.l k).dataN ≤ 10000000 := by
        have h3 := le_sizeF (datFileS y) (datFile y.l[k]) (List.mem_map_of_mem (List.getElem_mem hk))
        have h4 := hxr.len
        rw [atFile_eq y.l k hk] at h4 ⊢
        unfold datFile at h3
        simp only at h3
        omega
      have hkn : k < y.n := by rw [← HG1.out.1.len]; exact hk
      obtain ⟨b, off, hyA, hbl, hcr⟩ := HG1.out.1.rowFile (by omega)
      obtain ⟨_, k1⟩ := hcr k hkn
      have HXR := Lib.hid hxr
      have hki : (k : Int) < (y.n : Int) := by omega
      have HF : Hid (makeF (datFileS y) (datFsOp ⟨2, onm, odst, oA, oN, oC, oL⟩) = withF (datFileS y) (onm, (atFile y.l k).data ++ oL)) := Lib.hid (by unfold makeF datFsOp; simp only; rw [if_neg (by omega), if_pos trivial, HFD.out])
      obtain ⟨i0, hi, hz0, hz1', hz2⟩ := info_parts infoByte
      clear hc hcr hr hfd hxr HFD HG1 HG0 HO0 hb1 hbl hk
      generalize atFile y.l k = x at *
      obtain ⟨xnm, xA, xN, xC, xL⟩ := x
      simp only at k1 hxn
      obtain ⟨yA, yN, yC, yl⟩ := y
      simp only at hyA hn hkn hki
      subst hyA
      have HLIT : Hid ((w1.alloc (.cells #[] 5)).drew.ownsRow (w.heap.size + 1) 5 1 (.slice (some ⟨w1.heap.size, 0, none⟩) 0 0) 0 (([] : List Int).map (.int .u8))) := Lib.hid (World.ownsRow.drew (World.ownsRow_lit w1 #[] 0 hz1 (by unfold maxLen; omega) (by simp)))
      have HLL : Hid ((xL ++ oL).length = xN + oN) := Lib.hid (by rw [List.length_append, show xL.length = xN from Rd.len HXR.out, show oL.length = oN from Rd.len HOW.out])
      have hs0 : w1.cell? ⟨w.heap.size, 1, none⟩ = some (.string onm) ∧ w1.cell? ⟨w.heap.size, 3, none⟩ = some (.slice oA oN oC) ∧ Below (w.heap.size + 1) w1 w1 := ⟨c1, c3, Below.refl _ _⟩
      have HS2 := Lib.hid (keepMD (keepMA (Nat.lt_succ_self _) hz1 (.cells #[] 5) hs0))
      have HS1 : Hid (w1.drew.cell? ⟨w.heap.size, 1, none⟩ = some (.string onm) ∧ w1.drew.cell? ⟨w.heap.size, 3, none⟩ = some (.slice oA oN oC) ∧ Below (w.heap.size + 1) w1 w1.drew) := Lib.hid ⟨c1, c3, (Below.refl _ _).drew⟩
      go_wp2_with fail
      go_region_held3 (fun w' => w'.cell? ⟨w.heap.size, 1, none⟩ = some (.string onm) ∧ w'.cell? ⟨w.heap.size, 3, none⟩ = some (.slice oA oN oC) ∧ Below (w.heap.size + 1) w1 w')
        (first | (with_reducible exact HS1.out) | (with_reducible exact HS2.out) | (with_reducible exact keepMA (Nat.lt_succ_self _) hz1 _ (by assumption)) | (with_reducible exact keepM (Nat.lt_succ_self _) (by assumption) (by assumption)) | (with_reducible exact keepMF (Nat.lt_succ_self _) hz1 (by assumption) (by assumption)) | (with_reducible exact keepMD (by assumption)))
        (first
          | (refine step_app_b (by rfl) _ _ _ (by rfl) (w.heap.size + 1) 5 Try.underlying22 hi hz0 hz1' hz2 rfl (some ⟨w1.heap.size, 0, none⟩) 0 0 [] (by rfl) HLIT.out xA xN xC xL (by rfl) (HXR.out.below (((Below.refl w1.heap.size w1).alloc (Nat.le_refl _) (.cells #[] 5)).drew) (Nat.le_refl _)) (by omega) (sizeKM hz1 HS2.out) ?_; intro A4 C4 w4 ho4 hb4 _)
          | (refine step_app_b (by rfl) _ _ _ (by rfl) (w.heap.size + 1) 5 Try.underlying22 hi hz0 hz1' hz2 rfl A4 (0 + xN) C4 ([] ++ xL) (by rfl) ho4 oA oN oC oL (by rfl) (rdFsOp_below HOW.out (BB1.trans ((tailM (w := w4) (by assumption)).mono (Nat.le_succ _))) (Nat.le_refl _)) (by omega) (sizeKM (w := w4) hz1 (by assumption)) ?_; intro A5 C5 w5 ho5 hb5 _; rw [Nat.zero_add, List.nil_append] at ho5)
          | (go_at_call 66; (with_reducible refine (l02With_f ⟨some ⟨b, off, none⟩, yN, yC, yl⟩ onm A5 (xN + oN) C5 (xL ++ oL) _ (rdFileS_below HGW.out (BB1.trans ((tailM (w := w5) (by assumption)).mono (Nat.le_succ _))) (Nat.le_refl _)) (Rd.of_ints ho5 HLL.out) (by show yN ≤ 1000; omega)).mono ?_); rintro e w6 ⟨q, rfl, hd, hr, hb6, hfr⟩; have hfq : FrB w.heap.size q := fun g hg => Nat.le_trans (BB1.trans ((tailM (w := w5) (by assumption)).mono (Nat.le_succ _))).size (hfr g hg)))
      have BB6 : Below w.heap.size w w6 := BB1.trans ((tailM (w := w6) (by assumption)).mono (Nat.le_succ _))
      go_wp2
      go_ret
      rw [HF.out]
      exact ⟨q, rfl, hd, hr, BB6, hfq⟩
    · by_cases h3 : ok = 3
      · subst h3
        have hhas : hasF (datFileS y) onm = true := by have h := HFI.out; unfold fitsB datFsOp at h; simp at h; exact h.1
        have HH := Lib.hid hhas
        clear hhas HFI
        go_enter Try.func50, Try.ntmps50
        go_wp2_with fail
        refine (l02At_any y onm _ HG0.out).mono ?_
        rintro e w1 ⟨r, rfl, hr, hb1⟩
        obtain ⟨hc, _⟩ := bcell hb1
        have c1 : w1.cell? ⟨w.heap.size, 1, none⟩ = some (.string onm) := by rw [hc _ _ (by simp)]; simp [go_sem]
        have c3 : w1.cell? ⟨w.heap.size, 2, none⟩ = some (.string odst) := by rw [hc _ _ (by simp)]; simp [go_sem]
        have BB1 := hb0.trans (hb1.mono hb0.size)
        have hz1 : w.heap.size + 1 ≤ w1.heap.size := by have := hb1.size; simpa using this
        obtain ⟨k, rfl, hk, hfd⟩ : ∃ k : Nat, r = (k : Int) ∧ k < y.l.length ∧ findF (datFileS y) onm = some (atFile y.l k).data := by
          rcases hr with ⟨_, h⟩ | ⟨k, e1, e2, _, e3⟩
          · have := HH.out; unfold datFileS at this; rw [h] at this; cases this
          · exact ⟨k, e1, e2, e3⟩
        have HFD : Hid (getF (datFileS y) onm = (atFile y.l k).data) := Lib.hid (by unfold getF; rw [hfd]; rfl)
        have HG1 := Lib.hid (rdFileS_below HGW.out BB1 (Nat.le_refl _))
        have hxr : rdFile w1 (atFile y.l k) := by rw [atFile_eq y.l k hk]; exact HG1.out.2 _ (List.getElem_mem hk)
        have hxn : (atFile y.l k).dataN ≤ 10000000 := by
          have h3 := le_sizeF (datFileS y) (datFile y.l[k]) (List.mem_map_of_mem (List.getElem_mem hk))
          have h4 := hxr.len
          rw [atFile_eq y.l k hk] at h4 ⊢
          unfold datFile at h3
          simp only at h3
          omega
        have hkn : k < y.n := by rw [← HG1.out.1.len]; exact hk
        obtain ⟨b, off, hyA, hbl, hcr⟩ := HG1.out.1.rowFile (by omega)
        obtain ⟨_, k1⟩ := hcr k hkn
        have HXR := Lib.hid hxr
        have hki : (k : Int) < (y.n : Int) := by omega
        have HF : Hid (makeF (datFileS y) (datFsOp ⟨3, onm, odst, oA, oN, oC, oL⟩) = withF (lessF (datFileS y) onm) (odst, (atFile y.l k).data)) := Lib.hid (by unfold makeF datFsOp; simp only; rw [if_neg (by omega), if_neg (by omega), if_pos trivial, HFD.out])
        obtain ⟨i0, hi, hz0, hz1', hz2⟩ := info_parts infoByte
        clear hc hcr hr hfd hxr HFD HG1 HG0 HO0 hb1 hbl hk
        generalize atFile y.l k = x at *
        obtain ⟨xnm, xA, xN, xC, xL⟩ := x
        simp only at k1 hxn
        obtain ⟨yA, yN, yC, yl⟩ := y
        simp only at hyA hn hkn hki
        subst hyA
        have HXL : Hid (xL.length = xN) := Lib.hid (Rd.len HXR.out)
        have hs0 : w1.cell? ⟨w.heap.size, 1, none⟩ = some (.string onm) ∧ w1.cell? ⟨w.heap.size, 2, none⟩ = some (.string odst) ∧ Below (w.heap.size + 1) w1 w1 := ⟨c1, c3, Below.refl _ _⟩
        have HS2 := Lib.hid (keepMD (keepMA (Nat.lt_succ_self _) hz1 (.cells #[] 5) hs0))
        have HS1 : Hid (w1.drew.cell? ⟨w.heap.size, 1, none⟩ = some (.string onm) ∧ w1.drew.cell? ⟨w.heap.size, 2, none⟩ = some (.string odst) ∧ Below (w.heap.size + 1) w1 w1.drew) := Lib.hid ⟨c1, c3, (Below.refl _ _).drew⟩
        have HLIT : Hid ((w1.alloc (.cells #[] 5)).drew.ownsRow (w.heap.size + 1) 5 1 (.slice (some ⟨w1.heap.size, 0, none⟩) 0 0) 0 (([] : List Int).map (.int .u8))) := Lib.hid (World.ownsRow.drew (World.ownsRow_lit w1 #[] 0 hz1 (by unfold maxLen; omega) (by simp)))
        go_wp2_with fail
        go_region_held3 (fun w' => w'.cell? ⟨w.heap.size, 1, none⟩ = some (.string onm) ∧ w'.cell? ⟨w.heap.size, 2, none⟩ = some (.string odst) ∧ Below (w.heap.size + 1) w1 w')
          (first | (with_reducible exact HS1.out) | (with_reducible exact HS2.out) | (with_reducible exact keepMA (Nat.lt_succ_self _) hz1 _ (by assumption)) | (with_reducible exact keepM (Nat.lt_succ_self _) (by assumption) (by assumption)) | (with_reducible exact keepMF (Nat.lt_succ_self _) hz1 (by assumption) (by assumption)) | (with_reducible exact keepMD (by assumption)))
          (first
            | (refine step_app_b (by rfl) _ _ _ (by rfl) (w.heap.size + 1) 5 Try.underlying22 hi hz0 hz1' hz2 rfl (some ⟨w1.heap.size, 0, none⟩) 0 0 [] (by rfl) (own_below HLIT.out hb2 (Nat.le_refl _)) xA xN xC xL (by rfl) (Rd.below HXR.out ((((Below.refl w1.heap.size w1).alloc (Nat.le_refl _) (.cells #[] 5)).drew).trans (hb2.mono (by simp))) (Nat.le_refl _)) (by omega) (sizeKM (w := w2) hz1 (by assumption)) ?_; intro A4 C4 w4 ho4 hb4 hg4; rw [Nat.zero_add, List.nil_append] at ho4; have hrq4 := rdFileS_grown hrq hg4 (fun o => ((hb2.cell (p := ⟨w1.heap.size, o, none⟩) (by simp)).trans (lit_none w1 _ o))))
            | (refine step_app_b (by rfl) _ _ _ (by rfl) (w.heap.size + 1) 5 Try.underlying22 hi hz0 hz1' hz2 rfl (some ⟨w2.heap.size, 0, none⟩) 0 0 [] (by rfl) (World.ownsRow_lit w2 #[] 0 hz2a (by unfold maxLen; omega) (by simp)) xA xN xC xL (by rfl) (Rd.below HXR.out ((((Below.refl w1.heap.size w1).drew).trans (hb2.mono (Nat.le_refl _))).alloc (by have := hb2.size; simpa using this) _) (Nat.le_refl _)) (by omega) (by simp; omega) ?_; intro A4 C4 w4 ho4 hb4 hg4; rw [Nat.zero_add, List.nil_append] at ho4; have hrq4 := rdFileS_grown (rdFileS_below hrq ((Below.refl w2.heap.size w2).alloc (Nat.le_refl _) (.cells #[] 5)) (Nat.le_refl _)) hg4 (lit_none w2 _))
            | (go_at_call 67; (with_reducible refine (l02Less_any ⟨some ⟨b, off, none⟩, yN, yC, yl⟩ onm _ (rdFileS_below HGW.out (BB1.trans ((tailM (by assumption)).mono (Nat.le_succ _))) (Nat.le_refl _)) (by show yN ≤ 1000; omega)).mono ?_); rintro e w2 ⟨⟨qA, qN, qC, qs⟩, rfl, hdq, hrq, hb2, _⟩; simp only; have hz2a : w.heap.size + 1 ≤ w2.heap.size := (by have := hb2.size; simp at this; omega); have hqn := less_n hdq hrq (by rw [HYL.out]; show yN ≤ 1000; omega))
            | (go_at_call 66; (with_reducible refine (l02With_f ⟨qA, qN, qC, qs⟩ odst A4 xN C4 xL _ hrq4 (Rd.of_ints ho4 HXL.out) hqn).mono ?_); rintro e w6 ⟨q, rfl, hd, hr, hb6, hfr⟩; have hfq : FrB w.heap.size q := fun g hg => Nat.le_trans (BB1.trans ((tailM (by assumption)).mono (Nat.le_succ _))).size (hfr g hg)))
        all_goals
          have BB6 : Below w.heap.size w w6 := BB1.trans ((tailM (w := w6) (by assumption)).mono (Nat.le_succ _))
          rw [hdq] at hd
          go_wp2
          go_ret
          rw [HF.out]
          exact ⟨q, rfl, hd, hr, BB6, hfq⟩
      · have hk4 : ok = 1 ∨ ok = 2 ∨ ok = 3 ∨ (ok ≠ 1 ∧ ok ≠ 2 ∧ ok ≠ 3) := by omega
        have HF : Hid (makeF (datFileS y) (datFsOp ⟨ok, onm, odst, oA, oN, oC, oL⟩) = lessF (datFileS y) onm) := Lib.hid (by unfold makeF datFsOp; simp only; rw [if_neg h1, if_neg h2, if_neg h3])
        rw [HF.out]
        clear hk4
        go_enter Try.func50, Try.ntmps50
        go_wp2_with fail
        refine (l02Less_any y onm _ HG0.out (by omega)).mono ?_
        rintro e w1 ⟨q, rfl, hd, hr, hb1, hfr⟩
        go_wp2
        go_ret
        exact ⟨q, rfl, hd, hr, hb0.trans (hb1.mono hb0.size), fun g hg => Nat.le_trans hb0.size (hfr g hg)⟩
end Go.Proofs.Ytoodlmhnemamhaa
