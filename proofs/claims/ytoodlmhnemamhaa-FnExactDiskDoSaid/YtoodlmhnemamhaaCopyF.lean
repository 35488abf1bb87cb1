/- Copies of rows of files: l02Files of the reference. -/
import Derived.Test.YtoodlmhnemamhaaDiskM
import Derived.Test.YtoodlmhnemamhaaNestA
import Derived.Test.YtoodlmhnemamhaaDiskU
import Derived.Deep.AppendLies
namespace Go.Proofs.Ytoodlmhnemamhaa
open Go.RowKit
/-- A row of files of a call's own. -/
def RetFlO (F : List FD) (w : World) (en : Ending) (w' : World) : Prop := ∃ y : Row FileR, en = .returned (.slice y.a y.n y.c) ∧ datFileS y = F ∧ OwnFileS w.heap.size w'.heap.size w' y ∧ Below w.heap.size w w'
theorem OwnFileS.grow {lo hi : Nat} {w : World} {y : Row FileR} (h : OwnFileS lo hi w y) {hi' : Nat} (hl : hi ≤ hi') (ht : hi' ≤ w.heap.size) : OwnFileS lo hi' w y := ⟨h.nest.grow hl ht⟩
theorem OwnFileS.snoc {lo H B : Nat} {W0 w2 : World} {y : Row FileR} (h : OwnFileS lo H W0 y) (hHB : H ≤ B) (hlB : lo ≤ B) (x : FileR) (g2 C2 : Nat)
    (hin : OwnS (encI .u8) 1 5 B W0.heap.size W0 x.dataA x.dataN x.dataC x.data)
    (ho2 : w2.ownsRow lo 71 2 (.slice (some ⟨g2, 0, none⟩) (y.n + 1) C2) (y.n + 1) (y.l.flatMap encFile ++ encFile x)) (hg2 : W0.grownBy w2 (Value.slice y.a y.n y.c).ownBlock)
    (hnew : (Value.slice y.a y.n y.c).ownBlock = some g2 ∨ g2 = W0.heap.size) (hsm : y.n < 100000000) : OwnFileS lo w2.heap.size w2 ⟨some ⟨g2, 0, none⟩, y.n + 1, C2, y.l ++ [x]⟩ := by
  have hyl := h.nest.row.len
  have htop := h.nest.row.top
  have hg := h.grow htop (Nat.le_refl _)
  refine ⟨hg.nest.snoc x (some ⟨g2, 0, none⟩) C2 (OwnS.of (by rw [List.flatMap_append]; simpa using ho2) (by simp; omega) (show y.n + 1 ≤ _ by omega)) (hin.lo_le hlB) hg2 ?_ ?_ ?_ hg2.size (Nat.le_refl _)⟩
  · rcases hnew with e | e
    · exact Or.inl (by rw [show blkR y = _ from e]; rfl)
    · refine Or.inr (fun q hq => ?_)
      have e2 : g2 = q := by simpa [Value.ownBlock] using hq
      omega
  · intro q hq e
    have h1 := (World.ownsRow.lt hin.own q hq).1
    have h2 := h.nest.row.lt q e
    omega
  · intro i hi0 q hq e
    have h1 := (World.ownsRow.lt hin.own q e).1
    have h2 := (h.nest.inner i hi0).lt q hq
    omega
theorem OwnFileS.lit (w : World) : OwnFileS w.heap.size (w.heap.size + 1) (w.alloc (.cells #[] 71)) ⟨some ⟨w.heap.size, 0, none⟩, 0, 0, []⟩ :=
  ⟨⟨⟨rfl, World.ownsRow_lit w #[] 0 (Nat.le_refl _) (by unfold maxLen; omega) (by simp), fun g hg => by cases hg; exact Nat.lt_succ_self _, by simp, Nat.zero_le _⟩, fun i hi => absurd hi (by simp), fun i hi => absurd hi (by simp), fun i i' hi => absurd hi (by simp)⟩⟩
theorem keepQ {w w' : World} {X B o1 o2 : Nat} {v1 v2 : Value} (hX : X < B) (hb : Below B w w') (h : w.cell? ⟨X, o1, none⟩ = some v1 ∧ w.cell? ⟨X, o2, none⟩ = some v2) : w'.cell? ⟨X, o1, none⟩ = some v1 ∧ w'.cell? ⟨X, o2, none⟩ = some v2 :=
  ⟨(hb.cell (p := ⟨X, o1, none⟩) hX).trans h.1, (hb.cell (p := ⟨X, o2, none⟩) hX).trans h.2⟩
theorem keepQA {w : World} {X o1 o2 : Nat} {v1 v2 : Value} (h : w.cell? ⟨X, o1, none⟩ = some v1 ∧ w.cell? ⟨X, o2, none⟩ = some v2) (o : Obj) : (w.alloc o).cell? ⟨X, o1, none⟩ = some v1 ∧ (w.alloc o).cell? ⟨X, o2, none⟩ = some v2 :=
  ⟨cell_later ((Below.refl _ _).alloc (Nat.le_refl _) o) h.1, cell_later ((Below.refl _ _).alloc (Nat.le_refl _) o) h.2⟩
theorem keepQG {w w' : World} {X o1 o2 : Nat} {v1 v2 : Value} {r : Option Nat} (hX : ∀ q, r = some q → q < X) (hg : w.grownBy w' r) (h : w.cell? ⟨X, o1, none⟩ = some v1 ∧ w.cell? ⟨X, o2, none⟩ = some v2) : w'.cell? ⟨X, o1, none⟩ = some v1 ∧ w'.cell? ⟨X, o2, none⟩ = some v2 := by
  have hk := hg.block X (World.block_lt_of_cell? _ _ h.1) (fun e => Nat.lt_irrefl _ (hX X e.symm))
  exact ⟨(World.cell?_of_block (a := ⟨X, o1, none⟩) hk).trans h.1, (World.cell?_of_block (a := ⟨X, o2, none⟩) hk).trans h.2⟩
set_option maxRecDepth 100000 in
set_option maxHeartbeats 6400000 in
theorem l02Files_any (y : Row FileR) (w : World) (g : rdFileS w y) (hn : y.n ≤ 10000000) (hz : sizeF (datFileS y) ≤ 10000000) :
    Calls Try.prog 72 #[.slice y.a y.n y.c] w fun e w' => RetFlO (datFileS y) w e w' := by
  obtain ⟨a, n, c, xs⟩ := y
  obtain ⟨gr, gi⟩ := g
  simp only at gr gi hn ⊢
  have hm := gr.max
  have hle := gr.le
  have HL := Lib.hid gr.len
  unfold maxLen at hm
  have HG := Lib.hid gi
  have HZ : Hid (∀ f ∈ xs, f.dataN ≤ 10000000) := Lib.hid (fun f hf => by
    have h1 := le_sizeF (datFileS ⟨a, n, c, xs⟩) (datFile f) (List.mem_map_of_mem hf)
    have h2 := (gi f hf).len
    unfold datFile at h1
    simp only at h1
    have h3 : f.data.length = f.dataN := h2
    omega)
  clear gi hz
  obtain ⟨i0, hi, hz0, hz1, hz2⟩ := info_parts infoFile
  obtain ⟨i1, ji, jz0, jz1, jz2⟩ := info_parts infoByte
  have HD : Hid (datFileS ⟨a, n, c, xs⟩ = (xs.take n).map datFile) := Lib.hid (by rw [← HL.out, List.take_length]; rfl)
  rw [HD.out]
  go_enter Try.func72, Try.ntmps72
  go_wp2
  go_loopw [3, 9] (fun o i wr => ∃ (k : Nat) (q : Row FileR), k ≤ n ∧ o = .slice q.a q.n q.c ∧ i = .int .i64 k ∧ q.n = k ∧ Hid (OwnFileS w.heap.size wr.heap.size wr q) ∧ Hid (datFileS q = (xs.take k).map datFile) ∧ Below w.heap.size w wr) (fun _ i _ => n - (intOf i).toNat)
  case atStart => exact ⟨0, ⟨some ⟨w.heap.size, 0, none⟩, 0, 0, []⟩, Nat.zero_le _, rfl, rfl, rfl, Lib.hid ((OwnFileS.lit w).grow (by simp) (Nat.le_refl _)), Lib.hid rfl, (Below.refl _ _).alloc (Nat.le_refl _) _⟩
  case round =>
    obtain ⟨k, q, hk, rfl, rfl, hqk, HO, HQ, hb⟩ := hrel
    obtain ⟨qA, qN, qC, qs⟩ := q
    simp only at hqk
    subst hqk
    by_cases hlt : qN < n
    · obtain ⟨b, off, rfl, hbl, hc⟩ := gr.rowFile (by omega)
      obtain ⟨k0, k1⟩ := hc qN hlt
      have cb : ∀ o, wr.cell? ⟨b, o, none⟩ = w.cell? ⟨b, o, none⟩ := fun o => hb.cell (p := ⟨b, o, none⟩) hbl
      rw [← cb] at k0 k1
      have hi1 : (qN : Int) < (n : Int) := by omega
      have hkx : qN < xs.length := by rw [HL.out]; exact hlt
      have hxn : (atFile xs qN).dataN ≤ 10000000 := by rw [atFile_eq xs qN hkx]; exact HZ.out _ (List.getElem_mem hkx)
      have HXR : Hid (rdFile wr (atFile xs qN)) := Lib.hid (by rw [atFile_eq xs qN hkx]; exact rdFile_below (HG.out _ (List.getElem_mem hkx)) hb (Nat.le_refl _))
      have HST : Hid ((xs.take (qN + 1)).map datFile = (xs.take qN).map datFile ++ [datFile (atFile xs qN)]) := Lib.hid (by rw [List.take_succ_eq_append_getElem hkx, List.map_append, atFile_eq xs qN hkx]; rfl)
      clear hc cb hkx
      generalize atFile xs qN = x at *
      obtain ⟨nm, xA, xN, xC, xL⟩ := x
      try simp only at k0 k1 hxn
      have hal := (Below.refl wr.heap.size wr).alloc (Nat.le_refl _) (.cells #[.string nm, .slice xA xN xC] 71)
      have E0 : (wr.alloc (.cells #[.string nm, .slice xA xN xC] 71)).cell? ⟨wr.heap.size, 0, none⟩ = some (.string nm) := by simp [go_sem]
      have E1 : (wr.alloc (.cells #[.string nm, .slice xA xN xC] 71)).cell? ⟨wr.heap.size, 1, none⟩ = some (.slice xA xN xC) := by simp [go_sem]
      have HOF := Lib.hid (HO.out.below hal)
      have HXF := Lib.hid (rdFile_below HXR.out hal (Nat.le_refl _))
      have hbF := hb.trans (hal.mono hb.size)
      have hwF : wr.heap.size < (wr.alloc (.cells #[.string nm, .slice xA xN xC] 71)).heap.size := by simp
      go_wp2_with fail
      generalize wr.alloc (.cells #[.string nm, .slice xA xN xC] 71) = WF at *
      have HLIT : Hid ((WF.alloc (.cells #[] 5)).drew.ownsRow WF.heap.size 5 1 (.slice (some ⟨WF.heap.size, 0, none⟩) 0 0) 0 (([] : List Int).map (.int .u8))) := Lib.hid (World.ownsRow.drew (World.ownsRow_lit WF #[] 0 (Nat.le_refl _) (by unfold maxLen; omega) (by simp)))
      have hbL := ((Below.refl WF.heap.size WF).alloc (Nat.le_refl _) (.cells #[] 5)).drew
      have hsL : WF.heap.size + 1 = ((WF.alloc (.cells #[] 5)).drew).heap.size := by simp
      have hs0 : WF.cell? ⟨wr.heap.size, 0, none⟩ = some (.string nm) ∧ WF.cell? ⟨wr.heap.size, 1, none⟩ = some (.slice xA xN xC) ∧ Below (wr.heap.size + 1) WF WF := ⟨E0, E1, Below.refl _ _⟩
      have HS2 := Lib.hid (keepMD (keepMA (Nat.lt_succ_self _) hwF (.cells #[] 5) hs0))
      have HS1 : Hid (WF.drew.cell? ⟨wr.heap.size, 0, none⟩ = some (.string nm) ∧ WF.drew.cell? ⟨wr.heap.size, 1, none⟩ = some (.slice xA xN xC) ∧ Below (wr.heap.size + 1) WF WF.drew) := Lib.hid ⟨E0, E1, (Below.refl _ _).drew⟩
      have hqg : ∀ q, (Value.slice qA qN qC).ownBlock = some q → q < wr.heap.size := fun q hq => HOF.out.nest.row.lt q hq
      go_region_held3 (fun w' => w'.cell? ⟨wr.heap.size, 0, none⟩ = some (.string nm) ∧ w'.cell? ⟨wr.heap.size, 1, none⟩ = some (.slice xA xN xC))
        (first | (with_reducible exact ⟨HS1.out.1, HS1.out.2.1⟩) | (with_reducible exact ⟨HS2.out.1, HS2.out.2.1⟩) | (with_reducible exact keepQ hwF (by assumption) (by assumption)) | (with_reducible exact keepQA (by assumption) _) | (with_reducible exact keepQG hqg (by assumption) (by assumption)))
        (first
          | (refine step_app_b (by rfl) _ _ _ (by rfl) WF.heap.size 5 Try.underlying22 ji jz0 jz1 jz2 rfl (some ⟨WF.heap.size, 0, none⟩) 0 0 [] (by rfl) HLIT.out xA xN xC xL (by rfl) (Rd.below HXF.out hbL (Nat.le_refl _)) (by omega) hbL.size ?_; intro A4 C4 w4 ho4 hb4 hg4; rw [Nat.zero_add, List.nil_append] at ho4)
          | (refine step_append_lies _ (by rfl) _ _ _ (by rfl) w.heap.size 71 i0 _ 2 40 Try.underlying31 hi hz0 hz1 hz2 rfl (by decide) (.slice qA qN qC) qN (qs.flatMap encFile) (by rfl) ((HOF.out.below ((hbL.trans hb4).alloc (hbL.trans hb4).size _)).nest.row.own) ⟨w4.heap.size, 0, none⟩ 1 1 [.string nm, .slice A4 xN C4] (by rfl) (by rfl) (news_twoB w4 _ _ _) (one_file ⟨nm, A4, xN, C4, []⟩) (by decide) (by unfold maxLen; omega) (by omega) (Nat.le_trans hbF.size ((hbL.trans hb4).alloc (hbL.trans hb4).size (.cells #[.string nm, .slice A4 xN C4] 71)).size) _ rfl ?_; rintro g9 C9 w9 ho9 hg9 hor9 hlt9))
      have BW4 := hbL.trans hb4
      have BA := BW4.alloc BW4.size (.cells #[.string nm, .slice A4 xN C4] 71)
      have HOA := Lib.hid (HOF.out.below BA)
      have hxl : xL.length = xN := Rd.len HXF.out
      have hin4 : OwnS (encI .u8) 1 5 WF.heap.size w4.heap.size w4 A4 xN C4 xL := OwnS.of (by rw [flat_encI]; exact ho4) hxl (by omega)
      have hin : OwnS (encI .u8) 1 5 WF.heap.size (w4.alloc (.cells #[.string nm, .slice A4 xN C4] 71)).heap.size (w4.alloc (.cells #[.string nm, .slice A4 xN C4] 71)) A4 xN C4 xL := (hin4.below ((Below.refl w4.heap.size w4).alloc (Nat.le_refl _) _)).grow (by simp) (Nat.le_refl _)
      have HN := Lib.hid (OwnFileS.snoc HOA.out (Nat.le_of_lt hwF) hbF.size ⟨nm, A4, xN, C4, xL⟩ g9 C9 hin ho9 hg9 hor9 (by show qN < 100000000; omega))
      have HQ2 : Hid (datFileS ⟨some ⟨g9, 0, none⟩, qN + 1, C9, qs ++ [⟨nm, A4, xN, C4, xL⟩]⟩ = (xs.take (qN + 1)).map datFile) := Lib.hid (by
        rw [HST.out, ← HQ.out]
        unfold datFileS
        rw [List.map_append]
        rfl)
      have hb9 : Below w.heap.size w w9 := (hbF.trans (BA.mono hbF.size)).trans (below_grown hg9 (Nat.le_trans hbF.size BA.size) (fun k hk => (World.ownsRow.lt HOA.out.nest.row.own k hk).1))
      clear ho9 hg9 hor9 hin hin4 BA BW4 hb4 hg4 ho4
      go_wp2
      go_roundw
      case rel => exact ⟨qN + 1, ⟨some ⟨g9, 0, none⟩, qN + 1, C9, qs ++ [⟨nm, A4, xN, C4, xL⟩]⟩, by omega, rfl, by go_num, rfl, HN, HQ2, hb9⟩
      case measure => simp [intOf]; omega
    · obtain rfl : qN = n := by omega
      go_wp2
      go_ret
      exact ⟨⟨qA, qN, qC, qs⟩, rfl, HQ.out, HO.out, hb⟩
end Go.Proofs.Ytoodlmhnemamhaa
