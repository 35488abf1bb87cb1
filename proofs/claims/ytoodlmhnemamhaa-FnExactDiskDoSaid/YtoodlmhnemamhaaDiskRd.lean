/- DiskRead of the reference and of the program. -/
import Derived.Test.YtoodlmhnemamhaaReadS
import Derived.Test.YtoodlmhnemamhaaDiskOkK
import Derived.Test.YtoodlmhnemamhaaByteSK
import Derived.Test.YtoodlmhnemamhaaSeen
namespace Go.Proofs.Ytoodlmhnemamhaa
open Go.RowKit Go.Maps Go.WideMaps
theorem runF_size {room : Int} : ∀ (O : List OD) (l L : List FD), runF room l O = some L → (sizeF l : Int) ≤ room → (sizeF L : Int) ≤ room := by
  intro O
  induction O with
  | nil => intro l L h h2; simp only [runF] at h; cases h; exact h2
  | cons o r ih =>
    intro l L h h2
    simp only [runF] at h
    split at h
    · rename_i h1
      simp only [Bool.and_eq_true, decide_eq_true_eq] at h1
      exact ih _ _ h h1.2.2
    · cases h
theorem diskB_seen {room fuse : Int} {F : List FD} {O : List OD} (h : diskB room fuse F O = true) : ∃ L, seenB room F O = some L ∧ runF room F O = some L ∧ (sizeF L : Int) ≤ 200000 ∧ (0 ≤ room ∧ room ≤ 200000 ∧ -1 ≤ fuse ∧ fuse ≤ 2000 ∧ F.length ≤ 12 ∧ O.length ≤ 60) ∧ ∀ k, k < F.length → nameStep F k = true := by
  unfold diskB at h
  simp only [Bool.and_eq_true] at h
  obtain ⟨h1, h2, h3⟩ := h
  obtain ⟨L, hL⟩ := Option.isSome_iff_exists.1 h3
  have h4 := hL
  unfold seenB at h4
  split at h4
  · rename_i hs
    have h5 := runF_size O F L h4 hs
    have h6 := headB_of h1
    exact ⟨L, hL, h4, by omega, h6, namesB_yes h2⟩
  · cases h4
/-- What is seen: nothing where the disk is not right. -/
def seenD (D : DskD) : List FD := if diskB D.1 D.2.1 D.2.2.1 D.2.2.2 = true then (seenB D.1 D.2.2.1 D.2.2.2).getD [] else []
def readD (D : DskD) (nm : ByteArray) : List Int × Bool := if diskB D.1 D.2.1 D.2.2.1 D.2.2.2 = true then (getF (seenD D) nm, hasF (seenD D) nm) else ([], false)
def RetRdB (r : List Int × Bool) (w : World) (en : Ending) (w' : World) : Prop := ∃ y : Row Int, en = .returned (.tuple #[.slice y.a y.n y.c, .bool r.2]) ∧ datByteS y = r.1 ∧ OwnByteS w.heap.size w'.heap.size w' y ∧ bulkByteS y ≤ 1048576 ∧ Below w.heap.size w w'
theorem RetRdB.nil {w w' : World} (hb : Below w.heap.size w w') : RetRdB ([], false) w (.returned (.tuple #[.slice none 0 0, .bool false])) w' :=
  ⟨⟨none, 0, 0, []⟩, rfl, rfl, ⟨⟨rfl, World.ownsRow_nil _ _ _ _, fun g hg => by simp [Value.ownBlock] at hg, Nat.le_refl _, Nat.zero_le _⟩⟩, Nat.zero_le _, hb⟩
set_option maxRecDepth 100000 in
set_option maxHeartbeats 3200000 in
theorem seen_any (y : DiskR) (w : World) (g : goodDisk w y) (hn : bulkDisk y ≤ 1048576) :
    Calls Try.prog 54 #[.agg #[.int .i64 y.room, .int .i64 y.fuse, .slice y.filesA y.filesN y.filesC, .slice y.waitA y.waitN y.waitC]] w fun e w' => RetFl (seenD (datDisk y)) w e w' := by
  have hb0 := (Below.refl w.heap.size w).alloc (Nat.le_refl _) (.cells #[.int .i64 y.room, .int .i64 y.fuse, .slice y.filesA y.filesN y.filesC, .slice y.waitA y.waitN y.waitC] 34)
  have c0 : (w.alloc (.cells #[.int .i64 y.room, .int .i64 y.fuse, .slice y.filesA y.filesN y.filesC, .slice y.waitA y.waitN y.waitC] 34)).cell? ⟨w.heap.size, 0, none⟩ = some (.int .i64 y.room) := by simp [go_sem]
  have c1 : (w.alloc (.cells #[.int .i64 y.room, .int .i64 y.fuse, .slice y.filesA y.filesN y.filesC, .slice y.waitA y.waitN y.waitC] 34)).cell? ⟨w.heap.size, 1, none⟩ = some (.int .i64 y.fuse) := by simp [go_sem]
  have c2 : (w.alloc (.cells #[.int .i64 y.room, .int .i64 y.fuse, .slice y.filesA y.filesN y.filesC, .slice y.waitA y.waitN y.waitC] 34)).cell? ⟨w.heap.size, 2, none⟩ = some (.slice y.filesA y.filesN y.filesC) := by simp [go_sem]
  have c3 : (w.alloc (.cells #[.int .i64 y.room, .int .i64 y.fuse, .slice y.filesA y.filesN y.filesC, .slice y.waitA y.waitN y.waitC] 34)).cell? ⟨w.heap.size, 3, none⟩ = some (.slice y.waitA y.waitN y.waitC) := by simp [go_sem]
  have HG := Lib.hid (show goodDisk _ y from good_of_rd (rdDisk_below (goodDisk_rd g) hb0 (Nat.le_refl _)) (goodDisk_ok g))
  have HL1 : Hid ((datDisk y).2.2.1.length = y.filesN) := Lib.hid (by show (y.files.map datFile).length = y.filesN; rw [List.length_map]; exact g.2.2.1.1.len)
  have HL2 : Hid ((datDisk y).2.2.2.length = y.waitN) := Lib.hid (by show (y.wait.map datFsOp).length = y.waitN; rw [List.length_map]; exact g.2.2.2.1.len)
  have HS : Hid (∀ q, diskB (datDisk y).1 (datDisk y).2.1 (datDisk y).2.2.1 (datDisk y).2.2.2 = q → seenD (datDisk y) = if q = true then (seenB (datDisk y).1 (datDisk y).2.2.1 (datDisk y).2.2.2).getD [] else []) := Lib.hid (fun q hq => by unfold seenD; rw [hq])
  clear g
  cases hq : diskB (datDisk y).1 (datDisk y).2.1 (datDisk y).2.2.1 (datDisk y).2.2.2 with
  | false =>
    have HQ := Lib.hid hq
    have HE := Lib.hid (HS.out _ hq)
    clear hq HS
    go_enter Try.func54, Try.ntmps54
    go_wp2_with fail
    refine (diskOk_spec_k y _ rfl _ HG.out hn).mono ?_
    rintro e w1 ⟨rfl, hb1⟩
    rw [HQ.out]
    have BB1 := hb0.trans (hb1.mono hb0.size)
    go_wp2
    go_ret
    rw [HE.out]
    exact ⟨⟨none, 0, 0, []⟩, rfl, rfl, ⟨⟨Nat.le_refl _, Nat.zero_le _, rfl, fun _ => rfl, fun h => absurd h (Nat.lt_irrefl _)⟩, fun f hf => by cases hf⟩, BB1, fun g hg => by cases hg⟩
  | true =>
    obtain ⟨L, s1, s2, s3, s4, s5⟩ := diskB_seen hq
    have HQ := Lib.hid hq
    have HE : Hid (seenD (datDisk y) = L) := Lib.hid (by rw [HS.out _ hq, s1]; rfl)
    have n12 : y.filesN ≤ 12 := by rw [← HL1.out]; exact s4.2.2.2.2.1
    have n60 : y.waitN ≤ 60 := by rw [← HL2.out]; exact s4.2.2.2.2.2
    have hr0 : y.room ≤ 200000 := s4.2.1
    have HRU := Lib.hid s2
    clear hq HS s1 s2 s3 s4 s5
    go_enter Try.func54, Try.ntmps54
    go_wp2_with fail
    generalize w.alloc (.cells #[.int .i64 y.room, .int .i64 y.fuse, .slice y.filesA y.filesN y.filesC, .slice y.waitA y.waitN y.waitC] 34) = W0 at *
    refine (diskOk_spec_k y _ rfl _ HG.out hn).mono ?_
    rintro e w1 ⟨rfl, hb1⟩
    rw [HQ.out]
    have d0 := cell_later hb1 c0
    have d1 := cell_later hb1 c1
    have d2 := cell_later hb1 c2
    have d3 := cell_later hb1 c3
    have BB1 := hb0.trans (hb1.mono hb0.size)
    have HR1 := Lib.hid (rdDisk_below (goodDisk_rd HG.out) hb1 (Nat.le_refl _))
    go_wp2_with fail
    refine (l02Seen_any y L _ HR1.out hn n12 n60 hr0 HRU.out).mono ?_
    rintro e w2 ⟨q, rfl, hd, hr, hb2, hfr⟩
    have BB2 := BB1.trans (hb2.mono BB1.size)
    go_wp2
    go_ret
    rw [HE.out]
    exact ⟨q, rfl, hd, hr, BB2, fun g hg => Nat.le_trans BB1.size (hfr g hg)⟩
theorem seenD_size (D : DskD) : sizeF (seenD D) ≤ 200000 := by
  unfold seenD
  cases h : diskB D.1 D.2.1 D.2.2.1 D.2.2.2 with
  | false => exact Nat.zero_le _
  | true =>
    obtain ⟨L, s1, s2, s3, s4, s5⟩ := diskB_seen h
    rw [if_pos rfl, s1]
    have : (0 : Int) ≤ D.1 := s4.1
    show sizeF L ≤ 200000
    omega
theorem getF_size (l : List FD) (nm : ByteArray) : (getF l nm).length ≤ sizeF l := by
  unfold getF
  cases e : hasF l nm with
  | false => rw [find_none e]; exact Nat.zero_le _
  | true =>
    obtain ⟨x, e2, hm⟩ := find_some e
    rw [e2]
    exact le_sizeF l _ hm
theorem has_dat (M : List (ByteArray × Row Int)) (nm : ByteArray) : hasF (datM M) nm = hasF M nm := by unfold datM; rw [has_snd]
theorem readD_seen (D : DskD) (nm : ByteArray) : readD D nm = (getF (seenD D) nm, hasF (seenD D) nm) := by
  unfold readD seenD
  cases h : diskB D.1 D.2.1 D.2.2.1 D.2.2.2 <;> rfl
set_option maxRecDepth 100000 in
set_option maxHeartbeats 3200000 in
theorem diskRead_spec_k (y : DiskR) (D : DskD) (hD : datDisk y = D) (nm : ByteArray) (w : World) (g : goodDisk w y) (hn : bulkDisk y ≤ 1048576) :
    Calls Try.prog 24 #[.agg #[.int .i64 y.room, .int .i64 y.fuse, .slice y.filesA y.filesN y.filesC, .slice y.waitA y.waitN y.waitC], .string nm] w fun e w' => RetRdB (readD D nm) w e w' := by
  subst hD
  have hb0 := (Below.refl w.heap.size w).alloc (Nat.le_refl _) (.cells #[.int .i64 y.room, .int .i64 y.fuse, .slice y.filesA y.filesN y.filesC, .slice y.waitA y.waitN y.waitC] 34)
  have c0 : (w.alloc (.cells #[.int .i64 y.room, .int .i64 y.fuse, .slice y.filesA y.filesN y.filesC, .slice y.waitA y.waitN y.waitC] 34)).cell? ⟨w.heap.size, 0, none⟩ = some (.int .i64 y.room) := by simp [go_sem]
  have c1 : (w.alloc (.cells #[.int .i64 y.room, .int .i64 y.fuse, .slice y.filesA y.filesN y.filesC, .slice y.waitA y.waitN y.waitC] 34)).cell? ⟨w.heap.size, 1, none⟩ = some (.int .i64 y.fuse) := by simp [go_sem]
  have c2 : (w.alloc (.cells #[.int .i64 y.room, .int .i64 y.fuse, .slice y.filesA y.filesN y.filesC, .slice y.waitA y.waitN y.waitC] 34)).cell? ⟨w.heap.size, 2, none⟩ = some (.slice y.filesA y.filesN y.filesC) := by simp [go_sem]
  have c3 : (w.alloc (.cells #[.int .i64 y.room, .int .i64 y.fuse, .slice y.filesA y.filesN y.filesC, .slice y.waitA y.waitN y.waitC] 34)).cell? ⟨w.heap.size, 3, none⟩ = some (.slice y.waitA y.waitN y.waitC) := by simp [go_sem]
  have HG := Lib.hid (show goodDisk _ y from good_of_rd (rdDisk_below (goodDisk_rd g) hb0 (Nat.le_refl _)) (goodDisk_ok g))
  have HS := Lib.hid (seenD_size (datDisk y))
  obtain ⟨j0, ji, jz0, jz1, jz2⟩ := info_parts infoByte
  rw [readD_seen]
  clear g
  go_enter Try.func24, Try.ntmps24
  go_wp2_with fail
  generalize w.alloc (.cells #[.int .i64 y.room, .int .i64 y.fuse, .slice y.filesA y.filesN y.filesC, .slice y.waitA y.waitN y.waitC] 34) = W0 at *
  refine (seen_any y _ HG.out hn).mono ?_
  rintro e w1 ⟨q, rfl, hd, hr, hb1, _⟩
  have BB1 := hb0.trans (hb1.mono hb0.size)
  have HD := Lib.hid hd
  rw [← HD.out] at HS
  clear hd c0 c1 c2 c3
  obtain ⟨qA, qN, qC, qs⟩ := q
  have hql : qs.length = qN := hr.1.len
  go_wp2_with fail
  refine (l02At_any ⟨qA, qN, qC, qs⟩ nm _ hr).mono ?_
  rintro e w2 ⟨r, rfl, hat, hb2⟩
  have BB2 := BB1.trans (hb2.mono BB1.size)
  have hr2 := rdFileS_below hr hb2 (Nat.le_refl _)
  rcases hat with ⟨rfl, h1⟩ | ⟨k, rfl, hk, h1, h2⟩
  · have HX : Hid ((getF (datFileS ⟨qA, qN, qC, qs⟩) nm, hasF (datFileS ⟨qA, qN, qC, qs⟩) nm) = ([], false)) := Lib.hid (by
      have e : hasF (datFileS ⟨qA, qN, qC, qs⟩) nm = false := h1
      rw [e]
      unfold getF
      rw [find_none e]
      rfl)
    go_wp2
    refine bodyPost_ret (v := .tuple #[.slice none 0 0, .bool false]) (by simp [results, Try.results24, go_sem]) rfl ?_
    rw [← HD.out, HX.out]
    exact RetRdB.nil BB2
  · simp only at hk
    have hkq : k < qN := by omega
    have HX : Hid ((getF (datFileS ⟨qA, qN, qC, qs⟩) nm, hasF (datFileS ⟨qA, qN, qC, qs⟩) nm) = ((atFile qs k).data, true)) := Lib.hid (by
      have e : hasF (datFileS ⟨qA, qN, qC, qs⟩) nm = true := h1
      rw [e]
      unfold getF
      rw [show findF (datFileS ⟨qA, qN, qC, qs⟩) nm = _ from h2]
      rfl)
    obtain ⟨b, off, rfl, hbl, hc⟩ := hr2.1.rowFile (by show 0 < qN; omega)
    obtain ⟨k0, k1⟩ := hc k hkq
    have hi1 : (k : Int) < (qN : Int) := by omega
    have hi0 : ¬ (k : Int) < 0 := by omega
    have HXR : Hid (rdFile w2 (atFile qs k)) := Lib.hid (by rw [atFile_eq qs k hk]; exact hr2.2 _ (List.getElem_mem hk))
    have hxn : (atFile qs k).dataN ≤ 200000 := by
      have e1 := le_sizeF (datFileS ⟨some ⟨b, off, none⟩, qN, qC, qs⟩) (datFile (atFile qs k)) (List.mem_map_of_mem (by rw [atFile_eq qs k hk]; exact List.getElem_mem hk))
      have e2 : (atFile qs k).data.length = (atFile qs k).dataN := HXR.out.len
      have e3 := HS.out
      unfold datFile at e1
      simp only at e1
      omega
    clear h1 h2 hc hr HS hk
    generalize atFile qs k = x at *
    obtain ⟨xm, xA, xN, xC, xL⟩ := x
    simp only at k1 hxn HX
    have HXT := Lib.hid (Rd.below HXR.out ((Below.refl w2.heap.size w2).alloc (Nat.le_refl _) (.cells #[] 5)) (Nat.le_refl _))
    have hle := HXT.out.le
    have hmx := HXT.out.max
    have hll : xL.length = xN := HXT.out.len
    unfold maxLen at hmx
    go_wp2_with (at_builtin; refine app_any rfl _ _ 22 rfl w2.heap.size 5 Try.underlying22 ji jz0 jz1 jz2 rfl (by decide) (some ⟨w2.heap.size, 0, none⟩) 0 0 [] rfl (World.ownsRow_lit w2 #[] 0 (Nat.le_refl _) (by unfold maxLen; omega) (by simp)) xA xN xC (xL.map (.int .u8)) rfl ?c1 HXT.out.news HXT.out.none (int_bytes xL) ?c2 ?c3 (by simp) ?_)
    case c1 => rw [List.length_map, hll]; omega
    case c2 => unfold maxLen; omega
    case c3 => omega
    intro A2 C2 w4 ho2 hb4
    have ho3 : w4.ownsRow w2.heap.size 5 1 (.slice A2 xN C2) xN (xL.map (.int .u8)) := by simpa using ho2
    have hb5 := BB2.trans (((Below.refl w2.heap.size w2).alloc (Nat.le_refl _) (.cells #[] 5)).trans hb4 |>.mono BB2.size)
    go_wp2
    refine bodyPost_ret (v := .tuple #[.slice A2 xN C2, .bool true]) (by simp [results, Try.results24, go_sem]) rfl ?_
    rw [← HD.out, HX.out]
    exact ⟨⟨A2, xN, C2, xL⟩, rfl, rfl, ⟨(OwnS.of (by rw [flat_encI]; exact ho3) hll (by omega)).lo_le BB2.size⟩, by show xN ≤ 1048576; omega, hb5⟩
set_option maxRecDepth 100000 in
set_option maxHeartbeats 3200000 in
theorem diskRead_impl_k (y : DiskR) (D : DskD) (hD : datDisk y = D) (nm : ByteArray) (hnm : nm.size ≤ maxLen) (w : World) (g : goodDisk w y) (hn : bulkDisk y ≤ 1048576) :
    Calls Try.prog 25 #[.agg #[.int .i64 y.room, .int .i64 y.fuse, .slice y.filesA y.filesN y.filesC, .slice y.waitA y.waitN y.waitC], .string nm] w fun e w' => RetRdB (readD D nm) w e w' := by
  subst hD
  have hb0 := (Below.refl w.heap.size w).alloc (Nat.le_refl _) (.cells #[.int .i64 y.room, .int .i64 y.fuse, .slice y.filesA y.filesN y.filesC, .slice y.waitA y.waitN y.waitC] 34)
  have c0 : (w.alloc (.cells #[.int .i64 y.room, .int .i64 y.fuse, .slice y.filesA y.filesN y.filesC, .slice y.waitA y.waitN y.waitC] 34)).cell? ⟨w.heap.size, 0, none⟩ = some (.int .i64 y.room) := by simp [go_sem]
  have c1 : (w.alloc (.cells #[.int .i64 y.room, .int .i64 y.fuse, .slice y.filesA y.filesN y.filesC, .slice y.waitA y.waitN y.waitC] 34)).cell? ⟨w.heap.size, 1, none⟩ = some (.int .i64 y.fuse) := by simp [go_sem]
  have c2 : (w.alloc (.cells #[.int .i64 y.room, .int .i64 y.fuse, .slice y.filesA y.filesN y.filesC, .slice y.waitA y.waitN y.waitC] 34)).cell? ⟨w.heap.size, 2, none⟩ = some (.slice y.filesA y.filesN y.filesC) := by simp [go_sem]
  have c3 : (w.alloc (.cells #[.int .i64 y.room, .int .i64 y.fuse, .slice y.filesA y.filesN y.filesC, .slice y.waitA y.waitN y.waitC] 34)).cell? ⟨w.heap.size, 3, none⟩ = some (.slice y.waitA y.waitN y.waitC) := by simp [go_sem]
  have HG := Lib.hid (show goodDisk _ y from good_of_rd (rdDisk_below (goodDisk_rd g) hb0 (Nat.le_refl _)) (goodDisk_ok g))
  have HST := Lib.hid (goodDisk_str g)
  have HL1 : Hid ((datDisk y).2.2.1.length = y.filesN) := Lib.hid (by show (y.files.map datFile).length = y.filesN; rw [List.length_map]; exact g.2.2.1.1.len)
  have HL2 : Hid ((datDisk y).2.2.2.length = y.waitN) := Lib.hid (by show (y.wait.map datFsOp).length = y.waitN; rw [List.length_map]; exact g.2.2.2.1.len)
  have HS := Lib.hid (seenD_size (datDisk y))
  have HK := Lib.hid (keyS hnm)
  rw [readD_seen]
  clear g
  go_enter Try.func25, Try.ntmps25
  go_wp2_with fail
  generalize w.alloc (.cells #[.int .i64 y.room, .int .i64 y.fuse, .slice y.filesA y.filesN y.filesC, .slice y.waitA y.waitN y.waitC] 34) = W0 at *
  refine (diskOk_impl_k y _ rfl _ HG.out hn).mono ?_
  rintro e w1 ⟨rfl, hb1⟩
  have BB1 := hb0.trans (hb1.mono hb0.size)
  have d0 := cell_later hb1 c0
  have d1 := cell_later hb1 c1
  have d2 := cell_later hb1 c2
  have d3 := cell_later hb1 c3
  have HR1 := Lib.hid (rdDisk_below (goodDisk_rd HG.out) hb1 (Nat.le_refl _))
  clear c0 c1 c2 c3
  cases hq : diskB (datDisk y).1 (datDisk y).2.1 (datDisk y).2.2.1 (datDisk y).2.2.2 with
  | false =>
    have HX : Hid ((getF (seenD (datDisk y)) nm, hasF (seenD (datDisk y)) nm) = ([], false)) := Lib.hid (by rw [← readD_seen]; unfold readD; rw [hq]; rfl)
    clear hq
    go_wp2
    refine bodyPost_ret (v := .tuple #[.slice none 0 0, .bool false]) (by simp [results, Try.results25, go_sem]) rfl ?_
    rw [HX.out]
    exact RetRdB.nil BB1
  | true =>
    obtain ⟨L, s1, s2, s3, s4, s5⟩ := diskB_seen hq
    have HE : Hid (seenD (datDisk y) = L) := Lib.hid (by unfold seenD; rw [hq, s1]; rfl)
    have n12 : y.filesN ≤ 12 := by rw [← HL1.out]; exact s4.2.2.2.2.1
    have n60 : y.waitN ≤ 60 := by rw [← HL2.out]; exact s4.2.2.2.2.2
    have hr0 : y.room ≤ 200000 := s4.2.1
    have HSB : Hid (seenB y.room (y.files.map datFile) (y.wait.map datFsOp) = some L) := Lib.hid s1
    have HN5 : Hid (∀ k, k < (y.files.map datFile).length → nameStep (y.files.map datFile) k = true) := Lib.hid s5
    clear hq s1 s2 s3 s4 s5
    go_wp2_with fail
    refine (seenOf_any y _ HR1.out HST.out hn n12 n60 hr0 HN5.out).mono ?_
    rintro e w2 ⟨hq, hb2⟩
    have BB2 := BB1.trans (hb2.mono BB1.size)
    rw [HSB.out] at hq
    obtain ⟨b, n, M, h1, rfl, hFM⟩ : ∃ (b n : Nat) (M : List (ByteArray × Row Int)), L = datM M ∧ e = .returned (.tuple #[.map (some b), .bool true]) ∧ FM w2 b n M := by
      rcases hq with ⟨h, _⟩ | ⟨b, n, M, h1, h2, h3, _⟩
      · cases h
      · exact ⟨b, n, M, Option.some.inj h1, h2, h3⟩
    rw [HE.out] at HS
    have HLM := Lib.hid h1
    have HF := Lib.hid hFM
    have HR := Lib.hid (hFM.row nm)
    have HRL := Lib.hid (rowM_dat M nm)
    have HMA := Lib.hid (mapD_at M nm (.held (.slice Option.none 0 0)))
    have HM := Lib.hid (mapD_has M nm)
    have hrn : (rowM M nm).n ≤ 200000 := by
      have e1 : (rowM M nm).l.length = (rowM M nm).n := HR.out.len
      rw [HRL.out, ← HLM.out] at e1
      have e2 := getF_size L nm
      have e3 := HS.out
      omega
    clear hq h1 hFM d0 d1 d2 d3 HS
    go_wp2_with (first
      | (at_lookup; refine wpList_lookup_own_ok _ rfl _ _ 77 rfl 9 22 lawS Try.underlying77 heldR (zeroSl _) (.held (.slice Option.none 0 0)) [] hzd0 b n (mapD M) rfl HF.out.own _ _ rfl HK.out ?_)
      | fail)
    intro v ps hv
    rw [HM.out]
    have HV : Hid (v = .slice (rowM M nm).a (rowM M nm).n (rowM M nm).c) := Lib.hid (by
      unfold heldR at hv
      have e1 : DataW.held v = (mapD M).atKey (litN nm) (.held (.slice Option.none 0 0)) := congrArg Prod.fst (Option.some.inj hv)
      rw [HMA.out] at e1
      unfold rowM
      cases e : findF M nm with
      | none => rw [e] at e1; cases e1; rfl
      | some r => rw [e] at e1; cases e1; rfl)
    rw [HV.out]
    clear hv HV HMA HM
    go_wp2_with fail
    refine (copyBytes_any (rowM M nm).a (rowM M nm).n (rowM M nm).c (rowM M nm).l _ HR.out (by omega)).mono ?_
    rintro e w3 ⟨A2, N2, C2, rfl, ho, hb3⟩
    have BB3 := BB2.trans (hb3.mono BB2.size)
    go_wp2
    refine bodyPost_ret (v := .tuple #[.slice A2 N2 C2, .bool (hasF M nm)]) (by simp [results, Try.results25, go_sem]) rfl ?_
    rw [HE.out, HLM.out, has_dat, ← HRL.out]
    exact ⟨⟨A2, N2, C2, (rowM M nm).l⟩, rfl, rfl, ⟨ho.toS.lo_le BB2.size⟩, by show N2 ≤ 1048576; have e1 := ho.toS.len; have e2 := HR.out.len; omega, BB3⟩
end Go.Proofs.Ytoodlmhnemamhaa
