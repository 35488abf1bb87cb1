/- The kind FsOpS: rows of FsOp, each with a row of its own. -/
import Derived.Test.YtoodlmhnemamhaaFsOpK
import Derived.Test.YtoodlmhnemamhaaNest
import Derived.Test.YtoodlmhnemamhaaKeep
namespace Go.Proofs.Ytoodlmhnemamhaa
open Go.RowKit
def zFsOp : FsOpR := ⟨0, ⟨#[]⟩, ⟨#[]⟩, none, 0, 0, []⟩
def atFsOp (xs : List FsOpR) (j : Nat) : FsOpR := xs.getD j zFsOp
theorem atFsOp_eq (xs : List FsOpR) (j : Nat) (h : j < xs.length) : atFsOp xs j = xs[j] := by simp [atFsOp, List.getD, h]
theorem lenFsOp : ∀ x : FsOpR, (encFsOp x).length = 4 := fun _ => rfl
theorem Rd.rowFsOp {w : World} {a : Option Addr} {n cap : Nat} {xs : List FsOpR} (h : Rd encFsOp 4 w a n cap xs) (hn : 0 < n) :
    ∃ b off, a = some ⟨b, off, none⟩ ∧ b < w.heap.size ∧ ∀ j, j < n → w.cell? ⟨b, off + j * 4, none⟩ = some (.int .i64 (atFsOp xs j).kind) ∧ w.cell? ⟨b, off + j * 4 + 1, none⟩ = some (.string (atFsOp xs j).name) ∧ w.cell? ⟨b, off + j * 4 + 2, none⟩ = some (.string (atFsOp xs j).dst) ∧ w.cell? ⟨b, off + j * 4 + 3, none⟩ = some (.slice (atFsOp xs j).dataA (atFsOp xs j).dataN (atFsOp xs j).dataC) := by
  obtain ⟨b, off, ha, hl, hc⟩ := h.spot hn
  refine ⟨b, off, ha, hl, fun j hj => ?_⟩
  have hj' : j < xs.length := by rw [h.len]; exact hj
  rw [atFsOp_eq xs j hj']
  exact ⟨hc j hj' 0 (.int .i64 xs[j].kind) rfl, hc j hj' 1 (.string xs[j].name) rfl, hc j hj' 2 (.string xs[j].dst) rfl, hc j hj' 3 (.slice xs[j].dataA xs[j].dataN xs[j].dataC) rfl⟩
def slFsOp (x : FsOpR) : Row Int := ⟨x.dataA, x.dataN, x.dataC, x.data⟩
def datFsOpS (y : Row FsOpR) : List (Int × ByteArray × ByteArray × List Int) := y.l.map datFsOp
def rdFsOpS (w : World) (y : Row FsOpR) : Prop := RdN encFsOp 4 (encI .u8) 1 slFsOp w y
theorem rdFsOpS_below {w w' : World} {y : Row FsOpR} (h : rdFsOpS w y) {B : Nat} (hb : Below B w w') (hB : w.heap.size ≤ B) : rdFsOpS w' y := RdN.below h hb hB
structure OwnFsOpS (lo hi : Nat) (w : World) (y : Row FsOpR) : Prop where
  nest : OwnN encFsOp 4 27 (encI .u8) 1 5 slFsOp lo hi w y
theorem OwnFsOpS.below {lo hi : Nat} {w w' : World} {y : Row FsOpR} (h : OwnFsOpS lo hi w y) (hb : Below w.heap.size w w') : OwnFsOpS lo hi w' y := ⟨h.nest.below hb⟩
theorem OwnFsOpS.win {lo hi lo' hi' : Nat} {w w' : World} {y : Row FsOpR} (h : OwnFsOpS lo hi w y) (hw : Win lo' hi' w w') (hd : hi' ≤ lo ∨ hi ≤ lo') : OwnFsOpS lo hi w' y := ⟨h.nest.win hw hd⟩
theorem OwnFsOpS.lo_le {lo hi lo' : Nat} {w : World} {y : Row FsOpR} (h : OwnFsOpS lo hi w y) (hl : lo' ≤ lo) : OwnFsOpS lo' hi w y := ⟨h.nest.lo_le hl⟩
theorem OwnFsOpS.rd {lo hi : Nat} {w : World} {y : Row FsOpR} (h : OwnFsOpS lo hi w y) : rdFsOpS w y := h.nest.rd lenFsOp (show ∀ x, (encI .u8 x).length = 1 from fun _ => rfl)
def preFsOp (xs : List FsOpR) (j : Nat) : Nat := ((xs.take j).map bulkFsOp).sum
theorem preFsOp_succ (xs : List FsOpR) (j : Nat) (h : j < xs.length) : preFsOp xs (j + 1) = preFsOp xs j + bulkFsOp (atFsOp xs j) := by
  unfold preFsOp
  rw [List.take_succ_eq_append_getElem h, atFsOp_eq xs j h, List.map_append, List.sum_append]
  simp only [List.map_cons, List.map_nil, List.sum_cons, List.sum_nil, Nat.add_zero]
theorem preFsOp_le (xs : List FsOpR) : ∀ d j, preFsOp xs j ≤ preFsOp xs (j + d) := by
  intro d
  induction d with
  | zero => intro j; exact Nat.le_refl _
  | succ d ih =>
    intro j
    refine Nat.le_trans (ih j) ?_
    by_cases h : j + d < xs.length
    · rw [show j + (d + 1) = j + d + 1 from by omega, preFsOp_succ xs _ h]; omega
    · unfold preFsOp
      rw [List.take_of_length_le (show xs.length ≤ j + d by omega), List.take_of_length_le (show xs.length ≤ j + (d + 1) by omega)]
      exact Nat.le_refl _
theorem preFsOp_top (xs : List FsOpR) (j : Nat) (h : j < xs.length) : preFsOp xs j + bulkFsOp (atFsOp xs j) ≤ preFsOp xs xs.length := by
  rw [← preFsOp_succ xs j h]
  have := preFsOp_le xs (xs.length - (j + 1)) (j + 1)
  rw [show j + 1 + (xs.length - (j + 1)) = xs.length from by omega] at this
  exact this
def bulkFsOpS (y : Row FsOpR) : Nat := y.n + preFsOp y.l y.l.length
def strFsOp (x : FsOpR) : Prop := x.name.size ≤ maxLen ∧ x.dst.size ≤ maxLen
set_option maxHeartbeats 1600000 in
theorem szFsOpS_k (y : Row FsOpR) (left : Int) (w : World) (g : rdFsOpS w y) (hs : ∀ x ∈ y.l, strFsOp x) (h1 : 0 ≤ left) (h2 : left ≤ 1048576) :
    Calls Try.prog 47 #[.slice y.a y.n y.c, .int .i64 left] w fun e w' => e = .returned (.int .i64 (leftB left (bulkFsOpS y))) ∧ Below w.heap.size w w' := by
  obtain ⟨a, n, c, xs⟩ := y
  obtain ⟨gr, gi⟩ := g
  simp only at gr gi hs ⊢
  have hm := gr.max
  have hle := gr.le
  have hL := Lib.hid gr.len
  unfold maxLen at hm
  have HB : Hid (bulkFsOpS ⟨a, n, c, xs⟩ = n + preFsOp xs n) := Lib.hid (by unfold bulkFsOpS; simp only; rw [hL.out])
  by_cases h0 : left < n
  · have HL := Lib.hid (leftB_no (left := left) (n := n + preFsOp xs n) (by omega))
    go_enter Try.func47, Try.ntmps47
    go_wp2
    go_ret
    exact ⟨by rw [HB.out, HL.out] <;> rfl, Below.refl _ _⟩
  · go_enter Try.func47, Try.ntmps47
    go_wp2
    go_loopw [1, 5] (fun q i wr => ∃ j : Nat, j ≤ n ∧ i = .int .i64 j ∧ q = .int .i64 (left - n - (preFsOp xs j : Int)) ∧ ((n + preFsOp xs j : Nat) : Int) ≤ left ∧ Below w.heap.size w wr) (fun _ i _ => n - (intOf i).toNat)
    case atStart => exact ⟨0, Nat.zero_le _, rfl, by unfold preFsOp; simp, by unfold preFsOp; simp; omega, Below.refl _ _⟩
    case round =>
      obtain ⟨j, hj, rfl, rfl, hq, hb⟩ := hrel
      by_cases hlt : j < n
      · obtain ⟨b, off, rfl, hbl, hc⟩ := gr.rowFsOp (by omega)
        obtain ⟨k0, k1, k2, k3⟩ := hc j hlt
        have cb : ∀ o, wr.cell? ⟨b, o, none⟩ = w.cell? ⟨b, o, none⟩ := fun o => hb.cell (p := ⟨b, o, none⟩) hbl
        rw [← cb] at k0 k1 k2 k3
        have hjx : j < xs.length := by rw [hL.out]; exact hlt
        have hps := preFsOp_succ xs j hjx
        have htop := preFsOp_top xs j hjx
        rw [hL.out] at htop
        have HP := Lib.hid hps
        have rdx : rdFsOp wr (atFsOp xs j) := by
          rw [atFsOp_eq xs j hjx]
          exact rdFsOp_below (gi _ (List.getElem_mem hjx)) hb (Nat.le_refl _)
        have hsx : strFsOp (atFsOp xs j) := by rw [atFsOp_eq xs j hjx]; exact hs _ (List.getElem_mem hjx)
        have hi1 : (j : Int) < (n : Int) := by omega
        clear hc cb gi gr hps hs
        generalize atFsOp xs j = x at *
        generalize hpj : preFsOp xs j = pj at *
        clear hpj
        by_cases hx : left - (n : Int) - (pj : Int) < ((bulkFsOp x : Nat) : Int)
        · have HN := Lib.hid (leftB_no hx)
          have HL := Lib.hid (leftB_no (left := left) (n := n + preFsOp xs n) (by omega))
          clear hx
          go_wp2_with fail
          refine (szFsOp_k x _ _ rdx hsx (by omega) (by omega)).mono ?_
          rintro e w2 ⟨rfl, hb2⟩
          rw [HN.out]
          go_wp2
          go_ret
          exact ⟨by rw [HB.out, HL.out] <;> rfl, hb.trans (hb2.mono hb.size)⟩
        · have HN := Lib.hid (leftB_yes hx)
          go_wp2_with fail
          refine (szFsOp_k x _ _ rdx hsx (by omega) (by omega)).mono ?_
          rintro e w2 ⟨rfl, hb2⟩
          rw [HN.out]
          have hb3 := hb.trans (hb2.mono hb.size)
          go_wp2
          go_roundw
          case rel => exact ⟨j + 1, by omega, by go_num, by rw [HP.out]; go_num, by rw [HP.out]; omega, hb3⟩
          case measure => simp [intOf]; omega
      · obtain rfl : j = n := by omega
        have HL := Lib.hid (leftB_yes (left := left) (n := j + preFsOp xs j) (by omega))
        go_wp2
        go_ret
        exact ⟨by rw [HB.out, HL.out]; go_num, hb⟩
theorem infoFsOp : (Try.prog.info? 27).map (fun i => (i.zero, i.size, i.bytes)) = some (some (.agg (encFsOp zFsOp).toArray), 4, 64) := by kernel_rfl
def RetFsOpS (y : Row FsOpR) (w : World) (en : Ending) (w' : World) : Prop := ∃ y' : Row FsOpR, en = .returned (.slice y'.a y'.n y'.c) ∧ datFsOpS y' = datFsOpS y ∧ OwnFsOpS w.heap.size w'.heap.size w' y' ∧ bulkFsOpS y' = bulkFsOpS y ∧ Below w.heap.size w w'
set_option maxHeartbeats 1600000 in
theorem toFsOpS_r (y : Row FsOpR) (w : World) (g : rdFsOpS w y) (hn : bulkFsOpS y ≤ 1048576) : Calls Try.prog 52 #[.slice y.a y.n y.c] w fun e w' => RetFsOpS y w e w' := by
  obtain ⟨a, n, c, xs⟩ := y
  obtain ⟨gr, gi⟩ := g
  simp only at gr gi ⊢
  have hm := gr.max
  have hle := gr.le
  have hL := Lib.hid gr.len
  unfold maxLen at hm
  have hn2 : n + preFsOp xs n ≤ 1048576 := by unfold bulkFsOpS at hn; simp only at hn; rw [hL.out] at hn; exact hn
  clear hn
  obtain ⟨i0, hi, hz0, hz1, hz2⟩ := info_parts infoFsOp
  go_enter Try.func52, Try.ntmps52
  go_wp2_with (at_make; refine wpList_make_full _ rfl _ _ 32 rfl w.heap.size 27 i0 (.agg (encFsOp zFsOp).toArray) 4 Try.underlying32 hi hz0 hz1 _ _ _ _ n rfl rfl rfl rfl ?b1 ?b2 ?b3 ?_)
  case b1 => rw [hz2]; omega
  case b2 => unfold maxLen; omega
  case b3 => simp
  intro w1 hown hgrow
  have hbel := below_grown hgrow (Nat.le_refl _) (by simp)
  have hN1 : OwnN encFsOp 4 27 (encI .u8) 1 5 slFsOp w.heap.size w1.heap.size w1 ⟨some ⟨w.heap.size, 0, none⟩, n, n, [] ++ List.replicate (n - 0) zFsOp⟩ := by
    have e := made_flat encFsOp zFsOp (by decide) n 4 rfl
    have hown' : w1.ownsRow w.heap.size 27 4 (.slice (some ⟨w.heap.size, 0, none⟩) n n) n ((List.replicate n zFsOp).flatMap encFsOp) := by rw [← e]; first | exact hown | simpa using hown
    have hsz : w.heap.size < w1.heap.size := (hown'.lt _ rfl).2
    refine ⟨OwnS.of (by simpa using hown') (by simp) (show n ≤ _ by omega), ?_, ?_, ?_⟩
    · intro i hi0
      have : ([] ++ List.replicate (n - 0) zFsOp)[i]'hi0 = zFsOp := by simp
      rw [this]
      exact ⟨rfl, World.ownsRow_nil _ _ _ _, fun g hg => by simp [slFsOp, zFsOp, Value.ownBlock] at hg, Nat.le_refl _, by decide⟩
    · intro i hi0 g hg
      have : ([] ++ List.replicate (n - 0) zFsOp)[i]'hi0 = zFsOp := by simp
      rw [this] at hg
      simp [blkR, slFsOp, zFsOp, Value.ownBlock] at hg
    · intro i i' hi0 hi0' _ g hg
      have : ([] ++ List.replicate (n - 0) zFsOp)[i]'hi0 = zFsOp := by simp
      rw [this] at hg
      simp [blkR, slFsOp, zFsOp, Value.ownBlock] at hg
  clear hown hgrow hi hz0 hz1 hz2
  go_wp2
  go_loopw [4] (fun i wr => ∃ (k : Nat) (ds : List FsOpR), k ≤ n ∧ i = .int .i64 k ∧ ds.length = k ∧ ds.map datFsOp = (xs.take k).map datFsOp ∧ ds.map bulkFsOp = (xs.take k).map bulkFsOp ∧ OwnN encFsOp 4 27 (encI .u8) 1 5 slFsOp w.heap.size wr.heap.size wr ⟨some ⟨w.heap.size, 0, none⟩, n, n, ds ++ List.replicate (n - k) zFsOp⟩ ∧ Below w.heap.size w wr) (fun i _ => n - (intOf i).toNat)
  case atStart => exact ⟨0, [], Nat.zero_le _, rfl, rfl, rfl, rfl, hN1, hbel⟩
  case round =>
    obtain ⟨k, ds, hk, rfl, hdl, hdd, hdb, hN, hb⟩ := hrel
    have HDL := Lib.hid hdl
    have HDD := Lib.hid hdd
    have HDB := Lib.hid hdb
    clear hdl hdd hdb hN1 hbel
    by_cases hlt : k < n
    · obtain ⟨b, off, rfl, hbl, hc⟩ := gr.rowFsOp (by omega)
      obtain ⟨k0, k1, k2, k3⟩ := hc k hlt
      have cb : ∀ o, wr.cell? ⟨b, o, none⟩ = w.cell? ⟨b, o, none⟩ := fun o => hb.cell (p := ⟨b, o, none⟩) hbl
      rw [← cb] at k0 k1 k2 k3
      have hkx : k < xs.length := by rw [hL.out]; exact hlt
      have htop := preFsOp_top xs k hkx
      rw [hL.out] at htop
      have rdx : rdFsOp wr (atFsOp xs k) := by
        rw [atFsOp_eq xs k hkx]
        exact rdFsOp_below (gi _ (List.getElem_mem hkx)) hb (Nat.le_refl _)
      have HT := Lib.hid (show xs.take (k + 1) = xs.take k ++ [atFsOp xs k] from by rw [List.take_succ_eq_append_getElem hkx, atFsOp_eq xs k hkx])
      have hi1 : (k : Int) < (n : Int) := by omega
      clear hc cb gi gr
      generalize atFsOp xs k = x at *
      go_wp2_with fail
      refine (toFsOp_k x _ rdx (by omega)).mono ?_
      rintro e w2 ⟨y', rfl, hd', ho', hk', hb2⟩
      have HD' := Lib.hid hd'
      have HK' := Lib.hid hk'
      clear hd' hk' k0 k1 k2 k3
      have hNo : w2.ownsRow w.heap.size 27 4 (.slice (some ⟨w.heap.size, 0, none⟩) n n) n ((ds ++ List.replicate (n - k) zFsOp).flatMap encFsOp) := own_below hN.row.own hb2 (Nat.le_refl _)
      have hkl : k < (ds ++ List.replicate (n - k) zFsOp).length := by simp [HDL.out]; omega
      have hset := flat_set encFsOp 4 lenFsOp (ds ++ List.replicate (n - k) zFsOp) k hkl y'
      have hlist : (ds ++ List.replicate (n - k) zFsOp).set k y' = (ds ++ [y']) ++ List.replicate (n - (k + 1)) zFsOp := by
        rw [List.set_append_right _ _ (by rw [HDL.out]; exact Nat.le_refl _), HDL.out, Nat.sub_self, show n - k = (n - (k + 1)) + 1 from by omega, List.replicate_succ, List.set_cons_zero, List.append_assoc]
        rfl
      have hold : (ds ++ List.replicate (n - k) zFsOp)[k]'hkl = zFsOp := by
        rw [List.getElem_append_right (by rw [HDL.out]; exact Nat.le_refl _)]
        simp
      have HOLD := Lib.hid hold
      have HLI := Lib.hid hlist
      have HS := Lib.hid hset
      have hsz2 : wr.heap.size ≤ w2.heap.size := hb2.size
      have hszw : w.heap.size < wr.heap.size := by have := hN.row.lt _ rfl; have := hN.row.top; omega
      have HN := Lib.hid hN
      clear hset hlist hold hN
      have hf0 := hNo.frozenAt (k * 4)
      have hf1 := hNo.frozenAt (k * 4 + 1)
      have hf2 := hNo.frozenAt (k * 4 + 2)
      have hf3 := hNo.frozenAt (k * 4 + 3)
      have hd : ∀ i, i < 4 → ∃ d, w2.cell? ⟨w.heap.size, k * 4 + i, none⟩ = some d := fun i hi => by
        rw [hNo.cellAt _ (by omega)]
        exact ⟨_, List.getElem?_eq_getElem (by rw [hNo.1]; omega)⟩
      obtain ⟨d0, hd0⟩ := hd 0 (by omega)
      obtain ⟨d1, hd1⟩ := hd 1 (by omega)
      obtain ⟨d2, hd2⟩ := hd 2 (by omega)
      obtain ⟨d3, hd3⟩ := hd 3 (by omega)
      simp only [Nat.add_zero] at hd0
      clear hd
      have s0 := (hNo.stored (k * 4) (.int .i64 y'.kind)).1
      have s1 := (s0.stored (k * 4 + 1) (.string y'.name)).1
      have s2 := (s1.stored (k * 4 + 2) (.string y'.dst)).1
      have s3 := (s2.stored (k * 4 + 3) (.slice y'.dataA y'.dataN y'.dataC)).1
      have hw := ((((Win.set (lo := w.heap.size) (hi := w.heap.size + 1) w2 w.heap.size (k * 4) (.int .i64 y'.kind) (Nat.le_refl _) (Nat.lt_succ_self _)).trans (Win.set _ w.heap.size (k * 4 + 1) (.string y'.name) (Nat.le_refl _) (Nat.lt_succ_self _))).trans (Win.set _ w.heap.size (k * 4 + 2) (.string y'.dst) (Nat.le_refl _) (Nat.lt_succ_self _))).trans (Win.set _ w.heap.size (k * 4 + 3) (.slice y'.dataA y'.dataN y'.dataC) (Nat.le_refl _) (Nat.lt_succ_self _)))
      have SL := Lib.hid s3
      have HW := Lib.hid hw
      clear hNo s3 hw
      go_wp2
      go_roundw
      case rel =>
        refine ⟨k + 1, ds ++ [y'], by omega, by go_num, by simp [HDL.out], by rw [HT.out, List.map_append, List.map_append, HDD.out]; simp [HD'.out], by rw [HT.out, List.map_append, List.map_append, HDB.out]; simp [HK'.out], ?_, (hb.trans (hb2.mono hb.size)).trans (HW.out.below (Nat.le_refl _) (by omega))⟩
        rw [← HLI.out]
        have hrow : OwnS encFsOp 4 27 w.heap.size w2.heap.size _ (some ⟨w.heap.size, 0, none⟩) n n ((ds ++ List.replicate (n - k) zFsOp).set k y') :=
          ⟨by simp [HDL.out]; omega, by rw [← HS.out]; exact SL.out, fun g hg => by simp [Value.ownBlock] at hg; omega, by simp only [size_set]; exact Nat.le_refl _, by omega⟩
        refine HN.out.put k (by simp [HDL.out]; omega) y' (hrow.grow (by simp only [size_set]; exact Nat.le_refl _) (Nat.le_refl _)) (((ho'.row.win HW.out (Or.inl hszw)).lo_le (by omega)).grow (by simp only [size_set]; exact Nat.le_refl _) (Nat.le_refl _)) ?_ ?_ (by simp only [size_set]; exact hsz2) (Nat.le_refl _)
        · intro g hg
          right
          exact (World.ownsRow.lt ho'.row.own g hg).1
        · intro q hq hne _
          have hqo : q ≠ w.heap.size := fun e => hne (by rw [e]; rfl)
          rw [HW.out.block q (by omega) (by omega), hb2.block q hq]
      case measure => simp [intOf]; omega
    · obtain rfl : k = n := by omega
      have hN2 : OwnN encFsOp 4 27 (encI .u8) 1 5 slFsOp w.heap.size wr.heap.size wr ⟨some ⟨w.heap.size, 0, none⟩, k, k, ds⟩ := by simpa using hN
      go_wp2
      go_ret
      have hdd := HDD.out
      have hdb := HDB.out
      rw [List.take_of_length_le (by rw [hL.out]; exact Nat.le_refl _)] at hdd hdb
      refine ⟨⟨some ⟨w.heap.size, 0, none⟩, k, k, ds⟩, rfl, hdd, ⟨hN2⟩, ?_, hb⟩
      unfold bulkFsOpS preFsOp
      simp only [List.take_length]
      rw [hdb]
theorem toFsOpS_k (y : Row FsOpR) (w : World) (g : rdFsOpS w y) (hn : bulkFsOpS y ≤ 1048576) :
    Calls Try.prog 52 #[.slice y.a y.n y.c] w fun e w' => ∃ y' : Row FsOpR, e = .returned (.slice y'.a y'.n y'.c) ∧ datFsOpS y' = datFsOpS y ∧ OwnFsOpS w.heap.size w'.heap.size w' y' ∧ bulkFsOpS y' = bulkFsOpS y ∧ Below w.heap.size w w' := toFsOpS_r y w g hn
theorem take_succ_datFsOp {xs ys : List FsOpR} {k : Nat} (h : (xs.take k).map datFsOp = (ys.take k).map datFsOp) (h1 : k < xs.length) (h2 : k < ys.length) (he : datFsOp (atFsOp xs k) = datFsOp (atFsOp ys k)) : (xs.take (k + 1)).map datFsOp = (ys.take (k + 1)).map datFsOp := by
  rw [List.take_succ_eq_append_getElem h1, List.take_succ_eq_append_getElem h2, List.map_append, List.map_append, h]
  rw [atFsOp_eq xs k h1, atFsOp_eq ys k h2] at he
  simp [he]
theorem ne_datFsOp {xs ys : List FsOpR} {k : Nat} (h1 : k < xs.length) (h2 : k < ys.length) (he : ¬ datFsOp (atFsOp xs k) = datFsOp (atFsOp ys k)) : ¬ xs.map datFsOp = ys.map datFsOp := by
  intro h
  apply he
  have := congrArg (fun l => l[k]?) h
  simp only [List.getElem?_map, List.getElem?_eq_getElem h1, List.getElem?_eq_getElem h2, Option.map_some, Option.some.injEq] at this
  rw [atFsOp_eq xs k h1, atFsOp_eq ys k h2]
  exact this
set_option maxHeartbeats 3200000 in
theorem eqFsOpS_any (a b : Option Addr) (n cap m cap' : Nat) (xs ys : List FsOpR) (w : World) (h : rdFsOpS w ⟨a, n, cap, xs⟩) (h' : rdFsOpS w ⟨b, m, cap', ys⟩) :
    Calls Try.prog 41 #[.slice a n cap, .slice b m cap'] w fun e w' => e = .returned (.bool (decide (xs.map datFsOp = ys.map datFsOp))) ∧ Below w.heap.size w w' := by
  obtain ⟨gr, gi⟩ := h
  obtain ⟨gr', gi'⟩ := h'
  simp only at gr gi gr' gi'
  have hL := Lib.hid gr.len
  have hL' := Lib.hid gr'.len
  have hm := gr.max
  have hle := gr.le
  have hm' := gr'.max
  have hle' := gr'.le
  unfold maxLen at hm hm'
  by_cases hnm : n = m
  · subst hnm
    go_enter Try.func41, Try.ntmps41
    go_wp2
    go_loopw [5] (fun i wr => ∃ k : Nat, k ≤ n ∧ i = .int .i64 k ∧ (xs.take k).map datFsOp = (ys.take k).map datFsOp ∧ Below w.heap.size w wr) (fun i _ => n - (intOf i).toNat)
    case atStart => exact ⟨0, Nat.zero_le _, rfl, rfl, Below.refl _ _⟩
    case round =>
      obtain ⟨k, hk, rfl, he, hb⟩ := hrel
      have HE := Lib.hid he
      clear he
      by_cases hlt : k < n
      · obtain ⟨b1, off1, rfl, hbl1, hc1⟩ := gr.rowFsOp (by omega)
        obtain ⟨b2, off2, rfl, hbl2, hc2⟩ := gr'.rowFsOp (by omega)
        obtain ⟨k0, k1, k2, k3⟩ := hc1 k hlt
        obtain ⟨l0, l1, l2, l3⟩ := hc2 k hlt
        have cb1 : ∀ o, wr.cell? ⟨b1, o, none⟩ = w.cell? ⟨b1, o, none⟩ := fun o => hb.cell (p := ⟨b1, o, none⟩) hbl1
        have cb2 : ∀ o, wr.cell? ⟨b2, o, none⟩ = w.cell? ⟨b2, o, none⟩ := fun o => hb.cell (p := ⟨b2, o, none⟩) hbl2
        rw [← cb1] at k0 k1 k2 k3
        rw [← cb2] at l0 l1 l2 l3
        have kx : k < xs.length := by rw [hL.out]; exact hlt
        have ky : k < ys.length := by rw [hL'.out]; exact hlt
        have rx : rdFsOp wr (atFsOp xs k) := by rw [atFsOp_eq xs k kx]; exact rdFsOp_below (gi _ (List.getElem_mem kx)) hb (Nat.le_refl _)
        have ry : rdFsOp wr (atFsOp ys k) := by rw [atFsOp_eq ys k ky]; exact rdFsOp_below (gi' _ (List.getElem_mem ky)) hb (Nat.le_refl _)
        clear hc1 hc2 cb1 cb2 gr gr' gi gi'
        have hi1 : (k : Int) < (n : Int) := by omega
        have HT := Lib.hid (fun he => take_succ_datFsOp HE.out kx ky he)
        have HN := Lib.hid (fun he => ne_datFsOp kx ky he)
        have HRX := Lib.hid rx
        have HRY := Lib.hid ry
        clear rx ry
        generalize hx : atFsOp xs k = x at *
        generalize hy : atFsOp ys k = y at *
        clear hx hy
        go_wp2_with fail
        go_region_held3 (fun w' => w'.cell? ⟨b1, off1 + k * 4, none⟩ = some (.int .i64 x.kind) ∧ w'.cell? ⟨b1, off1 + k * 4 + 1, none⟩ = some (.string x.name) ∧ w'.cell? ⟨b1, off1 + k * 4 + 2, none⟩ = some (.string x.dst) ∧ w'.cell? ⟨b1, off1 + k * 4 + 3, none⟩ = some (.slice x.dataA x.dataN x.dataC) ∧ w'.cell? ⟨b2, off2 + k * 4, none⟩ = some (.int .i64 y.kind) ∧ w'.cell? ⟨b2, off2 + k * 4 + 1, none⟩ = some (.string y.name) ∧ w'.cell? ⟨b2, off2 + k * 4 + 2, none⟩ = some (.string y.dst) ∧ w'.cell? ⟨b2, off2 + k * 4 + 3, none⟩ = some (.slice y.dataA y.dataN y.dataC) ∧ Below wr.heap.size wr w') (first | exact keepd8 (by assumption) | exact keep8 (by assumption) (Nat.le_refl _) (by assumption) | exact ⟨k0, k1, k2, k3, l0, l1, l2, l3, (Below.refl _ _).drew⟩) (first | (go_at_call 14; refine (eqFsOp_k x y _ _ rfl rfl _ (rdFsOp_below HRX.out (tail8 (by assumption) : Below wr.heap.size wr _) (Nat.le_refl _)) (rdFsOp_below HRY.out (tail8 (by assumption) : Below wr.heap.size wr _) (Nat.le_refl _))).mono ?_; rintro e wa ⟨rfl, hba⟩))
        have hb2 : Below wr.heap.size wr _ := tail8 (by assumption)
        have hb3 := hb.trans (hb2.mono hb.size)
        by_cases hxy : datFsOp x = datFsOp y
        · have HQ := Lib.hid (decide_eq_true hxy)
          have HT2 := Lib.hid (HT.out hxy)
          rw [HQ.out]
          clear hxy HT HN
          go_wp2
          go_roundw
          case rel => exact ⟨k + 1, by omega, by go_num, HT2.out, hb3⟩
          case measure => simp [intOf]; omega
        · have HQ := Lib.hid (decide_eq_false hxy)
          have HT2 := Lib.hid (decide_eq_false (HN.out hxy))
          rw [HQ.out]
          clear hxy HT HN
          go_wp2
          go_ret
          exact ⟨by rw [HT2.out] <;> rfl, hb3⟩
      · obtain rfl : k = n := by omega
        go_wp2
        go_ret
        refine ⟨?_, hb⟩
        have := HE.out
        rw [List.take_of_length_le (by rw [hL.out]; exact Nat.le_refl _), List.take_of_length_le (by rw [hL'.out]; exact Nat.le_refl _)] at this
        simp [this]
  · have hne : ¬ xs.map datFsOp = ys.map datFsOp := fun e => hnm (by have := congrArg List.length e; simp only [List.length_map] at this; rw [← hL.out, ← hL'.out, this])
    have hi1 : ((n : Int) != (m : Int)) = true := by simp; omega
    go_enter Try.func41, Try.ntmps41
    go_wp2
    go_ret
    exact ⟨by simp [hne], Below.refl _ _⟩
theorem eqFsOpS_k (x y : Row FsOpR) (D D' : List (Int × ByteArray × ByteArray × List Int)) (hD : datFsOpS x = D) (hD' : datFsOpS y = D') (w : World) (h : rdFsOpS w x) (h' : rdFsOpS w y) :
    Calls Try.prog 41 #[.slice x.a x.n x.c, .slice y.a y.n y.c] w fun e w' => e = .returned (.bool (decide (D = D'))) ∧ Below w.heap.size w w' := by
  subst hD
  subst hD'
  exact eqFsOpS_any _ _ _ _ _ _ _ _ _ h h'
end Go.Proofs.Ytoodlmhnemamhaa
