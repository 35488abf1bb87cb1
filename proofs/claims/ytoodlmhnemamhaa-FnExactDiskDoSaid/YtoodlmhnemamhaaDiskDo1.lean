/- Doing an operation, in the program. -/
import Derived.Test.YtoodlmhnemamhaaDiskF
namespace Go.Proofs.Ytoodlmhnemamhaa
open Go.RowKit Go.Maps Go.WideMaps
/-- What a look-up gives: a row that can be read. -/
def rowM (M : List (ByteArray × Row Int)) (nm : ByteArray) : Row Int := (findF M nm).getD ⟨Option.none, 0, 0, []⟩
theorem rowM_dat (M : List (ByteArray × Row Int)) (nm : ByteArray) : (rowM M nm).l = getF (datM M) nm := by
  unfold rowM getF datM
  rw [find_snd]
  cases findF M nm <;> rfl
theorem FM.row {w : World} {b n : Nat} {M : List (ByteArray × Row Int)} (h : FM w b n M) (nm : ByteArray) : Rd (encI .u8) 1 w (rowM M nm).a (rowM M nm).n (rowM M nm).c (rowM M nm).l := by
  unfold rowM
  cases e : hasF M nm with
  | false => rw [find_none e]; exact ⟨Nat.le_refl _, Nat.zero_le _, rfl, fun _ => rfl, fun h => absurd h (Nat.lt_irrefl _)⟩
  | true =>
    obtain ⟨x, e2, hm⟩ := find_some e
    rw [e2]
    exact h.rd _ hm
theorem FM.look {w : World} {b n : Nat} {M : List (ByteArray × Row Int)} (h : FM w b n M) {nm : ByteArray} (hs : nm.size ≤ maxLen) : (Instr.lookup 77 (.map (some b)) (.string nm) false).run Try.prog w = .ok (valR (rowM M nm)) w := by
  obtain ⟨v, ps, hrun, hv⟩ := h.own.lookup lawS Try.underlying77 (zeroSl _) hzd0 (keyS hs)
  rw [hrun]
  unfold heldR at hv
  have e1 : DataW.held v = (mapD M).atKey (litN nm) (.held (.slice Option.none 0 0)) := congrArg Prod.fst (Option.some.inj hv)
  rw [mapD_at] at e1
  unfold rowM
  cases e : findF M nm with
  | none => rw [e] at e1; cases e1; rfl
  | some r => rw [e] at e1; cases e1; rfl
theorem wpList_look {w : World} {ops : Array Oper} {rest : List Oper} {o : Oper} {a : Act} {Q : Exit → Act → World → Prop} (hg : o.guard = Option.none) (m x : Operand) (hop : o.op = Op.lookup 77 m x false)
    {b n : Nat} {M : List (ByteArray × Row Int)} (hm : a.eval m = .map (some b)) (h : FM w b n M) (nm : ByteArray) (hx : a.eval x = .string nm) (hs : nm.size ≤ maxLen)
    (hK : wpList Try.prog ops Q rest (a.put o.dst (.slice (rowM M nm).a (rowM M nm).n (rowM M nm).c)) w) : wpList Try.prog ops Q (o :: rest) a w := by
  refine wpList_plain hg fun K' hK' => ?_
  unfold Oper.wp
  simp [execOp, hop, hm, hx, h.look hs, Result.andThen]
  exact hK' _ _ hK
theorem step_look {w : World} {ops : Array Oper} {o : Oper} {a : Act} {K : Act → World → Prop} {Q : Exit → Act → World → Prop} {E : Prop} (hg : o.guard = Option.none) (m x : Operand) (hop : o.op = Op.lookup 77 m x false)
    {b n : Nat} {M : List (ByteArray × Row Int)} (hm : a.eval m = .map (some b)) (h : FM w b n M) (nm : ByteArray) (hx : a.eval x = .string nm) (hs : nm.size ≤ maxLen)
    (hK : K (a.put o.dst (.slice (rowM M nm).a (rowM M nm).n (rowM M nm).c)) w) : if Region.wanted o (yielded ops a.tmps) = true then Oper.wp Try.prog o a w K Q else E := by
  have hw : Region.wanted o (yielded ops a.tmps) = true := by simp [Region.wanted, hg]
  rw [if_pos hw]
  unfold Oper.wp
  simp [execOp, hop, hm, hx, h.look hs, Result.andThen]
  exact hK
theorem step_upd {w : World} {ops : Array Oper} {o : Oper} {a : Act} {K : Act → World → Prop} {Q : Exit → Act → World → Prop} {E : Prop} (hg : o.guard = Option.none) (m x v : Operand) (hop : o.op = Op.mapUpdate 77 m x v)
    {b n : Nat} {M : List (ByteArray × Row Int)} (hm : a.eval m = .map (some b)) (h : FM w b n M) (nm : ByteArray) (hx : a.eval x = .string nm) (hs : nm.size ≤ maxLen) (r : Row Int) (hv : a.eval v = .slice r.a r.n r.c) (hr : Rd (encI .u8) 1 w r.a r.n r.c r.l) (hn : n < 1000000)
    (hK : ∀ w', FM w' b (n + 1) (withF M (nm, r)) → w.grownBy w' (some b) → K (a.put o.dst undef) w') : if Region.wanted o (yielded ops a.tmps) = true then Oper.wp Try.prog o a w K Q else E := by
  have hw : Region.wanted o (yielded ops a.tmps) = true := by simp [Region.wanted, hg]
  rw [if_pos hw]
  obtain ⟨w', hrun, r1, r2⟩ := h.own.update (val := .slice r.a r.n r.c) lawS Try.underlying77 (by unfold maxLen; omega) (keyS hs) (show heldR (.slice r.a r.n r.c) = some (.held (valR r), []) from rfl)
  unfold Oper.wp
  simp [execOp, hop, hm, hx, hv, hrun, Result.andThen]
  exact hK w' (h.put hr r1 r2) r2
theorem FM.upd {w : World} {b n : Nat} {M : List (ByteArray × Row Int)} (h : FM w b n M) {nm : ByteArray} (hs : nm.size ≤ maxLen) (A : Option Addr) (N C : Nat) (L : List Int) (hr : Rd (encI .u8) 1 w A N C L) (hn : n < 1000000) : ∃ w', (Instr.mapUpdate 77 (.map (some b)) (.string nm) (.slice A N C)).run Try.prog w = .ok () w' ∧ FM w' b (n + 1) (withF M (nm, ⟨A, N, C, L⟩)) ∧ w.grownBy w' (some b) := by
  obtain ⟨w', hrun, r1, r2⟩ := h.own.update (val := .slice A N C) lawS Try.underlying77 (by unfold maxLen; omega) (keyS hs) (show heldR (.slice A N C) = some (.held (valR ⟨A, N, C, L⟩), []) from rfl)
  exact ⟨w', hrun, h.put (r := ⟨A, N, C, L⟩) hr r1 r2, r2⟩
theorem wpList_upd {w : World} {ops : Array Oper} {rest : List Oper} {o : Oper} {a : Act} {Q : Exit → Act → World → Prop} (hg : o.guard = Option.none) (m x v : Operand) (hop : o.op = Op.mapUpdate 77 m x v)
    {b n : Nat} {M : List (ByteArray × Row Int)} (hm : a.eval m = .map (some b)) (h : FM w b n M) (nm : ByteArray) (hx : a.eval x = .string nm) (hs : nm.size ≤ maxLen) (r : Row Int) (hv : a.eval v = .slice r.a r.n r.c) (hr : Rd (encI .u8) 1 w r.a r.n r.c r.l) (hn : n < 1000000)
    (hK : ∀ w', FM w' b (n + 1) (withF M (nm, r)) → w.grownBy w' (some b) → wpList Try.prog ops Q rest (a.put o.dst undef) w') : wpList Try.prog ops Q (o :: rest) a w := by
  refine wpList_plain hg fun K' hK' => ?_
  obtain ⟨w', hrun, r1, r2⟩ := h.own.update (val := .slice r.a r.n r.c) lawS Try.underlying77 (by unfold maxLen; omega) (keyS hs) (show heldR (.slice r.a r.n r.c) = some (.held (valR r), []) from rfl)
  unfold Oper.wp
  simp [execOp, hop, hm, hx, hv, hrun, Result.andThen]
  exact hK' _ _ (hK w' (h.put hr r1 r2) r2)
theorem wpList_del {w : World} {ops : Array Oper} {rest : List Oper} {o : Oper} {a : Act} {Q : Exit → Act → World → Prop} (hg : o.guard = Option.none) (m x : Operand) (hop : o.op = Op.call { callee := Callee.builtin Builtin.delete, args := #[m, x], argTypes := #[77, 9] })
    {b n : Nat} {M : List (ByteArray × Row Int)} (hm : a.eval m = .map (some b)) (h : FM w b n M) (nm : ByteArray) (hx : a.eval x = .string nm) (hs : nm.size ≤ maxLen)
    (hK : ∀ w', FM w' b n (lessF M nm) → w.grownBy w' (some b) → wpList Try.prog ops Q rest (a.put o.dst (.tuple #[])) w') : wpList Try.prog ops Q (o :: rest) a w := by
  refine wpList_delete_own w hg m x 77 9 hop 22 lawS Try.underlying77 heldR b n (mapD M) hm h.own _ _ hx (keyS hs) (fun w' h1 h2 => hK w' (h.del h1 h2.grown) h2.grown)
/-- The operation done: what the map holds now; nothing else below is written. -/
def RetDo (b n : Nat) (F : List FD) (len : Nat) (w : World) (en : Ending) (w' : World) : Prop := en = .returned (.tuple #[]) ∧ (∃ M' : List (ByteArray × Row Int), FM w' b (n + 1) M' ∧ datM M' = F ∧ M'.length ≤ len + 1) ∧ Win b (b + 1) w w'
theorem win_grown {w w' : World} {b : Nat} (hg : w.grownBy w' (some b)) : Win b (b + 1) w w' := Win.of_grown hg (fun g hg2 => by cases hg2; exact ⟨Nat.le_refl _, Nat.lt_succ_self _⟩)
theorem FM.mono {w : World} {b n : Nat} {M : List (ByteArray × Row Int)} (h : FM w b n M) {n' : Nat} (hn : n ≤ n') : FM w b n' M := ⟨h.own.mono hn, h.rd⟩
theorem with_dat (M : List (ByteArray × Row Int)) (nm : ByteArray) (r : Row Int) : datM (withF M (nm, r)) = withF (datM M) (nm, r.l) := with_snd Row.l M (nm, r)
theorem less_dat (M : List (ByteArray × Row Int)) (nm : ByteArray) : datM (lessF M nm) = lessF (datM M) nm := less_snd Row.l M nm
theorem keepP {w w' : World} {X o1 o2 z : Nat} {v1 v2 : Value} (hX : X < z) (hb : Below z w w') (h : w.cell? ⟨X, o1, Option.none⟩ = some v1 ∧ w.cell? ⟨X, o2, Option.none⟩ = some v2) : w'.cell? ⟨X, o1, Option.none⟩ = some v1 ∧ w'.cell? ⟨X, o2, Option.none⟩ = some v2 :=
  ⟨(hb.cell (p := ⟨X, o1, Option.none⟩) hX).trans h.1, (hb.cell (p := ⟨X, o2, Option.none⟩) hX).trans h.2⟩
theorem keepPB {w w' : World} {X o1 o2 z : Nat} {v1 v2 : Value} (_hX : X < z) (hb : Below w.heap.size w w') (h : w.cell? ⟨X, o1, Option.none⟩ = some v1 ∧ w.cell? ⟨X, o2, Option.none⟩ = some v2) : w'.cell? ⟨X, o1, Option.none⟩ = some v1 ∧ w'.cell? ⟨X, o2, Option.none⟩ = some v2 :=
  ⟨cell_later hb h.1, cell_later hb h.2⟩
theorem keepPG {w w' : World} {X o1 o2 b : Nat} {v1 v2 : Value} (hX : b < X) (hg : w.grownBy w' (some b)) (h : w.cell? ⟨X, o1, Option.none⟩ = some v1 ∧ w.cell? ⟨X, o2, Option.none⟩ = some v2) : w'.cell? ⟨X, o1, Option.none⟩ = some v1 ∧ w'.cell? ⟨X, o2, Option.none⟩ = some v2 := by
  have hk := hg.block X (World.block_lt_of_cell? _ _ h.1) (fun e => by cases e; exact Nat.lt_irrefl _ hX)
  exact ⟨(World.cell?_of_block (a := ⟨X, o1, Option.none⟩) hk).trans h.1, (World.cell?_of_block (a := ⟨X, o2, Option.none⟩) hk).trans h.2⟩
set_option maxRecDepth 100000 in
set_option maxHeartbeats 3200000 in
theorem do_any (b n : Nat) (M : List (ByteArray × Row Int)) (o : FsOpR) (w : World) (h : FM w b n M) (ho : rdFsOp w o) (hs : strFsOp o) (hn : n ≤ 1000) (hk : o.kind = 1 ∨ o.kind = 2 ∨ o.kind = 3 ∨ o.kind = 4) (hz : sizeF (datM M) ≤ 10000000) (hz2 : o.dataN ≤ 10000000) :
    Calls Try.prog 70 #[.map (some b), .agg #[.int .i64 o.kind, .string o.name, .string o.dst, .slice o.dataA o.dataN o.dataC]] w fun e w' => RetDo b n (makeF (datM M) (datFsOp o)) M.length w e w' := by
  have hb0 := (Below.refl w.heap.size w).alloc (Nat.le_refl _) (.cells #[.int .i64 o.kind, .string o.name, .string o.dst, .slice o.dataA o.dataN o.dataC] 27)
  have HF0 := Lib.hid (h.later hb0)
  have hbl := h.lt
  have hw0 : Win b (b + 1) w (w.alloc (.cells #[.int .i64 o.kind, .string o.name, .string o.dst, .slice o.dataA o.dataN o.dataC] 27)) := Win.of_below hb0
  obtain ⟨ok, onm, odst, oA, oN, oC, oL⟩ := o
  have HS := Lib.hid hs
  have HO0 := Lib.hid (rdFsOp_below ho hb0 (Nat.le_refl _))
  clear h hs ho
  simp only at hk hz2 hw0 hb0 HF0 ⊢
  rcases hk with rfl | rfl | rfl | rfl
  · have HM : Hid (makeF (datM M) (datFsOp ⟨1, onm, odst, oA, oN, oC, oL⟩) = datM (withF M (onm, ⟨Option.none, 0, 0, []⟩))) := Lib.hid (by rw [with_dat]; rfl)
    go_enter Try.func70, Try.ntmps70
    go_wp2_with (first
      | (at_mapUpdate; refine wpList_upd rfl _ _ _ rfl rfl HF0.out onm rfl HS.out.1 ⟨Option.none, 0, 0, []⟩ rfl ⟨Nat.le_refl _, Nat.zero_le _, rfl, fun _ => rfl, fun h => absurd h (Nat.lt_irrefl _)⟩ (by omega) ?_)
      | fail)
    intro w1 h1 hg1
    have hwin := hw0.trans (win_grown hg1)
    go_wp2
    go_end0
    exact ⟨rfl, ⟨_, h1, HM.out.symm, by have := len_with M (onm, (⟨Option.none, 0, 0, []⟩ : Row Int)); omega⟩, hwin⟩
  · have HRW := Lib.hid (HF0.out.row onm)
    have hrn : (rowM M onm).n ≤ 10000000 := by
      have h3 := size_get (datM M) onm
      rw [← rowM_dat, HRW.out.len] at h3
      omega
    have HRL := Lib.hid HRW.out.len
    have HM : Hid (∀ A C, makeF (datM M) (datFsOp ⟨2, onm, odst, oA, oN, oC, oL⟩) = datM (withF M (onm, ⟨A, (rowM M onm).n + oN, C, (rowM M onm).l ++ oL⟩))) := Lib.hid (fun A C => by rw [with_dat]; show _ = withF (datM M) (onm, (rowM M onm).l ++ oL); rw [rowM_dat]; rfl)
    have HLN : Hid (∀ A C, (withF M (onm, (⟨A, (rowM M onm).n + oN, C, (rowM M onm).l ++ oL⟩ : Row Int))).length ≤ M.length + 1) := Lib.hid (fun A C => len_with M _)
    obtain ⟨i0, hi, hz0, hz1', hz2'⟩ := info_parts infoByte
    have c1 : (w.alloc (.cells #[.int .i64 2, .string onm, .string odst, .slice oA oN oC] 27)).cell? ⟨w.heap.size, 1, Option.none⟩ = some (.string onm) := by simp [go_sem]
    have c3 : (w.alloc (.cells #[.int .i64 2, .string onm, .string odst, .slice oA oN oC] 27)).cell? ⟨w.heap.size, 3, Option.none⟩ = some (.slice oA oN oC) := by simp [go_sem]
    have hbz : w.heap.size < (w.alloc (.cells #[.int .i64 2, .string onm, .string odst, .slice oA oN oC] 27)).heap.size := by simp
    go_enter Try.func70, Try.ntmps70
    go_wp2_with fail
    generalize w.alloc (.cells #[.int .i64 2, .string onm, .string odst, .slice oA oN oC] 27) = W0 at *
    have hbW : b < W0.heap.size := by omega
    have HFD := Lib.hid (HF0.out.later (Below.refl _ _).drew)
    have hlk := HFD.out.look HS.out.1
    unfold valR at hlk
    go_region_held3 (fun w' => w'.cell? ⟨w.heap.size, 1, Option.none⟩ = some (.string onm) ∧ w'.cell? ⟨w.heap.size, 3, Option.none⟩ = some (.slice oA oN oC))
      (first | exact ⟨c1, c3⟩ | (with_reducible exact keepP hbz (by assumption) (by assumption)) | (with_reducible exact keepPB hbz (by assumption) (by assumption)) | (with_reducible exact keepPG hbl (by assumption) (by assumption)))
      (first
        | (go_at_call 56; (with_reducible refine (copyBytes_any _ _ _ (rowM M onm).l _ (Rd.below HRW.out ((Below.refl _ _).drew) (Nat.le_refl _)) (by omega)).mono ?_); rintro e w3 ⟨A3, N3, C3, rfl, ho3, hb3⟩; have hN3 : (rowM M onm).n = N3 := (by rw [← HRL.out]; exact ho3.len); have HLL : (rowM M onm).l.length + oL.length = N3 + oN := (by rw [HRL.out, hN3, show oL.length = oN from Rd.len HO0.out]))
        | (refine step_app_b (by rfl) _ _ _ (by rfl) W0.heap.size 5 Try.underlying22 hi hz0 hz1' hz2' rfl A3 N3 C3 (rowM M onm).l (by rfl) ho3.own oA oN oC oL (by rfl) (Rd.below HO0.out (((Below.refl W0.heap.size W0).drew).trans hb3) (Nat.le_refl _)) (by omega) hb3.size ?_; intro A4 C4 w4 ho4 hb4 hg4; obtain ⟨w5, hrun5, h5, hg5⟩ := (HFD.out.later (hb3.trans hb4)).upd HS.out.1 A4 (N3 + oN) C4 ((rowM M onm).l ++ oL) (Rd.of_ints ho4 (by rw [List.length_append]; exact HLL)) (by omega)))
    have hwin := (hw0.trans (Win.of_below (((Below.refl W0.heap.size W0).drew).trans (hb3.trans hb4)))).trans (win_grown hg5)
    rw [hN3] at HM HLN
    go_wp2
    go_end0
    exact ⟨rfl, ⟨_, h5, (HM.out _ _).symm, HLN.out _ _⟩, hwin⟩
  · have HM : Hid (makeF (datM M) (datFsOp ⟨3, onm, odst, oA, oN, oC, oL⟩) = datM (withF (lessF M onm) (odst, rowM M onm))) := Lib.hid (by rw [with_dat, less_dat, rowM_dat]; rfl)
    have HRW := Lib.hid (HF0.out.row onm)
    have c2 : (w.alloc (.cells #[.int .i64 3, .string onm, .string odst, .slice oA oN oC] 27)).cell? ⟨w.heap.size, 2, Option.none⟩ = some (.string odst) := by simp [go_sem]
    have hbz : w.heap.size < (w.alloc (.cells #[.int .i64 3, .string onm, .string odst, .slice oA oN oC] 27)).heap.size := by simp
    go_enter Try.func70, Try.ntmps70
    go_wp2_with (first
      | (at_lookup; refine wpList_look rfl _ _ rfl rfl HF0.out onm rfl HS.out.1 ?_)
      | (at_delete; refine wpList_del rfl _ _ rfl rfl HF0.out onm rfl HS.out.1 ?_)
      | fail)
    intro w1 h1 hg1
    have HF1 := Lib.hid h1
    have hwin := hw0.trans (win_grown hg1)
    have d2 : w1.cell? ⟨w.heap.size, 2, Option.none⟩ = some (.string odst) := (World.cell?_of_block (a := ⟨w.heap.size, 2, Option.none⟩) (hg1.block w.heap.size hbz (fun e => by cases e; exact Nat.lt_irrefl _ hbl))).trans c2
    have HR1 := Lib.hid (rdMap_grown HRW.out hg1 HF0.out.none)
    clear h1 hg1 c2
    go_wp2_with (first
      | (at_mapUpdate; refine wpList_upd rfl _ _ _ rfl rfl HF1.out odst rfl HS.out.2 (rowM M onm) rfl HR1.out (by omega) ?_)
      | fail)
    intro w2 h2 hg2
    have hwin2 := hwin.trans (win_grown hg2)
    go_wp2
    go_end0
    exact ⟨rfl, ⟨_, h2, HM.out.symm, by have := len_with (lessF M onm) (odst, rowM M onm); have := len_less M onm; omega⟩, hwin2⟩
  · have HM : Hid (makeF (datM M) (datFsOp ⟨4, onm, odst, oA, oN, oC, oL⟩) = datM (lessF M onm)) := Lib.hid (by rw [less_dat]; rfl)
    go_enter Try.func70, Try.ntmps70
    go_wp2_with (first
      | (at_delete; refine wpList_del rfl _ _ rfl rfl HF0.out onm rfl HS.out.1 ?_)
      | fail)
    intro w1 h1 hg1
    have hwin := hw0.trans (win_grown hg1)
    go_wp2
    go_end0
    exact ⟨rfl, ⟨_, h1.mono (Nat.le_succ _), HM.out.symm, by have := len_less M onm; omega⟩, hwin⟩
end Go.Proofs.Ytoodlmhnemamhaa
