/- FnFrames: the walk of the law. -/
import Derived.Test.YtkgalkaafocnjaaDrawF
import Derived.Test.YtkgalkaafocnjaaFrsB
import Derived.Test.YtkgalkaafocnjaaFrameB
import Derived.Test.YtkgalkaafocnjaaKeep
import Derived.Test.YtkgalkaafocnjaaStr
namespace Go.Proofs.Ytkgalkaafocnjaa
open Go.RowKit
/-- An owned row that is not empty lies in a block of the call's own, from its first cell on. -/
theorem own_at {w : World} {B : Nat} {e : TypeId} {a : Option Addr} {n cap : Nat} {vs : List Value} (h : w.ownsRow B e 1 (.slice a n cap) n vs) (hn : 0 < n) : ∃ g, a = some ⟨g, 0, none⟩ ∧ B ≤ g ∧ g < w.heap.size ∧ ∀ o, w.frozen? ⟨g, o, none⟩ = false := by
  rcases h.2 with ⟨hv, h0⟩ | ⟨g, cap', cur, hv, hge, hg, _, _, _, _⟩
  · omega
  · cases hv
    exact ⟨g, rfl, hge, (Array.getElem?_eq_some_iff.1 hg).1, fun o => by simp [World.frozen?, hg]⟩
theorem rd_at0 {k : IntKind} {w : World} {a : Option Addr} {n cap : Nat} {zs : List Int} (h : Rd (encI k) 1 w a n cap zs) {b off : Nat} (ha : a = some ⟨b, off, none⟩) {p : Nat} (hp : p < n) : w.cell? ⟨b, off + p, none⟩ = some (.int k (zs.getD p 0)) := by
  obtain ⟨b', off', h1, _, hc⟩ := h.ints (by omega)
  rw [ha] at h1
  cases h1
  exact hc p hp
/-- One cell of a slice set. -/
theorem rd_setI {k : IntKind} {w : World} {b off n cap : Nat} {zs : List Int} (h : Rd (encI k) 1 w (some ⟨b, off, none⟩) n cap zs) {p : Nat} (_hp : p < n) (v : Int) : Rd (encI k) 1 (w.setCell ⟨b, off + p, none⟩ (.int k v)) (some ⟨b, off, none⟩) n cap (zs.set p v) := by
  refine ⟨h.le, h.max, by rw [List.length_set]; exact h.len, (fun e => by cases e), fun hn => ?_⟩
  obtain ⟨b', off', h1, hl, hc⟩ := h.spot hn
  cases h1
  refine ⟨b, off, rfl, by rw [size_set]; exact hl, fun i hi f u hu => ?_⟩
  have hi' : i < zs.length := by rw [List.length_set] at hi; exact hi
  cases f with
  | succ f => simp [encI] at hu
  | zero =>
    simp only [encI, List.getElem?_cons_zero, Option.some.injEq] at hu
    subst hu
    by_cases e : p = i
    · subst e
      have h0 := hc p hi' 0 _ rfl
      rw [show off + p * 1 + 0 = off + p by omega] at h0 ⊢
      rw [World.cell?_setCell_same _ _ _ h0, List.getElem_set_self]
    · rw [World.cell?_setCell_other _ _ _ _ (by simp <;> omega), List.getElem_set_ne e]
      exact hc i hi' 0 _ rfl
set_option linter.unusedVariables false in
set_option maxRecDepth 100000 in
set_option maxHeartbeats 25600000 in
theorem walk_FnFrames (a : Option Addr) (n c : Nat) (z : List Int) (w : World) (r0 : Rd (encI .u8) 1 w a n c z) (g0 : ∀ y ∈ z, In8 y) :
    Calls Try.prog 11 #[.slice a n c] w fun e w' => e = .returned (.bool true) ∧ Below w.heap.size w w' := by
  obtain ⟨i0, hi, hz0, hz1, hz2⟩ := info_parts infoByteS
  by_cases hn : n ≤ 1048576
  · have hni : (n : Int) ≤ 1048576 := by omega
    go_enter Try.func11, Try.ntmps11
    go_wp2_with fail
    refine (makeFrames_any a n c z _ r0 hn).mono ?_
    rintro e w1 ⟨⟨fa, fn, fc, fs⟩, rfl, hO, hR, hn4, hb1⟩
    have HO := Lib.hid hO
    have HR := Lib.hid hR
    simp only at hn4
    have hsb := hb1.size
    clear hO hR
    simp only
    go_wp2
    go_loopw [4, 30] (fun v i wr => ∃ (k : Nat) (A : Option Addr) (r C : Nat), k ≤ fn ∧ i = .int .i64 k ∧ v = .slice A r C ∧ wr.ownsRow w1.heap.size 5 1 (.slice A r C) r ((catF ((fs.map datFrame).take k)).map (.int .u8)) ∧ Hid ((catF ((fs.map datFrame).take k)).length = r) ∧ Below w1.heap.size w1 wr) (fun _ i _ => fn - (intOf i).toNat)
    case atStart =>
      exact ⟨0, some ⟨w1.heap.size, 0, none⟩, 0, 0, Nat.zero_le _, rfl, rfl, World.ownsRow_lit w1 #[] 0 (Nat.le_refl _) (by unfold maxLen; omega) rfl, rfl, (Below.refl _ _).alloc (Nat.le_refl _) _⟩
    case round =>
      obtain ⟨k, A, r, C, hk, rfl, rfl, ho, hl, hb⟩ := hrel
      by_cases hlt : k < fn
      · have hki : (k : Int) < (fn : Int) := by omega
        have hrd := rdFrameS_below HO.out.rd hb (Nat.le_refl _)
        have hfl := HO.out.nest.row.len
        simp only at hfl
        obtain ⟨b, off, rfl, hbl, hcell⟩ := hrd.1.rowFrame (by simp only; omega)
        obtain ⟨hc0, hc1⟩ := hcell k hlt
        have hx : atFrame fs k = fs[k] := atFrame_eq fs k (by omega)
        have hmem : fs[k]'(by omega) ∈ fs := List.getElem_mem _
        obtain ⟨hkind, h8, h9⟩ := HR.out _ hmem
        have hrx := hrd.2 _ hmem
        rw [← hx] at hkind h8 h9 hrx
        have HX : Hid ((fs.map datFrame).take (k + 1) = (fs.map datFrame).take k ++ [datFrame (atFrame fs k)]) := Lib.hid (by rw [List.take_succ_eq_append_getElem (by rw [List.length_map]; omega), List.getElem_map, hx])
        clear hcell hx hmem hrd
        generalize atFrame fs k = X at *
        obtain ⟨xk, xa, xn, xc, xd⟩ := X
        simp only at hkind h8 h9 hc0 hc1
        have hxl := hrx.len
        simp only [slFrame] at hrx hxl
        have hal : Below wr.heap.size wr (wr.alloc (.cells #[.int .i64 xk, .slice xa xn xc] 43)) := (Below.refl _ _).alloc (Nat.le_refl _) _
        have hRD : Hid (rightD (datFrame ⟨xk, xa, xn, xc, xd⟩)) := Lib.hid ⟨hkind, h8, by show xd.length ≤ 9; omega⟩
        have h99 : xd.length ≤ 9 := by omega
        have hok9 : frameOkB xk xd.length = true := by
          unfold frameOkB kindB
          simp
          omega
        have HFB : Hid (frameBytesD (datFrame ⟨xk, xa, xn, xc, xd⟩) = (frameL xk xd, true)) := Lib.hid (frameBytesF_yes hok9)
        have HR3 := Lib.hid (hrx.below hal (Nat.le_refl _))
        have H8 := Lib.hid h8
        clear hrx h8
        go_wp2_with fail
        refine (frameBytes_impl_u ⟨xk, xa, xn, xc, xd⟩ _ rfl _ ⟨⟨by show (-9223372036854775808 : Int) ≤ xk; omega, by show xk ≤ 9223372036854775807; omega⟩, HR3.out, H8.out⟩).mono ?_
        rintro e w3 ⟨a3, n3, c3, rfl, ho3, hb3⟩
        rw [HFB.out] at ho3 ⊢
        simp only at ho3 ⊢
        have hs3 := hb3.size
        have hbW := hb.trans ((hal.trans (hb3.mono hal.size)).mono hb.size)
        have ho' := ho.alloc (.cells #[.int .i64 xk, .slice xa xn xc] 43)
        have hown := Lib.hid (own_below ho' hb3 (Nat.le_refl _))
        have hcat : Hid (catF ((fs.map datFrame).take (k + 1)) = catF ((fs.map datFrame).take k) ++ frameL xk xd) := Lib.hid (by rw [HX.out, catF_snoc]; rfl)
        have hln := Lib.hid ho3.len
        have hrd3 := Lib.hid (ho3.toS.rd (show ∀ x, (encI .u8 x).length = 1 from fun _ => rfl))
        clear ho ho' ho3
        have hcl : Hid ((catF ((fs.map datFrame).take k)).length ≤ 29 * k) := Lib.hid (by
          have e1 := catF_len9 ((fs.map datFrame).take k) (fun f hf => by
            obtain ⟨x, hx, rfl⟩ := List.mem_map.1 (List.mem_of_mem_take hf)
            have e2 := HR.out x hx
            have e3 := (HO.out.rd.2 x hx).len
            simp only [slFrame] at e3
            exact ⟨e2.1, e2.2.1, by show x.data.length ≤ 9; have := e2.2.2; omega⟩)
          have e4 : ((fs.map datFrame).take k).length ≤ k := by rw [List.length_take]; omega
          omega)
        have hr116 : r ≤ 116 := by have e1 := hcl.out; have e2 := hl.out; omega
        have hn3 : n3 ≤ 29 := by have e1 := hln.out; rw [frameL_len] at e1; omega
        have hnews := Lib.hid hrd3.out.news
        have hnone := Lib.hid hrd3.out.none
        go_wp2_with (at_builtin; refine app_any rfl _ _ 22 rfl w1.heap.size 5 Try.underlying22 hi hz0 hz1 hz2 rfl (by decide) A r C _ rfl hown.out a3 n3 c3 ((frameL xk xd).map (.int .u8)) rfl ?c0 ?c1 ?c2 ?c3 ?c4 ?c5 ?c6 ?_)
        case c0 => rw [List.length_map, hln.out, Nat.mul_one]
        case c1 => exact hnews.out
        case c2 => exact hnone.out
        case c3 => exact ints_oneCell _ _
        case c4 => unfold maxLen; omega
        case c5 => omega
        case c6 => have := hbW.size; omega
        intro A2 C2 w4 ho4 hb4
        go_wp2
        go_roundw
        case rel =>
          refine ⟨k + 1, A2, r + n3, C2, by omega, by go_num, rfl, ?_, ?_, hbW.trans hb4⟩
          · rw [hcat.out, List.map_append]; exact ho4
          · show _ = _
            rw [hcat.out, List.length_append, hl.out, hln.out]
        case measure => simp [intOf]; omega
      · obtain rfl : k = fn := by omega
        have hRD : ∀ f ∈ fs.map datFrame, rightD f := fun f hf => by
          obtain ⟨x, hx, rfl⟩ := List.mem_map.1 hf
          have e2 := HR.out x hx
          have e3 := (HO.out.rd.2 x hx).len
          simp only [slFrame] at e3
          exact ⟨e2.1, e2.2.1, by show x.data.length ≤ 9; have := e2.2.2; omega⟩
        have hfl := HO.out.nest.row.len
        simp only at hfl
        have hT : (fs.map datFrame).take k = fs.map datFrame := List.take_of_length_le (by rw [List.length_map]; omega)
        rw [hT] at ho hl
        have h116 := catF_len9 _ hRD
        rw [List.length_map, hfl] at h116
        have hin8 : ∀ q ∈ catF (fs.map datFrame), In8 q := fun q hq => by
          obtain ⟨f, hf, hq⟩ := List.mem_flatMap.1 hq
          exact frameL_in8 (hRD f hf).1.1 (hRD f hf).1.2 (hRD f hf).2.1 q hq
        have hr116 : r ≤ 116 := by have := hl.out; omega
        have hI := Lib.hid (OwnI.of ho hl.out (by omega))
        have hrdb : rdByteS wr ⟨A, r, C, catF (fs.map datFrame)⟩ := hI.out.toS.rd (show ∀ x, (encI .u8 x).length = 1 from fun _ => rfl)
        have HRD := Lib.hid hRD
        have HRB := Lib.hid hrdb
        have H8 := Lib.hid hin8
        clear hT h116 hin8 hrdb hRD ho hfl
        go_wp2_with fail
        refine (framesRead_impl_k ⟨A, r, C, catF (fs.map datFrame)⟩ (catF (fs.map datFrame)) rfl _ HRB.out H8.out (by show r ≤ 1048576; omega)).mono ?_
        rintro e w2 ⟨⟨ga, gn, gc, gs⟩, rfl, hdg, hog, hbg, hb2⟩
        have HRF := Lib.hid (framesReadF_all HRD.out)
        rw [HRF.out] at hdg ⊢
        simp only at hdg ⊢
        have HDG := Lib.hid hdg
        have HOG := Lib.hid hog
        have hs2 := hb2.size
        have hb02 : Below w.heap.size w w2 := (hb1.trans (hb.mono hsb)).trans (hb2.mono (by have := hb.size; omega))
        have HL := Lib.hid hl.out
        clear hdg hog hbg
        have hR2 := Lib.hid (r0.below hb02 (Nat.le_refl _))
        go_wp2_with fail
        refine (makeNum_any a n c z _ _ hR2.out (by omega) hn).mono ?_
        rintro e w3 ⟨kk, rfl, hk0, _, hk1, hb3⟩
        have hk2 := hk1 (by omega)
        obtain ⟨K, rfl⟩ := Int.eq_ofNat_of_zero_le hk0
        have hKr : K ≤ r := by omega
        have hrC : r ≤ C := (hI.out.toS.rd (show ∀ x, (encI .u8 x).length = 1 from fun _ => rfl)).le
        clear hk1
        simp only
        go_wp2_with fail
        have hbr := HRB.out.below (hb2.trans (hb3.mono hs2)) (Nat.le_refl _)
        have hpre : Rd (encI .u8) 1 w3 A K C ((catF (fs.map datFrame)).take K) := by
          by_cases hr0 : r = 0
          · obtain rfl : K = r := by omega
            rw [List.take_of_length_le (by rw [HL.out]; exact Nat.le_refl _)]
            exact hbr
          · obtain ⟨b, off, rfl, _, _⟩ := hbr.ints (by simp only; omega)
            exact hbr.pre K hKr
        have HPRE := Lib.hid hpre
        clear hbr hpre
        obtain ⟨m, rest, hm, hcut, hstop, hiff⟩ := torn (fs.map datFrame) HRD.out K
        have HSOME := Lib.hid (framesReadF_cat (fs := (fs.map datFrame).take m) (fun f hf => HRD.out f (List.mem_of_mem_take hf)) hstop)
        rw [← hcut] at HSOME
        have HIFF := Lib.hid hiff
        clear hcut hstop hiff
        refine (framesRead_impl_k ⟨A, K, C, (catF (fs.map datFrame)).take K⟩ ((catF (fs.map datFrame)).take K) rfl _ HPRE.out (fun q hq => H8.out q (List.mem_of_mem_take hq)) (by show K ≤ 1048576; omega)).mono ?_
        rintro e w4 ⟨⟨pa, pn, pc, ps⟩, rfl, hdp, hop, hbp, hb4⟩
        have HDP := Lib.hid hdp
        have HOP := Lib.hid hop
        have hbL : (catF (fs.map datFrame)).length = r := HL.out
        have hgn : gn = k := by
          have e1 := congrArg List.length HDG.out
          unfold datFrameS at e1
          rw [List.length_map, List.length_map] at e1
          have e2 := HOG.out.nest.row.len
          have e3 := HO.out.nest.row.len
          simp only at e1 e2 e3
          omega
        have hpn : pn = m := by
          have e1 := congrArg List.length HDP.out
          rw [HSOME.out] at e1
          unfold datFrameS at e1
          have e4 := hm
          simp only [List.length_map, List.length_take] at e1 e4
          have e2 := HOP.out.nest.row.len
          simp only at e2
          omega
        have hmk : m ≤ k := by
          have e3 := HO.out.nest.row.len
          simp only [List.length_map] at hm e3
          omega
        subst hgn hpn
        clear hdp hop hbp hm
        simp only
        rw [hbL]
        go_wp2_with fail
        rw [show decide (gn < pn) = false from decide_eq_false (by omega)]
        go_loopw [14, 82] (fun v i wr => ∃ q : Nat, q ≤ gn ∧ i = .int .i64 q ∧ v = .int .i64 (((catF ((fs.map datFrame).take q)).length : Nat) : Int) ∧ Below w4.heap.size w4 wr) (fun _ i _ => gn - (intOf i).toNat)
        case atStart => exact ⟨0, Nat.zero_le _, rfl, rfl, Below.refl _ _⟩
        case round =>
          obtain ⟨q, hq, rfl, rfl, hbq⟩ := hrel
          by_cases hlt : q < gn
          · have hqi : (q : Int) < (gn : Int) := by omega
            have h12 := hb.trans (hb2.mono hb.size)
            have h14 := (h12.trans (hb3.mono h12.size)).trans (hb4.mono (Nat.le_trans h12.size hb3.size))
            have h1q := h14.trans (hbq.mono h14.size)
            have h2q := (hb3.trans (hb4.mono hb3.size)).trans (hbq.mono (Nat.le_trans hb3.size hb4.size))
            have h0q : Below w.heap.size w wr := hb1.trans (h1q.mono hsb)
            have hrq : Rd (encI .u8) 1 wr A r C (catF (fs.map datFrame)) := HRB.out.below (hb2.trans (h2q.mono hb2.size)) (Nat.le_refl _)
            have hrd := rdFrameS_below HO.out.rd h1q (Nat.le_refl _)
            have hrg := rdFrameS_below HOG.out.rd h2q (Nat.le_refl _)
            have hfl := HO.out.nest.row.len
            have hgl := HOG.out.nest.row.len
            simp only at hfl hgl
            have hx : atFrame fs q = fs[q]'(by omega) := atFrame_eq fs q (by omega)
            have hy : atFrame gs q = gs[q]'(by omega) := atFrame_eq gs q (by omega)
            have hrx := hrd.2 _ (List.getElem_mem (show q < fs.length by omega))
            have hry := hrg.2 _ (List.getElem_mem (show q < gs.length by omega))
            have hDl : q < (fs.map datFrame).length := by rw [List.length_map]; omega
            have hDq : (fs.map datFrame)[q]'hDl = datFrame (atFrame fs q) := by rw [List.getElem_map, hx]
            have hfg : datFrame (atFrame gs q) = datFrame (atFrame fs q) := by
              rw [hy, ← hDq, ← List.getElem_map datFrame (h := by rw [List.length_map]; omega)]
              have e := HDG.out
              unfold datFrameS at e
              simp only at e
              simp only [e]
            obtain ⟨b, off, rfl, hbl, hcell⟩ := hrd.1.rowFrame (by simp only; omega)
            obtain ⟨bg, offg, rfl, hblg, hcellg⟩ := hrg.1.rowFrame (by simp only; omega)
            obtain ⟨hc0, hc1⟩ := hcell q hlt
            obtain ⟨hd0, hd1⟩ := hcellg q hlt
            rw [← hx] at hrx
            rw [← hy] at hry
            clear hx hy hcell hcellg hrd hrg
            generalize atFrame fs q = X at *
            generalize atFrame gs q = Y at *
            obtain ⟨xk, xa, xn, xc, xd⟩ := X
            obtain ⟨yk, ya, yn, yc, yd⟩ := Y
            simp only [datFrame, Prod.mk.injEq] at hfg hDq
            obtain ⟨hfk, hfd⟩ := hfg
            subst hfk hfd
            have hR := HRD.out _ (List.getElem_mem hDl)
            rw [hDq] at hR
            have hxl := hrx.len
            simp only [slFrame] at hrx hry hxl
            have hx9 : xn ≤ 9 := by have := hR.2.2; simp only at this; omega
            have hnx := cat_next hDl hDq
            have hpr := cat_pre (D := fs.map datFrame) (q := q + 1)
            have hif := HIFF.out q hDl
            have hBL := fun (X : Nat) (hX : X < 20 + yd.length) (y : Int) (h0 : 0 ≤ y) (h1 : y < 255) => bent_law HRD.out hDl hDq hX h0 h1
            rw [hbL] at hpr hBL
            rw [hnx] at hif hpr
            generalize hP : (catF ((fs.map datFrame).take q)).length = P at *
            have HP := Lib.hid hP
            have HNX := Lib.hid hnx
            have HBL := Lib.hid hBL
            have hal : Below wr.heap.size wr (wr.alloc (.cells #[.int .i64 yk, .slice xa xn xc] 43)) := (Below.refl _ _).alloc (Nat.le_refl _) _
            have kW : ∀ nq, (convert 22 9 (.slice xa xn xc)).run Try.prog ((wr.alloc (.cells #[.int .i64 yk, .slice xa xn xc] 43)).drewN nq) = .ok (.string (strOfNums yd)) ((wr.alloc (.cells #[.int .i64 yk, .slice xa xn xc] 43)).drewN nq) := fun nq => ((hrx.below hal (Nat.le_refl _)).drewN nq).str Try.underlying22 Try.underlying5 Try.underlying9
            have kV : ∀ nq, (convert 22 9 (.slice ya yn yc)).run Try.prog ((wr.alloc (.cells #[.int .i64 yk, .slice xa xn xc] 43)).drewN nq) = .ok (.string (strOfNums yd)) ((wr.alloc (.cells #[.int .i64 yk, .slice xa xn xc] 43)).drewN nq) := fun nq => ((hry.below hal (Nat.le_refl _)).drewN nq).str Try.underlying22 Try.underlying5 Try.underlying9
            have hse := str_eq hR.2.1 hR.2.1
            rw [decide_eq_true rfl] at hse
            clear hP hnx hBL hrx hry hR hDq
            have hxly : yd.length = xn := hxl
            rw [hxly] at hif hpr
            have HXL := Lib.hid hxly
            clear hxl hxly
            by_cases hqp : q < pn
            · have c1 : (P : Int) + 20 + (xn : Int) ≤ (K : Int) := by have := hif.2 hqp; omega
              have c2 : (q : Int) < (pn : Int) := by omega
              clear hif hqp
              go_wp2_with fail
              go_quiet (fail)
              obtain ⟨w5, hw5, hb5⟩ : ∃ w5, w5 = (wr.alloc (.cells #[.int .i64 yk, .slice xa xn xc] 43)).drewN nq ∧ Below wr.heap.size wr w5 := ⟨_, rfl, below_drewN hal _⟩
              rw [← hw5]
              clear kW kV hal hw5 hse hd0 hd1 hc0 hc1 hbl hblg hfl hgl
              have hs5 := hb5.size
              have hr5 := hrq.below (hb5.trans ((Below.refl w5.heap.size w5).alloc (Nat.le_refl _) (.cells #[] 5) |>.mono hs5)) (Nat.le_refl _)
              have HN5 := Lib.hid hr5.news
              have HO5 := Lib.hid hr5.none
              clear hr5
              go_wp2_with (at_builtin; refine app_any rfl _ _ 22 rfl w5.heap.size 5 Try.underlying22 hi hz0 hz1 hz2 rfl (by decide) (some ⟨w5.heap.size, 0, none⟩) 0 0 [] rfl (World.ownsRow_lit w5 #[] 0 (Nat.le_refl _) (by unfold maxLen; omega) rfl) A r C ((catF (fs.map datFrame)).map (.int .u8)) rfl ?c0 ?c1 ?c2 ?c3 ?c4 ?c5 ?c6 ?_)
              case c0 => rw [List.length_map, hbL, Nat.mul_one]
              case c1 => exact HN5.out
              case c2 => exact HO5.out
              case c3 => exact ints_oneCell _ _
              case c4 => unfold maxLen; omega
              case c5 => omega
              case c6 => exact ((Below.refl w5.heap.size w5).alloc (Nat.le_refl _) _).size
              intro A6 C6 w6 ho6 hb6
              have hb56 : Below w5.heap.size w5 w6 := ((Below.refl w5.heap.size w5).alloc (Nat.le_refl _) (.cells #[] 5)).trans hb6
              clear hb6
              have hs6 := hb56.size
              have h06 : Below w.heap.size w w6 := h0q.trans ((hb5.trans (hb56.mono hs5)).mono h0q.size)
              have hR6 := Lib.hid (r0.below h06 (Nat.le_refl _))
              have HO6 := Lib.hid ho6
              clear ho6
              go_wp2_with fail
              refine (makeNum_any a n c z _ _ hR6.out (by omega) hn).mono ?_
              rintro e w7 ⟨X, rfl, hX0, _, hX1, hb7⟩
              have hX2 := hX1 (by omega)
              obtain ⟨X, rfl⟩ := Int.eq_ofNat_of_zero_le hX0
              have hXl : X < 20 + xn := by omega
              clear hX1 hX0
              have h07 : Below w.heap.size w w7 := h06.trans (hb7.mono h06.size)
              have hR7 := Lib.hid (r0.below h07 (Nat.le_refl _))
              have hPX : P + X < r := by omega
              obtain ⟨g, rfl, hg5, hgl, hgz⟩ := own_at HO6.out (by omega)
              have hrd7 := Lib.hid ((Rd.of_ints HO6.out hbL).below hb7 (Nat.le_refl _))
              have y0 : w7.cell? ⟨g, P + X, none⟩ = some (.int .u8 ((catF (fs.map datFrame)).getD (P + X) 0)) := by
                have := (rd_at0 hrd7.out rfl (by omega) : w7.cell? ⟨g, 0 + (P + X), none⟩ = _)
                rwa [Nat.zero_add] at this
              have y1 : w7.frozen? ⟨g, P + X, none⟩ = false := (hb7.frozen (p := ⟨g, P + X, none⟩) hgl).trans (hgz _)
              clear hgz
              simp only
              obtain ⟨M, hM⟩ : ∃ M, M = P + X := ⟨_, rfl⟩
              rw [← hM] at y0 y1
              have hMr : M < r := by omega
              have hMi : (M : Int) < (r : Int) := by omega
              generalize hV : (catF (fs.map datFrame)).getD M 0 = V at y0
              have HV := Lib.hid hV
              clear hV
              have hdd : Rd (encI .u8) 1 w7.drew a n c z := hR7.out.below ((Below.refl _ _).drew) (Nat.le_refl _)
              have h255 : (255 : Int) ≤ 9223372036854775807 := by omega
              go_wp2_with fail
              rw [show (P : Int) + (X : Int) = (M : Int) by omega]
              have HM := Lib.hid hM
              clear hM
              go_region_with (first | (go_at_call 48; refine (makeNum_any a n c z 255 w7.drew hdd h255 hn).mono ?_; rintro e wa ⟨Y, rfl, hY0, _, hY1, hba⟩; have z0 := cell_later hba y0; have z1 := (hba.frozen (p := ⟨g, M, none⟩) (World.block_lt_of_cell? _ _ y0)).trans y1; have hY2 := hY1 (by omega); clear hY1))
              all_goals
                have e1 : IntKind.u8.wrap (IntKind.i64.wrap (1 + Y)) = 1 + Y := by rw [IntWalk.i64_in _ (by omega), IntWalk.u8_in _ (by omega)]
                rw [e1]
                obtain ⟨_, _, hZ8, hFR⟩ := HBL.out X (by rw [HXL.out]; exact hXl) Y hY0 hY2
                rw [← HM.out, HV.out] at hZ8 hFR
                have hrdS := rd_setI (hrd7.out.below ((Below.refl _ _).drew.trans hba) (Nat.le_refl _)) hMr (bits .xor .u8 V (1 + Y))
                rw [Nat.zero_add] at hrdS
                have h5a : Below w5.heap.size w5 wa := (hb56.trans (hb7.mono hs6)).trans (((Below.refl _ _).drew.trans hba).mono (Nat.le_trans hs6 hb7.size))
                have h5s : Below w5.heap.size w5 (wa.setCell ⟨g, M, none⟩ (.int .u8 (bits .xor .u8 V (1 + Y)))) := h5a.setCell (p := ⟨g, M, none⟩) hg5 _
                have h48 := hbq.trans ((hb5.trans (h5s.mono hs5)).mono hbq.size)
                generalize wa.setCell ⟨g, M, none⟩ (.int .u8 (bits .xor .u8 V (1 + Y))) = w8 at *
                generalize bits .xor .u8 V (1 + Y) = Z at *
                have HRS := Lib.hid hrdS
                have HZ8 : Hid (∀ y ∈ (catF (fs.map datFrame)).set M Z, In8 y) := Lib.hid (fun y hy => by
                  rcases List.mem_or_eq_of_mem_set hy with h | rfl
                  · exact H8.out y h
                  · exact hZ8)
                have HFR := Lib.hid hFR
                clear e1 hZ8 hFR hrdS y0 y1 z0 z1 hba hdd hb56 hb5 hb7 h5a h5s h06 h07 h12 h14 h1q h2q h0q hrq
                go_wp2_with fail
                refine (framesRead_impl_k ⟨some ⟨g, 0, none⟩, r, C6, (catF (fs.map datFrame)).set M Z⟩ ((catF (fs.map datFrame)).set M Z) rfl _ HRS.out HZ8.out (by show r ≤ 1048576; omega)).mono ?_
                rintro e w9 ⟨⟨qa, qn, qc, qs⟩, rfl, hdq, hoq, hbq9, hb9⟩
                rw [HFR.out] at hdq ⊢
                simp only at hdq ⊢
                have hqn : qn = q := by
                  have e1 := congrArg List.length hdq
                  unfold datFrameS at e1
                  have e2 := hoq.nest.row.len
                  rw [List.length_take] at e1
                  simp only [List.length_map] at e1 e2 hDl
                  omega
                subst hqn
                clear hdq hoq hbq9
                have h49 := h48.trans (hb9.mono h48.size)
                go_wp2
                go_roundw
                case rel => exact ⟨qn + 1, by omega, by go_num, by rw [HNX.out, HXL.out]; rfl, h49⟩
                case measure => simp [intOf]; omega
            · have c1 : (K : Int) < (P : Int) + 20 + (xn : Int) := by
                refine Int.not_le.1 (fun h => hqp (hif.1 (by omega)))
              have c2 : (pn : Int) ≤ (q : Int) := by omega
              have c3 : ¬ ((P : Int) + 20 + (xn : Int) ≤ (K : Int)) := by omega
              have c4 : ¬ ((q : Int) < (pn : Int)) := by omega
              have c5 : decide ((P : Int) + 20 + (xn : Int) ≤ (K : Int)) = false := decide_eq_false c3
              have c6 : decide ((q : Int) < (pn : Int)) = false := decide_eq_false c4
              clear hif hqp
              go_wp2_with fail
              go_quiet (fail)
              obtain ⟨w5, hw5, hb5⟩ : ∃ w5, w5 = (wr.alloc (.cells #[.int .i64 yk, .slice xa xn xc] 43)).drewN nq ∧ Below wr.heap.size wr w5 := ⟨_, rfl, below_drewN hal _⟩
              rw [← hw5]
              clear kW kV hal hw5 hse hd0 hd1 hc0 hc1 hbl hblg hfl hgl
              have hs5 := hb5.size
              have hr5 := hrq.below (hb5.trans ((Below.refl w5.heap.size w5).alloc (Nat.le_refl _) (.cells #[] 5) |>.mono hs5)) (Nat.le_refl _)
              have HN5 := Lib.hid hr5.news
              have HO5 := Lib.hid hr5.none
              clear hr5
              go_wp2_with (at_builtin; refine app_any rfl _ _ 22 rfl w5.heap.size 5 Try.underlying22 hi hz0 hz1 hz2 rfl (by decide) (some ⟨w5.heap.size, 0, none⟩) 0 0 [] rfl (World.ownsRow_lit w5 #[] 0 (Nat.le_refl _) (by unfold maxLen; omega) rfl) A r C ((catF (fs.map datFrame)).map (.int .u8)) rfl ?c0 ?c1 ?c2 ?c3 ?c4 ?c5 ?c6 ?_)
              case c0 => rw [List.length_map, hbL, Nat.mul_one]
              case c1 => exact HN5.out
              case c2 => exact HO5.out
              case c3 => exact ints_oneCell _ _
              case c4 => unfold maxLen; omega
              case c5 => omega
              case c6 => exact ((Below.refl w5.heap.size w5).alloc (Nat.le_refl _) _).size
              intro A6 C6 w6 ho6 hb6
              have hb56 : Below w5.heap.size w5 w6 := ((Below.refl w5.heap.size w5).alloc (Nat.le_refl _) (.cells #[] 5)).trans hb6
              clear hb6
              have hs6 := hb56.size
              have h06 : Below w.heap.size w w6 := h0q.trans ((hb5.trans (hb56.mono hs5)).mono h0q.size)
              have hR6 := Lib.hid (r0.below h06 (Nat.le_refl _))
              have HO6 := Lib.hid ho6
              clear ho6
              go_wp2_with fail
              refine (makeNum_any a n c z _ _ hR6.out (by omega) hn).mono ?_
              rintro e w7 ⟨X, rfl, hX0, _, hX1, hb7⟩
              have hX2 := hX1 (by omega)
              obtain ⟨X, rfl⟩ := Int.eq_ofNat_of_zero_le hX0
              have hXl : X < 20 + xn := by omega
              clear hX1 hX0
              have h07 : Below w.heap.size w w7 := h06.trans (hb7.mono h06.size)
              have hR7 := Lib.hid (r0.below h07 (Nat.le_refl _))
              have hPX : P + X < r := by omega
              obtain ⟨g, rfl, hg5, hgl, hgz⟩ := own_at HO6.out (by omega)
              have hrd7 := Lib.hid ((Rd.of_ints HO6.out hbL).below hb7 (Nat.le_refl _))
              have y0 : w7.cell? ⟨g, P + X, none⟩ = some (.int .u8 ((catF (fs.map datFrame)).getD (P + X) 0)) := by
                have := (rd_at0 hrd7.out rfl (by omega) : w7.cell? ⟨g, 0 + (P + X), none⟩ = _)
                rwa [Nat.zero_add] at this
              have y1 : w7.frozen? ⟨g, P + X, none⟩ = false := (hb7.frozen (p := ⟨g, P + X, none⟩) hgl).trans (hgz _)
              clear hgz
              simp only
              obtain ⟨M, hM⟩ : ∃ M, M = P + X := ⟨_, rfl⟩
              rw [← hM] at y0 y1
              have hMr : M < r := by omega
              have hMi : (M : Int) < (r : Int) := by omega
              generalize hV : (catF (fs.map datFrame)).getD M 0 = V at y0
              have HV := Lib.hid hV
              clear hV
              have hdd : Rd (encI .u8) 1 w7.drew a n c z := hR7.out.below ((Below.refl _ _).drew) (Nat.le_refl _)
              have h255 : (255 : Int) ≤ 9223372036854775807 := by omega
              go_wp2_with fail
              rw [show (P : Int) + (X : Int) = (M : Int) by omega]
              have HM := Lib.hid hM
              clear hM
              go_region_with (first | (go_at_call 48; refine (makeNum_any a n c z 255 w7.drew hdd h255 hn).mono ?_; rintro e wa ⟨Y, rfl, hY0, _, hY1, hba⟩; have z0 := cell_later hba y0; have z1 := (hba.frozen (p := ⟨g, M, none⟩) (World.block_lt_of_cell? _ _ y0)).trans y1; have hY2 := hY1 (by omega); clear hY1))
              all_goals
                have e1 : IntKind.u8.wrap (IntKind.i64.wrap (1 + Y)) = 1 + Y := by rw [IntWalk.i64_in _ (by omega), IntWalk.u8_in _ (by omega)]
                rw [e1]
                obtain ⟨_, _, hZ8, hFR⟩ := HBL.out X (by rw [HXL.out]; exact hXl) Y hY0 hY2
                rw [← HM.out, HV.out] at hZ8 hFR
                have hrdS := rd_setI (hrd7.out.below ((Below.refl _ _).drew.trans hba) (Nat.le_refl _)) hMr (bits .xor .u8 V (1 + Y))
                rw [Nat.zero_add] at hrdS
                have h5a : Below w5.heap.size w5 wa := (hb56.trans (hb7.mono hs6)).trans (((Below.refl _ _).drew.trans hba).mono (Nat.le_trans hs6 hb7.size))
                have h5s : Below w5.heap.size w5 (wa.setCell ⟨g, M, none⟩ (.int .u8 (bits .xor .u8 V (1 + Y)))) := h5a.setCell (p := ⟨g, M, none⟩) hg5 _
                have h48 := hbq.trans ((hb5.trans (h5s.mono hs5)).mono hbq.size)
                generalize wa.setCell ⟨g, M, none⟩ (.int .u8 (bits .xor .u8 V (1 + Y))) = w8 at *
                generalize bits .xor .u8 V (1 + Y) = Z at *
                have HRS := Lib.hid hrdS
                have HZ8 : Hid (∀ y ∈ (catF (fs.map datFrame)).set M Z, In8 y) := Lib.hid (fun y hy => by
                  rcases List.mem_or_eq_of_mem_set hy with h | rfl
                  · exact H8.out y h
                  · exact hZ8)
                have HFR := Lib.hid hFR
                clear e1 hZ8 hFR hrdS y0 y1 z0 z1 hba hdd hb56 hb5 hb7 h5a h5s h06 h07 h12 h14 h1q h2q h0q hrq
                go_wp2_with fail
                refine (framesRead_impl_k ⟨some ⟨g, 0, none⟩, r, C6, (catF (fs.map datFrame)).set M Z⟩ ((catF (fs.map datFrame)).set M Z) rfl _ HRS.out HZ8.out (by show r ≤ 1048576; omega)).mono ?_
                rintro e w9 ⟨⟨qa, qn, qc, qs⟩, rfl, hdq, hoq, hbq9, hb9⟩
                rw [HFR.out] at hdq ⊢
                simp only at hdq ⊢
                have hqn : qn = q := by
                  have e1 := congrArg List.length hdq
                  unfold datFrameS at e1
                  have e2 := hoq.nest.row.len
                  rw [List.length_take] at e1
                  simp only [List.length_map] at e1 e2 hDl
                  omega
                subst hqn
                clear hdq hoq hbq9
                have h49 := h48.trans (hb9.mono h48.size)
                go_wp2
                go_roundw
                case rel => exact ⟨qn + 1, by omega, by go_num, by rw [HNX.out, HXL.out]; rfl, h49⟩
                case measure => simp [intOf]; omega
          · obtain rfl : q = gn := by omega
            go_wp2
            go_ret
            exact ⟨rfl, (hb02.trans ((hb3.trans (hb4.mono hb3.size)).mono hb02.size)).trans (hbq.mono (by have := hb02.size; have := hb3.size; have := hb4.size; omega))⟩
  · have hni : (1048576 : Int) < (n : Int) := by omega
    go_enter Try.func11, Try.ntmps11
    go_wp2
    go_ret
    exact ⟨rfl, Below.refl _ _⟩
end Go.Proofs.Ytkgalkaafocnjaa
