/- The method that reads a shard: what it computes. -/
import Derived.Test.YtkgalkaafocnjaaShLP
import Derived.Test.YtkgalkaafocnjaaShardOkU
import Derived.Deep.LoopGhost
import Derived.Deep.CutRange
import Derived.Deep.RegionHeld3
import Derived.StillTailTactics
import Derived.Deep.AppendLies
namespace Go.Proofs.Ytkgalkaafocnjaa
open Go.RowKit
theorem oneE (x : SEdgeR) : ∀ u ∈ encSEdge x, u.oneCell' = true := by
  intro u h
  simp [encSEdge] at h
  rcases h with rfl | rfl | rfl | rfl | rfl <;> rfl
set_option maxRecDepth 100000 in
set_option maxHeartbeats 8000000 in
theorem shard_any (R : Nat) (a : Option Addr) (n cap : Nat) (zs : List Int) (p : Int) (w0 w : World) (h : Rd (encI .u8) 1 w0 a n cap zs) (hb0 : Below w0.heap.size w0 w) (hRw : w0.heap.size ≤ R) (hR : Rdr w R a n cap p true) (g0 : ∀ y ∈ zs, In8 y) (g1 : In64 p) (hn : n ≤ 1048576) :
    Calls Try.prog 90 #[.pointer (some ⟨R, 0, none⟩)] w fun e w' => RetRdS (shardReadF zs p) R a n cap w e w' := by
  have HL := Lib.hid h.len
  have hRlt := hR.lt
  obtain ⟨i0, ji, jz0, jz1, jz2⟩ := info_parts infoSEdge
  have hb0s := hb0.size
  go_enter Try.func90, Try.ntmps90
  go_wp2_with fail
  refine (num_rd R a n cap zs p true w0 _ h (hb0.alloc hb0.size _) (hR.al _) g0 g1 (by omega)).mono ?_
  rintro e w1 ⟨v1, p1, o1, rfl, hR1, hW1, hQ1⟩
  have HQ1 := Lib.hid hQ1
  have hb1 : Below w0.heap.size w0 w1 := (hb0.alloc hb0.size _).trans (hW1.below hRw (by simp; omega))
  have hWW1 := (Win.of_below ((Below.refl w.heap.size w).alloc (Nat.le_refl _) (.cells #[.int .i64 0, .int .i64 0, .slice none 0 0] 64))).trans hW1
  have HB0 : Hid (Box3 w1 w.heap.size 0 0 none 0 0) := Lib.hid ((Box3.new w 0 0 none 0 0 64).keep (hW1.block _ (by simp) (by omega)))
  clear hQ1 hW1
  go_wp2_with fail
  refine (num_rd R a n cap zs p1 o1 w0 _ h hb1 hR1 g0 HQ1.out.at' (by omega)).mono ?_
  rintro e w2 ⟨v2, p2, o2, rfl, hR2, hW2, hQ2⟩
  have HQ2 := Lib.hid hQ2
  have hb2 : Below w0.heap.size w0 w2 := hb1.trans (hW2.below hRw hb1.size)
  have hWW2 := hWW1.trans hW2
  have HB02 := Lib.hid (HB0.out.keep (hW2.block _ HB0.out.lt (by omega)))
  have hbz2 := HB02.out.lt
  clear hQ2 hW2 hR1
  go_wp2_with fail
  refine (num_rd R a n cap zs p2 o2 w0 _ h (hb2.alloc hb2.size _) (hR2.al _) g0 HQ2.out.at' (by omega)).mono ?_
  rintro e w3 ⟨v3, p3, o3, rfl, hR3, hW3, hQ3⟩
  obtain ⟨N, rfl⟩ := Int.eq_ofNat_of_zero_le hQ3.v0
  have HQ3 := Lib.hid hQ3
  have hb3 : Below w0.heap.size w0 w3 := (hb2.alloc hb2.size _).trans (hW3.below hRw (by have := hb2.size; simp; omega))
  have hWW3 := (hWW2.al (.cells #[.int .i64 v1, .int .i64 v2, .slice none 0 0] 64)).trans hW3
  have hR2l := hR2.lt
  have HS3 : Hid (Box3 w3 w2.heap.size v1 v2 none 0 0) := Lib.hid ((Box3.new w2 v1 v2 none 0 0 64).keep (hW3.block _ (by simp) (by omega)))
  have HB03 : Hid (Box3 w3 w.heap.size 0 0 none 0 0) := Lib.hid ((HB02.out.below ((Below.refl _ _).alloc (Nat.le_refl _) _)).keep (hW3.block _ (by simp; omega) (by omega)))
  have hbz3 := HS3.out.lt
  have hNb := hQ3.v1
  clear hQ3 hW3 hR2
  have HR3 := Lib.hid hR3
  obtain ⟨s0, s1, s2, _, _, _⟩ := HS3.out
  by_cases hN : N ≤ 400
  · have hNi : (N : Int) ≤ 400 := by omega
    have hws : w.heap.size ≤ w2.heap.size := by omega
    have HI0 : Hid (RdInv id zs R a n cap w w2.heap.size w3.heap.size v1 v2 o3 N ⟨0, v1, 0, 0, 0⟩ p3 0 p3 o3 [] ⟨0, v1, 0, 0, 0⟩ none 0 (w3.alloc (.cells #[.int .i64 0, .int .i64 v1, .int .i64 0, .int .i64 0, .int .i64 0] 92))) := by
      have hba := (Below.refl w3.heap.size w3).alloc (Nat.le_refl _) (.cells #[.int .i64 0, .int .i64 v1, .int .i64 0, .int .i64 0, .int .i64 0] 92)
      exact Lib.hid ⟨HR3.out.al _, Box5.new w3 ⟨0, v1, 0, 0, 0⟩ _, HS3.out.below hba, OwnS.nilS _ _, (fun e => by cases e), (fun e => by cases e), (fun e => by cases e), by omega, hbz3, by omega, by omega, HB03.out.below hba, (fun e => by cases e), HQ3.out.at', by omega, (fun h3 => by have := (read_head HQ1.out HQ2.out HQ3.out).1 h3; have := HL.out; omega), (fun h3 => ⟨h3, by rw [Nat.sub_zero, List.nil_append]⟩), (fun h3 => by rw [h3]; rfl), hWW3.al _⟩
    clear hN hR3
    go_wp2
    go_loopg [6] N (fun gh v wr => ∃ (j : Nat) (p' : Int) (ok : Bool) (es : List SEdgeR) (l : SEdgeR) (A : Option Addr) (C : Nat), gh + j = N ∧ v = .int .i64 j ∧ Hid (RdInv id zs R a n cap w w2.heap.size w3.heap.size v1 v2 o3 N ⟨0, v1, 0, 0, 0⟩ p3 j p' ok es l A C wr))
    case atStart => exact ⟨0, p3, o3, [], ⟨0, v1, 0, 0, 0⟩, none, 0, by omega, rfl, HI0⟩
    case round =>
      obtain ⟨j, p', ok, es, l, A, C, hj, rfl, HI⟩ := hrel
      obtain ⟨d0, d1, d2, e1, e2⟩ := HI.out.rdr
      by_cases hjN : j < N
      · have hjNi : (j : Int) < (N : Int) := by omega
        cases ok with
        | true =>
          simp only [id_eq] at d2
          go_upto_region 9 with fail
          go_cut [7] from 23 to 58 (fun s7 wx => ∃ (E : Nat) (e : SEdgeR) (p4 : Int) (o4 : Bool), s7 = .pointer (some ⟨E, 0, none⟩) ∧ Hid (RdMid id zs R a n cap w w2.heap.size w3.heap.size v1 v2 j p' es l A C E e p4 o4 wx))
          case first =>
            have HRD : Hid (Rdr wr R a n cap p' true) := Lib.hid HI.out.rdr
            have hInp := HI.out.at'
            have hRr := HI.out.rdr.lt
            have hBr : Below w0.heap.size w0 wr := hb0.trans (HI.out.win.below hRw hb0s)
            have hRL : R < w3.heap.size := by omega
            have hLr := HI.out.box.lt
            obtain ⟨y0, y1, _, y3, _, _, _, _, _, _⟩ := HI.out.box
            clear d0 d1 d2 e1 e2 s0 s1 s2
            go_region_held3 (fun w' => w'.cell? ⟨w3.heap.size, 0, none⟩ = some (.int .i64 l.fr) ∧ w'.cell? ⟨w3.heap.size, 1, none⟩ = some (.int .i64 l.to) ∧ w'.cell? ⟨w3.heap.size, 3, none⟩ = some (.int .i64 l.ix) ∧ Win R (R + 1) wr w')
              (first | with_reducible exact keepP hRL hLr (by omega) (by assumption) | with_reducible exact keepR hRL (by omega) (by assumption) hWrd.out | with_reducible exact keepA _ hRL (by assumption) | with_reducible exact keepD hRL (by assumption) | with_reducible exact keepW (by assumption) hRL (by assumption) | with_reducible exact ⟨y0, y1, y3, Win.refl _ _ _⟩ | with_reducible exact keepD hRL ⟨y0, y1, y3, Win.refl _ _ _⟩ | with_reducible exact keepD hRL (keepA _ hRL ⟨y0, y1, y3, Win.refl _ _ _⟩))
              (first
                | (go_at_call 95; (with_reducible refine (num_rd R a n cap zs p' true w0 _ h (belW hBr hRw (by assumption)) (by first | exact HRD.out | exact HRD.out.dr | exact HRD.out.dr.al _ | exact (HRD.out.al _).dr) g0 hInp (by omega)).mono ?_); rintro e wa ⟨va, pa, oa, rfl, hRa, hWa, hQa⟩; have hsa := Nat.le_trans (sizeW (by assumption)) hWa.size; have HRA : Hid (Rdr wa R a n cap pa oa) := Lib.hid hRa; have HQA := Lib.hid hQa; clear hRa hQa; have hInA := HQA.out.at'; have hla := HRA.out.lt; (first | (have hxa : Hid (Box5 wa wr.heap.size zE) := Lib.hid (box_al hWa hRr)) | (have hxa : Hid (Box5 wa wr.heap.size zE) := Lib.hid (box_al (w := wr) ((Win.of_below (Below.refl _ _).drew).trans hWa) hRr)) | skip); skip)
                | (go_at_call 102; (with_reducible refine (zig_rd R a n cap zs pa oa w0 _ h (belW hBr hRw (by assumption)) (by first | exact HRA.out | exact HRA.out.al _) g0 hInA (by omega)).mono ?_); rintro e wb ⟨vb, pb, ob, rfl, hRb, hWb, hQb⟩; have hsb := Nat.le_trans (sizeW (by assumption)) hWb.size; have HRB : Hid (Rdr wb R a n cap pb ob) := Lib.hid hRb; have HQB := Lib.hid hQb; clear hRb hQb; have hInB := HQB.out.at'; have hlb := HRB.out.lt; (first | (have hxb : Hid (Box5 wb wr.heap.size zE) := Lib.hid (box_keep hxa.out hWb hRr)) | (have hyb : Hid (Box5 wb wa.heap.size zE) := Lib.hid (box_al hWb hla)) | skip); skip)
                | (go_at_call 95; (with_reducible refine (num_rd R a n cap zs pb ob w0 _ h (belW hBr hRw (by assumption)) (by first | exact HRB.out | exact HRB.out.al _) g0 hInB (by omega)).mono ?_); rintro e wc ⟨vc, pc, oc, rfl, hRc, hWc, hQc⟩; have hsc := Nat.le_trans (sizeW (by assumption)) hWc.size; have HRC : Hid (Rdr wc R a n cap pc oc) := Lib.hid hRc; have HQC := Lib.hid hQc; clear hRc hQc; have hInC := HQC.out.at'; have hlc := HRC.out.lt; (first | (have hxc : Hid (Box5 wc wr.heap.size zE) := Lib.hid (box_keep hxb.out hWc hRr)) | (have hyc : Hid (Box5 wc wa.heap.size zE) := Lib.hid (box_keep hyb.out hWc hla)) | (have hzc : Hid (Box5 wc wb.heap.size zE) := Lib.hid (box_al hWc hlb)) | skip); skip)
                | (go_at_call 102; (with_reducible refine (zig_rd R a n cap zs pc oc w0 _ h (belW hBr hRw (by assumption)) (by first | exact HRC.out | exact HRC.out.al _) g0 hInC (by omega)).mono ?_); rintro e wd ⟨vd, pd, od, rfl, hRd, hWd, hQd⟩; have hsd := Nat.le_trans (sizeW (by assumption)) hWd.size; have hWrd := Lib.hid ((winW (by assumption)).trans hWd); have HRD2 : Hid (Rdr wd R a n cap pd od) := Lib.hid hRd; have HQD := Lib.hid hQd; clear hRd hQd; have hld := HRD2.out.lt; (first | (have HXD : Hid (Box5 wd wr.heap.size zE) := Lib.hid (box_keep hxc.out hWd hRr)) | (have HXD : Hid (Box5 wd wa.heap.size zE) := Lib.hid (box_keep hyc.out hWd hla)) | (have HXD : Hid (Box5 wd wb.heap.size zE) := Lib.hid (box_keep hzc.out hWd hlb)) | (have HXD : Hid (Box5 wd wc.heap.size zE) := Lib.hid (box_al hWd hlc)) | skip); (try obtain ⟨z0, z1, z2, z3, z4, z5, z6, z7, z8, z9⟩ := HXD.out); skip))
            all_goals
              have HE : (⟨IntKind.i64.wrap (l.fr + va), IntKind.i64.wrap (l.to + vb), vc, IntKind.i64.wrap (l.ix + vd), 0⟩ : SEdgeR) = ⟨wrap64 (l.fr + va), wrap64 (l.to + vb), vc, wrap64 (l.ix + vd), 0⟩ := by rw [IntWalk.i64_left, IntWalk.i64_left, IntWalk.i64_left]
              have HWr := hWrd.out
              have hRd9 := HRD2.out
              go_wp2_with fail
              go_meet
              first
                | exact ⟨wd.heap.size, _, pd, od, rfl, Lib.hid (HI.out.mid HL.out HQA.out HQB.out HQC.out HQD.out (HWr.al _) hsd (hRd9.al _) (by rw [← HE]; exact Box5.new wd ⟨IntKind.i64.wrap (l.fr + va), IntKind.i64.wrap (l.to + vb), vc, IntKind.i64.wrap (l.ix + vd), 0⟩ _))⟩
                | exact ⟨_, _, pd, od, rfl, Lib.hid (HI.out.mid HL.out HQA.out HQB.out HQC.out HQD.out (((((HWr.put _ (by omega)).put _ (by omega)).put _ (by omega)).put _ (by omega)).put _ (by omega)) (by omega) (hRd9.keep ((put5_win wd _ ⟨IntKind.i64.wrap (l.fr + va), IntKind.i64.wrap (l.to + vb), vc, IntKind.i64.wrap (l.ix + vd), 0⟩).block R hRd9.lt (by omega))) (by rw [← HE]; exact HXD.out.put ⟨IntKind.i64.wrap (l.fr + va), IntKind.i64.wrap (l.to + vb), vc, IntKind.i64.wrap (l.ix + vd), 0⟩))⟩
          case rest =>
            obtain ⟨E, e, p4, o4, rfl, HM⟩ := hcut
            have hjn : j ≤ 400 := by omega
            have hjb := HI.out.jb
            obtain ⟨x0, x1, x2, x3, x4, _, _, _, _, _⟩ := HM.out.boxE
            obtain ⟨t0, t1, t2, _, _, _⟩ := HM.out.sb
            have hEl := HM.out.boxE.lt
            have hSl := HM.out.sb.lt
            have hbase := HM.out.win.size
            have hbW : Below wc.heap.size wc (wc.alloc (.cells #[.int .i64 e.fr, .int .i64 e.to, .int .i64 e.wt, .int .i64 e.ix, .int .i64 e.val] 92)) := (Below.refl _ _).alloc (Nat.le_refl _) _
            go_wp2_with (at_builtin; refine app_two rfl _ _ 62 rfl w.heap.size 92 Try.underlying62 ji jz0 jz1 jz2 rfl (by decide) A j C (es.flatMap encSEdge) rfl ((HM.out.own.below hbW).own) ⟨wc.heap.size, 0, none⟩ 1 1 (encSEdge e) rfl rfl ?c1 (oneE e) (by decide) ?c2 ?c3 ?c4 ?_)
            case c1 => exact World.news_of_block (heap_alloc_new _ _)
            case c2 => unfold maxLen; omega
            case c3 => omega
            case c4 => simp; omega
            intro A2 C2 w9 ho2 hg2 hk2
            have blk : ∀ b, b < wc.heap.size → (Value.slice A j C).ownBlock ≠ some b → w9.heap[b]? = wc.heap[b]? := fun b hb hne => (hg2.block b (by simp; omega) (fun e1 => hne e1.symm)).trans (hbW.block b hb)
            have hE2 := HM.out.boxE.keep (blk E HM.out.boxE.lt HM.out.farE)
            have hL2 := HM.out.box.keep (blk w3.heap.size HM.out.box.lt HM.out.farL)
            have hS2 := HM.out.sb.keep (blk w2.heap.size HM.out.sb.lt HM.out.farS)
            have HNX := Lib.hid (HM.out.next HI.out hjN 92 ho2 hg2 (by simpa using hk2) hn)
            have hneE : E ≠ w2.heap.size := by have := HI.out.sl; have := HM.out.le; omega
            clear ho2 hg2 hk2 blk x0 x1 x2 x3 x4 t0 t1 t2 hbW
            obtain ⟨x0, x1, x2, x3, x4, _, _, _, _, _⟩ := hE2
            obtain ⟨y0, y1, y2, y3, y4, y5, y6, y7, y8, y9⟩ := hL2
            obtain ⟨t0, t1, t2, t3, t4, t5⟩ := hS2
            go_wp2
            go_roundg (gk - 1)
            case measure => omega
            case rel => exact ⟨j + 1, p4, o4, es ++ [e], e, A2, C2, by omega, by go_num, HNX⟩
        | false =>
          simp only [id_eq] at d2
          have HF := Lib.hid (shardReadF_bad (HI.out.bad HQ1.out HQ2.out HQ3.out))
          have HI9 := Lib.hid (HI.out.out false (F := shardReadF zs p) (fun e => by cases e) (fun _ => HF.out))
          obtain ⟨s0, s1, s2, s3, s4, s5⟩ := HI.out.sb
          obtain ⟨r0, r1, r2, r3, r4, r5⟩ := HI.out.res
          have hzr := HI.out.res.lt
          have hzs := HI.out.sb.lt
          have hsr : w2.heap.size ≠ R := by have := HI.out.rs; omega
          go_wp2
          refine bodyPost_ret (v := .agg #[.int .i64 v1, .int .i64 v2, .slice A j C]) (by simp [results, Try.results90, go_sem, r0, r1, r2]) rfl ?_
          exact HI9.out
      · obtain rfl : j = N := by omega
        cases ok with
        | true =>
          simp only [id_eq] at d2
          have HG := Lib.hid (HI.out.good HQ1.out HQ2.out HQ3.out)
          obtain ⟨s0, s1, s2, s3, s4, s5⟩ := HI.out.sb
          clear e1 e2
          cases hsb : shardB v1 v2 es with
          | true =>
            have HSB := Lib.hid hsb
            have HF : Hid (shardReadF zs p = ((v1, v2, es), p', true)) := Lib.hid (by
              have e := HG.out
              rw [shardReadF_yes (by rw [e]) (by rw [e]; exact HSB.out), e])
            clear hsb
            go_wp2_with fail
            refine (shardOk_impl v1 v2 A j C es _ (HI.out.own.rd lenSEdge)).mono ?_
            rintro e w9 ⟨rfl, hb9⟩
            rw [HSB.out]
            have HIL := Lib.hid (HI.out.later hb9)
            have HI9 := Lib.hid (HIL.out.out true (F := shardReadF zs p) (fun _ => HF.out) (fun e => by cases e))
            clear d0 d1 d2 s0 s1 s2 s3 s4 s5
            obtain ⟨d0, d1, d2, e1, e2⟩ := HIL.out.rdr
            obtain ⟨s0, s1, s2, s3, s4, s5⟩ := HIL.out.sb
            obtain ⟨r0, r1, r2, r3, r4, r5⟩ := HIL.out.res
            have hsr : w2.heap.size ≠ R := by have := HI.out.rs; omega
            go_wp2
            refine bodyPost_ret (v := .agg #[.int .i64 v1, .int .i64 v2, .slice A j C]) (by simp [results, Try.results90, go_sem, r0, r1, r2]) rfl ?_
            exact HI9.out
          | false =>
            have HSB := Lib.hid hsb
            have HF : Hid (shardReadF zs p = ((0, 0, []), 0, false)) := Lib.hid (by
              have e := HG.out
              exact shardReadF_no (by rw [e]; exact HSB.out))
            clear hsb
            go_wp2_with fail
            refine (shardOk_impl v1 v2 A j C es _ (HI.out.own.rd lenSEdge)).mono ?_
            rintro e w9 ⟨rfl, hb9⟩
            rw [HSB.out]
            have HIL := Lib.hid (HI.out.later hb9)
            have HI9 := Lib.hid (HIL.out.out false (F := shardReadF zs p) (fun e => by cases e) (fun _ => HF.out))
            clear d0 d1 d2 s0 s1 s2 s3 s4 s5
            obtain ⟨d0, d1, d2, e1, e2⟩ := HIL.out.rdr
            obtain ⟨s0, s1, s2, s3, s4, s5⟩ := HIL.out.sb
            obtain ⟨r0, r1, r2, r3, r4, r5⟩ := HIL.out.res
            have hsr : w2.heap.size ≠ R := by have := HI.out.rs; omega
            go_wp2
            refine bodyPost_ret (v := .agg #[.int .i64 v1, .int .i64 v2, .slice A j C]) (by simp [results, Try.results90, go_sem, r0, r1, r2]) rfl ?_
            exact HI9.out
        | false =>
          simp only [id_eq] at d2
          have HF := Lib.hid (shardReadF_bad (HI.out.bad HQ1.out HQ2.out HQ3.out))
          have HI9 := Lib.hid (HI.out.out false (F := shardReadF zs p) (fun e => by cases e) (fun _ => HF.out))
          obtain ⟨s0, s1, s2, s3, s4, s5⟩ := HI.out.sb
          obtain ⟨r0, r1, r2, r3, r4, r5⟩ := HI.out.res
          have hzr := HI.out.res.lt
          have hzs := HI.out.sb.lt
          have hsr : w2.heap.size ≠ R := by have := HI.out.rs; omega
          go_wp2
          refine bodyPost_ret (v := .agg #[.int .i64 v1, .int .i64 v2, .slice A j C]) (by simp [results, Try.results90, go_sem, r0, r1, r2]) rfl ?_
          exact HI9.out
  · have hNi : (400 : Int) < (N : Int) := by omega
    have HF := Lib.hid (readF_long HQ1.out HQ2.out HQ3.out (by omega))
    have hRR := HR3.out.lt
    obtain ⟨d0, d1, d2, e1, e2⟩ := HR3.out
    obtain ⟨r0, r1, r2, r3, r4, r5⟩ := HB03.out
    have hz0 := HB03.out.lt
    clear hR3
    have hneB : R ≠ w.heap.size := by omega
    have HI9 : Hid (RetRdS (shardReadF zs p) R a n cap w (.returned (.agg #[.int .i64 v1, .int .i64 v2, .slice none 0 0])) ((((((w3.setCell ⟨R, 2, none⟩ (.bool false)).setCell ⟨R, 2, none⟩ (.bool false)).setCell ⟨w.heap.size, 0, none⟩ (.int .i64 v1)).setCell ⟨w.heap.size, 1, none⟩ (.int .i64 v2)).setCell ⟨w.heap.size, 2, none⟩ (.slice none 0 0)).alloc (.cells #[.int .i64 0, .int .i64 v1, .int .i64 0, .int .i64 0, .int .i64 0] 92))) := by
      have hr := (HR3.out.setOk false).setOk false
      have w1 := (Win.set (lo := R) (hi := R + 1) w3 R 2 (.bool false) (Nat.le_refl _) (Nat.lt_succ_self _)).trans (Win.set (lo := R) (hi := R + 1) (w3.setCell ⟨R, 2, none⟩ (.bool false)) R 2 (.bool false) (Nat.le_refl _) (Nat.lt_succ_self _))
      have w2 := put3_win ((w3.setCell ⟨R, 2, none⟩ (.bool false)).setCell ⟨R, 2, none⟩ (.bool false)) w.heap.size (.int .i64 v1) (.int .i64 v2) (.slice none 0 0)
      exact Lib.hid ⟨⟨v1, v2, none, 0, 0, []⟩, p3, false, rfl, (hr.keep (w2.block R hr.lt (by omega))).al _, OwnS.nilS _ _, (((((hWW3.trans w1).put _ (Nat.le_refl _)).put _ (Nat.le_refl _)).put _ (Nat.le_refl _)).al _), Nat.zero_le _, (fun e => by cases e), fun _ => HF.out⟩
    go_wp2
    refine wp_loop_rounds 1 ?_
    rw [rounds_succ]
    go_wp2
    refine bodyPost_ret (v := .agg #[.int .i64 v1, .int .i64 v2, .slice none 0 0]) (by simp [results, Try.results90, go_sem, hz0, r0, r1, r2]) rfl ?_
    exact HI9.out
end Go.Proofs.Ytkgalkaafocnjaa
