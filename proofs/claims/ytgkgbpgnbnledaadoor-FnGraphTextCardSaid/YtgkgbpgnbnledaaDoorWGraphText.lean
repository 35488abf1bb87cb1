/- FnGraphText: the walk of the law. -/
import Derived.Test.YtgkgbpgnbnledaaDoorMakeG
import Derived.Test.YtgkgbpgnbnledaaDoorSumP
import Derived.Test.YtgkgbpgnbnledaaDoorRdG
import Derived.Test.YtgkgbpgnbnledaaDoorGrT
import Derived.Test.YtgkgbpgnbnledaaDoorDegs
namespace Go.Proofs.YtgkgbpgnbnledaaDoor
open Go.RowKit
theorem box_pair {w w' : World} {t : TypeId} {x y : Value} (hb : Below (w.alloc (.cells #[x, y] t)).heap.size (w.alloc (.cells #[x, y] t)) w') : w'.cell? ⟨w.heap.size, 0, none⟩ = some x ∧ w'.cell? ⟨w.heap.size, 1, none⟩ = some y ∧ Below w.heap.size w w' := by
  obtain ⟨hc, _⟩ := bcell hb
  have ha := (Below.refl w.heap.size w).alloc (Nat.le_refl _) (.cells #[x, y] t)
  exact ⟨by rw [hc _ _ (by simp)]; simp [go_sem], by rw [hc _ _ (by simp)]; simp [go_sem], ha.trans (hb.mono ha.size)⟩
theorem eR_eD (l : List EdgeR) : (l.map eD).map eR = l := by
  rw [List.map_map]
  conv => rhs; rw [← List.map_id l]
  rfl
theorem mg_graphB {n : Int} {xs : List EdgeR} (h1 : 1 ≤ n) (h8 : n ≤ 8) (hl : xs.length ≤ 13) (h : ∀ e ∈ xs, mgE n e) : graphB n xs = true := by
  unfold graphB
  simp only [Bool.and_eq_true, decide_eq_true_eq, List.all_eq_true]
  refine ⟨⟨⟨by omega, by omega⟩, by omega⟩, fun e he => ?_⟩
  obtain ⟨⟨a1, a2⟩, ⟨b1, b2⟩, c1, c2⟩ := h e he
  unfold edgeB
  simp only [Bool.and_eq_true, decide_eq_true_eq]
  omega
theorem mg_sum {n : Int} {xs : List EdgeR} (hb : graphB n xs = true) (hn : 0 ≤ n) (f : EdgeR → Int) (hf : ∀ e ∈ xs, 0 ≤ f e ∧ f e < n) : (degG f n xs).sum = xs.length ∧ ∀ j, 0 ≤ (degG f n xs).getD j 0 := by
  unfold degG
  rw [if_pos hb]
  refine ⟨?_, fun j => (tally_bd _ _ j).1⟩
  rw [sum_tally _ _ (fun i hi => ?_)]
  · simp [degI]
  · unfold degI at hi
    obtain ⟨e, he, rfl⟩ := List.mem_map.1 hi
    have := hf e he
    omega
set_option maxRecDepth 100000 in
set_option maxHeartbeats 6400000 in
theorem walk_FnGraphText (a : Option Addr) (n c : Nat) (z : List Int) (w : World) (r0 : Rd (encI .u8) 1 w a n c z) (hm : SomeInt 3 w) (hp : Pow Tryd.prog w) (he : Errs Tryd.prog w) :
    Calls Tryd.prog 8 #[.slice a n c] w fun e w' => e = .returned (.bool true) ∧ Below w.heap.size w w' := by
  have hle := r0.le
  have hmx := r0.max
  unfold maxLen at hmx
  by_cases hn : n ≤ 1048576
  · have hni : (n : Int) ≤ 1048576 := by omega
    go_enter Tryd.func8, Tryd.ntmps8
    go_wp2_with fail
    refine (makeGraph_any a n c z _ r0 hn).mono ?_
    rintro e w1 ⟨⟨gn, gA, gN, gC, gl⟩, rfl, ho, ⟨h1, h8⟩, h13, hall, hb1⟩
    simp only at h1 h8 h13 hall
    have HGL : Hid (gl.length = gN) := Lib.hid ho.row.len
    have HGB := Lib.hid (mg_graphB h1 h8 (by rw [HGL.out]; exact h13) hall)
    have HTD := Lib.hid (show graphTextD gn gl = graphL gn (gl.map eD) from by unfold graphTextD; rw [if_pos HGB.out])
    have HSZ := Lib.hid (show (graphL gn (gl.map eD)).length ≤ 20000 from by have := graphL_len gn (gl.map eD); rw [List.length_map, HGL.out] at this; omega)
    have HRD := Lib.hid (show readGraphL (mkB (graphL gn (gl.map eD))).data.toList = ((gn, gl.map eD), 0) from by
      rw [mkB_data]
      refine readGraphL_graph (by omega) (by omega) (fun e he => ?_) (by rw [List.length_map, HGL.out]; omega) HSZ.out
      obtain ⟨x, hx, rfl⟩ := List.mem_map.1 he
      obtain ⟨⟨a1, a2⟩, ⟨b1, b2⟩, c1, c2⟩ := hall x hx
      exact ⟨⟨a1, a2⟩, ⟨b1, b2⟩, c1, by show x.wt ≤ 1000; omega⟩)
    have HX64 := Lib.hid (show ∀ x ∈ gl, In64 x.fr ∧ In64 x.to ∧ In64 x.wt from fun x hx => by
      obtain ⟨⟨a1, a2⟩, ⟨b1, b2⟩, c1, c2⟩ := hall x hx
      unfold In64
      omega)
    have HI := Lib.hid (mg_sum HGB.out (by omega) EdgeR.to (fun e he => (hall e he).2.1))
    have HO := Lib.hid (mg_sum HGB.out (by omega) EdgeR.fr (fun e he => (hall e he).1))
    rw [HGL.out] at HI HO
    have ha1 := (Below.refl w1.heap.size w1).alloc (Nat.le_refl _) (.cells #[.int .i64 gn, .slice gA gN gC] 36)
    have BP1 := hb1.trans (ha1.mono hb1.size)
    have HR1 := Lib.hid ((ho.below ha1).row.rd lenEdge)
    clear hall
    go_wp2_with fail
    refine (graphText_impl gn gA gN gC gl _ HR1.out (by unfold In64; omega) HX64.out (hp.later BP1 (Nat.le_refl _))).mono ?_
    rintro e w2 ⟨rfl, hb2⟩
    rw [HTD.out]
    obtain ⟨X0, X1, hx2⟩ := box_pair hb2
    have BB2 := hb1.trans (hx2.mono hb1.size)
    have ho2 := ho.below hx2
    clear hb2 ha1 BP1 HR1
    simp only
    go_wp2_with fail
    refine (readGraph_impl _ (by rw [mkB_size]; have := HSZ.out; omega) _ (hm.later BB2 (Nat.le_refl _)) (hp.later BB2 (Nat.le_refl _)) (he.later BB2 (Nat.le_refl _))).mono ?_
    rintro e w3 ⟨⟨yn, yA, yN, yC, yl⟩, rfl, hd, oy, ky, hb3⟩
    rw [HRD.out]
    have hd2 : yn = gn ∧ yl = gl := by
      unfold rgD datGraph at hd
      rw [HRD.out, eR_eD] at hd
      simpa using hd
    have e1 : gn = yn := hd2.1.symm
    subst e1
    have e2 : gl = yl := hd2.2.symm
    subst e2
    have e3 : gN = yN := by have : gl.length = yN := oy.row.len; rw [← this, HGL.out]
    subst e3
    have BB3 := BB2.trans (hb3.mono BB2.size)
    have ho3 := ho2.below hb3
    have X03 := cell_later hb3 X0
    have X13 := cell_later hb3 X1
    have ha3 := (Below.refl w3.heap.size w3).alloc (Nat.le_refl _) (.cells #[.int .i64 gn, .slice yA gN yC] 36)
    have HR3 := Lib.hid ((ho3.below ha3).row.rd lenEdge)
    have X03b := cell_later ha3 X03
    have X13b := cell_later ha3 X13
    clear X0 X1 hd hd2 ky
    simp only
    go_wp2_with fail
    refine (inDegs_impl gn gA gN gC gl _ HR3.out).mono ?_
    rintro e w4 ⟨dA, dN, dC, rfl, od, hb4⟩
    obtain ⟨Y0, Y1, hx4⟩ := box_pair hb4
    have BB4 := BB3.trans (hx4.mono BB3.size)
    have ho4 := ho3.below hx4
    have oy4 := oy.below hx4
    have X04 := cell_later hx4 X03
    have X14 := cell_later hx4 X13
    have RR := od.rd
    clear ha3 HR3 hb4 X03 X13 X03b X13b oy ho3 ho2 ho od
    generalize degG EdgeR.to gn gl = zs at *
    have dm := RR.max
    have dle := RR.le
    unfold maxLen at dm
    have HdL := Lib.hid RR.len
    have HSd := Lib.hid (sum_take zs HI.out.2)
    go_wp2
    go_loopw [6, 27] (fun s i wr => ∃ k : Nat, k ≤ dN ∧ s = .int .i64 (zs.take k).sum ∧ i = .int .i64 k ∧ Below w4.heap.size w4 wr) (fun _ i _ => dN - (intOf i).toNat)
    case atStart => exact ⟨0, Nat.zero_le _, rfl, rfl, Below.refl _ _⟩
    case round =>
      obtain ⟨k, hk, rfl, rfl, hb⟩ := hrel
      have hbd := HSd.out k
      rw [HI.out.1] at hbd
      by_cases hlt : k < dN
      · obtain ⟨b1, off1, rfl, hbl1, hc1⟩ := RR.ints (by omega)
        have hcell1 : wr.cell? ⟨b1, off1 + k, none⟩ = some (.int .i64 (zs[k]?.getD 0)) := (hb.cell (p := ⟨b1, off1 + k, none⟩) hbl1).trans (hc1 k hlt)
        have hi1 : (k : Int) < (dN : Int) := by omega
        have HN := Lib.hid (sum_next zs k (by rw [HdL.out]; exact hlt))
        have hbd2 := HSd.out (k + 1)
        rw [HN.out, HI.out.1] at hbd2
        clear hc1
        generalize zs[k]?.getD 0 = v at *
        generalize (zs.take k).sum = sm at *
        go_wp2
        go_roundw
        case rel => exact ⟨k + 1, by omega, by rw [HN.out], by go_num, hb⟩
        case measure => simp [intOf]; omega
      · obtain rfl : k = dN := by omega
        rw [List.take_of_length_le (by rw [HdL.out]; exact Nat.le_refl _), HI.out.1]
        obtain ⟨w5, hw5⟩ : ∃ w5, w5 = wr := ⟨_, rfl⟩
        subst hw5
        have ho5 := ho4.below (hb.mono (Nat.le_refl _))
        have oy5 := oy4.below hb
        have X05 := cell_later hb X04
        have X15 := cell_later hb X14
        have Y05 := cell_later hb Y0
        have Y15 := cell_later hb Y1
        have BB5 := BB4.trans (hb.mono BB4.size)
        have HR5 := Lib.hid (ho5.row.rd lenEdge)
        clear hb ho4 oy4 X04 X14 Y0 Y1 RR
        go_wp2_with fail
        refine (outDegs_impl gn gA gN gC gl _ HR5.out).mono ?_
        rintro e w6 ⟨oA, oN, oC, rfl, oo, hb6⟩
        have BB6 := BB5.trans (hb6.mono BB5.size)
        have ho6 := ho5.below hb6
        have oy6 := oy5.below hb6
        have X06 := cell_later hb6 X05
        have X16 := cell_later hb6 X15
        have Y06 := cell_later hb6 Y05
        have Y16 := cell_later hb6 Y15
        have RO := oo.rd
        clear hb6 ho5 oy5 X05 X15 Y05 Y15 HR5 oo
        generalize degG EdgeR.fr gn gl = zo at *
        have om := RO.max
        have ole := RO.le
        unfold maxLen at om
        have HoL := Lib.hid RO.len
        have HSo := Lib.hid (sum_take zo HO.out.2)
        go_wp2
        go_loopw [9, 38] (fun s i wr => ∃ k : Nat, k ≤ oN ∧ s = .int .i64 (zo.take k).sum ∧ i = .int .i64 k ∧ Below w6.heap.size w6 wr) (fun _ i _ => oN - (intOf i).toNat)
        case atStart => exact ⟨0, Nat.zero_le _, rfl, rfl, Below.refl _ _⟩
        case round =>
          obtain ⟨j, hk, rfl, rfl, hb⟩ := hrel
          have hbd := HSo.out j
          rw [HO.out.1] at hbd
          by_cases hlt : j < oN
          · obtain ⟨b1, off1, rfl, hbl1, hc1⟩ := RO.ints (by omega)
            have hcell1 : wr.cell? ⟨b1, off1 + j, none⟩ = some (.int .i64 (zo[j]?.getD 0)) := (hb.cell (p := ⟨b1, off1 + j, none⟩) hbl1).trans (hc1 j hlt)
            have hi1 : (j : Int) < (oN : Int) := by omega
            have HN := Lib.hid (sum_next zo j (by rw [HoL.out]; exact hlt))
            have hbd2 := HSo.out (j + 1)
            rw [HN.out, HO.out.1] at hbd2
            clear hc1
            generalize zo[j]?.getD 0 = v at *
            generalize (zo.take j).sum = sm at *
            go_wp2
            go_roundw
            case rel => exact ⟨j + 1, by omega, by rw [HN.out], by go_num, hb⟩
            case measure => simp [intOf]; omega
          · obtain rfl : j = oN := by omega
            rw [List.take_of_length_le (by rw [HoL.out]; exact Nat.le_refl _), HO.out.1]
            obtain ⟨w7, hw7⟩ : ∃ w7, w7 = wr := ⟨_, rfl⟩
            subst hw7
            have ho7 := Lib.hid ((ho6.below hb).row.rd lenEdge)
            have oy7 := Lib.hid ((oy6.below hb).row.rd lenEdge)
            have X07 := cell_later hb X06
            have X17 := cell_later hb X16
            have Y07 := cell_later hb Y06
            have Y17 := cell_later hb Y16
            have BB7 := BB6.trans (hb.mono BB6.size)
            clear hb ho6 oy6 X06 X16 Y06 Y16 RO
            go_wp2
            go_loopw [79] (fun i wr => ∃ k : Nat, k ≤ gN ∧ i = .int .i64 k ∧ Below w7.heap.size w7 wr) (fun i _ => gN - (intOf i).toNat)
            case atStart => exact ⟨0, Nat.zero_le _, rfl, Below.refl _ _⟩
            case round =>
              obtain ⟨t, ht, rfl, hb⟩ := hrel
              have X08 := cell_later hb X07
              have X18 := cell_later hb X17
              have Y08 := cell_later hb Y07
              have Y18 := cell_later hb Y17
              by_cases hlt : t < gN
              · obtain ⟨b1, off1, rfl, hbl1, hc1⟩ := (ho7.out.below hb (Nat.le_refl _)).edges (by show 0 < gN; omega)
                obtain ⟨b2, off2, rfl, hbl2, hc2⟩ := (oy7.out.below hb (Nat.le_refl _)).edges (by show 0 < gN; omega)
                obtain ⟨k0, k1, k2⟩ := hc1 t hlt
                obtain ⟨m0, m1, m2⟩ := hc2 t hlt
                have hti : (t : Int) < (gN : Int) := by omega
                clear hc1 hc2
                try simp only at k0 k1 k2 m0 m1 m2
                generalize edgeAt gl t = x at *
                obtain ⟨xa, xb, xc⟩ := x
                try simp only at k0 k1 k2 m0 m1 m2
                go_wp2_with fail
                go_quiet (fail)
                generalize hwd : wr.drewN _ = wd
                have hbd : Below wr.heap.size wr wd := by rw [← hwd]; exact ⟨rfl, rfl, rfl, Nat.le_refl _, fun _ _ => rfl⟩
                have hb2 := hb.trans (hbd.mono hb.size)
                clear hwd
                go_wp2
                go_roundw
                case rel => exact ⟨t + 1, by omega, by go_num, hb2⟩
                case measure => simp [intOf]; omega
              · obtain rfl : t = gN := by omega
                go_wp2_with fail
                refine (graphOk_impl gn gA _ gC gl _ (ho7.out.below hb (Nat.le_refl _))).mono ?_
                rintro e w8 ⟨rfl, hb8⟩
                rw [HGB.out]
                have BB8 := (BB7.trans (hb.mono BB7.size)).trans (hb8.mono (BB7.trans (hb.mono BB7.size)).size)
                go_wp2
                go_ret
                exact ⟨rfl, BB8⟩
  · have hni : ¬ (n : Int) ≤ 1048576 := by omega
    go_enter Tryd.func8, Tryd.ntmps8
    go_wp2
    go_ret
    exact ⟨rfl, Below.refl _ _⟩
end Go.Proofs.YtgkgbpgnbnledaaDoor
