/- FnNumbers: the walk of the law. -/
import Derived.Test.YtgkgbpgnbnledaaDoorDraw
import Derived.Test.YtgkgbpgnbnledaaDoorCrc
import Derived.Test.YtgkgbpgnbnledaaDoorNumsP
import Derived.Test.YtgkgbpgnbnledaaDoorTextN
import Derived.Test.YtgkgbpgnbnledaaDoorTextG
namespace Go.Proofs.YtgkgbpgnbnledaaDoor
open Go.RowKit
/-- A call that returns a short row of bytes that can be read. -/
def RetMB (w : World) (e : Ending) (w' : World) : Prop := ∃ (a : Option Addr) (n c : Nat) (ys : List Int), e = .returned (.slice a n c) ∧ Rd (encI .u8) 1 w' a n c ys ∧ (∀ y ∈ ys, In8 y) ∧ n ≤ 40 ∧ Below w.heap.size w w'
set_option maxHeartbeats 800000 in
theorem makeBytes_any (a : Option Addr) (n cap : Nat) (zs : List Int) (w : World) (h : Rd (encI .u8) 1 w a n cap zs) (hn : n ≤ 1048576) :
    Calls Tryd.prog 32 #[.slice a n cap] w fun e w' => RetMB w e w' := by
  go_enter Tryd.func32, Tryd.ntmps32
  go_wp2_with fail
  refine (l01New_any a n cap zs _ h hn).mono ?_
  rintro e w1 ⟨R, rfl, hR, hC, hb⟩
  simp only
  go_wp2_with fail
  refine (l01Bytes_any R a n cap zs 40 (by omega) w _ h hb hR hC hn).mono ?_
  rintro e w2 ⟨a', n', c', ys, rfl, ho, h8, hn', hC2, hW2⟩
  have hb3 := hb.trans (hW2.below hR hb.size)
  have hrd := ho.rd
  go_wp2
  go_ret
  exact ⟨a', n', c', ys, rfl, hrd, h8, hn', hb3⟩
set_option maxRecDepth 100000 in
set_option maxHeartbeats 6400000 in
theorem walk_FnNumbers (a : Option Addr) (n c : Nat) (z : List Int) (w : World) (r0 : Rd (encI .u8) 1 w a n c z) (hp : Pow Tryd.prog w) (he : Errs Tryd.prog w) :
    Calls Tryd.prog 9 #[.slice a n c] w fun e w' => e = .returned (.bool true) ∧ Below w.heap.size w w' := by
  have hle := r0.le
  have hmx := r0.max
  unfold maxLen at hmx
  by_cases hn : n ≤ 1048576
  · have hni : (n : Int) ≤ 1048576 := by omega
    go_enter Tryd.func9, Tryd.ntmps9
    go_wp2_with fail
    refine (makeBytes_any a n c z _ r0 hn).mono ?_
    rintro e w1 ⟨ba, bn, bc, B, rfl, hB, hB8, hbn, hb1⟩
    have HBL := Lib.hid hB.len
    go_wp2_with fail
    refine (crc_impl ba bn bc B _ hB hB8).mono ?_
    rintro e w2 ⟨rfl, hb2⟩
    have hcr := crcN_le B
    have b2 := hb1.trans (hb2.mono hb1.size)
    have hB2 := hB.below hb2 (Nat.le_refl _)
    generalize crcN B = N at *
    have HP1 := Lib.hid (putVarF_yes B (numB_true (n := (N : Int)) (by omega) (by omega)))
    have HG1 := Lib.hid (getVarF_put B (n := N) (by omega))
    have HV8 : Hid (∀ y ∈ B ++ vdig N, In8 y) := Lib.hid (fun y hy => by
      rcases List.mem_append.1 hy with hy | hy
      · exact hB8 y hy
      · exact vdig_in8 N N (Nat.le_refl _) y hy)
    have HVL : Hid ((B ++ vdig N).length ≤ 47) := Lib.hid (by rw [List.length_append, HBL.out]; have := vdig_len7 (n := N) (by omega); omega)
    go_wp2_with fail
    refine (PutVar_impl ba bn bc B (N : Int) _ hB2 hB8 (by unfold In64; omega) (by omega)).mono ?_
    rintro e w3 ⟨pa, pn, pc, rfl, hP, hb3⟩
    rw [HP1.out] at hP ⊢
    simp only [Int.toNat_natCast] at hP ⊢
    have b3 := b2.trans (hb3.mono b2.size)
    generalize B ++ vdig N = P at *
    have HPL := Lib.hid hP.len
    have hP3 := hP.rd
    rw [HPL.out, HBL.out] at HG1
    have hpn : pn ≤ 47 := by rw [← HPL.out]; exact HVL.out
    clear hP HP1 HVL
    go_wp2_with fail
    refine (getVar_impl pa pn pc P (bn : Int) _ hP3 HV8.out (by unfold In64; omega) (by omega)).mono ?_
    rintro e w4 ⟨rfl, hb4⟩
    rw [HG1.out]
    have b4 := b3.trans (hb4.mono b3.size)
    have hP4 := hP3.below hb4 (Nat.le_refl _)
    have HZ1 := Lib.hid (putZigF_yes P (x := -(N : Int)) (zigB_yes (by omega) (by omega)))
    have HG2 := Lib.hid (getZigF_put P (x := -(N : Int)) (by omega) (by omega))
    have hz : zigN (-(N : Int)) ≤ 281474976710655 := by
      by_cases h : 0 ≤ -(N : Int)
      · have := zigN_pos h; omega
      · have := zigN_neg h; omega
    have HQ8 : Hid (∀ y ∈ P ++ vdig (zigN (-(N : Int))), In8 y) := Lib.hid (fun y hy => by
      rcases List.mem_append.1 hy with hy | hy
      · exact HV8.out y hy
      · exact vdig_in8 _ _ (Nat.le_refl _) y hy)
    have HQL : Hid ((P ++ vdig (zigN (-(N : Int)))).length ≤ 54) := Lib.hid (by rw [List.length_append, HPL.out]; have := vdig_len7 hz; omega)
    have hng : IntKind.wrap .i64 (-(N : Int)) = -(N : Int) := IntWalk.i64_in _ (by omega)
    have hng2 : wrap64 (-(N : Int)) = -(N : Int) := IntWalk.wrap64_in _ ⟨by omega, by omega⟩
    simp only
    go_wp2_with fail
    refine (PutZig_impl pa pn pc P (-(N : Int)) _ hP4 HV8.out (by unfold In64; omega) (by omega)).mono ?_
    rintro e w5 ⟨qa, qn, qc, rfl, hQ, hb5⟩
    rw [HZ1.out] at hQ ⊢
    simp only at hQ ⊢
    have b5 := b4.trans (hb5.mono b4.size)
    generalize P ++ vdig (zigN (-(N : Int))) = Q at *
    have HQn := Lib.hid hQ.len
    have hQ5 := hQ.rd
    rw [HQn.out, HPL.out] at HG2
    have hqn : qn ≤ 54 := by rw [← HQn.out]; exact HQL.out
    clear hQ HZ1 HQL
    go_wp2_with fail
    refine (getZig_impl qa qn qc Q (pn : Int) _ hQ5 HQ8.out (by unfold In64; omega) (by omega)).mono ?_
    rintro e w6 ⟨rfl, hb6⟩
    rw [HG2.out]
    have b6 := b5.trans (hb6.mono b5.size)
    have hQ6 := hQ5.below hb6 (Nat.le_refl _)
    have HF1 := Lib.hid (putFixF_yes Q (numB_true (n := (N : Int)) (by omega) (by omega)))
    have HG3 := Lib.hid (getFixF_put Q (n := N) (by omega))
    have HR8 : Hid (∀ y ∈ Q ++ fdig N, In8 y) := Lib.hid (fun y hy => by
      rcases List.mem_append.1 hy with hy | hy
      · exact HQ8.out y hy
      · exact fdig_in8 _ y hy)
    have HRL : Hid ((Q ++ fdig N).length = qn + 6) := Lib.hid (by rw [List.length_append, HQn.out, fdig_len])
    simp only
    go_wp2_with fail
    refine (PutFix_impl qa qn qc Q (N : Int) _ hQ6 HQ8.out (by unfold In64; omega) (by omega)).mono ?_
    rintro e w7 ⟨ra, rn, rc, rfl, hR, hb7⟩
    rw [HF1.out] at hR ⊢
    simp only [Int.toNat_natCast] at hR ⊢
    have b7 := b6.trans (hb7.mono b6.size)
    generalize Q ++ fdig N = T at *
    have hrn : rn = qn + 6 := by have := hR.len; rw [← this]; exact HRL.out
    subst hrn
    have hR7 := hR.rd
    rw [HQn.out] at HG3
    clear hR HF1 HRL
    go_wp2_with fail
    refine (getFix_impl (qn : Int) ra (qn + 6) rc T _ hR7 HR8.out (by unfold In64; omega)).mono ?_
    rintro e w8 ⟨rfl, hb8⟩
    rw [HG3.out]
    have b8 := b7.trans (hb8.mono b7.size)
    simp only
    go_wp2_with fail
    refine (numText_impl (N : Int) (by unfold In64; omega) _ (hp.later b8 (Nat.le_refl _))).mono ?_
    rintro e w9 ⟨rfl, hb9⟩
    have b9 := b8.trans (hb9.mono b8.size)
    have HT : Hid (textNumL (mkB (numL (N : Int))).data.toList = ((N : Int), true)) := Lib.hid (by rw [mkB_data, textNumL_numL (by omega) (by omega)])
    have hsz : (mkB (numL (N : Int))).size ≤ 1048576 := by rw [mkB_size]; have := numL_len (N : Int); omega
    go_wp2_with fail
    refine (textNum_impl _ hsz _ (hp.later b9 (Nat.le_refl _)) (he.later b9 (Nat.le_refl _))).mono ?_
    rintro e w10 ⟨rfl, hb10⟩
    rw [HT.out]
    have b10 := b9.trans (hb10.mono b9.size)
    simp only
    go_wp2
    go_ret
    exact ⟨by simp, b10⟩
  · have hni : ¬ (n : Int) ≤ 1048576 := by omega
    go_enter Tryd.func9, Tryd.ntmps9
    go_wp2
    go_ret
    exact ⟨rfl, Below.refl _ _⟩
end Go.Proofs.YtgkgbpgnbnledaaDoor
