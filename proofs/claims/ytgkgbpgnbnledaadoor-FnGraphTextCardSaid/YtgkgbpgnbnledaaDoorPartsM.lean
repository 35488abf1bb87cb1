/- Parts of the program and of the reference: what each call does. -/
import Derived.Test.YtgkgbpgnbnledaaDoorStrS
import Derived.Test.YtgkgbpgnbnledaaDoorText
import Derived.Test.YtgkgbpgnbnledaaDoorLaid
import Derived.Test.YtgkgbpgnbnledaaDoorShelf
import Derived.Test.YtgkgbpgnbnledaaDoorOut
namespace Go.Proofs.YtgkgbpgnbnledaaDoor
open Go.RowKit
theorem size_dataB (s : ByteArray) : s.data.toList.length = s.size := by rw [size_data]
/-- A call that returns a row of strings of its own. -/
def RetS (L : List (List UInt8)) (w : World) (e : Ending) (w' : World) : Prop := ∃ (a : Option Addr) (n c : Nat), e = .returned (.slice a n c) ∧ OwnS encS 1 9 w.heap.size w'.heap.size w' a n c (L.map mkB) ∧ Below w.heap.size w w'
theorem split_cut (s : ByteArray) (c : UInt8) : Lib.splitB ⟨#[c]⟩ 0 (Lib.countB s ⟨#[c]⟩) s = (cutAt c s.data.toList).map mkB := by
  rw [← splitB_cut, List.map_map]
  conv => lhs; rw [← List.map_id (Lib.splitB ⟨#[c]⟩ 0 (Lib.countB s ⟨#[c]⟩) s)]
  exact List.map_congr_left fun x _ => (mkB_of x).symm
theorem OwnS.rdS {lo hi : Nat} {w : World} {a : Option Addr} {n c : Nat} {xs : List ByteArray} (h : OwnS encS 1 9 lo hi w a n c xs) : Rd encS 1 w a n c xs := OwnS.rd lenS h
/-- What strings.Split at one byte returns. -/
theorem split_any (s : ByteArray) (c : UInt8) (hs : s.size ≤ 1048576) (w : World) (hm : SomeInt 3 w) :
    Calls Tryd.prog 43 #[.string s, .string ⟨#[c]⟩] w fun e w' => e = .returned (.slice (some ⟨w.heap.size, 0, none⟩) (cutAt c s.data.toList).length (cutAt c s.data.toList).length) ∧ OwnS encS 1 9 w.heap.size w'.heap.size w' (some ⟨w.heap.size, 0, none⟩) (cutAt c s.data.toList).length (cutAt c s.data.toList).length ((cutAt c s.data.toList).map mkB) ∧ Below w.heap.size w w' := by
  obtain ⟨m, hm⟩ := hm
  refine (Tryd.strings_Split s ⟨#[c]⟩ m w (by omega) hm (Nat.le_refl _)).mono ?_
  rintro e w1 ⟨rfl, rfl⟩
  rw [split_cut, countB_cut]
  have hl := cutAt_len c s.data.toList
  rw [size_dataB] at hl
  have h := World.ownsRow_lit (base := w.heap.size) (size := 1) (e := 9) w ((((cutAt c s.data.toList).map mkB).map Value.string).toArray) (cutAt c s.data.toList).length (Nat.le_refl _) (by unfold maxLen; omega) (by simp)
  refine ⟨rfl, ?_, (Below.refl _ _).alloc (Nat.le_refl _) _⟩
  refine OwnS.of ?_ (by simp) (by omega)
  rw [flat_encS]
  exact h
theorem parts_impl (s : ByteArray) (hs : s.size ≤ 1048576) (w : World) (hm : SomeInt 3 w) :
    Calls Tryd.prog 13 #[.string s] w fun e w' => RetS (cutAt 32 s.data.toList) w e w' := by
  go_enter Tryd.func13, Tryd.ntmps13
  go_wp2_with fail
  refine (split_any s 32 hs w hm).mono ?_
  rintro e w1 ⟨rfl, ho, hb⟩
  go_wp2
  go_ret
  exact ⟨_, _, _, rfl, ho, hb⟩
theorem extr (s : ByteArray) (u k : Nat) : s.extract u k = mkB ((s.data.toList.drop u).take (k - u)) := bs_data (by rw [Lib.extract_data, mkB_data])
theorem str_snoc (out : List (List UInt8)) (p : List UInt8) : ((out ++ [p]).map mkB).map Value.string = (out.map mkB).map Value.string ++ [.string (mkB p)] := by simp
theorem infoStr : (Tryd.prog.info? 9).map (fun i => (i.zero, i.size, i.bytes)) = some (some (.string ⟨#[]⟩), 1, 16) := by kernel_rfl
theorem one_str (v : ByteArray) : ∀ u ∈ [Value.string v], u.oneCell' = true := by intro u hu; simp at hu; subst hu; rfl
set_option maxRecDepth 100000 in
set_option maxHeartbeats 3200000 in
theorem parts_spec (s : ByteArray) (hs : s.size ≤ 1048576) (w : World) :
    Calls Tryd.prog 12 #[.string s] w fun e w' => RetS (cutAt 32 s.data.toList) w e w' := by
  obtain ⟨i0, hi, hz0, hz1, hz2⟩ := info_parts infoStr
  have hsz := size_dataB s
  have hO : OutRow w.heap.size w.heap.size 9 1 (w.alloc (.cells #[] 9)) (some ⟨w.heap.size, 0, none⟩) 0 0 [] := OutRow.lit w 9 1 _
  go_enter Tryd.func12, Tryd.ntmps12
  go_wp2
  go_loopw [3, 4, 5] (fun r f i wr => ∃ (A : Option Addr) (n C u k : Nat) (out : List (List UInt8)), k ≤ s.size ∧ r = .slice A n C ∧ f = .int .i64 u ∧ i = .int .i64 k ∧ OutRow w.heap.size w.heap.size 9 1 wr A n C ((out.map mkB).map Value.string) ∧ out.length = n ∧ n ≤ k ∧ CutTo 32 s.data.toList out u k ∧ Below w.heap.size w wr) (fun _ _ i _ => s.size - (intOf i).toNat)
  case atStart => exact ⟨_, 0, 0, 0, 0, [], Nat.zero_le _, rfl, rfl, rfl, hO, rfl, Nat.le_refl _, CutTo.start _ _, (Below.refl _ _).alloc (Nat.le_refl _) _⟩
  case round =>
    obtain ⟨A, n, C, u, k, out, hk, rfl, rfl, rfl, ho, hn, hnk, hc, hb⟩ := hrel
    have HO := Lib.hid ho
    have HC := Lib.hid hc
    have HN := Lib.hid hn
    have huk := hc.1
    clear ho hc hn
    by_cases hlt : k < s.size
    · have h255 : s[k].toNat < 256 := s[k].toNat_lt
      by_cases hg : s[k].toNat = 32
      · have hge : (s[k].toNat : Int) = 32 := by omega
        have HH := Lib.hid (HC.out.hit (by rw [hsz]; exact hlt) (show s[k] = 32 from UInt8.toNat_inj.1 hg))
        go_wp2_with (at_builtin; refine app_out rfl _ _ 24 rfl w.heap.size w.heap.size 9 Tryd.underlying24 hi hz0 hz1 hz2 rfl (by decide) A n C ((out.map mkB).map Value.string) rfl (HO.out.alloc _) ⟨wr.heap.size, 0, none⟩ 1 1 [.string (s.extract u k)] rfl rfl (one_news _ _ _ _ rfl) (one_str _) (by decide) ?c4 ?c5 ?c6 ?c7 ?_)
        case c4 => unfold maxLen; omega
        case c5 => omega
        case c6 => exact Nat.le_refl _
        case c7 => have := hb.size; simp; omega
        intro A2 C2 w4 ho2 hb4
        have HO2 : Hid (OutRow w.heap.size w.heap.size 9 1 w4 A2 (n + 1) C2 (((out ++ [(s.data.toList.drop u).take (k - u)]).map mkB).map Value.string)) := Lib.hid (by rw [str_snoc, ← extr]; first | exact ho2 | (simp only [List.map_map] at ho2 ⊢; exact ho2))
        have hb5 := (hb.alloc hb.size (.cells #[.string (s.extract u k)] 9)).trans hb4
        clear ho2 hb4
        go_wp2
        go_roundw
        case rel => exact ⟨A2, n + 1, C2, k + 1, k + 1, _, by omega, rfl, by go_num, by go_num, HO2.out, by rw [List.length_append, HN.out]; rfl, by omega, HH.out, hb5⟩
        case measure => simp [intOf]; omega
      · have hge : ¬ (s[k].toNat : Int) = 32 := by omega
        have HM := Lib.hid (HC.out.miss (by rw [hsz]; exact hlt) (fun e => hg (by have : s[k] = 32 := e; rw [this]; rfl)))
        go_wp2
        go_roundw
        case rel => exact ⟨A, n, C, u, k + 1, out, by omega, rfl, rfl, by go_num, HO.out, HN.out, by omega, HM.out, hb⟩
        case measure => simp [intOf]; omega
    · obtain rfl : k = s.size := by omega
      have HF := Lib.hid (show cutAt 32 s.data.toList = out ++ [s.data.toList.drop u] from CutTo.fin (by rw [hsz]; exact HC.out))
      have hdu : (s.data.toList.drop u).take (s.size - u) = s.data.toList.drop u := List.take_of_length_le (by rw [List.length_drop, hsz]; exact Nat.le_refl _)
      go_wp2_with (at_builtin; refine app_out rfl _ _ 24 rfl w.heap.size w.heap.size 9 Tryd.underlying24 hi hz0 hz1 hz2 rfl (by decide) A n C ((out.map mkB).map Value.string) rfl (HO.out.alloc _) ⟨wr.heap.size, 0, none⟩ 1 1 [.string (s.extract u s.size)] rfl rfl (one_news _ _ _ _ rfl) (one_str _) (by decide) ?d4 ?d5 ?d6 ?d7 ?_)
      case d4 => unfold maxLen; omega
      case d5 => omega
      case d6 => exact Nat.le_refl _
      case d7 => have := hb.size; simp; omega
      intro A2 C2 w4 ho2 hb4
      have HO2 : Hid (w4.ownsRow w.heap.size 9 1 (.slice A2 (n + 1) C2) (n + 1) ((((cutAt 32 s.data.toList)).map mkB).flatMap encS)) := Lib.hid (by rw [HF.out, flat_encS, str_snoc, ← hdu, ← extr]; first | exact ho2.1 | (simp only [List.map_map] at ho2 ⊢; exact ho2.1))
      have hb5 := (hb.alloc hb.size (.cells #[.string (s.extract u s.size)] 9)).trans hb4
      clear hdu ho2 hb4
      go_wp2
      go_ret
      exact ⟨A2, n + 1, C2, rfl, OwnS.of HO2.out (by rw [HF.out]; simp [HN.out]) (by omega), hb5⟩
end Go.Proofs.YtgkgbpgnbnledaaDoor
