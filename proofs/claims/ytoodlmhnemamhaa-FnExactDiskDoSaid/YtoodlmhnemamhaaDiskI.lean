/- A disk's files by their names, in a map: filesOf and size of the program. -/
import Derived.Test.YtoodlmhnemamhaaDiskS
import Derived.Test.YtoodlmhnemamhaaDiskQ
import Derived.Maps.Own
import Derived.Maps.OwnSet
import Derived.Maps.OwnOps
import Derived.Maps.RangeWalk
import Derived.WalkKit
namespace Go.Proofs.Ytoodlmhnemamhaa
open Go.RowKit Go.Maps Go.WideMaps
theorem lawS : Keyed Try.prog 9 := string_keyed Try.underlying9
theorem zeroSl (w : World) : (zeroValue 22).run Try.prog w = .ok (.slice none 0 0) w := by kernel_rfl
theorem keyS {s : ByteArray} (h : s.size ≤ maxLen) : keyOf Try.prog 9 (.string s) = some (litN s) := keyOf_string_mk Try.underlying9 h
/-- Block b is a map of files: their names, and rows that can be read. -/
structure FM (w : World) (b n : Nat) (M : List (ByteArray × Row Int)) : Prop where
  own : w.ownsMap Try.prog 9 heldR b n (mapD M)
  rd : ∀ f ∈ M, Rd (encI .u8) 1 w f.2.a f.2.n f.2.c f.2.l
theorem FM.lt {w : World} {b n : Nat} {M : List (ByteArray × Row Int)} (h : FM w b n M) : b < w.heap.size := h.own.lt
theorem FM.later {w w' : World} {b n : Nat} {M : List (ByteArray × Row Int)} (h : FM w b n M) (hb : Below w.heap.size w w') : FM w' b n M := by
  refine ⟨?_, fun f hf => (h.rd f hf).below hb (Nat.le_refl _)⟩
  have hlt := h.own.lt
  obtain ⟨es, clock, e, r⟩ := h.own
  exact ⟨es, clock, (hb.block b hlt).trans e, r⟩
theorem FM.none {w : World} {b n : Nat} {M : List (ByteArray × Row Int)} (h : FM w b n M) (o : Nat) : w.cell? ⟨b, o, Option.none⟩ = Option.none := by
  obtain ⟨es, clock, e, r⟩ := h.own
  unfold World.cell?
  rw [e]
theorem rdMap_grown {w w' : World} {a : Option Addr} {n cap : Nat} {xs : List Int} (h : Rd (encI .u8) 1 w a n cap xs) {g : Nat} (hg : w.grownBy w' (some g)) (he : ∀ o, w.cell? ⟨g, o, Option.none⟩ = Option.none) : Rd (encI .u8) 1 w' a n cap xs := by
  refine ⟨h.le, h.max, h.len, h.nil, fun hn => ?_⟩
  obtain ⟨b, off, ha, hl, hc⟩ := h.spot hn
  refine ⟨b, off, ha, Nat.lt_of_lt_of_le hl hg.size, fun i hi f u hu => ?_⟩
  have h1 := hc i hi f u hu
  by_cases e : b = g
  · subst e
    rw [he] at h1
    cases h1
  · rw [World.cell?_of_block (w := w) (a := ⟨b, off + i * 1 + f, Option.none⟩) (hg.block b hl (fun e2 => e (by cases e2; rfl)))]
    exact h1
theorem FM.put {w w' : World} {b n : Nat} {M : List (ByteArray × Row Int)} (h : FM w b n M) {nm : ByteArray} {r : Row Int} (hr : Rd (encI .u8) 1 w r.a r.n r.c r.l) (ho : w'.ownsMap Try.prog 9 heldR b (n + 1) ((mapD M).put (litN nm) (.held (valR r)))) (hg : w.grownBy w' (some b)) : FM w' b (n + 1) (withF M (nm, r)) := by
  rw [mapD_put] at ho
  refine ⟨ho, fun f hf => ?_⟩
  rcases mem_with hf with e | e
  · rw [e]; exact rdMap_grown hr hg h.none
  · exact rdMap_grown (h.rd f e) hg h.none
theorem FM.del {w w' : World} {b n : Nat} {M : List (ByteArray × Row Int)} (h : FM w b n M) {nm : ByteArray} (ho : w'.ownsMap Try.prog 9 heldR b n ((mapD M).del (litN nm))) (hg : w.grownBy w' (some b)) : FM w' b n (lessF M nm) := by
  rw [mapD_del] at ho
  exact ⟨ho, fun f hf => rdMap_grown (h.rd f (mem_less hf)) hg h.none⟩
def prF (f : FileR) : ByteArray × Row Int := (f.name, ⟨f.dataA, f.dataN, f.dataC, f.data⟩)
def datM (M : List (ByteArray × Row Int)) : List FD := M.map (sndF Row.l)
theorem datM_pr (xs : List FileR) : datM (xs.map prF) = xs.map datFile := by
  unfold datM
  rw [List.map_map]
  rfl
theorem sizeM_dat {w : World} {b n : Nat} {M : List (ByteArray × Row Int)} (h : FM w b n M) : sizeM M = sizeF (datM M) := by
  unfold sizeM sizeF datM
  rw [List.map_map]
  congr 1
  apply List.map_congr_left
  intro f hf
  exact (h.rd f hf).len.symm
theorem fill_step {xs : List FileR} {k : Nat} (hk : k < xs.length) (h : ∀ j, j < k → ltN (atFile xs j).name (atFile xs k).name = true) : withF ((xs.take k).map prF) (prF (atFile xs k)) = (xs.take (k + 1)).map prF := by
  rw [with_last, List.take_succ_eq_append_getElem hk, List.map_append, atFile_eq xs k hk]
  · rfl
  · intro f hf
    obtain ⟨g, hg, rfl⟩ := List.mem_map.1 hf
    obtain ⟨j, hj, rfl⟩ := List.getElem_of_mem hg
    rw [List.length_take] at hj
    rw [List.getElem_take]
    have := h j (by omega)
    rw [atFile_eq xs j (by omega)] at this
    exact this
/-- A map that a call hands back. -/
def RetFM (n : Nat) (M : List (ByteArray × Row Int)) (w : World) (en : Ending) (w' : World) : Prop := ∃ b : Nat, en = .returned (.map (some b)) ∧ w.heap.size ≤ b ∧ FM w' b n M ∧ Below w.heap.size w w'
set_option maxRecDepth 100000 in
set_option maxHeartbeats 3200000 in
theorem filesOf_any (y : Row FileR) (w : World) (g : rdFileS w y) (hs : ∀ f ∈ y.l, f.name.size ≤ maxLen) (hn : y.n ≤ 1000) (ha : ∀ k, k < y.n → ∀ j, j < k → ltN (atFile y.l j).name (atFile y.l k).name = true) :
    Calls Try.prog 69 #[.slice y.a y.n y.c] w fun e w' => RetFM y.n (y.l.map prF) w e w' := by
  obtain ⟨a, n, c, xs⟩ := y
  obtain ⟨gr, gi⟩ := g
  simp only at gr gi hs hn ha ⊢
  have hm := gr.max
  have hle := gr.le
  have HL := Lib.hid gr.len
  unfold maxLen at hm
  have HG := Lib.hid gi
  have HS := Lib.hid hs
  have HA := Lib.hid ha
  clear gi hs ha
  have hmm := @run_makeMap Try.prog
  go_enter Try.func69, Try.ntmps69
  go_wp2
  go_loopw [9] (fun i wr => ∃ k : Nat, k ≤ n ∧ i = .int .i64 k ∧ Hid (FM wr w.heap.size k ((xs.take k).map prF)) ∧ Below w.heap.size w wr) (fun i _ => n - (intOf i).toNat)
  case atStart => exact ⟨0, Nat.zero_le _, rfl, Lib.hid ⟨World.ownsMap_made _ _ _ _, fun f hf => by simp at hf⟩, (Below.refl _ _).alloc (Nat.le_refl _) _⟩
  case round =>
    obtain ⟨k, hk, rfl, HF, hb⟩ := hrel
    by_cases hlt : k < n
    · obtain ⟨b, off, rfl, hbl, hc⟩ := gr.rowFile (by omega)
      obtain ⟨k0, k1⟩ := hc k hlt
      have cb : ∀ o, wr.cell? ⟨b, o, Option.none⟩ = w.cell? ⟨b, o, Option.none⟩ := fun o => hb.cell (p := ⟨b, o, Option.none⟩) hbl
      rw [← cb] at k0 k1
      have hi1 : (k : Int) < (n : Int) := by omega
      have hkx : k < xs.length := by rw [HL.out]; exact hlt
      have HST := Lib.hid (fill_step hkx (HA.out k hlt))
      have HXR : Hid (rdFile wr (atFile xs k)) := Lib.hid (by rw [atFile_eq xs k hkx]; exact rdFile_below (HG.out _ (List.getElem_mem hkx)) hb (Nat.le_refl _))
      have HK : Hid (keyOf Try.prog 9 (.string (atFile xs k).name) = some (litN (atFile xs k).name)) := Lib.hid (keyS (by rw [atFile_eq xs k hkx]; exact HS.out _ (List.getElem_mem hkx)))
      clear hc cb hkx
      generalize (xs.take k).map prF = M at *
      generalize atFile xs k = x at *
      obtain ⟨nm, xA, xN, xC, xL⟩ := x
      try simp only at k0 k1 HK
      have hal := (Below.refl wr.heap.size wr).alloc (Nat.le_refl _) (.cells #[.string nm, .slice xA xN xC] 71)
      have HF2 := Lib.hid (HF.out.later hal)
      have HX2 := Lib.hid (rdFile_below HXR.out hal (Nat.le_refl _))
      have hb2 := hb.trans (hal.mono hb.size)
      go_wp2_with (first
        | (at_mapUpdate; refine wpList_mapUpdate_own _ rfl _ _ _ 77 rfl 9 22 lawS Try.underlying77 heldR w.heap.size k _ rfl HF2.out.own (by unfold maxLen; omega) _ _ _ rfl rfl HK.out _ [] rfl ?_)
        | go_in)
      intro w1 hown1 hgrow1
      have HN : Hid (FM w1 w.heap.size (k + 1) (withF M (prF ⟨nm, xA, xN, xC, xL⟩))) := Lib.hid (HF2.out.put (r := ⟨xA, xN, xC, xL⟩) HX2.out hown1 hgrow1)
      have hb3 := hb2.grown hgrow1 hb2.size (fun j hj => by cases hj; exact Nat.le_refl _)
      rw [HST.out] at HN
      clear hown1 hgrow1 HF HF2 HX2 HXR HST hb2 hal hb
      go_wp2
      go_roundw
      case rel => exact ⟨k + 1, by omega, by go_num, HN, hb3⟩
      case measure => simp [intOf]; omega
    · obtain rfl : k = n := by omega
      have HE : Hid (FM wr w.heap.size k (xs.map prF)) := Lib.hid (by have h := HF.out; rw [← HL.out, List.take_length] at h; rw [HL.out] at h; exact h)
      clear HF
      go_wp2
      go_ret
      exact ⟨_, rfl, Nat.le_refl _, HE.out, hb⟩
theorem keyS_inv {s : ByteArray} {kl : Lit} (h : keyOf Try.prog 9 (.string s) = some kl) : kl = litN s := by
  by_cases hs : s.size ≤ maxLen
  · rw [keyS hs] at h
    cases h
    rfl
  · rw [keyOf_string Try.underlying9] at h
    simp [mapKey, Try.underlying9, hs] at h
theorem keyS_str {v : Value} {kl : Lit} (h : keyOf Try.prog 9 v = some kl) : ∃ s, v = .string s := by
  cases v <;> simp [keyOf, Try.underlying9, mapKey] at h
  exact ⟨_, rfl⟩
theorem FM.apart {w : World} {b n : Nat} {M : List (ByteArray × Row Int)} (h : FM w b n M) : M.Pairwise (fun p q => p.1 ≠ q.1) := by
  obtain ⟨es, e, hp, _⟩ := h.own.entries lawS
  unfold mapD at e
  rw [DataW.map.injEq] at e
  rw [← e, List.pairwise_map] at hp
  exact hp.imp (fun h2 e2 => h2 (by unfold entD; rw [e2]))
set_option maxRecDepth 100000 in
set_option maxHeartbeats 3200000 in
theorem sizeM_any (b n : Nat) (M : List (ByteArray × Row Int)) (w : World) (h : FM w b n M) (hz : sizeM M ≤ 4611686018427387904) :
    Calls Try.prog 61 #[.map (some b)] w fun e w' => e = .returned (.int .i64 (sizeM M : Nat)) ∧ Below w.heap.size w w' := by
  have hown := h.own
  have hlt := h.lt
  have HAP := Lib.hid h.apart
  have HLE := Lib.hid (fun left => doneS_le left M)
  go_enter Try.func61, Try.ntmps61
  go_wp2_with (first
    | (at_range; refine wpList_range_own _ rfl _ 77 rfl 9 22 lawS Try.underlying77 heldR b n _ rfl hown ?_; intro w0 hrg0 hg0 hs0)
    | go_in)
  go_frame
  have hbz : Below w.heap.size w w0 := below_grown hg0 (Nat.le_refl _) (fun k hk => by cases hk)
  go_loopw [3] (fun s wr => ∃ (left : Lit → Bool) (cnt : Nat), s = .int .i64 (doneS left M : Nat) ∧ wr.ranges Try.prog 9 heldR b w.heap.size n (mapD M) left cnt ∧ Below w.heap.size w wr) (fun _ wr => wr.rangeLeft b w.heap.size)
  case atStart => exact ⟨_, _, by rw [doneS_start]; rfl, hrg0, hbz⟩
  case round =>
    obtain ⟨left, cnt, rfl, hrg, hb⟩ := hrel
    have hd := HLE.out left
    go_wp2_with (first
      | (at_next; refine wpList_next_ranges _ rfl _ rfl 9 lawS heldR Value.string id (fun key kl hk => keyS_str hk) (fun v y hv => ⟨v, rfl⟩) b w.heap.size n _ _ _ rfl hrg ?_ ?_)
      | go_in)
    · intro _ hl0
      have HE := Lib.hid (doneS_end hl0 M)
      go_wp2
      go_ret
      exact ⟨by rw [HE.out] <;> rfl, hb⟩
    · intro x c kl d ps w1 cnt1 hkey hlx hv hat hrg1 hlt1 hg1 hs1 hen
      have e1 := keyS_inv hkey
      subst e1
      obtain rfl : d = .held c := by unfold heldR at hv; exact (congrArg Prod.fst (Option.some.inj hv)).symm
      obtain ⟨r, e2, hm⟩ := mapD_met hat
      have e3 : c = valR r := by cases e2; rfl
      subst e3
      have HN := Lib.hid (doneS_step hlx M HAP.out hm)
      have hd2 := HLE.out (fun z => left z && !z.sameKey (litN x))
      rw [HN.out] at hd2
      have hb1 := hb.grown hg1 hb.size (fun j hj => by cases hj; exact Nat.le_refl _)
      unfold valR at hen ⊢
      clear hat hv hkey hm e2
      go_wp2
      go_roundw
      case rel => exact ⟨_, cnt1, by rw [HN.out]; go_num, hrg1, hb1⟩
      case measure => rw [hrg1.left_eq, hrg.left_eq]; exact hlt1
end Go.Proofs.Ytoodlmhnemamhaa
