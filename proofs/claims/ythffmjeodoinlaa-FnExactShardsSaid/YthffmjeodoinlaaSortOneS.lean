/- SortOne of the reference: what it computes. -/
import Derived.Test.YthffmjeodoinlaaSortP
import Derived.Test.YthffmjeodoinlaaSortOne
import Derived.Test.YthffmjeodoinlaaOutR
import Derived.Deep.RegionLaw
namespace Go.Proofs.Ythffmjeodoinlaa
open Go.RowKit
theorem own_take {w : World} {b : Nat} {e : TypeId} {sz : Nat} {a : Option Addr} {n cap : Nat} {xs : List Value} (h : w.ownsRow b e sz (.slice a n cap) n xs) (m : Nat) (hm : m ≤ n) : w.ownsRow b e sz (.slice a m cap) m (xs.take (m * sz)) := by
  refine ⟨?_, ?_⟩
  · rw [List.length_take, h.1, Nat.min_eq_left (Nat.mul_le_mul_right sz hm)]
  · rcases h.2 with ⟨hv, h0⟩ | ⟨g, cap', cur, hv, hb, hc, hle, hmx, hsz, ht⟩
    · cases hv
      obtain rfl : m = 0 := by omega
      exact Or.inl ⟨rfl, rfl⟩
    · cases hv
      refine Or.inr ⟨g, cap, cur, rfl, hb, hc, by omega, hmx, hsz, ?_⟩
      rw [← ht, List.take_take, Nat.min_eq_left (Nat.mul_le_mul_right sz hm)]
theorem OutRow.take {lo B : Nat} {e : TypeId} {sz : Nat} {w : World} {a : Option Addr} {n cap : Nat} {xs : List Value} (h : OutRow lo B e sz w a n cap xs) (m : Nat) (hm : m ≤ n) : OutRow lo B e sz w a m cap (xs.take (m * sz)) :=
  ⟨own_take h.1 m hm, h.2.imp (fun k => own_take k m hm) id⟩
theorem take_rec (L : List RecR) (m : Nat) (hm : m ≤ L.length) : (L.flatMap encRec).take (m * 3) = (L.take m).flatMap encRec := by
  conv => lhs; rw [← List.take_append_drop m L, List.flatMap_append]
  rw [List.take_append_of_le_length (by rw [len_rec, List.length_take]; omega), List.take_of_length_le (by rw [len_rec, List.length_take]; omega)]
theorem rd_drop {w : World} {b off n c : Nat} {xs : List RecR} (h : Rd encRec 3 w (some ⟨b, off, none⟩) n c xs) (p : Nat) (hp : p ≤ n) : Rd encRec 3 w (some ⟨b, off + p * 3, none⟩) (n - p) (c - p) (xs.drop p) := by
  refine ⟨by have := h.le; omega, by have := h.max; omega, by rw [List.length_drop, h.len], (fun hh => by cases hh), fun h0 => ?_⟩
  obtain ⟨b', off', ha, hl, hc⟩ := h.spot (by omega)
  cases ha
  refine ⟨b, off + p * 3, rfl, hl, fun i hi f u hu => ?_⟩
  have := hc (p + i) (by rw [List.length_drop] at hi; omega) f u (by rwa [List.getElem_drop] at hu)
  rw [← this]
  congr 2
  omega
theorem rd_keep {w w' : World} {a : Option Addr} {n c : Nat} {xs : List RecR} (h : Rd encRec 3 w a n c xs) (hd : ∀ q, (Value.slice a n c).ownBlock = some q → w'.heap[q]? = w.heap[q]?) : Rd encRec 3 w' a n c xs := by
  refine ⟨h.le, h.max, h.len, h.nil, fun h0 => ?_⟩
  obtain ⟨b, off, rfl, hl, hc⟩ := h.spot h0
  have hb := hd b rfl
  refine ⟨b, off, rfl, ?_, fun i hi f u hu => ?_⟩
  · have := Array.getElem?_eq_getElem hl
    rw [← hb] at this
    exact (Array.getElem?_eq_some_iff.1 this).1
  · rw [World.cell?_of_block (w := w) (a := ⟨b, off + i * 3 + f, none⟩) hb]
    exact hc i hi f u hu
theorem one_enc (x : RecR) : ∀ u ∈ encRec x, u.oneCell' = true := by
  intro u hu
  simp [encRec] at hu
  rcases hu with rfl | rfl | rfl <;> rfl
theorem wp_app_any {P : Program} {w : World} {o : Oper} {a : Act} {K : Act → World → Prop} {Q : Exit → Act → World → Prop} (s x : Operand) (t : TypeId)
    (ho : o.op = .call { callee := .builtin .append, args := #[s, x], argTypes := #[t, t] })
    (base : Nat) (e : TypeId) {i : TypeInfo} {z : Value} {size bytes : Nat} (ht : P.underlying t = some (.slice e)) (hi : P.info? e = some i) (hz : i.zero = some z)
    (hsize : i.size = size) (hby : i.bytes = bytes) (hzs : z.cells.size = size) (hsz : 0 < size)
    (A : Option Addr) (n C : Nat) (xs : List Value) (hs : a.eval s = .slice A n C) (hown : w.ownsRow base e size (.slice A n C) n xs)
    (ad : Option Addr) (m c : Nat) (news : List Value) (hx : a.eval x = .slice ad m c) (hl : news.length = m * size) (hnews : ∀ ad', ad = some ad' → ∀ (j : Nat) (u : Value), news[j]? = some u → w.cell? (ad'.add j) = some u)
    (hnone : ad = none → m = 0 ∧ c = 0) (h1 : ∀ u ∈ news, u.oneCell' = true)
    (h63 : n + m ≤ maxLen) (hbytes : (n + m) * bytes ≤ 140737488355328) (hbase : base ≤ w.heap.size)
    (h : ∀ (A' : Option Addr) (C' : Nat) (w' : World), w'.ownsRow base e size (.slice A' (n + m) C') (n + m) (xs ++ news) → w.grownBy w' (Value.slice A n C).ownBlock → K (a.put o.dst (.slice A' (n + m) C')) w') : o.wp P a w K Q := by
  cases ad with
  | none =>
    obtain ⟨rfl, rfl⟩ := hnone rfl
    have hn : news = [] := List.eq_nil_of_length_eq_zero (by simpa using hl)
    subst hn
    have hrun := run_append_owned_none (P := P) (w := w) base t o.type e i size ht hi _ n xs hown
    unfold Oper.wp
    simp [execOp, ho, resolve, invoke, builtin, hs, hx, hrun, Result.andThen]
    exact h A C w (by simpa using hown) (grown_refl _ _)
  | some b =>
    obtain ⟨v', w', hrun, ho', hg, _⟩ := run_append_own (P := P) (w := w) base t o.type e i z size bytes ht hi hz hsize hby hzs hsz _ n xs hown b m c news hl (hnews b rfl) h1 h63 hbytes hbase
    obtain ⟨A', C', rfl, _⟩ := own_shape ho'
    unfold Oper.wp
    simp [execOp, ho, resolve, invoke, builtin, hs, hx, hrun, Result.andThen]
    exact h A' C' w' ho' hg
/-- At a step of a region that draws its order. -/
theorem step_app_any {P : Program} {w : World} {ops : Array Oper} {o : Oper} {a : Act} {K : Act → World → Prop} {Q : Exit → Act → World → Prop} {E : Prop} (hgd : o.guard = none) (s x : Operand) (t : TypeId)
    (ho : o.op = .call { callee := .builtin .append, args := #[s, x], argTypes := #[t, t] })
    (base : Nat) (e : TypeId) {i : TypeInfo} {z : Value} {size bytes : Nat} (ht : P.underlying t = some (.slice e)) (hi : P.info? e = some i) (hz : i.zero = some z)
    (hsize : i.size = size) (hby : i.bytes = bytes) (hzs : z.cells.size = size) (hsz : 0 < size)
    (A : Option Addr) (n C : Nat) (xs : List Value) (hs : a.eval s = .slice A n C) (hown : w.ownsRow base e size (.slice A n C) n xs)
    (ad : Option Addr) (m c : Nat) (news : List Value) (hx : a.eval x = .slice ad m c) (hl : news.length = m * size) (hnews : ∀ ad', ad = some ad' → ∀ (j : Nat) (u : Value), news[j]? = some u → w.cell? (ad'.add j) = some u)
    (hnone : ad = none → m = 0 ∧ c = 0) (h1 : ∀ u ∈ news, u.oneCell' = true)
    (h63 : n + m ≤ maxLen) (hbytes : (n + m) * bytes ≤ 140737488355328) (hbase : base ≤ w.heap.size)
    (h : ∀ (A' : Option Addr) (C' : Nat) (w' : World), w'.ownsRow base e size (.slice A' (n + m) C') (n + m) (xs ++ news) → w.grownBy w' (Value.slice A n C).ownBlock → K (a.put o.dst (.slice A' (n + m) C')) w') :
    if Region.wanted o (yielded ops a.tmps) = true then Oper.wp P o a w K Q else E := by
  have hw : Region.wanted o (yielded ops a.tmps) = true := by simp [Region.wanted, hgd]
  rw [if_pos hw]
  exact wp_app_any s x t ho base e ht hi hz hsize hby hzs hsz A n C xs hs hown ad m c news hx hl hnews hnone h1 h63 hbytes hbase h
set_option maxHeartbeats 6400000 in
set_option maxRecDepth 100000 in
theorem sortOne_spec (a : Option Addr) (n c : Nat) (xs : List RecR) (w : World) (h : Rd encRec 3 w a n c xs) (hn : n ≤ 1048576) :
    Calls Try.prog 9 #[.slice a n c] w fun e w' => RetRecs (sortL xs) w e w' := by
  obtain ⟨i0, hi, hz0, hz1, hz2⟩ := info_parts infoRec
  have hL := h.len
  have hO : (w.alloc (.cells #[] 41)).ownsRow w.heap.size 41 3 (.slice (some ⟨w.heap.size, 0, none⟩) 0 0) 0 [] := World.ownsRow_lit w #[] 0 (Nat.le_refl _) (by unfold maxLen; omega) (by simp)
  go_enter Try.func9, Try.ntmps9
  go_wp2
  go_loopw [3, 11] (fun r i wr => ∃ (g C k : Nat) (L : List RecR), k ≤ n ∧ r = .slice (some ⟨g, 0, none⟩) k C ∧ i = .int .i64 k ∧ wr.ownsRow w.heap.size 41 3 (.slice (some ⟨g, 0, none⟩) k C) k (L.flatMap encRec) ∧ Hid (L = insAll (xs.take k)) ∧ L.length = k ∧ Below w.heap.size w wr) (fun _ i _ => n - (intOf i).toNat)
  case atStart => exact ⟨_, 0, 0, [], Nat.zero_le _, rfl, rfl, hO, Lib.hid rfl, rfl, (Below.refl _ _).alloc (Nat.le_refl _) _⟩
  case round =>
    obtain ⟨g, C, k, L, hk, rfl, rfl, ho, HL, hLk, hb⟩ := hrel
    clear hO
    by_cases hlt : k < n
    · obtain ⟨b, off, rfl, hbl, hc⟩ := h.rowRec (by omega)
      obtain ⟨k0, k1, k2⟩ := hc k hlt
      have cb : ∀ o, wr.cell? ⟨b, o, none⟩ = w.cell? ⟨b, o, none⟩ := fun o => hb.cell (p := ⟨b, o, none⟩) hbl
      rw [← cb] at k0 k1 k2
      have hkx : k < xs.length := by omega
      have HX := Lib.hid (show xs.take (k + 1) = xs.take k ++ [atRec xs k] from by rw [List.take_succ_eq_append_getElem hkx, atRec_eq xs k hkx])
      have hi1 : (k : Int) < (n : Int) := by omega
      clear hc cb
      generalize atRec xs k = x at *
      obtain ⟨wo, hwo⟩ : ∃ wo, wo = wr := ⟨_, rfl⟩
      subst hwo
      obtain ⟨wB, hwB⟩ : ∃ wB, wo.alloc (.cells #[.int .i64 x.a, .int .i64 x.b, .int .i64 x.c] 41) = wB := ⟨_, rfl⟩
      have haB : Below wo.heap.size wo wB := by rw [← hwB]; exact (Below.refl _ _).alloc (Nat.le_refl _) _
      have hsB : wB.heap.size = wo.heap.size + 1 := by rw [← hwB]; simp
      have X0 : wB.cell? ⟨wo.heap.size, 0, none⟩ = some (.int .i64 x.a) := by rw [← hwB]; simp [go_sem]
      have X1 : wB.cell? ⟨wo.heap.size, 1, none⟩ = some (.int .i64 x.b) := by rw [← hwB]; simp [go_sem]
      have X2 : wB.cell? ⟨wo.heap.size, 2, none⟩ = some (.int .i64 x.c) := by rw [← hwB]; simp [go_sem]
      have HWB := Lib.hid hwB
      have hgl := World.ownsRow.lt ho g rfl
      have HO := Lib.hid (own_below ho haB (Nat.le_refl _))
      have HRL := Lib.hid (Rd.of_own (fun x _ => lenRec x) HO.out hLk)
      have hkC := HRL.out.le
      have hCm := HRL.out.max
      have hbB := hb.trans (haB.mono hb.size)
      clear hwB ho
      go_wp2
      rw [HWB.out]
      clear HWB
      go_loopw [6] (fun s wq => ∃ t : Nat, s = .int .i64 t ∧ t ≤ insAt x L ∧ Below wB.heap.size wB wq) (fun s _ => k - (intOf s).toNat)
      case atStart => exact ⟨0, rfl, Nat.zero_le _, Below.refl _ _⟩
      case round =>
        obtain ⟨t, rfl, ht, hbq⟩ := hrel
        have htk : t ≤ k := Nat.le_trans ht (by rw [← hLk]; exact insAt_le x L)
        replace X0 := cell_later hbq X0
        replace X1 := cell_later hbq X1
        replace X2 := cell_later hbq X2
        by_cases htl : t < k
        · obtain ⟨b1, off1, hA1, hbl1, hc1⟩ := HRL.out.rowRec (by omega)
          cases hA1
          obtain ⟨l0, l1, l2⟩ := hc1 t htl
          simp only [Nat.zero_add] at l0 l1 l2
          replace l0 := cell_later hbq l0
          replace l1 := cell_later hbq l1
          replace l2 := cell_later hbq l2
          have HH := Lib.hid (fun hl => ins_hit x L t ht (by omega) hl)
          have HM := Lib.hid (fun hl => ins_miss x L t ht (by omega) hl)
          have hti : (t : Int) < (k : Int) := by omega
          clear hc1
          generalize atRec L t = y at *
          go_wp2_with fail
          go_region_held3 (fun w' => w'.cell? ⟨wo.heap.size, 0, none⟩ = some (.int .i64 x.a) ∧ w'.cell? ⟨wo.heap.size, 1, none⟩ = some (.int .i64 x.b) ∧ w'.cell? ⟨wo.heap.size, 2, none⟩ = some (.int .i64 x.c) ∧ w'.cell? ⟨g, t * 3, none⟩ = some (.int .i64 y.a) ∧ w'.cell? ⟨g, t * 3 + 1, none⟩ = some (.int .i64 y.b) ∧ w'.cell? ⟨g, t * 3 + 2, none⟩ = some (.int .i64 y.c) ∧ Below wr.heap.size wr w') (first | exact keepd6 (by assumption) | exact keep6 (by assumption) (Nat.le_refl _) (by assumption) | exact ⟨X0, X1, X2, l0, l1, l2, (Below.refl _ _).drew⟩) (first | (go_at_call 37; refine (lessR_spec x y _).mono ?_; rintro e wa ⟨rfl, hba⟩))
          rename World => wa
          have ha : Below wr.heap.size wr wa := tail6 (by assumption)
          obtain ⟨x0, x1, x2⟩ : wa.cell? ⟨wo.heap.size, 0, none⟩ = some (.int .i64 x.a) ∧ wa.cell? ⟨wo.heap.size, 1, none⟩ = some (.int .i64 x.b) ∧ wa.cell? ⟨wo.heap.size, 2, none⟩ = some (.int .i64 x.c) := ⟨cell_later ha X0, cell_later ha X1, cell_later ha X2⟩
          have hbA := hbq.trans (ha.mono hbq.size)
          clear X0 X1 X2 l0 l1 l2
          cases hq : lessR x y with
          | true =>
            have HT := Lib.hid (HH.out hq)
            have hCt : ¬ C - t = 0 := by omega
            have hCt2 : ¬ C = t := by omega
            clear HH HM hq
            have hOa := own_below HO.out hbA (Nat.le_refl _)
            have hsA : wo.heap.size < wa.heap.size := by have := hbA.size; omega
            have hRd : Rd encRec 3 wa (some ⟨g, t * 3, none⟩) (k - t) (C - t) (L.drop t) := by have := (rd_drop HRL.out t (by omega)).below hbA (Nat.le_refl _); rwa [Nat.zero_add] at this
            have hBA := hbB.trans (hbA.mono hbB.size)
            have HIN := Lib.hid (show insR x L = L.take t ++ x :: L.drop t from by unfold insR; rw [HT.out])
            have hwA := hb.size
            clear HRL HT
            go_wp2_with (at_builtin; refine app_any rfl _ _ 24 rfl wa.heap.size 41 Try.underlying24 hi hz0 hz1 hz2 rfl (by decide) (some ⟨wa.heap.size, 0, none⟩) 0 0 [] rfl (World.ownsRow_lit wa #[] 0 (Nat.le_refl _) (by unfold maxLen; omega) (by simp)) (some ⟨g, t * 3, none⟩) (k - t) (C - t) ((L.drop t).flatMap encRec) rfl ?c1 (news_rec (hRd.below ((Below.refl _ _).alloc (Nat.le_refl _) _) (Nat.le_refl _))) (fun ha => by cases ha) (one_rec _) ?c2 ?c3 (by simp) ?_)
            case c1 => rw [len_rec, List.length_drop]; omega
            case c2 => unfold maxLen; omega
            case c3 => omega
            intro A2 C2 w3 ho3 hb3
            have haA := (Below.refl wa.heap.size wa).alloc (Nat.le_refl _) (.cells #[] 41)
            have hB3 := haA.trans hb3
            replace x0 := cell_later hB3 x0
            replace x1 := cell_later hB3 x1
            replace x2 := cell_later hB3 x2
            have hO3 := own_take (own_below hOa hB3 (Nat.le_refl _)) t (by omega)
            rw [take_rec L t (by omega)] at hO3
            have hBw := hBA.trans (hB3.mono hBA.size)
            have hR3 : Rd encRec 3 w3 A2 (k - t) C2 (L.drop t) := Rd.of_own (fun x _ => lenRec x) ho3 (by rw [List.length_drop]; omega)
            have hs3 := hB3.size
            have hlt3 : w.heap.size ≤ w3.heap.size := by omega
            have hal3 := (Below.refl w3.heap.size w3).alloc (Nat.le_refl _) (.cells #[.int .i64 x.a, .int .i64 x.b, .int .i64 x.c] 41)
            have hnews : ∀ (j : Nat) (u : Value), (encRec x)[j]? = some u → (w3.alloc (.cells #[.int .i64 x.a, .int .i64 x.b, .int .i64 x.c] 41)).cell? ((⟨w3.heap.size, 0, none⟩ : Addr).add j) = some u := World.news_of_block (heap_alloc_new w3 (.cells #[.int .i64 x.a, .int .i64 x.b, .int .i64 x.c] 41))
            have hr3 : ∀ q, (Value.slice A2 (k - t) C2).ownBlock = some q → g < q ∧ q < w3.heap.size := fun q hq => by have := World.ownsRow.lt ho3 q hq; omega
            have HR3 := Lib.hid hR3
            have HO3 := Lib.hid hO3
            have hlen : t + 1 + (k - t) = k + 1 := by omega
            have htC : t ≤ C := by omega
            clear hOa hRd hBA hO3 hR3 haA ho3
            go_wp2_with fail
            go_region_law (first
              | (refine step_app_any (by rfl) _ _ _ (by rfl) w.heap.size 41 Try.underlying24 hi hz0 hz1 hz2 rfl (by decide) (some ⟨g, 0, none⟩) t C ((L.take t).flatMap encRec) (by rfl) (own_below HO3.out (hal3.drew) (Nat.le_refl _)) (some ⟨w3.heap.size, 0, none⟩) 1 1 (encRec x) (by rfl) (by rfl) (fun ad had => by cases had; exact hnews) (fun ha => by cases ha) (one_enc x) (by unfold maxLen; omega) (by omega) (by simp; omega) ?_; intro A4 C4 w4 ho4 hg4)
              | (refine step_app_any (by rfl) _ _ _ (by rfl) w.heap.size 41 Try.underlying24 hi hz0 hz1 hz2 rfl (by decide) A4 (t + 1) C4 ((L.take t).flatMap encRec ++ encRec x) (by rfl) ho4 A2 (k - t) C2 ((L.drop t).flatMap encRec) (by rfl) (by rw [len_rec, List.length_drop]; omega) (news_rec (rd_keep (HR3.out.below hal3.drew (Nat.le_refl _)) (fun q hq => hg4.block q (by have := (hr3 q hq).2; simp; omega) (by intro e; have h7 := (hr3 q hq).1; cases e; exact Nat.lt_irrefl _ h7)))) (fun ha => HR3.out.none ha) (one_rec _) (by unfold maxLen; omega) (by omega) (by have := hg4.size; simp at this; omega) ?_; intro A5 C5 w5 ho5 hg5))
            all_goals
              obtain ⟨g5, rfl⟩ := own_some ho5 (by omega)
              have hW1 := hBw.trans ((hal3.drew).mono (by omega))
              have hW2 := hW1.trans (below_grown hg4 (B := w.heap.size) (by simp; omega) (fun q hq => by cases hq; exact hgl.1))
              have hW3 := Lib.hid (hW2.trans (below_grown hg5 (B := w.heap.size) hW2.size (fun q hq => (World.ownsRow.lt ho4 q hq).1)))
              have HFL := Lib.hid (show (L.take t).flatMap encRec ++ encRec x ++ (L.drop t).flatMap encRec = (insR x L).flatMap encRec from by rw [HIN.out, List.flatMap_append, List.flatMap_cons, List.append_assoc])
              rw [HFL.out, hlen] at ho5
              have HO5 := Lib.hid ho5
              clear ho5 ho4 hg4 hg5 hW1 hW2 HFL hal3 hnews hr3 x0 x1 x2
              go_wp2
              go_roundw
              case rel => exact ⟨g5, C5, k + 1, insR x L, by omega, rfl, by go_num, HO5.out, Lib.hid (by rw [HX.out, insAll_snoc, ← HL.out]), by rw [(insR_perm x L).length_eq, List.length_cons, hLk], hW3.out⟩
              case measure => simp [intOf]; omega
          | false =>
            have HT := Lib.hid (HM.out hq)
            clear HH HM hq
            go_wp2
            go_roundw
            case rel => exact ⟨t + 1, by go_num, HT.out, hbA⟩
            case measure => simp [intOf]; omega
        · obtain rfl : t = k := by omega
          have HT : Hid (insAt x L = t) := Lib.hid (by have := insAt_le x L; omega)
          have hti : ¬ (t : Int) < (t : Int) := by omega
          go_wp2_with fail
          go_quiet (fail)
          generalize hwd : wr.drewN _ = wd
          have hbd : Below wr.heap.size wr wd := by rw [← hwd]; exact ⟨rfl, rfl, rfl, Nat.le_refl _, fun _ _ => rfl⟩
          have hbA := hbq.trans (hbd.mono hbq.size)
          have x0 := cell_later hbd X0
          have x1 := cell_later hbd X1
          have x2 := cell_later hbd X2
          clear X0 X1 X2 hwd
          by_cases hCt : t = C
          · subst hCt
            have hOa := own_below HO.out hbA (Nat.le_refl _)
            have hsA : wo.heap.size < wd.heap.size := by have := hbA.size; omega
            have hRd : Rd encRec 3 wd (some ⟨g, 0, none⟩) 0 0 (L.drop t) := ⟨Nat.le_refl _, by unfold maxLen; omega, by rw [List.length_drop]; omega, (fun hh => by cases hh), fun h => absurd h (Nat.lt_irrefl 0)⟩
            have hBA := hbB.trans (hbA.mono hbB.size)
            have HIN := Lib.hid (show insR x L = L.take t ++ x :: L.drop t from by unfold insR; rw [HT.out])
            have hwA := hb.size
            clear HRL HT
            go_wp2_with (at_builtin; refine app_any rfl _ _ 24 rfl wd.heap.size 41 Try.underlying24 hi hz0 hz1 hz2 rfl (by decide) (some ⟨wd.heap.size, 0, none⟩) 0 0 [] rfl (World.ownsRow_lit wd #[] 0 (Nat.le_refl _) (by unfold maxLen; omega) (by simp)) (some ⟨g, 0, none⟩) 0 0 ((L.drop t).flatMap encRec) rfl ?d1 (news_rec (hRd.below ((Below.refl _ _).alloc (Nat.le_refl _) _) (Nat.le_refl _))) (fun ha => by cases ha) (one_rec _) ?d2 ?d3 (by simp) ?_)
            case d1 => rw [len_rec, List.length_drop]; omega
            case d2 => unfold maxLen; omega
            case d3 => omega
            intro A2 C2 w3 ho3 hb3
            have haA := (Below.refl wd.heap.size wd).alloc (Nat.le_refl _) (.cells #[] 41)
            have hB3 := haA.trans hb3
            replace x0 := cell_later hB3 x0
            replace x1 := cell_later hB3 x1
            replace x2 := cell_later hB3 x2
            have hO3 := own_take (own_below hOa hB3 (Nat.le_refl _)) t (by omega)
            rw [take_rec L t (by omega)] at hO3
            have hBw := hBA.trans (hB3.mono hBA.size)
            have hR3 : Rd encRec 3 w3 A2 0 C2 (L.drop t) := Rd.of_own (fun x _ => lenRec x) ho3 (by rw [List.length_drop]; omega)
            have hs3 := hB3.size
            have hlt3 : w.heap.size ≤ w3.heap.size := by omega
            have hal3 := (Below.refl w3.heap.size w3).alloc (Nat.le_refl _) (.cells #[.int .i64 x.a, .int .i64 x.b, .int .i64 x.c] 41)
            have hnews : ∀ (j : Nat) (u : Value), (encRec x)[j]? = some u → (w3.alloc (.cells #[.int .i64 x.a, .int .i64 x.b, .int .i64 x.c] 41)).cell? ((⟨w3.heap.size, 0, none⟩ : Addr).add j) = some u := World.news_of_block (heap_alloc_new w3 (.cells #[.int .i64 x.a, .int .i64 x.b, .int .i64 x.c] 41))
            have hr3 : ∀ q, (Value.slice A2 0 C2).ownBlock = some q → g < q ∧ q < w3.heap.size := fun q hq => by have := World.ownsRow.lt ho3 q hq; omega
            have HR3 := Lib.hid hR3
            have HO3 := Lib.hid hO3
            have htC : t ≤ t := by omega
            clear hOa hRd hBA hO3 hR3 haA ho3
            go_wp2_with fail
            go_region_law (first
              | (refine step_app_any (by rfl) _ _ _ (by rfl) w.heap.size 41 Try.underlying24 hi hz0 hz1 hz2 rfl (by decide) (some ⟨g, 0, none⟩) t t ((L.take t).flatMap encRec) (by rfl) (own_below HO3.out (hal3.drew) (Nat.le_refl _)) (some ⟨w3.heap.size, 0, none⟩) 1 1 (encRec x) (by rfl) (by rfl) (fun ad had => by cases had; exact hnews) (fun ha => by cases ha) (one_enc x) (by unfold maxLen; omega) (by omega) (by simp; omega) ?_; intro A4 C4 w4 ho4 hg4)
              | (refine step_app_any (by rfl) _ _ _ (by rfl) w.heap.size 41 Try.underlying24 hi hz0 hz1 hz2 rfl (by decide) A4 (t + 1) C4 ((L.take t).flatMap encRec ++ encRec x) (by rfl) ho4 A2 0 C2 ((L.drop t).flatMap encRec) (by rfl) (by rw [len_rec, List.length_drop]; omega) (news_rec (rd_keep (HR3.out.below hal3.drew (Nat.le_refl _)) (fun q hq => hg4.block q (by have := (hr3 q hq).2; simp; omega) (by intro e; have h7 := (hr3 q hq).1; cases e; exact Nat.lt_irrefl _ h7)))) (fun ha => HR3.out.none ha) (one_rec _) (by unfold maxLen; omega) (by omega) (by have := hg4.size; simp at this; omega) ?_; intro A5 C5 w5 ho5 hg5))
            all_goals
              obtain ⟨g5, rfl⟩ := own_some ho5 (by omega)
              have hW1 := hBw.trans ((hal3.drew).mono (by omega))
              have hW2 := hW1.trans (below_grown hg4 (B := w.heap.size) (by simp; omega) (fun q hq => by cases hq; exact hgl.1))
              have hW3 := Lib.hid (hW2.trans (below_grown hg5 (B := w.heap.size) hW2.size (fun q hq => (World.ownsRow.lt ho4 q hq).1)))
              have HFL := Lib.hid (show (L.take t).flatMap encRec ++ encRec x ++ (L.drop t).flatMap encRec = (insR x L).flatMap encRec from by rw [HIN.out, List.flatMap_append, List.flatMap_cons, List.append_assoc])
              rw [HFL.out] at ho5
              simp only [Nat.add_zero] at ho5
              have HO5 := Lib.hid ho5
              clear ho5 ho4 hg4 hg5 hW1 hW2 HFL hal3 hnews hr3 x0 x1 x2
              go_wp2
              go_roundw
              case rel => exact ⟨g5, C5, t + 1, insR x L, by omega, rfl, by go_num, HO5.out, Lib.hid (by rw [HX.out, insAll_snoc, ← HL.out]), by rw [(insR_perm x L).length_eq, List.length_cons, hLk], hW3.out⟩
              case measure => simp [intOf]; omega
          · have hCt2 : ¬ C - t = 0 := by omega
            have hCt3 : ¬ C = t := by omega
            have hOa := own_below HO.out hbA (Nat.le_refl _)
            have hsA : wo.heap.size < wd.heap.size := by have := hbA.size; omega
            have hRd : Rd encRec 3 wd (some ⟨g, t * 3, none⟩) 0 (C - t) (L.drop t) := ⟨Nat.zero_le _, by omega, by rw [List.length_drop]; omega, (fun hh => by cases hh), fun h => absurd h (Nat.lt_irrefl 0)⟩
            have hBA := hbB.trans (hbA.mono hbB.size)
            have HIN := Lib.hid (show insR x L = L.take t ++ x :: L.drop t from by unfold insR; rw [HT.out])
            have hwA := hb.size
            clear HRL HT
            go_wp2_with (at_builtin; refine app_any rfl _ _ 24 rfl wd.heap.size 41 Try.underlying24 hi hz0 hz1 hz2 rfl (by decide) (some ⟨wd.heap.size, 0, none⟩) 0 0 [] rfl (World.ownsRow_lit wd #[] 0 (Nat.le_refl _) (by unfold maxLen; omega) (by simp)) (some ⟨g, t * 3, none⟩) 0 (C - t) ((L.drop t).flatMap encRec) rfl ?e1 (news_rec (hRd.below ((Below.refl _ _).alloc (Nat.le_refl _) _) (Nat.le_refl _))) (fun ha => by cases ha) (one_rec _) ?e2 ?e3 (by simp) ?_)
            case e1 => rw [len_rec, List.length_drop]; omega
            case e2 => unfold maxLen; omega
            case e3 => omega
            intro A2 C2 w3 ho3 hb3
            have haA := (Below.refl wd.heap.size wd).alloc (Nat.le_refl _) (.cells #[] 41)
            have hB3 := haA.trans hb3
            replace x0 := cell_later hB3 x0
            replace x1 := cell_later hB3 x1
            replace x2 := cell_later hB3 x2
            have hO3 := own_take (own_below hOa hB3 (Nat.le_refl _)) t (by omega)
            rw [take_rec L t (by omega)] at hO3
            have hBw := hBA.trans (hB3.mono hBA.size)
            have hR3 : Rd encRec 3 w3 A2 0 C2 (L.drop t) := Rd.of_own (fun x _ => lenRec x) ho3 (by rw [List.length_drop]; omega)
            have hs3 := hB3.size
            have hlt3 : w.heap.size ≤ w3.heap.size := by omega
            have hal3 := (Below.refl w3.heap.size w3).alloc (Nat.le_refl _) (.cells #[.int .i64 x.a, .int .i64 x.b, .int .i64 x.c] 41)
            have hnews : ∀ (j : Nat) (u : Value), (encRec x)[j]? = some u → (w3.alloc (.cells #[.int .i64 x.a, .int .i64 x.b, .int .i64 x.c] 41)).cell? ((⟨w3.heap.size, 0, none⟩ : Addr).add j) = some u := World.news_of_block (heap_alloc_new w3 (.cells #[.int .i64 x.a, .int .i64 x.b, .int .i64 x.c] 41))
            have hr3 : ∀ q, (Value.slice A2 0 C2).ownBlock = some q → g < q ∧ q < w3.heap.size := fun q hq => by have := World.ownsRow.lt ho3 q hq; omega
            have HR3 := Lib.hid hR3
            have HO3 := Lib.hid hO3
            have htC : t ≤ C := by omega
            clear hOa hRd hBA hO3 hR3 haA ho3
            go_wp2_with fail
            go_region_law (first
              | (refine step_app_any (by rfl) _ _ _ (by rfl) w.heap.size 41 Try.underlying24 hi hz0 hz1 hz2 rfl (by decide) (some ⟨g, 0, none⟩) t C ((L.take t).flatMap encRec) (by rfl) (own_below HO3.out (hal3.drew) (Nat.le_refl _)) (some ⟨w3.heap.size, 0, none⟩) 1 1 (encRec x) (by rfl) (by rfl) (fun ad had => by cases had; exact hnews) (fun ha => by cases ha) (one_enc x) (by unfold maxLen; omega) (by omega) (by simp; omega) ?_; intro A4 C4 w4 ho4 hg4)
              | (refine step_app_any (by rfl) _ _ _ (by rfl) w.heap.size 41 Try.underlying24 hi hz0 hz1 hz2 rfl (by decide) A4 (t + 1) C4 ((L.take t).flatMap encRec ++ encRec x) (by rfl) ho4 A2 0 C2 ((L.drop t).flatMap encRec) (by rfl) (by rw [len_rec, List.length_drop]; omega) (news_rec (rd_keep (HR3.out.below hal3.drew (Nat.le_refl _)) (fun q hq => hg4.block q (by have := (hr3 q hq).2; simp; omega) (by intro e; have h7 := (hr3 q hq).1; cases e; exact Nat.lt_irrefl _ h7)))) (fun ha => HR3.out.none ha) (one_rec _) (by unfold maxLen; omega) (by omega) (by have := hg4.size; simp at this; omega) ?_; intro A5 C5 w5 ho5 hg5))
            all_goals
              obtain ⟨g5, rfl⟩ := own_some ho5 (by omega)
              have hW1 := hBw.trans ((hal3.drew).mono (by omega))
              have hW2 := hW1.trans (below_grown hg4 (B := w.heap.size) (by simp; omega) (fun q hq => by cases hq; exact hgl.1))
              have hW3 := Lib.hid (hW2.trans (below_grown hg5 (B := w.heap.size) hW2.size (fun q hq => (World.ownsRow.lt ho4 q hq).1)))
              have HFL := Lib.hid (show (L.take t).flatMap encRec ++ encRec x ++ (L.drop t).flatMap encRec = (insR x L).flatMap encRec from by rw [HIN.out, List.flatMap_append, List.flatMap_cons, List.append_assoc])
              rw [HFL.out] at ho5
              simp only [Nat.add_zero] at ho5
              have HO5 := Lib.hid ho5
              clear ho5 ho4 hg4 hg5 hW1 hW2 HFL hal3 hnews hr3 x0 x1 x2
              go_wp2
              go_roundw
              case rel => exact ⟨g5, C5, t + 1, insR x L, by omega, rfl, by go_num, HO5.out, Lib.hid (by rw [HX.out, insAll_snoc, ← HL.out]), by rw [(insR_perm x L).length_eq, List.length_cons, hLk], hW3.out⟩
              case measure => simp [intOf]; omega
    · obtain rfl : k = n := by omega
      have HF : Hid (L = sortL xs) := Lib.hid (by rw [HL.out, List.take_of_length_le (by omega), insAll_eq])
      go_wp2
      go_ret
      refine ⟨⟨some ⟨g, 0, none⟩, k, C, sortL xs⟩, rfl, rfl, ⟨OwnS.of (by rw [← HF.out]; exact ho) (by rw [len_sortL]; exact hL) (show k ≤ _ by omega)⟩, hn, hb⟩
theorem sortOne_spec_k (y : Row RecR) (D : List RecR) (hD : datRecS y = D) (w : World) (g : rdRecS w y) (hn : bulkRecS y ≤ 1048576) :
    Calls Try.prog 9 #[.slice y.a y.n y.c] w fun e w' => RetRecs (sortL D) w e w' := by
  subst hD
  exact sortOne_spec _ _ _ _ _ g hn
end Go.Proofs.Ythffmjeodoinlaa
