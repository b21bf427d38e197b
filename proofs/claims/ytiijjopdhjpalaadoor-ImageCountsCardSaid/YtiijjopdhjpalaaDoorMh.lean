/- What image.Right answers. Conditions: none. -/
import Derived.Test.YtiijjopdhjpalaaDoorMg
/-! What the functions of chapter 10 answer: classes of types, the innermost loop. Conditions: none. -/
namespace Go.Proofs.YtiijjopdhjpalaaDoor
open Go
set_option linter.unusedSimpArgs false
set_option linter.unusedVariables false
theorem LI.room_iff (m : AMem) (B n : Nat) (es : List AV) (l : List GT) : LI (m.room n) B es l ↔ LI m B es l :=
  ⟨fun h => ⟨h.len, h.el⟩, fun h => ⟨h.len, h.el⟩⟩
theorem LI.read {m : AMem} {B : Nat} {es : List AV} {l : List GT} (h : LI m B es l) (n : Nat) : rbL (rb m (n + 3)) es = some (l.map GT.av) := by
  obtain ⟨hl, he⟩ := h
  induction es generalizing l with
  | nil =>
    cases l with
    | nil => rfl
    | cons => simp at hl
  | cons e es ih =>
    cases l with
    | nil => simp at hl
    | cons x l =>
      obtain ⟨e', h1, pv, h2, h3⟩ := he 0 (by omega) (by simp only [List.length_cons]; omega)
      simp at h1
      subst h1
      have hx : nth (x :: l) 0 = x := rfl
      rw [hx] at h2 h3
      have hr : rb m (n + 3) e = some (GT.av x) := by
        rw [h2, yrb_agg, yrbL_cons, yrbL_cons, yrbL_cons, h3.read n]
        rfl
      rw [yrbL_cons, hr]
      have := ih (l := l) (by simpa using hl) (fun j h0 h1 => by
        obtain ⟨e2, a, b⟩ := he (j + 1) (by omega) (by simp; omega)
        refine ⟨e2, ?_, ?_⟩
        · rw [show (j + 1).toNat = j.toNat + 1 by omega, List.getElem?_cons_succ] at a
          exact a
        · have e3 : nth (x :: l) (j + 1) = nth l j := by
            unfold nth
            rw [show (j + 1).toNat = j.toNat + 1 by omega]
            rfl
          rw [e3] at b
          exact b)
      rw [opt_bind, this]
      rfl
theorem rb_ints (m : AMem) (n id : Nat) (l : List Int) (h : l ≠ []) (hg : m.get id = some (.arr 3 1 (l.map avI))) : rb m (n + 2) (.sl 1 id 0 l.length) = some (tsl 1 (l.map avI)) :=
  (show PI m (id + 1) (.sl 1 id 0 l.length) l from .inr ⟨h, id, by omega, rfl, hg⟩).read n
theorem rb_table {m : AMem} (n : Nat) {T A L B : Nat} {es : List AV} {all : List GT} {like : List Int} (hne : all ≠ []) (hlen : like.length = all.length)
    (gT : m.get T = some (.arr 77 2 [.agg [.sl 3 A 0 all.length, .sl 1 L 0 all.length]])) (gA : m.get A = some (.arr 43 3 es)) (gL : m.get L = some (.arr 3 1 (like.map avI))) (hA : LI m B es all) :
    rb m (n + 6) (.ptr T 0 0) = some (TT all like) := by
  have hpos : 0 < all.length := by
    cases all with
    | nil => exact absurd rfl hne
    | cons => simp
  have h1 : rb m (n + 4) (.sl 3 A 0 all.length) = some (tsl 3 (all.map GT.av)) := by
    rw [yrb_sl m (n + 3) 3 A 0 all.length hpos, gA, rslK_s _ _ _ _ _ _ _ (by rw [hA.len]; omega), List.drop_zero, List.take_of_length_le (by rw [hA.len]; exact Nat.le_refl _), hA.read n, tsl_ne hne]
    rfl
  have h2 : rb m (n + 4) (.sl 1 L 0 all.length) = some (tsl 1 (like.map avI)) := by
    rw [← hlen]
    refine rb_ints m (n + 2) L like (fun e => ?_) gL
    rw [e] at hlen
    simp at hlen
    omega
  rw [yrb_ptr, gT, rptK_s, List.getElem?_cons_zero, opt_bind, yrb_agg, yrbL_cons, h1, opt_bind, yrbL_cons, h2]
  rfl
theorem LI.readN {m : AMem} {B : Nat} {es : List AV} {l : List GT} (h : LI m B es l) (n : Nat) : rbL (rbN m (n + 3)) es = some (l.map GT.av) := by
  obtain ⟨hl, he⟩ := h
  induction es generalizing l with
  | nil =>
    cases l with
    | nil => rfl
    | cons => simp at hl
  | cons e es ih =>
    cases l with
    | nil => simp at hl
    | cons x l =>
      obtain ⟨e', h1, pv, h2, h3⟩ := he 0 (by omega) (by simp only [List.length_cons]; omega)
      simp at h1
      subst h1
      have hx : nth (x :: l) 0 = x := rfl
      rw [hx] at h2 h3
      have hr : rbN m (n + 3) e = some (GT.av x) := by
        rw [h2, ynb_agg, yrbL_cons, yrbL_cons, yrbL_cons, h3.readN n]
        rfl
      rw [yrbL_cons, hr]
      have := ih (l := l) (by simpa using hl) (fun j h0 h1 => by
        obtain ⟨e2, a, b⟩ := he (j + 1) (by omega) (by simp; omega)
        refine ⟨e2, ?_, ?_⟩
        · rw [show (j + 1).toNat = j.toNat + 1 by omega, List.getElem?_cons_succ] at a
          exact a
        · have e3 : nth (x :: l) (j + 1) = nth l j := by
            unfold nth
            rw [show (j + 1).toNat = j.toNat + 1 by omega]
            rfl
          rw [e3] at b
          exact b)
      rw [opt_bind, this]
      rfl
theorem nb_ints (m : AMem) (n id : Nat) (l : List Int) (h : l ≠ []) (hg : m.get id = some (.arr 3 1 (l.map avI))) : rbN m (n + 2) (.sl 1 id 0 l.length) = some (tsl 1 (l.map avI)) :=
  (show PI m (id + 1) (.sl 1 id 0 l.length) l from .inr ⟨h, id, by omega, rfl, hg⟩).readN n
theorem nb_table {m : AMem} (n : Nat) {T A L B : Nat} {es : List AV} {all : List GT} {like : List Int} (hne : all ≠ []) (hlen : like.length = all.length)
    (gT : m.get T = some (.arr 77 2 [.agg [.sl 3 A 0 all.length, .sl 1 L 0 all.length]])) (gA : m.get A = some (.arr 43 3 es)) (gL : m.get L = some (.arr 3 1 (like.map avI))) (hA : LI m B es all) :
    rbN m (n + 6) (.ptr T 0 0) = some (TT all like) := by
  have hpos : 0 < all.length := by
    cases all with
    | nil => exact absurd rfl hne
    | cons => simp
  have h1 : rbN m (n + 4) (.sl 3 A 0 all.length) = some (tsl 3 (all.map GT.av)) := by
    rw [ynb_sl m (n + 3) 3 A 0 all.length hpos, gA, nslK_s _ _ _ _ _ _ _ (by rw [hA.len]; omega), List.drop_zero, List.take_of_length_le (by rw [hA.len]; exact Nat.le_refl _), hA.readN n, tsl_ne hne]
    rfl
  have h2 : rbN m (n + 4) (.sl 1 L 0 all.length) = some (tsl 1 (like.map avI)) := by
    rw [← hlen]
    refine nb_ints m (n + 2) L like (fun e => ?_) gL
    rw [e] at hlen
    simp at hlen
    omega
  rw [ynb_ptr, gT, nptK_s, List.getElem?_cons_zero, opt_bind, ynb_agg, yrbL_cons, h1, opt_bind, yrbL_cons, h2]
  rfl
theorem sp_goes_q (n : Nat) (q : AMem) (T A L B : Nat) (es : List AV) (all : List GT) (like : List Int) (hne : all ≠ []) (hlen : like.length = all.length) (hin : Inside all) (hm : ∀ x ∈ all, x.parts.length ≤ 1000)
    (gT : q.get T = some (.arr 77 2 [.agg [.sl 3 A 0 all.length, .sl 1 L 0 all.length]])) (gA : q.get A = some (.arr 43 3 es)) (gL : q.get L = some (.arr 3 1 (like.map avI))) (hA : LI q B es all)
    (a b : Int) (a0 : 0 ≤ a) (a1 : a < all.length) (b0 : 0 ≤ b) (b1 : b < all.length) (hp : (nth all a).parts.length = (nth all b).parts.length) :
    callsN cfg (n + 1) 56 [.ptr T 0 0, avI a, avI b] q = some (.ret (.bool (goesB all like a b)), q) := by
  have hb : rbL (rb q RBN) [.ptr T 0 0, avI a, avI b] = some [TT all like, avI a, avI b] := by
    rw [yrbL_cons, show RBN = 6 + 6 from rfl, rb_table 6 hne hlen gT gA gL hA]
    rfl
  have hs : rbL (rb q RBN) [TT all like, avI a, avI b] = some [TT all like, avI a, avI b] := by simp only [go_sem]
  have := sp_goes n all like a b a0 a1 b0 b1 hin hlen hp (hm _ (nth_mem _ _ a0 a1)) q
  rw [ce56] at this ⊢
  rw [borrow_trees _ _ _ (fun t ht => by rw [hb] at ht; cases ht; exact hs), hb]
  exact this
/-- What stands still while the table's classes are sought. -/
structure CS (m : AMem) (T A V1 : Nat) (all : List GT) (es : List AV) (L : Nat) (like : List Int) (w : AMem) : Prop where
  next : m.next ≤ w.next
  v : V1 = m.next
  l1 : m.next < L
  l2 : L < w.next
  lT : T < m.next
  lA : A < m.next
  gV : w.get V1 = some (.arr 52 1 [.ptr T 0 0])
  gT : w.get T = some (.arr 77 2 [.agg [.sl 3 A 0 all.length, .sl 1 L 0 all.length]])
  gA : w.get A = some (.arr 43 3 es)
  gL : w.get L = some (.arr 3 1 (like.map avI))
  old : ∀ id, id < m.next → id ≠ T → w.get id = m.get id
@[go_sem] theorem map_get {α : Type} [Inhabited α] (l : List α) (f : α → AV) (i : Int) (h0 : 0 ≤ i) (h1 : i < l.length) : (l.map f)[i.toNat]? = some (f (nth l i)) := by
  rw [List.getElem?_map, nth_get? l i h0 h1]
  rfl
@[go_sem] theorem map_set_int (l : List Int) (k : Nat) (z : Int) : (l.map avI).set k (.int .i64 z) = (l.set k z).map avI := by
  rw [List.map_set]
theorem nth_set {l : List Int} {i j : Int} {z : Int} (h0 : 0 ≤ i) (h1 : i < l.length) (j0 : 0 ≤ j) : nth (l.set i.toNat z) j = if j = i then z else nth l j := by
  unfold nth
  rw [List.getD_eq_getElem?_getD, List.getD_eq_getElem?_getD, List.getElem?_set]
  by_cases e : j = i
  · subst e
    rw [if_pos rfl, if_pos rfl, if_pos (by omega)]
    rfl
  · rw [if_neg e, if_neg (by omega)]
/-- The place that a type comes to. -/
def stepV (all : List GT) (like : List Int) (i : Int) : Int := match firstK all like i.toNat with
  | some k => nth (stepTo all like i.toNat) k
  | none => i
theorem firstK_at {all : List GT} {like : List Int} {i k : Int} (h0 : 0 ≤ k) (h1 : k < i) (h : ∀ j : Int, 0 ≤ j → j < k → (!(decide (nth like j = nth like i) && goesB all like i j)) = true) (hk : (decide (nth like k = nth like i) && goesB all like i k) = true) : firstK all like i.toNat = some k.toNat := by
  unfold firstK
  rw [List.findIdx?_eq_some_iff_getElem]
  refine ⟨by simp; omega, ?_, fun j hj => ?_⟩
  · simp only [List.getElem_range]
    rw [show ((i.toNat : Nat) : Int) = i by omega, show ((k.toNat : Nat) : Int) = k by omega]
    exact hk
  · simp only [List.getElem_range]
    rw [show ((i.toNat : Nat) : Int) = i by omega]
    have := h j (by omega) (by omega)
    simp only [Bool.not_eq_true'] at this
    rw [this]
    exact fun e => Bool.noConfusion e
theorem firstK_no {all : List GT} {like : List Int} {i : Int} (h : ∀ j : Int, 0 ≤ j → j < i → (!(decide (nth like j = nth like i) && goesB all like i j)) = true) : firstK all like i.toNat = none := by
  unfold firstK
  rw [List.findIdx?_eq_none_iff]
  intro x hx
  have hx := List.mem_range.1 hx
  rw [show ((i.toNat : Nat) : Int) = i by omega]
  have := h x (by omega) (by omega)
  simp only [Bool.not_eq_true'] at this
  exact this
set_option maxHeartbeats 1000000 in
/-- The innermost loop. -/
theorem cls_loop3 (n : Nat) {m : AMem} {T A V1 B : Nat} {all : List GT} {es : List AV} {L : Nat} {like : List Int} (hne : all ≠ []) (hin : Inside all) (hm : ∀ x ∈ all, x.parts.length ≤ 1000) (hN : all.length ≤ 1000) (hB : B ≤ m.next) (hA : LI m B es all) (hc : Can all like)
    (hBT : ∀ ps, m.get T ≠ some (.arr 3 1 ps))
    {X : Nat} {nx : List Int} {i : Int} (i0 : 0 ≤ i) (i1 : i < all.length) (hx : nx.length = all.length) (hpre : ∀ j : Int, 0 ≤ j → j < i → nth nx j = nth (stepTo all like i.toNat) j) (hi : nth nx i = i) (lX : L < X)
    {K : Kont} {Q : AOut → AMem → Prop} {env : AEnv} {w : AMem} (cs : CS m T A V1 all es L like w) (lX2 : X < w.next) (gX : w.get X = some (.arr 3 1 (nx.map avI)))
    (e1 : env 1 = .ptr V1 0 0) (e3 : env 3 = .sl 1 X 0 all.length) (e4 : env 4 = avI i) (e46 : env 46 = avI all.length) (e47 : env 47 = avI i) (e54 : env 54 = avI i) (e55 : env 55 = avI 0)
    (hK : ∀ (env' : AEnv) (w' : AMem) (nx' : List Int), nx'.length = all.length → (∀ j : Int, 0 ≤ j → j < i → nth nx' j = nth (stepTo all like i.toNat) j) → nth nx' i = stepV all like i → CS m T A V1 all es L like w' → X < w'.next → w'.get X = some (.arr 3 1 (nx'.map avI)) →
      env' 1 = .ptr V1 0 0 → env' 3 = .sl 1 X 0 all.length → env' 46 = avI all.length → env' 47 = avI i → Wp (K (.exit 6) env' w') Q) :
    Wp (loopN LOOPK (aCode (callsN cfg (n + 1)) lb31_1) env w K) Q := by
  refine wp_loop (fun (k : Int) (env : AEnv) (w : AMem) => (0 ≤ k ∧ k ≤ i ∧ ∀ j : Int, 0 ≤ j → j < k → (fun j => !(decide (nth like j = nth like i) && goesB all like i j)) j = true) ∧ CS m T A V1 all es L like w ∧ X < w.next ∧ w.get X = some (.arr 3 1 (nx.map avI)) ∧
      env 1 = .ptr V1 0 0 ∧ env 3 = .sl 1 X 0 all.length ∧ env 4 = avI i ∧ env 46 = avI all.length ∧ env 47 = avI i ∧ env 54 = avI i ∧ env 55 = avI k) (fun k => (i - k).toNat)
    (fun k env w K' ⟨⟨k0, k1, hall⟩, cs, lX2, gX, e1, e3, e4, e46, e47, e54, e55⟩ hN hE => ?_) LOOPK 0 _ _ ⟨⟨by omega, by omega, fun j a b => by omega⟩, cs, lX2, gX, e1, e3, e4, e46, e47, e54, e55⟩ (by rw [LOOPK_eq]; omega)
  have hlen := hc.len
  obtain ⟨c1, c2, c3, c4, c5, c6, gV, gT, gA, gL, old⟩ := cs
  have hA' : LI w B es all := hA.frame (Nat.le_refl _) fun id ps hid hg => by
    rw [old id (by omega) (fun e => by subst e; exact hBT _ hg)]
    exact hg
  have hg := fun q (gT : q.get T = some (.arr 77 2 [.agg [.sl 3 A 0 all.length, .sl 1 L 0 all.length]])) (gA : q.get A = some (.arr 43 3 es)) (gL : q.get L = some (.arr 3 1 (like.map avI))) (hA : LI q B es all) (b0 : 0 ≤ k) (b1 : k < all.length) (hp : (nth all i).parts.length = (nth all k).parts.length) =>
    sp_goes_q n q T A L B es all like hne hlen hin hm gT gA gL hA i k i0 i1 b0 b1 hp
  have hp : k < i → nth like k = nth like i → (nth all i).parts.length = (nth all k).parts.length := fun a b => (hc.kind i k i0 i1 k0 (by omega) b.symm).2
  unfold lb31_1
  by_cases hki : k < i
  · by_cases hlk : nth like k = nth like i
    · have hp := hp hki hlk
      repeat' (first | simp -implicitDefEqProofs (disch := first | exact soE | (simp -implicitDefEqProofs (disch := first | exact soE | fail) only [go_sem, ↓reduceIte, Nat.reduceEqDiff, Nat.reduceAdd, Nat.reduceLT, Nat.reduceLeDiff, Nat.reduceBEq, reduceCtorEq, e1, e3, e4, e46, e47, e54, e55, gV, gT, gA, gL, gX, hA', LI.room_iff, hg, hlk, hp]; done) | fail) only [go_sem, ↓reduceIte, Nat.reduceEqDiff, Nat.reduceAdd, Nat.reduceLT, Nat.reduceLeDiff, Nat.reduceBEq, reduceCtorEq, e1, e3, e4, e46, e47, e54, e55, gV, gT, gA, gL, gX, hA', LI.room_iff, hg, hlk, hp] | ((with_reducible first | refine g_dec ?_ ?_ | refine c_dec ?_ ?_ | refine s_dec ?_ ?_ | refine g_ndec ?_ ?_ | refine c_ndec ?_ ?_ | refine g_nbool ?_ ?_ | refine c_nbool ?_ ?_ | refine g_bool ?_ ?_ | refine c_bool ?_ ?_ | refine s_bool ?_ ?_) <;> intro h d <;> (try simp only [d]) <;> (try simp only [B1, B2, B3, B4, B5, B6, B7, B8] at h) <;> (try omega)))
      · have hf := firstK_at (all := all) (like := like) k0 hki hall (by rw [decide_eq_true hlk, Bool.true_and]; assumption)
        have hv : stepV all like i = nth nx k := by
          rw [stepV, hf, hpre k k0 hki]
          show nth _ ((k.toNat : Nat) : Int) = _
          rw [show ((k.toNat : Nat) : Int) = k by omega]
        refine (hE _ _).1 _ (hK _ _ (nx.set i.toNat (nth nx k)) (by simpa using hx) (fun j a b => ?_) ?_ ⟨?_, c2, c3, ?_, c5, c6, ?_, ?_, ?_, ?_, fun id hid hne => ?_⟩ ?_ ?_ ?_ ?_ ?_ ?_)
        · rw [nth_set i0 (by omega) a, if_neg (by omega)]
          exact hpre j a b
        · rw [nth_set i0 (by omega) i0, if_pos rfl, hv]
        all_goals try (simp -implicitDefEqProofs (disch := first | exact soD | fail) only [go_sem, ↓reduceIte, Nat.reduceEqDiff, Nat.reduceAdd, Nat.reduceLT, Nat.reduceLeDiff, Nat.reduceBEq, reduceCtorEq, gV, gT, gA, gL, e1, e3, e4, e46, e47]; done)
        all_goals try (simp -implicitDefEqProofs (disch := first | exact soD | fail) only [go_sem, ↓reduceIte, Nat.reduceEqDiff, Nat.reduceAdd, Nat.reduceLT, Nat.reduceLeDiff, Nat.reduceBEq, reduceCtorEq]; omega)
        · simp -implicitDefEqProofs (disch := first | exact soD | fail) only [go_sem, ↓reduceIte, Nat.reduceEqDiff, Nat.reduceAdd, Nat.reduceLT, Nat.reduceLeDiff, Nat.reduceBEq, reduceCtorEq]
          exact old id hid hne
      · refine hN (k + 1) _ _ ⟨⟨by omega, by omega, allI_step (p := fun j => !(decide (nth like j = nth like i) && goesB all like i j)) hall (by simp only [decide_eq_true hlk, Bool.true_and, Bool.not_eq_true']; assumption)⟩, ⟨?_, c2, c3, ?_, c5, c6, ?_, ?_, ?_, ?_, fun id hid hne => ?_⟩, ?_, ?_, ?_, ?_, ?_, ?_, ?_, ?_, ?_⟩ (by omega)
        all_goals try (simp -implicitDefEqProofs (disch := first | exact soD | fail) only [go_sem, ↓reduceIte, Nat.reduceEqDiff, Nat.reduceAdd, Nat.reduceLT, Nat.reduceLeDiff, Nat.reduceBEq, reduceCtorEq, gV, gT, gA, gL, gX, e1, e3, e4, e46, e47, e54, e55]; done)
        all_goals try (simp -implicitDefEqProofs (disch := first | exact soD | fail) only [go_sem, ↓reduceIte, Nat.reduceEqDiff, Nat.reduceAdd, Nat.reduceLT, Nat.reduceLeDiff, Nat.reduceBEq, reduceCtorEq]; omega)
        · simp -implicitDefEqProofs (disch := first | exact soD | fail) only [go_sem, ↓reduceIte, Nat.reduceEqDiff, Nat.reduceAdd, Nat.reduceLT, Nat.reduceLeDiff, Nat.reduceBEq, reduceCtorEq]
          exact old id hid hne
    · repeat' (first | simp -implicitDefEqProofs (disch := first | exact soE | (simp -implicitDefEqProofs (disch := first | exact soE | fail) only [go_sem, ↓reduceIte, Nat.reduceEqDiff, Nat.reduceAdd, Nat.reduceLT, Nat.reduceLeDiff, Nat.reduceBEq, reduceCtorEq, e1, e3, e4, e46, e47, e54, e55, gV, gT, gA, gL, gX]; done) | fail) only [go_sem, ↓reduceIte, Nat.reduceEqDiff, Nat.reduceAdd, Nat.reduceLT, Nat.reduceLeDiff, Nat.reduceBEq, reduceCtorEq, e1, e3, e4, e46, e47, e54, e55, gV, gT, gA, gL, gX] | ((with_reducible first | refine g_dec ?_ ?_ | refine c_dec ?_ ?_ | refine s_dec ?_ ?_ | refine g_ndec ?_ ?_ | refine c_ndec ?_ ?_ | refine g_nbool ?_ ?_ | refine c_nbool ?_ ?_ | refine g_bool ?_ ?_ | refine c_bool ?_ ?_ | refine s_bool ?_ ?_) <;> intro h d <;> (try simp only [d]) <;> (try simp only [B1, B2, B3, B4, B5, B6, B7, B8] at h) <;> (try omega)))
      refine hN (k + 1) _ _ ⟨⟨by omega, by omega, allI_step (p := fun j => !(decide (nth like j = nth like i) && goesB all like i j)) hall (by simp only [decide_eq_false hlk, Bool.false_and, Bool.not_false])⟩, ⟨?_, c2, c3, ?_, c5, c6, ?_, ?_, ?_, ?_, fun id hid hne => ?_⟩, ?_, ?_, ?_, ?_, ?_, ?_, ?_, ?_, ?_⟩ (by omega)
      all_goals try (simp -implicitDefEqProofs (disch := first | exact soD | fail) only [go_sem, ↓reduceIte, Nat.reduceEqDiff, Nat.reduceAdd, Nat.reduceLT, Nat.reduceLeDiff, Nat.reduceBEq, reduceCtorEq, gV, gT, gA, gL, gX, e1, e3, e4, e46, e47, e54, e55]; done)
      all_goals try (simp -implicitDefEqProofs (disch := first | exact soD | fail) only [go_sem, ↓reduceIte, Nat.reduceEqDiff, Nat.reduceAdd, Nat.reduceLT, Nat.reduceLeDiff, Nat.reduceBEq, reduceCtorEq]; omega)
      · simp -implicitDefEqProofs (disch := first | exact soD | fail) only [go_sem, ↓reduceIte, Nat.reduceEqDiff, Nat.reduceAdd, Nat.reduceLT, Nat.reduceLeDiff, Nat.reduceBEq, reduceCtorEq]
        exact old id hid hne
  · repeat' (first | simp -implicitDefEqProofs (disch := first | exact soE | (simp -implicitDefEqProofs (disch := first | exact soE | fail) only [go_sem, ↓reduceIte, Nat.reduceEqDiff, Nat.reduceAdd, Nat.reduceLT, Nat.reduceLeDiff, Nat.reduceBEq, reduceCtorEq, e1, e3, e4, e46, e47, e54, e55, gV, gT, gA, gL, gX]; done) | fail) only [go_sem, ↓reduceIte, Nat.reduceEqDiff, Nat.reduceAdd, Nat.reduceLT, Nat.reduceLeDiff, Nat.reduceBEq, reduceCtorEq, e1, e3, e4, e46, e47, e54, e55, gV, gT, gA, gL, gX] | ((with_reducible first | refine g_dec ?_ ?_ | refine c_dec ?_ ?_ | refine s_dec ?_ ?_ | refine g_ndec ?_ ?_ | refine c_ndec ?_ ?_ | refine g_nbool ?_ ?_ | refine c_nbool ?_ ?_ | refine g_bool ?_ ?_ | refine c_bool ?_ ?_ | refine s_bool ?_ ?_) <;> intro h d <;> (try simp only [d]) <;> (try simp only [B1, B2, B3, B4, B5, B6, B7, B8] at h) <;> (try omega)))
    have hf := firstK_no (all := all) (like := like) (i := i) fun j a b => hall j a (by omega)
    have hv : stepV all like i = i := by rw [stepV, hf]
    refine (hE _ _).1 _ (hK _ _ nx hx hpre (hi.trans hv.symm) ⟨?_, c2, c3, ?_, c5, c6, ?_, ?_, ?_, ?_, fun id hid hne => ?_⟩ ?_ ?_ ?_ ?_ ?_ ?_)
    all_goals try (simp -implicitDefEqProofs (disch := first | exact soD | fail) only [go_sem, ↓reduceIte, Nat.reduceEqDiff, Nat.reduceAdd, Nat.reduceLT, Nat.reduceLeDiff, Nat.reduceBEq, reduceCtorEq, gV, gT, gA, gL, gX, e1, e3, e4, e46, e47]; done)
    all_goals try (simp -implicitDefEqProofs (disch := first | exact soD | fail) only [go_sem, ↓reduceIte, Nat.reduceEqDiff, Nat.reduceAdd, Nat.reduceLT, Nat.reduceLeDiff, Nat.reduceBEq, reduceCtorEq]; omega)
    · simp -implicitDefEqProofs (disch := first | exact soD | fail) only [go_sem, ↓reduceIte, Nat.reduceEqDiff, Nat.reduceAdd, Nat.reduceLT, Nat.reduceLeDiff, Nat.reduceBEq, reduceCtorEq]
      exact old id hid hne
end Go.Proofs.YtiijjopdhjpalaaDoor

/-! What the functions of chapter 10 answer: classes of types, the other loops. Conditions: none. -/
namespace Go.Proofs.YtiijjopdhjpalaaDoor
open Go
set_option linter.unusedSimpArgs false
set_option linter.unusedVariables false
theorem stepTo_more {all : List GT} {like : List Int} {i j : Int} (i0 : 0 ≤ i) (j0 : 0 ≤ j) : (j < i → nth (stepTo all like (i + 1).toNat) j = nth (stepTo all like i.toNat) j) ∧ (j = i → nth (stepTo all like (i + 1).toNat) j = stepV all like i) := by
  rw [show (i + 1).toNat = i.toNat + 1 by omega, stepTo_succ]
  have hl := stepTo_length all like i.toNat
  refine ⟨fun h => nth_app1 j0 (by omega), fun h => ?_⟩
  subst h
  rw [nth_app2 (by omega), hl, show j - ((j.toNat : Nat) : Int) = 0 by omega]
  show (match firstK all like j.toNat with | some k => _ | none => _) = stepV all like j
  unfold stepV
  cases firstK all like j.toNat with
  | none => show ((j.toNat : Nat) : Int) = j; omega
  | some k => rfl
theorem CS.room {m : AMem} {T A V1 : Nat} {all : List GT} {es : List AV} {L : Nat} {like : List Int} {w : AMem} (h : CS m T A V1 all es L like w) (n : Nat) : CS m T A V1 all es L like (w.room n) :=
  ⟨Nat.le_trans h.next (Nat.le_add_right _ _), h.v, h.l1, Nat.lt_of_lt_of_le h.l2 (Nat.le_add_right _ _), h.lT, h.lA, h.gV, h.gT, h.gA, h.gL, h.old⟩
set_option maxHeartbeats 1000000 in
/-- The middle loop. -/
theorem cls_loop2 (n : Nat) {m : AMem} {T A V1 B : Nat} {all : List GT} {es : List AV} {L : Nat} {like : List Int} (hne : all ≠ []) (hin : Inside all) (hm : ∀ x ∈ all, x.parts.length ≤ 1000) (hN : all.length ≤ 1000) (hB : B ≤ m.next) (hA : LI m B es all) (hc : Can all like)
    (hBT : ∀ ps, m.get T ≠ some (.arr 3 1 ps))
    {X : Nat} {nx : List Int} (hx : nx.length = all.length) (lX : L < X)
    {K : Kont} {Q : AOut → AMem → Prop} {env : AEnv} {w : AMem} (cs : CS m T A V1 all es L like w) (lX2 : X < w.next) (gX : w.get X = some (.arr 3 1 (nx.map avI)))
    (e1 : env 1 = .ptr V1 0 0) (e3 : env 3 = .sl 1 X 0 all.length) (e46 : env 46 = avI all.length) (e47 : env 47 = avI 0)
    (hK : ∀ (env' : AEnv) (w' : AMem), CS m T A V1 all es L like w' → X < w'.next → w'.get X = some (.arr 3 1 ((stepL all like).map avI)) →
      env' 1 = .ptr V1 0 0 → env' 3 = .sl 1 X 0 all.length → Wp (K (.exit 4) env' w') Q) :
    Wp (loopN LOOPK (aCode (callsN cfg (n + 1)) lb31_2) env w K) Q := by
  refine wp_loop (fun (s : Int × List Int) (env : AEnv) (w : AMem) => (0 ≤ s.1 ∧ s.1 ≤ all.length ∧ s.2.length = all.length ∧ ∀ j : Int, 0 ≤ j → j < s.1 → nth s.2 j = nth (stepTo all like s.1.toNat) j) ∧ CS m T A V1 all es L like w ∧ X < w.next ∧ w.get X = some (.arr 3 1 (s.2.map avI)) ∧
      env 1 = .ptr V1 0 0 ∧ env 3 = .sl 1 X 0 all.length ∧ env 46 = avI all.length ∧ env 47 = avI s.1) (fun s => (all.length - s.1).toNat)
    (fun s env w K' ⟨⟨i0, i1, hx, hpre⟩, cs, lX2, gX, e1, e3, e46, e47⟩ hN' hE => ?_) LOOPK (0, nx) _ _ ⟨⟨by omega, by show (0 : Int) ≤ _; omega, hx, fun j a b => by have : j < 0 := b; omega⟩, cs, lX2, gX, e1, e3, e46, e47⟩ (by rw [LOOPK_eq]; show ((all.length : Int) - 0).toNat < _; omega)
  obtain ⟨i, nx⟩ := s
  simp only at i0 i1 hx hpre gX e47 hN'
  obtain ⟨c1, c2, c3, c4, c5, c6, gV, gT, gA, gL, old⟩ := cs
  unfold lb31_2
  by_cases hi : i < all.length
  · repeat' (first | simp -implicitDefEqProofs (disch := first | exact soD | fail) only [go_sem, ↓reduceIte, Nat.reduceEqDiff, Nat.reduceAdd, Nat.reduceLT, Nat.reduceLeDiff, Nat.reduceBEq, reduceCtorEq, e1, e3, e46, e47, gV, gT, gA, gL, gX] | ((with_reducible first | refine g_dec ?_ ?_ | refine c_dec ?_ ?_ | refine s_dec ?_ ?_ | refine g_ndec ?_ ?_ | refine c_ndec ?_ ?_ | refine g_nbool ?_ ?_ | refine c_nbool ?_ ?_ | refine g_bool ?_ ?_ | refine c_bool ?_ ?_ | refine s_bool ?_ ?_) <;> intro h d <;> (try simp only [d]) <;> (try simp only [B1, B2, B3, B4, B5, B6, B7, B8] at h) <;> (try omega)))
    refine cls_loop3 n hne hin hm hN hB hA hc hBT (X := X) (nx := nx.set i.toNat i) (i := i) i0 hi (by simpa using hx) (fun j a b => ?_) ?_ lX ⟨?_, c2, c3, ?_, c5, c6, ?_, ?_, ?_, ?_, fun id hid hne => ?_⟩ ?_ ?_ ?_ ?_ ?_ ?_ ?_ ?_ ?_ (fun env' w' nx' hx' hp' hv' cs' lX' gX' e1' e3' e46' e47' => ?_)
    · rw [nth_set i0 (by omega) a, if_neg (by omega)]
      exact hpre j a b
    · rw [nth_set i0 (by omega) i0, if_pos rfl]
    all_goals try (simp -implicitDefEqProofs (disch := first | exact soD | fail) only [go_sem, ↓reduceIte, Nat.reduceEqDiff, Nat.reduceAdd, Nat.reduceLT, Nat.reduceLeDiff, Nat.reduceBEq, reduceCtorEq, gV, gT, gA, gL, gX, e1, e3, e46, e47]; done)
    all_goals try (simp -implicitDefEqProofs (disch := first | exact soD | fail) only [go_sem, ↓reduceIte, Nat.reduceEqDiff, Nat.reduceAdd, Nat.reduceLT, Nat.reduceLeDiff, Nat.reduceBEq, reduceCtorEq]; omega)
    · simp -implicitDefEqProofs (disch := first | exact soD | fail) only [go_sem, ↓reduceIte, Nat.reduceEqDiff, Nat.reduceAdd, Nat.reduceLT, Nat.reduceLeDiff, Nat.reduceBEq, reduceCtorEq]
      exact old id hid hne
    · repeat' (first | simp -implicitDefEqProofs (disch := first | exact soD | fail) only [go_sem, ↓reduceIte, Nat.reduceEqDiff, Nat.reduceAdd, Nat.reduceLT, Nat.reduceLeDiff, Nat.reduceBEq, reduceCtorEq] | ((with_reducible first | refine g_dec ?_ ?_ | refine c_dec ?_ ?_ | refine s_dec ?_ ?_ | refine g_ndec ?_ ?_ | refine c_ndec ?_ ?_ | refine g_nbool ?_ ?_ | refine c_nbool ?_ ?_ | refine g_bool ?_ ?_ | refine c_bool ?_ ?_ | refine s_bool ?_ ?_) <;> intro h d <;> (try simp only [d]) <;> (try simp only [B1, B2, B3, B4, B5, B6, B7, B8] at h) <;> (try omega)))
      unfold ls31_0
      repeat' (first | simp -implicitDefEqProofs (disch := first | exact soD | fail) only [go_sem, ↓reduceIte, Nat.reduceEqDiff, Nat.reduceAdd, Nat.reduceLT, Nat.reduceLeDiff, Nat.reduceBEq, reduceCtorEq, e47'] | ((with_reducible first | refine g_dec ?_ ?_ | refine c_dec ?_ ?_ | refine s_dec ?_ ?_ | refine g_ndec ?_ ?_ | refine c_ndec ?_ ?_ | refine g_nbool ?_ ?_ | refine c_nbool ?_ ?_ | refine g_bool ?_ ?_ | refine c_bool ?_ ?_ | refine s_bool ?_ ?_) <;> intro h d <;> (try simp only [d]) <;> (try simp only [B1, B2, B3, B4, B5, B6, B7, B8] at h) <;> (try omega)))
      refine hN' (i + 1, nx') _ _ ⟨⟨by show (0 : Int) ≤ i + 1; omega, by show i + 1 ≤ (all.length : Int); omega, hx', fun j a b => ?_⟩, cs'.room _, Nat.lt_of_lt_of_le lX' (Nat.le_add_right _ _), gX', ?_, ?_, ?_, ?_⟩ (by show ((all.length : Int) - (i + 1)).toNat < ((all.length : Int) - i).toNat; omega)
      all_goals try (simp -implicitDefEqProofs (disch := first | exact soD | fail) only [go_sem, ↓reduceIte, Nat.reduceEqDiff, Nat.reduceAdd, Nat.reduceLT, Nat.reduceLeDiff, Nat.reduceBEq, reduceCtorEq, e1', e3', e46', e47']; done)
      · show nth nx' j = nth (stepTo all like (i + 1).toNat) j
        have b : j < i + 1 := b
        obtain ⟨s1, s2⟩ := stepTo_more (all := all) (like := like) i0 a
        by_cases e : j = i
        · rw [s2 e, e, hv']
        · rw [s1 (by omega), hp' j a (by omega)]
  · repeat' (first | simp -implicitDefEqProofs (disch := first | exact soD | fail) only [go_sem, ↓reduceIte, Nat.reduceEqDiff, Nat.reduceAdd, Nat.reduceLT, Nat.reduceLeDiff, Nat.reduceBEq, reduceCtorEq, e1, e3, e46, e47, gV, gT, gA, gL, gX] | ((with_reducible first | refine g_dec ?_ ?_ | refine c_dec ?_ ?_ | refine s_dec ?_ ?_ | refine g_ndec ?_ ?_ | refine c_ndec ?_ ?_ | refine g_nbool ?_ ?_ | refine c_nbool ?_ ?_ | refine g_bool ?_ ?_ | refine c_bool ?_ ?_ | refine s_bool ?_ ?_) <;> intro h d <;> (try simp only [d]) <;> (try simp only [B1, B2, B3, B4, B5, B6, B7, B8] at h) <;> (try omega)))
    have hfin : nx = stepL all like := list_eq (by rw [hx, stepL, stepTo_length]) fun j a b => by
      rw [hpre j a (by omega), stepL, show i.toNat = all.length by omega]
    rw [hfin] at gX
    refine (hE _ _).1 _ (hK _ _ ⟨?_, c2, c3, ?_, c5, c6, ?_, ?_, ?_, ?_, fun id hid hne => ?_⟩ ?_ ?_ ?_ ?_)
    all_goals try (simp -implicitDefEqProofs (disch := first | exact soD | fail) only [go_sem, ↓reduceIte, Nat.reduceEqDiff, Nat.reduceAdd, Nat.reduceLT, Nat.reduceLeDiff, Nat.reduceBEq, reduceCtorEq, gV, gT, gA, gL, gX, e1, e3]; done)
    all_goals try (simp -implicitDefEqProofs (disch := first | exact soD | fail) only [go_sem, ↓reduceIte, Nat.reduceEqDiff, Nat.reduceAdd, Nat.reduceLT, Nat.reduceLeDiff, Nat.reduceBEq, reduceCtorEq]; omega)
    · simp -implicitDefEqProofs (disch := first | exact soD | fail) only [go_sem, ↓reduceIte, Nat.reduceEqDiff, Nat.reduceAdd, Nat.reduceLT, Nat.reduceLeDiff, Nat.reduceBEq, reduceCtorEq]
      exact old id hid hne
end Go.Proofs.YtiijjopdhjpalaaDoor

/-! What the functions of chapter 10 answer: classes of types, whole. Conditions: none. -/
namespace Go.Proofs.YtiijjopdhjpalaaDoor
open Go
set_option linter.unusedSimpArgs false
set_option linter.unusedVariables false
@[go_sem] theorem y_rep_int (n : Nat) : List.replicate n (AV.int .i64 0) = (List.replicate n (0 : Int)).map avI := by rw [List.map_replicate]
theorem sp_Equal_q (n : Nat) (q : AMem) (X L N : Nat) (x y : List Int) (hx : x.length = N) (hy : y.length = N) (h0 : 0 < N) (hN : N ≤ 1000) (gX : q.get X = some (.arr 3 1 (x.map avI))) (gL : q.get L = some (.arr 3 1 (y.map avI))) :
    callsN cfg (n + 1) 57 [.sl 1 X 0 N, .sl 1 L 0 N] q = some (.ret (.bool (decide (x = y))), q) := by
  have ex : x ≠ [] := by rintro rfl; simp at hx; omega
  have ey : y ≠ [] := by rintro rfl; simp at hy; omega
  have hb : rbL (rb q RBN) [.sl 1 X 0 N, .sl 1 L 0 N] = some [tsl 1 (x.map avI), tsl 1 (y.map avI)] := by
    have h1 := rb_ints q 10 X x ex gX
    have h2 := rb_ints q 10 L y ey gL
    rw [hx] at h1
    rw [hy] at h2
    rw [yrbL_cons, yrbL_cons]
    simp only [RBN_eq]
    rw [h1, h2]
    rfl
  have hs : rbL (rb q RBN) [tsl 1 (x.map avI), tsl 1 (y.map avI)] = some [tsl 1 (x.map avI), tsl 1 (y.map avI)] := by simp only [go_sem]
  have := sp_Equal n x y (by omega) q
  rw [ce57] at this ⊢
  rw [borrow_trees _ _ _ (fun t ht => by rw [hb] at ht; cases ht; exact hs), hb]
  exact this
/-- The classes after so many partings. -/
def itL (all : List GT) : Nat → List Int
  | 0 => initL all
  | r + 1 => stepL all (itL all r)
theorem itL_can (all : List GT) : ∀ r, Can all (itL all r)
  | 0 => init_can all
  | r + 1 => stepL_can (itL_can all r)
set_option maxHeartbeats 1000000 in
theorem cls_loop (n : Nat) {m : AMem} {T A V1 B : Nat} {all : List GT} {es : List AV} {L : Nat} {r : Nat} (hne : all ≠ []) (hin : Inside all) (hm : ∀ x ∈ all, x.parts.length ≤ 1000) (hN : all.length ≤ 1000) (hB : B ≤ m.next) (hA : LI m B es all)
    (hBT : ∀ ps, m.get T ≠ some (.arr 3 1 ps))
    {K : Kont} {Q : AOut → AMem → Prop} {env : AEnv} {w : AMem} (cs : CS m T A V1 all es L (itL all r) w) (e1 : env 1 = .ptr V1 0 0)
    (hK : ∀ (env' : AEnv) (w' : AMem) (L' r' : Nat), CS m T A V1 all es L' (itL all r') w' → stepL all (itL all r') = itL all r' → Wp (K .ret env' w') Q) :
    Wp (loopN LOOPK (aCode (callsN cfg (n + 1)) lb31_3) env w K) Q := by
  have hpos : 0 < all.length := by
    cases all with
    | nil => exact absurd rfl hne
    | cons => simp
  refine wp_loop (fun (s : Nat × Nat) (env : AEnv) (w : AMem) => CS m T A V1 all es s.1 (itL all s.2) w ∧ env 1 = .ptr V1 0 0) (fun s => all.length - fixC (itL all s.2) all.length)
    (fun s env w K' ⟨cs, e1⟩ hN' hE => ?_) LOOPK (L, r) _ _ ⟨cs, e1⟩ (by rw [LOOPK_eq]; show all.length - _ < _; omega)
  obtain ⟨L, r⟩ := s
  simp only at cs hN'
  have hc := itL_can all r
  have hlen := hc.len
  have hslen := (stepL_can hc).len
  have cs0 := cs
  obtain ⟨c1, c2, c3, c4, c5, c6, gV, gT, gA, gL, old⟩ := cs
  unfold lb31_3
  repeat' (first | simp -implicitDefEqProofs (disch := first | exact soD | fail) only [go_sem, ↓reduceIte, Nat.reduceEqDiff, Nat.reduceAdd, Nat.reduceLT, Nat.reduceLeDiff, Nat.reduceBEq, reduceCtorEq, e1, gV, gT, gA, gL] | ((with_reducible first | refine g_dec ?_ ?_ | refine c_dec ?_ ?_ | refine s_dec ?_ ?_ | refine g_ndec ?_ ?_ | refine c_ndec ?_ ?_ | refine g_nbool ?_ ?_ | refine c_nbool ?_ ?_ | refine g_bool ?_ ?_ | refine c_bool ?_ ?_ | refine s_bool ?_ ?_) <;> intro h d <;> (try simp only [d]) <;> (try simp only [B1, B2, B3, B4, B5, B6, B7, B8] at h) <;> (try omega)))
  refine cls_loop2 n hne hin hm hN hB hA hc hBT (X := w.next + 5) (nx := List.replicate all.length 0) (by simp) (by omega) ⟨?_, c2, c3, ?_, c5, c6, ?_, ?_, ?_, ?_, fun id hid hne => ?_⟩ ?_ ?_ ?_ ?_ ?_ ?_ (fun env' w' cs' lX' gX' e1' e3' => ?_)
  all_goals try (simp -implicitDefEqProofs (disch := first | exact soD | fail) only [go_sem, ↓reduceIte, Nat.reduceEqDiff, Nat.reduceAdd, Nat.reduceLT, Nat.reduceLeDiff, Nat.reduceBEq, reduceCtorEq, gV, gT, gA, gL, e1]; done)
  all_goals try (simp -implicitDefEqProofs (disch := first | exact soD | fail) only [go_sem, ↓reduceIte, Nat.reduceEqDiff, Nat.reduceAdd, Nat.reduceLT, Nat.reduceLeDiff, Nat.reduceBEq, reduceCtorEq]; omega)
  · simp -implicitDefEqProofs (disch := first | exact soD | fail) only [go_sem, ↓reduceIte, Nat.reduceEqDiff, Nat.reduceAdd, Nat.reduceLT, Nat.reduceLeDiff, Nat.reduceBEq, reduceCtorEq]
    exact old id hid hne
  · have hq := fun q gX gL => sp_Equal_q n q (w.next + 5) L all.length (stepL all (itL all r)) (itL all r) hslen hlen hpos hN gX gL
    obtain ⟨d1, d2, d3, d4, d5, d6, hV, hT, hA', hL, old'⟩ := cs'
    unfold ls31_1
    repeat' (first | simp -implicitDefEqProofs (disch := first | exact soE | (simp -implicitDefEqProofs (disch := first | exact soE | fail) only [go_sem, ↓reduceIte, Nat.reduceEqDiff, Nat.reduceAdd, Nat.reduceLT, Nat.reduceLeDiff, Nat.reduceBEq, reduceCtorEq, e1', e3', hV, hT, hA', hL, gX', hq]; done) | fail) only [go_sem, ↓reduceIte, Nat.reduceEqDiff, Nat.reduceAdd, Nat.reduceLT, Nat.reduceLeDiff, Nat.reduceBEq, reduceCtorEq, e1', e3', hV, hT, hA', hL, gX', hq] | ((with_reducible first | refine g_dec ?_ ?_ | refine c_dec ?_ ?_ | refine s_dec ?_ ?_ | refine g_ndec ?_ ?_ | refine c_ndec ?_ ?_ | refine g_nbool ?_ ?_ | refine c_nbool ?_ ?_ | refine g_bool ?_ ?_ | refine c_bool ?_ ?_ | refine s_bool ?_ ?_) <;> intro h d <;> (try simp only [d]) <;> (try simp only [B1, B2, B3, B4, B5, B6, B7, B8] at h) <;> (try omega)))
    · refine (hE _ _).2.1 (hK _ _ L r ⟨?_, d2, d3, ?_, d5, d6, ?_, ?_, ?_, ?_, fun id hid hne => ?_⟩ (by assumption))
      all_goals try (simp -implicitDefEqProofs (disch := first | exact soD | fail) only [go_sem, ↓reduceIte, Nat.reduceEqDiff, Nat.reduceAdd, Nat.reduceLT, Nat.reduceLeDiff, Nat.reduceBEq, reduceCtorEq, hV, hT, hA', hL]; done)
      all_goals try (simp -implicitDefEqProofs (disch := first | exact soD | fail) only [go_sem, ↓reduceIte, Nat.reduceEqDiff, Nat.reduceAdd, Nat.reduceLT, Nat.reduceLeDiff, Nat.reduceBEq, reduceCtorEq]; omega)
      · simp -implicitDefEqProofs (disch := first | exact soD | fail) only [go_sem, ↓reduceIte, Nat.reduceEqDiff, Nat.reduceAdd, Nat.reduceLT, Nat.reduceLeDiff, Nat.reduceBEq, reduceCtorEq]
        exact old' id hid hne
    · have hmore := step_more hc (by assumption)
      have hle := fixC_le (stepL all (itL all r)) all.length
      have hAT : A ≠ T := by
        rintro rfl
        rw [gA] at gT
        simp at gT
      have csn : CS m T A V1 all es (w.next + 5) (itL all (r + 1)) (((w'.room 6).room 5).put T (.arr 77 2 [.agg [.sl 3 A 0 all.length, .sl 1 (w.next + 5) 0 all.length]])) := by
        refine ⟨?_, d2, by omega, ?_, d5, d6, ?_, ?_, ?_, ?_, fun id hid hne => ?_⟩
        all_goals try (simp -implicitDefEqProofs (disch := first | exact soD | fail) only [go_sem, ↓reduceIte, Nat.reduceEqDiff, Nat.reduceAdd, Nat.reduceLT, Nat.reduceLeDiff, Nat.reduceBEq, reduceCtorEq, hV, hT, hA', hL, gX']; done)
        all_goals try (simp -implicitDefEqProofs (disch := first | exact soD | fail) only [go_sem, ↓reduceIte, Nat.reduceEqDiff, Nat.reduceAdd, Nat.reduceLT, Nat.reduceLeDiff, Nat.reduceBEq, reduceCtorEq]; omega)
        · simp -implicitDefEqProofs (disch := first | exact soD | fail) only [go_sem, ↓reduceIte, Nat.reduceEqDiff, Nat.reduceAdd, Nat.reduceLT, Nat.reduceLeDiff, Nat.reduceBEq, reduceCtorEq, gX']
          rfl
        · simp -implicitDefEqProofs (disch := first | exact soD | fail) only [go_sem, ↓reduceIte, Nat.reduceEqDiff, Nat.reduceAdd, Nat.reduceLT, Nat.reduceLeDiff, Nat.reduceBEq, reduceCtorEq]
          exact old' id hid hne
      exact hN' (w.next + 5, r + 1) _ _ ⟨csn, by simp -implicitDefEqProofs (disch := first | exact soD | fail) only [go_sem, ↓reduceIte, Nat.reduceEqDiff, Nat.reduceAdd, Nat.reduceLT, Nat.reduceLeDiff, Nat.reduceBEq, reduceCtorEq, e1']⟩ (by show all.length - fixC (stepL all (itL all r)) all.length < all.length - fixC (itL all r) all.length; omega)
end Go.Proofs.YtiijjopdhjpalaaDoor

/-! What the functions of chapter 10 answer: classes of types, the call. Conditions: none. -/
namespace Go.Proofs.YtiijjopdhjpalaaDoor
open Go
set_option linter.unusedSimpArgs false
set_option linter.unusedVariables false
set_option maxHeartbeats 2000000 in
theorem sp_classes (n : Nat) {m : AMem} {T A B : Nat} {all : List GT} {es : List AV} {lk : AV} (hne : all ≠ []) (hin : Inside all) (hm : ∀ x ∈ all, x.parts.length ≤ 1000) (hN : all.length ≤ 1000) (hB : B ≤ m.next) (hA : LI m B es all)
    (lT : T < m.next) (lA : A < m.next) (hlk : lk.isAgg = false) (gT : m.get T = some (.arr 77 2 [.agg [.sl 3 A 0 all.length, lk]])) (gA : m.get A = some (.arr 43 3 es)) :
    ∃ m' L r, callsN cfg (n + 4) 31 [.ptr T 0 0] m = some (.ret (.tup []), m') ∧ CS m T A m.next all es L (itL all r) m' ∧ stepL all (itL all r) = itL all r := by
  rw [ce31]
  have hAT : A ≠ T := by
    rintro rfl
    rw [gA] at gT
    simp at gT
  have hBT : ∀ ps, m.get T ≠ some (.arr 3 1 ps) := fun ps e => by rw [gT] at e; simp at e
  have key : Wp (aBody (callsN cfg (n + 3)) cf31 [.ptr T 0 0] m) fun o m' => o = .ret (.tup []) ∧ ∃ L r, CS m T A m.next all es L (itL all r) m' ∧ stepL all (itL all r) = itL all r := by
    unfold aBody cf31
    repeat' (first | simp -implicitDefEqProofs (disch := first | exact soD | fail) only [go_sem, ↓reduceIte, Nat.reduceEqDiff, Nat.reduceAdd, Nat.reduceLT, Nat.reduceLeDiff, Nat.reduceBEq, reduceCtorEq, gT, gA] | ((with_reducible first | refine g_dec ?_ ?_ | refine c_dec ?_ ?_ | refine s_dec ?_ ?_ | refine g_ndec ?_ ?_ | refine c_ndec ?_ ?_ | refine g_nbool ?_ ?_ | refine c_nbool ?_ ?_ | refine g_bool ?_ ?_ | refine c_bool ?_ ?_ | refine s_bool ?_ ?_) <;> intro h d <;> (try simp only [d]) <;> (try simp only [B1, B2, B3, B4, B5, B6, B7, B8] at h) <;> (try omega)))
    refine wp_loop (fun (s : Int × List Int) (env : AEnv) (w : AMem) => (0 ≤ s.1 ∧ s.1 ≤ all.length ∧ s.2.length = all.length ∧ ∀ j : Int, 0 ≤ j → j < s.1 → nth s.2 j = nth (initL all) j) ∧ CS m T A m.next all es (m.next + 1 + 6) s.2 w ∧ env 1 = .ptr m.next 0 0 ∧ env 19 = avI all.length ∧ env 20 = avI s.1) (fun s => (all.length - s.1).toNat)
      (fun s env w K' ⟨⟨i0, i1, hx, hpre⟩, cs, e1, e19, e20⟩ hN' hE => ?_) LOOPK (0, List.replicate all.length 0) _ _ ⟨⟨by show (0 : Int) ≤ 0; omega, by show (0 : Int) ≤ _; omega, by simp, fun j a b => by have : j < 0 := b; omega⟩, ⟨?_, rfl, ?_, ?_, lT, lA, ?_, ?_, ?_, ?_, fun id hid hne => ?_⟩, ?_, ?_, ?_⟩ (by rw [LOOPK_eq]; show ((all.length : Int) - 0).toNat < _; omega)
    · obtain ⟨i, Y⟩ := s
      simp only at i0 i1 hx hpre cs e20 hN'
      have cs0 := cs
      obtain ⟨c1, c2, c3, c4, c5, c6, gV', gT', gA', gL', old⟩ := cs
      unfold lb31_0
      by_cases hi : i < all.length
      · obtain ⟨r0, f1, f2, f3, f4⟩ := init_nth i0 hi
        have hI : ∀ q : AMem, ∃ q' : AMem, (w.next + 1 + 1 < q.next ∧ q.get m.next = some (.arr 52 1 [.ptr T 0 0]) ∧ q.get (w.next + 1 + 1) = some (.arr 3 1 [avI i]) ∧ q.get T = some (.arr 77 2 [.agg [.sl 3 A 0 all.length, .sl 1 (m.next + 1 + 6) 0 all.length]]) ∧ q.get A = some (.arr 43 3 es) ∧ (∀ id, id < m.next → id ≠ T → q.get id = m.get id)) →
            callsN cfg (n + 3) 54 [.sl 3 A 0 all.length, .fn (.func 55) [] [.ptr m.next 0 0, .ptr (w.next + 1 + 1) 0 0]] q = some (.ret (avI r0), q') ∧ q.next ≤ q'.next ∧ ∀ id, id < q.next → q'.get id = q.get id := by
          intro q
          by_cases h : w.next + 1 + 1 < q.next ∧ q.get m.next = some (.arr 52 1 [.ptr T 0 0]) ∧ q.get (w.next + 1 + 1) = some (.arr 3 1 [avI i]) ∧ q.get T = some (.arr 77 2 [.agg [.sl 3 A 0 all.length, .sl 1 (m.next + 1 + 6) 0 all.length]]) ∧ q.get A = some (.arr 43 3 es) ∧ (∀ id, id < m.next → id ≠ T → q.get id = m.get id)
          · obtain ⟨h1, h2, h3, h4, h5, h6⟩ := h
            have hA' : LI q B es all := hA.frame (Nat.le_refl _) fun id ps hid hg => by
              rw [h6 id (by omega) (fun e => by subst e; exact hBT _ hg)]
              exact hg
            obtain ⟨q', r, g1, g2, g3, g4⟩ := sp_IndexFunc (n + 1) q m.next (w.next + 1 + 1) T A B _ _ _ _ _ es all i i0 hi hN hA' (by omega) h2 h3 h4 h5 (by omega) h1 (by omega) (by omega) rfl
            have e : r = r0 := Option.some.inj (g1.symm.trans f1)
            rw [e] at g2
            exact ⟨q', fun _ => ⟨g2, g3, g4⟩⟩
          · exact ⟨q, fun a => absurd a h⟩
        obtain ⟨q', hq⟩ := hI (((((w.room 1).room 3).put (w.next + 1 + 1) (.arr 3 1 [avI 0])).put (w.next + 1 + 1) (.arr 3 1 [avI i])).room 13)
        obtain ⟨q1, q2, q3⟩ := hq ⟨by first | (simp -implicitDefEqProofs (disch := first | exact soD | fail) only [go_sem, ↓reduceIte, Nat.reduceEqDiff, Nat.reduceAdd, Nat.reduceLT, Nat.reduceLeDiff, Nat.reduceBEq, reduceCtorEq]; done) | (simp -implicitDefEqProofs (disch := first | exact soD | fail) only [go_sem, ↓reduceIte, Nat.reduceEqDiff, Nat.reduceAdd, Nat.reduceLT, Nat.reduceLeDiff, Nat.reduceBEq, reduceCtorEq]; omega), by simp -implicitDefEqProofs (disch := first | exact soD | fail) only [go_sem, ↓reduceIte, Nat.reduceEqDiff, Nat.reduceAdd, Nat.reduceLT, Nat.reduceLeDiff, Nat.reduceBEq, reduceCtorEq, gV'], sxA, by simp -implicitDefEqProofs (disch := first | exact soD | fail) only [go_sem, ↓reduceIte, Nat.reduceEqDiff, Nat.reduceAdd, Nat.reduceLT, Nat.reduceLeDiff, Nat.reduceBEq, reduceCtorEq, gT'], by simp -implicitDefEqProofs (disch := first | exact soD | fail) only [go_sem, ↓reduceIte, Nat.reduceEqDiff, Nat.reduceAdd, Nat.reduceLT, Nat.reduceLeDiff, Nat.reduceBEq, reduceCtorEq, gA'], fun id hid hne => by simp -implicitDefEqProofs (disch := first | exact soD | fail) only [go_sem, ↓reduceIte, Nat.reduceEqDiff, Nat.reduceAdd, Nat.reduceLT, Nat.reduceLeDiff, Nat.reduceBEq, reduceCtorEq]; exact old id hid hne⟩
        have k1 : q'.get m.next = some (.arr 52 1 [.ptr T 0 0]) := (q3 _ (by first | (simp -implicitDefEqProofs (disch := first | exact soD | fail) only [go_sem, ↓reduceIte, Nat.reduceEqDiff, Nat.reduceAdd, Nat.reduceLT, Nat.reduceLeDiff, Nat.reduceBEq, reduceCtorEq]; done) | (simp -implicitDefEqProofs (disch := first | exact soD | fail) only [go_sem, ↓reduceIte, Nat.reduceEqDiff, Nat.reduceAdd, Nat.reduceLT, Nat.reduceLeDiff, Nat.reduceBEq, reduceCtorEq]; omega))).trans (by simp -implicitDefEqProofs (disch := first | exact soD | fail) only [go_sem, ↓reduceIte, Nat.reduceEqDiff, Nat.reduceAdd, Nat.reduceLT, Nat.reduceLeDiff, Nat.reduceBEq, reduceCtorEq, gV'])
        have k2 : q'.get (w.next + 1 + 1) = some (.arr 3 1 [avI i]) := (q3 _ (by first | (simp -implicitDefEqProofs (disch := first | exact soD | fail) only [go_sem, ↓reduceIte, Nat.reduceEqDiff, Nat.reduceAdd, Nat.reduceLT, Nat.reduceLeDiff, Nat.reduceBEq, reduceCtorEq]; done) | (simp -implicitDefEqProofs (disch := first | exact soD | fail) only [go_sem, ↓reduceIte, Nat.reduceEqDiff, Nat.reduceAdd, Nat.reduceLT, Nat.reduceLeDiff, Nat.reduceBEq, reduceCtorEq]; omega))).trans sxA
        have k3 : q'.get T = some (.arr 77 2 [.agg [.sl 3 A 0 all.length, .sl 1 (m.next + 1 + 6) 0 all.length]]) := (q3 _ (by first | (simp -implicitDefEqProofs (disch := first | exact soD | fail) only [go_sem, ↓reduceIte, Nat.reduceEqDiff, Nat.reduceAdd, Nat.reduceLT, Nat.reduceLeDiff, Nat.reduceBEq, reduceCtorEq]; done) | (simp -implicitDefEqProofs (disch := first | exact soD | fail) only [go_sem, ↓reduceIte, Nat.reduceEqDiff, Nat.reduceAdd, Nat.reduceLT, Nat.reduceLeDiff, Nat.reduceBEq, reduceCtorEq]; omega))).trans (by simp -implicitDefEqProofs (disch := first | exact soD | fail) only [go_sem, ↓reduceIte, Nat.reduceEqDiff, Nat.reduceAdd, Nat.reduceLT, Nat.reduceLeDiff, Nat.reduceBEq, reduceCtorEq, gT'])
        have k4 : q'.get A = some (.arr 43 3 es) := (q3 _ (by first | (simp -implicitDefEqProofs (disch := first | exact soD | fail) only [go_sem, ↓reduceIte, Nat.reduceEqDiff, Nat.reduceAdd, Nat.reduceLT, Nat.reduceLeDiff, Nat.reduceBEq, reduceCtorEq]; done) | (simp -implicitDefEqProofs (disch := first | exact soD | fail) only [go_sem, ↓reduceIte, Nat.reduceEqDiff, Nat.reduceAdd, Nat.reduceLT, Nat.reduceLeDiff, Nat.reduceBEq, reduceCtorEq]; omega))).trans (by simp -implicitDefEqProofs (disch := first | exact soD | fail) only [go_sem, ↓reduceIte, Nat.reduceEqDiff, Nat.reduceAdd, Nat.reduceLT, Nat.reduceLeDiff, Nat.reduceBEq, reduceCtorEq, gA'])
        have k5 : q'.get (m.next + 1 + 6) = some (.arr 3 1 (Y.map avI)) := (q3 _ (by first | (simp -implicitDefEqProofs (disch := first | exact soD | fail) only [go_sem, ↓reduceIte, Nat.reduceEqDiff, Nat.reduceAdd, Nat.reduceLT, Nat.reduceLeDiff, Nat.reduceBEq, reduceCtorEq]; done) | (simp -implicitDefEqProofs (disch := first | exact soD | fail) only [go_sem, ↓reduceIte, Nat.reduceEqDiff, Nat.reduceAdd, Nat.reduceLT, Nat.reduceLeDiff, Nat.reduceBEq, reduceCtorEq]; omega))).trans (by simp -implicitDefEqProofs (disch := first | exact soD | fail) only [go_sem, ↓reduceIte, Nat.reduceEqDiff, Nat.reduceAdd, Nat.reduceLT, Nat.reduceLeDiff, Nat.reduceBEq, reduceCtorEq, gL'])
        have k6 : ∀ id, id < m.next → id ≠ T → q'.get id = m.get id := fun id hid hne => (q3 _ (by first | (simp -implicitDefEqProofs (disch := first | exact soD | fail) only [go_sem, ↓reduceIte, Nat.reduceEqDiff, Nat.reduceAdd, Nat.reduceLT, Nat.reduceLeDiff, Nat.reduceBEq, reduceCtorEq]; done) | (simp -implicitDefEqProofs (disch := first | exact soD | fail) only [go_sem, ↓reduceIte, Nat.reduceEqDiff, Nat.reduceAdd, Nat.reduceLT, Nat.reduceLeDiff, Nat.reduceBEq, reduceCtorEq]; omega))).trans (by simp -implicitDefEqProofs (disch := first | exact soD | fail) only [go_sem, ↓reduceIte, Nat.reduceEqDiff, Nat.reduceAdd, Nat.reduceLT, Nat.reduceLeDiff, Nat.reduceBEq, reduceCtorEq]; exact old id hid hne)
        have k7 : w.next + 4 ≤ q'.next := by
          have := q2
          simp only [room_next, put_next] at this
          omega
        repeat' (first | simp -implicitDefEqProofs (disch := first | exact soD | fail) only [go_sem, ↓reduceIte, Nat.reduceEqDiff, Nat.reduceAdd, Nat.reduceLT, Nat.reduceLeDiff, Nat.reduceBEq, reduceCtorEq, e1, e19, e20, gV', gT', gA', gL', q1, k1, k2, k3, k4, k5] | ((with_reducible first | refine g_dec ?_ ?_ | refine c_dec ?_ ?_ | refine s_dec ?_ ?_ | refine g_ndec ?_ ?_ | refine c_ndec ?_ ?_ | refine g_nbool ?_ ?_ | refine c_nbool ?_ ?_ | refine g_bool ?_ ?_ | refine c_bool ?_ ?_ | refine s_bool ?_ ?_) <;> intro h d <;> (try simp only [d]) <;> (try simp only [B1, B2, B3, B4, B5, B6, B7, B8] at h) <;> (try omega)))
        have csn : CS m T A m.next all es (m.next + 1 + 6) (Y.set i.toNat r0) ((q'.put (m.next + 1 + 6) (.arr 3 1 ((Y.set i.toNat r0).map avI))).room 2) := by
          refine ⟨?_, rfl, c3, ?_, c5, c6, ?_, ?_, ?_, ?_, fun id hid hne => ?_⟩
          all_goals try (simp -implicitDefEqProofs (disch := first | exact soD | fail) only [go_sem, ↓reduceIte, Nat.reduceEqDiff, Nat.reduceAdd, Nat.reduceLT, Nat.reduceLeDiff, Nat.reduceBEq, reduceCtorEq, k1, k3, k4]; done)
          all_goals try (simp -implicitDefEqProofs (disch := first | exact soD | fail) only [go_sem, ↓reduceIte, Nat.reduceEqDiff, Nat.reduceAdd, Nat.reduceLT, Nat.reduceLeDiff, Nat.reduceBEq, reduceCtorEq]; omega)
          · simp -implicitDefEqProofs (disch := first | exact soD | fail) only [go_sem, ↓reduceIte, Nat.reduceEqDiff, Nat.reduceAdd, Nat.reduceLT, Nat.reduceLeDiff, Nat.reduceBEq, reduceCtorEq]
            exact k6 id hid hne
        refine hN' (i + 1, Y.set i.toNat r0) _ _ ⟨⟨by show (0 : Int) ≤ i + 1; omega, by show i + 1 ≤ (all.length : Int); omega, by simpa using hx, fun j a b => ?_⟩, csn, ?_, ?_, ?_⟩ (by show ((all.length : Int) - (i + 1)).toNat < ((all.length : Int) - i).toNat; omega)
        · show nth (Y.set i.toNat (r0 : Int)) j = nth (initL all) j
          have b : j < i + 1 := b
          rw [nth_set i0 (by omega) a]
          by_cases e : j = i
          · rw [if_pos e, e, f2]
          · rw [if_neg e]
            exact hpre j a (by omega)
        all_goals (simp -implicitDefEqProofs (disch := first | exact soD | fail) only [go_sem, ↓reduceIte, Nat.reduceEqDiff, Nat.reduceAdd, Nat.reduceLT, Nat.reduceLeDiff, Nat.reduceBEq, reduceCtorEq, e1, e19, e20]; done)
      · repeat' (first | simp -implicitDefEqProofs (disch := first | exact soD | fail) only [go_sem, ↓reduceIte, Nat.reduceEqDiff, Nat.reduceAdd, Nat.reduceLT, Nat.reduceLeDiff, Nat.reduceBEq, reduceCtorEq, e1, e19, e20, gV', gT', gA', gL'] | ((with_reducible first | refine g_dec ?_ ?_ | refine c_dec ?_ ?_ | refine s_dec ?_ ?_ | refine g_ndec ?_ ?_ | refine c_ndec ?_ ?_ | refine g_nbool ?_ ?_ | refine c_nbool ?_ ?_ | refine g_bool ?_ ?_ | refine c_bool ?_ ?_ | refine s_bool ?_ ?_) <;> intro h d <;> (try simp only [d]) <;> (try simp only [B1, B2, B3, B4, B5, B6, B7, B8] at h) <;> (try omega)))
        have hfin : Y = itL all 0 := list_eq (by rw [hx]; exact (init_can all).len.symm) fun j a b => hpre j a (by omega)
        rw [hfin] at cs0
        refine (hE _ _).1 _ ?_
        repeat' (first | simp -implicitDefEqProofs (disch := first | exact soD | fail) only [go_sem, ↓reduceIte, Nat.reduceEqDiff, Nat.reduceAdd, Nat.reduceLT, Nat.reduceLeDiff, Nat.reduceBEq, reduceCtorEq] | ((with_reducible first | refine g_dec ?_ ?_ | refine c_dec ?_ ?_ | refine s_dec ?_ ?_ | refine g_ndec ?_ ?_ | refine c_ndec ?_ ?_ | refine g_nbool ?_ ?_ | refine c_nbool ?_ ?_ | refine g_bool ?_ ?_ | refine c_bool ?_ ?_ | refine s_bool ?_ ?_) <;> intro h d <;> (try simp only [d]) <;> (try simp only [B1, B2, B3, B4, B5, B6, B7, B8] at h) <;> (try omega)))
        unfold ls31_2
        repeat' (first | simp -implicitDefEqProofs (disch := first | exact soD | fail) only [go_sem, ↓reduceIte, Nat.reduceEqDiff, Nat.reduceAdd, Nat.reduceLT, Nat.reduceLeDiff, Nat.reduceBEq, reduceCtorEq] | ((with_reducible first | refine g_dec ?_ ?_ | refine c_dec ?_ ?_ | refine s_dec ?_ ?_ | refine g_ndec ?_ ?_ | refine c_ndec ?_ ?_ | refine g_nbool ?_ ?_ | refine c_nbool ?_ ?_ | refine g_bool ?_ ?_ | refine c_bool ?_ ?_ | refine s_bool ?_ ?_) <;> intro h d <;> (try simp only [d]) <;> (try simp only [B1, B2, B3, B4, B5, B6, B7, B8] at h) <;> (try omega)))
        refine cls_loop (n + 2) hne hin hm hN hB hA hBT (cs0.room 1) (by simp -implicitDefEqProofs (disch := first | exact soD | fail) only [go_sem, ↓reduceIte, Nat.reduceEqDiff, Nat.reduceAdd, Nat.reduceLT, Nat.reduceLeDiff, Nat.reduceBEq, reduceCtorEq, e1]) (fun env' w' L' r' cs' hst => ?_)
        repeat' (first | simp -implicitDefEqProofs (disch := first | exact soD | fail) only [go_sem, ↓reduceIte, Nat.reduceEqDiff, Nat.reduceAdd, Nat.reduceLT, Nat.reduceLeDiff, Nat.reduceBEq, reduceCtorEq] | ((with_reducible first | refine g_dec ?_ ?_ | refine c_dec ?_ ?_ | refine s_dec ?_ ?_ | refine g_ndec ?_ ?_ | refine c_ndec ?_ ?_ | refine g_nbool ?_ ?_ | refine c_nbool ?_ ?_ | refine g_bool ?_ ?_ | refine c_bool ?_ ?_ | refine s_bool ?_ ?_) <;> intro h d <;> (try simp only [d]) <;> (try simp only [B1, B2, B3, B4, B5, B6, B7, B8] at h) <;> (try omega)))
        exact ⟨L', r', cs', hst⟩
    all_goals try (simp -implicitDefEqProofs (disch := first | exact soD | fail) only [go_sem, ↓reduceIte, Nat.reduceEqDiff, Nat.reduceAdd, Nat.reduceLT, Nat.reduceLeDiff, Nat.reduceBEq, reduceCtorEq, gT, gA]; done)
    all_goals try (simp -implicitDefEqProofs (disch := first | exact soD | fail) only [go_sem, ↓reduceIte, Nat.reduceEqDiff, Nat.reduceAdd, Nat.reduceLT, Nat.reduceLeDiff, Nat.reduceBEq, reduceCtorEq]; omega)
    all_goals try omega
  obtain ⟨o, m', h1, rfl, L, r, h2, h3⟩ := key
  exact ⟨m', L, r, h1, h2, h3⟩
end Go.Proofs.YtiijjopdhjpalaaDoor

/-! What the functions of chapter 10 answer: the table of types. Conditions: none. -/
namespace Go.Proofs.YtiijjopdhjpalaaDoor
open Go
set_option linter.unusedSimpArgs false
set_option linter.unusedVariables false
/-- A program's types, numbers and truths ahead. -/
def T0 (l : List GT) : List GT := [⟨0, [], 0⟩, ⟨1, [], 0⟩] ++ l
theorem wr_ok {l : List GT} {x : GT} (h : wrT l x = 0) : 2 ≤ x.kind ∧ x.kind ≤ 5 ∧ x.parts.length ≤ 12 ∧ x.parts.all (there l) = true ∧ there l x.of = true ∧ (x.kind ≠ 2 ∧ x.kind ≠ 4 → x.parts = []) := by
  unfold wrT wr at h
  split at h
  · cases h
  · rename_i h1
    split at h
    · cases h
    · rename_i h2
      split at h
      · cases h
      · rename_i h3
        split at h
        · cases h
        · rename_i h4
          have hp : x.parts.length ≤ 12 ∧ (x.kind ≠ 2 ∧ x.kind ≠ 4 → x.parts.length = 0) := by omega
          have hall : x.parts.all (there l) = true := by simpa using h4
          refine ⟨by omega, by omega, hp.1, hall, ?_, fun a => List.eq_nil_of_length_eq_zero (hp.2 a)⟩
          by_cases k5 : x.kind = 5
          · rw [if_pos k5] at h
            by_cases ho : object l x.of = true
            · exact object_there ho
            · rw [if_neg ho] at h; cases h
          · rw [if_neg k5] at h
            by_cases k2 : x.kind = 2
            · rw [if_pos k2] at h
              by_cases ho : x.of = 0
              · rw [ho]
                simp only [there, decide_eq_true_eq]
                omega
              · rw [decide_eq_false ho] at h; cases h
            · rw [if_neg k2] at h
              by_cases ho : there l x.of = true
              · exact ho
              · rw [if_neg ho] at h; cases h
theorem tr_ok {l : List GT} (h : (tr l).2 = 0) : l.length ≤ 60 ∧ ∀ x ∈ l, wrT l x = 0 := by
  unfold tr at h
  split at h
  · cases h
  · refine ⟨by omega, fun x hx => ?_⟩
    cases hf : l.findIdx? (fun x => decide (wrT l x ≠ 0)) with
    | none =>
      rw [List.findIdx?_eq_none_iff] at hf
      simpa using hf x hx
    | some i =>
      rw [hf] at h
      rw [List.findIdx?_eq_some_iff_getElem] at hf
      obtain ⟨a, b, _⟩ := hf
      have hg := nth_get? l (i : Int) (by omega) (by omega)
      rw [Int.toNat_natCast, List.getElem?_eq_getElem a] at hg
      have h : wrT l (nth l (i : Int)) = 0 := h
      rw [← Option.some.inj hg] at h
      simp [h] at b
theorem T0_inside {l : List GT} (h : (tr l).2 = 0) : Inside (T0 l) ∧ (∀ x ∈ T0 l, x.parts.length ≤ 12) ∧ (T0 l).length ≤ 62 := by
  obtain ⟨h1, h2⟩ := tr_ok h
  have hl : (T0 l).length = l.length + 2 := by simp [T0]
  refine ⟨fun x hx => ?_, fun x hx => ?_, by omega⟩
  · simp only [T0, List.cons_append, List.nil_append, List.mem_cons] at hx
    rcases hx with rfl | rfl | hx
    · simp only [List.not_mem_nil, false_implies, implies_true, true_and]
      omega
    · simp only [List.not_mem_nil, false_implies, implies_true, true_and]
      omega
    · obtain ⟨_, _, _, a, b, _⟩ := wr_ok (h2 x hx)
      simp only [there, decide_eq_true_eq] at b
      rw [List.all_eq_true] at a
      refine ⟨fun p hp => ?_, by omega, by omega⟩
      have := a p hp
      simp only [there, decide_eq_true_eq] at this
      omega
  · simp only [T0, List.cons_append, List.nil_append, List.mem_cons] at hx
    rcases hx with rfl | rfl | hx
    · simp
    · simp
    · exact (wr_ok (h2 x hx)).2.2.1
theorem LI.snoc {m : AMem} {B : Nat} {es : List AV} {l : List GT} {e : AV} {x : GT} (h : LI m B es l) (he : EI m B e x) : LI m B (es ++ [e]) (l ++ [x]) where
  len := by simp [h.len]
  el := fun j h0 h1 => by
    by_cases hj : j < l.length
    · obtain ⟨e', a, b⟩ := h.el j h0 hj
      refine ⟨e', ?_, by rw [nth_app1 h0 hj]; exact b⟩
      rw [List.getElem?_append_left (by rw [h.len]; omega)]
      exact a
    · simp at h1
      have e1 : j = l.length := by omega
      subst e1
      refine ⟨e, ?_, by rw [nth_app2 (Int.le_refl _), Int.sub_self]; exact he⟩
      rw [List.getElem?_append_right (by rw [h.len]; omega), h.len]
      simp
theorem take_step {α : Type} [Inhabited α] {l : List α} {i : Int} (h0 : 0 ≤ i) (h1 : i < l.length) : l.take (i + 1).toNat = l.take i.toNat ++ [nth l i] := by
  rw [show (i + 1).toNat = i.toNat + 1 by omega, List.take_add_one, nth_get? l i h0 h1]
  rfl
theorem news_get {m : AMem} {n id : Nat} : (m.news n).get id = if n ≤ id then m.get id else none := rfl
theorem LI.of_news {m : AMem} {n B : Nat} {es : List AV} {l : List GT} (h : LI (m.news n) B es l) : LI m B es l :=
  h.frame (Nat.le_refl _) fun id ps hid hg => by
    rw [news_get] at hg
    split at hg
    · exact hg
    · cases hg
set_option maxHeartbeats 2000000 in
theorem new_run (n : Nat) (l : List GT) (hw : ∀ x ∈ l, x.wf) (m : AMem) (ht : (tr l).2 = 0) :
    Wp (aBody (callsN cfg (n + 5)) cf17 [tsl 3 (l.map GT.av)] m) fun o m' => ∃ T A L r es, o = .ret (.tup [.ptr T 0 0, avI 0]) ∧ m.next ≤ m'.next ∧ (∀ id, id < m.next → m'.get id = m.get id) ∧ m.next ≤ T ∧ m.next ≤ A ∧ m.next ≤ L ∧
      m'.get T = some (.arr 77 2 [.agg [.sl 3 A 0 (T0 l).length, .sl 1 L 0 (T0 l).length]]) ∧ m'.get A = some (.arr 43 3 es) ∧ m'.get L = some (.arr 3 1 ((itL (T0 l) r).map avI)) ∧ LI (m'.news m.next) m'.next es (T0 l) ∧ stepL (T0 l) (itL (T0 l) r) = itL (T0 l) r := by
  have hR := fun m => sp_Right (n + 1) l m hw
  obtain ⟨h60, hok⟩ := tr_ok ht
  obtain ⟨hin, h12, h62⟩ := T0_inside ht
  unfold aBody cf17
  repeat' (first | simp -implicitDefEqProofs (disch := first | exact soD | fail) only [go_sem, ↓reduceIte, Nat.reduceEqDiff, Nat.reduceAdd, Nat.reduceLT, Nat.reduceLeDiff, Nat.reduceBEq, reduceCtorEq, hR, ht] | ((with_reducible first | refine g_dec ?_ ?_ | refine c_dec ?_ ?_ | refine s_dec ?_ ?_ | refine g_ndec ?_ ?_ | refine c_ndec ?_ ?_ | refine g_nbool ?_ ?_ | refine c_nbool ?_ ?_ | refine g_bool ?_ ?_ | refine c_bool ?_ ?_ | refine s_bool ?_ ?_) <;> intro h d <;> (try simp only [d]) <;> (try simp only [B1, B2, B3, B4, B5, B6, B7, B8] at h) <;> (try omega)))
  refine wp_loop (fun (s : Int × Nat × List AV) (env : AEnv) (w : AMem) => (0 ≤ s.1 ∧ s.1 ≤ l.length ∧ s.2.2.length = s.1.toNat + 2) ∧ (m.next + 2 + 7 + 2 + 5 ≤ w.next ∧ m.next ≤ s.2.1 ∧ s.2.1 < w.next ∧ s.2.1 ≠ m.next + 2 + 7 + 2 + 4) ∧ (∀ id, id < m.next → w.get id = m.get id) ∧
      w.get (m.next + 2 + 7 + 2 + 4) = some (.arr 77 2 [.agg [.sl 3 s.2.1 0 s.2.2.length, .nils]]) ∧ w.get s.2.1 = some (.arr 43 3 s.2.2) ∧ LI (w.news m.next) w.next s.2.2 ([⟨0, [], 0⟩, ⟨1, [], 0⟩] ++ l.take s.1.toNat) ∧
      env 6 = .ptr (m.next + 2 + 7 + 2 + 4) 0 0 ∧ env 22 = tsl 3 (l.map GT.av) ∧ env 23 = avI l.length ∧ env 24 = avI s.1) (fun s => (l.length - s.1).toNat)
    (fun s env w K' ⟨⟨i0, i1, hx⟩, ⟨c1, c2, c3, c4⟩, old, gT, gA, hL, e6, e22, e23, e24⟩ hN' hE => ?_) LOOPK (0, m.next + 2 + 7 + 2 + 2, [.agg [avI 0, .nils, avI 0], .agg [avI 1, .nils, avI 0]]) _ _ ⟨⟨by show (0 : Int) ≤ 0; omega, by show (0 : Int) ≤ _; omega, rfl⟩, ⟨?_, ?_, ?_, ?_⟩, fun id hid => ?_, ?_, ?_, ?_, ?_, ?_, ?_, ?_⟩ (by rw [LOOPK_eq]; show ((l.length : Int) - 0).toNat < _; omega)
  · obtain ⟨i, A, es⟩ := s
    simp only at i0 i1 hx c2 c3 c4 gT gA hL e24 hN'
    unfold lb17_0
    by_cases hi : i < l.length
    · have hxm := nth_mem l i i0 hi
      obtain ⟨_, _, p12, _, _, _⟩ := wr_ok (hok _ hxm)
      obtain ⟨v, q', g1, g2, g3, g4⟩ := sp_Clone (n + 4) (nth l i).parts (by omega) (((((w.room 1).room 4).put (w.next + 1 + 2) (.arr 43 3 [.agg [avI 0, .nils, avI 0]])).put (w.next + 1 + 2) (.arr 43 3 [(nth l i).av])).room 5)
      have ho : v.one = true ∧ v.isAgg = false ∧ v.cells = [v] ∧ fits false 1 v = true := by
        rcases g4 with ⟨_, rfl⟩ | ⟨_, id, rfl, _⟩ <;> exact ⟨rfl, rfl, rfl, rfl⟩
      obtain ⟨o1, o2, o3, o4⟩ := ho
      have hk : w.next + 10 ≤ q'.next := by
        have := g2
        simp only [room_next, put_next] at this
        omega
      have k1 : q'.get (w.next + 1 + 2) = some (.arr 43 3 [(nth l i).av]) := (g3 _ (by first | (simp -implicitDefEqProofs (disch := first | exact soD | fail) only [go_sem, ↓reduceIte, Nat.reduceEqDiff, Nat.reduceAdd, Nat.reduceLT, Nat.reduceLeDiff, Nat.reduceBEq, reduceCtorEq]; done) | (simp -implicitDefEqProofs (disch := first | exact soD | fail) only [go_sem, ↓reduceIte, Nat.reduceEqDiff, Nat.reduceAdd, Nat.reduceLT, Nat.reduceLeDiff, Nat.reduceBEq, reduceCtorEq]; omega))).trans sxA
      have k2 : q'.get (m.next + 2 + 7 + 2 + 4) = some (.arr 77 2 [.agg [.sl 3 A 0 es.length, .nils]]) := (g3 _ (by first | (simp -implicitDefEqProofs (disch := first | exact soD | fail) only [go_sem, ↓reduceIte, Nat.reduceEqDiff, Nat.reduceAdd, Nat.reduceLT, Nat.reduceLeDiff, Nat.reduceBEq, reduceCtorEq]; done) | (simp -implicitDefEqProofs (disch := first | exact soD | fail) only [go_sem, ↓reduceIte, Nat.reduceEqDiff, Nat.reduceAdd, Nat.reduceLT, Nat.reduceLeDiff, Nat.reduceBEq, reduceCtorEq]; omega))).trans (by simp -implicitDefEqProofs (disch := first | exact soD | fail) only [go_sem, ↓reduceIte, Nat.reduceEqDiff, Nat.reduceAdd, Nat.reduceLT, Nat.reduceLeDiff, Nat.reduceBEq, reduceCtorEq, gT])
      have k3 : q'.get A = some (.arr 43 3 es) := (g3 _ (by first | (simp -implicitDefEqProofs (disch := first | exact soD | fail) only [go_sem, ↓reduceIte, Nat.reduceEqDiff, Nat.reduceAdd, Nat.reduceLT, Nat.reduceLeDiff, Nat.reduceBEq, reduceCtorEq]; done) | (simp -implicitDefEqProofs (disch := first | exact soD | fail) only [go_sem, ↓reduceIte, Nat.reduceEqDiff, Nat.reduceAdd, Nat.reduceLT, Nat.reduceLeDiff, Nat.reduceBEq, reduceCtorEq]; omega))).trans (by simp -implicitDefEqProofs (disch := first | exact soD | fail) only [go_sem, ↓reduceIte, Nat.reduceEqDiff, Nat.reduceAdd, Nat.reduceLT, Nat.reduceLeDiff, Nat.reduceBEq, reduceCtorEq, gA])
      repeat' (first | simp -implicitDefEqProofs (disch := first | exact soD | fail) only [go_sem, ↓reduceIte, Nat.reduceEqDiff, Nat.reduceAdd, Nat.reduceLT, Nat.reduceLeDiff, Nat.reduceBEq, reduceCtorEq, e6, e22, e23, e24, gT, gA, g1, o1, o2, o3, o4, k1, k2, k3, List.take_length] | ((with_reducible first | refine g_dec ?_ ?_ | refine c_dec ?_ ?_ | refine s_dec ?_ ?_ | refine g_ndec ?_ ?_ | refine c_ndec ?_ ?_ | refine g_nbool ?_ ?_ | refine c_nbool ?_ ?_ | refine g_bool ?_ ?_ | refine c_bool ?_ ?_ | refine s_bool ?_ ?_) <;> intro h d <;> (try simp only [d]) <;> (try simp only [B1, B2, B3, B4, B5, B6, B7, B8] at h) <;> (try omega)))
      have hq : ∀ id, id < w.next → q'.get id = w.get id := fun id hid => (g3 _ (by first | (simp -implicitDefEqProofs (disch := first | exact soD | fail) only [go_sem, ↓reduceIte, Nat.reduceEqDiff, Nat.reduceAdd, Nat.reduceLT, Nat.reduceLeDiff, Nat.reduceBEq, reduceCtorEq]; done) | (simp -implicitDefEqProofs (disch := first | exact soD | fail) only [go_sem, ↓reduceIte, Nat.reduceEqDiff, Nat.reduceAdd, Nat.reduceLT, Nat.reduceLeDiff, Nat.reduceBEq, reduceCtorEq]; omega))).trans sxA
      have w2 : ∀ id, id ≠ w.next + 1 + 2 → id ≠ A → id ≠ m.next + 2 + 7 + 2 + 4 → id < q'.next →
        (((((((q'.put (w.next + 1 + 2) (.arr 43 3 [.agg [avI (nth l i).kind, v, avI (nth l i).of]])).room 11).put (q'.next + 6) (.arr 43 3 [.agg [avI (nth l i).kind, v, avI (nth l i).of]])).kill A).put
          (q'.next + 7) (.arr 43 3 (es ++ [.agg [avI (nth l i).kind, v, avI (nth l i).of]]))).put (m.next + 2 + 7 + 2 + 4) (.arr 77 2 [.agg [.sl 3 (q'.next + 7) 0 (es.length + 1), .nils]])).room 2).get id = q'.get id := fun id a b c d => by simp -implicitDefEqProofs (disch := first | exact soD | fail) only [go_sem, ↓reduceIte, Nat.reduceEqDiff, Nat.reduceAdd, Nat.reduceLT, Nat.reduceLeDiff, Nat.reduceBEq, reduceCtorEq]
      have hfr : ∀ id ps, id < w.next → (w.news m.next).get id = some (.arr 3 1 ps) → ((((((((q'.put (w.next + 1 + 2) (.arr 43 3 [.agg [avI (nth l i).kind, v, avI (nth l i).of]])).room 11).put (q'.next + 6) (.arr 43 3 [.agg [avI (nth l i).kind, v, avI (nth l i).of]])).kill A).put
          (q'.next + 7) (.arr 43 3 (es ++ [.agg [avI (nth l i).kind, v, avI (nth l i).of]]))).put (m.next + 2 + 7 + 2 + 4) (.arr 77 2 [.agg [.sl 3 (q'.next + 7) 0 (es.length + 1), .nils]])).room 2).news m.next).get id = some (.arr 3 1 ps) := fun id ps hid hg => by
        rw [news_get] at hg ⊢
        split at hg
        · rename_i hle
          rw [if_pos hle, w2 id (by omega) (fun e => by subst e; rw [gA] at hg; simp at hg) (fun e => by subst e; rw [gT] at hg; simp at hg) (by omega), hq id hid]
          exact hg
        · cases hg
      have hE1 : EI ((((((((q'.put (w.next + 1 + 2) (.arr 43 3 [.agg [avI (nth l i).kind, v, avI (nth l i).of]])).room 11).put (q'.next + 6) (.arr 43 3 [.agg [avI (nth l i).kind, v, avI (nth l i).of]])).kill A).put
          (q'.next + 7) (.arr 43 3 (es ++ [.agg [avI (nth l i).kind, v, avI (nth l i).of]]))).put (m.next + 2 + 7 + 2 + 4) (.arr 77 2 [.agg [.sl 3 (q'.next + 7) 0 (es.length + 1), .nils]])).room 2).news m.next) (q'.next + 11 + 2) (.agg [avI (nth l i).kind, v, avI (nth l i).of]) (nth l i) := by
        refine ⟨v, rfl, ?_⟩
        rcases g4 with ⟨e, rfl⟩ | ⟨e, id, rfl, b1, b2, b3⟩
        · exact .inl ⟨e, .inr rfl⟩
        · simp only [room_next, put_next] at b1
          refine .inr ⟨e, id, by omega, rfl, ?_⟩
          rw [news_get, if_pos (by omega), w2 id (by omega) (by omega) (by omega) b2]
          exact b3
      refine hN' (i + 1, q'.next + 7, es ++ [.agg [avI (nth l i).kind, v, avI (nth l i).of]]) _ _ ⟨⟨by show (0 : Int) ≤ i + 1; omega, by show i + 1 ≤ (l.length : Int); omega, ?_⟩, ⟨?_, ?_, ?_, ?_⟩, fun id hid => ?_, ?_, ?_, ?_, ?_, ?_, ?_, ?_⟩ (by show ((l.length : Int) - (i + 1)).toNat < ((l.length : Int) - i).toNat; omega)
      · show (es ++ [_]).length = (i + 1).toNat + 2
        rw [List.length_append, hx]
        simp only [List.length_cons, List.length_nil]
        omega
      all_goals try (simp -implicitDefEqProofs (disch := first | exact soD | fail) only [go_sem, ↓reduceIte, Nat.reduceEqDiff, Nat.reduceAdd, Nat.reduceLT, Nat.reduceLeDiff, Nat.reduceBEq, reduceCtorEq, e6, e22, e23, e24, List.length_append]; done)
      all_goals try (simp -implicitDefEqProofs (disch := first | exact soD | fail) only [go_sem, ↓reduceIte, Nat.reduceEqDiff, Nat.reduceAdd, Nat.reduceLT, Nat.reduceLeDiff, Nat.reduceBEq, reduceCtorEq]; omega)
      · rw [w2 id (by omega) (by omega) (by omega) (by omega), hq id (by omega)]
        exact old id hid
      · show LI _ _ (es ++ [.agg [avI (nth l i).kind, v, avI (nth l i).of]]) ([⟨0, [], 0⟩, ⟨1, [], 0⟩] ++ l.take (i + 1).toNat)
        rw [take_step i0 hi, ← List.append_assoc]
        exact (hL.frame (by simp -implicitDefEqProofs (disch := first | exact soD | fail) only [go_sem, ↓reduceIte, Nat.reduceEqDiff, Nat.reduceAdd, Nat.reduceLT, Nat.reduceLeDiff, Nat.reduceBEq, reduceCtorEq]; omega) hfr).snoc hE1
    · repeat' (first | simp -implicitDefEqProofs (disch := first | exact soD | fail) only [go_sem, ↓reduceIte, Nat.reduceEqDiff, Nat.reduceAdd, Nat.reduceLT, Nat.reduceLeDiff, Nat.reduceBEq, reduceCtorEq, e6, e22, e23, e24, gT, gA] | ((with_reducible first | refine g_dec ?_ ?_ | refine c_dec ?_ ?_ | refine s_dec ?_ ?_ | refine g_ndec ?_ ?_ | refine c_ndec ?_ ?_ | refine g_nbool ?_ ?_ | refine c_nbool ?_ ?_ | refine g_bool ?_ ?_ | refine c_bool ?_ ?_ | refine s_bool ?_ ?_) <;> intro h d <;> (try simp only [d]) <;> (try simp only [B1, B2, B3, B4, B5, B6, B7, B8] at h) <;> (try omega)))
      have hes : [⟨0, [], 0⟩, ⟨1, [], 0⟩] ++ l.take i.toNat = T0 l := by
        rw [List.take_of_length_le (by omega)]
        rfl
      rw [hes] at hL
      have hlen : es.length = (T0 l).length := hL.len
      rw [hlen] at gT
      refine (hE _ _).1 _ ?_
      repeat' (first | simp -implicitDefEqProofs (disch := first | exact soD | fail) only [go_sem, ↓reduceIte, Nat.reduceEqDiff, Nat.reduceAdd, Nat.reduceLT, Nat.reduceLeDiff, Nat.reduceBEq, reduceCtorEq] | ((with_reducible first | refine g_dec ?_ ?_ | refine c_dec ?_ ?_ | refine s_dec ?_ ?_ | refine g_ndec ?_ ?_ | refine c_ndec ?_ ?_ | refine g_nbool ?_ ?_ | refine c_nbool ?_ ?_ | refine g_bool ?_ ?_ | refine c_bool ?_ ?_ | refine s_bool ?_ ?_) <;> intro h d <;> (try simp only [d]) <;> (try simp only [B1, B2, B3, B4, B5, B6, B7, B8] at h) <;> (try omega)))
      unfold ls17_0
      obtain ⟨q', L, r, g1, cs, hst⟩ := sp_classes (n + 1) (m := (w.room 1).room 2) (T := m.next + 2 + 7 + 2 + 4) (A := A) (B := w.next) (all := T0 l) (es := es) (lk := .nils) (by simp [T0]) hin (fun x hx => by have := h12 x hx; omega) (by omega) (by first | (simp -implicitDefEqProofs (disch := first | exact soD | fail) only [go_sem, ↓reduceIte, Nat.reduceEqDiff, Nat.reduceAdd, Nat.reduceLT, Nat.reduceLeDiff, Nat.reduceBEq, reduceCtorEq]; done) | (simp -implicitDefEqProofs (disch := first | exact soD | fail) only [go_sem, ↓reduceIte, Nat.reduceEqDiff, Nat.reduceAdd, Nat.reduceLT, Nat.reduceLeDiff, Nat.reduceBEq, reduceCtorEq]; omega))
        (hL.of_news.frame (Nat.le_refl _) fun id ps _ hg => hg) (by first | (simp -implicitDefEqProofs (disch := first | exact soD | fail) only [go_sem, ↓reduceIte, Nat.reduceEqDiff, Nat.reduceAdd, Nat.reduceLT, Nat.reduceLeDiff, Nat.reduceBEq, reduceCtorEq]; done) | (simp -implicitDefEqProofs (disch := first | exact soD | fail) only [go_sem, ↓reduceIte, Nat.reduceEqDiff, Nat.reduceAdd, Nat.reduceLT, Nat.reduceLeDiff, Nat.reduceBEq, reduceCtorEq]; omega)) (by first | (simp -implicitDefEqProofs (disch := first | exact soD | fail) only [go_sem, ↓reduceIte, Nat.reduceEqDiff, Nat.reduceAdd, Nat.reduceLT, Nat.reduceLeDiff, Nat.reduceBEq, reduceCtorEq]; done) | (simp -implicitDefEqProofs (disch := first | exact soD | fail) only [go_sem, ↓reduceIte, Nat.reduceEqDiff, Nat.reduceAdd, Nat.reduceLT, Nat.reduceLeDiff, Nat.reduceBEq, reduceCtorEq]; omega)) rfl gT gA
      repeat' (first | simp -implicitDefEqProofs (disch := first | exact soD | fail) only [go_sem, ↓reduceIte, Nat.reduceEqDiff, Nat.reduceAdd, Nat.reduceLT, Nat.reduceLeDiff, Nat.reduceBEq, reduceCtorEq, e6, g1] | ((with_reducible first | refine g_dec ?_ ?_ | refine c_dec ?_ ?_ | refine s_dec ?_ ?_ | refine g_ndec ?_ ?_ | refine c_ndec ?_ ?_ | refine g_nbool ?_ ?_ | refine c_nbool ?_ ?_ | refine g_bool ?_ ?_ | refine c_bool ?_ ?_ | refine s_bool ?_ ?_) <;> intro h d <;> (try simp only [d]) <;> (try simp only [B1, B2, B3, B4, B5, B6, B7, B8] at h) <;> (try omega)))
      obtain ⟨d1, d2, d3, d4, d5, d6, hV, hT, hA', hL', old'⟩ := cs
      simp only [room_next, room_get] at d1 d2 d3 d4 d5 d6 old'
      refine ⟨m.next + 2 + 7 + 2 + 4, A, L, r, es, rfl, ?_, fun id hid => ?_, by omega, c2, by omega, ?_, ?_, ?_, ?_, hst⟩
      all_goals try (simp -implicitDefEqProofs (disch := first | exact soD | fail) only [go_sem, ↓reduceIte, Nat.reduceEqDiff, Nat.reduceAdd, Nat.reduceLT, Nat.reduceLeDiff, Nat.reduceBEq, reduceCtorEq, hT, hA', hL']; done)
      all_goals try (simp -implicitDefEqProofs (disch := first | exact soD | fail) only [go_sem, ↓reduceIte, Nat.reduceEqDiff, Nat.reduceAdd, Nat.reduceLT, Nat.reduceLeDiff, Nat.reduceBEq, reduceCtorEq]; omega)
      all_goals try omega
      · exact (old' id (by omega) (by omega)).trans (old id hid)
      · refine hL.frame (by omega) fun id ps hid hg => ?_
        rw [news_get] at hg ⊢
        split at hg
        · rename_i hle
          rw [if_pos hle]
          simp -implicitDefEqProofs (disch := first | exact soD | fail) only [go_sem, ↓reduceIte, Nat.reduceEqDiff, Nat.reduceAdd, Nat.reduceLT, Nat.reduceLeDiff, Nat.reduceBEq, reduceCtorEq]
          rw [old' id (by omega) (fun e => by subst e; rw [gT] at hg; simp at hg)]
          exact hg
        · cases hg
  all_goals try (simp -implicitDefEqProofs (disch := first | exact soD | fail) only [go_sem, ↓reduceIte, Nat.reduceEqDiff, Nat.reduceAdd, Nat.reduceLT, Nat.reduceLeDiff, Nat.reduceBEq, reduceCtorEq]; done)
  all_goals try (simp -implicitDefEqProofs (disch := first | exact soD | fail) only [go_sem, ↓reduceIte, Nat.reduceEqDiff, Nat.reduceAdd, Nat.reduceLT, Nat.reduceLeDiff, Nat.reduceBEq, reduceCtorEq]; omega)
  refine ⟨rfl, fun j h0 h1 => ?_⟩
  have h1 : j < 2 := by simpa using h1
  have hj : j = 0 ∨ j = 1 := by omega
  rcases hj with rfl | rfl
  · exact ⟨_, rfl, .nils, rfl, .inl ⟨rfl, .inl rfl⟩⟩
  · exact ⟨_, rfl, .nils, rfl, .inl ⟨rfl, .inl rfl⟩⟩
end Go.Proofs.YtiijjopdhjpalaaDoor

/-! What image.Right answers. Conditions: none. -/
namespace Go.Proofs.YtiijjopdhjpalaaDoor
open Go
set_option linter.unusedSimpArgs false
set_option linter.unusedVariables false
theorem sp_New_ok (n : Nat) (l : List GT) (hw : ∀ x ∈ l, x.wf) (ht : (tr l).2 = 0) : ∃ like, (∀ (m : AMem) (v : AV), rb m RBN v = some (tsl 3 (l.map GT.av)) → callsN cfg (n + 6) 17 [v] m = some (.ret (.tup [TT (T0 l) like, avI 0]), m)) ∧ stepL (T0 l) like = like ∧ ∃ r, like = itL (T0 l) r := by
  obtain ⟨o, m', h1, T, A, L, r, es, rfl, h2, h3, h4, h5, h6, gT, gA, gL, hL, hst⟩ := new_run n l hw .empty ht
  refine ⟨itL (T0 l) r, fun m v hv => ?_, hst, r, rfl⟩
  rw [ce17]
  refine lend_run (targs := [tsl 3 (l.map GT.av)]) (by rw [yrbL_cons, hv]; rfl) h1 ?_
  rw [show RBN = 11 + 1 from rfl, ynb_tup, yrbL_cons, show (11 : Nat) = 5 + 6 from rfl, nb_table 5 (by simp [T0]) (itL_can _ r).len gT gA gL hL]
  rfl
theorem sp_New_no (n : Nat) (l : List GT) (hw : ∀ x ∈ l, x.wf) (ht : (tr l).2 ≠ 0) (m : AMem) (v : AV) (hv : rb m RBN v = some (tsl 3 (l.map GT.av))) : callsN cfg (n + 6) 17 [v] m = some (.ret (.tup [.nilp, avI (tr l).2]), m) := by
  have hR := fun m => sp_Right (n + 1) l m hw
  have key : Wp (aBody (callsN cfg (n + 5)) cf17 [tsl 3 (l.map GT.av)] .empty) fun o m' => ∃ u, o = .ret u ∧ rbN m' RBN u = some (.tup [.nilp, avI (tr l).2]) := by
    unfold aBody cf17
    repeat' (first | simp -implicitDefEqProofs (disch := first | exact soD | fail) only [go_sem, ↓reduceIte, Nat.reduceEqDiff, Nat.reduceAdd, Nat.reduceLT, Nat.reduceLeDiff, Nat.reduceBEq, reduceCtorEq, hR] | ((with_reducible first | refine g_dec ?_ ?_ | refine c_dec ?_ ?_ | refine s_dec ?_ ?_ | refine g_ndec ?_ ?_ | refine c_ndec ?_ ?_ | refine g_nbool ?_ ?_ | refine c_nbool ?_ ?_ | refine g_bool ?_ ?_ | refine c_bool ?_ ?_ | refine s_bool ?_ ?_) <;> intro h d <;> (try simp only [d]) <;> (try simp only [B1, B2, B3, B4, B5, B6, B7, B8] at h) <;> (try omega)))
    all_goals first
      | exact absurd (by assumption) ht
      | exact ⟨_, rfl, rfl⟩
      | rfl
  rw [ce17]
  exact lend_wp (targs := [tsl 3 (l.map GT.av)]) (by rw [yrbL_cons, hv]; rfl) key
/-- May a program be so? As the program has it. -/
def rokT (p : GP) : Bool := decide ((tr p.types).2 = 0) && decide (1 ≤ p.funcs.length ∧ p.funcs.length ≤ 50) && decide ((nth p.funcs 0).params.length = 0 ∧ (nth p.funcs 0).result = 0) && p.funcs.all fun f => fokT (TK (T0 p.types)) (TP (T0 p.types)) p.funcs.length f
set_option maxHeartbeats 2000000 in
theorem sp_Right10 (n : Nat) (p : GP) (hp : p.wf) (m : AMem) : callsN cfg (n + 7) 10 [.agg [tsl 3 (p.types.map GT.av), tsl 4 (p.funcs.map GF.av)]] m = some (.ret (.bool (rokT p)), m) := by
  rw [ce10]
  refine borrow_wp (targs := [.agg [tsl 3 (p.types.map GT.av), tsl 4 (p.funcs.map GF.av)]]) (by simp only [go_sem]) ?_ rfl
  obtain ⟨_, wt, _, wf⟩ := hp
  by_cases ht : (tr p.types).2 = 0
  · obtain ⟨hin, h12, h62⟩ := T0_inside ht
    obtain ⟨like, g0, _⟩ := sp_New_ok n p.types wt ht
    have g1 := fun m => g0 m (tsl 3 (p.types.map GT.av)) (yrb_tsl ..)
    have key : ∀ (env : AEnv) (m : AMem), 1 ≤ p.funcs.length → p.funcs.length ≤ 50 → (nth p.funcs 0).params.length = 0 ∧ (nth p.funcs 0).result = 0 → 5 ≤ m.next → m.get 0 = some (.arr 25 2 [.agg [tsl 3 (p.types.map GT.av), tsl 4 (p.funcs.map GF.av)]]) → env 1 = .ptr 0 0 0 → env 3 = TT (T0 p.types) like → env 45 = tsl 4 (p.funcs.map GF.av) → env 46 = avI p.funcs.length → env 47 = avI 0 →
        Wp (loopN LOOPK (aCode (callsN cfg (n + 6)) lb10_0) env m (KBlk 0 (KSeq (callsN cfg (n + 6)) ls10_0 (fin [.slot 2])))) fun o m' => RetIs m' (.bool (rokT p)) o := by
      intro env m q1 q2 q3 hn g0 e1 e3 e45 e46 e47
      refine wp_loop (fun (i : Int) (env : AEnv) (m : AMem) => (0 ≤ i ∧ i ≤ p.funcs.length ∧ ∀ j, 0 ≤ j → j < i → fokT (TK (T0 p.types)) (TP (T0 p.types)) p.funcs.length (nth p.funcs j) = true) ∧ 5 ≤ m.next ∧ m.get 0 = some (.arr 25 2 [.agg [tsl 3 (p.types.map GT.av), tsl 4 (p.funcs.map GF.av)]]) ∧
          env 1 = .ptr 0 0 0 ∧ env 3 = TT (T0 p.types) like ∧ env 45 = tsl 4 (p.funcs.map GF.av) ∧ env 46 = avI p.funcs.length ∧ env 47 = avI i) (fun i => (p.funcs.length - i).toNat)
        (fun i env m K' ⟨⟨hi0, hi1, hall⟩, hn, g0, e1, e3, e45, e46, e47⟩ hN hE => ?_) LOOPK 0 _ _ ⟨⟨by omega, by omega, fun j a b => by omega⟩, hn, g0, e1, e3, e45, e46, e47⟩ (by rw [LOOPK_eq]; omega)
      have hF := fun (h1 : i < p.funcs.length) => sp_right (n + 2) p (T0 p.types) like (nth p.funcs i) (wf _ (nth_mem _ _ hi0 h1)) (fun x hx => by have := h12 x hx; omega) (by omega)
      unfold lb10_0
      repeat' (first | simp -implicitDefEqProofs (disch := first | exact soD | fail) only [go_sem, ↓reduceIte, Nat.reduceEqDiff, Nat.reduceAdd, Nat.reduceLT, Nat.reduceLeDiff, Nat.reduceBEq, reduceCtorEq, g0, e1, e3, e45, e46, e47, hF] | ((with_reducible first | refine g_dec ?_ ?_ | refine c_dec ?_ ?_ | refine s_dec ?_ ?_ | refine g_ndec ?_ ?_ | refine c_ndec ?_ ?_ | refine g_nbool ?_ ?_ | refine c_nbool ?_ ?_ | refine g_bool ?_ ?_ | refine c_bool ?_ ?_ | refine s_bool ?_ ?_) <;> intro h d <;> (try simp only [d]) <;> (try simp only [B1, B2, B3, B4, B5, B6, B7, B8] at h) <;> (try omega)))
      all_goals (with_reducible first | refine hN (i + 1) _ _ ?_ ?_ | refine (hE _ _).1 _ ?_ | refine (hE _ _).2.1 ?_)
      all_goals try omega
      all_goals try unfold ls10_0
      all_goals repeat' (first | simp -implicitDefEqProofs (disch := first | exact soD | fail) only [go_sem, ↓reduceIte, Nat.reduceEqDiff, Nat.reduceAdd, Nat.reduceLT, Nat.reduceLeDiff, Nat.reduceBEq, reduceCtorEq, g0, e1, e3, e45, e46, e47] | ((with_reducible first | refine g_dec ?_ ?_ | refine c_dec ?_ ?_ | refine s_dec ?_ ?_ | refine g_ndec ?_ ?_ | refine c_ndec ?_ ?_ | refine g_nbool ?_ ?_ | refine c_nbool ?_ ?_ | refine g_bool ?_ ?_ | refine c_bool ?_ ?_ | refine s_bool ?_ ?_) <;> intro h d <;> (try simp only [d]) <;> (try simp only [B1, B2, B3, B4, B5, B6, B7, B8] at h) <;> (try omega)))
      · have hA := all_nth_f (p := fun f => fokT (TK (T0 p.types)) (TP (T0 p.types)) p.funcs.length f) hi0 (by assumption) (by assumption)
        rw [rokT, hA, Bool.and_false]
      · first
          | exact ⟨⟨by omega, by omega, all_step (p := fun f => fokT (TK (T0 p.types)) (TP (T0 p.types)) p.funcs.length f) hall (by assumption)⟩, by omega⟩
          | exact ⟨by omega, by omega, all_step (p := fun f => fokT (TK (T0 p.types)) (TP (T0 p.types)) p.funcs.length f) hall (by assumption)⟩
      · have hA := all_nth (p := fun f => fokT (TK (T0 p.types)) (TP (T0 p.types)) p.funcs.length f) fun j a b => hall j a (by omega)
        rw [rokT, hA, decide_eq_true ht, decide_eq_true ⟨q1, q2⟩, decide_eq_true q3]
        rfl
    unfold aBody cf10
    repeat' (first | simp -implicitDefEqProofs (disch := first | exact soD | fail) only [go_sem, ↓reduceIte, Nat.reduceEqDiff, Nat.reduceAdd, Nat.reduceLT, Nat.reduceLeDiff, Nat.reduceBEq, reduceCtorEq, g1] | ((with_reducible first | refine g_dec ?_ ?_ | refine c_dec ?_ ?_ | refine s_dec ?_ ?_ | refine g_ndec ?_ ?_ | refine c_ndec ?_ ?_ | refine g_nbool ?_ ?_ | refine c_nbool ?_ ?_ | refine g_bool ?_ ?_ | refine c_bool ?_ ?_ | refine s_bool ?_ ?_) <;> intro h d <;> (try simp only [d]) <;> (try simp only [B1, B2, B3, B4, B5, B6, B7, B8] at h) <;> (try omega)))
    all_goals try (refine key _ _ ?_ ?_ ?_ ?_ ?_ ?_ ?_ ?_ ?_ ?_)
    all_goals try omega
    all_goals try (simp -implicitDefEqProofs (disch := first | exact soD | fail) only [go_sem, ↓reduceIte, Nat.reduceEqDiff, Nat.reduceAdd, Nat.reduceLT, Nat.reduceLeDiff, Nat.reduceBEq, reduceCtorEq]; done)
    all_goals (rw [rokT]; (first | rfl | (rw [Bool.eq_iff_iff]; simp only [B1, B2, B3, B4, B5, B6, B7, B8, Bool.false_eq_true, eq_self, true_iff, false_iff, iff_true, iff_false] <;> omega)))
  · have g1 := fun m => sp_New_no n p.types wt ht m (tsl 3 (p.types.map GT.av)) (yrb_tsl ..)
    unfold aBody cf10
    repeat' (first | simp -implicitDefEqProofs (disch := first | exact soD | fail) only [go_sem, ↓reduceIte, Nat.reduceEqDiff, Nat.reduceAdd, Nat.reduceLT, Nat.reduceLeDiff, Nat.reduceBEq, reduceCtorEq, g1] | ((with_reducible first | refine g_dec ?_ ?_ | refine c_dec ?_ ?_ | refine s_dec ?_ ?_ | refine g_ndec ?_ ?_ | refine c_ndec ?_ ?_ | refine g_nbool ?_ ?_ | refine c_nbool ?_ ?_ | refine g_bool ?_ ?_ | refine c_bool ?_ ?_ | refine s_bool ?_ ?_) <;> intro h d <;> (try simp only [d]) <;> (try simp only [B1, B2, B3, B4, B5, B6, B7, B8] at h) <;> (try omega)))
    all_goals (rw [rokT, decide_eq_false ht]; rfl)
end Go.Proofs.YtiijjopdhjpalaaDoor
