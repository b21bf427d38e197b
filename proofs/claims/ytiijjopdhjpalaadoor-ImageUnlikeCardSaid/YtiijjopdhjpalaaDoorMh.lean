/- What the functions of chapter 10 answer: classes of types, the other loops. Conditions: none. -/
import Derived.Test.YtiijjopdhjpalaaDoorMg
/-! What the functions of chapter 10 answer: the reference's instructions. Conditions: none. -/
namespace Go.Proofs.YtiijjopdhjpalaaDoor
open Go
set_option linter.unusedSimpArgs false
set_option linter.unusedVariables false
/-- The parts of a type of a list. -/
def P3 (l : List GT) (n : Int) : List Int := if K3 l n = 2 ∨ K3 l n = 4 then (nth l (n - 2)).parts else []
theorem sp_Parts3 (n : Nat) (l : List GT) (a : Int) (ha : i64 a) (m : AMem) : ∃ v m', callsN cfg (n + 2) 70 [tsl 3 (l.map GT.av), avI a] m = some (.ret v, m') ∧ m.next ≤ m'.next ∧ (∀ id, id < m.next → m'.get id = m.get id) ∧
    lenK v = some (avI (P3 l a).length) := by
  rw [ce70]
  have hk := sp_Kind3 (n := n) (l := l) (b := a) (hb := ha)
  have hor := K3_or l a
  rw [i64_iff] at ha
  have key : Wp (aBody (callsN cfg (n + 1)) cf70 [tsl 3 (l.map GT.av), avI a] m) fun o m' => ∃ v, o = .ret v ∧ m.next ≤ m'.next ∧ (∀ id, id < m.next → m'.get id = m.get id) ∧ lenK v = some (avI (P3 l a).length) := by
    unfold aBody cf70
    repeat' (first | simp -implicitDefEqProofs (disch := (first | omega | (simp only [go_sem, List.length_append, Nat.zero_add, Nat.reduceAdd, Nat.reduceLT] <;> omega) | fail)) only [go_sem, ↓reduceIte, Nat.reduceEqDiff, Nat.reduceAdd, Nat.reduceLT, Nat.reduceLeDiff, Nat.reduceBEq, reduceCtorEq, hk] | ((with_reducible first | refine g_dec (fun h d => ?_) (fun h d => ?_) | refine c_dec (fun h d => ?_) (fun h d => ?_) | refine s_dec (fun h d => ?_) (fun h d => ?_) | refine g_ndec (fun h d => ?_) (fun h d => ?_) | refine c_ndec (fun h d => ?_) (fun h d => ?_) | refine g_nbool (fun h d => ?_) (fun h d => ?_) | refine c_nbool (fun h d => ?_) (fun h d => ?_) | refine g_bool (fun h d => ?_) (fun h d => ?_) | refine c_bool (fun h d => ?_) (fun h d => ?_) | refine s_bool (fun h d => ?_) (fun h d => ?_)) <;> (try simp only [d]) <;> (try simp only [Bool.or_eq_true, Bool.and_eq_true, Bool.or_eq_false_iff, Bool.and_eq_false_iff, decide_eq_true_eq, decide_eq_false_iff_not, Bool.not_eq_true', Bool.not_eq_false'] at h) <;> (try omega)))
    · refine ⟨_, rfl, by omega, fun _ _ => trivial, ?_⟩
      rw [P3, if_pos (.inl (by assumption)), lenK_tsl, List.length_map]
    · refine ⟨_, rfl, by omega, fun _ _ => trivial, ?_⟩
      rw [P3, if_pos (.inr (by assumption)), lenK_tsl, List.length_map]
    · refine ⟨_, rfl, by omega, fun _ _ => trivial, ?_⟩
      rw [P3, if_neg (by omega)]
      rfl
  obtain ⟨o, m', h1, v, rfl, h2, h3, h4⟩ := key
  exact ⟨v, m', h1, h2, h3, h4⟩
theorem form_kind {op : Int} : (form op = 7 → kindOf op = 2) ∧ (form op = 8 → kindOf op = 4) := by
  have key : (List.range 38).all (fun k => decide ((form k = 7 → kindOf k = 2) ∧ (form k = 8 → kindOf k = 4))) = true := by decide
  by_cases h : 0 ≤ op ∧ op < 38
  · rw [List.all_eq_true] at key
    have := key op.toNat (List.mem_range.2 (by omega))
    have e : ((op.toNat : Nat) : Int) = op := by omega
    rw [e] at this
    exact of_decide_eq_true this
  · have hf : form op = -1 := if_neg h
    rw [hf]
    omega
set_option maxHeartbeats 1000000 in
theorem sp_iRight4 (n : Nat) (l : List GT) (fs : List GF) (lo co op a b : Int) (ha : i64 a) (m : AMem) :
    callsN cfg (n + 4) 39 [.agg [avI op, avI a, avI b], .agg [tsl 3 (l.map GT.av), tsl 4 (fs.map GF.av), avI lo, avI co]] m = some (.ret (.bool (ir (K3 l) (P3 l) fs.length lo co op a b)), m) := by
  rw [ce39]
  refine borrow_wp (targs := [.agg [avI op, avI a, avI b], .agg [tsl 3 (l.map GT.av), tsl 4 (fs.map GF.av), avI lo, avI co]]) (by simp only [go_sem]) ?_ rfl
  unfold aBody cf39
  obtain ⟨fv, hc⟩ := Classical.skolem.1 (fun m => sp_Parts3 (n + 1) l a ha m)
  obtain ⟨fm, hc⟩ := Classical.skolem.1 hc
  have h1 := fun m => (hc m).1
  have h2 := fun m => (hc m).2.2.1
  have h3 := fun m => (hc m).2.2.2
  have hk := sp_Kind3 (n := n + 2) (l := l) (b := a) (hb := ha)
  have hfk := @form_kind op
  repeat' (first | simp -implicitDefEqProofs (disch := (first | omega | (simp only [go_sem, List.length_append, Nat.zero_add, Nat.reduceAdd, Nat.reduceLT] <;> omega) | fail)) only [go_sem, ↓reduceIte, Nat.reduceEqDiff, Nat.reduceAdd, Nat.reduceLT, Nat.reduceLeDiff, Nat.reduceBEq, reduceCtorEq, sp_Form4, sp_Kind4, hk, sp_within, h1, h2, h3] | ((with_reducible first | refine g_dec (fun h d => ?_) (fun h d => ?_) | refine c_dec (fun h d => ?_) (fun h d => ?_) | refine s_dec (fun h d => ?_) (fun h d => ?_) | refine g_ndec (fun h d => ?_) (fun h d => ?_) | refine c_ndec (fun h d => ?_) (fun h d => ?_) | refine g_nbool (fun h d => ?_) (fun h d => ?_) | refine c_nbool (fun h d => ?_) (fun h d => ?_) | refine g_bool (fun h d => ?_) (fun h d => ?_) | refine c_bool (fun h d => ?_) (fun h d => ?_) | refine s_bool (fun h d => ?_) (fun h d => ?_)) <;> (try simp only [d]) <;> (try simp only [Bool.or_eq_true, Bool.and_eq_true, Bool.or_eq_false_iff, Bool.and_eq_false_iff, decide_eq_true_eq, decide_eq_false_iff_not, Bool.not_eq_true', Bool.not_eq_false'] at h) <;> (try omega)))
  all_goals clear h1 h2 h3 hc hk
  all_goals (unfold ir; (repeat' split) <;> first | omega | (first | rfl | (rw [Bool.eq_iff_iff]; simp only [Bool.or_eq_true, Bool.and_eq_true, Bool.or_eq_false_iff, Bool.and_eq_false_iff, decide_eq_true_eq, decide_eq_false_iff_not, Bool.not_eq_true', Bool.not_eq_false', Bool.false_eq_true, eq_self, true_iff, false_iff, iff_true, iff_false] <;> omega)))
end Go.Proofs.YtiijjopdhjpalaaDoor

/-! What the functions of chapter 10 answer: the reference's programs. Conditions: none. -/
namespace Go.Proofs.YtiijjopdhjpalaaDoor
open Go
set_option linter.unusedSimpArgs false
set_option linter.unusedVariables false
def typed (l : List GT) (ps : List Int) : Bool := ps.all fun x => decide (0 ≤ K3 l x)
theorem sp_typed (n : Nat) (l : List GT) (ps : List Int) (hp : ∀ x ∈ ps, i64 x) (hl : ps.length ≤ 1000) (m : AMem) : callsN cfg (n + 2) 36 [tsl 3 (l.map GT.av), tsl 1 (ps.map avI)] m = some (.ret (.bool (typed l ps)), m) := by
  rw [ce36]
  refine borrow_wp (targs := [tsl 3 (l.map GT.av), tsl 1 (ps.map avI)]) (by simp only [go_sem]) ?_ rfl
  unfold aBody cf36
  repeat' (first | simp -implicitDefEqProofs (disch := (first | omega | (simp only [go_sem, List.length_append, Nat.zero_add, Nat.reduceAdd, Nat.reduceLT] <;> omega) | fail)) only [go_sem, ↓reduceIte, Nat.reduceEqDiff, Nat.reduceAdd, Nat.reduceLT, Nat.reduceLeDiff, Nat.reduceBEq, reduceCtorEq] | ((with_reducible first | refine g_dec (fun h d => ?_) (fun h d => ?_) | refine c_dec (fun h d => ?_) (fun h d => ?_) | refine s_dec (fun h d => ?_) (fun h d => ?_) | refine g_ndec (fun h d => ?_) (fun h d => ?_) | refine c_ndec (fun h d => ?_) (fun h d => ?_) | refine g_nbool (fun h d => ?_) (fun h d => ?_) | refine c_nbool (fun h d => ?_) (fun h d => ?_) | refine g_bool (fun h d => ?_) (fun h d => ?_) | refine c_bool (fun h d => ?_) (fun h d => ?_) | refine s_bool (fun h d => ?_) (fun h d => ?_)) <;> (try simp only [d]) <;> (try simp only [Bool.or_eq_true, Bool.and_eq_true, Bool.or_eq_false_iff, Bool.and_eq_false_iff, decide_eq_true_eq, decide_eq_false_iff_not, Bool.not_eq_true', Bool.not_eq_false'] at h) <;> (try omega)))
  refine wp_loop (fun (i : Int) (env : AEnv) (m : AMem) => (0 ≤ i ∧ i ≤ ps.length ∧ ∀ j, 0 ≤ j → j < i → decide (0 ≤ K3 l (nth ps j)) = true) ∧ env 0 = tsl 3 (l.map GT.av) ∧ env 1 = tsl 1 (ps.map avI) ∧ env 5 = avI i) (fun i => (ps.length - i).toNat)
      (fun i env m K' ⟨⟨hi0, hi1, hall⟩, e0, e1, e5⟩ hN hE => ?_) LOOPK 0 _ _ ⟨⟨by omega, by omega, fun j a b => by omega⟩, by simp -implicitDefEqProofs (disch := (first | omega | (simp only [go_sem, List.length_append, Nat.zero_add, Nat.reduceAdd, Nat.reduceLT] <;> omega) | fail)) only [go_sem, ↓reduceIte, Nat.reduceEqDiff, Nat.reduceAdd, Nat.reduceLT, Nat.reduceLeDiff, Nat.reduceBEq, reduceCtorEq], by simp -implicitDefEqProofs (disch := (first | omega | (simp only [go_sem, List.length_append, Nat.zero_add, Nat.reduceAdd, Nat.reduceLT] <;> omega) | fail)) only [go_sem, ↓reduceIte, Nat.reduceEqDiff, Nat.reduceAdd, Nat.reduceLT, Nat.reduceLeDiff, Nat.reduceBEq, reduceCtorEq], by simp -implicitDefEqProofs (disch := (first | omega | (simp only [go_sem, List.length_append, Nat.zero_add, Nat.reduceAdd, Nat.reduceLT] <;> omega) | fail)) only [go_sem, ↓reduceIte, Nat.reduceEqDiff, Nat.reduceAdd, Nat.reduceLT, Nat.reduceLeDiff, Nat.reduceBEq, reduceCtorEq]⟩ (by rw [LOOPK_eq]; omega)
  have hk : ∀ (h1 : i < ps.length) (m : AMem), callsN cfg (n + 1) 66 [tsl 3 (l.map GT.av), avI (nth ps i)] m = some (.ret (avI (K3 l (nth ps i))), m) := fun h1 m => sp_Kind3 n l _ m (wf_nth hp hi0 h1)
  unfold lb36_0
  repeat' (first | simp -implicitDefEqProofs (disch := (first | omega | (simp only [go_sem, List.length_append, Nat.zero_add, Nat.reduceAdd, Nat.reduceLT] <;> omega) | fail)) only [go_sem, ↓reduceIte, Nat.reduceEqDiff, Nat.reduceAdd, Nat.reduceLT, Nat.reduceLeDiff, Nat.reduceBEq, reduceCtorEq, e0, e1, e5, hk] | ((with_reducible first | refine g_dec (fun h d => ?_) (fun h d => ?_) | refine c_dec (fun h d => ?_) (fun h d => ?_) | refine s_dec (fun h d => ?_) (fun h d => ?_) | refine g_ndec (fun h d => ?_) (fun h d => ?_) | refine c_ndec (fun h d => ?_) (fun h d => ?_) | refine g_nbool (fun h d => ?_) (fun h d => ?_) | refine c_nbool (fun h d => ?_) (fun h d => ?_) | refine g_bool (fun h d => ?_) (fun h d => ?_) | refine c_bool (fun h d => ?_) (fun h d => ?_) | refine s_bool (fun h d => ?_) (fun h d => ?_)) <;> (try simp only [d]) <;> (try simp only [Bool.or_eq_true, Bool.and_eq_true, Bool.or_eq_false_iff, Bool.and_eq_false_iff, decide_eq_true_eq, decide_eq_false_iff_not, Bool.not_eq_true', Bool.not_eq_false'] at h) <;> (try omega)))
  all_goals (with_reducible first | refine hN (i + 1) _ _ ?_ ?_ | refine (hE _ _).1 _ ?_ | refine (hE _ _).2.1 ?_)
  all_goals try omega
  all_goals try unfold ls36_0
  all_goals repeat' (first | simp -implicitDefEqProofs (disch := (first | omega | (simp only [go_sem, List.length_append, Nat.zero_add, Nat.reduceAdd, Nat.reduceLT] <;> omega) | fail)) only [go_sem, ↓reduceIte, Nat.reduceEqDiff, Nat.reduceAdd, Nat.reduceLT, Nat.reduceLeDiff, Nat.reduceBEq, reduceCtorEq, e0, e1, e5] | ((with_reducible first | refine g_dec (fun h d => ?_) (fun h d => ?_) | refine c_dec (fun h d => ?_) (fun h d => ?_) | refine s_dec (fun h d => ?_) (fun h d => ?_) | refine g_ndec (fun h d => ?_) (fun h d => ?_) | refine c_ndec (fun h d => ?_) (fun h d => ?_) | refine g_nbool (fun h d => ?_) (fun h d => ?_) | refine c_nbool (fun h d => ?_) (fun h d => ?_) | refine g_bool (fun h d => ?_) (fun h d => ?_) | refine c_bool (fun h d => ?_) (fun h d => ?_) | refine s_bool (fun h d => ?_) (fun h d => ?_)) <;> (try simp only [d]) <;> (try simp only [Bool.or_eq_true, Bool.and_eq_true, Bool.or_eq_false_iff, Bool.and_eq_false_iff, decide_eq_true_eq, decide_eq_false_iff_not, Bool.not_eq_true', Bool.not_eq_false'] at h) <;> (try omega)))
  · exact (all_nth_f (p := fun x => decide (0 ≤ K3 l x)) hi0 (by assumption) (decide_eq_false (by omega))).symm
  · exact ⟨by omega, by omega, all_step (p := fun x => decide (0 ≤ K3 l x)) hall (decide_eq_true (by omega))⟩
  · exact (all_nth (p := fun x => decide (0 ≤ K3 l x)) fun j a b => hall j a (by omega)).symm
theorem sp_typed_rb (n : Nat) (x y : AV) (m : AMem) (h : ∀ t, rbL (rb m RBN) [x, y] = some t → rbL (rb m RBN) t = some t) : callsN cfg (n + 2) 36 [x, y] m = onTrees (callsN cfg (n + 2) 36) m (rbL (rb m RBN) [x, y]) := by
  rw [ce36]
  exact borrow_trees _ _ _ h
theorem sp_typed1 (n : Nat) (l : List GT) (r : Int) (hr : i64 r) (id : Nat) (m : AMem) (hg : m.get id = some (.arr 3 1 [avI r])) : callsN cfg (n + 2) 36 [tsl 3 (l.map GT.av), .sl 1 id 0 1] m = some (.ret (.bool (typed l [r])), m) := by
  have hb : rbL (rb m RBN) [tsl 3 (l.map GT.av), .sl 1 id 0 1] = some [tsl 3 (l.map GT.av), .ts 1 [avI r]] := by
    simp -implicitDefEqProofs (disch := (first | omega | (simp only [go_sem, List.length_append, Nat.zero_add, Nat.reduceAdd, Nat.reduceLT] <;> omega) | fail)) only [go_sem, ↓reduceIte, Nat.reduceEqDiff, Nat.reduceAdd, Nat.reduceLT, Nat.reduceLeDiff, Nat.reduceBEq, reduceCtorEq, hg]
  rw [sp_typed_rb n _ _ m (fun t ht => by rw [hb] at ht; cases ht; simp -implicitDefEqProofs (disch := (first | omega | (simp only [go_sem, List.length_append, Nat.zero_add, Nat.reduceAdd, Nat.reduceLT] <;> omega) | fail)) only [go_sem, ↓reduceIte, Nat.reduceEqDiff, Nat.reduceAdd, Nat.reduceLT, Nat.reduceLeDiff, Nat.reduceBEq, reduceCtorEq]), hb]
  exact sp_typed n l [r] (by simpa using hr) (by simp) m
theorem sp_Scope (n : Nat) (l : List GT) (fs : List GF) (fn : Int) (h0 : 0 ≤ fn) (h1 : fn < fs.length) (hw : (nth fs fn).params.length + (nth fs fn).locals ≤ 32) (h2 : 0 ≤ (nth fs fn).locals) (m : AMem) : ∃ m', callsN cfg (n + 1) 38 [tsl 3 (l.map GT.av), tsl 4 (fs.map GF.av), avI fn] m =
    some (.ret (.agg [tsl 3 (l.map GT.av), tsl 4 (fs.map GF.av), avI ((nth fs fn).params.length + (nth fs fn).locals), avI (nth fs fn).code.length]), m') ∧ m.next ≤ m'.next ∧ ∀ id, id < m.next → m'.get id = m.get id := by
  rw [ce38]
  have key : Wp (aBody (callsN cfg n) cf38 [tsl 3 (l.map GT.av), tsl 4 (fs.map GF.av), avI fn] m) fun o m' => o = .ret (.agg [tsl 3 (l.map GT.av), tsl 4 (fs.map GF.av), avI ((nth fs fn).params.length + (nth fs fn).locals), avI (nth fs fn).code.length]) ∧ m.next ≤ m'.next ∧ ∀ id, id < m.next → m'.get id = m.get id := by
    unfold aBody cf38
    repeat' (first | simp -implicitDefEqProofs (disch := (first | omega | (simp only [go_sem, List.length_append, Nat.zero_add, Nat.reduceAdd, Nat.reduceLT] <;> omega) | fail)) only [go_sem, ↓reduceIte, Nat.reduceEqDiff, Nat.reduceAdd, Nat.reduceLT, Nat.reduceLeDiff, Nat.reduceBEq, reduceCtorEq] | ((with_reducible first | refine g_dec (fun h d => ?_) (fun h d => ?_) | refine c_dec (fun h d => ?_) (fun h d => ?_) | refine s_dec (fun h d => ?_) (fun h d => ?_) | refine g_ndec (fun h d => ?_) (fun h d => ?_) | refine c_ndec (fun h d => ?_) (fun h d => ?_) | refine g_nbool (fun h d => ?_) (fun h d => ?_) | refine c_nbool (fun h d => ?_) (fun h d => ?_) | refine g_bool (fun h d => ?_) (fun h d => ?_) | refine c_bool (fun h d => ?_) (fun h d => ?_) | refine s_bool (fun h d => ?_) (fun h d => ?_)) <;> (try simp only [d]) <;> (try simp only [Bool.or_eq_true, Bool.and_eq_true, Bool.or_eq_false_iff, Bool.and_eq_false_iff, decide_eq_true_eq, decide_eq_false_iff_not, Bool.not_eq_true', Bool.not_eq_false'] at h) <;> (try omega)))
    exact ⟨by omega, fun id hid => by simp -implicitDefEqProofs (disch := (first | omega | (simp only [go_sem, List.length_append, Nat.zero_add, Nat.reduceAdd, Nat.reduceLT] <;> omega) | fail)) only [go_sem, ↓reduceIte, Nat.reduceEqDiff, Nat.reduceAdd, Nat.reduceLT, Nat.reduceLeDiff, Nat.reduceBEq, reduceCtorEq]⟩
  obtain ⟨o, m', h1, rfl, h2, h3⟩ := key
  exact ⟨m', h1, h2, h3⟩
/-- May a function of a program be so? -/
def fok (l : List GT) (fs : List GF) (fn : Int) : Bool :=
  let f := nth fs fn
  if 16 < f.params.length ∨ f.locals < 0 ∨ 32 < f.params.length + f.locals then false
  else if f.code.length < 1 ∨ 300 < f.code.length ∨ (fn = 0 ∧ (0 < f.params.length ∨ f.result ≠ 0)) then false
  else typed l f.params && typed l [f.result] && ends (nth f.code (f.code.length - 1)).op && f.code.all fun i => ir (K3 l) (P3 l) fs.length (f.params.length + f.locals) f.code.length i.op i.a i.b
set_option maxHeartbeats 2000000 in
theorem sp_function (n : Nat) (l : List GT) (fs : List GF) (fn : Int) (h0 : 0 ≤ fn) (h1 : fn < fs.length) (hw : (nth fs fn).wf) (m : AMem) :
    callsN cfg (n + 5) 20 [.agg [tsl 3 (l.map GT.av), tsl 4 (fs.map GF.av)], avI fn] m = some (.ret (.bool (fok l fs fn)), m) := by
  rw [ce20]
  refine borrow_wp (targs := [.agg [tsl 3 (l.map GT.av), tsl 4 (fs.map GF.av)], avI fn]) (by simp only [go_sem]) ?_ rfl
  unfold aBody cf20
  obtain ⟨_, wp, wr, wl, _, wc⟩ := hw
  have ht : (nth fs fn).params.length ≤ 1000 → ∀ m, callsN cfg (n + 4) 36 [tsl 3 (l.map GT.av), tsl 1 ((nth fs fn).params.map avI)] m = some (.ret (.bool (typed l (nth fs fn).params)), m) := fun h m => sp_typed (n + 2) l _ wp h m
  have wl' := i64_iff.1 wl
  have ht1 := sp_typed1 (n + 2) l (nth fs fn).result wr
  obtain ⟨fS, hS⟩ : ∃ fS : AMem → AMem, (nth fs fn).params.length + (nth fs fn).locals ≤ 32 ∧ 0 ≤ (nth fs fn).locals → ∀ m, callsN cfg (n + 4) 38 [tsl 3 (l.map GT.av), tsl 4 (fs.map GF.av), avI fn] m =
      some (.ret (.agg [tsl 3 (l.map GT.av), tsl 4 (fs.map GF.av), avI ((nth fs fn).params.length + (nth fs fn).locals), avI (nth fs fn).code.length]), fS m) ∧ m.next ≤ (fS m).next ∧ ∀ id, id < m.next → (fS m).get id = m.get id := by
    by_cases h : (nth fs fn).params.length + (nth fs fn).locals ≤ 32 ∧ 0 ≤ (nth fs fn).locals
    · obtain ⟨fS, hS⟩ := Classical.skolem.1 fun m => sp_Scope (n + 3) l fs fn h0 h1 h.1 h.2 m
      exact ⟨fS, fun _ => hS⟩
    · exact ⟨id, fun a => absurd a h⟩
  have hS1 := fun m (a : (nth fs fn).params.length + (nth fs fn).locals ≤ 32) (b : 0 ≤ (nth fs fn).locals) => (hS ⟨a, b⟩ m).1
  have hS2 := fun m i (a : (nth fs fn).params.length + (nth fs fn).locals ≤ 32) (b : 0 ≤ (nth fs fn).locals) (h : i < m.next) => eq_true (Nat.lt_of_lt_of_le h (hS ⟨a, b⟩ m).2.1)
  have hS3 := fun m (a : (nth fs fn).params.length + (nth fs fn).locals ≤ 32) (b : 0 ≤ (nth fs fn).locals) => (hS ⟨a, b⟩ m).2.2
  have key : ∀ (env : AEnv) (m : AMem), (nth fs fn).params.length ≤ 16 → 0 ≤ (nth fs fn).locals → (nth fs fn).params.length + (nth fs fn).locals ≤ 32 → 1 ≤ (nth fs fn).code.length → (nth fs fn).code.length ≤ 300 → (fn = 0 → (nth fs fn).params.length = 0 ∧ (nth fs fn).result = 0) →
      typed l (nth fs fn).params = true → typed l [(nth fs fn).result] = true → ends (nth (nth fs fn).code ((nth fs fn).code.length - 1)).op = true →
      m.get 7 = some (.arr 48 4 [(nth fs fn).av]) → m.get 97 = some (.arr 87 4 [.agg [tsl 3 (l.map GT.av), tsl 4 (fs.map GF.av), avI ((nth fs fn).params.length + (nth fs fn).locals), avI (nth fs fn).code.length]]) →
      env 5 = .ptr 7 0 0 → env 9 = .ptr 97 0 0 → env 10 = avI 0 →
      Wp (loopN LOOPK (aCode (callsN cfg (n + 4)) lb20_0) env m (KBlk 0 (KSeq (callsN cfg (n + 4)) ls20_0 (fin [.slot 4])))) fun o m' => RetIs m' (.bool (fok l fs fn)) o := by
    intro env m q1 q2 q3 q4 q5 q6 q7 q8 q9 g7 g97 e5 e9 e10
    refine wp_loop (fun (i : Int) (env : AEnv) (m : AMem) => (0 ≤ i ∧ i ≤ (nth fs fn).code.length ∧ ∀ j, 0 ≤ j → j < i → (fun (x : GI) => ir (K3 l) (P3 l) fs.length ((nth fs fn).params.length + (nth fs fn).locals) (nth fs fn).code.length x.op x.a x.b) (nth (nth fs fn).code j) = true) ∧
        m.get 7 = some (.arr 48 4 [(nth fs fn).av]) ∧ m.get 97 = some (.arr 87 4 [.agg [tsl 3 (l.map GT.av), tsl 4 (fs.map GF.av), avI ((nth fs fn).params.length + (nth fs fn).locals), avI (nth fs fn).code.length]]) ∧
        env 5 = .ptr 7 0 0 ∧ env 9 = .ptr 97 0 0 ∧ env 10 = avI i) (fun i => ((nth fs fn).code.length - i).toNat)
      (fun i env m K' ⟨⟨hi0, hi1, hall⟩, g7, g97, e5, e9, e10⟩ hN hE => ?_) LOOPK 0 _ _ ⟨⟨by omega, by omega, fun j a b => by omega⟩, g7, g97, e5, e9, e10⟩ (by rw [LOOPK_eq]; omega)
    have hI : ∀ (h1 : i < (nth fs fn).code.length) (m : AMem), callsN cfg (n + 4) 39 [(nth (nth fs fn).code i).av, .agg [tsl 3 (l.map GT.av), tsl 4 (fs.map GF.av), avI ((nth fs fn).params.length + (nth fs fn).locals), avI (nth fs fn).code.length]] m =
        some (.ret (.bool (ir (K3 l) (P3 l) fs.length ((nth fs fn).params.length + (nth fs fn).locals) (nth fs fn).code.length (nth (nth fs fn).code i).op (nth (nth fs fn).code i).a (nth (nth fs fn).code i).b)), m) := fun h1 m =>
      sp_iRight4 n l fs _ _ _ _ _ (wc _ (nth_mem _ _ hi0 h1)).2.1 m
    unfold lb20_0
    repeat' (first | simp -implicitDefEqProofs (disch := (first | omega | (simp only [go_sem, List.length_append, Nat.zero_add, Nat.reduceAdd, Nat.reduceLT] <;> omega) | fail)) only [go_sem, ↓reduceIte, Nat.reduceEqDiff, Nat.reduceAdd, Nat.reduceLT, Nat.reduceLeDiff, Nat.reduceBEq, reduceCtorEq, g7, g97, e5, e9, e10, hI] | ((with_reducible first | refine g_dec (fun h d => ?_) (fun h d => ?_) | refine c_dec (fun h d => ?_) (fun h d => ?_) | refine s_dec (fun h d => ?_) (fun h d => ?_) | refine g_ndec (fun h d => ?_) (fun h d => ?_) | refine c_ndec (fun h d => ?_) (fun h d => ?_) | refine g_nbool (fun h d => ?_) (fun h d => ?_) | refine c_nbool (fun h d => ?_) (fun h d => ?_) | refine g_bool (fun h d => ?_) (fun h d => ?_) | refine c_bool (fun h d => ?_) (fun h d => ?_) | refine s_bool (fun h d => ?_) (fun h d => ?_)) <;> (try simp only [d]) <;> (try simp only [Bool.or_eq_true, Bool.and_eq_true, Bool.or_eq_false_iff, Bool.and_eq_false_iff, decide_eq_true_eq, decide_eq_false_iff_not, Bool.not_eq_true', Bool.not_eq_false'] at h) <;> (try omega)))
    all_goals (with_reducible first | refine hN (i + 1) _ _ ?_ ?_ | refine (hE _ _).1 _ ?_ | refine (hE _ _).2.1 ?_)
    all_goals try omega
    all_goals try unfold ls20_0
    all_goals repeat' (first | simp -implicitDefEqProofs (disch := (first | omega | (simp only [go_sem, List.length_append, Nat.zero_add, Nat.reduceAdd, Nat.reduceLT] <;> omega) | fail)) only [go_sem, ↓reduceIte, Nat.reduceEqDiff, Nat.reduceAdd, Nat.reduceLT, Nat.reduceLeDiff, Nat.reduceBEq, reduceCtorEq, g7, g97, e5, e9, e10] | ((with_reducible first | refine g_dec (fun h d => ?_) (fun h d => ?_) | refine c_dec (fun h d => ?_) (fun h d => ?_) | refine s_dec (fun h d => ?_) (fun h d => ?_) | refine g_ndec (fun h d => ?_) (fun h d => ?_) | refine c_ndec (fun h d => ?_) (fun h d => ?_) | refine g_nbool (fun h d => ?_) (fun h d => ?_) | refine c_nbool (fun h d => ?_) (fun h d => ?_) | refine g_bool (fun h d => ?_) (fun h d => ?_) | refine c_bool (fun h d => ?_) (fun h d => ?_) | refine s_bool (fun h d => ?_) (fun h d => ?_)) <;> (try simp only [d]) <;> (try simp only [Bool.or_eq_true, Bool.and_eq_true, Bool.or_eq_false_iff, Bool.and_eq_false_iff, decide_eq_true_eq, decide_eq_false_iff_not, Bool.not_eq_true', Bool.not_eq_false'] at h) <;> (try omega)))
    · have hA := all_nth_f (p := fun (x : GI) => ir (K3 l) (P3 l) fs.length ((nth fs fn).params.length + (nth fs fn).locals) (nth fs fn).code.length x.op x.a x.b) hi0 (by assumption) (by assumption)
      unfold fok
      rw [if_neg (by omega), if_neg (by omega), hA, Bool.and_false]
    · exact ⟨by omega, by omega, all_step (p := fun (x : GI) => ir (K3 l) (P3 l) fs.length ((nth fs fn).params.length + (nth fs fn).locals) (nth fs fn).code.length x.op x.a x.b) hall (by assumption)⟩
    · have hA := all_nth (p := fun (x : GI) => ir (K3 l) (P3 l) fs.length ((nth fs fn).params.length + (nth fs fn).locals) (nth fs fn).code.length x.op x.a x.b) fun j a b => hall j a (by omega)
      unfold fok
      rw [if_neg (by omega), if_neg (by omega), hA, q7, q8, q9]
      rfl
  repeat' (first | simp -implicitDefEqProofs (disch := (first | omega | (simp only [room_next, put_next, kill_next, empty_next, List.length_map, List.length_cons, List.length_nil, List.length_append, Nat.zero_add, Nat.reduceAdd, Nat.reduceLT] <;> omega) | (simp -implicitDefEqProofs (disch := (first | omega | (simp only [room_next, put_next, kill_next, empty_next, List.length_map, List.length_cons, List.length_nil, List.length_append, Nat.zero_add, Nat.reduceAdd, Nat.reduceLT] <;> omega) | fail)) only [go_sem, ↓reduceIte, Nat.reduceEqDiff, Nat.reduceAdd, Nat.reduceLT, Nat.reduceLeDiff, Nat.reduceBEq, reduceCtorEq, ht, ht1, sp_Ends4, hS1, hS2, hS3]; done) | fail)) only [go_sem, ↓reduceIte, Nat.reduceEqDiff, Nat.reduceAdd, Nat.reduceLT, Nat.reduceLeDiff, Nat.reduceBEq, reduceCtorEq, ht, ht1, sp_Ends4, hS1, hS2, hS3] | ((with_reducible first | refine g_dec (fun h d => ?_) (fun h d => ?_) | refine c_dec (fun h d => ?_) (fun h d => ?_) | refine s_dec (fun h d => ?_) (fun h d => ?_) | refine g_ndec (fun h d => ?_) (fun h d => ?_) | refine c_ndec (fun h d => ?_) (fun h d => ?_) | refine g_nbool (fun h d => ?_) (fun h d => ?_) | refine c_nbool (fun h d => ?_) (fun h d => ?_) | refine g_bool (fun h d => ?_) (fun h d => ?_) | refine c_bool (fun h d => ?_) (fun h d => ?_) | refine s_bool (fun h d => ?_) (fun h d => ?_)) <;> (try simp only [d]) <;> (try simp only [Bool.or_eq_true, Bool.and_eq_true, Bool.or_eq_false_iff, Bool.and_eq_false_iff, decide_eq_true_eq, decide_eq_false_iff_not, Bool.not_eq_true', Bool.not_eq_false'] at h) <;> (try omega)))
  all_goals try (refine key _ _ ?_ ?_ ?_ ?_ ?_ ?_ ?_ ?_ ?_ ?_ ?_ ?_ ?_ ?_)
  all_goals try omega
  all_goals try (with_reducible assumption)
  all_goals try (simp -implicitDefEqProofs (disch := (first | omega | (simp only [room_next, put_next, kill_next, empty_next, List.length_map, List.length_cons, List.length_nil, List.length_append, Nat.zero_add, Nat.reduceAdd, Nat.reduceLT] <;> omega) | (simp -implicitDefEqProofs (disch := (first | omega | (simp only [room_next, put_next, kill_next, empty_next, List.length_map, List.length_cons, List.length_nil, List.length_append, Nat.zero_add, Nat.reduceAdd, Nat.reduceLT] <;> omega) | fail)) only [go_sem, ↓reduceIte, Nat.reduceEqDiff, Nat.reduceAdd, Nat.reduceLT, Nat.reduceLeDiff, Nat.reduceBEq, reduceCtorEq, hS2, hS3]; done) | fail)) only [go_sem, ↓reduceIte, Nat.reduceEqDiff, Nat.reduceAdd, Nat.reduceLT, Nat.reduceLeDiff, Nat.reduceBEq, reduceCtorEq, hS2, hS3]; done)
  all_goals (simp only [fok]; (repeat' split) <;> first
    | rfl
    | omega
    | (rw [(by assumption : typed l (nth fs fn).params = false)]; rfl)
    | (rw [(by assumption : typed l [(nth fs fn).result] = false), Bool.and_false]; rfl)
    | (rw [(by assumption : ends (nth (nth fs fn).code ((nth fs fn).code.length - 1)).op = false), Bool.and_false]; rfl))
end Go.Proofs.YtiijjopdhjpalaaDoor

/-! What the functions of chapter 10 answer: may a program be? Conditions: none. -/
namespace Go.Proofs.YtiijjopdhjpalaaDoor
open Go
set_option linter.unusedSimpArgs false
set_option linter.unusedVariables false
/-- Of all places below n. -/
def allI (n : Nat) (p : Int → Bool) : Bool := (List.range n).all fun k => p k
theorem allI_t {n : Nat} {p : Int → Bool} (h : ∀ j : Int, 0 ≤ j → j < n → p j = true) : allI n p = true := by
  unfold allI
  rw [List.all_eq_true]
  intro k hk
  exact h k (by omega) (by have := List.mem_range.1 hk; omega)
theorem allI_f {n : Nat} {p : Int → Bool} {j : Int} (h0 : 0 ≤ j) (h1 : j < n) (h : p j = false) : allI n p = false := by
  cases ha : allI n p with
  | false => rfl
  | true =>
    unfold allI at ha
    rw [List.all_eq_true] at ha
    have := ha j.toNat (List.mem_range.2 (by omega))
    rw [show ((j.toNat : Nat) : Int) = j by omega, h] at this
    cases this
theorem allI_step {p : Int → Bool} {i : Int} (h : ∀ j : Int, 0 ≤ j → j < i → p j = true) (hi : p i = true) : ∀ j : Int, 0 ≤ j → j < i + 1 → p j = true := fun j h0 h1 => by
  by_cases e : j = i
  · rw [e]; exact hi
  · exact h j h0 (by omega)
/-- May a program be so? -/
def rok (p : GP) : Bool := decide ((tr p.types).2 = 0) && decide (1 ≤ p.funcs.length ∧ p.funcs.length ≤ 50) && allI p.funcs.length (fok p.types p.funcs)
set_option maxHeartbeats 1000000 in
theorem sp_rok (n : Nat) (p : GP) (hp : p.wf) (m : AMem) : callsN cfg (n + 6) 11 [.agg [tsl 3 (p.types.map GT.av), tsl 4 (p.funcs.map GF.av)]] m = some (.ret (.bool (rok p)), m) := by
  rw [ce11]
  refine borrow_wp (targs := [.agg [tsl 3 (p.types.map GT.av), tsl 4 (p.funcs.map GF.av)]]) (by simp only [go_sem]) ?_ rfl
  unfold aBody cf11
  obtain ⟨_, wt, _, wf⟩ := hp
  have key : ∀ (env : AEnv) (m : AMem), (tr p.types).2 = 0 → 1 ≤ p.funcs.length → p.funcs.length ≤ 50 → m.get 0 = some (.arr 25 2 [.agg [tsl 3 (p.types.map GT.av), tsl 4 (p.funcs.map GF.av)]]) → env 1 = .ptr 0 0 0 → env 5 = avI 0 →
      Wp (loopN LOOPK (aCode (callsN cfg (n + 5)) lb11_0) env m (KBlk 0 (KSeq (callsN cfg (n + 5)) ls11_0 (fin [.slot 2])))) fun o m' => RetIs m' (.bool (rok p)) o := by
    intro env m q1 q2 q3 g0 e1 e5
    refine wp_loop (fun (i : Int) (env : AEnv) (m : AMem) => (0 ≤ i ∧ i ≤ p.funcs.length ∧ ∀ j, 0 ≤ j → j < i → fok p.types p.funcs j = true) ∧ m.get 0 = some (.arr 25 2 [.agg [tsl 3 (p.types.map GT.av), tsl 4 (p.funcs.map GF.av)]]) ∧ env 1 = .ptr 0 0 0 ∧ env 5 = avI i) (fun i => (p.funcs.length - i).toNat)
      (fun i env m K' ⟨⟨hi0, hi1, hall⟩, g0, e1, e5⟩ hN hE => ?_) LOOPK 0 _ _ ⟨⟨by omega, by omega, fun j a b => by omega⟩, g0, e1, e5⟩ (by rw [LOOPK_eq]; omega)
    have hF := fun (h1 : i < p.funcs.length) => sp_function n p.types p.funcs i hi0 h1 (wf _ (nth_mem _ _ hi0 h1))
    unfold lb11_0
    repeat' (first | simp -implicitDefEqProofs (disch := (first | omega | (simp only [go_sem, List.length_append, Nat.zero_add, Nat.reduceAdd, Nat.reduceLT] <;> omega) | fail)) only [go_sem, ↓reduceIte, Nat.reduceEqDiff, Nat.reduceAdd, Nat.reduceLT, Nat.reduceLeDiff, Nat.reduceBEq, reduceCtorEq, g0, e1, e5, hF] | ((with_reducible first | refine g_dec (fun h d => ?_) (fun h d => ?_) | refine c_dec (fun h d => ?_) (fun h d => ?_) | refine s_dec (fun h d => ?_) (fun h d => ?_) | refine g_ndec (fun h d => ?_) (fun h d => ?_) | refine c_ndec (fun h d => ?_) (fun h d => ?_) | refine g_nbool (fun h d => ?_) (fun h d => ?_) | refine c_nbool (fun h d => ?_) (fun h d => ?_) | refine g_bool (fun h d => ?_) (fun h d => ?_) | refine c_bool (fun h d => ?_) (fun h d => ?_) | refine s_bool (fun h d => ?_) (fun h d => ?_)) <;> (try simp only [d]) <;> (try simp only [Bool.or_eq_true, Bool.and_eq_true, Bool.or_eq_false_iff, Bool.and_eq_false_iff, decide_eq_true_eq, decide_eq_false_iff_not, Bool.not_eq_true', Bool.not_eq_false'] at h) <;> (try omega)))
    all_goals (with_reducible first | refine hN (i + 1) _ _ ?_ ?_ | refine (hE _ _).1 _ ?_ | refine (hE _ _).2.1 ?_)
    all_goals try omega
    all_goals try unfold ls11_0
    all_goals repeat' (first | simp -implicitDefEqProofs (disch := (first | omega | (simp only [go_sem, List.length_append, Nat.zero_add, Nat.reduceAdd, Nat.reduceLT] <;> omega) | fail)) only [go_sem, ↓reduceIte, Nat.reduceEqDiff, Nat.reduceAdd, Nat.reduceLT, Nat.reduceLeDiff, Nat.reduceBEq, reduceCtorEq, g0, e1, e5] | ((with_reducible first | refine g_dec (fun h d => ?_) (fun h d => ?_) | refine c_dec (fun h d => ?_) (fun h d => ?_) | refine s_dec (fun h d => ?_) (fun h d => ?_) | refine g_ndec (fun h d => ?_) (fun h d => ?_) | refine c_ndec (fun h d => ?_) (fun h d => ?_) | refine g_nbool (fun h d => ?_) (fun h d => ?_) | refine c_nbool (fun h d => ?_) (fun h d => ?_) | refine g_bool (fun h d => ?_) (fun h d => ?_) | refine c_bool (fun h d => ?_) (fun h d => ?_) | refine s_bool (fun h d => ?_) (fun h d => ?_)) <;> (try simp only [d]) <;> (try simp only [Bool.or_eq_true, Bool.and_eq_true, Bool.or_eq_false_iff, Bool.and_eq_false_iff, decide_eq_true_eq, decide_eq_false_iff_not, Bool.not_eq_true', Bool.not_eq_false'] at h) <;> (try omega)))
    · have hA := allI_f (p := fok p.types p.funcs) hi0 (by assumption) (by assumption)
      unfold rok
      rw [hA, Bool.and_false]
    · exact ⟨by omega, by omega, allI_step hall (by assumption)⟩
    · have hA := allI_t (n := p.funcs.length) (p := fok p.types p.funcs) fun j a b => hall j a (by omega)
      unfold rok
      rw [hA, decide_eq_true q1, decide_eq_true ⟨q2, q3⟩]
      rfl
  have hR := fun m => sp_Right3 (n + 1) p.types m wt
  repeat' (first | simp -implicitDefEqProofs (disch := (first | omega | (simp only [go_sem, List.length_append, Nat.zero_add, Nat.reduceAdd, Nat.reduceLT] <;> omega) | fail)) only [go_sem, ↓reduceIte, Nat.reduceEqDiff, Nat.reduceAdd, Nat.reduceLT, Nat.reduceLeDiff, Nat.reduceBEq, reduceCtorEq, hR] | ((with_reducible first | refine g_dec (fun h d => ?_) (fun h d => ?_) | refine c_dec (fun h d => ?_) (fun h d => ?_) | refine s_dec (fun h d => ?_) (fun h d => ?_) | refine g_ndec (fun h d => ?_) (fun h d => ?_) | refine c_ndec (fun h d => ?_) (fun h d => ?_) | refine g_nbool (fun h d => ?_) (fun h d => ?_) | refine c_nbool (fun h d => ?_) (fun h d => ?_) | refine g_bool (fun h d => ?_) (fun h d => ?_) | refine c_bool (fun h d => ?_) (fun h d => ?_) | refine s_bool (fun h d => ?_) (fun h d => ?_)) <;> (try simp only [d]) <;> (try simp only [Bool.or_eq_true, Bool.and_eq_true, Bool.or_eq_false_iff, Bool.and_eq_false_iff, decide_eq_true_eq, decide_eq_false_iff_not, Bool.not_eq_true', Bool.not_eq_false'] at h) <;> (try omega)))
  all_goals try (refine key _ _ ?_ ?_ ?_ ?_ ?_ ?_)
  all_goals try omega
  all_goals try (simp -implicitDefEqProofs (disch := (first | omega | (simp only [go_sem, List.length_append, Nat.zero_add, Nat.reduceAdd, Nat.reduceLT] <;> omega) | fail)) only [go_sem, ↓reduceIte, Nat.reduceEqDiff, Nat.reduceAdd, Nat.reduceLT, Nat.reduceLeDiff, Nat.reduceBEq, reduceCtorEq]; done)
  all_goals (unfold rok; (first | rfl | (rw [Bool.eq_iff_iff]; simp only [Bool.or_eq_true, Bool.and_eq_true, Bool.or_eq_false_iff, Bool.and_eq_false_iff, decide_eq_true_eq, decide_eq_false_iff_not, Bool.not_eq_true', Bool.not_eq_false', Bool.false_eq_true, eq_self, true_iff, false_iff, iff_true, iff_false] <;> omega)))
end Go.Proofs.YtiijjopdhjpalaaDoor

/-! What the functions of chapter 10 answer: may a function be? Conditions: none. -/
namespace Go.Proofs.YtiijjopdhjpalaaDoor
open Go
set_option linter.unusedSimpArgs false
set_option linter.unusedVariables false
def fokT (tk : Int → Int) (tp : Int → List Int) (nf : Int) (f : GF) : Bool :=
  if 16 < f.params.length ∨ f.locals < 0 ∨ 32 - f.params.length < f.locals ∨ f.code.length < 1 ∨ 300 < f.code.length ∨ tk f.result < 0 then false
  else f.params.all (fun x => decide (0 ≤ tk x)) && (f.code.all (fun i => ir tk tp nf (f.params.length + f.locals) f.code.length i.op i.a i.b)) && ends (nth f.code (f.code.length - 1)).op
set_option maxHeartbeats 2000000 in
theorem sp_right (n : Nat) (p : GP) (all : List GT) (k : List Int) (f : GF) (hw : f.wf) (hp : ∀ x ∈ all, x.parts.length ≤ 1000) (hl : p.funcs.length ≤ 1000) (m : AMem) :
    callsN cfg (n + 4) 18 [.agg [tsl 3 (p.types.map GT.av), tsl 4 (p.funcs.map GF.av)], TT all k, f.av] m = some (.ret (.bool (fokT (TK all) (TP all) p.funcs.length f)), m) := by
  rw [ce18]
  refine borrow_wp (targs := [.agg [tsl 3 (p.types.map GT.av), tsl 4 (p.funcs.map GF.av)], TT all k, f.av]) (by simp only [go_sem]) ?_ rfl
  unfold aBody cf18
  obtain ⟨_, wp, wr, wl, _, wc⟩ := hw
  rw [i64_iff] at wl
  generalize hF : fokT (TK all) (TP all) p.funcs.length f = F
  have key2 : ∀ (env : AEnv) (m : AMem) (id : Nat), f.params.length ≤ 16 → 0 ≤ f.locals → f.params.length + f.locals ≤ 32 → 1 ≤ f.code.length → f.code.length ≤ 300 → 0 ≤ TK all f.result → f.params.all (fun x => decide (0 ≤ TK all x)) = true →
      2 ≤ m.next → 2 ≤ id → id < m.next →
      m.get 1 = some (.arr 48 4 [f.av]) → m.get id = some (.arr 81 4 [.agg [TT all k, tsl 4 (p.funcs.map GF.av), avI (f.params.length + f.locals), avI f.code.length]]) →
      env 5 = .ptr 1 0 0 → env 9 = .ptr id 0 0 → env 75 = tsl 3 (f.code.map GI.av) → env 76 = avI f.code.length → env 77 = avI 0 →
      Wp (loopN LOOPK (aCode (callsN cfg (n + 3)) lb18_1) env m (KBlk 2 (KSeq (callsN cfg (n + 3)) ls18_0 (fin [.slot 6])))) fun o m' => RetIs m' (.bool F) o := by
    intro env m id q1 q2 q3 q4 q5 q6 q7 hn h2 hid g1 g9 e5 e9 e75 e76 e77
    refine wp_loop (fun (i : Int) (env : AEnv) (m : AMem) => (0 ≤ i ∧ i ≤ f.code.length ∧ ∀ j, 0 ≤ j → j < i → (fun (x : GI) => ir (TK all) (TP all) p.funcs.length (f.params.length + f.locals) f.code.length x.op x.a x.b) (nth f.code j) = true) ∧ id < m.next ∧
        m.get 1 = some (.arr 48 4 [f.av]) ∧ m.get id = some (.arr 81 4 [.agg [TT all k, tsl 4 (p.funcs.map GF.av), avI (f.params.length + f.locals), avI f.code.length]]) ∧
        env 5 = .ptr 1 0 0 ∧ env 9 = .ptr id 0 0 ∧ env 75 = tsl 3 (f.code.map GI.av) ∧ env 76 = avI f.code.length ∧ env 77 = avI i) (fun i => (f.code.length - i).toNat)
      (fun i env m K' ⟨⟨hi0, hi1, hall⟩, hid, g1, g9, e5, e9, e75, e76, e77⟩ hN hE => ?_) LOOPK 0 _ _ ⟨⟨by omega, by omega, fun j a b => by omega⟩, hid, g1, g9, e5, e9, e75, e76, e77⟩ (by rw [LOOPK_eq]; omega)
    have hI : ∀ (h1 : i < f.code.length) (m : AMem), callsN cfg (n + 3) 33 [(nth f.code i).av, .agg [TT all k, tsl 4 (p.funcs.map GF.av), avI (f.params.length + f.locals), avI f.code.length]] m =
        some (.ret (.bool (ir (TK all) (TP all) p.funcs.length (f.params.length + f.locals) f.code.length (nth f.code i).op (nth f.code i).a (nth f.code i).b)), m) := fun h1 m =>
      sp_iRight n all k p.funcs _ _ _ _ _ hp (wc _ (nth_mem _ _ hi0 h1)).1 m
    unfold lb18_1
    repeat' (first | simp -implicitDefEqProofs (disch := (first | omega | (simp only [go_sem, List.length_append, Nat.zero_add, Nat.reduceAdd, Nat.reduceLT] <;> omega) | fail)) only [go_sem, ↓reduceIte, Nat.reduceEqDiff, Nat.reduceAdd, Nat.reduceLT, Nat.reduceLeDiff, Nat.reduceBEq, reduceCtorEq, g1, g9, e5, e9, e75, e76, e77, hI] | ((with_reducible first | refine g_dec (fun h d => ?_) (fun h d => ?_) | refine c_dec (fun h d => ?_) (fun h d => ?_) | refine s_dec (fun h d => ?_) (fun h d => ?_) | refine g_ndec (fun h d => ?_) (fun h d => ?_) | refine c_ndec (fun h d => ?_) (fun h d => ?_) | refine g_nbool (fun h d => ?_) (fun h d => ?_) | refine c_nbool (fun h d => ?_) (fun h d => ?_) | refine g_bool (fun h d => ?_) (fun h d => ?_) | refine c_bool (fun h d => ?_) (fun h d => ?_) | refine s_bool (fun h d => ?_) (fun h d => ?_)) <;> (try simp only [d]) <;> (try simp only [Bool.or_eq_true, Bool.and_eq_true, Bool.or_eq_false_iff, Bool.and_eq_false_iff, decide_eq_true_eq, decide_eq_false_iff_not, Bool.not_eq_true', Bool.not_eq_false'] at h) <;> (try omega)))
    all_goals (with_reducible first | refine hN (i + 1) _ _ ?_ ?_ | refine (hE _ _).1 _ ?_ | refine (hE _ _).2.1 ?_)
    all_goals try omega
    all_goals try unfold ls18_0
    all_goals repeat' (first | simp -implicitDefEqProofs (disch := (first | omega | (simp only [go_sem, List.length_append, Nat.zero_add, Nat.reduceAdd, Nat.reduceLT] <;> omega) | fail)) only [go_sem, ↓reduceIte, Nat.reduceEqDiff, Nat.reduceAdd, Nat.reduceLT, Nat.reduceLeDiff, Nat.reduceBEq, reduceCtorEq, g1, g9, e5, e9, e75, e76, e77, sp_Ends] | ((with_reducible first | refine g_dec (fun h d => ?_) (fun h d => ?_) | refine c_dec (fun h d => ?_) (fun h d => ?_) | refine s_dec (fun h d => ?_) (fun h d => ?_) | refine g_ndec (fun h d => ?_) (fun h d => ?_) | refine c_ndec (fun h d => ?_) (fun h d => ?_) | refine g_nbool (fun h d => ?_) (fun h d => ?_) | refine c_nbool (fun h d => ?_) (fun h d => ?_) | refine g_bool (fun h d => ?_) (fun h d => ?_) | refine c_bool (fun h d => ?_) (fun h d => ?_) | refine s_bool (fun h d => ?_) (fun h d => ?_)) <;> (try simp only [d]) <;> (try simp only [Bool.or_eq_true, Bool.and_eq_true, Bool.or_eq_false_iff, Bool.and_eq_false_iff, decide_eq_true_eq, decide_eq_false_iff_not, Bool.not_eq_true', Bool.not_eq_false'] at h) <;> (try omega)))
    · have hA := all_nth_f (p := (fun (x : GI) => ir (TK all) (TP all) p.funcs.length (f.params.length + f.locals) f.code.length x.op x.a x.b)) hi0 (by assumption) (by assumption)
      rw [← hF, fokT, if_neg (by omega), hA, Bool.and_false, Bool.false_and]
    · first
        | exact ⟨by omega, by omega, all_step (p := (fun (x : GI) => ir (TK all) (TP all) p.funcs.length (f.params.length + f.locals) f.code.length x.op x.a x.b)) hall (by assumption)⟩
        | exact ⟨⟨by omega, by omega, all_step (p := (fun (x : GI) => ir (TK all) (TP all) p.funcs.length (f.params.length + f.locals) f.code.length x.op x.a x.b)) hall (by assumption)⟩, by omega⟩
    · have hA := all_nth (p := (fun (x : GI) => ir (TK all) (TP all) p.funcs.length (f.params.length + f.locals) f.code.length x.op x.a x.b)) fun j a b => hall j a (by omega)
      rw [← hF, fokT, if_neg (by omega), hA, q7, Bool.true_and, Bool.true_and]
  have key1 : ∀ (env : AEnv) (m : AMem), f.params.length ≤ 16 → 0 ≤ f.locals → f.params.length + f.locals ≤ 32 → 1 ≤ f.code.length → f.code.length ≤ 300 → 0 ≤ TK all f.result → 2 ≤ m.next →
      m.get 0 = some (.arr 25 2 [.agg [tsl 3 (p.types.map GT.av), tsl 4 (p.funcs.map GF.av)]]) → m.get 1 = some (.arr 48 4 [f.av]) →
      env 1 = TT all k → env 3 = .ptr 0 0 0 → env 5 = .ptr 1 0 0 → env 50 = tsl 1 (f.params.map avI) → env 51 = avI f.params.length → env 52 = avI 0 →
      Wp (loopN LOOPK (aCode (callsN cfg (n + 3)) lb18_0) env m (KBlk 0 (KSeq (callsN cfg (n + 3)) ls18_1 (fin [.slot 6])))) fun o m' => RetIs m' (.bool F) o := by
    intro env m q1 q2 q3 q4 q5 q6 hn g0 g1 e1 e3 e5 e50 e51 e52
    refine wp_loop (fun (i : Int) (env : AEnv) (m : AMem) => (0 ≤ i ∧ i ≤ f.params.length ∧ ∀ j, 0 ≤ j → j < i → (fun x => decide (0 ≤ TK all x)) (nth f.params j) = true) ∧ 2 ≤ m.next ∧
        m.get 0 = some (.arr 25 2 [.agg [tsl 3 (p.types.map GT.av), tsl 4 (p.funcs.map GF.av)]]) ∧ m.get 1 = some (.arr 48 4 [f.av]) ∧
        env 1 = TT all k ∧ env 3 = .ptr 0 0 0 ∧ env 5 = .ptr 1 0 0 ∧ env 50 = tsl 1 (f.params.map avI) ∧ env 51 = avI f.params.length ∧ env 52 = avI i) (fun i => (f.params.length - i).toNat)
      (fun i env m K' ⟨⟨hi0, hi1, hall⟩, hn, g0, g1, e1, e3, e5, e50, e51, e52⟩ hN hE => ?_) LOOPK 0 _ _ ⟨⟨by omega, by omega, fun j a b => by omega⟩, hn, g0, g1, e1, e3, e5, e50, e51, e52⟩ (by rw [LOOPK_eq]; omega)
    unfold lb18_0
    repeat' (first | simp -implicitDefEqProofs (disch := (first | omega | (simp only [go_sem, List.length_append, Nat.zero_add, Nat.reduceAdd, Nat.reduceLT] <;> omega) | fail)) only [go_sem, ↓reduceIte, Nat.reduceEqDiff, Nat.reduceAdd, Nat.reduceLT, Nat.reduceLeDiff, Nat.reduceBEq, reduceCtorEq, g0, g1, e1, e3, e5, e50, e51, e52, sp_TKind] | ((with_reducible first | refine g_dec (fun h d => ?_) (fun h d => ?_) | refine c_dec (fun h d => ?_) (fun h d => ?_) | refine s_dec (fun h d => ?_) (fun h d => ?_) | refine g_ndec (fun h d => ?_) (fun h d => ?_) | refine c_ndec (fun h d => ?_) (fun h d => ?_) | refine g_nbool (fun h d => ?_) (fun h d => ?_) | refine c_nbool (fun h d => ?_) (fun h d => ?_) | refine g_bool (fun h d => ?_) (fun h d => ?_) | refine c_bool (fun h d => ?_) (fun h d => ?_) | refine s_bool (fun h d => ?_) (fun h d => ?_)) <;> (try simp only [d]) <;> (try simp only [Bool.or_eq_true, Bool.and_eq_true, Bool.or_eq_false_iff, Bool.and_eq_false_iff, decide_eq_true_eq, decide_eq_false_iff_not, Bool.not_eq_true', Bool.not_eq_false'] at h) <;> (try omega)))
    all_goals (with_reducible first | refine hN (i + 1) _ _ ?_ ?_ | refine (hE _ _).1 _ ?_ | refine (hE _ _).2.1 ?_)
    all_goals try omega
    all_goals try unfold ls18_1
    all_goals repeat' (first | simp -implicitDefEqProofs (disch := (first | omega | (simp only [go_sem, List.length_append, Nat.zero_add, Nat.reduceAdd, Nat.reduceLT] <;> omega) | fail)) only [go_sem, ↓reduceIte, Nat.reduceEqDiff, Nat.reduceAdd, Nat.reduceLT, Nat.reduceLeDiff, Nat.reduceBEq, reduceCtorEq, g0, g1, e1, e3, e5, e50, e51, e52] | ((with_reducible first | refine g_dec (fun h d => ?_) (fun h d => ?_) | refine c_dec (fun h d => ?_) (fun h d => ?_) | refine s_dec (fun h d => ?_) (fun h d => ?_) | refine g_ndec (fun h d => ?_) (fun h d => ?_) | refine c_ndec (fun h d => ?_) (fun h d => ?_) | refine g_nbool (fun h d => ?_) (fun h d => ?_) | refine c_nbool (fun h d => ?_) (fun h d => ?_) | refine g_bool (fun h d => ?_) (fun h d => ?_) | refine c_bool (fun h d => ?_) (fun h d => ?_) | refine s_bool (fun h d => ?_) (fun h d => ?_)) <;> (try simp only [d]) <;> (try simp only [Bool.or_eq_true, Bool.and_eq_true, Bool.or_eq_false_iff, Bool.and_eq_false_iff, decide_eq_true_eq, decide_eq_false_iff_not, Bool.not_eq_true', Bool.not_eq_false'] at h) <;> (try omega)))
    · have hA := all_nth_f (p := (fun x => decide (0 ≤ TK all x))) (l := f.params) hi0 (by assumption) (decide_eq_false (by omega))
      rw [← hF, fokT, if_neg (by omega), hA, Bool.false_and, Bool.false_and]
    · first
        | exact ⟨by omega, by omega, all_step (p := (fun x => decide (0 ≤ TK all x))) hall (decide_eq_true (by omega))⟩
        | exact ⟨⟨by omega, by omega, all_step (p := (fun x => decide (0 ≤ TK all x))) hall (decide_eq_true (by omega))⟩, by omega⟩
    · have hA := all_nth (p := (fun x => decide (0 ≤ TK all x))) (l := f.params) fun j a b => hall j a (by omega)
      refine key2 _ _ (m.next + 1 + 13) q1 q2 q3 q4 q5 q6 hA ?_ ?_ ?_ ?_ ?_ ?_ ?_ ?_ ?_ ?_
      all_goals try omega
      all_goals try (simp -implicitDefEqProofs (disch := (first | omega | (simp only [go_sem, List.length_append, Nat.zero_add, Nat.reduceAdd, Nat.reduceLT] <;> omega) | fail)) only [go_sem, ↓reduceIte, Nat.reduceEqDiff, Nat.reduceAdd, Nat.reduceLT, Nat.reduceLeDiff, Nat.reduceBEq, reduceCtorEq, g0, g1, e1, e3, e5, e50, e51, e52]; done)
  repeat' (first | simp -implicitDefEqProofs (disch := (first | omega | (simp only [go_sem, List.length_append, Nat.zero_add, Nat.reduceAdd, Nat.reduceLT] <;> omega) | fail)) only [go_sem, ↓reduceIte, Nat.reduceEqDiff, Nat.reduceAdd, Nat.reduceLT, Nat.reduceLeDiff, Nat.reduceBEq, reduceCtorEq, sp_TKind] | ((with_reducible first | refine g_dec (fun h d => ?_) (fun h d => ?_) | refine c_dec (fun h d => ?_) (fun h d => ?_) | refine s_dec (fun h d => ?_) (fun h d => ?_) | refine g_ndec (fun h d => ?_) (fun h d => ?_) | refine c_ndec (fun h d => ?_) (fun h d => ?_) | refine g_nbool (fun h d => ?_) (fun h d => ?_) | refine c_nbool (fun h d => ?_) (fun h d => ?_) | refine g_bool (fun h d => ?_) (fun h d => ?_) | refine c_bool (fun h d => ?_) (fun h d => ?_) | refine s_bool (fun h d => ?_) (fun h d => ?_)) <;> (try simp only [d]) <;> (try simp only [Bool.or_eq_true, Bool.and_eq_true, Bool.or_eq_false_iff, Bool.and_eq_false_iff, decide_eq_true_eq, decide_eq_false_iff_not, Bool.not_eq_true', Bool.not_eq_false'] at h) <;> (try omega)))
  all_goals try (refine key1 _ _ ?_ ?_ ?_ ?_ ?_ ?_ ?_ ?_ ?_ ?_ ?_ ?_ ?_ ?_ ?_)
  all_goals try omega
  all_goals try (simp -implicitDefEqProofs (disch := (first | omega | (simp only [go_sem, List.length_append, Nat.zero_add, Nat.reduceAdd, Nat.reduceLT] <;> omega) | fail)) only [go_sem, ↓reduceIte, Nat.reduceEqDiff, Nat.reduceAdd, Nat.reduceLT, Nat.reduceLeDiff, Nat.reduceBEq, reduceCtorEq]; done)
  all_goals (rw [← hF, fokT, if_pos (by omega)])
end Go.Proofs.YtiijjopdhjpalaaDoor

/-! What the functions of chapter 10 answer: classes of types, first part. Conditions: none. -/
namespace Go.Proofs.YtiijjopdhjpalaaDoor
open Go
set_option linter.unusedSimpArgs false
set_option linter.unusedVariables false
/-- A slice of numbers, owned, among the objects below B. -/
def PI (m : AMem) (B : Nat) (pv : AV) (ps : List Int) : Prop :=
  (ps = [] ∧ (pv = .nils ∨ pv = .ts 0 [])) ∨ (ps ≠ [] ∧ ∃ id, id < B ∧ pv = .sl 1 id 0 ps.length ∧ m.get id = some (.arr 3 1 (ps.map avI)))
theorem PI.len {m : AMem} {B : Nat} {pv : AV} {ps : List Int} (h : PI m B pv ps) : lenK pv = some (avI ps.length) := by
  rcases h with ⟨rfl, rfl | rfl⟩ | ⟨_, id, _, rfl, _⟩ <;> rfl
theorem PI.one {m : AMem} {B : Nat} {pv : AV} {ps : List Int} (h : PI m B pv ps) : pv.one = true ∧ pv.isAgg = false ∧ pv.cells = [pv] := by
  rcases h with ⟨_, rfl | rfl⟩ | ⟨_, id, _, rfl, _⟩ <;> exact ⟨rfl, rfl, rfl⟩
theorem PI.frame {m m' : AMem} {B B' : Nat} {pv : AV} {ps : List Int} (h : PI m B pv ps) (hB : B ≤ B') (hf : ∀ id ps, id < B → m.get id = some (.arr 3 1 ps) → m'.get id = some (.arr 3 1 ps)) : PI m' B' pv ps := by
  rcases h with h | ⟨h, id, a, b, c⟩
  · exact .inl h
  · exact .inr ⟨h, id, by omega, b, hf id _ a c⟩
theorem PI.read {m : AMem} {B : Nat} {pv : AV} {ps : List Int} (h : PI m B pv ps) (n : Nat) : rb m (n + 2) pv = some (tsl 1 (ps.map avI)) := by
  rcases h with ⟨rfl, rfl | rfl⟩ | ⟨h, id, _, rfl, hg⟩
  · rfl
  · rfl
  · have hl : 0 < ps.length := by
      cases ps with
      | nil => exact absurd rfl h
      | cons => simp
    rw [yrb_sl m (n + 1) 1 id 0 ps.length hl, hg, rslK_s _ _ _ _ _ _ _ (by simp), tsl_ne h]
    have key : ∀ l : List Int, rbL (rb m (n + 1)) (l.map avI) = some (l.map avI) := by
      intro l
      induction l with
      | nil => rfl
      | cons x r ih => rw [List.map_cons, yrbL_cons, ih]; rfl
    rw [List.drop_zero, List.take_of_length_le (by simp), key]
    rfl
theorem PI.readN {m : AMem} {B : Nat} {pv : AV} {ps : List Int} (h : PI m B pv ps) (n : Nat) : rbN m (n + 2) pv = some (tsl 1 (ps.map avI)) := by
  rcases h with ⟨rfl, rfl | rfl⟩ | ⟨h, id, _, rfl, hg⟩
  · rfl
  · rfl
  · have hl : 0 < ps.length := by
      cases ps with
      | nil => exact absurd rfl h
      | cons => simp
    rw [ynb_sl m (n + 1) 1 id 0 ps.length hl, hg, nslK_s _ _ _ _ _ _ _ (by simp), tsl_ne h]
    have key : ∀ l : List Int, rbL (rbN m (n + 1)) (l.map avI) = some (l.map avI) := by
      intro l
      induction l with
      | nil => rfl
      | cons x r ih => rw [List.map_cons, yrbL_cons, ih]; rfl
    rw [List.drop_zero, List.take_of_length_le (by simp), key]
    rfl
/-- A type, its parts owned. -/
def EI (m : AMem) (B : Nat) (e : AV) (x : GT) : Prop := ∃ pv, e = .agg [avI x.kind, pv, avI x.of] ∧ PI m B pv x.parts
/-- A list of them. -/
structure LI (m : AMem) (B : Nat) (es : List AV) (l : List GT) : Prop where
  len : es.length = l.length
  el : ∀ (j : Int), 0 ≤ j → j < l.length → ∃ e, es[j.toNat]? = some e ∧ EI m B e (nth l j)
theorem LI.frame {m m' : AMem} {B B' : Nat} {es : List AV} {l : List GT} (h : LI m B es l) (hB : B ≤ B') (hf : ∀ id ps, id < B → m.get id = some (.arr 3 1 ps) → m'.get id = some (.arr 3 1 ps)) : LI m' B' es l :=
  ⟨h.len, fun j h0 h1 => by
    obtain ⟨e, he, pv, h2, h3⟩ := h.el j h0 h1
    exact ⟨e, he, pv, h2, h3.frame hB hf⟩⟩
/-- The closure of classes: is it of one kind and length with the i-th? -/
theorem sp_like (n : Nat) (m : AMem) (V1 V2 T A B : Nat) (t1 t2 t3 s3 : Nat) (lk : AV) (es : List AV) (all : List GT) (i : Int) (x : GT) (pv : AV)
    (hx : PI m B pv x.parts) (h0 : 0 ≤ i) (h1 : i < all.length) (hA : LI m B es all)
    (g1 : m.get V1 = some (.arr t1 1 [.ptr T 0 0])) (g2 : m.get V2 = some (.arr t2 1 [avI i])) (gT : m.get T = some (.arr t3 2 [.agg [.sl 3 A 0 all.length, lk]])) (gA : m.get A = some (.arr s3 3 es))
    (l1 : V1 < m.next) (l2 : V2 < m.next) (lT : T < m.next) (lA : A < m.next) (hlk : lk.isAgg = false) :
    ∃ m', callsN cfg (n + 1) 55 [.agg [avI x.kind, pv, avI x.of], .ptr V1 0 0, .ptr V2 0 0] m = some (.ret (.bool (decide (x.kind = (nth all i).kind ∧ x.parts.length = (nth all i).parts.length))), m') ∧ m.next ≤ m'.next ∧ ∀ id, id < m.next → m'.get id = m.get id := by
  rw [ce55]
  obtain ⟨e, he, pw, rfl, hw⟩ := hA.el i h0 h1
  obtain ⟨o1, o2, o3⟩ := hx.one
  obtain ⟨p1, p2, p3⟩ := hw.one
  have n1 := hx.len
  have n2 := hw.len
  have key : Wp (aBody (callsN cfg n) cf55 [.agg [avI x.kind, pv, avI x.of], .ptr V1 0 0, .ptr V2 0 0] m) fun o m' => o = .ret (.bool (decide (x.kind = (nth all i).kind ∧ x.parts.length = (nth all i).parts.length))) ∧ m.next ≤ m'.next ∧ ∀ id, id < m.next → m'.get id = m.get id := by
    unfold aBody cf55
    repeat' (first | simp -implicitDefEqProofs (disch := (first | omega | (simp only [go_sem, List.length_append, Nat.zero_add, Nat.reduceAdd, Nat.reduceLT] <;> omega) | fail)) only [go_sem, ↓reduceIte, Nat.reduceEqDiff, Nat.reduceAdd, Nat.reduceLT, Nat.reduceLeDiff, Nat.reduceBEq, reduceCtorEq, g1, g2, gT, gA, he, o1, o2, o3, p1, p2, p3, n1, n2] | ((with_reducible first | refine g_dec (fun h d => ?_) (fun h d => ?_) | refine c_dec (fun h d => ?_) (fun h d => ?_) | refine s_dec (fun h d => ?_) (fun h d => ?_) | refine g_ndec (fun h d => ?_) (fun h d => ?_) | refine c_ndec (fun h d => ?_) (fun h d => ?_) | refine g_nbool (fun h d => ?_) (fun h d => ?_) | refine c_nbool (fun h d => ?_) (fun h d => ?_) | refine g_bool (fun h d => ?_) (fun h d => ?_) | refine c_bool (fun h d => ?_) (fun h d => ?_) | refine s_bool (fun h d => ?_) (fun h d => ?_)) <;> (try simp only [d]) <;> (try simp only [Bool.or_eq_true, Bool.and_eq_true, Bool.or_eq_false_iff, Bool.and_eq_false_iff, decide_eq_true_eq, decide_eq_false_iff_not, Bool.not_eq_true', Bool.not_eq_false'] at h) <;> (try omega)))
    all_goals exact ⟨congrArg (fun b => AOut.ret (.bool b)) (by (first | rfl | (rw [Bool.eq_iff_iff]; simp only [Bool.or_eq_true, Bool.and_eq_true, Bool.or_eq_false_iff, Bool.and_eq_false_iff, decide_eq_true_eq, decide_eq_false_iff_not, Bool.not_eq_true', Bool.not_eq_false', Bool.false_eq_true, eq_self, true_iff, false_iff, iff_true, iff_false] <;> omega))), by omega, fun id hid => by simp -implicitDefEqProofs (disch := (first | omega | (simp only [go_sem, List.length_append, Nat.zero_add, Nat.reduceAdd, Nat.reduceLT] <;> omega) | fail)) only [go_sem, ↓reduceIte, Nat.reduceEqDiff, Nat.reduceAdd, Nat.reduceLT, Nat.reduceLeDiff, Nat.reduceBEq, reduceCtorEq]⟩
  obtain ⟨o, m', h1, rfl, h2, h3⟩ := key
  exact ⟨m', h1, h2, h3⟩
theorem find_some_lt {α : Type} {l : List α} {p : α → Bool} {i : Nat} (h : l.findIdx? p = some i) : i < l.length := by
  rw [List.findIdx?_eq_some_iff_getElem] at h
  exact h.1
/-- slices.IndexFunc with that closure: the first of one kind and length. -/
theorem sp_IndexFunc (n : Nat) (m : AMem) (V1 V2 T A B : Nat) (t1 t2 t3 s3 : Nat) (lk : AV) (es : List AV) (all : List GT) (i : Int)
    (h0 : 0 ≤ i) (h1 : i < all.length) (hlen : all.length ≤ 1000) (hA : LI m B es all) (hB : B ≤ m.next)
    (g1 : m.get V1 = some (.arr t1 1 [.ptr T 0 0])) (g2 : m.get V2 = some (.arr t2 1 [avI i])) (gT : m.get T = some (.arr t3 2 [.agg [.sl 3 A 0 all.length, lk]])) (gA : m.get A = some (.arr s3 3 es))
    (l1 : V1 < m.next) (l2 : V2 < m.next) (lT : T < m.next) (lA : A < m.next) (hlk : lk.isAgg = false) :
    ∃ (m' : AMem) (r : Nat), all.findIdx? (fun x => decide (x.kind = (nth all i).kind ∧ x.parts.length = (nth all i).parts.length)) = some r ∧
      callsN cfg (n + 2) 54 [.sl 3 A 0 all.length, .fn (.func 55) [] [.ptr V1 0 0, .ptr V2 0 0]] m = some (.ret (avI r), m') ∧ m.next ≤ m'.next ∧ ∀ id, id < m.next → m'.get id = m.get id := by
  rw [ce54]
  have key : Wp (aBody (callsN cfg (n + 1)) cf54 [.sl 3 A 0 all.length, .fn (.func 55) [] [.ptr V1 0 0, .ptr V2 0 0]] m) fun o m' =>
      (∃ r : Nat, all.findIdx? (fun x => decide (x.kind = (nth all i).kind ∧ x.parts.length = (nth all i).parts.length)) = some r ∧ o = .ret (avI r)) ∧ m.next ≤ m'.next ∧ ∀ id, id < m.next → m'.get id = m.get id := by
    unfold aBody cf54
    repeat' (first | simp -implicitDefEqProofs (disch := (first | omega | (simp only [go_sem, List.length_append, Nat.zero_add, Nat.reduceAdd, Nat.reduceLT] <;> omega) | fail)) only [go_sem, ↓reduceIte, Nat.reduceEqDiff, Nat.reduceAdd, Nat.reduceLT, Nat.reduceLeDiff, Nat.reduceBEq, reduceCtorEq] | ((with_reducible first | refine g_dec (fun h d => ?_) (fun h d => ?_) | refine c_dec (fun h d => ?_) (fun h d => ?_) | refine s_dec (fun h d => ?_) (fun h d => ?_) | refine g_ndec (fun h d => ?_) (fun h d => ?_) | refine c_ndec (fun h d => ?_) (fun h d => ?_) | refine g_nbool (fun h d => ?_) (fun h d => ?_) | refine c_nbool (fun h d => ?_) (fun h d => ?_) | refine g_bool (fun h d => ?_) (fun h d => ?_) | refine c_bool (fun h d => ?_) (fun h d => ?_) | refine s_bool (fun h d => ?_) (fun h d => ?_)) <;> (try simp only [d]) <;> (try simp only [Bool.or_eq_true, Bool.and_eq_true, Bool.or_eq_false_iff, Bool.and_eq_false_iff, decide_eq_true_eq, decide_eq_false_iff_not, Bool.not_eq_true', Bool.not_eq_false'] at h) <;> (try omega)))
    refine wp_loop (fun (j : Int) (env : AEnv) (w : AMem) => (0 ≤ j ∧ j ≤ all.length ∧ ∀ q, 0 ≤ q → q < j → (!(fun (x : GT) => decide (x.kind = (nth all i).kind ∧ x.parts.length = (nth all i).parts.length)) (nth all q)) = true) ∧ m.next ≤ w.next ∧ (∀ id, id < m.next → w.get id = m.get id) ∧
        env 0 = .sl 3 A 0 all.length ∧ env 1 = .fn (.func 55) [] [.ptr V1 0 0, .ptr V2 0 0] ∧ env 7 = avI all.length ∧ env 8 = avI j) (fun j => (all.length - j).toNat)
      (fun j env w K' ⟨⟨hi0, hi1, hall⟩, hn, hm, e0, e1, e7, e8⟩ hN hE => ?_) LOOPK 0 _ _ ⟨⟨by omega, by omega, fun j a b => by omega⟩, by simp -implicitDefEqProofs (disch := (first | omega | (simp only [go_sem, List.length_append, Nat.zero_add, Nat.reduceAdd, Nat.reduceLT] <;> omega) | fail)) only [go_sem, ↓reduceIte, Nat.reduceEqDiff, Nat.reduceAdd, Nat.reduceLT, Nat.reduceLeDiff, Nat.reduceBEq, reduceCtorEq]; omega, fun id hid => by simp -implicitDefEqProofs (disch := (first | omega | (simp only [go_sem, List.length_append, Nat.zero_add, Nat.reduceAdd, Nat.reduceLT] <;> omega) | fail)) only [go_sem, ↓reduceIte, Nat.reduceEqDiff, Nat.reduceAdd, Nat.reduceLT, Nat.reduceLeDiff, Nat.reduceBEq, reduceCtorEq], by simp -implicitDefEqProofs (disch := (first | omega | (simp only [go_sem, List.length_append, Nat.zero_add, Nat.reduceAdd, Nat.reduceLT] <;> omega) | fail)) only [go_sem, ↓reduceIte, Nat.reduceEqDiff, Nat.reduceAdd, Nat.reduceLT, Nat.reduceLeDiff, Nat.reduceBEq, reduceCtorEq], by simp -implicitDefEqProofs (disch := (first | omega | (simp only [go_sem, List.length_append, Nat.zero_add, Nat.reduceAdd, Nat.reduceLT] <;> omega) | fail)) only [go_sem, ↓reduceIte, Nat.reduceEqDiff, Nat.reduceAdd, Nat.reduceLT, Nat.reduceLeDiff, Nat.reduceBEq, reduceCtorEq], by simp -implicitDefEqProofs (disch := (first | omega | (simp only [go_sem, List.length_append, Nat.zero_add, Nat.reduceAdd, Nat.reduceLT] <;> omega) | fail)) only [go_sem, ↓reduceIte, Nat.reduceEqDiff, Nat.reduceAdd, Nat.reduceLT, Nat.reduceLeDiff, Nat.reduceBEq, reduceCtorEq], by simp -implicitDefEqProofs (disch := (first | omega | (simp only [go_sem, List.length_append, Nat.zero_add, Nat.reduceAdd, Nat.reduceLT] <;> omega) | fail)) only [go_sem, ↓reduceIte, Nat.reduceEqDiff, Nat.reduceAdd, Nat.reduceLT, Nat.reduceLeDiff, Nat.reduceBEq, reduceCtorEq]⟩ (by rw [LOOPK_eq]; omega)
    unfold lb54_0
    by_cases hj : j < all.length
    · obtain ⟨e, he, pw, rfl, hw⟩ := hA.el j hi0 hj
      have gA' : w.get A = some (.arr s3 3 es) := (hm A lA).trans gA
      have gT' := (hm T lT).trans gT
      have g1' := (hm V1 l1).trans g1
      have g2' := (hm V2 l2).trans g2
      obtain ⟨p1, p2, p3⟩ := hw.one
      have fr : ∀ (q : AMem), (∀ id, id < m.next → q.get id = m.get id) → PI q B pw (nth all j).parts := fun q hq => hw.frame (Nat.le_refl _) fun id ps hid hg => (hq id (by omega)).trans hg
      have frA : ∀ (q : AMem), (∀ id, id < m.next → q.get id = m.get id) → LI q B es all := fun q hq => hA.frame (Nat.le_refl _) fun id ps hid hg => (hq id (by omega)).trans hg
      obtain ⟨q', c1, c2, c3⟩ := sp_like n (((w.room 1).room 2).room 6) V1 V2 T A B t1 t2 t3 s3 lk es all i (nth all j) pw (fr _ hm) h0 h1 (frA _ hm) g1' g2' gT' gA' (by simp only [room_next]; omega) (by simp only [room_next]; omega) (by simp only [room_next]; omega) (by simp only [room_next]; omega) hlk
      simp only [room_next, room_get] at c2 c3
      repeat' (first | simp -implicitDefEqProofs (disch := (first | omega | (simp only [go_sem, List.length_append, Nat.zero_add, Nat.reduceAdd, Nat.reduceLT] <;> omega) | fail)) only [go_sem, ↓reduceIte, Nat.reduceEqDiff, Nat.reduceAdd, Nat.reduceLT, Nat.reduceLeDiff, Nat.reduceBEq, reduceCtorEq, e0, e1, e7, e8, gA', he, p1, p2, p3, c1] | ((with_reducible first | refine g_dec (fun h d => ?_) (fun h d => ?_) | refine c_dec (fun h d => ?_) (fun h d => ?_) | refine s_dec (fun h d => ?_) (fun h d => ?_) | refine g_ndec (fun h d => ?_) (fun h d => ?_) | refine c_ndec (fun h d => ?_) (fun h d => ?_) | refine g_nbool (fun h d => ?_) (fun h d => ?_) | refine c_nbool (fun h d => ?_) (fun h d => ?_) | refine g_bool (fun h d => ?_) (fun h d => ?_) | refine c_bool (fun h d => ?_) (fun h d => ?_) | refine s_bool (fun h d => ?_) (fun h d => ?_)) <;> (try simp only [d]) <;> (try simp only [Bool.or_eq_true, Bool.and_eq_true, Bool.or_eq_false_iff, Bool.and_eq_false_iff, decide_eq_true_eq, decide_eq_false_iff_not, Bool.not_eq_true', Bool.not_eq_false'] at h) <;> (try omega)))
      all_goals (with_reducible first | refine hN (j + 1) _ _ ?_ ?_ | refine (hE _ _).1 _ ?_ | refine (hE _ _).2.1 ?_)
      all_goals try omega
      · repeat' (first | simp -implicitDefEqProofs (disch := (first | omega | (simp only [go_sem, List.length_append, Nat.zero_add, Nat.reduceAdd, Nat.reduceLT] <;> omega) | fail)) only [go_sem, ↓reduceIte, Nat.reduceEqDiff, Nat.reduceAdd, Nat.reduceLT, Nat.reduceLeDiff, Nat.reduceBEq, reduceCtorEq, e0, e1, e7, e8] | ((with_reducible first | refine g_dec (fun h d => ?_) (fun h d => ?_) | refine c_dec (fun h d => ?_) (fun h d => ?_) | refine s_dec (fun h d => ?_) (fun h d => ?_) | refine g_ndec (fun h d => ?_) (fun h d => ?_) | refine c_ndec (fun h d => ?_) (fun h d => ?_) | refine g_nbool (fun h d => ?_) (fun h d => ?_) | refine c_nbool (fun h d => ?_) (fun h d => ?_) | refine g_bool (fun h d => ?_) (fun h d => ?_) | refine c_bool (fun h d => ?_) (fun h d => ?_) | refine s_bool (fun h d => ?_) (fun h d => ?_)) <;> (try simp only [d]) <;> (try simp only [Bool.or_eq_true, Bool.and_eq_true, Bool.or_eq_false_iff, Bool.and_eq_false_iff, decide_eq_true_eq, decide_eq_false_iff_not, Bool.not_eq_true', Bool.not_eq_false'] at h) <;> (try omega)))
        have hf := first_some (p := fun (x : GT) => decide (x.kind = (nth all i).kind ∧ x.parts.length = (nth all i).parts.length)) hi0 hj hall (by assumption)
        exact ⟨⟨_, hf, congrArg (fun b => AOut.ret (.int .i64 b)) (by omega)⟩, by omega, fun id hid => (c3 id (by omega)).trans (hm id hid)⟩
      · refine ⟨⟨by omega, by omega, all_step (p := fun (x : GT) => !decide (x.kind = (nth all i).kind ∧ x.parts.length = (nth all i).parts.length)) hall (by simp only [Bool.not_eq_true', decide_eq_false_iff_not]; assumption)⟩, ?_⟩
        refine ⟨by simp -implicitDefEqProofs (disch := (first | omega | (simp only [go_sem, List.length_append, Nat.zero_add, Nat.reduceAdd, Nat.reduceLT] <;> omega) | fail)) only [go_sem, ↓reduceIte, Nat.reduceEqDiff, Nat.reduceAdd, Nat.reduceLT, Nat.reduceLeDiff, Nat.reduceBEq, reduceCtorEq]; omega, fun id hid => ?_, by simp -implicitDefEqProofs (disch := (first | omega | (simp only [go_sem, List.length_append, Nat.zero_add, Nat.reduceAdd, Nat.reduceLT] <;> omega) | fail)) only [go_sem, ↓reduceIte, Nat.reduceEqDiff, Nat.reduceAdd, Nat.reduceLT, Nat.reduceLeDiff, Nat.reduceBEq, reduceCtorEq, e0], by simp -implicitDefEqProofs (disch := (first | omega | (simp only [go_sem, List.length_append, Nat.zero_add, Nat.reduceAdd, Nat.reduceLT] <;> omega) | fail)) only [go_sem, ↓reduceIte, Nat.reduceEqDiff, Nat.reduceAdd, Nat.reduceLT, Nat.reduceLeDiff, Nat.reduceBEq, reduceCtorEq, e1], by simp -implicitDefEqProofs (disch := (first | omega | (simp only [go_sem, List.length_append, Nat.zero_add, Nat.reduceAdd, Nat.reduceLT] <;> omega) | fail)) only [go_sem, ↓reduceIte, Nat.reduceEqDiff, Nat.reduceAdd, Nat.reduceLT, Nat.reduceLeDiff, Nat.reduceBEq, reduceCtorEq, e7], by simp -implicitDefEqProofs (disch := (first | omega | (simp only [go_sem, List.length_append, Nat.zero_add, Nat.reduceAdd, Nat.reduceLT] <;> omega) | fail)) only [go_sem, ↓reduceIte, Nat.reduceEqDiff, Nat.reduceAdd, Nat.reduceLT, Nat.reduceLeDiff, Nat.reduceBEq, reduceCtorEq, e8]⟩
        simp only [room_get]
        exact (c3 id (by omega)).trans (hm id hid)
    · exfalso
      have hall' := hall i h0 (by omega)
      simp at hall'
  obtain ⟨o, m', h1, ⟨r, hr, rfl⟩, h2, h3⟩ := key
  exact ⟨m', r, hr, h1, h2, h3⟩
end Go.Proofs.YtiijjopdhjpalaaDoor

/-! What the functions of chapter 10 answer: classes of types, second part. Conditions: none. -/
namespace Go.Proofs.YtiijjopdhjpalaaDoor
open Go
set_option linter.unusedSimpArgs false
set_option linter.unusedVariables false
/-- Does what stands in two types go together? -/
def goesB (all : List GT) (like : List Int) (a b : Int) : Bool :=
  allI (nth all a).parts.length (fun i => decide (nth like (nth (nth all a).parts i) = nth like (nth (nth all b).parts i))) && decide (nth like (nth all a).of = nth like (nth all b).of)
/-- All places in a list of types are there. -/
def Inside (all : List GT) : Prop := ∀ x ∈ all, (∀ p ∈ x.parts, 0 ≤ p ∧ p < all.length) ∧ 0 ≤ x.of ∧ x.of < all.length
theorem Inside.part {all : List GT} (h : Inside all) {a i : Int} (h0 : 0 ≤ a) (h1 : a < all.length) (h2 : 0 ≤ i) (h3 : i < (nth all a).parts.length) : 0 ≤ nth (nth all a).parts i ∧ nth (nth all a).parts i < all.length :=
  (h _ (nth_mem _ _ h0 h1)).1 _ (nth_mem _ _ h2 h3)
theorem Inside.of {all : List GT} (h : Inside all) {a : Int} (h0 : 0 ≤ a) (h1 : a < all.length) : 0 ≤ (nth all a).of ∧ (nth all a).of < all.length := (h _ (nth_mem _ _ h0 h1)).2
theorem sp_goes (n : Nat) (all : List GT) (like : List Int) (a b : Int) (a0 : 0 ≤ a) (a1 : a < all.length) (b0 : 0 ≤ b) (b1 : b < all.length) (hin : Inside all) (hl : like.length = all.length) (hp : (nth all a).parts.length = (nth all b).parts.length) (hm : (nth all a).parts.length ≤ 1000) (m : AMem) :
    callsN cfg (n + 1) 56 [TT all like, avI a, avI b] m = some (.ret (.bool (goesB all like a b)), m) := by
  rw [ce56]
  refine borrow_wp (targs := [TT all like, avI a, avI b]) (by simp only [go_sem]) ?_ rfl
  unfold aBody cf56
  repeat' (first | simp -implicitDefEqProofs (disch := (first | omega | (simp only [go_sem, List.length_append, Nat.zero_add, Nat.reduceAdd, Nat.reduceLT] <;> omega) | fail)) only [go_sem, ↓reduceIte, Nat.reduceEqDiff, Nat.reduceAdd, Nat.reduceLT, Nat.reduceLeDiff, Nat.reduceBEq, reduceCtorEq] | ((with_reducible first | refine g_dec (fun h d => ?_) (fun h d => ?_) | refine c_dec (fun h d => ?_) (fun h d => ?_) | refine s_dec (fun h d => ?_) (fun h d => ?_) | refine g_ndec (fun h d => ?_) (fun h d => ?_) | refine c_ndec (fun h d => ?_) (fun h d => ?_) | refine g_nbool (fun h d => ?_) (fun h d => ?_) | refine c_nbool (fun h d => ?_) (fun h d => ?_) | refine g_bool (fun h d => ?_) (fun h d => ?_) | refine c_bool (fun h d => ?_) (fun h d => ?_) | refine s_bool (fun h d => ?_) (fun h d => ?_)) <;> (try simp only [d]) <;> (try simp only [Bool.or_eq_true, Bool.and_eq_true, Bool.or_eq_false_iff, Bool.and_eq_false_iff, decide_eq_true_eq, decide_eq_false_iff_not, Bool.not_eq_true', Bool.not_eq_false'] at h) <;> (try omega)))
  refine wp_loop (fun (i : Int) (env : AEnv) (m : AMem) => (0 ≤ i ∧ i ≤ (nth all a).parts.length ∧ ∀ j, 0 ≤ j → j < i → (fun i => decide (nth like (nth (nth all a).parts i) = nth like (nth (nth all b).parts i))) j = true) ∧ env 0 = TT all like ∧ env 1 = avI a ∧ env 2 = avI b ∧ env 16 = tsl 1 ((nth all a).parts.map avI) ∧ env 17 = avI (nth all a).parts.length ∧ env 18 = avI i) (fun i => ((nth all a).parts.length - i).toNat)
      (fun i env m K' ⟨⟨hi0, hi1, hall⟩, e0, e1, e2, e16, e17, e18⟩ hN hE => ?_) LOOPK 0 _ _ ⟨⟨by omega, by omega, fun j a b => by omega⟩, by simp -implicitDefEqProofs (disch := (first | omega | (simp only [go_sem, List.length_append, Nat.zero_add, Nat.reduceAdd, Nat.reduceLT] <;> omega) | fail)) only [go_sem, ↓reduceIte, Nat.reduceEqDiff, Nat.reduceAdd, Nat.reduceLT, Nat.reduceLeDiff, Nat.reduceBEq, reduceCtorEq], by simp -implicitDefEqProofs (disch := (first | omega | (simp only [go_sem, List.length_append, Nat.zero_add, Nat.reduceAdd, Nat.reduceLT] <;> omega) | fail)) only [go_sem, ↓reduceIte, Nat.reduceEqDiff, Nat.reduceAdd, Nat.reduceLT, Nat.reduceLeDiff, Nat.reduceBEq, reduceCtorEq], by simp -implicitDefEqProofs (disch := (first | omega | (simp only [go_sem, List.length_append, Nat.zero_add, Nat.reduceAdd, Nat.reduceLT] <;> omega) | fail)) only [go_sem, ↓reduceIte, Nat.reduceEqDiff, Nat.reduceAdd, Nat.reduceLT, Nat.reduceLeDiff, Nat.reduceBEq, reduceCtorEq], by simp -implicitDefEqProofs (disch := (first | omega | (simp only [go_sem, List.length_append, Nat.zero_add, Nat.reduceAdd, Nat.reduceLT] <;> omega) | fail)) only [go_sem, ↓reduceIte, Nat.reduceEqDiff, Nat.reduceAdd, Nat.reduceLT, Nat.reduceLeDiff, Nat.reduceBEq, reduceCtorEq], by simp -implicitDefEqProofs (disch := (first | omega | (simp only [go_sem, List.length_append, Nat.zero_add, Nat.reduceAdd, Nat.reduceLT] <;> omega) | fail)) only [go_sem, ↓reduceIte, Nat.reduceEqDiff, Nat.reduceAdd, Nat.reduceLT, Nat.reduceLeDiff, Nat.reduceBEq, reduceCtorEq], by simp -implicitDefEqProofs (disch := (first | omega | (simp only [go_sem, List.length_append, Nat.zero_add, Nat.reduceAdd, Nat.reduceLT] <;> omega) | fail)) only [go_sem, ↓reduceIte, Nat.reduceEqDiff, Nat.reduceAdd, Nat.reduceLT, Nat.reduceLeDiff, Nat.reduceBEq, reduceCtorEq]⟩ (by rw [LOOPK_eq]; omega)
  unfold lb56_0
  have ra := fun (h : i < (nth all a).parts.length) => hin.part a0 a1 hi0 h
  have rb := fun (h : i < (nth all b).parts.length) => hin.part b0 b1 hi0 h
  have oa := hin.of a0 a1
  have ob := hin.of b0 b1
  by_cases hi : i < (nth all a).parts.length
  · have ra := ra hi
    have rb := rb (by omega)
    repeat' (first | simp -implicitDefEqProofs (disch := (first | omega | (simp only [go_sem, List.length_append, Nat.zero_add, Nat.reduceAdd, Nat.reduceLT] <;> omega) | fail)) only [go_sem, ↓reduceIte, Nat.reduceEqDiff, Nat.reduceAdd, Nat.reduceLT, Nat.reduceLeDiff, Nat.reduceBEq, reduceCtorEq, e0, e1, e2, e16, e17, e18] | ((with_reducible first | refine g_dec (fun h d => ?_) (fun h d => ?_) | refine c_dec (fun h d => ?_) (fun h d => ?_) | refine s_dec (fun h d => ?_) (fun h d => ?_) | refine g_ndec (fun h d => ?_) (fun h d => ?_) | refine c_ndec (fun h d => ?_) (fun h d => ?_) | refine g_nbool (fun h d => ?_) (fun h d => ?_) | refine c_nbool (fun h d => ?_) (fun h d => ?_) | refine g_bool (fun h d => ?_) (fun h d => ?_) | refine c_bool (fun h d => ?_) (fun h d => ?_) | refine s_bool (fun h d => ?_) (fun h d => ?_)) <;> (try simp only [d]) <;> (try simp only [Bool.or_eq_true, Bool.and_eq_true, Bool.or_eq_false_iff, Bool.and_eq_false_iff, decide_eq_true_eq, decide_eq_false_iff_not, Bool.not_eq_true', Bool.not_eq_false'] at h) <;> (try omega)))
    all_goals (with_reducible first | refine hN (i + 1) _ _ ?_ ?_ | refine (hE _ _).1 _ ?_ | refine (hE _ _).2.1 ?_)
    all_goals try omega
    · repeat' (first | simp -implicitDefEqProofs (disch := (first | omega | (simp only [go_sem, List.length_append, Nat.zero_add, Nat.reduceAdd, Nat.reduceLT] <;> omega) | fail)) only [go_sem, ↓reduceIte, Nat.reduceEqDiff, Nat.reduceAdd, Nat.reduceLT, Nat.reduceLeDiff, Nat.reduceBEq, reduceCtorEq, e0, e1, e2, e16, e17, e18] | ((with_reducible first | refine g_dec (fun h d => ?_) (fun h d => ?_) | refine c_dec (fun h d => ?_) (fun h d => ?_) | refine s_dec (fun h d => ?_) (fun h d => ?_) | refine g_ndec (fun h d => ?_) (fun h d => ?_) | refine c_ndec (fun h d => ?_) (fun h d => ?_) | refine g_nbool (fun h d => ?_) (fun h d => ?_) | refine c_nbool (fun h d => ?_) (fun h d => ?_) | refine g_bool (fun h d => ?_) (fun h d => ?_) | refine c_bool (fun h d => ?_) (fun h d => ?_) | refine s_bool (fun h d => ?_) (fun h d => ?_)) <;> (try simp only [d]) <;> (try simp only [Bool.or_eq_true, Bool.and_eq_true, Bool.or_eq_false_iff, Bool.and_eq_false_iff, decide_eq_true_eq, decide_eq_false_iff_not, Bool.not_eq_true', Bool.not_eq_false'] at h) <;> (try omega)))
      have hA := allI_f (n := (nth all a).parts.length) (p := fun i => decide (nth like (nth (nth all a).parts i) = nth like (nth (nth all b).parts i))) hi0 hi (decide_eq_false (by assumption))
      rw [goesB, hA, Bool.false_and]
    · refine ⟨⟨by omega, by omega, allI_step (p := fun i => decide (nth like (nth (nth all a).parts i) = nth like (nth (nth all b).parts i))) hall (decide_eq_true (by assumption))⟩, ?_⟩
      simp -implicitDefEqProofs (disch := (first | omega | (simp only [go_sem, List.length_append, Nat.zero_add, Nat.reduceAdd, Nat.reduceLT] <;> omega) | fail)) only [go_sem, ↓reduceIte, Nat.reduceEqDiff, Nat.reduceAdd, Nat.reduceLT, Nat.reduceLeDiff, Nat.reduceBEq, reduceCtorEq, e0, e1, e2, e16, e17, e18]
  · repeat' (first | simp -implicitDefEqProofs (disch := (first | omega | (simp only [go_sem, List.length_append, Nat.zero_add, Nat.reduceAdd, Nat.reduceLT] <;> omega) | fail)) only [go_sem, ↓reduceIte, Nat.reduceEqDiff, Nat.reduceAdd, Nat.reduceLT, Nat.reduceLeDiff, Nat.reduceBEq, reduceCtorEq, e0, e1, e2, e16, e17, e18] | ((with_reducible first | refine g_dec (fun h d => ?_) (fun h d => ?_) | refine c_dec (fun h d => ?_) (fun h d => ?_) | refine s_dec (fun h d => ?_) (fun h d => ?_) | refine g_ndec (fun h d => ?_) (fun h d => ?_) | refine c_ndec (fun h d => ?_) (fun h d => ?_) | refine g_nbool (fun h d => ?_) (fun h d => ?_) | refine c_nbool (fun h d => ?_) (fun h d => ?_) | refine g_bool (fun h d => ?_) (fun h d => ?_) | refine c_bool (fun h d => ?_) (fun h d => ?_) | refine s_bool (fun h d => ?_) (fun h d => ?_)) <;> (try simp only [d]) <;> (try simp only [Bool.or_eq_true, Bool.and_eq_true, Bool.or_eq_false_iff, Bool.and_eq_false_iff, decide_eq_true_eq, decide_eq_false_iff_not, Bool.not_eq_true', Bool.not_eq_false'] at h) <;> (try omega)))
    all_goals (with_reducible first | refine hN (i + 1) _ _ ?_ ?_ | refine (hE _ _).1 _ ?_ | refine (hE _ _).2.1 ?_)
    all_goals try omega
    all_goals try unfold ls56_0
    repeat' (first | simp -implicitDefEqProofs (disch := (first | omega | (simp only [go_sem, List.length_append, Nat.zero_add, Nat.reduceAdd, Nat.reduceLT] <;> omega) | fail)) only [go_sem, ↓reduceIte, Nat.reduceEqDiff, Nat.reduceAdd, Nat.reduceLT, Nat.reduceLeDiff, Nat.reduceBEq, reduceCtorEq, e0, e1, e2, e16, e17, e18] | ((with_reducible first | refine g_dec (fun h d => ?_) (fun h d => ?_) | refine c_dec (fun h d => ?_) (fun h d => ?_) | refine s_dec (fun h d => ?_) (fun h d => ?_) | refine g_ndec (fun h d => ?_) (fun h d => ?_) | refine c_ndec (fun h d => ?_) (fun h d => ?_) | refine g_nbool (fun h d => ?_) (fun h d => ?_) | refine c_nbool (fun h d => ?_) (fun h d => ?_) | refine g_bool (fun h d => ?_) (fun h d => ?_) | refine c_bool (fun h d => ?_) (fun h d => ?_) | refine s_bool (fun h d => ?_) (fun h d => ?_)) <;> (try simp only [d]) <;> (try simp only [Bool.or_eq_true, Bool.and_eq_true, Bool.or_eq_false_iff, Bool.and_eq_false_iff, decide_eq_true_eq, decide_eq_false_iff_not, Bool.not_eq_true', Bool.not_eq_false'] at h) <;> (try omega)))
    have hA := allI_t (n := (nth all a).parts.length) (p := fun i => decide (nth like (nth (nth all a).parts i) = nth like (nth (nth all b).parts i))) fun j a b => hall j a (by omega)
    rw [goesB, hA, Bool.true_and]
theorem list_eq {x y : List Int} (hl : x.length = y.length) (h : ∀ j : Int, 0 ≤ j → j < x.length → nth x j = nth y j) : x = y := by
  apply List.ext_getElem hl
  intro i h1 h2
  have := h i (by omega) (by omega)
  rw [nth_nat, nth_nat, List.getD_eq_getElem?_getD, List.getD_eq_getElem?_getD, List.getElem?_eq_getElem h1, List.getElem?_eq_getElem h2] at this
  exact this
theorem sp_Equal (n : Nat) (x y : List Int) (hx : x.length ≤ 1000) (m : AMem) : callsN cfg (n + 1) 57 [tsl 1 (x.map avI), tsl 1 (y.map avI)] m = some (.ret (.bool (decide (x = y))), m) := by
  rw [ce57]
  refine borrow_wp (targs := [tsl 1 (x.map avI), tsl 1 (y.map avI)]) (by simp only [go_sem]) ?_ rfl
  unfold aBody cf57
  by_cases hl : x.length = y.length
  · repeat' (first | simp -implicitDefEqProofs (disch := (first | omega | (simp only [go_sem, List.length_append, Nat.zero_add, Nat.reduceAdd, Nat.reduceLT] <;> omega) | fail)) only [go_sem, ↓reduceIte, Nat.reduceEqDiff, Nat.reduceAdd, Nat.reduceLT, Nat.reduceLeDiff, Nat.reduceBEq, reduceCtorEq] | ((with_reducible first | refine g_dec (fun h d => ?_) (fun h d => ?_) | refine c_dec (fun h d => ?_) (fun h d => ?_) | refine s_dec (fun h d => ?_) (fun h d => ?_) | refine g_ndec (fun h d => ?_) (fun h d => ?_) | refine c_ndec (fun h d => ?_) (fun h d => ?_) | refine g_nbool (fun h d => ?_) (fun h d => ?_) | refine c_nbool (fun h d => ?_) (fun h d => ?_) | refine g_bool (fun h d => ?_) (fun h d => ?_) | refine c_bool (fun h d => ?_) (fun h d => ?_) | refine s_bool (fun h d => ?_) (fun h d => ?_)) <;> (try simp only [d]) <;> (try simp only [Bool.or_eq_true, Bool.and_eq_true, Bool.or_eq_false_iff, Bool.and_eq_false_iff, decide_eq_true_eq, decide_eq_false_iff_not, Bool.not_eq_true', Bool.not_eq_false'] at h) <;> (try omega)))
    refine wp_loop (fun (i : Int) (env : AEnv) (m : AMem) => (0 ≤ i ∧ i ≤ x.length ∧ ∀ j, 0 ≤ j → j < i → (fun j => decide (nth x j = nth y j)) j = true) ∧ env 0 = tsl 1 (x.map avI) ∧ env 1 = tsl 1 (y.map avI) ∧ env 12 = avI x.length ∧ env 13 = avI i) (fun i => (x.length - i).toNat)
      (fun i env m K' ⟨⟨hi0, hi1, hall⟩, e0, e1, e12, e13⟩ hN hE => ?_) LOOPK 0 _ _ ⟨⟨by omega, by omega, fun j a b => by omega⟩, by simp -implicitDefEqProofs (disch := (first | omega | (simp only [go_sem, List.length_append, Nat.zero_add, Nat.reduceAdd, Nat.reduceLT] <;> omega) | fail)) only [go_sem, ↓reduceIte, Nat.reduceEqDiff, Nat.reduceAdd, Nat.reduceLT, Nat.reduceLeDiff, Nat.reduceBEq, reduceCtorEq], by simp -implicitDefEqProofs (disch := (first | omega | (simp only [go_sem, List.length_append, Nat.zero_add, Nat.reduceAdd, Nat.reduceLT] <;> omega) | fail)) only [go_sem, ↓reduceIte, Nat.reduceEqDiff, Nat.reduceAdd, Nat.reduceLT, Nat.reduceLeDiff, Nat.reduceBEq, reduceCtorEq], by simp -implicitDefEqProofs (disch := (first | omega | (simp only [go_sem, List.length_append, Nat.zero_add, Nat.reduceAdd, Nat.reduceLT] <;> omega) | fail)) only [go_sem, ↓reduceIte, Nat.reduceEqDiff, Nat.reduceAdd, Nat.reduceLT, Nat.reduceLeDiff, Nat.reduceBEq, reduceCtorEq], by simp -implicitDefEqProofs (disch := (first | omega | (simp only [go_sem, List.length_append, Nat.zero_add, Nat.reduceAdd, Nat.reduceLT] <;> omega) | fail)) only [go_sem, ↓reduceIte, Nat.reduceEqDiff, Nat.reduceAdd, Nat.reduceLT, Nat.reduceLeDiff, Nat.reduceBEq, reduceCtorEq]⟩ (by rw [LOOPK_eq]; omega)
    unfold lb57_0
    repeat' (first | simp -implicitDefEqProofs (disch := (first | omega | (simp only [go_sem, List.length_append, Nat.zero_add, Nat.reduceAdd, Nat.reduceLT] <;> omega) | fail)) only [go_sem, ↓reduceIte, Nat.reduceEqDiff, Nat.reduceAdd, Nat.reduceLT, Nat.reduceLeDiff, Nat.reduceBEq, reduceCtorEq, e0, e1, e12, e13] | ((with_reducible first | refine g_dec (fun h d => ?_) (fun h d => ?_) | refine c_dec (fun h d => ?_) (fun h d => ?_) | refine s_dec (fun h d => ?_) (fun h d => ?_) | refine g_ndec (fun h d => ?_) (fun h d => ?_) | refine c_ndec (fun h d => ?_) (fun h d => ?_) | refine g_nbool (fun h d => ?_) (fun h d => ?_) | refine c_nbool (fun h d => ?_) (fun h d => ?_) | refine g_bool (fun h d => ?_) (fun h d => ?_) | refine c_bool (fun h d => ?_) (fun h d => ?_) | refine s_bool (fun h d => ?_) (fun h d => ?_)) <;> (try simp only [d]) <;> (try simp only [Bool.or_eq_true, Bool.and_eq_true, Bool.or_eq_false_iff, Bool.and_eq_false_iff, decide_eq_true_eq, decide_eq_false_iff_not, Bool.not_eq_true', Bool.not_eq_false'] at h) <;> (try omega)))
    all_goals (with_reducible first | refine hN (i + 1) _ _ ?_ ?_ | refine (hE _ _).1 _ ?_ | refine (hE _ _).2.1 ?_)
    all_goals try omega
    all_goals try unfold ls57_0
    all_goals repeat' (first | simp -implicitDefEqProofs (disch := (first | omega | (simp only [go_sem, List.length_append, Nat.zero_add, Nat.reduceAdd, Nat.reduceLT] <;> omega) | fail)) only [go_sem, ↓reduceIte, Nat.reduceEqDiff, Nat.reduceAdd, Nat.reduceLT, Nat.reduceLeDiff, Nat.reduceBEq, reduceCtorEq, e0, e1, e12, e13] | ((with_reducible first | refine g_dec (fun h d => ?_) (fun h d => ?_) | refine c_dec (fun h d => ?_) (fun h d => ?_) | refine s_dec (fun h d => ?_) (fun h d => ?_) | refine g_ndec (fun h d => ?_) (fun h d => ?_) | refine c_ndec (fun h d => ?_) (fun h d => ?_) | refine g_nbool (fun h d => ?_) (fun h d => ?_) | refine c_nbool (fun h d => ?_) (fun h d => ?_) | refine g_bool (fun h d => ?_) (fun h d => ?_) | refine c_bool (fun h d => ?_) (fun h d => ?_) | refine s_bool (fun h d => ?_) (fun h d => ?_)) <;> (try simp only [d]) <;> (try simp only [Bool.or_eq_true, Bool.and_eq_true, Bool.or_eq_false_iff, Bool.and_eq_false_iff, decide_eq_true_eq, decide_eq_false_iff_not, Bool.not_eq_true', Bool.not_eq_false'] at h) <;> (try omega)))
    · refine (decide_eq_false ?_).symm
      rintro rfl
      exact absurd rfl (by assumption)
    · exact ⟨by omega, by omega, allI_step (p := fun j => decide (nth x j = nth y j)) hall (decide_eq_true (by assumption))⟩
    · exact (decide_eq_true (list_eq hl fun j a b => of_decide_eq_true (hall j a (by omega)))).symm
  · repeat' (first | simp -implicitDefEqProofs (disch := (first | omega | (simp only [go_sem, List.length_append, Nat.zero_add, Nat.reduceAdd, Nat.reduceLT] <;> omega) | fail)) only [go_sem, ↓reduceIte, Nat.reduceEqDiff, Nat.reduceAdd, Nat.reduceLT, Nat.reduceLeDiff, Nat.reduceBEq, reduceCtorEq] | ((with_reducible first | refine g_dec (fun h d => ?_) (fun h d => ?_) | refine c_dec (fun h d => ?_) (fun h d => ?_) | refine s_dec (fun h d => ?_) (fun h d => ?_) | refine g_ndec (fun h d => ?_) (fun h d => ?_) | refine c_ndec (fun h d => ?_) (fun h d => ?_) | refine g_nbool (fun h d => ?_) (fun h d => ?_) | refine c_nbool (fun h d => ?_) (fun h d => ?_) | refine g_bool (fun h d => ?_) (fun h d => ?_) | refine c_bool (fun h d => ?_) (fun h d => ?_) | refine s_bool (fun h d => ?_) (fun h d => ?_)) <;> (try simp only [d]) <;> (try simp only [Bool.or_eq_true, Bool.and_eq_true, Bool.or_eq_false_iff, Bool.and_eq_false_iff, decide_eq_true_eq, decide_eq_false_iff_not, Bool.not_eq_true', Bool.not_eq_false'] at h) <;> (try omega)))
    refine (decide_eq_false ?_).symm
    rintro rfl
    exact hl rfl
end Go.Proofs.YtiijjopdhjpalaaDoor

/-! Parting classes until nothing parts: plain lists of numbers. Conditions: none. -/
namespace Go.Proofs.YtiijjopdhjpalaaDoor
open Go
set_option linter.unusedSimpArgs false
set_option linter.unusedVariables false
theorem nth_app1 {α : Type} [Inhabited α] {l r : List α} {i : Int} (h0 : 0 ≤ i) (h : i < l.length) : nth (l ++ r) i = nth l i := by
  unfold nth
  rw [List.getD_eq_getElem?_getD, List.getD_eq_getElem?_getD, List.getElem?_append_left (by omega)]
theorem nth_app2 {α : Type} [Inhabited α] {l r : List α} {i : Int} (h : (l.length : Int) ≤ i) : nth (l ++ r) i = nth r (i - l.length) := by
  unfold nth
  rw [List.getD_eq_getElem?_getD, List.getD_eq_getElem?_getD, List.getElem?_append_right (by omega)]
  congr 2
  omega
theorem nth_one {α : Type} [Inhabited α] {x : α} : nth [x] 0 = x := rfl
theorem nth_map {α β : Type} [Inhabited α] [Inhabited β] {l : List α} {f : α → β} {i : Int} (h0 : 0 ≤ i) (h : i < l.length) : nth (l.map f) i = f (nth l i) := by
  have h1 := nth_get? l i h0 h
  have h2 := nth_get? (l.map f) i h0 (by simpa using h)
  rw [List.getElem?_map, h1] at h2
  exact (Option.some.inj h2).symm
theorem nth_range {n : Nat} {i : Int} (h0 : 0 ≤ i) (h : i < n) : nth (List.range n) i = i.toNat := by
  have h2 := nth_get? (List.range n) i h0 (by simpa using h)
  rw [List.getElem?_range (by omega)] at h2
  exact (Option.some.inj h2).symm
/-- Of one kind and length. -/
def alikeB (all : List GT) (i : Int) (x : GT) : Bool := decide (x.kind = (nth all i).kind ∧ x.parts.length = (nth all i).parts.length)
def initL (all : List GT) : List Int := (List.range all.length).map fun (i : Nat) => (((all.findIdx? (alikeB all (i : Int))).getD 0 : Nat) : Int)
/-- The first one below i that goes with it. -/
def firstK (all : List GT) (like : List Int) (i : Nat) : Option Nat := (List.range i).findIdx? fun (k : Nat) => decide (nth like (k : Int) = nth like (i : Int)) && goesB all like (i : Int) (k : Int)
def stepTo (all : List GT) (like : List Int) : Nat → List Int
  | 0 => []
  | i + 1 => stepTo all like i ++ [match firstK all like i with
    | some k => nth (stepTo all like i) k
    | none => i]
def stepL (all : List GT) (like : List Int) : List Int := stepTo all like all.length
theorem stepTo_succ (all : List GT) (like : List Int) (i : Nat) : stepTo all like (i + 1) = stepTo all like i ++ [match firstK all like i with
    | some k => nth (stepTo all like i) k
    | none => (i : Int)] := rfl
theorem stepTo_length (all : List GT) (like : List Int) : ∀ i, (stepTo all like i).length = i
  | 0 => rfl
  | i + 1 => by simp [stepTo_succ, stepTo_length all like i]
theorem stepTo_nth (all : List GT) (like : List Int) : ∀ (n : Nat) (i : Int), 0 ≤ i → i < n → nth (stepTo all like n) i = (match firstK all like i.toNat with
    | some k => nth (stepTo all like i.toNat) k
    | none => i)
  | 0, i, h0, h => by omega
  | n + 1, i, h0, h => by
    have hl := stepTo_length all like n
    rw [stepTo_succ]
    by_cases e : i < n
    · rw [nth_app1 h0 (by rw [hl]; exact e)]
      exact stepTo_nth all like n i h0 e
    · have e : i = n := by omega
      subst e
      rw [nth_app2 (by rw [hl]; exact Int.le_refl _), hl, Int.sub_self, Int.toNat_natCast]
      rfl
theorem firstK_some {all : List GT} {like : List Int} {i k : Nat} (h : firstK all like i = some k) : k < i ∧ nth like k = nth like i ∧ goesB all like i k = true := by
  unfold firstK at h
  rw [List.findIdx?_eq_some_iff_getElem] at h
  obtain ⟨h1, h2, _⟩ := h
  simp only [List.length_range] at h1
  simp only [List.getElem_range, Bool.and_eq_true, decide_eq_true_eq] at h2
  exact ⟨h1, h2.1, h2.2⟩
/-- Each place names the least one of its class; what is of one class is of one kind and length. -/
structure Can (all : List GT) (like : List Int) : Prop where
  len : like.length = all.length
  le : ∀ i : Int, 0 ≤ i → i < all.length → 0 ≤ nth like i ∧ nth like i ≤ i
  idem : ∀ i : Int, 0 ≤ i → i < all.length → nth like (nth like i) = nth like i
  kind : ∀ i j : Int, 0 ≤ i → i < all.length → 0 ≤ j → j < all.length → nth like i = nth like j → (nth all i).kind = (nth all j).kind ∧ (nth all i).parts.length = (nth all j).parts.length
/-- What the places built so far are. -/
theorem stepTo_ok {all : List GT} {like : List Int} (hc : Can all like) : ∀ (n : Nat), n ≤ all.length → ∀ i : Int, 0 ≤ i → i < n →
    0 ≤ nth (stepTo all like n) i ∧ nth (stepTo all like n) i ≤ i ∧ nth like (nth (stepTo all like n) i) = nth like i ∧ nth (stepTo all like n) (nth (stepTo all like n) i) = nth (stepTo all like n) i
  | 0, _, i, h0, h => by omega
  | n + 1, hn, i, h0, h => by
    have hl := stepTo_length all like n
    have old : ∀ j : Int, 0 ≤ j → j < n → nth (stepTo all like (n + 1)) j = nth (stepTo all like n) j := fun j a b => by
      show nth (stepTo all like n ++ _) j = _
      exact nth_app1 a (by rw [hl]; exact b)
    by_cases e : i < n
    · obtain ⟨a, b, c, d⟩ := stepTo_ok hc n (by omega) i h0 e
      rw [old i h0 e]
      refine ⟨a, b, c, ?_⟩
      rw [old _ a (by omega)]
      exact d
    · have e : i = n := by omega
      subst e
      have hv := stepTo_nth all like (n + 1) n (by omega) (by omega)
      rw [Int.toNat_natCast] at hv
      cases hf : firstK all like n with
      | none =>
        rw [hf] at hv
        have hv : nth (stepTo all like (n + 1)) (n : Int) = n := hv
        rw [hv]
        exact ⟨by omega, Int.le_refl _, rfl, hv⟩
      | some k =>
        rw [hf] at hv
        have hv : nth (stepTo all like (n + 1)) (n : Int) = nth (stepTo all like n) k := hv
        obtain ⟨k1, k2, _⟩ := firstK_some hf
        obtain ⟨a, b, c, d⟩ := stepTo_ok hc n (by omega) k (by omega) (by omega)
        rw [hv]
        refine ⟨a, by omega, c.trans k2, ?_⟩
        rw [old _ a (by omega)]
        exact d
theorem stepL_can {all : List GT} {like : List Int} (hc : Can all like) : Can all (stepL all like) where
  len := stepTo_length _ _ _
  le := fun i h0 h1 => by
    obtain ⟨a, b, _, _⟩ := stepTo_ok hc all.length (Nat.le_refl _) i h0 h1
    exact ⟨a, b⟩
  idem := fun i h0 h1 => (stepTo_ok hc all.length (Nat.le_refl _) i h0 h1).2.2.2
  kind := fun i j a b c d h => by
    obtain ⟨_, _, e1, _⟩ := stepTo_ok hc all.length (Nat.le_refl _) i a b
    obtain ⟨_, _, e2, _⟩ := stepTo_ok hc all.length (Nat.le_refl _) j c d
    have h : nth (stepTo all like all.length) i = nth (stepTo all like all.length) j := h
    rw [h] at e1
    exact hc.kind i j a b c d (e1.symm.trans e2)
/-- A place that names itself goes on naming itself. -/
theorem step_fix {all : List GT} {like : List Int} (hc : Can all like) {i : Int} (h0 : 0 ≤ i) (h1 : i < all.length) (h : nth like i = i) : nth (stepL all like) i = i := by
  have hv := stepTo_nth all like all.length i h0 h1
  cases hf : firstK all like i.toNat with
  | none => rw [hf] at hv; exact hv
  | some k =>
    obtain ⟨k1, k2, _⟩ := firstK_some hf
    have e : ((i.toNat : Nat) : Int) = i := by omega
    rw [e, h] at k2
    have := (hc.le k (by omega) (by omega)).2
    omega
/-- Where no further place names itself, nothing has turned. -/
theorem step_same {all : List GT} {like : List Int} (hc : Can all like) (h : ∀ i : Int, 0 ≤ i → i < all.length → nth (stepL all like) i = i → nth like i = i) : stepL all like = like := by
  refine list_eq (by rw [(stepL_can hc).len, hc.len]) fun j h0 h1 => ?_
  rw [(stepL_can hc).len] at h1
  obtain ⟨a, b, c, d⟩ := stepTo_ok hc all.length (Nat.le_refl _) j h0 h1
  have := h (nth (stepL all like) j) a (by show nth (stepTo all like all.length) j < _; omega) d
  have c : nth like (nth (stepL all like) j) = nth like j := c
  rw [this] at c
  exact c
theorem countP_lt {α : Type} {p q : α → Bool} : ∀ {l : List α}, (∀ x ∈ l, p x = true → q x = true) → (∃ x ∈ l, q x = true ∧ p x = false) → l.countP p < l.countP q
  | [], _, h => by
    obtain ⟨x, hx, _⟩ := h
    simp at hx
  | a :: l, h, hx => by
    have hm : l.countP p ≤ l.countP q := List.countP_mono_left fun x hx hp => h x (List.mem_cons_of_mem _ hx) hp
    rw [List.countP_cons, List.countP_cons]
    obtain ⟨x, hx, h1, h2⟩ := hx
    rcases List.mem_cons.1 hx with rfl | hx
    · rw [h1, h2]
      simp
      omega
    · have ih := countP_lt (fun x hx => h x (List.mem_cons_of_mem _ hx)) ⟨x, hx, h1, h2⟩
      have ha := h a (List.mem_cons_self ..)
      cases hp : p a with
      | false => simp; split <;> omega
      | true => rw [ha hp]; simp; omega
/-- How many places name themselves. -/
def fixC (like : List Int) (n : Nat) : Nat := (List.range n).countP fun (i : Nat) => decide (nth like (i : Int) = (i : Int))
theorem fixC_le (like : List Int) (n : Nat) : fixC like n ≤ n := by
  have := List.countP_le_length (p := fun (i : Nat) => decide (nth like (i : Int) = (i : Int))) (l := List.range n)
  simpa [fixC] using this
theorem step_more {all : List GT} {like : List Int} (hc : Can all like) (h : stepL all like ≠ like) : fixC like all.length < fixC (stepL all like) all.length := by
  apply countP_lt
  · intro i hi hp
    have hi := List.mem_range.1 hi
    exact decide_eq_true (step_fix hc (by omega) (by omega) (of_decide_eq_true hp))
  · by_cases hx : ∃ i : Int, 0 ≤ i ∧ i < all.length ∧ nth (stepL all like) i = i ∧ nth like i ≠ i
    · obtain ⟨i, a, b, c, d⟩ := hx
      have e : ((i.toNat : Nat) : Int) = i := by omega
      exact ⟨i.toNat, List.mem_range.2 (by omega), decide_eq_true (by rw [e]; exact c), decide_eq_false (by rw [e]; exact d)⟩
    · exfalso
      apply h
      refine step_same hc fun i a b c => ?_
      by_cases d : nth like i = i
      · exact d
      · exact absurd ⟨i, a, b, c, d⟩ hx
theorem init_nth {all : List GT} {i : Int} (h0 : 0 ≤ i) (h1 : i < all.length) : ∃ r : Nat, all.findIdx? (alikeB all i) = some r ∧ nth (initL all) i = r ∧ (r : Int) ≤ i ∧ alikeB all i (nth all r) = true := by
  have hs : alikeB all i (nth all i) = true := by simp [alikeB]
  have hv : nth (initL all) i = (((all.findIdx? (alikeB all i)).getD 0 : Nat) : Int) := by
    unfold initL
    rw [nth_map h0 (by simpa using h1), nth_range h0 h1]
    rw [show ((i.toNat : Nat) : Int) = i by omega]
  cases hf : all.findIdx? (alikeB all i) with
  | none =>
    rw [List.findIdx?_eq_none_iff] at hf
    have := hf _ (nth_mem all i h0 h1)
    rw [hs] at this
    cases this
  | some r =>
    rw [hf] at hv
    rw [List.findIdx?_eq_some_iff_getElem] at hf
    obtain ⟨a, b, c⟩ := hf
    refine ⟨r, rfl, hv, ?_, ?_⟩
    · rcases Nat.lt_or_ge i.toNat r with hlt | hge
      · have := c i.toNat hlt
        have hg := nth_get? all i h0 h1
        rw [List.getElem?_eq_getElem (by omega)] at hg
        rw [Option.some.inj hg, hs] at this
        simp at this
      · omega
    · have hg := nth_get? all (r : Int) (by omega) (by omega)
      rw [Int.toNat_natCast, List.getElem?_eq_getElem a] at hg
      rw [← Option.some.inj hg]
      exact b
theorem alike_eq {all : List GT} {i : Int} {x : GT} (h : alikeB all i x = true) : x.kind = (nth all i).kind ∧ x.parts.length = (nth all i).parts.length := of_decide_eq_true h
theorem alike_same {all : List GT} {i j : Int} (h : (nth all i).kind = (nth all j).kind ∧ (nth all i).parts.length = (nth all j).parts.length) : alikeB all i = alikeB all j := by
  funext x
  simp only [alikeB, h.1, h.2]
theorem init_can (all : List GT) : Can all (initL all) where
  len := by simp [initL]
  le := fun i h0 h1 => by
    obtain ⟨r, _, h2, h3, _⟩ := init_nth h0 h1
    rw [h2]
    omega
  idem := fun i h0 h1 => by
    obtain ⟨r, h2, h3, h4, h5⟩ := init_nth h0 h1
    rw [h3]
    obtain ⟨q, q2, q3, _, _⟩ := init_nth (all := all) (i := (r : Int)) (by omega) (by omega)
    rw [q3]
    have e : alikeB all r = alikeB all i := alike_same (alike_eq h5)
    rw [e, h2] at q2
    rw [Option.some.inj q2]
  kind := fun i j a b c d h => by
    obtain ⟨r, _, h3, _, h5⟩ := init_nth a b
    obtain ⟨q, _, q3, _, q5⟩ := init_nth c d
    rw [h3, q3] at h
    have h : r = q := by omega
    subst h
    have e1 := alike_eq h5
    have e2 := alike_eq q5
    exact ⟨e1.1.symm.trans e2.1, e1.2.symm.trans e2.2⟩
end Go.Proofs.YtiijjopdhjpalaaDoor

/-! What the functions of chapter 10 answer: classes of types, the innermost loop. Conditions: none. -/
namespace Go.Proofs.YtiijjopdhjpalaaDoor
open Go
set_option linter.unusedSimpArgs false
set_option linter.unusedVariables false
theorem LI.room_iff (m : AMem) (B n : Nat) (es : List AV) (l : List GT) : LI (m.room n) B es l ↔ LI m B es l :=
  ⟨fun h => ⟨h.len, h.el⟩, fun h => ⟨h.len, h.el⟩⟩
theorem LI.read {m : AMem} {B : Nat} {es : List AV} {l : List GT} (h : LI m B es l) (n : Nat) : rbL (rb m (n + 3)) es = some (l.map GT.av) := by
  obtain ⟨hl, he⟩ := h
  induction es generalizing l with
  | nil =>
    cases l with
    | nil => rfl
    | cons => simp at hl
  | cons e es ih =>
    cases l with
    | nil => simp at hl
    | cons x l =>
      obtain ⟨e', h1, pv, h2, h3⟩ := he 0 (by omega) (by simp only [List.length_cons]; omega)
      simp at h1
      subst h1
      have hx : nth (x :: l) 0 = x := rfl
      rw [hx] at h2 h3
      have hr : rb m (n + 3) e = some (GT.av x) := by
        rw [h2, yrb_agg, yrbL_cons, yrbL_cons, yrbL_cons, h3.read n]
        rfl
      rw [yrbL_cons, hr]
      have := ih (l := l) (by simpa using hl) (fun j h0 h1 => by
        obtain ⟨e2, a, b⟩ := he (j + 1) (by omega) (by simp; omega)
        refine ⟨e2, ?_, ?_⟩
        · rw [show (j + 1).toNat = j.toNat + 1 by omega, List.getElem?_cons_succ] at a
          exact a
        · have e3 : nth (x :: l) (j + 1) = nth l j := by
            unfold nth
            rw [show (j + 1).toNat = j.toNat + 1 by omega]
            rfl
          rw [e3] at b
          exact b)
      rw [opt_bind, this]
      rfl
theorem rb_ints (m : AMem) (n id : Nat) (l : List Int) (h : l ≠ []) (hg : m.get id = some (.arr 3 1 (l.map avI))) : rb m (n + 2) (.sl 1 id 0 l.length) = some (tsl 1 (l.map avI)) :=
  (show PI m (id + 1) (.sl 1 id 0 l.length) l from .inr ⟨h, id, by omega, rfl, hg⟩).read n
theorem rb_table {m : AMem} (n : Nat) {T A L B : Nat} {es : List AV} {all : List GT} {like : List Int} (hne : all ≠ []) (hlen : like.length = all.length)
    (gT : m.get T = some (.arr 77 2 [.agg [.sl 3 A 0 all.length, .sl 1 L 0 all.length]])) (gA : m.get A = some (.arr 43 3 es)) (gL : m.get L = some (.arr 3 1 (like.map avI))) (hA : LI m B es all) :
    rb m (n + 6) (.ptr T 0 0) = some (TT all like) := by
  have hpos : 0 < all.length := by
    cases all with
    | nil => exact absurd rfl hne
    | cons => simp
  have h1 : rb m (n + 4) (.sl 3 A 0 all.length) = some (tsl 3 (all.map GT.av)) := by
    rw [yrb_sl m (n + 3) 3 A 0 all.length hpos, gA, rslK_s _ _ _ _ _ _ _ (by rw [hA.len]; omega), List.drop_zero, List.take_of_length_le (by rw [hA.len]; exact Nat.le_refl _), hA.read n, tsl_ne hne]
    rfl
  have h2 : rb m (n + 4) (.sl 1 L 0 all.length) = some (tsl 1 (like.map avI)) := by
    rw [← hlen]
    refine rb_ints m (n + 2) L like (fun e => ?_) gL
    rw [e] at hlen
    simp at hlen
    omega
  rw [yrb_ptr, gT, rptK_s, List.getElem?_cons_zero, opt_bind, yrb_agg, yrbL_cons, h1, opt_bind, yrbL_cons, h2]
  rfl
theorem LI.readN {m : AMem} {B : Nat} {es : List AV} {l : List GT} (h : LI m B es l) (n : Nat) : rbL (rbN m (n + 3)) es = some (l.map GT.av) := by
  obtain ⟨hl, he⟩ := h
  induction es generalizing l with
  | nil =>
    cases l with
    | nil => rfl
    | cons => simp at hl
  | cons e es ih =>
    cases l with
    | nil => simp at hl
    | cons x l =>
      obtain ⟨e', h1, pv, h2, h3⟩ := he 0 (by omega) (by simp only [List.length_cons]; omega)
      simp at h1
      subst h1
      have hx : nth (x :: l) 0 = x := rfl
      rw [hx] at h2 h3
      have hr : rbN m (n + 3) e = some (GT.av x) := by
        rw [h2, ynb_agg, yrbL_cons, yrbL_cons, yrbL_cons, h3.readN n]
        rfl
      rw [yrbL_cons, hr]
      have := ih (l := l) (by simpa using hl) (fun j h0 h1 => by
        obtain ⟨e2, a, b⟩ := he (j + 1) (by omega) (by simp; omega)
        refine ⟨e2, ?_, ?_⟩
        · rw [show (j + 1).toNat = j.toNat + 1 by omega, List.getElem?_cons_succ] at a
          exact a
        · have e3 : nth (x :: l) (j + 1) = nth l j := by
            unfold nth
            rw [show (j + 1).toNat = j.toNat + 1 by omega]
            rfl
          rw [e3] at b
          exact b)
      rw [opt_bind, this]
      rfl
theorem nb_ints (m : AMem) (n id : Nat) (l : List Int) (h : l ≠ []) (hg : m.get id = some (.arr 3 1 (l.map avI))) : rbN m (n + 2) (.sl 1 id 0 l.length) = some (tsl 1 (l.map avI)) :=
  (show PI m (id + 1) (.sl 1 id 0 l.length) l from .inr ⟨h, id, by omega, rfl, hg⟩).readN n
theorem nb_table {m : AMem} (n : Nat) {T A L B : Nat} {es : List AV} {all : List GT} {like : List Int} (hne : all ≠ []) (hlen : like.length = all.length)
    (gT : m.get T = some (.arr 77 2 [.agg [.sl 3 A 0 all.length, .sl 1 L 0 all.length]])) (gA : m.get A = some (.arr 43 3 es)) (gL : m.get L = some (.arr 3 1 (like.map avI))) (hA : LI m B es all) :
    rbN m (n + 6) (.ptr T 0 0) = some (TT all like) := by
  have hpos : 0 < all.length := by
    cases all with
    | nil => exact absurd rfl hne
    | cons => simp
  have h1 : rbN m (n + 4) (.sl 3 A 0 all.length) = some (tsl 3 (all.map GT.av)) := by
    rw [ynb_sl m (n + 3) 3 A 0 all.length hpos, gA, nslK_s _ _ _ _ _ _ _ (by rw [hA.len]; omega), List.drop_zero, List.take_of_length_le (by rw [hA.len]; exact Nat.le_refl _), hA.readN n, tsl_ne hne]
    rfl
  have h2 : rbN m (n + 4) (.sl 1 L 0 all.length) = some (tsl 1 (like.map avI)) := by
    rw [← hlen]
    refine nb_ints m (n + 2) L like (fun e => ?_) gL
    rw [e] at hlen
    simp at hlen
    omega
  rw [ynb_ptr, gT, nptK_s, List.getElem?_cons_zero, opt_bind, ynb_agg, yrbL_cons, h1, opt_bind, yrbL_cons, h2]
  rfl
theorem sp_goes_q (n : Nat) (q : AMem) (T A L B : Nat) (es : List AV) (all : List GT) (like : List Int) (hne : all ≠ []) (hlen : like.length = all.length) (hin : Inside all) (hm : ∀ x ∈ all, x.parts.length ≤ 1000)
    (gT : q.get T = some (.arr 77 2 [.agg [.sl 3 A 0 all.length, .sl 1 L 0 all.length]])) (gA : q.get A = some (.arr 43 3 es)) (gL : q.get L = some (.arr 3 1 (like.map avI))) (hA : LI q B es all)
    (a b : Int) (a0 : 0 ≤ a) (a1 : a < all.length) (b0 : 0 ≤ b) (b1 : b < all.length) (hp : (nth all a).parts.length = (nth all b).parts.length) :
    callsN cfg (n + 1) 56 [.ptr T 0 0, avI a, avI b] q = some (.ret (.bool (goesB all like a b)), q) := by
  have hb : rbL (rb q RBN) [.ptr T 0 0, avI a, avI b] = some [TT all like, avI a, avI b] := by
    rw [yrbL_cons, show RBN = 6 + 6 from rfl, rb_table 6 hne hlen gT gA gL hA]
    rfl
  have hs : rbL (rb q RBN) [TT all like, avI a, avI b] = some [TT all like, avI a, avI b] := by simp only [go_sem]
  have := sp_goes n all like a b a0 a1 b0 b1 hin hlen hp (hm _ (nth_mem _ _ a0 a1)) q
  rw [ce56] at this ⊢
  rw [borrow_trees _ _ _ (fun t ht => by rw [hb] at ht; cases ht; exact hs), hb]
  exact this
/-- What stands still while the table's classes are sought. -/
structure CS (m : AMem) (T A V1 : Nat) (all : List GT) (es : List AV) (L : Nat) (like : List Int) (w : AMem) : Prop where
  next : m.next ≤ w.next
  v : V1 = m.next
  l1 : m.next < L
  l2 : L < w.next
  lT : T < m.next
  lA : A < m.next
  gV : w.get V1 = some (.arr 52 1 [.ptr T 0 0])
  gT : w.get T = some (.arr 77 2 [.agg [.sl 3 A 0 all.length, .sl 1 L 0 all.length]])
  gA : w.get A = some (.arr 43 3 es)
  gL : w.get L = some (.arr 3 1 (like.map avI))
  old : ∀ id, id < m.next → id ≠ T → w.get id = m.get id
@[go_sem] theorem map_get {α : Type} [Inhabited α] (l : List α) (f : α → AV) (i : Int) (h0 : 0 ≤ i) (h1 : i < l.length) : (l.map f)[i.toNat]? = some (f (nth l i)) := by
  rw [List.getElem?_map, nth_get? l i h0 h1]
  rfl
@[go_sem] theorem map_set_int (l : List Int) (k : Nat) (z : Int) : (l.map avI).set k (.int .i64 z) = (l.set k z).map avI := by
  rw [List.map_set]
theorem nth_set {l : List Int} {i j : Int} {z : Int} (h0 : 0 ≤ i) (h1 : i < l.length) (j0 : 0 ≤ j) : nth (l.set i.toNat z) j = if j = i then z else nth l j := by
  unfold nth
  rw [List.getD_eq_getElem?_getD, List.getD_eq_getElem?_getD, List.getElem?_set]
  by_cases e : j = i
  · subst e
    rw [if_pos rfl, if_pos rfl, if_pos (by omega)]
    rfl
  · rw [if_neg e, if_neg (by omega)]
/-- The place that a type comes to. -/
def stepV (all : List GT) (like : List Int) (i : Int) : Int := match firstK all like i.toNat with
  | some k => nth (stepTo all like i.toNat) k
  | none => i
theorem firstK_at {all : List GT} {like : List Int} {i k : Int} (h0 : 0 ≤ k) (h1 : k < i) (h : ∀ j : Int, 0 ≤ j → j < k → (!(decide (nth like j = nth like i) && goesB all like i j)) = true) (hk : (decide (nth like k = nth like i) && goesB all like i k) = true) : firstK all like i.toNat = some k.toNat := by
  unfold firstK
  rw [List.findIdx?_eq_some_iff_getElem]
  refine ⟨by simp; omega, ?_, fun j hj => ?_⟩
  · simp only [List.getElem_range]
    rw [show ((i.toNat : Nat) : Int) = i by omega, show ((k.toNat : Nat) : Int) = k by omega]
    exact hk
  · simp only [List.getElem_range]
    rw [show ((i.toNat : Nat) : Int) = i by omega]
    have := h j (by omega) (by omega)
    simp only [Bool.not_eq_true'] at this
    rw [this]
    exact fun e => Bool.noConfusion e
theorem firstK_no {all : List GT} {like : List Int} {i : Int} (h : ∀ j : Int, 0 ≤ j → j < i → (!(decide (nth like j = nth like i) && goesB all like i j)) = true) : firstK all like i.toNat = none := by
  unfold firstK
  rw [List.findIdx?_eq_none_iff]
  intro x hx
  have hx := List.mem_range.1 hx
  rw [show ((i.toNat : Nat) : Int) = i by omega]
  have := h x (by omega) (by omega)
  simp only [Bool.not_eq_true'] at this
  exact this
set_option maxHeartbeats 1000000 in
/-- The innermost loop. -/
theorem cls_loop3 (n : Nat) {m : AMem} {T A V1 B : Nat} {all : List GT} {es : List AV} {L : Nat} {like : List Int} (hne : all ≠ []) (hin : Inside all) (hm : ∀ x ∈ all, x.parts.length ≤ 1000) (hN : all.length ≤ 1000) (hB : B ≤ m.next) (hA : LI m B es all) (hc : Can all like)
    (hBT : ∀ ps, m.get T ≠ some (.arr 3 1 ps))
    {X : Nat} {nx : List Int} {i : Int} (i0 : 0 ≤ i) (i1 : i < all.length) (hx : nx.length = all.length) (hpre : ∀ j : Int, 0 ≤ j → j < i → nth nx j = nth (stepTo all like i.toNat) j) (hi : nth nx i = i) (lX : L < X)
    {K : Kont} {Q : AOut → AMem → Prop} {env : AEnv} {w : AMem} (cs : CS m T A V1 all es L like w) (lX2 : X < w.next) (gX : w.get X = some (.arr 3 1 (nx.map avI)))
    (e1 : env 1 = .ptr V1 0 0) (e3 : env 3 = .sl 1 X 0 all.length) (e4 : env 4 = avI i) (e46 : env 46 = avI all.length) (e47 : env 47 = avI i) (e54 : env 54 = avI i) (e55 : env 55 = avI 0)
    (hK : ∀ (env' : AEnv) (w' : AMem) (nx' : List Int), nx'.length = all.length → (∀ j : Int, 0 ≤ j → j < i → nth nx' j = nth (stepTo all like i.toNat) j) → nth nx' i = stepV all like i → CS m T A V1 all es L like w' → X < w'.next → w'.get X = some (.arr 3 1 (nx'.map avI)) →
      env' 1 = .ptr V1 0 0 → env' 3 = .sl 1 X 0 all.length → env' 46 = avI all.length → env' 47 = avI i → Wp (K (.exit 6) env' w') Q) :
    Wp (loopN LOOPK (aCode (callsN cfg (n + 1)) lb31_1) env w K) Q := by
  refine wp_loop (fun (k : Int) (env : AEnv) (w : AMem) => (0 ≤ k ∧ k ≤ i ∧ ∀ j : Int, 0 ≤ j → j < k → (fun j => !(decide (nth like j = nth like i) && goesB all like i j)) j = true) ∧ CS m T A V1 all es L like w ∧ X < w.next ∧ w.get X = some (.arr 3 1 (nx.map avI)) ∧
      env 1 = .ptr V1 0 0 ∧ env 3 = .sl 1 X 0 all.length ∧ env 4 = avI i ∧ env 46 = avI all.length ∧ env 47 = avI i ∧ env 54 = avI i ∧ env 55 = avI k) (fun k => (i - k).toNat)
    (fun k env w K' ⟨⟨k0, k1, hall⟩, cs, lX2, gX, e1, e3, e4, e46, e47, e54, e55⟩ hN hE => ?_) LOOPK 0 _ _ ⟨⟨by omega, by omega, fun j a b => by omega⟩, cs, lX2, gX, e1, e3, e4, e46, e47, e54, e55⟩ (by rw [LOOPK_eq]; omega)
  have hlen := hc.len
  obtain ⟨c1, c2, c3, c4, c5, c6, gV, gT, gA, gL, old⟩ := cs
  have hA' : LI w B es all := hA.frame (Nat.le_refl _) fun id ps hid hg => by
    rw [old id (by omega) (fun e => by subst e; exact hBT _ hg)]
    exact hg
  have hg := fun q (gT : q.get T = some (.arr 77 2 [.agg [.sl 3 A 0 all.length, .sl 1 L 0 all.length]])) (gA : q.get A = some (.arr 43 3 es)) (gL : q.get L = some (.arr 3 1 (like.map avI))) (hA : LI q B es all) (b0 : 0 ≤ k) (b1 : k < all.length) (hp : (nth all i).parts.length = (nth all k).parts.length) =>
    sp_goes_q n q T A L B es all like hne hlen hin hm gT gA gL hA i k i0 i1 b0 b1 hp
  have hp : k < i → nth like k = nth like i → (nth all i).parts.length = (nth all k).parts.length := fun a b => (hc.kind i k i0 i1 k0 (by omega) b.symm).2
  unfold lb31_1
  by_cases hki : k < i
  · by_cases hlk : nth like k = nth like i
    · have hp := hp hki hlk
      repeat' (first | simp -implicitDefEqProofs (disch := (first | omega | (simp only [room_next, put_next, kill_next, empty_next, List.length_map, List.length_cons, List.length_nil, List.length_append, Nat.zero_add, Nat.reduceAdd, Nat.reduceLT] <;> omega) | (simp -implicitDefEqProofs (disch := (first | omega | (simp only [room_next, put_next, kill_next, empty_next, List.length_map, List.length_cons, List.length_nil, List.length_append, Nat.zero_add, Nat.reduceAdd, Nat.reduceLT] <;> omega) | fail)) only [go_sem, ↓reduceIte, Nat.reduceEqDiff, Nat.reduceAdd, Nat.reduceLT, Nat.reduceLeDiff, Nat.reduceBEq, reduceCtorEq, e1, e3, e4, e46, e47, e54, e55, gV, gT, gA, gL, gX, hA', LI.room_iff, hg, hlk, hp]; done) | fail)) only [go_sem, ↓reduceIte, Nat.reduceEqDiff, Nat.reduceAdd, Nat.reduceLT, Nat.reduceLeDiff, Nat.reduceBEq, reduceCtorEq, e1, e3, e4, e46, e47, e54, e55, gV, gT, gA, gL, gX, hA', LI.room_iff, hg, hlk, hp] | ((with_reducible first | refine g_dec (fun h d => ?_) (fun h d => ?_) | refine c_dec (fun h d => ?_) (fun h d => ?_) | refine s_dec (fun h d => ?_) (fun h d => ?_) | refine g_ndec (fun h d => ?_) (fun h d => ?_) | refine c_ndec (fun h d => ?_) (fun h d => ?_) | refine g_nbool (fun h d => ?_) (fun h d => ?_) | refine c_nbool (fun h d => ?_) (fun h d => ?_) | refine g_bool (fun h d => ?_) (fun h d => ?_) | refine c_bool (fun h d => ?_) (fun h d => ?_) | refine s_bool (fun h d => ?_) (fun h d => ?_)) <;> (try simp only [d]) <;> (try simp only [Bool.or_eq_true, Bool.and_eq_true, Bool.or_eq_false_iff, Bool.and_eq_false_iff, decide_eq_true_eq, decide_eq_false_iff_not, Bool.not_eq_true', Bool.not_eq_false'] at h) <;> (try omega)))
      · have hf := firstK_at (all := all) (like := like) k0 hki hall (by rw [decide_eq_true hlk, Bool.true_and]; assumption)
        have hv : stepV all like i = nth nx k := by
          rw [stepV, hf, hpre k k0 hki]
          show nth _ ((k.toNat : Nat) : Int) = _
          rw [show ((k.toNat : Nat) : Int) = k by omega]
        refine (hE _ _).1 _ (hK _ _ (nx.set i.toNat (nth nx k)) (by simpa using hx) (fun j a b => ?_) ?_ ⟨?_, c2, c3, ?_, c5, c6, ?_, ?_, ?_, ?_, fun id hid hne => ?_⟩ ?_ ?_ ?_ ?_ ?_ ?_)
        · rw [nth_set i0 (by omega) a, if_neg (by omega)]
          exact hpre j a b
        · rw [nth_set i0 (by omega) i0, if_pos rfl, hv]
        all_goals try (simp -implicitDefEqProofs (disch := (first | omega | (simp only [go_sem, List.length_append, Nat.zero_add, Nat.reduceAdd, Nat.reduceLT] <;> omega) | fail)) only [go_sem, ↓reduceIte, Nat.reduceEqDiff, Nat.reduceAdd, Nat.reduceLT, Nat.reduceLeDiff, Nat.reduceBEq, reduceCtorEq, gV, gT, gA, gL, e1, e3, e4, e46, e47]; done)
        all_goals try (simp -implicitDefEqProofs (disch := (first | omega | (simp only [go_sem, List.length_append, Nat.zero_add, Nat.reduceAdd, Nat.reduceLT] <;> omega) | fail)) only [go_sem, ↓reduceIte, Nat.reduceEqDiff, Nat.reduceAdd, Nat.reduceLT, Nat.reduceLeDiff, Nat.reduceBEq, reduceCtorEq]; omega)
        · simp -implicitDefEqProofs (disch := (first | omega | (simp only [go_sem, List.length_append, Nat.zero_add, Nat.reduceAdd, Nat.reduceLT] <;> omega) | fail)) only [go_sem, ↓reduceIte, Nat.reduceEqDiff, Nat.reduceAdd, Nat.reduceLT, Nat.reduceLeDiff, Nat.reduceBEq, reduceCtorEq]
          exact old id hid hne
      · refine hN (k + 1) _ _ ⟨⟨by omega, by omega, allI_step (p := fun j => !(decide (nth like j = nth like i) && goesB all like i j)) hall (by simp only [decide_eq_true hlk, Bool.true_and, Bool.not_eq_true']; assumption)⟩, ⟨?_, c2, c3, ?_, c5, c6, ?_, ?_, ?_, ?_, fun id hid hne => ?_⟩, ?_, ?_, ?_, ?_, ?_, ?_, ?_, ?_, ?_⟩ (by omega)
        all_goals try (simp -implicitDefEqProofs (disch := (first | omega | (simp only [go_sem, List.length_append, Nat.zero_add, Nat.reduceAdd, Nat.reduceLT] <;> omega) | fail)) only [go_sem, ↓reduceIte, Nat.reduceEqDiff, Nat.reduceAdd, Nat.reduceLT, Nat.reduceLeDiff, Nat.reduceBEq, reduceCtorEq, gV, gT, gA, gL, gX, e1, e3, e4, e46, e47, e54, e55]; done)
        all_goals try (simp -implicitDefEqProofs (disch := (first | omega | (simp only [go_sem, List.length_append, Nat.zero_add, Nat.reduceAdd, Nat.reduceLT] <;> omega) | fail)) only [go_sem, ↓reduceIte, Nat.reduceEqDiff, Nat.reduceAdd, Nat.reduceLT, Nat.reduceLeDiff, Nat.reduceBEq, reduceCtorEq]; omega)
        · simp -implicitDefEqProofs (disch := (first | omega | (simp only [go_sem, List.length_append, Nat.zero_add, Nat.reduceAdd, Nat.reduceLT] <;> omega) | fail)) only [go_sem, ↓reduceIte, Nat.reduceEqDiff, Nat.reduceAdd, Nat.reduceLT, Nat.reduceLeDiff, Nat.reduceBEq, reduceCtorEq]
          exact old id hid hne
    · repeat' (first | simp -implicitDefEqProofs (disch := (first | omega | (simp only [room_next, put_next, kill_next, empty_next, List.length_map, List.length_cons, List.length_nil, List.length_append, Nat.zero_add, Nat.reduceAdd, Nat.reduceLT] <;> omega) | (simp -implicitDefEqProofs (disch := (first | omega | (simp only [room_next, put_next, kill_next, empty_next, List.length_map, List.length_cons, List.length_nil, List.length_append, Nat.zero_add, Nat.reduceAdd, Nat.reduceLT] <;> omega) | fail)) only [go_sem, ↓reduceIte, Nat.reduceEqDiff, Nat.reduceAdd, Nat.reduceLT, Nat.reduceLeDiff, Nat.reduceBEq, reduceCtorEq, e1, e3, e4, e46, e47, e54, e55, gV, gT, gA, gL, gX]; done) | fail)) only [go_sem, ↓reduceIte, Nat.reduceEqDiff, Nat.reduceAdd, Nat.reduceLT, Nat.reduceLeDiff, Nat.reduceBEq, reduceCtorEq, e1, e3, e4, e46, e47, e54, e55, gV, gT, gA, gL, gX] | ((with_reducible first | refine g_dec (fun h d => ?_) (fun h d => ?_) | refine c_dec (fun h d => ?_) (fun h d => ?_) | refine s_dec (fun h d => ?_) (fun h d => ?_) | refine g_ndec (fun h d => ?_) (fun h d => ?_) | refine c_ndec (fun h d => ?_) (fun h d => ?_) | refine g_nbool (fun h d => ?_) (fun h d => ?_) | refine c_nbool (fun h d => ?_) (fun h d => ?_) | refine g_bool (fun h d => ?_) (fun h d => ?_) | refine c_bool (fun h d => ?_) (fun h d => ?_) | refine s_bool (fun h d => ?_) (fun h d => ?_)) <;> (try simp only [d]) <;> (try simp only [Bool.or_eq_true, Bool.and_eq_true, Bool.or_eq_false_iff, Bool.and_eq_false_iff, decide_eq_true_eq, decide_eq_false_iff_not, Bool.not_eq_true', Bool.not_eq_false'] at h) <;> (try omega)))
      refine hN (k + 1) _ _ ⟨⟨by omega, by omega, allI_step (p := fun j => !(decide (nth like j = nth like i) && goesB all like i j)) hall (by simp only [decide_eq_false hlk, Bool.false_and, Bool.not_false])⟩, ⟨?_, c2, c3, ?_, c5, c6, ?_, ?_, ?_, ?_, fun id hid hne => ?_⟩, ?_, ?_, ?_, ?_, ?_, ?_, ?_, ?_, ?_⟩ (by omega)
      all_goals try (simp -implicitDefEqProofs (disch := (first | omega | (simp only [go_sem, List.length_append, Nat.zero_add, Nat.reduceAdd, Nat.reduceLT] <;> omega) | fail)) only [go_sem, ↓reduceIte, Nat.reduceEqDiff, Nat.reduceAdd, Nat.reduceLT, Nat.reduceLeDiff, Nat.reduceBEq, reduceCtorEq, gV, gT, gA, gL, gX, e1, e3, e4, e46, e47, e54, e55]; done)
      all_goals try (simp -implicitDefEqProofs (disch := (first | omega | (simp only [go_sem, List.length_append, Nat.zero_add, Nat.reduceAdd, Nat.reduceLT] <;> omega) | fail)) only [go_sem, ↓reduceIte, Nat.reduceEqDiff, Nat.reduceAdd, Nat.reduceLT, Nat.reduceLeDiff, Nat.reduceBEq, reduceCtorEq]; omega)
      · simp -implicitDefEqProofs (disch := (first | omega | (simp only [go_sem, List.length_append, Nat.zero_add, Nat.reduceAdd, Nat.reduceLT] <;> omega) | fail)) only [go_sem, ↓reduceIte, Nat.reduceEqDiff, Nat.reduceAdd, Nat.reduceLT, Nat.reduceLeDiff, Nat.reduceBEq, reduceCtorEq]
        exact old id hid hne
  · repeat' (first | simp -implicitDefEqProofs (disch := (first | omega | (simp only [room_next, put_next, kill_next, empty_next, List.length_map, List.length_cons, List.length_nil, List.length_append, Nat.zero_add, Nat.reduceAdd, Nat.reduceLT] <;> omega) | (simp -implicitDefEqProofs (disch := (first | omega | (simp only [room_next, put_next, kill_next, empty_next, List.length_map, List.length_cons, List.length_nil, List.length_append, Nat.zero_add, Nat.reduceAdd, Nat.reduceLT] <;> omega) | fail)) only [go_sem, ↓reduceIte, Nat.reduceEqDiff, Nat.reduceAdd, Nat.reduceLT, Nat.reduceLeDiff, Nat.reduceBEq, reduceCtorEq, e1, e3, e4, e46, e47, e54, e55, gV, gT, gA, gL, gX]; done) | fail)) only [go_sem, ↓reduceIte, Nat.reduceEqDiff, Nat.reduceAdd, Nat.reduceLT, Nat.reduceLeDiff, Nat.reduceBEq, reduceCtorEq, e1, e3, e4, e46, e47, e54, e55, gV, gT, gA, gL, gX] | ((with_reducible first | refine g_dec (fun h d => ?_) (fun h d => ?_) | refine c_dec (fun h d => ?_) (fun h d => ?_) | refine s_dec (fun h d => ?_) (fun h d => ?_) | refine g_ndec (fun h d => ?_) (fun h d => ?_) | refine c_ndec (fun h d => ?_) (fun h d => ?_) | refine g_nbool (fun h d => ?_) (fun h d => ?_) | refine c_nbool (fun h d => ?_) (fun h d => ?_) | refine g_bool (fun h d => ?_) (fun h d => ?_) | refine c_bool (fun h d => ?_) (fun h d => ?_) | refine s_bool (fun h d => ?_) (fun h d => ?_)) <;> (try simp only [d]) <;> (try simp only [Bool.or_eq_true, Bool.and_eq_true, Bool.or_eq_false_iff, Bool.and_eq_false_iff, decide_eq_true_eq, decide_eq_false_iff_not, Bool.not_eq_true', Bool.not_eq_false'] at h) <;> (try omega)))
    have hf := firstK_no (all := all) (like := like) (i := i) fun j a b => hall j a (by omega)
    have hv : stepV all like i = i := by rw [stepV, hf]
    refine (hE _ _).1 _ (hK _ _ nx hx hpre (hi.trans hv.symm) ⟨?_, c2, c3, ?_, c5, c6, ?_, ?_, ?_, ?_, fun id hid hne => ?_⟩ ?_ ?_ ?_ ?_ ?_ ?_)
    all_goals try (simp -implicitDefEqProofs (disch := (first | omega | (simp only [go_sem, List.length_append, Nat.zero_add, Nat.reduceAdd, Nat.reduceLT] <;> omega) | fail)) only [go_sem, ↓reduceIte, Nat.reduceEqDiff, Nat.reduceAdd, Nat.reduceLT, Nat.reduceLeDiff, Nat.reduceBEq, reduceCtorEq, gV, gT, gA, gL, gX, e1, e3, e4, e46, e47]; done)
    all_goals try (simp -implicitDefEqProofs (disch := (first | omega | (simp only [go_sem, List.length_append, Nat.zero_add, Nat.reduceAdd, Nat.reduceLT] <;> omega) | fail)) only [go_sem, ↓reduceIte, Nat.reduceEqDiff, Nat.reduceAdd, Nat.reduceLT, Nat.reduceLeDiff, Nat.reduceBEq, reduceCtorEq]; omega)
    · simp -implicitDefEqProofs (disch := (first | omega | (simp only [go_sem, List.length_append, Nat.zero_add, Nat.reduceAdd, Nat.reduceLT] <;> omega) | fail)) only [go_sem, ↓reduceIte, Nat.reduceEqDiff, Nat.reduceAdd, Nat.reduceLT, Nat.reduceLeDiff, Nat.reduceBEq, reduceCtorEq]
      exact old id hid hne
end Go.Proofs.YtiijjopdhjpalaaDoor

/-! What the functions of chapter 10 answer: classes of types, the other loops. Conditions: none. -/
namespace Go.Proofs.YtiijjopdhjpalaaDoor
open Go
set_option linter.unusedSimpArgs false
set_option linter.unusedVariables false
theorem stepTo_more {all : List GT} {like : List Int} {i j : Int} (i0 : 0 ≤ i) (j0 : 0 ≤ j) : (j < i → nth (stepTo all like (i + 1).toNat) j = nth (stepTo all like i.toNat) j) ∧ (j = i → nth (stepTo all like (i + 1).toNat) j = stepV all like i) := by
  rw [show (i + 1).toNat = i.toNat + 1 by omega, stepTo_succ]
  have hl := stepTo_length all like i.toNat
  refine ⟨fun h => nth_app1 j0 (by omega), fun h => ?_⟩
  subst h
  rw [nth_app2 (by omega), hl, show j - ((j.toNat : Nat) : Int) = 0 by omega]
  show (match firstK all like j.toNat with | some k => _ | none => _) = stepV all like j
  unfold stepV
  cases firstK all like j.toNat with
  | none => show ((j.toNat : Nat) : Int) = j; omega
  | some k => rfl
theorem CS.room {m : AMem} {T A V1 : Nat} {all : List GT} {es : List AV} {L : Nat} {like : List Int} {w : AMem} (h : CS m T A V1 all es L like w) (n : Nat) : CS m T A V1 all es L like (w.room n) :=
  ⟨Nat.le_trans h.next (Nat.le_add_right _ _), h.v, h.l1, Nat.lt_of_lt_of_le h.l2 (Nat.le_add_right _ _), h.lT, h.lA, h.gV, h.gT, h.gA, h.gL, h.old⟩
set_option maxHeartbeats 1000000 in
/-- The middle loop. -/
theorem cls_loop2 (n : Nat) {m : AMem} {T A V1 B : Nat} {all : List GT} {es : List AV} {L : Nat} {like : List Int} (hne : all ≠ []) (hin : Inside all) (hm : ∀ x ∈ all, x.parts.length ≤ 1000) (hN : all.length ≤ 1000) (hB : B ≤ m.next) (hA : LI m B es all) (hc : Can all like)
    (hBT : ∀ ps, m.get T ≠ some (.arr 3 1 ps))
    {X : Nat} {nx : List Int} (hx : nx.length = all.length) (lX : L < X)
    {K : Kont} {Q : AOut → AMem → Prop} {env : AEnv} {w : AMem} (cs : CS m T A V1 all es L like w) (lX2 : X < w.next) (gX : w.get X = some (.arr 3 1 (nx.map avI)))
    (e1 : env 1 = .ptr V1 0 0) (e3 : env 3 = .sl 1 X 0 all.length) (e46 : env 46 = avI all.length) (e47 : env 47 = avI 0)
    (hK : ∀ (env' : AEnv) (w' : AMem), CS m T A V1 all es L like w' → X < w'.next → w'.get X = some (.arr 3 1 ((stepL all like).map avI)) →
      env' 1 = .ptr V1 0 0 → env' 3 = .sl 1 X 0 all.length → Wp (K (.exit 4) env' w') Q) :
    Wp (loopN LOOPK (aCode (callsN cfg (n + 1)) lb31_2) env w K) Q := by
  refine wp_loop (fun (s : Int × List Int) (env : AEnv) (w : AMem) => (0 ≤ s.1 ∧ s.1 ≤ all.length ∧ s.2.length = all.length ∧ ∀ j : Int, 0 ≤ j → j < s.1 → nth s.2 j = nth (stepTo all like s.1.toNat) j) ∧ CS m T A V1 all es L like w ∧ X < w.next ∧ w.get X = some (.arr 3 1 (s.2.map avI)) ∧
      env 1 = .ptr V1 0 0 ∧ env 3 = .sl 1 X 0 all.length ∧ env 46 = avI all.length ∧ env 47 = avI s.1) (fun s => (all.length - s.1).toNat)
    (fun s env w K' ⟨⟨i0, i1, hx, hpre⟩, cs, lX2, gX, e1, e3, e46, e47⟩ hN' hE => ?_) LOOPK (0, nx) _ _ ⟨⟨by omega, by show (0 : Int) ≤ _; omega, hx, fun j a b => by have : j < 0 := b; omega⟩, cs, lX2, gX, e1, e3, e46, e47⟩ (by rw [LOOPK_eq]; show ((all.length : Int) - 0).toNat < _; omega)
  obtain ⟨i, nx⟩ := s
  simp only at i0 i1 hx hpre gX e47 hN'
  obtain ⟨c1, c2, c3, c4, c5, c6, gV, gT, gA, gL, old⟩ := cs
  unfold lb31_2
  by_cases hi : i < all.length
  · repeat' (first | simp -implicitDefEqProofs (disch := (first | omega | (simp only [go_sem, List.length_append, Nat.zero_add, Nat.reduceAdd, Nat.reduceLT] <;> omega) | fail)) only [go_sem, ↓reduceIte, Nat.reduceEqDiff, Nat.reduceAdd, Nat.reduceLT, Nat.reduceLeDiff, Nat.reduceBEq, reduceCtorEq, e1, e3, e46, e47, gV, gT, gA, gL, gX] | ((with_reducible first | refine g_dec (fun h d => ?_) (fun h d => ?_) | refine c_dec (fun h d => ?_) (fun h d => ?_) | refine s_dec (fun h d => ?_) (fun h d => ?_) | refine g_ndec (fun h d => ?_) (fun h d => ?_) | refine c_ndec (fun h d => ?_) (fun h d => ?_) | refine g_nbool (fun h d => ?_) (fun h d => ?_) | refine c_nbool (fun h d => ?_) (fun h d => ?_) | refine g_bool (fun h d => ?_) (fun h d => ?_) | refine c_bool (fun h d => ?_) (fun h d => ?_) | refine s_bool (fun h d => ?_) (fun h d => ?_)) <;> (try simp only [d]) <;> (try simp only [Bool.or_eq_true, Bool.and_eq_true, Bool.or_eq_false_iff, Bool.and_eq_false_iff, decide_eq_true_eq, decide_eq_false_iff_not, Bool.not_eq_true', Bool.not_eq_false'] at h) <;> (try omega)))
    refine cls_loop3 n hne hin hm hN hB hA hc hBT (X := X) (nx := nx.set i.toNat i) (i := i) i0 hi (by simpa using hx) (fun j a b => ?_) ?_ lX ⟨?_, c2, c3, ?_, c5, c6, ?_, ?_, ?_, ?_, fun id hid hne => ?_⟩ ?_ ?_ ?_ ?_ ?_ ?_ ?_ ?_ ?_ (fun env' w' nx' hx' hp' hv' cs' lX' gX' e1' e3' e46' e47' => ?_)
    · rw [nth_set i0 (by omega) a, if_neg (by omega)]
      exact hpre j a b
    · rw [nth_set i0 (by omega) i0, if_pos rfl]
    all_goals try (simp -implicitDefEqProofs (disch := (first | omega | (simp only [go_sem, List.length_append, Nat.zero_add, Nat.reduceAdd, Nat.reduceLT] <;> omega) | fail)) only [go_sem, ↓reduceIte, Nat.reduceEqDiff, Nat.reduceAdd, Nat.reduceLT, Nat.reduceLeDiff, Nat.reduceBEq, reduceCtorEq, gV, gT, gA, gL, gX, e1, e3, e46, e47]; done)
    all_goals try (simp -implicitDefEqProofs (disch := (first | omega | (simp only [go_sem, List.length_append, Nat.zero_add, Nat.reduceAdd, Nat.reduceLT] <;> omega) | fail)) only [go_sem, ↓reduceIte, Nat.reduceEqDiff, Nat.reduceAdd, Nat.reduceLT, Nat.reduceLeDiff, Nat.reduceBEq, reduceCtorEq]; omega)
    · simp -implicitDefEqProofs (disch := (first | omega | (simp only [go_sem, List.length_append, Nat.zero_add, Nat.reduceAdd, Nat.reduceLT] <;> omega) | fail)) only [go_sem, ↓reduceIte, Nat.reduceEqDiff, Nat.reduceAdd, Nat.reduceLT, Nat.reduceLeDiff, Nat.reduceBEq, reduceCtorEq]
      exact old id hid hne
    · repeat' (first | simp -implicitDefEqProofs (disch := (first | omega | (simp only [go_sem, List.length_append, Nat.zero_add, Nat.reduceAdd, Nat.reduceLT] <;> omega) | fail)) only [go_sem, ↓reduceIte, Nat.reduceEqDiff, Nat.reduceAdd, Nat.reduceLT, Nat.reduceLeDiff, Nat.reduceBEq, reduceCtorEq] | ((with_reducible first | refine g_dec (fun h d => ?_) (fun h d => ?_) | refine c_dec (fun h d => ?_) (fun h d => ?_) | refine s_dec (fun h d => ?_) (fun h d => ?_) | refine g_ndec (fun h d => ?_) (fun h d => ?_) | refine c_ndec (fun h d => ?_) (fun h d => ?_) | refine g_nbool (fun h d => ?_) (fun h d => ?_) | refine c_nbool (fun h d => ?_) (fun h d => ?_) | refine g_bool (fun h d => ?_) (fun h d => ?_) | refine c_bool (fun h d => ?_) (fun h d => ?_) | refine s_bool (fun h d => ?_) (fun h d => ?_)) <;> (try simp only [d]) <;> (try simp only [Bool.or_eq_true, Bool.and_eq_true, Bool.or_eq_false_iff, Bool.and_eq_false_iff, decide_eq_true_eq, decide_eq_false_iff_not, Bool.not_eq_true', Bool.not_eq_false'] at h) <;> (try omega)))
      unfold ls31_0
      repeat' (first | simp -implicitDefEqProofs (disch := (first | omega | (simp only [go_sem, List.length_append, Nat.zero_add, Nat.reduceAdd, Nat.reduceLT] <;> omega) | fail)) only [go_sem, ↓reduceIte, Nat.reduceEqDiff, Nat.reduceAdd, Nat.reduceLT, Nat.reduceLeDiff, Nat.reduceBEq, reduceCtorEq, e47'] | ((with_reducible first | refine g_dec (fun h d => ?_) (fun h d => ?_) | refine c_dec (fun h d => ?_) (fun h d => ?_) | refine s_dec (fun h d => ?_) (fun h d => ?_) | refine g_ndec (fun h d => ?_) (fun h d => ?_) | refine c_ndec (fun h d => ?_) (fun h d => ?_) | refine g_nbool (fun h d => ?_) (fun h d => ?_) | refine c_nbool (fun h d => ?_) (fun h d => ?_) | refine g_bool (fun h d => ?_) (fun h d => ?_) | refine c_bool (fun h d => ?_) (fun h d => ?_) | refine s_bool (fun h d => ?_) (fun h d => ?_)) <;> (try simp only [d]) <;> (try simp only [Bool.or_eq_true, Bool.and_eq_true, Bool.or_eq_false_iff, Bool.and_eq_false_iff, decide_eq_true_eq, decide_eq_false_iff_not, Bool.not_eq_true', Bool.not_eq_false'] at h) <;> (try omega)))
      refine hN' (i + 1, nx') _ _ ⟨⟨by show (0 : Int) ≤ i + 1; omega, by show i + 1 ≤ (all.length : Int); omega, hx', fun j a b => ?_⟩, cs'.room _, Nat.lt_of_lt_of_le lX' (Nat.le_add_right _ _), gX', ?_, ?_, ?_, ?_⟩ (by show ((all.length : Int) - (i + 1)).toNat < ((all.length : Int) - i).toNat; omega)
      all_goals try (simp -implicitDefEqProofs (disch := (first | omega | (simp only [go_sem, List.length_append, Nat.zero_add, Nat.reduceAdd, Nat.reduceLT] <;> omega) | fail)) only [go_sem, ↓reduceIte, Nat.reduceEqDiff, Nat.reduceAdd, Nat.reduceLT, Nat.reduceLeDiff, Nat.reduceBEq, reduceCtorEq, e1', e3', e46', e47']; done)
      · show nth nx' j = nth (stepTo all like (i + 1).toNat) j
        have b : j < i + 1 := b
        obtain ⟨s1, s2⟩ := stepTo_more (all := all) (like := like) i0 a
        by_cases e : j = i
        · rw [s2 e, e, hv']
        · rw [s1 (by omega), hp' j a (by omega)]
  · repeat' (first | simp -implicitDefEqProofs (disch := (first | omega | (simp only [go_sem, List.length_append, Nat.zero_add, Nat.reduceAdd, Nat.reduceLT] <;> omega) | fail)) only [go_sem, ↓reduceIte, Nat.reduceEqDiff, Nat.reduceAdd, Nat.reduceLT, Nat.reduceLeDiff, Nat.reduceBEq, reduceCtorEq, e1, e3, e46, e47, gV, gT, gA, gL, gX] | ((with_reducible first | refine g_dec (fun h d => ?_) (fun h d => ?_) | refine c_dec (fun h d => ?_) (fun h d => ?_) | refine s_dec (fun h d => ?_) (fun h d => ?_) | refine g_ndec (fun h d => ?_) (fun h d => ?_) | refine c_ndec (fun h d => ?_) (fun h d => ?_) | refine g_nbool (fun h d => ?_) (fun h d => ?_) | refine c_nbool (fun h d => ?_) (fun h d => ?_) | refine g_bool (fun h d => ?_) (fun h d => ?_) | refine c_bool (fun h d => ?_) (fun h d => ?_) | refine s_bool (fun h d => ?_) (fun h d => ?_)) <;> (try simp only [d]) <;> (try simp only [Bool.or_eq_true, Bool.and_eq_true, Bool.or_eq_false_iff, Bool.and_eq_false_iff, decide_eq_true_eq, decide_eq_false_iff_not, Bool.not_eq_true', Bool.not_eq_false'] at h) <;> (try omega)))
    have hfin : nx = stepL all like := list_eq (by rw [hx, stepL, stepTo_length]) fun j a b => by
      rw [hpre j a (by omega), stepL, show i.toNat = all.length by omega]
    rw [hfin] at gX
    refine (hE _ _).1 _ (hK _ _ ⟨?_, c2, c3, ?_, c5, c6, ?_, ?_, ?_, ?_, fun id hid hne => ?_⟩ ?_ ?_ ?_ ?_)
    all_goals try (simp -implicitDefEqProofs (disch := (first | omega | (simp only [go_sem, List.length_append, Nat.zero_add, Nat.reduceAdd, Nat.reduceLT] <;> omega) | fail)) only [go_sem, ↓reduceIte, Nat.reduceEqDiff, Nat.reduceAdd, Nat.reduceLT, Nat.reduceLeDiff, Nat.reduceBEq, reduceCtorEq, gV, gT, gA, gL, gX, e1, e3]; done)
    all_goals try (simp -implicitDefEqProofs (disch := (first | omega | (simp only [go_sem, List.length_append, Nat.zero_add, Nat.reduceAdd, Nat.reduceLT] <;> omega) | fail)) only [go_sem, ↓reduceIte, Nat.reduceEqDiff, Nat.reduceAdd, Nat.reduceLT, Nat.reduceLeDiff, Nat.reduceBEq, reduceCtorEq]; omega)
    · simp -implicitDefEqProofs (disch := (first | omega | (simp only [go_sem, List.length_append, Nat.zero_add, Nat.reduceAdd, Nat.reduceLT] <;> omega) | fail)) only [go_sem, ↓reduceIte, Nat.reduceEqDiff, Nat.reduceAdd, Nat.reduceLT, Nat.reduceLeDiff, Nat.reduceBEq, reduceCtorEq]
      exact old id hid hne
end Go.Proofs.YtiijjopdhjpalaaDoor
