/- What the functions of chapter 10 answer: instructions, third part. Conditions: none. -/
import Derived.Test.YtiijjopdhjpalaaDoorMf
/-! What the functions of chapter 10 answer: first part. Conditions: none. -/
namespace Go.Proofs.YtiijjopdhjpalaaDoor
open Go
set_option linter.unusedSimpArgs false
theorem i64_iff {z : Int} : i64 z ↔ -9223372036854775808 ≤ z ∧ z ≤ 9223372036854775807 := by
  simp [i64, Lit.wf, IntKind.min, IntKind.max, IntKind.signed, IntKind.bits]
/-- A pure function may be asked of what was read back. -/
theorem borrow_trees (F : AF) (args : List AV) (m : AMem) (h : ∀ t, rbL (rb m RBN) args = some t → rbL (rb m RBN) t = some t) : borrow F args m = onTrees (borrow F) m (rbL (rb m RBN) args) := by
  cases hr : rbL (rb m RBN) args with
  | none => simp only [borrow, hr, onTrees]
  | some t =>
    show _ = borrow F t m
    unfold borrow
    rw [hr, h t hr]
/-- The kind of a type of a list. -/
def K3 (l : List GT) (n : Int) : Int := if n = 0 ∨ n = 1 then n else if n < 0 ∨ (l.length : Int) ≤ n - 2 then -1 else (nth l (n - 2)).kind
theorem sp_Kind3 (n : Nat) (l : List GT) (b : Int) (m : AMem) (hb : i64 b) : callsN cfg (n + 1) 66 [tsl 3 (l.map GT.av), avI b] m = some (.ret (avI (K3 l b)), m) := by
  rw [ce66]
  rw [i64_iff] at hb
  refine borrow_wp (targs := [tsl 3 (l.map GT.av), avI b]) (by simp only [go_sem]) ?_ rfl
  unfold aBody cf66 K3
  repeat' (first | simp -implicitDefEqProofs (disch := (first | omega | (simp only [go_sem, List.length_append, Nat.zero_add, Nat.reduceAdd, Nat.reduceLT] <;> omega) | fail)) only [go_sem, ↓reduceIte, Nat.reduceEqDiff, Nat.reduceAdd, Nat.reduceLT, Nat.reduceLeDiff, Nat.reduceBEq, reduceCtorEq] | ((with_reducible first | refine g_dec (fun h d => ?_) (fun h d => ?_) | refine c_dec (fun h d => ?_) (fun h d => ?_) | refine s_dec (fun h d => ?_) (fun h d => ?_) | refine g_ndec (fun h d => ?_) (fun h d => ?_) | refine c_ndec (fun h d => ?_) (fun h d => ?_) | refine g_nbool (fun h d => ?_) (fun h d => ?_) | refine c_nbool (fun h d => ?_) (fun h d => ?_) | refine g_bool (fun h d => ?_) (fun h d => ?_) | refine c_bool (fun h d => ?_) (fun h d => ?_) | refine s_bool (fun h d => ?_) (fun h d => ?_)) <;> (try simp only [d]) <;> (try simp only [Bool.or_eq_true, Bool.and_eq_true, Bool.or_eq_false_iff, Bool.and_eq_false_iff, decide_eq_true_eq, decide_eq_false_iff_not, Bool.not_eq_true', Bool.not_eq_false'] at h) <;> (try omega)))
  all_goals simp [*]
/-- Is it below? -/
theorem sp_below (n : Nat) (a b : Int) (m : AMem) : callsN cfg (n + 1) 62 [avI a, avI b] m = some (.ret (.bool (decide (0 ≤ a ∧ a < b))), m) := by
  rw [ce62]
  refine borrow_wp (targs := [avI a, avI b]) (by simp only [go_sem]) ?_ rfl
  unfold aBody cf62
  repeat' (first | simp -implicitDefEqProofs (disch := (first | omega | (simp only [go_sem, List.length_append, Nat.zero_add, Nat.reduceAdd, Nat.reduceLT] <;> omega) | fail)) only [go_sem, ↓reduceIte, Nat.reduceEqDiff, Nat.reduceAdd, Nat.reduceLT, Nat.reduceLeDiff, Nat.reduceBEq, reduceCtorEq] | ((with_reducible first | refine g_dec (fun h d => ?_) (fun h d => ?_) | refine c_dec (fun h d => ?_) (fun h d => ?_) | refine s_dec (fun h d => ?_) (fun h d => ?_) | refine g_ndec (fun h d => ?_) (fun h d => ?_) | refine c_ndec (fun h d => ?_) (fun h d => ?_) | refine g_nbool (fun h d => ?_) (fun h d => ?_) | refine c_nbool (fun h d => ?_) (fun h d => ?_) | refine g_bool (fun h d => ?_) (fun h d => ?_) | refine c_bool (fun h d => ?_) (fun h d => ?_) | refine s_bool (fun h d => ?_) (fun h d => ?_)) <;> (try simp only [d]) <;> (try simp only [Bool.or_eq_true, Bool.and_eq_true, Bool.or_eq_false_iff, Bool.and_eq_false_iff, decide_eq_true_eq, decide_eq_false_iff_not, Bool.not_eq_true', Bool.not_eq_false'] at h) <;> (try omega)))
  all_goals simp [*]
theorem sp_within (n : Nat) (a b c : Int) (m : AMem) : callsN cfg (n + 1) 68 [avI a, avI b, avI c] m = some (.ret (.bool (decide (b ≤ a ∧ a < c))), m) := by
  rw [ce68]
  refine borrow_wp (targs := [avI a, avI b, avI c]) (by simp only [go_sem]) ?_ rfl
  unfold aBody cf68
  repeat' (first | simp -implicitDefEqProofs (disch := (first | omega | (simp only [go_sem, List.length_append, Nat.zero_add, Nat.reduceAdd, Nat.reduceLT] <;> omega) | fail)) only [go_sem, ↓reduceIte, Nat.reduceEqDiff, Nat.reduceAdd, Nat.reduceLT, Nat.reduceLeDiff, Nat.reduceBEq, reduceCtorEq] | ((with_reducible first | refine g_dec (fun h d => ?_) (fun h d => ?_) | refine c_dec (fun h d => ?_) (fun h d => ?_) | refine s_dec (fun h d => ?_) (fun h d => ?_) | refine g_ndec (fun h d => ?_) (fun h d => ?_) | refine c_ndec (fun h d => ?_) (fun h d => ?_) | refine g_nbool (fun h d => ?_) (fun h d => ?_) | refine c_nbool (fun h d => ?_) (fun h d => ?_) | refine g_bool (fun h d => ?_) (fun h d => ?_) | refine c_bool (fun h d => ?_) (fun h d => ?_) | refine s_bool (fun h d => ?_) (fun h d => ?_)) <;> (try simp only [d]) <;> (try simp only [Bool.or_eq_true, Bool.and_eq_true, Bool.or_eq_false_iff, Bool.and_eq_false_iff, decide_eq_true_eq, decide_eq_false_iff_not, Bool.not_eq_true', Bool.not_eq_false'] at h) <;> (try omega)))
  all_goals simp [*]
theorem sp_two (n : Nat) (a : Int) (m : AMem) : callsN cfg (n + 1) 60 [avI a] m = some (.ret (.bool (decide (a = 7 ∨ a = 8))), m) := by
  rw [ce60]
  refine borrow_wp (targs := [avI a]) (by simp only [go_sem]) ?_ rfl
  unfold aBody cf60
  repeat' (first | simp -implicitDefEqProofs (disch := (first | omega | (simp only [go_sem, List.length_append, Nat.zero_add, Nat.reduceAdd, Nat.reduceLT] <;> omega) | fail)) only [go_sem, ↓reduceIte, Nat.reduceEqDiff, Nat.reduceAdd, Nat.reduceLT, Nat.reduceLeDiff, Nat.reduceBEq, reduceCtorEq] | ((with_reducible first | refine g_dec (fun h d => ?_) (fun h d => ?_) | refine c_dec (fun h d => ?_) (fun h d => ?_) | refine s_dec (fun h d => ?_) (fun h d => ?_) | refine g_ndec (fun h d => ?_) (fun h d => ?_) | refine c_ndec (fun h d => ?_) (fun h d => ?_) | refine g_nbool (fun h d => ?_) (fun h d => ?_) | refine c_nbool (fun h d => ?_) (fun h d => ?_) | refine g_bool (fun h d => ?_) (fun h d => ?_) | refine c_bool (fun h d => ?_) (fun h d => ?_) | refine s_bool (fun h d => ?_) (fun h d => ?_)) <;> (try simp only [d]) <;> (try simp only [Bool.or_eq_true, Bool.and_eq_true, Bool.or_eq_false_iff, Bool.and_eq_false_iff, decide_eq_true_eq, decide_eq_false_iff_not, Bool.not_eq_true', Bool.not_eq_false'] at h) <;> (try omega)))
  all_goals simp [*]
theorem sp_Is (n : Nat) (a : Int) (m : AMem) : callsN cfg (n + 1) 61 [avI a] m = some (.ret (.bool (decide (-4611686018427387904 ≤ a ∧ a ≤ 4611686018427387903))), m) := by
  rw [ce61]
  refine borrow_wp (targs := [avI a]) (by simp only [go_sem]) ?_ rfl
  unfold aBody cf61
  repeat' (first | simp -implicitDefEqProofs (disch := (first | omega | (simp only [go_sem, List.length_append, Nat.zero_add, Nat.reduceAdd, Nat.reduceLT] <;> omega) | fail)) only [go_sem, ↓reduceIte, Nat.reduceEqDiff, Nat.reduceAdd, Nat.reduceLT, Nat.reduceLeDiff, Nat.reduceBEq, reduceCtorEq] | ((with_reducible first | refine g_dec (fun h d => ?_) (fun h d => ?_) | refine c_dec (fun h d => ?_) (fun h d => ?_) | refine s_dec (fun h d => ?_) (fun h d => ?_) | refine g_ndec (fun h d => ?_) (fun h d => ?_) | refine c_ndec (fun h d => ?_) (fun h d => ?_) | refine g_nbool (fun h d => ?_) (fun h d => ?_) | refine c_nbool (fun h d => ?_) (fun h d => ?_) | refine g_bool (fun h d => ?_) (fun h d => ?_) | refine c_bool (fun h d => ?_) (fun h d => ?_) | refine s_bool (fun h d => ?_) (fun h d => ?_)) <;> (try simp only [d]) <;> (try simp only [Bool.or_eq_true, Bool.and_eq_true, Bool.or_eq_false_iff, Bool.and_eq_false_iff, decide_eq_true_eq, decide_eq_false_iff_not, Bool.not_eq_true', Bool.not_eq_false'] at h) <;> (try omega)))
  all_goals simp [*]
def ends (a : Int) : Bool := decide (a = 18 ∨ a = 21 ∨ a = 37)
theorem sp_Ends (n : Nat) (a : Int) (m : AMem) : callsN cfg (n + 1) 34 [avI a] m = some (.ret (.bool (ends a)), m) := by
  rw [ce34]
  refine borrow_wp (targs := [avI a]) (by simp only [go_sem]) ?_ rfl
  unfold aBody cf34 ends
  repeat' (first | simp -implicitDefEqProofs (disch := (first | omega | (simp only [go_sem, List.length_append, Nat.zero_add, Nat.reduceAdd, Nat.reduceLT] <;> omega) | fail)) only [go_sem, ↓reduceIte, Nat.reduceEqDiff, Nat.reduceAdd, Nat.reduceLT, Nat.reduceLeDiff, Nat.reduceBEq, reduceCtorEq] | ((with_reducible first | refine g_dec (fun h d => ?_) (fun h d => ?_) | refine c_dec (fun h d => ?_) (fun h d => ?_) | refine s_dec (fun h d => ?_) (fun h d => ?_) | refine g_ndec (fun h d => ?_) (fun h d => ?_) | refine c_ndec (fun h d => ?_) (fun h d => ?_) | refine g_nbool (fun h d => ?_) (fun h d => ?_) | refine c_nbool (fun h d => ?_) (fun h d => ?_) | refine g_bool (fun h d => ?_) (fun h d => ?_) | refine c_bool (fun h d => ?_) (fun h d => ?_) | refine s_bool (fun h d => ?_) (fun h d => ?_)) <;> (try simp only [d]) <;> (try simp only [Bool.or_eq_true, Bool.and_eq_true, Bool.or_eq_false_iff, Bool.and_eq_false_iff, decide_eq_true_eq, decide_eq_false_iff_not, Bool.not_eq_true', Bool.not_eq_false'] at h) <;> (try omega)))
  all_goals simp [*]
theorem sp_Ends4 (n : Nat) (a : Int) (m : AMem) : callsN cfg (n + 1) 37 [avI a] m = some (.ret (.bool (ends a)), m) := by
  rw [ce37]
  refine borrow_wp (targs := [avI a]) (by simp only [go_sem]) ?_ rfl
  unfold aBody cf37 ends
  repeat' (first | simp -implicitDefEqProofs (disch := (first | omega | (simp only [go_sem, List.length_append, Nat.zero_add, Nat.reduceAdd, Nat.reduceLT] <;> omega) | fail)) only [go_sem, ↓reduceIte, Nat.reduceEqDiff, Nat.reduceAdd, Nat.reduceLT, Nat.reduceLeDiff, Nat.reduceBEq, reduceCtorEq] | ((with_reducible first | refine g_dec (fun h d => ?_) (fun h d => ?_) | refine c_dec (fun h d => ?_) (fun h d => ?_) | refine s_dec (fun h d => ?_) (fun h d => ?_) | refine g_ndec (fun h d => ?_) (fun h d => ?_) | refine c_ndec (fun h d => ?_) (fun h d => ?_) | refine g_nbool (fun h d => ?_) (fun h d => ?_) | refine c_nbool (fun h d => ?_) (fun h d => ?_) | refine g_bool (fun h d => ?_) (fun h d => ?_) | refine c_bool (fun h d => ?_) (fun h d => ?_) | refine s_bool (fun h d => ?_) (fun h d => ?_)) <;> (try simp only [d]) <;> (try simp only [Bool.or_eq_true, Bool.and_eq_true, Bool.or_eq_false_iff, Bool.and_eq_false_iff, decide_eq_true_eq, decide_eq_false_iff_not, Bool.not_eq_true', Bool.not_eq_false'] at h) <;> (try omega)))
  all_goals simp [*]
/-- Is there a type of this number? -/
def there (l : List GT) (n : Int) : Bool := decide (0 ≤ n ∧ n < l.length + 2)
theorem sp_There (n : Nat) (l : List GT) (b : Int) (m : AMem) (hl : l.length ≤ 1000) : callsN cfg (n + 1) 64 [tsl 3 (l.map GT.av), avI b] m = some (.ret (.bool (there l b)), m) := by
  rw [ce64]
  refine borrow_wp (targs := [tsl 3 (l.map GT.av), avI b]) (by simp only [go_sem]) ?_ rfl
  unfold aBody cf64 there
  repeat' (first | simp -implicitDefEqProofs (disch := (first | omega | (simp only [go_sem, List.length_append, Nat.zero_add, Nat.reduceAdd, Nat.reduceLT] <;> omega) | fail)) only [go_sem, ↓reduceIte, Nat.reduceEqDiff, Nat.reduceAdd, Nat.reduceLT, Nat.reduceLeDiff, Nat.reduceBEq, reduceCtorEq] | ((with_reducible first | refine g_dec (fun h d => ?_) (fun h d => ?_) | refine c_dec (fun h d => ?_) (fun h d => ?_) | refine s_dec (fun h d => ?_) (fun h d => ?_) | refine g_ndec (fun h d => ?_) (fun h d => ?_) | refine c_ndec (fun h d => ?_) (fun h d => ?_) | refine g_nbool (fun h d => ?_) (fun h d => ?_) | refine c_nbool (fun h d => ?_) (fun h d => ?_) | refine g_bool (fun h d => ?_) (fun h d => ?_) | refine c_bool (fun h d => ?_) (fun h d => ?_) | refine s_bool (fun h d => ?_) (fun h d => ?_)) <;> (try simp only [d]) <;> (try simp only [Bool.or_eq_true, Bool.and_eq_true, Bool.or_eq_false_iff, Bool.and_eq_false_iff, decide_eq_true_eq, decide_eq_false_iff_not, Bool.not_eq_true', Bool.not_eq_false'] at h) <;> (try omega)))
  all_goals simp [*]
theorem sp_there (n : Nat) (l : List GT) (b : Int) (m : AMem) (hl : l.length ≤ 1000) : callsN cfg (n + 1) 80 [tsl 3 (l.map GT.av), avI b] m = some (.ret (.bool (there l b)), m) := by
  rw [ce80]
  refine borrow_wp (targs := [tsl 3 (l.map GT.av), avI b]) (by simp only [go_sem]) ?_ rfl
  unfold aBody cf80 there
  repeat' (first | simp -implicitDefEqProofs (disch := (first | omega | (simp only [go_sem, List.length_append, Nat.zero_add, Nat.reduceAdd, Nat.reduceLT] <;> omega) | fail)) only [go_sem, ↓reduceIte, Nat.reduceEqDiff, Nat.reduceAdd, Nat.reduceLT, Nat.reduceLeDiff, Nat.reduceBEq, reduceCtorEq] | ((with_reducible first | refine g_dec (fun h d => ?_) (fun h d => ?_) | refine c_dec (fun h d => ?_) (fun h d => ?_) | refine s_dec (fun h d => ?_) (fun h d => ?_) | refine g_ndec (fun h d => ?_) (fun h d => ?_) | refine c_ndec (fun h d => ?_) (fun h d => ?_) | refine g_nbool (fun h d => ?_) (fun h d => ?_) | refine c_nbool (fun h d => ?_) (fun h d => ?_) | refine g_bool (fun h d => ?_) (fun h d => ?_) | refine c_bool (fun h d => ?_) (fun h d => ?_) | refine s_bool (fun h d => ?_) (fun h d => ?_)) <;> (try simp only [d]) <;> (try simp only [Bool.or_eq_true, Bool.and_eq_true, Bool.or_eq_false_iff, Bool.and_eq_false_iff, decide_eq_true_eq, decide_eq_false_iff_not, Bool.not_eq_true', Bool.not_eq_false'] at h) <;> (try omega)))
  all_goals simp [*]
end Go.Proofs.YtiijjopdhjpalaaDoor

/-! What the functions of chapter 10 answer: types. Conditions: none. -/
namespace Go.Proofs.YtiijjopdhjpalaaDoor
open Go
set_option linter.unusedSimpArgs false
set_option linter.unusedVariables false
theorem all_nth {α : Type} [Inhabited α] {l : List α} {p : α → Bool} (h : ∀ j : Int, 0 ≤ j → j < l.length → p (nth l j) = true) : l.all p = true := by
  rw [List.all_eq_true]
  intro x hx
  obtain ⟨k, hk⟩ := List.getElem?_of_mem hx
  have hlt := (List.getElem?_eq_some_iff.1 hk).1
  have := h k (by omega) (by omega)
  rw [nth_nat, List.getD_eq_getElem?_getD, hk] at this
  exact this
theorem all_nth_f {α : Type} [Inhabited α] {l : List α} {p : α → Bool} {j : Int} (h0 : 0 ≤ j) (h1 : j < l.length) (h : p (nth l j) = false) : l.all p = false := by
  cases ha : l.all p with
  | false => rfl
  | true =>
    rw [List.all_eq_true] at ha
    rw [ha _ (nth_mem l j h0 h1)] at h
    cases h
theorem all_step {α : Type} [Inhabited α] {l : List α} {p : α → Bool} {i : Int} (h : ∀ j : Int, 0 ≤ j → j < i → p (nth l j) = true) (hi : p (nth l i) = true) : ∀ j : Int, 0 ≤ j → j < i + 1 → p (nth l j) = true := fun j h0 h1 => by
  by_cases e : j = i
  · rw [e]; exact hi
  · exact h j h0 (by omega)
theorem wf_nth {l : List Int} (h : ∀ x ∈ l, i64 x) {j : Int} (h0 : 0 ≤ j) (h1 : j < l.length) : i64 (nth l j) := h _ (nth_mem l j h0 h1)
/-- May a maybe be of it? -/
def object (l : List GT) (n : Int) : Bool := decide (1 < n) && there l n && decide (2 ≤ (nth l (n - 2)).kind ∧ (nth l (n - 2)).kind ≤ 4)
theorem sp_object (n : Nat) (l : List GT) (b : Int) (m : AMem) (hl : l.length ≤ 1000) (hb : i64 b) : callsN cfg (n + 2) 81 [tsl 3 (l.map GT.av), avI b] m = some (.ret (.bool (object l b)), m) := by
  rw [ce81]
  rw [i64_iff] at hb
  refine borrow_wp (targs := [tsl 3 (l.map GT.av), avI b]) (by simp only [go_sem]) ?_ rfl
  unfold aBody cf81 object there
  repeat' (first | simp -implicitDefEqProofs (disch := (first | omega | (simp only [go_sem, List.length_append, Nat.zero_add, Nat.reduceAdd, Nat.reduceLT] <;> omega) | fail)) only [go_sem, ↓reduceIte, Nat.reduceEqDiff, Nat.reduceAdd, Nat.reduceLT, Nat.reduceLeDiff, Nat.reduceBEq, reduceCtorEq, sp_there, there] | ((with_reducible first | refine g_dec (fun h d => ?_) (fun h d => ?_) | refine c_dec (fun h d => ?_) (fun h d => ?_) | refine s_dec (fun h d => ?_) (fun h d => ?_) | refine g_ndec (fun h d => ?_) (fun h d => ?_) | refine c_ndec (fun h d => ?_) (fun h d => ?_) | refine g_nbool (fun h d => ?_) (fun h d => ?_) | refine c_nbool (fun h d => ?_) (fun h d => ?_) | refine g_bool (fun h d => ?_) (fun h d => ?_) | refine c_bool (fun h d => ?_) (fun h d => ?_) | refine s_bool (fun h d => ?_) (fun h d => ?_)) <;> (try simp only [d]) <;> (try simp only [Bool.or_eq_true, Bool.and_eq_true, Bool.or_eq_false_iff, Bool.and_eq_false_iff, decide_eq_true_eq, decide_eq_false_iff_not, Bool.not_eq_true', Bool.not_eq_false'] at h) <;> (try omega)))
  all_goals simp [*]
theorem K3_or (l : List GT) (b : Int) : (b = 0 ∧ K3 l b = 0) ∨ (b = 1 ∧ K3 l b = 1) ∨ ((b < 0 ∨ (l.length : Int) + 2 ≤ b) ∧ K3 l b = -1) ∨ (2 ≤ b ∧ b < (l.length : Int) + 2 ∧ K3 l b = (nth l (b - 2)).kind) := by
  unfold K3
  split
  · omega
  · split
    · omega
    · refine .inr (.inr (.inr ⟨by omega, by omega, rfl⟩))
theorem sp_object3 (n : Nat) (l : List GT) (b : Int) (m : AMem) (hl : l.length ≤ 1000) (hb : i64 b) : callsN cfg (n + 2) 65 [tsl 3 (l.map GT.av), avI b] m = some (.ret (.bool (object l b)), m) := by
  rw [ce65]
  refine borrow_wp (targs := [tsl 3 (l.map GT.av), avI b]) (by simp only [go_sem]) ?_ rfl
  have hk := sp_Kind3 (n := n) (l := l) (b := b) (hb := hb)
  rw [i64_iff] at hb
  unfold aBody cf65 object there
  have ho := K3_or l b
  generalize K3 l b = kk at hk ho
  repeat' (first | simp -implicitDefEqProofs (disch := (first | omega | (simp only [go_sem, List.length_append, Nat.zero_add, Nat.reduceAdd, Nat.reduceLT] <;> omega) | fail)) only [go_sem, ↓reduceIte, Nat.reduceEqDiff, Nat.reduceAdd, Nat.reduceLT, Nat.reduceLeDiff, Nat.reduceBEq, reduceCtorEq, hk] | ((with_reducible first | refine g_dec (fun h d => ?_) (fun h d => ?_) | refine c_dec (fun h d => ?_) (fun h d => ?_) | refine s_dec (fun h d => ?_) (fun h d => ?_) | refine g_ndec (fun h d => ?_) (fun h d => ?_) | refine c_ndec (fun h d => ?_) (fun h d => ?_) | refine g_nbool (fun h d => ?_) (fun h d => ?_) | refine c_nbool (fun h d => ?_) (fun h d => ?_) | refine g_bool (fun h d => ?_) (fun h d => ?_) | refine c_bool (fun h d => ?_) (fun h d => ?_) | refine s_bool (fun h d => ?_) (fun h d => ?_)) <;> (try simp only [d]) <;> (try simp only [Bool.or_eq_true, Bool.and_eq_true, Bool.or_eq_false_iff, Bool.and_eq_false_iff, decide_eq_true_eq, decide_eq_false_iff_not, Bool.not_eq_true', Bool.not_eq_false'] at h) <;> (try omega)))
  all_goals (rcases ho with ⟨h1, h2⟩ | ⟨h1, h2⟩ | ⟨h1, h2⟩ | ⟨h1, h2, h3⟩ <;> (first | rfl | (rw [Bool.eq_iff_iff]; simp only [Bool.or_eq_true, Bool.and_eq_true, Bool.or_eq_false_iff, Bool.and_eq_false_iff, decide_eq_true_eq, decide_eq_false_iff_not, Bool.not_eq_true', Bool.not_eq_false', Bool.false_eq_true, eq_self, true_iff, false_iff, iff_true, iff_false] <;> omega)))
/-- Why a type may not be; 0: it may. -/
def wr (l : List GT) (k : Int) (ps : List Int) (o : Int) : Int :=
  if k < 2 ∨ 5 < k then 6 else if (k = 2 ∧ 12 < ps.length) ∨ (k = 4 ∧ 6 < ps.length) then 5 else if 0 < ps.length ∧ (k = 3 ∨ k = 5) then 7 else
  if ps.all (there l) = false then 7 else if (if k = 5 then object l o else if k = 2 then decide (o = 0) else there l o) = true then 0 else 7
set_option maxHeartbeats 1000000 in
theorem sp_wrong3 (n : Nat) (l : List GT) (k : Int) (ps : List Int) (o : Int) (m : AMem) (hl : l.length ≤ 1000) (hk : i64 k) (ho : i64 o) (hp : ∀ x ∈ ps, i64 x) :
    callsN cfg (n + 3) 35 [tsl 3 (l.map GT.av), .agg [avI k, tsl 1 (ps.map avI), avI o]] m = some (.ret (avI (wr l k ps o)), m) := by
  rw [ce35]
  refine borrow_wp (targs := [tsl 3 (l.map GT.av), .agg [avI k, tsl 1 (ps.map avI), avI o]]) (by simp only [go_sem]) ?_ rfl
  unfold aBody cf35
  have key : ∀ (env : AEnv) (m : AMem), ps.length ≤ 12 → 2 ≤ k → k ≤ 5 → (k = 4 → ps.length ≤ 6) → (k = 3 ∨ k = 5 → ps.length = 0) → 2 ≤ m.next → m.get 0 = some (.arr 43 3 [.agg [avI k, tsl 1 (ps.map avI), avI o]]) → env 0 = tsl 3 (l.map GT.av) → env 3 = .ptr 0 0 0 → env 5 = avI 0 →
      Wp (loopN LOOPK (aCode (callsN cfg (n + 2)) lb35_0) env m (KBlk 0 (KSeq (callsN cfg (n + 2)) ls35_0 (fin [.slot 4])))) fun o_1 m' => RetIs m' (avI (wr l k ps o)) o_1 := by
    intro env m q1 q2 q3 q4 q5 hn hg e0 e3 e5
    refine wp_loop (fun (i : Int) (env : AEnv) (m : AMem) => (0 ≤ i ∧ i ≤ ps.length ∧ ∀ j, 0 ≤ j → j < i → there l (nth ps j) = true) ∧ 2 ≤ m.next ∧
        m.get 0 = some (.arr 43 3 [.agg [avI k, tsl 1 (ps.map avI), avI o]]) ∧ env 0 = tsl 3 (l.map GT.av) ∧ env 3 = .ptr 0 0 0 ∧ env 5 = avI i) (fun i => (ps.length - i).toNat)
      (fun i env m K' ⟨⟨hi0, hi1, hall⟩, hn, hg, e0, e3, e5⟩ hN hE => ?_) LOOPK 0 _ _ ⟨⟨by omega, by omega, fun j a b => by omega⟩, hn, hg, e0, e3, e5⟩ (by rw [LOOPK_eq]; omega)
    unfold lb35_0
    repeat' (first | simp -implicitDefEqProofs (disch := (first | omega | (simp only [go_sem, List.length_append, Nat.zero_add, Nat.reduceAdd, Nat.reduceLT] <;> omega) | fail)) only [go_sem, ↓reduceIte, Nat.reduceEqDiff, Nat.reduceAdd, Nat.reduceLT, Nat.reduceLeDiff, Nat.reduceBEq, reduceCtorEq, hg, e0, e3, e5, sp_There] | ((with_reducible first | refine g_dec (fun h d => ?_) (fun h d => ?_) | refine c_dec (fun h d => ?_) (fun h d => ?_) | refine s_dec (fun h d => ?_) (fun h d => ?_) | refine g_ndec (fun h d => ?_) (fun h d => ?_) | refine c_ndec (fun h d => ?_) (fun h d => ?_) | refine g_nbool (fun h d => ?_) (fun h d => ?_) | refine c_nbool (fun h d => ?_) (fun h d => ?_) | refine g_bool (fun h d => ?_) (fun h d => ?_) | refine c_bool (fun h d => ?_) (fun h d => ?_) | refine s_bool (fun h d => ?_) (fun h d => ?_)) <;> (try simp only [d]) <;> (try simp only [Bool.or_eq_true, Bool.and_eq_true, Bool.or_eq_false_iff, Bool.and_eq_false_iff, decide_eq_true_eq, decide_eq_false_iff_not, Bool.not_eq_true', Bool.not_eq_false'] at h) <;> (try omega)))
    all_goals (with_reducible first | refine hN (i + 1) _ _ ?_ ?_ | refine (hE _ _).1 _ ?_ | refine (hE _ _).2.1 ?_)
    all_goals try omega
    all_goals try unfold ls35_0
    all_goals repeat' (first | simp -implicitDefEqProofs (disch := (first | omega | (simp only [go_sem, List.length_append, Nat.zero_add, Nat.reduceAdd, Nat.reduceLT] <;> omega) | fail)) only [go_sem, ↓reduceIte, Nat.reduceEqDiff, Nat.reduceAdd, Nat.reduceLT, Nat.reduceLeDiff, Nat.reduceBEq, reduceCtorEq, hg, e0, e3, e5, sp_There, sp_object3] | ((with_reducible first | refine g_dec (fun h d => ?_) (fun h d => ?_) | refine c_dec (fun h d => ?_) (fun h d => ?_) | refine s_dec (fun h d => ?_) (fun h d => ?_) | refine g_ndec (fun h d => ?_) (fun h d => ?_) | refine c_ndec (fun h d => ?_) (fun h d => ?_) | refine g_nbool (fun h d => ?_) (fun h d => ?_) | refine c_nbool (fun h d => ?_) (fun h d => ?_) | refine g_bool (fun h d => ?_) (fun h d => ?_) | refine c_bool (fun h d => ?_) (fun h d => ?_) | refine s_bool (fun h d => ?_) (fun h d => ?_)) <;> (try simp only [d]) <;> (try simp only [Bool.or_eq_true, Bool.and_eq_true, Bool.or_eq_false_iff, Bool.and_eq_false_iff, decide_eq_true_eq, decide_eq_false_iff_not, Bool.not_eq_true', Bool.not_eq_false'] at h) <;> (try omega)))
    all_goals first
      | exact ⟨by omega, by omega, all_step hall (by assumption)⟩
      | (have hA : ps.all (there l) = false := all_nth_f (j := i) (by omega) (by omega) (by assumption)
         ((try unfold wr); (repeat' split) <;> first | omega | (simp_all; done) | (simp_all; omega)))
      | (have hA : ps.all (there l) = true := all_nth fun j a b => hall j a (by omega)
         ((try unfold wr); (repeat' split) <;> first | omega | (simp_all; done) | (simp_all; omega)))
  repeat' (first | simp -implicitDefEqProofs (disch := (first | omega | (simp only [go_sem, List.length_append, Nat.zero_add, Nat.reduceAdd, Nat.reduceLT] <;> omega) | fail)) only [go_sem, ↓reduceIte, Nat.reduceEqDiff, Nat.reduceAdd, Nat.reduceLT, Nat.reduceLeDiff, Nat.reduceBEq, reduceCtorEq] | ((with_reducible first | refine g_dec (fun h d => ?_) (fun h d => ?_) | refine c_dec (fun h d => ?_) (fun h d => ?_) | refine s_dec (fun h d => ?_) (fun h d => ?_) | refine g_ndec (fun h d => ?_) (fun h d => ?_) | refine c_ndec (fun h d => ?_) (fun h d => ?_) | refine g_nbool (fun h d => ?_) (fun h d => ?_) | refine c_nbool (fun h d => ?_) (fun h d => ?_) | refine g_bool (fun h d => ?_) (fun h d => ?_) | refine c_bool (fun h d => ?_) (fun h d => ?_) | refine s_bool (fun h d => ?_) (fun h d => ?_)) <;> (try simp only [d]) <;> (try simp only [Bool.or_eq_true, Bool.and_eq_true, Bool.or_eq_false_iff, Bool.and_eq_false_iff, decide_eq_true_eq, decide_eq_false_iff_not, Bool.not_eq_true', Bool.not_eq_false'] at h) <;> (try omega)))
  all_goals try ((try unfold wr); (repeat' split) <;> first | omega | (simp_all; done) | (simp_all; omega))
  all_goals
    refine key _ _ ?_ ?_ ?_ ?_ ?_ ?_ ?_ ?_ ?_ ?_
  all_goals try omega
  all_goals try (simp -implicitDefEqProofs (disch := (first | omega | (simp only [go_sem, List.length_append, Nat.zero_add, Nat.reduceAdd, Nat.reduceLT] <;> omega) | fail)) only [go_sem, ↓reduceIte, Nat.reduceEqDiff, Nat.reduceAdd, Nat.reduceLT, Nat.reduceLeDiff, Nat.reduceBEq, reduceCtorEq]; done)
end Go.Proofs.YtiijjopdhjpalaaDoor

/-! What the functions of chapter 10 answer: types, second part. Conditions: none. -/
namespace Go.Proofs.YtiijjopdhjpalaaDoor
open Go
set_option linter.unusedSimpArgs false
set_option linter.unusedVariables false
theorem object_there {l : List GT} {o : Int} (h : object l o = true) : there l o = true := by
  unfold object at h
  simp only [Bool.and_eq_true] at h
  exact h.1.2
set_option maxHeartbeats 1000000 in
theorem sp_wrong (n : Nat) (l : List GT) (k : Int) (ps : List Int) (o : Int) (m : AMem) (hl : l.length ≤ 1000) (hk : i64 k) (ho : i64 o) (hp : ∀ x ∈ ps, i64 x) :
    callsN cfg (n + 3) 53 [tsl 3 (l.map GT.av), .agg [avI k, tsl 1 (ps.map avI), avI o]] m = some (.ret (avI (wr l k ps o)), m) := by
  rw [ce53]
  refine borrow_wp (targs := [tsl 3 (l.map GT.av), .agg [avI k, tsl 1 (ps.map avI), avI o]]) (by simp only [go_sem]) ?_ rfl
  unfold aBody cf53
  have key : ∀ (env : AEnv) (m : AMem), ps.length ≤ 12 → 2 ≤ k → k ≤ 5 → (k = 4 → ps.length ≤ 6) → (k = 3 ∨ k = 5 → ps.length = 0) → 2 ≤ m.next → m.get 0 = some (.arr 43 3 [.agg [avI k, tsl 1 (ps.map avI), avI o]]) → env 0 = tsl 3 (l.map GT.av) → env 3 = .ptr 0 0 0 → env 27 = tsl 1 (ps.map avI) → env 28 = avI ps.length → env 29 = avI 0 →
      Wp (loopN LOOPK (aCode (callsN cfg (n + 2)) lb53_0) env m (KBlk 1 (KSeq (callsN cfg (n + 2)) ls53_0 (fin [.slot 4])))) fun o_1 m' => RetIs m' (avI (wr l k ps o)) o_1 := by
    intro env m q1 q2 q3 q4 q5 hn hg e0 e3 e27 e28 e29
    refine wp_loop (fun (i : Int) (env : AEnv) (m : AMem) => (0 ≤ i ∧ i ≤ ps.length ∧ ∀ j, 0 ≤ j → j < i → there l (nth ps j) = true) ∧ 2 ≤ m.next ∧
        m.get 0 = some (.arr 43 3 [.agg [avI k, tsl 1 (ps.map avI), avI o]]) ∧ env 0 = tsl 3 (l.map GT.av) ∧ env 3 = .ptr 0 0 0 ∧ env 27 = tsl 1 (ps.map avI) ∧ env 28 = avI ps.length ∧ env 29 = avI i) (fun i => (ps.length - i).toNat)
      (fun i env m K' ⟨⟨hi0, hi1, hall⟩, hn, hg, e0, e3, e27, e28, e29⟩ hN hE => ?_) LOOPK 0 _ _ ⟨⟨by omega, by omega, fun j a b => by omega⟩, hn, hg, e0, e3, e27, e28, e29⟩ (by rw [LOOPK_eq]; omega)
    unfold lb53_0
    repeat' (first | simp -implicitDefEqProofs (disch := (first | omega | (simp only [go_sem, List.length_append, Nat.zero_add, Nat.reduceAdd, Nat.reduceLT] <;> omega) | fail)) only [go_sem, ↓reduceIte, Nat.reduceEqDiff, Nat.reduceAdd, Nat.reduceLT, Nat.reduceLeDiff, Nat.reduceBEq, reduceCtorEq, hg, e0, e3, e27, e28, e29, sp_there] | ((with_reducible first | refine g_dec (fun h d => ?_) (fun h d => ?_) | refine c_dec (fun h d => ?_) (fun h d => ?_) | refine s_dec (fun h d => ?_) (fun h d => ?_) | refine g_ndec (fun h d => ?_) (fun h d => ?_) | refine c_ndec (fun h d => ?_) (fun h d => ?_) | refine g_nbool (fun h d => ?_) (fun h d => ?_) | refine c_nbool (fun h d => ?_) (fun h d => ?_) | refine g_bool (fun h d => ?_) (fun h d => ?_) | refine c_bool (fun h d => ?_) (fun h d => ?_) | refine s_bool (fun h d => ?_) (fun h d => ?_)) <;> (try simp only [d]) <;> (try simp only [Bool.or_eq_true, Bool.and_eq_true, Bool.or_eq_false_iff, Bool.and_eq_false_iff, decide_eq_true_eq, decide_eq_false_iff_not, Bool.not_eq_true', Bool.not_eq_false'] at h) <;> (try omega)))
    all_goals (with_reducible first | refine hN (i + 1) _ _ ?_ ?_ | refine (hE _ _).1 _ ?_ | refine (hE _ _).2.1 ?_)
    all_goals try omega
    all_goals try unfold ls53_0
    all_goals repeat' (first | simp -implicitDefEqProofs (disch := (first | omega | (simp only [go_sem, List.length_append, Nat.zero_add, Nat.reduceAdd, Nat.reduceLT] <;> omega) | fail)) only [go_sem, ↓reduceIte, Nat.reduceEqDiff, Nat.reduceAdd, Nat.reduceLT, Nat.reduceLeDiff, Nat.reduceBEq, reduceCtorEq, hg, e0, e3, e27, e28, e29, sp_there, sp_object] | ((with_reducible first | refine g_dec (fun h d => ?_) (fun h d => ?_) | refine c_dec (fun h d => ?_) (fun h d => ?_) | refine s_dec (fun h d => ?_) (fun h d => ?_) | refine g_ndec (fun h d => ?_) (fun h d => ?_) | refine c_ndec (fun h d => ?_) (fun h d => ?_) | refine g_nbool (fun h d => ?_) (fun h d => ?_) | refine c_nbool (fun h d => ?_) (fun h d => ?_) | refine g_bool (fun h d => ?_) (fun h d => ?_) | refine c_bool (fun h d => ?_) (fun h d => ?_) | refine s_bool (fun h d => ?_) (fun h d => ?_)) <;> (try simp only [d]) <;> (try simp only [Bool.or_eq_true, Bool.and_eq_true, Bool.or_eq_false_iff, Bool.and_eq_false_iff, decide_eq_true_eq, decide_eq_false_iff_not, Bool.not_eq_true', Bool.not_eq_false'] at h) <;> (try omega)))
    all_goals first
      | exact ⟨by omega, by omega, all_step hall (by assumption)⟩
      | (have hA : ps.all (there l) = false := all_nth_f (j := i) (by omega) (by omega) (by assumption)
         ((try unfold wr); (repeat' split) <;> first | omega | (simp_all; done) | (simp_all; omega)))
      | (have hA : ps.all (there l) = true := all_nth fun j a b => hall j a (by omega)
         have hO := @object_there l o
         have h0 : there l 0 = true := by
           simp only [there, decide_eq_true_eq]; omega
         ((try unfold wr); (repeat' split) <;> first | omega | (simp_all; done) | (simp_all; omega)))
  repeat' (first | simp -implicitDefEqProofs (disch := (first | omega | (simp only [go_sem, List.length_append, Nat.zero_add, Nat.reduceAdd, Nat.reduceLT] <;> omega) | fail)) only [go_sem, ↓reduceIte, Nat.reduceEqDiff, Nat.reduceAdd, Nat.reduceLT, Nat.reduceLeDiff, Nat.reduceBEq, reduceCtorEq] | ((with_reducible first | refine g_dec (fun h d => ?_) (fun h d => ?_) | refine c_dec (fun h d => ?_) (fun h d => ?_) | refine s_dec (fun h d => ?_) (fun h d => ?_) | refine g_ndec (fun h d => ?_) (fun h d => ?_) | refine c_ndec (fun h d => ?_) (fun h d => ?_) | refine g_nbool (fun h d => ?_) (fun h d => ?_) | refine c_nbool (fun h d => ?_) (fun h d => ?_) | refine g_bool (fun h d => ?_) (fun h d => ?_) | refine c_bool (fun h d => ?_) (fun h d => ?_) | refine s_bool (fun h d => ?_) (fun h d => ?_)) <;> (try simp only [d]) <;> (try simp only [Bool.or_eq_true, Bool.and_eq_true, Bool.or_eq_false_iff, Bool.and_eq_false_iff, decide_eq_true_eq, decide_eq_false_iff_not, Bool.not_eq_true', Bool.not_eq_false'] at h) <;> (try omega)))
  all_goals try ((try unfold wr); (repeat' split) <;> first | omega | (simp_all; done) | (simp_all; omega))
  all_goals
    refine key _ _ ?_ ?_ ?_ ?_ ?_ ?_ ?_ ?_ ?_ ?_ ?_ ?_
  all_goals try omega
  all_goals try (simp -implicitDefEqProofs (disch := (first | omega | (simp only [go_sem, List.length_append, Nat.zero_add, Nat.reduceAdd, Nat.reduceLT] <;> omega) | fail)) only [go_sem, ↓reduceIte, Nat.reduceEqDiff, Nat.reduceAdd, Nat.reduceLT, Nat.reduceLeDiff, Nat.reduceBEq, reduceCtorEq]; done)
end Go.Proofs.YtiijjopdhjpalaaDoor

/-! What the functions of chapter 10 answer: types, third part. Conditions: none. -/
namespace Go.Proofs.YtiijjopdhjpalaaDoor
open Go
set_option linter.unusedSimpArgs false
set_option linter.unusedVariables false
theorem first_some {α : Type} [Inhabited α] {l : List α} {p : α → Bool} {i : Int} (h0 : 0 ≤ i) (h1 : i < l.length) (h : ∀ j : Int, 0 ≤ j → j < i → (!p (nth l j)) = true) (hi : p (nth l i) = true) : l.findIdx? p = some i.toNat := by
  rw [List.findIdx?_eq_some_iff_getElem]
  refine ⟨by omega, ?_, fun j hj => ?_⟩
  · have := nth_get? l i h0 h1
    rw [List.getElem?_eq_getElem (by omega)] at this
    injection this with this
    rw [this]
    exact hi
  · have h2 := h j (by omega) (by omega)
    have := nth_get? l (j : Int) (by omega) (by omega)
    rw [Int.toNat_natCast, List.getElem?_eq_getElem (by omega)] at this
    injection this with this
    rw [this]
    simpa using h2
theorem first_none {α : Type} [Inhabited α] {l : List α} {p : α → Bool} (h : ∀ j : Int, 0 ≤ j → j < l.length → (!p (nth l j)) = true) : l.findIdx? p = none := by
  rw [List.findIdx?_eq_none_iff]
  have := all_nth (p := fun x => !p x) h
  rw [List.all_eq_true] at this
  intro x hx
  simpa using this x hx
def wrT (l : List GT) (x : GT) : Int := wr l x.kind x.parts x.of
/-- The first type that may not be, and why. -/
def tr (l : List GT) : Int × Int := if 60 < l.length then (0, 5) else match l.findIdx? (fun x => decide (wrT l x ≠ 0)) with
  | some i => (i, wrT l (nth l i))
  | none => (0, 0)
theorem tr_big {l : List GT} (h : 60 < l.length) : tr l = (0, 5) := if_pos h
theorem tr_some {l : List GT} {i : Int} (h0 : 0 ≤ i) (h1 : i < l.length) (h2 : l.length ≤ 60) (h : ∀ j : Int, 0 ≤ j → j < i → (!decide (wrT l (nth l j) ≠ 0)) = true) (hi : ¬ wrT l (nth l i) = 0) : tr l = (i, wrT l (nth l i)) := by
  unfold tr
  rw [if_neg (by omega), first_some (p := fun x => decide (wrT l x ≠ 0)) h0 h1 h (by simpa using hi)]
  have : ((i.toNat : Nat) : Int) = i := by omega
  simp only [this]
theorem tr_none {l : List GT} (h2 : l.length ≤ 60) (h : ∀ j : Int, 0 ≤ j → j < l.length → (!decide (wrT l (nth l j) ≠ 0)) = true) : tr l = (0, 0) := by
  unfold tr
  rw [if_neg (by omega), first_none (p := fun x => decide (wrT l x ≠ 0)) h]
theorem sp_Right3 (n : Nat) (l : List GT) (m : AMem) (hl : ∀ x ∈ l, x.wf) : callsN cfg (n + 4) 19 [tsl 3 (l.map GT.av)] m = some (.ret (.tup [avI (tr l).1, avI (tr l).2]), m) := by
  rw [ce19]
  refine borrow_wp (targs := [tsl 3 (l.map GT.av)]) (by simp only [go_sem]) ?_ rfl
  unfold aBody cf19
  have key : ∀ (env : AEnv) (m : AMem), l.length ≤ 60 → env 0 = tsl 3 (l.map GT.av) → env 4 = avI 0 →
      Wp (loopN LOOPK (aCode (callsN cfg (n + 3)) lb19_0) env m (KBlk 0 (KSeq (callsN cfg (n + 3)) ls19_0 (fin [.slot 2, .slot 3])))) fun o_1 m' => RetIs m' (.tup [avI (tr l).1, avI (tr l).2]) o_1 := by
    intro env m q1 e0 e4
    refine wp_loop (fun (i : Int) (env : AEnv) (m : AMem) => (0 ≤ i ∧ i ≤ l.length ∧ ∀ j, 0 ≤ j → j < i → (!decide (wrT l (nth l j) ≠ 0)) = true) ∧ env 0 = tsl 3 (l.map GT.av) ∧ env 4 = avI i) (fun i => (l.length - i).toNat)
      (fun i env m K' ⟨⟨hi0, hi1, hall⟩, e0, e4⟩ hN hE => ?_) LOOPK 0 _ _ ⟨⟨by omega, by omega, fun j a b => by omega⟩, e0, e4⟩ (by rw [LOOPK_eq]; omega)
    have hw : ∀ (h1 : i < l.length) (m : AMem), callsN cfg (n + 3) 35 [tsl 3 (l.map GT.av), .agg [avI (nth l i).kind, tsl 1 ((nth l i).parts.map avI), avI (nth l i).of]] m = some (.ret (avI (wrT l (nth l i))), m) := fun h1 m => by
      obtain ⟨a, _, b, c⟩ := hl _ (nth_mem l i hi0 h1)
      exact sp_wrong3 n l _ _ _ m (by omega) a c b
    unfold lb19_0
    repeat' (first | simp -implicitDefEqProofs (disch := (first | omega | (simp only [go_sem, List.length_append, Nat.zero_add, Nat.reduceAdd, Nat.reduceLT] <;> omega) | fail)) only [go_sem, ↓reduceIte, Nat.reduceEqDiff, Nat.reduceAdd, Nat.reduceLT, Nat.reduceLeDiff, Nat.reduceBEq, reduceCtorEq, e0, e4, hw] | ((with_reducible first | refine g_dec (fun h d => ?_) (fun h d => ?_) | refine c_dec (fun h d => ?_) (fun h d => ?_) | refine s_dec (fun h d => ?_) (fun h d => ?_) | refine g_ndec (fun h d => ?_) (fun h d => ?_) | refine c_ndec (fun h d => ?_) (fun h d => ?_) | refine g_nbool (fun h d => ?_) (fun h d => ?_) | refine c_nbool (fun h d => ?_) (fun h d => ?_) | refine g_bool (fun h d => ?_) (fun h d => ?_) | refine c_bool (fun h d => ?_) (fun h d => ?_) | refine s_bool (fun h d => ?_) (fun h d => ?_)) <;> (try simp only [d]) <;> (try simp only [Bool.or_eq_true, Bool.and_eq_true, Bool.or_eq_false_iff, Bool.and_eq_false_iff, decide_eq_true_eq, decide_eq_false_iff_not, Bool.not_eq_true', Bool.not_eq_false'] at h) <;> (try omega)))
    all_goals (with_reducible first | refine hN (i + 1) _ _ ?_ ?_ | refine (hE _ _).1 _ ?_ | refine (hE _ _).2.1 ?_)
    all_goals try omega
    all_goals try unfold ls19_0
    all_goals repeat' (first | simp -implicitDefEqProofs (disch := (first | omega | (simp only [go_sem, List.length_append, Nat.zero_add, Nat.reduceAdd, Nat.reduceLT] <;> omega) | fail)) only [go_sem, ↓reduceIte, Nat.reduceEqDiff, Nat.reduceAdd, Nat.reduceLT, Nat.reduceLeDiff, Nat.reduceBEq, reduceCtorEq, e0, e4] | ((with_reducible first | refine g_dec (fun h d => ?_) (fun h d => ?_) | refine c_dec (fun h d => ?_) (fun h d => ?_) | refine s_dec (fun h d => ?_) (fun h d => ?_) | refine g_ndec (fun h d => ?_) (fun h d => ?_) | refine c_ndec (fun h d => ?_) (fun h d => ?_) | refine g_nbool (fun h d => ?_) (fun h d => ?_) | refine c_nbool (fun h d => ?_) (fun h d => ?_) | refine g_bool (fun h d => ?_) (fun h d => ?_) | refine c_bool (fun h d => ?_) (fun h d => ?_) | refine s_bool (fun h d => ?_) (fun h d => ?_)) <;> (try simp only [d]) <;> (try simp only [Bool.or_eq_true, Bool.and_eq_true, Bool.or_eq_false_iff, Bool.and_eq_false_iff, decide_eq_true_eq, decide_eq_false_iff_not, Bool.not_eq_true', Bool.not_eq_false'] at h) <;> (try omega)))
    all_goals first
      | exact ⟨by omega, by omega, all_step (p := fun x => !decide (wrT l x ≠ 0)) hall (by simpa using (by assumption : wrT l (nth l i) = 0))⟩
      | (have hf : tr l = (i, wrT l (nth l i)) := tr_some hi0 (by omega) (by omega) hall (by assumption)
         rw [hf]; exact ⟨rfl, rfl⟩)
      | (have hf : tr l = (0, 0) := tr_none (by omega) (fun j a b => hall j a (by omega))
         rw [hf]; exact ⟨rfl, rfl⟩)
  repeat' (first | simp -implicitDefEqProofs (disch := (first | omega | (simp only [go_sem, List.length_append, Nat.zero_add, Nat.reduceAdd, Nat.reduceLT] <;> omega) | fail)) only [go_sem, ↓reduceIte, Nat.reduceEqDiff, Nat.reduceAdd, Nat.reduceLT, Nat.reduceLeDiff, Nat.reduceBEq, reduceCtorEq] | ((with_reducible first | refine g_dec (fun h d => ?_) (fun h d => ?_) | refine c_dec (fun h d => ?_) (fun h d => ?_) | refine s_dec (fun h d => ?_) (fun h d => ?_) | refine g_ndec (fun h d => ?_) (fun h d => ?_) | refine c_ndec (fun h d => ?_) (fun h d => ?_) | refine g_nbool (fun h d => ?_) (fun h d => ?_) | refine c_nbool (fun h d => ?_) (fun h d => ?_) | refine g_bool (fun h d => ?_) (fun h d => ?_) | refine c_bool (fun h d => ?_) (fun h d => ?_) | refine s_bool (fun h d => ?_) (fun h d => ?_)) <;> (try simp only [d]) <;> (try simp only [Bool.or_eq_true, Bool.and_eq_true, Bool.or_eq_false_iff, Bool.and_eq_false_iff, decide_eq_true_eq, decide_eq_false_iff_not, Bool.not_eq_true', Bool.not_eq_false'] at h) <;> (try omega)))
  · rw [tr_big (by omega)]; exact ⟨rfl, rfl⟩
  · refine key _ _ ?_ ?_ ?_
    all_goals first | omega | (simp -implicitDefEqProofs (disch := (first | omega | (simp only [go_sem, List.length_append, Nat.zero_add, Nat.reduceAdd, Nat.reduceLT] <;> omega) | fail)) only [go_sem, ↓reduceIte, Nat.reduceEqDiff, Nat.reduceAdd, Nat.reduceLT, Nat.reduceLeDiff, Nat.reduceBEq, reduceCtorEq]; done)
theorem sp_Right (n : Nat) (l : List GT) (m : AMem) (hl : ∀ x ∈ l, x.wf) : callsN cfg (n + 4) 29 [tsl 3 (l.map GT.av)] m = some (.ret (.tup [avI (tr l).1, avI (tr l).2]), m) := by
  rw [ce29]
  refine borrow_wp (targs := [tsl 3 (l.map GT.av)]) (by simp only [go_sem]) ?_ rfl
  unfold aBody cf29
  have key : ∀ (env : AEnv) (m : AMem), l.length ≤ 60 → 0 ≤ m.next → env 0 = tsl 3 (l.map GT.av) → env 10 = tsl 3 (l.map GT.av) → env 11 = avI l.length → env 12 = avI 0 →
      Wp (loopN LOOPK (aCode (callsN cfg (n + 3)) lb29_0) env m (KBlk 0 (KSeq (callsN cfg (n + 3)) ls29_0 (fin [.slot 2, .slot 3])))) fun o_1 m' => RetIs m' (.tup [avI (tr l).1, avI (tr l).2]) o_1 := by
    intro env m q1 _ e0 e10 e11 e12
    refine wp_loop (fun (i : Int) (env : AEnv) (m : AMem) => (0 ≤ i ∧ i ≤ l.length ∧ ∀ j, 0 ≤ j → j < i → (!decide (wrT l (nth l j) ≠ 0)) = true) ∧ env 0 = tsl 3 (l.map GT.av) ∧ env 10 = tsl 3 (l.map GT.av) ∧ env 11 = avI l.length ∧ env 12 = avI i) (fun i => (l.length - i).toNat)
      (fun i env m K' ⟨⟨hi0, hi1, hall⟩, e0, e10, e11, e12⟩ hN hE => ?_) LOOPK 0 _ _ ⟨⟨by omega, by omega, fun j a b => by omega⟩, e0, e10, e11, e12⟩ (by rw [LOOPK_eq]; omega)
    have hw : ∀ (h1 : i < l.length) (m : AMem), callsN cfg (n + 3) 53 [tsl 3 (l.map GT.av), .agg [avI (nth l i).kind, tsl 1 ((nth l i).parts.map avI), avI (nth l i).of]] m = some (.ret (avI (wrT l (nth l i))), m) := fun h1 m => by
      obtain ⟨a, _, b, c⟩ := hl _ (nth_mem l i hi0 h1)
      exact sp_wrong n l _ _ _ m (by omega) a c b
    unfold lb29_0
    repeat' (first | simp -implicitDefEqProofs (disch := (first | omega | (simp only [go_sem, List.length_append, Nat.zero_add, Nat.reduceAdd, Nat.reduceLT] <;> omega) | fail)) only [go_sem, ↓reduceIte, Nat.reduceEqDiff, Nat.reduceAdd, Nat.reduceLT, Nat.reduceLeDiff, Nat.reduceBEq, reduceCtorEq, e0, e10, e11, e12, hw] | ((with_reducible first | refine g_dec (fun h d => ?_) (fun h d => ?_) | refine c_dec (fun h d => ?_) (fun h d => ?_) | refine s_dec (fun h d => ?_) (fun h d => ?_) | refine g_ndec (fun h d => ?_) (fun h d => ?_) | refine c_ndec (fun h d => ?_) (fun h d => ?_) | refine g_nbool (fun h d => ?_) (fun h d => ?_) | refine c_nbool (fun h d => ?_) (fun h d => ?_) | refine g_bool (fun h d => ?_) (fun h d => ?_) | refine c_bool (fun h d => ?_) (fun h d => ?_) | refine s_bool (fun h d => ?_) (fun h d => ?_)) <;> (try simp only [d]) <;> (try simp only [Bool.or_eq_true, Bool.and_eq_true, Bool.or_eq_false_iff, Bool.and_eq_false_iff, decide_eq_true_eq, decide_eq_false_iff_not, Bool.not_eq_true', Bool.not_eq_false'] at h) <;> (try omega)))
    all_goals (with_reducible first | refine hN (i + 1) _ _ ?_ ?_ | refine (hE _ _).1 _ ?_ | refine (hE _ _).2.1 ?_)
    all_goals try omega
    all_goals try unfold ls29_0
    all_goals repeat' (first | simp -implicitDefEqProofs (disch := (first | omega | (simp only [go_sem, List.length_append, Nat.zero_add, Nat.reduceAdd, Nat.reduceLT] <;> omega) | fail)) only [go_sem, ↓reduceIte, Nat.reduceEqDiff, Nat.reduceAdd, Nat.reduceLT, Nat.reduceLeDiff, Nat.reduceBEq, reduceCtorEq, e0, e10, e11, e12] | ((with_reducible first | refine g_dec (fun h d => ?_) (fun h d => ?_) | refine c_dec (fun h d => ?_) (fun h d => ?_) | refine s_dec (fun h d => ?_) (fun h d => ?_) | refine g_ndec (fun h d => ?_) (fun h d => ?_) | refine c_ndec (fun h d => ?_) (fun h d => ?_) | refine g_nbool (fun h d => ?_) (fun h d => ?_) | refine c_nbool (fun h d => ?_) (fun h d => ?_) | refine g_bool (fun h d => ?_) (fun h d => ?_) | refine c_bool (fun h d => ?_) (fun h d => ?_) | refine s_bool (fun h d => ?_) (fun h d => ?_)) <;> (try simp only [d]) <;> (try simp only [Bool.or_eq_true, Bool.and_eq_true, Bool.or_eq_false_iff, Bool.and_eq_false_iff, decide_eq_true_eq, decide_eq_false_iff_not, Bool.not_eq_true', Bool.not_eq_false'] at h) <;> (try omega)))
    all_goals first
      | exact ⟨by omega, by omega, all_step (p := fun x => !decide (wrT l x ≠ 0)) hall (by simpa using (by assumption : wrT l (nth l i) = 0))⟩
      | (have hf : tr l = (i, wrT l (nth l i)) := tr_some hi0 (by omega) (by omega) hall (by assumption)
         rw [hf]; exact ⟨rfl, rfl⟩)
      | (have hf : tr l = (0, 0) := tr_none (by omega) (fun j a b => hall j a (by omega))
         rw [hf]; exact ⟨rfl, rfl⟩)
  repeat' (first | simp -implicitDefEqProofs (disch := (first | omega | (simp only [go_sem, List.length_append, Nat.zero_add, Nat.reduceAdd, Nat.reduceLT] <;> omega) | fail)) only [go_sem, ↓reduceIte, Nat.reduceEqDiff, Nat.reduceAdd, Nat.reduceLT, Nat.reduceLeDiff, Nat.reduceBEq, reduceCtorEq] | ((with_reducible first | refine g_dec (fun h d => ?_) (fun h d => ?_) | refine c_dec (fun h d => ?_) (fun h d => ?_) | refine s_dec (fun h d => ?_) (fun h d => ?_) | refine g_ndec (fun h d => ?_) (fun h d => ?_) | refine c_ndec (fun h d => ?_) (fun h d => ?_) | refine g_nbool (fun h d => ?_) (fun h d => ?_) | refine c_nbool (fun h d => ?_) (fun h d => ?_) | refine g_bool (fun h d => ?_) (fun h d => ?_) | refine c_bool (fun h d => ?_) (fun h d => ?_) | refine s_bool (fun h d => ?_) (fun h d => ?_)) <;> (try simp only [d]) <;> (try simp only [Bool.or_eq_true, Bool.and_eq_true, Bool.or_eq_false_iff, Bool.and_eq_false_iff, decide_eq_true_eq, decide_eq_false_iff_not, Bool.not_eq_true', Bool.not_eq_false'] at h) <;> (try omega)))
  · rw [tr_big (by omega)]; exact ⟨rfl, rfl⟩
  · refine key _ _ ?_ ?_ ?_ ?_ ?_ ?_
    all_goals first | omega | (simp -implicitDefEqProofs (disch := (first | omega | (simp only [go_sem, List.length_append, Nat.zero_add, Nat.reduceAdd, Nat.reduceLT] <;> omega) | fail)) only [go_sem, ↓reduceIte, Nat.reduceEqDiff, Nat.reduceAdd, Nat.reduceLT, Nat.reduceLeDiff, Nat.reduceBEq, reduceCtorEq]; done)
end Go.Proofs.YtiijjopdhjpalaaDoor

/-! What the functions of chapter 10 answer: instructions. Conditions: none. -/
namespace Go.Proofs.YtiijjopdhjpalaaDoor
open Go
set_option linter.unusedSimpArgs false
set_option linter.unusedVariables false
/-- An instruction's form and kind. -/
def forms : List Int := [0, 1, 2, 3, 3, 0, 0, 0, 0, 0, 0, 0, 0, 0, 0, 0, 0, 0, 4, 4, 5, 0, 6, 7, 7, 6, 6, 6, 6, 8, 6, 6, 6, 6, 6, 0, 0, 9]
def kinds : List Int := [-1, -1, -1, -1, -1, -1, -1, -1, -1, -1, -1, -1, -1, -1, -1, -1, -1, -1, -1, -1, -1, -1, 2, 2, 2, 3, 3, 3, 3, 4, 4, 5, 5, 5, 5, -1, -1, -1]
def form (op : Int) : Int := if 0 ≤ op ∧ op < 38 then nth forms op else -1
def kindOf (op : Int) : Int := if 0 ≤ op ∧ op < 38 then nth kinds op else -1
def ofOk (form kind : Int) : Res → Bool
  | some (.ret (.agg [.str _, .int .i64 f, .int .i64 k, .int .i64 _, .int .i64 _, .bool _]), _) => f == form && k == kind
  | _ => false
theorem of_in (n : Nat) : (List.range 38).all (fun k => ofOk (form k) (kindOf k) (callsN cfg (n + 2) 59 [avI k] .empty)) = true := by kernel_rfl
theorem ofOk_or {f k : Int} {r : Res} (h : ofOk f k r = true) : ∃ s t l v m, r = some (.ret (.agg [.str s, avI f, avI k, avI t, avI l, .bool v]), m) := by
  unfold ofOk at h
  split at h
  · simp only [Bool.and_eq_true, beq_iff_eq] at h
    obtain ⟨rfl, rfl⟩ := h
    exact ⟨_, _, _, _, _, rfl⟩
  · cases h
theorem table_ok (n : Nat) : (match callsN cfg (n + 1) 82 [] .empty with | some (.ret _, _) => true | _ => false) = true := by kernel_rfl
theorem sp_table (n : Nat) : ∃ v, ∀ m, callsN cfg (n + 1) 82 [] m = some (.ret v, m) := by
  have h := table_ok n
  split at h
  · rename_i v m0 hv
    exact ⟨v, fun m => pure_any (by rfl) hv m⟩
  · cases h
theorem sp_of (n : Nat) (op : Int) (hop : i64 op) : ∃ s t l v, ∀ m, callsN cfg (n + 2) 59 [avI op] m = some (.ret (.agg [.str s, avI (form op), avI (kindOf op), avI t, avI l, .bool v]), m) := by
  by_cases h : 0 ≤ op ∧ op < 38
  · have := of_in n
    rw [List.all_eq_true] at this
    have := this op.toNat (List.mem_range.2 (by omega))
    obtain ⟨s, t, l, v, m0, hr⟩ := ofOk_or this
    have e : ((op.toNat : Nat) : Int) = op := by omega
    rw [e] at hr
    exact ⟨s, t, l, v, fun m => pure_any (by rfl) hr m⟩
  · refine ⟨[], 0, 0, false, fun m => ?_⟩
    have hf : form op = -1 := if_neg h
    have hk : kindOf op = -1 := if_neg h
    rw [hf, hk]
    obtain ⟨tv, ht⟩ := sp_table n
    rw [ce59]
    refine borrow_wp (targs := [avI op]) (by simp only [go_sem]) ?_ rfl
    unfold aBody cf59
    repeat' (first | simp -implicitDefEqProofs (disch := (first | omega | (simp only [go_sem, List.length_append, Nat.zero_add, Nat.reduceAdd, Nat.reduceLT] <;> omega) | fail)) only [go_sem, ↓reduceIte, Nat.reduceEqDiff, Nat.reduceAdd, Nat.reduceLT, Nat.reduceLeDiff, Nat.reduceBEq, reduceCtorEq, ht] | ((with_reducible first | refine g_dec (fun h d => ?_) (fun h d => ?_) | refine c_dec (fun h d => ?_) (fun h d => ?_) | refine s_dec (fun h d => ?_) (fun h d => ?_) | refine g_ndec (fun h d => ?_) (fun h d => ?_) | refine c_ndec (fun h d => ?_) (fun h d => ?_) | refine g_nbool (fun h d => ?_) (fun h d => ?_) | refine c_nbool (fun h d => ?_) (fun h d => ?_) | refine g_bool (fun h d => ?_) (fun h d => ?_) | refine c_bool (fun h d => ?_) (fun h d => ?_) | refine s_bool (fun h d => ?_) (fun h d => ?_)) <;> (try simp only [d]) <;> (try simp only [Bool.or_eq_true, Bool.and_eq_true, Bool.or_eq_false_iff, Bool.and_eq_false_iff, decide_eq_true_eq, decide_eq_false_iff_not, Bool.not_eq_true', Bool.not_eq_false'] at h) <;> (try omega)))
end Go.Proofs.YtiijjopdhjpalaaDoor

/-! What the functions of chapter 10 answer: instructions, second part. Conditions: none. -/
namespace Go.Proofs.YtiijjopdhjpalaaDoor
open Go
set_option linter.unusedSimpArgs false
set_option linter.unusedVariables false
def intOk (f : Int) : Res → Bool
  | some (.ret (.int .i64 g), _) => g == f
  | _ => false
theorem intOk_or {f : Int} {r : Res} (h : intOk f r = true) : ∃ m, r = some (.ret (avI f), m) := by
  unfold intOk at h
  split at h
  · simp only [beq_iff_eq] at h
    subst h
    exact ⟨_, rfl⟩
  · cases h
theorem form4_in (n : Nat) : (List.range 38).all (fun k => intOk (form k) (callsN cfg (n + 3) 67 [avI k] .empty)) = true := by kernel_rfl
theorem kind4_in (n : Nat) : (List.range 38).all (fun k => intOk (kindOf k) (callsN cfg (n + 3) 69 [avI k] .empty)) = true := by kernel_rfl
theorem names_ok (n : Nat) : (match callsN cfg (n + 1) 88 [] ((AMem.empty.room 1).room 2) with | some (.ret (.sl _ _ _ 38), _) => true | _ => false) = true := by kernel_rfl
theorem sp_names (n : Nat) : ∃ a b c m, callsN cfg (n + 1) 88 [] ((AMem.empty.room 1).room 2) = some (.ret (.sl a b c 38), m) := by
  have h := names_ok n
  split at h
  · exact ⟨_, _, _, _, by assumption⟩
  · cases h
theorem sp_Name_out (n : Nat) (op : Int) (h : ¬ (0 ≤ op ∧ op < 38)) (m : AMem) : callsN cfg (n + 2) 83 [avI op] m = some (.ret (.str []), m) := by
  rw [ce83]
  obtain ⟨a, b, c, m1, hn⟩ := sp_names n
  refine borrow_wp (targs := [avI op]) (by simp only [go_sem]) ?_ rfl
  unfold aBody cf83
  repeat' (first | simp -implicitDefEqProofs (disch := (first | omega | (simp only [go_sem, List.length_append, Nat.zero_add, Nat.reduceAdd, Nat.reduceLT] <;> omega) | fail)) only [go_sem, ↓reduceIte, Nat.reduceEqDiff, Nat.reduceAdd, Nat.reduceLT, Nat.reduceLeDiff, Nat.reduceBEq, reduceCtorEq, hn] | ((with_reducible first | refine g_dec (fun h d => ?_) (fun h d => ?_) | refine c_dec (fun h d => ?_) (fun h d => ?_) | refine s_dec (fun h d => ?_) (fun h d => ?_) | refine g_ndec (fun h d => ?_) (fun h d => ?_) | refine c_ndec (fun h d => ?_) (fun h d => ?_) | refine g_nbool (fun h d => ?_) (fun h d => ?_) | refine c_nbool (fun h d => ?_) (fun h d => ?_) | refine g_bool (fun h d => ?_) (fun h d => ?_) | refine c_bool (fun h d => ?_) (fun h d => ?_) | refine s_bool (fun h d => ?_) (fun h d => ?_)) <;> (try simp only [d]) <;> (try simp only [Bool.or_eq_true, Bool.and_eq_true, Bool.or_eq_false_iff, Bool.and_eq_false_iff, decide_eq_true_eq, decide_eq_false_iff_not, Bool.not_eq_true', Bool.not_eq_false'] at h) <;> (try omega)))
theorem sp_Form4 (n : Nat) (op : Int) (m : AMem) : callsN cfg (n + 3) 67 [avI op] m = some (.ret (avI (form op)), m) := by
  by_cases h : 0 ≤ op ∧ op < 38
  · have := form4_in n
    rw [List.all_eq_true] at this
    have := this op.toNat (List.mem_range.2 (by omega))
    obtain ⟨m0, hr⟩ := intOk_or this
    have e : ((op.toNat : Nat) : Int) = op := by omega
    rw [e] at hr
    exact pure_any (by rfl) hr m
  · have hf : form op = -1 := if_neg h
    rw [hf, ce67]
    refine borrow_wp (targs := [avI op]) (by simp only [go_sem]) ?_ rfl
    unfold aBody cf67
    have hn := sp_Name_out n op h
    repeat' (first | simp -implicitDefEqProofs (disch := (first | omega | (simp only [go_sem, List.length_append, Nat.zero_add, Nat.reduceAdd, Nat.reduceLT] <;> omega) | fail)) only [go_sem, ↓reduceIte, Nat.reduceEqDiff, Nat.reduceAdd, Nat.reduceLT, Nat.reduceLeDiff, Nat.reduceBEq, reduceCtorEq, hn] | ((with_reducible first | refine g_dec (fun h d => ?_) (fun h d => ?_) | refine c_dec (fun h d => ?_) (fun h d => ?_) | refine s_dec (fun h d => ?_) (fun h d => ?_) | refine g_ndec (fun h d => ?_) (fun h d => ?_) | refine c_ndec (fun h d => ?_) (fun h d => ?_) | refine g_nbool (fun h d => ?_) (fun h d => ?_) | refine c_nbool (fun h d => ?_) (fun h d => ?_) | refine g_bool (fun h d => ?_) (fun h d => ?_) | refine c_bool (fun h d => ?_) (fun h d => ?_) | refine s_bool (fun h d => ?_) (fun h d => ?_)) <;> (try simp only [d]) <;> (try simp only [Bool.or_eq_true, Bool.and_eq_true, Bool.or_eq_false_iff, Bool.and_eq_false_iff, decide_eq_true_eq, decide_eq_false_iff_not, Bool.not_eq_true', Bool.not_eq_false'] at h) <;> (try omega)))
theorem sp_Kind4 (n : Nat) (op : Int) (m : AMem) : callsN cfg (n + 3) 69 [avI op] m = some (.ret (avI (kindOf op)), m) := by
  by_cases h : 0 ≤ op ∧ op < 38
  · have := kind4_in n
    rw [List.all_eq_true] at this
    have := this op.toNat (List.mem_range.2 (by omega))
    obtain ⟨m0, hr⟩ := intOk_or this
    have e : ((op.toNat : Nat) : Int) = op := by omega
    rw [e] at hr
    exact pure_any (by rfl) hr m
  · have hf : kindOf op = -1 := if_neg h
    rw [hf, ce69]
    refine borrow_wp (targs := [avI op]) (by simp only [go_sem]) ?_ rfl
    unfold aBody cf69
    have hn := sp_Name_out n op h
    repeat' (first | simp -implicitDefEqProofs (disch := (first | omega | (simp only [go_sem, List.length_append, Nat.zero_add, Nat.reduceAdd, Nat.reduceLT] <;> omega) | fail)) only [go_sem, ↓reduceIte, Nat.reduceEqDiff, Nat.reduceAdd, Nat.reduceLT, Nat.reduceLeDiff, Nat.reduceBEq, reduceCtorEq, hn] | ((with_reducible first | refine g_dec (fun h d => ?_) (fun h d => ?_) | refine c_dec (fun h d => ?_) (fun h d => ?_) | refine s_dec (fun h d => ?_) (fun h d => ?_) | refine g_ndec (fun h d => ?_) (fun h d => ?_) | refine c_ndec (fun h d => ?_) (fun h d => ?_) | refine g_nbool (fun h d => ?_) (fun h d => ?_) | refine c_nbool (fun h d => ?_) (fun h d => ?_) | refine g_bool (fun h d => ?_) (fun h d => ?_) | refine c_bool (fun h d => ?_) (fun h d => ?_) | refine s_bool (fun h d => ?_) (fun h d => ?_)) <;> (try simp only [d]) <;> (try simp only [Bool.or_eq_true, Bool.and_eq_true, Bool.or_eq_false_iff, Bool.and_eq_false_iff, decide_eq_true_eq, decide_eq_false_iff_not, Bool.not_eq_true', Bool.not_eq_false'] at h) <;> (try omega)))
/-- A table of types. -/
@[reducible] def TT (all : List GT) (k : List Int) : AV := .tp (.agg [tsl 3 (all.map GT.av), tsl 1 (k.map avI)])
theorem sp_has (n : Nat) (all : List GT) (k : List Int) (a : Int) (m : AMem) : callsN cfg (n + 1) 58 [TT all k, avI a] m = some (.ret (.bool (decide (0 ≤ a ∧ a < all.length))), m) := by
  rw [ce58]
  refine borrow_wp (targs := [TT all k, avI a]) (by simp only [go_sem]) ?_ rfl
  unfold aBody cf58
  repeat' (first | simp -implicitDefEqProofs (disch := (first | omega | (simp only [go_sem, List.length_append, Nat.zero_add, Nat.reduceAdd, Nat.reduceLT] <;> omega) | fail)) only [go_sem, ↓reduceIte, Nat.reduceEqDiff, Nat.reduceAdd, Nat.reduceLT, Nat.reduceLeDiff, Nat.reduceBEq, reduceCtorEq] | ((with_reducible first | refine g_dec (fun h d => ?_) (fun h d => ?_) | refine c_dec (fun h d => ?_) (fun h d => ?_) | refine s_dec (fun h d => ?_) (fun h d => ?_) | refine g_ndec (fun h d => ?_) (fun h d => ?_) | refine c_ndec (fun h d => ?_) (fun h d => ?_) | refine g_nbool (fun h d => ?_) (fun h d => ?_) | refine c_nbool (fun h d => ?_) (fun h d => ?_) | refine g_bool (fun h d => ?_) (fun h d => ?_) | refine c_bool (fun h d => ?_) (fun h d => ?_) | refine s_bool (fun h d => ?_) (fun h d => ?_)) <;> (try simp only [d]) <;> (try simp only [Bool.or_eq_true, Bool.and_eq_true, Bool.or_eq_false_iff, Bool.and_eq_false_iff, decide_eq_true_eq, decide_eq_false_iff_not, Bool.not_eq_true', Bool.not_eq_false'] at h) <;> (try omega)))
  all_goals (first | rfl | (rw [Bool.eq_iff_iff]; simp only [Bool.or_eq_true, Bool.and_eq_true, Bool.or_eq_false_iff, Bool.and_eq_false_iff, decide_eq_true_eq, decide_eq_false_iff_not, Bool.not_eq_true', Bool.not_eq_false', Bool.false_eq_true, eq_self, true_iff, false_iff, iff_true, iff_false] <;> omega))
/-- The kind of a type of a table. -/
def TK (all : List GT) (n : Int) : Int := if 0 ≤ n ∧ n < all.length then (nth all n).kind else -1
theorem sp_TKind (n : Nat) (all : List GT) (k : List Int) (a : Int) (m : AMem) : callsN cfg (n + 2) 32 [TT all k, avI a] m = some (.ret (avI (TK all a)), m) := by
  rw [ce32]
  refine borrow_wp (targs := [TT all k, avI a]) (by simp only [go_sem]) ?_ rfl
  unfold aBody cf32
  repeat' (first | simp -implicitDefEqProofs (disch := (first | omega | (simp only [go_sem, List.length_append, Nat.zero_add, Nat.reduceAdd, Nat.reduceLT] <;> omega) | fail)) only [go_sem, ↓reduceIte, Nat.reduceEqDiff, Nat.reduceAdd, Nat.reduceLT, Nat.reduceLeDiff, Nat.reduceBEq, reduceCtorEq, sp_has] | ((with_reducible first | refine g_dec (fun h d => ?_) (fun h d => ?_) | refine c_dec (fun h d => ?_) (fun h d => ?_) | refine s_dec (fun h d => ?_) (fun h d => ?_) | refine g_ndec (fun h d => ?_) (fun h d => ?_) | refine c_ndec (fun h d => ?_) (fun h d => ?_) | refine g_nbool (fun h d => ?_) (fun h d => ?_) | refine c_nbool (fun h d => ?_) (fun h d => ?_) | refine g_bool (fun h d => ?_) (fun h d => ?_) | refine c_bool (fun h d => ?_) (fun h d => ?_) | refine s_bool (fun h d => ?_) (fun h d => ?_)) <;> (try simp only [d]) <;> (try simp only [Bool.or_eq_true, Bool.and_eq_true, Bool.or_eq_false_iff, Bool.and_eq_false_iff, decide_eq_true_eq, decide_eq_false_iff_not, Bool.not_eq_true', Bool.not_eq_false'] at h) <;> (try omega)))
  all_goals ((try unfold TK); (repeat' split) <;> first | omega | (simp_all; done) | (simp_all; omega))
end Go.Proofs.YtiijjopdhjpalaaDoor

/-! What the functions of chapter 10 answer: instructions, third part. Conditions: none. -/
namespace Go.Proofs.YtiijjopdhjpalaaDoor
open Go
set_option linter.unusedSimpArgs false
set_option linter.unusedVariables false
/-- The parts of a type of a table. -/
def TP (all : List GT) (n : Int) : List Int := if 0 ≤ n ∧ n < all.length then (nth all n).parts else []
theorem tsl_ne {α : Type} {sz : Nat} {l : List α} {f : α → AV} (h : l ≠ []) : tsl sz (l.map f) = .ts sz (l.map f) := by
  cases l with
  | nil => exact absurd rfl h
  | cons a r => rfl
theorem clone_ts (fn : AFun) (calls : Nat → AF) (m : AMem) : cloneF fn calls [tsl 1 []] m = some (.ret (.ts 0 []), m) := rfl
/-- slices.Clone of a slice of numbers: a new object, unless there is nothing. -/
theorem sp_Clone (n : Nat) (l : List Int) (hl : l.length ≤ 1000) (m : AMem) : ∃ v m', callsN cfg (n + 1) 30 [tsl 1 (l.map avI)] m = some (.ret v, m') ∧ m.next ≤ m'.next ∧ (∀ id, id < m.next → m'.get id = m.get id) ∧
    ((l = [] ∧ v = .ts 0 []) ∨ (l ≠ [] ∧ ∃ id, v = .sl 1 id 0 l.length ∧ m.next ≤ id ∧ id < m'.next ∧ m'.get id = some (.arr 3 1 (l.map avI)))) := by
  rw [ce30]
  by_cases h : l = []
  · subst h
    exact ⟨_, m, clone_ts _ _ _, Nat.le_refl _, fun _ _ => rfl, .inl ⟨rfl, rfl⟩⟩
  · obtain ⟨x, r, rfl⟩ : ∃ x r, l = x :: r := by
      cases l with
      | nil => exact absurd rfl h
      | cons x r => exact ⟨x, r, rfl⟩
    rw [tsl_ne h]
    have hl' : r.length ≤ 999 := by simp at hl; omega
    have key : Wp (aBody (callsN cfg n) cf30 [.ts 1 ((x :: r).map avI)] m) fun o m' => ∃ id, o = .ret (.sl 1 id 0 (x :: r).length) ∧ m.next ≤ id ∧ id < m'.next ∧ m.next ≤ m'.next ∧ (∀ id, id < m.next → m'.get id = m.get id) ∧ m'.get id = some (.arr 3 1 ((x :: r).map avI)) := by
      unfold aBody cf30
      repeat' (first | simp -implicitDefEqProofs (disch := (first | omega | (simp only [go_sem, List.length_append, Nat.zero_add, Nat.reduceAdd, Nat.reduceLT] <;> omega) | fail)) only [go_sem, ↓reduceIte, Nat.reduceEqDiff, Nat.reduceAdd, Nat.reduceLT, Nat.reduceLeDiff, Nat.reduceBEq, reduceCtorEq] | ((with_reducible first | refine g_dec (fun h d => ?_) (fun h d => ?_) | refine c_dec (fun h d => ?_) (fun h d => ?_) | refine s_dec (fun h d => ?_) (fun h d => ?_) | refine g_ndec (fun h d => ?_) (fun h d => ?_) | refine c_ndec (fun h d => ?_) (fun h d => ?_) | refine g_nbool (fun h d => ?_) (fun h d => ?_) | refine c_nbool (fun h d => ?_) (fun h d => ?_) | refine g_bool (fun h d => ?_) (fun h d => ?_) | refine c_bool (fun h d => ?_) (fun h d => ?_) | refine s_bool (fun h d => ?_) (fun h d => ?_)) <;> (try simp only [d]) <;> (try simp only [Bool.or_eq_true, Bool.and_eq_true, Bool.or_eq_false_iff, Bool.and_eq_false_iff, decide_eq_true_eq, decide_eq_false_iff_not, Bool.not_eq_true', Bool.not_eq_false'] at h) <;> (try omega)))
      exact ⟨_, rfl, by omega, by omega, by omega, fun id hid => by simp -implicitDefEqProofs (disch := (first | omega | (simp only [go_sem, List.length_append, Nat.zero_add, Nat.reduceAdd, Nat.reduceLT] <;> omega) | fail)) only [go_sem, ↓reduceIte, Nat.reduceEqDiff, Nat.reduceAdd, Nat.reduceLT, Nat.reduceLeDiff, Nat.reduceBEq, reduceCtorEq], by simp -implicitDefEqProofs (disch := (first | omega | (simp only [go_sem, List.length_append, Nat.zero_add, Nat.reduceAdd, Nat.reduceLT] <;> omega) | fail)) only [go_sem, ↓reduceIte, Nat.reduceEqDiff, Nat.reduceAdd, Nat.reduceLT, Nat.reduceLeDiff, Nat.reduceBEq, reduceCtorEq]⟩
    obtain ⟨o, m', h1, id, rfl, h2, h3, h4, h5, h6⟩ := key
    refine ⟨_, m', ?_, h4, h5, .inr ⟨h, id, rfl, h2, h3, h6⟩⟩
    simpa [cloneF, emptyA] using h1
theorem sp_Parts (n : Nat) (all : List GT) (k : List Int) (a : Int) (hp : ∀ x ∈ all, x.parts.length ≤ 1000) (m : AMem) : ∃ v m', callsN cfg (n + 2) 63 [TT all k, avI a] m = some (.ret v, m') ∧ m.next ≤ m'.next ∧ (∀ id, id < m.next → m'.get id = m.get id) ∧
    lenK v = some (avI (TP all a).length) := by
  rw [ce63]
  by_cases h : 0 ≤ a ∧ a < all.length
  · have hT : TP all a = (nth all a).parts := if_pos h
    have hc := fun m => sp_Clone n (nth all a).parts (hp _ (nth_mem _ _ h.1 h.2)) m
    have key : Wp (aBody (callsN cfg (n + 1)) cf63 [TT all k, avI a] m) fun o m' => ∃ v, o = .ret v ∧ m.next ≤ m'.next ∧ (∀ id, id < m.next → m'.get id = m.get id) ∧ lenK v = some (avI (TP all a).length) := by
      unfold aBody cf63
      obtain ⟨fv, hc⟩ := Classical.skolem.1 hc
      obtain ⟨fm, hc⟩ := Classical.skolem.1 hc
      have h1 := fun m => (hc m).1
      repeat' (first | simp -implicitDefEqProofs (disch := (first | omega | (simp only [go_sem, List.length_append, Nat.zero_add, Nat.reduceAdd, Nat.reduceLT] <;> omega) | fail)) only [go_sem, ↓reduceIte, Nat.reduceEqDiff, Nat.reduceAdd, Nat.reduceLT, Nat.reduceLeDiff, Nat.reduceBEq, reduceCtorEq, sp_has, h1] | ((with_reducible first | refine g_dec (fun h d => ?_) (fun h d => ?_) | refine c_dec (fun h d => ?_) (fun h d => ?_) | refine s_dec (fun h d => ?_) (fun h d => ?_) | refine g_ndec (fun h d => ?_) (fun h d => ?_) | refine c_ndec (fun h d => ?_) (fun h d => ?_) | refine g_nbool (fun h d => ?_) (fun h d => ?_) | refine c_nbool (fun h d => ?_) (fun h d => ?_) | refine g_bool (fun h d => ?_) (fun h d => ?_) | refine c_bool (fun h d => ?_) (fun h d => ?_) | refine s_bool (fun h d => ?_) (fun h d => ?_)) <;> (try simp only [d]) <;> (try simp only [Bool.or_eq_true, Bool.and_eq_true, Bool.or_eq_false_iff, Bool.and_eq_false_iff, decide_eq_true_eq, decide_eq_false_iff_not, Bool.not_eq_true', Bool.not_eq_false'] at h) <;> (try omega)))
      obtain ⟨_, h2, h3, h4⟩ := hc (((m.room 1).room 4).room 10)
      simp only [room_next, room_get] at h2 h3
      refine ⟨_, rfl, by omega, fun id hid => h3 id (by omega), ?_⟩
      rcases h4 with ⟨e, hv⟩ | ⟨e, id, hv, _⟩
      · rw [hv, hT, e]; rfl
      · rw [hv, hT]; rfl
    obtain ⟨o, m', h1, v, rfl, h2, h3, h4⟩ := key
    exact ⟨v, m', h1, h2, h3, h4⟩
  · have hT : TP all a = [] := if_neg h
    have key : Wp (aBody (callsN cfg (n + 1)) cf63 [TT all k, avI a] m) fun o m' => ∃ v, o = .ret v ∧ m.next ≤ m'.next ∧ (∀ id, id < m.next → m'.get id = m.get id) ∧ lenK v = some (avI (TP all a).length) := by
      unfold aBody cf63
      repeat' (first | simp -implicitDefEqProofs (disch := (first | omega | (simp only [go_sem, List.length_append, Nat.zero_add, Nat.reduceAdd, Nat.reduceLT] <;> omega) | fail)) only [go_sem, ↓reduceIte, Nat.reduceEqDiff, Nat.reduceAdd, Nat.reduceLT, Nat.reduceLeDiff, Nat.reduceBEq, reduceCtorEq, sp_has] | ((with_reducible first | refine g_dec (fun h d => ?_) (fun h d => ?_) | refine c_dec (fun h d => ?_) (fun h d => ?_) | refine s_dec (fun h d => ?_) (fun h d => ?_) | refine g_ndec (fun h d => ?_) (fun h d => ?_) | refine c_ndec (fun h d => ?_) (fun h d => ?_) | refine g_nbool (fun h d => ?_) (fun h d => ?_) | refine c_nbool (fun h d => ?_) (fun h d => ?_) | refine g_bool (fun h d => ?_) (fun h d => ?_) | refine c_bool (fun h d => ?_) (fun h d => ?_) | refine s_bool (fun h d => ?_) (fun h d => ?_)) <;> (try simp only [d]) <;> (try simp only [Bool.or_eq_true, Bool.and_eq_true, Bool.or_eq_false_iff, Bool.and_eq_false_iff, decide_eq_true_eq, decide_eq_false_iff_not, Bool.not_eq_true', Bool.not_eq_false'] at h) <;> (try omega)))
      exact ⟨_, rfl, by omega, fun _ _ => trivial, by rw [hT]; rfl⟩
    obtain ⟨o, m', h1, v, rfl, h2, h3, h4⟩ := key
    exact ⟨v, m', h1, h2, h3, h4⟩
/-- May an instruction stand there? -/
def ir (tk : Int → Int) (tp : Int → List Int) (nf locals code op a b : Int) : Bool :=
  if form op ≠ 7 ∧ form op ≠ 8 ∧ b ≠ 0 then false
  else if form op = 0 then decide (a = 0)
  else if form op = 1 then decide (-4611686018427387904 ≤ a ∧ a ≤ 4611686018427387903)
  else if form op = 2 then decide (0 ≤ a ∧ a < 2)
  else if form op = 3 then decide (0 ≤ a ∧ a < locals)
  else if form op = 4 then decide (0 ≤ a ∧ a < code)
  else if form op = 5 then decide (0 ≤ a ∧ a < nf)
  else if form op = 9 then decide (0 ≤ a ∧ a < 256)
  else if form op = 6 then decide (tk a = kindOf op)
  else if form op = 7 then decide (tk a = kindOf op ∧ 0 ≤ b ∧ b < (tp a).length)
  else if form op = 8 then decide (tk a = kindOf op ∧ 0 ≤ b ∧ b < nf)
  else false
set_option maxHeartbeats 1000000 in
theorem sp_iRight (n : Nat) (all : List GT) (k : List Int) (fs : List GF) (lo co op a b : Int) (hp : ∀ x ∈ all, x.parts.length ≤ 1000) (hop : i64 op) (m : AMem) :
    callsN cfg (n + 3) 33 [.agg [avI op, avI a, avI b], .agg [TT all k, tsl 4 (fs.map GF.av), avI lo, avI co]] m = some (.ret (.bool (ir (TK all) (TP all) fs.length lo co op a b)), m) := by
  rw [ce33]
  refine borrow_wp (targs := [.agg [avI op, avI a, avI b], .agg [TT all k, tsl 4 (fs.map GF.av), avI lo, avI co]]) (by simp only [go_sem]) ?_ rfl
  unfold aBody cf33
  obtain ⟨s, t, l, v, hof⟩ := sp_of (n := n) (op := op) hop
  obtain ⟨fv, hc⟩ := Classical.skolem.1 (fun m => sp_Parts n all k a hp m)
  obtain ⟨fm, hc⟩ := Classical.skolem.1 hc
  have h1 := fun m => (hc m).1
  have h2 := fun m => (hc m).2.2.1
  have h3 := fun m => (hc m).2.2.2
  repeat' (first | simp -implicitDefEqProofs (disch := (first | omega | (simp only [go_sem, List.length_append, Nat.zero_add, Nat.reduceAdd, Nat.reduceLT] <;> omega) | fail)) only [go_sem, ↓reduceIte, Nat.reduceEqDiff, Nat.reduceAdd, Nat.reduceLT, Nat.reduceLeDiff, Nat.reduceBEq, reduceCtorEq, hof, sp_two, sp_Is, sp_below, sp_TKind, h1, h2, h3] | ((with_reducible first | refine g_dec (fun h d => ?_) (fun h d => ?_) | refine c_dec (fun h d => ?_) (fun h d => ?_) | refine s_dec (fun h d => ?_) (fun h d => ?_) | refine g_ndec (fun h d => ?_) (fun h d => ?_) | refine c_ndec (fun h d => ?_) (fun h d => ?_) | refine g_nbool (fun h d => ?_) (fun h d => ?_) | refine c_nbool (fun h d => ?_) (fun h d => ?_) | refine g_bool (fun h d => ?_) (fun h d => ?_) | refine c_bool (fun h d => ?_) (fun h d => ?_) | refine s_bool (fun h d => ?_) (fun h d => ?_)) <;> (try simp only [d]) <;> (try simp only [Bool.or_eq_true, Bool.and_eq_true, Bool.or_eq_false_iff, Bool.and_eq_false_iff, decide_eq_true_eq, decide_eq_false_iff_not, Bool.not_eq_true', Bool.not_eq_false'] at h) <;> (try omega)))
  all_goals clear h1 h2 h3 hc hof hp hop
  all_goals (unfold ir; (repeat' split) <;> first | omega | (first | rfl | (rw [Bool.eq_iff_iff]; simp only [Bool.or_eq_true, Bool.and_eq_true, Bool.or_eq_false_iff, Bool.and_eq_false_iff, decide_eq_true_eq, decide_eq_false_iff_not, Bool.not_eq_true', Bool.not_eq_false', Bool.false_eq_true, eq_self, true_iff, false_iff, iff_true, iff_false] <;> omega)))
end Go.Proofs.YtiijjopdhjpalaaDoor
