/- Parting classes until nothing parts: plain lists of numbers. Conditions: none. -/
import Derived.Test.YtiijjopdhjpalaaDoorMf
/-! What the functions of chapter 10 answer: first part. Conditions: none. -/
namespace Go.Proofs.YtiijjopdhjpalaaDoor
open Go
set_option linter.unusedSimpArgs false
theorem i64_iff {z : Int} : i64 z ↔ -9223372036854775808 ≤ z ∧ z ≤ 9223372036854775807 := by
  simp [i64, Lit.wf, IntKind.min, IntKind.max, IntKind.signed, IntKind.bits]
/-- A pure function may be asked of what was read back. -/
theorem borrow_trees (F : AF) (args : List AV) (m : AMem) (h : ∀ t, rbL (rb m RBN) args = some t → rbL (rb m RBN) t = some t) : borrow F args m = onTrees (borrow F) m (rbL (rb m RBN) args) := by
  cases hr : rbL (rb m RBN) args with
  | none => simp only [borrow, hr, onTrees]
  | some t =>
    show _ = borrow F t m
    unfold borrow
    rw [hr, h t hr]
/-- The kind of a type of a list. -/
def K3 (l : List GT) (n : Int) : Int := if n = 0 ∨ n = 1 then n else if n < 0 ∨ (l.length : Int) ≤ n - 2 then -1 else (nth l (n - 2)).kind
/-- Is it below? -/
theorem sp_below (n : Nat) (a b : Int) (m : AMem) : callsN cfg (n + 1) 62 [avI a, avI b] m = some (.ret (.bool (decide (0 ≤ a ∧ a < b))), m) := by
  rw [ce62]
  refine borrow_wp (targs := [avI a, avI b]) (by simp only [go_sem]) ?_ rfl
  unfold aBody cf62
  repeat' (first | simp -implicitDefEqProofs (disch := first | exact soD | fail) only [go_sem, ↓reduceIte, Nat.reduceEqDiff, Nat.reduceAdd, Nat.reduceLT, Nat.reduceLeDiff, Nat.reduceBEq, reduceCtorEq] | ((with_reducible first | refine g_dec ?_ ?_ | refine c_dec ?_ ?_ | refine s_dec ?_ ?_ | refine g_ndec ?_ ?_ | refine c_ndec ?_ ?_ | refine g_nbool ?_ ?_ | refine c_nbool ?_ ?_ | refine g_bool ?_ ?_ | refine c_bool ?_ ?_ | refine s_bool ?_ ?_) <;> intro h d <;> (try simp only [d]) <;> (try simp only [B1, B2, B3, B4, B5, B6, B7, B8] at h) <;> (try omega)))
  all_goals simp [*]
theorem sp_two (n : Nat) (a : Int) (m : AMem) : callsN cfg (n + 1) 60 [avI a] m = some (.ret (.bool (decide (a = 7 ∨ a = 8))), m) := by
  rw [ce60]
  refine borrow_wp (targs := [avI a]) (by simp only [go_sem]) ?_ rfl
  unfold aBody cf60
  repeat' (first | simp -implicitDefEqProofs (disch := first | exact soD | fail) only [go_sem, ↓reduceIte, Nat.reduceEqDiff, Nat.reduceAdd, Nat.reduceLT, Nat.reduceLeDiff, Nat.reduceBEq, reduceCtorEq] | ((with_reducible first | refine g_dec ?_ ?_ | refine c_dec ?_ ?_ | refine s_dec ?_ ?_ | refine g_ndec ?_ ?_ | refine c_ndec ?_ ?_ | refine g_nbool ?_ ?_ | refine c_nbool ?_ ?_ | refine g_bool ?_ ?_ | refine c_bool ?_ ?_ | refine s_bool ?_ ?_) <;> intro h d <;> (try simp only [d]) <;> (try simp only [B1, B2, B3, B4, B5, B6, B7, B8] at h) <;> (try omega)))
  all_goals simp [*]
theorem sp_Is (n : Nat) (a : Int) (m : AMem) : callsN cfg (n + 1) 61 [avI a] m = some (.ret (.bool (decide (-4611686018427387904 ≤ a ∧ a ≤ 4611686018427387903))), m) := by
  rw [ce61]
  refine borrow_wp (targs := [avI a]) (by simp only [go_sem]) ?_ rfl
  unfold aBody cf61
  repeat' (first | simp -implicitDefEqProofs (disch := first | exact soD | fail) only [go_sem, ↓reduceIte, Nat.reduceEqDiff, Nat.reduceAdd, Nat.reduceLT, Nat.reduceLeDiff, Nat.reduceBEq, reduceCtorEq] | ((with_reducible first | refine g_dec ?_ ?_ | refine c_dec ?_ ?_ | refine s_dec ?_ ?_ | refine g_ndec ?_ ?_ | refine c_ndec ?_ ?_ | refine g_nbool ?_ ?_ | refine c_nbool ?_ ?_ | refine g_bool ?_ ?_ | refine c_bool ?_ ?_ | refine s_bool ?_ ?_) <;> intro h d <;> (try simp only [d]) <;> (try simp only [B1, B2, B3, B4, B5, B6, B7, B8] at h) <;> (try omega)))
  all_goals simp [*]
def ends (a : Int) : Bool := decide (a = 18 ∨ a = 21 ∨ a = 37)
theorem sp_Ends (n : Nat) (a : Int) (m : AMem) : callsN cfg (n + 1) 34 [avI a] m = some (.ret (.bool (ends a)), m) := by
  rw [ce34]
  refine borrow_wp (targs := [avI a]) (by simp only [go_sem]) ?_ rfl
  unfold aBody cf34 ends
  repeat' (first | simp -implicitDefEqProofs (disch := first | exact soD | fail) only [go_sem, ↓reduceIte, Nat.reduceEqDiff, Nat.reduceAdd, Nat.reduceLT, Nat.reduceLeDiff, Nat.reduceBEq, reduceCtorEq] | ((with_reducible first | refine g_dec ?_ ?_ | refine c_dec ?_ ?_ | refine s_dec ?_ ?_ | refine g_ndec ?_ ?_ | refine c_ndec ?_ ?_ | refine g_nbool ?_ ?_ | refine c_nbool ?_ ?_ | refine g_bool ?_ ?_ | refine c_bool ?_ ?_ | refine s_bool ?_ ?_) <;> intro h d <;> (try simp only [d]) <;> (try simp only [B1, B2, B3, B4, B5, B6, B7, B8] at h) <;> (try omega)))
  all_goals simp [*]
/-- Is there a type of this number? -/
def there (l : List GT) (n : Int) : Bool := decide (0 ≤ n ∧ n < l.length + 2)
theorem sp_there (n : Nat) (l : List GT) (b : Int) (m : AMem) (hl : l.length ≤ 1000) : callsN cfg (n + 1) 80 [tsl 3 (l.map GT.av), avI b] m = some (.ret (.bool (there l b)), m) := by
  rw [ce80]
  refine borrow_wp (targs := [tsl 3 (l.map GT.av), avI b]) (by simp only [go_sem]) ?_ rfl
  unfold aBody cf80 there
  repeat' (first | simp -implicitDefEqProofs (disch := first | exact soD | fail) only [go_sem, ↓reduceIte, Nat.reduceEqDiff, Nat.reduceAdd, Nat.reduceLT, Nat.reduceLeDiff, Nat.reduceBEq, reduceCtorEq] | ((with_reducible first | refine g_dec ?_ ?_ | refine c_dec ?_ ?_ | refine s_dec ?_ ?_ | refine g_ndec ?_ ?_ | refine c_ndec ?_ ?_ | refine g_nbool ?_ ?_ | refine c_nbool ?_ ?_ | refine g_bool ?_ ?_ | refine c_bool ?_ ?_ | refine s_bool ?_ ?_) <;> intro h d <;> (try simp only [d]) <;> (try simp only [B1, B2, B3, B4, B5, B6, B7, B8] at h) <;> (try omega)))
  all_goals simp [*]
end Go.Proofs.YtiijjopdhjpalaaDoor

/-! What the functions of chapter 10 answer: types. Conditions: none. -/
namespace Go.Proofs.YtiijjopdhjpalaaDoor
open Go
set_option linter.unusedSimpArgs false
set_option linter.unusedVariables false
theorem all_nth {α : Type} [Inhabited α] {l : List α} {p : α → Bool} (h : ∀ j : Int, 0 ≤ j → j < l.length → p (nth l j) = true) : l.all p = true := by
  rw [List.all_eq_true]
  intro x hx
  obtain ⟨k, hk⟩ := List.getElem?_of_mem hx
  have hlt := (List.getElem?_eq_some_iff.1 hk).1
  have := h k (by omega) (by omega)
  rw [nth_nat, List.getD_eq_getElem?_getD, hk] at this
  exact this
theorem all_nth_f {α : Type} [Inhabited α] {l : List α} {p : α → Bool} {j : Int} (h0 : 0 ≤ j) (h1 : j < l.length) (h : p (nth l j) = false) : l.all p = false := by
  cases ha : l.all p with
  | false => rfl
  | true =>
    rw [List.all_eq_true] at ha
    rw [ha _ (nth_mem l j h0 h1)] at h
    cases h
theorem all_step {α : Type} [Inhabited α] {l : List α} {p : α → Bool} {i : Int} (h : ∀ j : Int, 0 ≤ j → j < i → p (nth l j) = true) (hi : p (nth l i) = true) : ∀ j : Int, 0 ≤ j → j < i + 1 → p (nth l j) = true := fun j h0 h1 => by
  by_cases e : j = i
  · rw [e]; exact hi
  · exact h j h0 (by omega)
theorem wf_nth {l : List Int} (h : ∀ x ∈ l, i64 x) {j : Int} (h0 : 0 ≤ j) (h1 : j < l.length) : i64 (nth l j) := h _ (nth_mem l j h0 h1)
/-- May a maybe be of it? -/
def object (l : List GT) (n : Int) : Bool := decide (1 < n) && there l n && decide (2 ≤ (nth l (n - 2)).kind ∧ (nth l (n - 2)).kind ≤ 4)
theorem sp_object (n : Nat) (l : List GT) (b : Int) (m : AMem) (hl : l.length ≤ 1000) (hb : i64 b) : callsN cfg (n + 2) 81 [tsl 3 (l.map GT.av), avI b] m = some (.ret (.bool (object l b)), m) := by
  rw [ce81]
  rw [i64_iff] at hb
  refine borrow_wp (targs := [tsl 3 (l.map GT.av), avI b]) (by simp only [go_sem]) ?_ rfl
  unfold aBody cf81 object there
  repeat' (first | simp -implicitDefEqProofs (disch := first | exact soD | fail) only [go_sem, ↓reduceIte, Nat.reduceEqDiff, Nat.reduceAdd, Nat.reduceLT, Nat.reduceLeDiff, Nat.reduceBEq, reduceCtorEq, sp_there, there] | ((with_reducible first | refine g_dec ?_ ?_ | refine c_dec ?_ ?_ | refine s_dec ?_ ?_ | refine g_ndec ?_ ?_ | refine c_ndec ?_ ?_ | refine g_nbool ?_ ?_ | refine c_nbool ?_ ?_ | refine g_bool ?_ ?_ | refine c_bool ?_ ?_ | refine s_bool ?_ ?_) <;> intro h d <;> (try simp only [d]) <;> (try simp only [B1, B2, B3, B4, B5, B6, B7, B8] at h) <;> (try omega)))
  all_goals simp [*]
theorem K3_or (l : List GT) (b : Int) : (b = 0 ∧ K3 l b = 0) ∨ (b = 1 ∧ K3 l b = 1) ∨ ((b < 0 ∨ (l.length : Int) + 2 ≤ b) ∧ K3 l b = -1) ∨ (2 ≤ b ∧ b < (l.length : Int) + 2 ∧ K3 l b = (nth l (b - 2)).kind) := by
  unfold K3
  split
  · omega
  · split
    · omega
    · refine .inr (.inr (.inr ⟨by omega, by omega, rfl⟩))
/-- Why a type may not be; 0: it may. -/
def wr (l : List GT) (k : Int) (ps : List Int) (o : Int) : Int :=
  if k < 2 ∨ 5 < k then 6 else if (k = 2 ∧ 12 < ps.length) ∨ (k = 4 ∧ 6 < ps.length) then 5 else if 0 < ps.length ∧ (k = 3 ∨ k = 5) then 7 else
  if ps.all (there l) = false then 7 else if (if k = 5 then object l o else if k = 2 then decide (o = 0) else there l o) = true then 0 else 7
end Go.Proofs.YtiijjopdhjpalaaDoor

/-! What the functions of chapter 10 answer: types, second part. Conditions: none. -/
namespace Go.Proofs.YtiijjopdhjpalaaDoor
open Go
set_option linter.unusedSimpArgs false
set_option linter.unusedVariables false
theorem object_there {l : List GT} {o : Int} (h : object l o = true) : there l o = true := by
  unfold object at h
  simp only [Bool.and_eq_true] at h
  exact h.1.2
set_option maxHeartbeats 1000000 in
theorem sp_wrong (n : Nat) (l : List GT) (k : Int) (ps : List Int) (o : Int) (m : AMem) (hl : l.length ≤ 1000) (hk : i64 k) (ho : i64 o) (hp : ∀ x ∈ ps, i64 x) :
    callsN cfg (n + 3) 53 [tsl 3 (l.map GT.av), .agg [avI k, tsl 1 (ps.map avI), avI o]] m = some (.ret (avI (wr l k ps o)), m) := by
  rw [ce53]
  refine borrow_wp (targs := [tsl 3 (l.map GT.av), .agg [avI k, tsl 1 (ps.map avI), avI o]]) (by simp only [go_sem]) ?_ rfl
  unfold aBody cf53
  have key : ∀ (env : AEnv) (m : AMem), ps.length ≤ 12 → 2 ≤ k → k ≤ 5 → (k = 4 → ps.length ≤ 6) → (k = 3 ∨ k = 5 → ps.length = 0) → 2 ≤ m.next → m.get 0 = some (.arr 43 3 [.agg [avI k, tsl 1 (ps.map avI), avI o]]) → env 0 = tsl 3 (l.map GT.av) → env 3 = .ptr 0 0 0 → env 27 = tsl 1 (ps.map avI) → env 28 = avI ps.length → env 29 = avI 0 →
      Wp (loopN LOOPK (aCode (callsN cfg (n + 2)) lb53_0) env m (KBlk 1 (KSeq (callsN cfg (n + 2)) ls53_0 (fin [.slot 4])))) fun o_1 m' => RetIs m' (avI (wr l k ps o)) o_1 := by
    intro env m q1 q2 q3 q4 q5 hn hg e0 e3 e27 e28 e29
    refine wp_loop (fun (i : Int) (env : AEnv) (m : AMem) => (0 ≤ i ∧ i ≤ ps.length ∧ ∀ j, 0 ≤ j → j < i → there l (nth ps j) = true) ∧ 2 ≤ m.next ∧
        m.get 0 = some (.arr 43 3 [.agg [avI k, tsl 1 (ps.map avI), avI o]]) ∧ env 0 = tsl 3 (l.map GT.av) ∧ env 3 = .ptr 0 0 0 ∧ env 27 = tsl 1 (ps.map avI) ∧ env 28 = avI ps.length ∧ env 29 = avI i) (fun i => (ps.length - i).toNat)
      (fun i env m K' ⟨⟨hi0, hi1, hall⟩, hn, hg, e0, e3, e27, e28, e29⟩ hN hE => ?_) LOOPK 0 _ _ ⟨⟨by omega, by omega, fun j a b => by omega⟩, hn, hg, e0, e3, e27, e28, e29⟩ (by rw [LOOPK_eq]; omega)
    unfold lb53_0
    repeat' (first | simp -implicitDefEqProofs (disch := first | exact soD | fail) only [go_sem, ↓reduceIte, Nat.reduceEqDiff, Nat.reduceAdd, Nat.reduceLT, Nat.reduceLeDiff, Nat.reduceBEq, reduceCtorEq, hg, e0, e3, e27, e28, e29, sp_there] | ((with_reducible first | refine g_dec ?_ ?_ | refine c_dec ?_ ?_ | refine s_dec ?_ ?_ | refine g_ndec ?_ ?_ | refine c_ndec ?_ ?_ | refine g_nbool ?_ ?_ | refine c_nbool ?_ ?_ | refine g_bool ?_ ?_ | refine c_bool ?_ ?_ | refine s_bool ?_ ?_) <;> intro h d <;> (try simp only [d]) <;> (try simp only [B1, B2, B3, B4, B5, B6, B7, B8] at h) <;> (try omega)))
    all_goals (with_reducible first | refine hN (i + 1) _ _ ?_ ?_ | refine (hE _ _).1 _ ?_ | refine (hE _ _).2.1 ?_)
    all_goals try omega
    all_goals try unfold ls53_0
    all_goals repeat' (first | simp -implicitDefEqProofs (disch := first | exact soD | fail) only [go_sem, ↓reduceIte, Nat.reduceEqDiff, Nat.reduceAdd, Nat.reduceLT, Nat.reduceLeDiff, Nat.reduceBEq, reduceCtorEq, hg, e0, e3, e27, e28, e29, sp_there, sp_object] | ((with_reducible first | refine g_dec ?_ ?_ | refine c_dec ?_ ?_ | refine s_dec ?_ ?_ | refine g_ndec ?_ ?_ | refine c_ndec ?_ ?_ | refine g_nbool ?_ ?_ | refine c_nbool ?_ ?_ | refine g_bool ?_ ?_ | refine c_bool ?_ ?_ | refine s_bool ?_ ?_) <;> intro h d <;> (try simp only [d]) <;> (try simp only [B1, B2, B3, B4, B5, B6, B7, B8] at h) <;> (try omega)))
    all_goals first
      | exact ⟨by omega, by omega, all_step hall (by assumption)⟩
      | (have hA : ps.all (there l) = false := all_nth_f (j := i) (by omega) (by omega) (by assumption)
         ((try unfold wr); (repeat' split) <;> first | omega | (simp_all; done) | (simp_all; omega)))
      | (have hA : ps.all (there l) = true := all_nth fun j a b => hall j a (by omega)
         have hO := @object_there l o
         have h0 : there l 0 = true := by
           simp only [there, decide_eq_true_eq]; omega
         ((try unfold wr); (repeat' split) <;> first | omega | (simp_all; done) | (simp_all; omega)))
  repeat' (first | simp -implicitDefEqProofs (disch := first | exact soD | fail) only [go_sem, ↓reduceIte, Nat.reduceEqDiff, Nat.reduceAdd, Nat.reduceLT, Nat.reduceLeDiff, Nat.reduceBEq, reduceCtorEq] | ((with_reducible first | refine g_dec ?_ ?_ | refine c_dec ?_ ?_ | refine s_dec ?_ ?_ | refine g_ndec ?_ ?_ | refine c_ndec ?_ ?_ | refine g_nbool ?_ ?_ | refine c_nbool ?_ ?_ | refine g_bool ?_ ?_ | refine c_bool ?_ ?_ | refine s_bool ?_ ?_) <;> intro h d <;> (try simp only [d]) <;> (try simp only [B1, B2, B3, B4, B5, B6, B7, B8] at h) <;> (try omega)))
  all_goals try ((try unfold wr); (repeat' split) <;> first | omega | (simp_all; done) | (simp_all; omega))
  all_goals
    refine key _ _ ?_ ?_ ?_ ?_ ?_ ?_ ?_ ?_ ?_ ?_ ?_ ?_
  all_goals try omega
  all_goals try (simp -implicitDefEqProofs (disch := first | exact soD | fail) only [go_sem, ↓reduceIte, Nat.reduceEqDiff, Nat.reduceAdd, Nat.reduceLT, Nat.reduceLeDiff, Nat.reduceBEq, reduceCtorEq]; done)
end Go.Proofs.YtiijjopdhjpalaaDoor

/-! What the functions of chapter 10 answer: types, third part. Conditions: none. -/
namespace Go.Proofs.YtiijjopdhjpalaaDoor
open Go
set_option linter.unusedSimpArgs false
set_option linter.unusedVariables false
theorem first_some {α : Type} [Inhabited α] {l : List α} {p : α → Bool} {i : Int} (h0 : 0 ≤ i) (h1 : i < l.length) (h : ∀ j : Int, 0 ≤ j → j < i → (!p (nth l j)) = true) (hi : p (nth l i) = true) : l.findIdx? p = some i.toNat := by
  rw [List.findIdx?_eq_some_iff_getElem]
  refine ⟨by omega, ?_, fun j hj => ?_⟩
  · have := nth_get? l i h0 h1
    rw [List.getElem?_eq_getElem (by omega)] at this
    injection this with this
    rw [this]
    exact hi
  · have h2 := h j (by omega) (by omega)
    have := nth_get? l (j : Int) (by omega) (by omega)
    rw [Int.toNat_natCast, List.getElem?_eq_getElem (by omega)] at this
    injection this with this
    rw [this]
    simpa using h2
theorem first_none {α : Type} [Inhabited α] {l : List α} {p : α → Bool} (h : ∀ j : Int, 0 ≤ j → j < l.length → (!p (nth l j)) = true) : l.findIdx? p = none := by
  rw [List.findIdx?_eq_none_iff]
  have := all_nth (p := fun x => !p x) h
  rw [List.all_eq_true] at this
  intro x hx
  simpa using this x hx
def wrT (l : List GT) (x : GT) : Int := wr l x.kind x.parts x.of
/-- The first type that may not be, and why. -/
def tr (l : List GT) : Int × Int := if 60 < l.length then (0, 5) else match l.findIdx? (fun x => decide (wrT l x ≠ 0)) with
  | some i => (i, wrT l (nth l i))
  | none => (0, 0)
theorem tr_big {l : List GT} (h : 60 < l.length) : tr l = (0, 5) := if_pos h
theorem tr_some {l : List GT} {i : Int} (h0 : 0 ≤ i) (h1 : i < l.length) (h2 : l.length ≤ 60) (h : ∀ j : Int, 0 ≤ j → j < i → (!decide (wrT l (nth l j) ≠ 0)) = true) (hi : ¬ wrT l (nth l i) = 0) : tr l = (i, wrT l (nth l i)) := by
  unfold tr
  rw [if_neg (by omega), first_some (p := fun x => decide (wrT l x ≠ 0)) h0 h1 h (by simpa using hi)]
  have : ((i.toNat : Nat) : Int) = i := by omega
  simp only [this]
theorem tr_none {l : List GT} (h2 : l.length ≤ 60) (h : ∀ j : Int, 0 ≤ j → j < l.length → (!decide (wrT l (nth l j) ≠ 0)) = true) : tr l = (0, 0) := by
  unfold tr
  rw [if_neg (by omega), first_none (p := fun x => decide (wrT l x ≠ 0)) h]
theorem sp_Right (n : Nat) (l : List GT) (m : AMem) (hl : ∀ x ∈ l, x.wf) : callsN cfg (n + 4) 29 [tsl 3 (l.map GT.av)] m = some (.ret (.tup [avI (tr l).1, avI (tr l).2]), m) := by
  rw [ce29]
  refine borrow_wp (targs := [tsl 3 (l.map GT.av)]) (by simp only [go_sem]) ?_ rfl
  unfold aBody cf29
  have key : ∀ (env : AEnv) (m : AMem), l.length ≤ 60 → 0 ≤ m.next → env 0 = tsl 3 (l.map GT.av) → env 10 = tsl 3 (l.map GT.av) → env 11 = avI l.length → env 12 = avI 0 →
      Wp (loopN LOOPK (aCode (callsN cfg (n + 3)) lb29_0) env m (KBlk 0 (KSeq (callsN cfg (n + 3)) ls29_0 (fin [.slot 2, .slot 3])))) fun o_1 m' => RetIs m' (.tup [avI (tr l).1, avI (tr l).2]) o_1 := by
    intro env m q1 _ e0 e10 e11 e12
    refine wp_loop (fun (i : Int) (env : AEnv) (m : AMem) => (0 ≤ i ∧ i ≤ l.length ∧ ∀ j, 0 ≤ j → j < i → (!decide (wrT l (nth l j) ≠ 0)) = true) ∧ env 0 = tsl 3 (l.map GT.av) ∧ env 10 = tsl 3 (l.map GT.av) ∧ env 11 = avI l.length ∧ env 12 = avI i) (fun i => (l.length - i).toNat)
      (fun i env m K' ⟨⟨hi0, hi1, hall⟩, e0, e10, e11, e12⟩ hN hE => ?_) LOOPK 0 _ _ ⟨⟨by omega, by omega, fun j a b => by omega⟩, e0, e10, e11, e12⟩ (by rw [LOOPK_eq]; omega)
    have hw : ∀ (h1 : i < l.length) (m : AMem), callsN cfg (n + 3) 53 [tsl 3 (l.map GT.av), .agg [avI (nth l i).kind, tsl 1 ((nth l i).parts.map avI), avI (nth l i).of]] m = some (.ret (avI (wrT l (nth l i))), m) := fun h1 m => by
      obtain ⟨a, _, b, c⟩ := hl _ (nth_mem l i hi0 h1)
      exact sp_wrong n l _ _ _ m (by omega) a c b
    unfold lb29_0
    repeat' (first | simp -implicitDefEqProofs (disch := first | exact soD | fail) only [go_sem, ↓reduceIte, Nat.reduceEqDiff, Nat.reduceAdd, Nat.reduceLT, Nat.reduceLeDiff, Nat.reduceBEq, reduceCtorEq, e0, e10, e11, e12, hw] | ((with_reducible first | refine g_dec ?_ ?_ | refine c_dec ?_ ?_ | refine s_dec ?_ ?_ | refine g_ndec ?_ ?_ | refine c_ndec ?_ ?_ | refine g_nbool ?_ ?_ | refine c_nbool ?_ ?_ | refine g_bool ?_ ?_ | refine c_bool ?_ ?_ | refine s_bool ?_ ?_) <;> intro h d <;> (try simp only [d]) <;> (try simp only [B1, B2, B3, B4, B5, B6, B7, B8] at h) <;> (try omega)))
    all_goals (with_reducible first | refine hN (i + 1) _ _ ?_ ?_ | refine (hE _ _).1 _ ?_ | refine (hE _ _).2.1 ?_)
    all_goals try omega
    all_goals try unfold ls29_0
    all_goals repeat' (first | simp -implicitDefEqProofs (disch := first | exact soD | fail) only [go_sem, ↓reduceIte, Nat.reduceEqDiff, Nat.reduceAdd, Nat.reduceLT, Nat.reduceLeDiff, Nat.reduceBEq, reduceCtorEq, e0, e10, e11, e12] | ((with_reducible first | refine g_dec ?_ ?_ | refine c_dec ?_ ?_ | refine s_dec ?_ ?_ | refine g_ndec ?_ ?_ | refine c_ndec ?_ ?_ | refine g_nbool ?_ ?_ | refine c_nbool ?_ ?_ | refine g_bool ?_ ?_ | refine c_bool ?_ ?_ | refine s_bool ?_ ?_) <;> intro h d <;> (try simp only [d]) <;> (try simp only [B1, B2, B3, B4, B5, B6, B7, B8] at h) <;> (try omega)))
    all_goals first
      | exact ⟨by omega, by omega, all_step (p := fun x => !decide (wrT l x ≠ 0)) hall (by simpa using (by assumption : wrT l (nth l i) = 0))⟩
      | (have hf : tr l = (i, wrT l (nth l i)) := tr_some hi0 (by omega) (by omega) hall (by assumption)
         rw [hf]; exact ⟨rfl, rfl⟩)
      | (have hf : tr l = (0, 0) := tr_none (by omega) (fun j a b => hall j a (by omega))
         rw [hf]; exact ⟨rfl, rfl⟩)
  repeat' (first | simp -implicitDefEqProofs (disch := first | exact soD | fail) only [go_sem, ↓reduceIte, Nat.reduceEqDiff, Nat.reduceAdd, Nat.reduceLT, Nat.reduceLeDiff, Nat.reduceBEq, reduceCtorEq] | ((with_reducible first | refine g_dec ?_ ?_ | refine c_dec ?_ ?_ | refine s_dec ?_ ?_ | refine g_ndec ?_ ?_ | refine c_ndec ?_ ?_ | refine g_nbool ?_ ?_ | refine c_nbool ?_ ?_ | refine g_bool ?_ ?_ | refine c_bool ?_ ?_ | refine s_bool ?_ ?_) <;> intro h d <;> (try simp only [d]) <;> (try simp only [B1, B2, B3, B4, B5, B6, B7, B8] at h) <;> (try omega)))
  · rw [tr_big (by omega)]; exact ⟨rfl, rfl⟩
  · refine key _ _ ?_ ?_ ?_ ?_ ?_ ?_
    all_goals first | omega | (simp -implicitDefEqProofs (disch := first | exact soD | fail) only [go_sem, ↓reduceIte, Nat.reduceEqDiff, Nat.reduceAdd, Nat.reduceLT, Nat.reduceLeDiff, Nat.reduceBEq, reduceCtorEq]; done)
end Go.Proofs.YtiijjopdhjpalaaDoor

/-! What the functions of chapter 10 answer: instructions. Conditions: none. -/
namespace Go.Proofs.YtiijjopdhjpalaaDoor
open Go
set_option linter.unusedSimpArgs false
set_option linter.unusedVariables false
/-- An instruction's form and kind. -/
def forms : List Int := [0, 1, 2, 3, 3, 0, 0, 0, 0, 0, 0, 0, 0, 0, 0, 0, 0, 0, 4, 4, 5, 0, 6, 7, 7, 6, 6, 6, 6, 8, 6, 6, 6, 6, 6, 0, 0, 9]
def kinds : List Int := [-1, -1, -1, -1, -1, -1, -1, -1, -1, -1, -1, -1, -1, -1, -1, -1, -1, -1, -1, -1, -1, -1, 2, 2, 2, 3, 3, 3, 3, 4, 4, 5, 5, 5, 5, -1, -1, -1]
def form (op : Int) : Int := if 0 ≤ op ∧ op < 38 then nth forms op else -1
def kindOf (op : Int) : Int := if 0 ≤ op ∧ op < 38 then nth kinds op else -1
def ofOk (form kind : Int) : Res → Bool
  | some (.ret (.agg [.str _, .int .i64 f, .int .i64 k, .int .i64 _, .int .i64 _, .bool _]), _) => f == form && k == kind
  | _ => false
theorem of_in (n : Nat) : (List.range 38).all (fun k => ofOk (form k) (kindOf k) (callsN cfg (n + 2) 59 [avI k] .empty)) = true := by kernel_rfl
theorem ofOk_or {f k : Int} {r : Res} (h : ofOk f k r = true) : ∃ s t l v m, r = some (.ret (.agg [.str s, avI f, avI k, avI t, avI l, .bool v]), m) := by
  unfold ofOk at h
  split at h
  · simp only [Bool.and_eq_true, beq_iff_eq] at h
    obtain ⟨rfl, rfl⟩ := h
    exact ⟨_, _, _, _, _, rfl⟩
  · cases h
theorem table_ok (n : Nat) : (match callsN cfg (n + 1) 82 [] .empty with | some (.ret _, _) => true | _ => false) = true := by kernel_rfl
theorem sp_table (n : Nat) : ∃ v, ∀ m, callsN cfg (n + 1) 82 [] m = some (.ret v, m) := by
  have h := table_ok n
  split at h
  · rename_i v m0 hv
    exact ⟨v, fun m => pure_any (by rfl) hv m⟩
  · cases h
theorem sp_of (n : Nat) (op : Int) (hop : i64 op) : ∃ s t l v, ∀ m, callsN cfg (n + 2) 59 [avI op] m = some (.ret (.agg [.str s, avI (form op), avI (kindOf op), avI t, avI l, .bool v]), m) := by
  by_cases h : 0 ≤ op ∧ op < 38
  · have := of_in n
    rw [List.all_eq_true] at this
    have := this op.toNat (List.mem_range.2 (by omega))
    obtain ⟨s, t, l, v, m0, hr⟩ := ofOk_or this
    have e : ((op.toNat : Nat) : Int) = op := by omega
    rw [e] at hr
    exact ⟨s, t, l, v, fun m => pure_any (by rfl) hr m⟩
  · refine ⟨[], 0, 0, false, fun m => ?_⟩
    have hf : form op = -1 := if_neg h
    have hk : kindOf op = -1 := if_neg h
    rw [hf, hk]
    obtain ⟨tv, ht⟩ := sp_table n
    rw [ce59]
    refine borrow_wp (targs := [avI op]) (by simp only [go_sem]) ?_ rfl
    unfold aBody cf59
    repeat' (first | simp -implicitDefEqProofs (disch := first | exact soD | fail) only [go_sem, ↓reduceIte, Nat.reduceEqDiff, Nat.reduceAdd, Nat.reduceLT, Nat.reduceLeDiff, Nat.reduceBEq, reduceCtorEq, ht] | ((with_reducible first | refine g_dec ?_ ?_ | refine c_dec ?_ ?_ | refine s_dec ?_ ?_ | refine g_ndec ?_ ?_ | refine c_ndec ?_ ?_ | refine g_nbool ?_ ?_ | refine c_nbool ?_ ?_ | refine g_bool ?_ ?_ | refine c_bool ?_ ?_ | refine s_bool ?_ ?_) <;> intro h d <;> (try simp only [d]) <;> (try simp only [B1, B2, B3, B4, B5, B6, B7, B8] at h) <;> (try omega)))
end Go.Proofs.YtiijjopdhjpalaaDoor

/-! What the functions of chapter 10 answer: instructions, second part. Conditions: none. -/
namespace Go.Proofs.YtiijjopdhjpalaaDoor
open Go
set_option linter.unusedSimpArgs false
set_option linter.unusedVariables false
/-- A table of types. -/
@[reducible] def TT (all : List GT) (k : List Int) : AV := .tp (.agg [tsl 3 (all.map GT.av), tsl 1 (k.map avI)])
theorem sp_has (n : Nat) (all : List GT) (k : List Int) (a : Int) (m : AMem) : callsN cfg (n + 1) 58 [TT all k, avI a] m = some (.ret (.bool (decide (0 ≤ a ∧ a < all.length))), m) := by
  rw [ce58]
  refine borrow_wp (targs := [TT all k, avI a]) (by simp only [go_sem]) ?_ rfl
  unfold aBody cf58
  repeat' (first | simp -implicitDefEqProofs (disch := first | exact soD | fail) only [go_sem, ↓reduceIte, Nat.reduceEqDiff, Nat.reduceAdd, Nat.reduceLT, Nat.reduceLeDiff, Nat.reduceBEq, reduceCtorEq] | ((with_reducible first | refine g_dec ?_ ?_ | refine c_dec ?_ ?_ | refine s_dec ?_ ?_ | refine g_ndec ?_ ?_ | refine c_ndec ?_ ?_ | refine g_nbool ?_ ?_ | refine c_nbool ?_ ?_ | refine g_bool ?_ ?_ | refine c_bool ?_ ?_ | refine s_bool ?_ ?_) <;> intro h d <;> (try simp only [d]) <;> (try simp only [B1, B2, B3, B4, B5, B6, B7, B8] at h) <;> (try omega)))
  all_goals (first | rfl | (rw [Bool.eq_iff_iff]; simp only [B1, B2, B3, B4, B5, B6, B7, B8, Bool.false_eq_true, eq_self, true_iff, false_iff, iff_true, iff_false] <;> omega))
/-- The kind of a type of a table. -/
def TK (all : List GT) (n : Int) : Int := if 0 ≤ n ∧ n < all.length then (nth all n).kind else -1
theorem sp_TKind (n : Nat) (all : List GT) (k : List Int) (a : Int) (m : AMem) : callsN cfg (n + 2) 32 [TT all k, avI a] m = some (.ret (avI (TK all a)), m) := by
  rw [ce32]
  refine borrow_wp (targs := [TT all k, avI a]) (by simp only [go_sem]) ?_ rfl
  unfold aBody cf32
  repeat' (first | simp -implicitDefEqProofs (disch := first | exact soD | fail) only [go_sem, ↓reduceIte, Nat.reduceEqDiff, Nat.reduceAdd, Nat.reduceLT, Nat.reduceLeDiff, Nat.reduceBEq, reduceCtorEq, sp_has] | ((with_reducible first | refine g_dec ?_ ?_ | refine c_dec ?_ ?_ | refine s_dec ?_ ?_ | refine g_ndec ?_ ?_ | refine c_ndec ?_ ?_ | refine g_nbool ?_ ?_ | refine c_nbool ?_ ?_ | refine g_bool ?_ ?_ | refine c_bool ?_ ?_ | refine s_bool ?_ ?_) <;> intro h d <;> (try simp only [d]) <;> (try simp only [B1, B2, B3, B4, B5, B6, B7, B8] at h) <;> (try omega)))
  all_goals ((try unfold TK); (repeat' split) <;> first | omega | (simp_all; done) | (simp_all; omega))
end Go.Proofs.YtiijjopdhjpalaaDoor

/-! What the functions of chapter 10 answer: instructions, third part. Conditions: none. -/
namespace Go.Proofs.YtiijjopdhjpalaaDoor
open Go
set_option linter.unusedSimpArgs false
set_option linter.unusedVariables false
/-- The parts of a type of a table. -/
def TP (all : List GT) (n : Int) : List Int := if 0 ≤ n ∧ n < all.length then (nth all n).parts else []
theorem tsl_ne {α : Type} {sz : Nat} {l : List α} {f : α → AV} (h : l ≠ []) : tsl sz (l.map f) = .ts sz (l.map f) := by
  cases l with
  | nil => exact absurd rfl h
  | cons a r => rfl
theorem clone_ts (fn : AFun) (calls : Nat → AF) (m : AMem) : cloneF fn calls [tsl 1 []] m = some (.ret (.ts 0 []), m) := rfl
/-- slices.Clone of a slice of numbers: a new object, unless there is nothing. -/
theorem sp_Clone (n : Nat) (l : List Int) (hl : l.length ≤ 1000) (m : AMem) : ∃ v m', callsN cfg (n + 1) 30 [tsl 1 (l.map avI)] m = some (.ret v, m') ∧ m.next ≤ m'.next ∧ (∀ id, id < m.next → m'.get id = m.get id) ∧
    ((l = [] ∧ v = .ts 0 []) ∨ (l ≠ [] ∧ ∃ id, v = .sl 1 id 0 l.length ∧ m.next ≤ id ∧ id < m'.next ∧ m'.get id = some (.arr 3 1 (l.map avI)))) := by
  rw [ce30]
  by_cases h : l = []
  · subst h
    exact ⟨_, m, clone_ts _ _ _, Nat.le_refl _, fun _ _ => rfl, .inl ⟨rfl, rfl⟩⟩
  · obtain ⟨x, r, rfl⟩ : ∃ x r, l = x :: r := by
      cases l with
      | nil => exact absurd rfl h
      | cons x r => exact ⟨x, r, rfl⟩
    rw [tsl_ne h]
    have hl' : r.length ≤ 999 := by simp at hl; omega
    have key : Wp (aBody (callsN cfg n) cf30 [.ts 1 ((x :: r).map avI)] m) fun o m' => ∃ id, o = .ret (.sl 1 id 0 (x :: r).length) ∧ m.next ≤ id ∧ id < m'.next ∧ m.next ≤ m'.next ∧ (∀ id, id < m.next → m'.get id = m.get id) ∧ m'.get id = some (.arr 3 1 ((x :: r).map avI)) := by
      unfold aBody cf30
      repeat' (first | simp -implicitDefEqProofs (disch := first | exact soD | fail) only [go_sem, ↓reduceIte, Nat.reduceEqDiff, Nat.reduceAdd, Nat.reduceLT, Nat.reduceLeDiff, Nat.reduceBEq, reduceCtorEq] | ((with_reducible first | refine g_dec ?_ ?_ | refine c_dec ?_ ?_ | refine s_dec ?_ ?_ | refine g_ndec ?_ ?_ | refine c_ndec ?_ ?_ | refine g_nbool ?_ ?_ | refine c_nbool ?_ ?_ | refine g_bool ?_ ?_ | refine c_bool ?_ ?_ | refine s_bool ?_ ?_) <;> intro h d <;> (try simp only [d]) <;> (try simp only [B1, B2, B3, B4, B5, B6, B7, B8] at h) <;> (try omega)))
      exact ⟨_, rfl, by omega, by omega, by omega, fun id hid => sxA, sxA⟩
    obtain ⟨o, m', h1, id, rfl, h2, h3, h4, h5, h6⟩ := key
    refine ⟨_, m', ?_, h4, h5, .inr ⟨h, id, rfl, h2, h3, h6⟩⟩
    simpa [cloneF, emptyA] using h1
theorem sp_Parts (n : Nat) (all : List GT) (k : List Int) (a : Int) (hp : ∀ x ∈ all, x.parts.length ≤ 1000) (m : AMem) : ∃ v m', callsN cfg (n + 2) 63 [TT all k, avI a] m = some (.ret v, m') ∧ m.next ≤ m'.next ∧ (∀ id, id < m.next → m'.get id = m.get id) ∧
    lenK v = some (avI (TP all a).length) := by
  rw [ce63]
  by_cases h : 0 ≤ a ∧ a < all.length
  · have hT : TP all a = (nth all a).parts := if_pos h
    have hc := fun m => sp_Clone n (nth all a).parts (hp _ (nth_mem _ _ h.1 h.2)) m
    have key : Wp (aBody (callsN cfg (n + 1)) cf63 [TT all k, avI a] m) fun o m' => ∃ v, o = .ret v ∧ m.next ≤ m'.next ∧ (∀ id, id < m.next → m'.get id = m.get id) ∧ lenK v = some (avI (TP all a).length) := by
      unfold aBody cf63
      obtain ⟨fv, hc⟩ := Classical.skolem.1 hc
      obtain ⟨fm, hc⟩ := Classical.skolem.1 hc
      have h1 := fun m => (hc m).1
      repeat' (first | simp -implicitDefEqProofs (disch := first | exact soD | fail) only [go_sem, ↓reduceIte, Nat.reduceEqDiff, Nat.reduceAdd, Nat.reduceLT, Nat.reduceLeDiff, Nat.reduceBEq, reduceCtorEq, sp_has, h1] | ((with_reducible first | refine g_dec ?_ ?_ | refine c_dec ?_ ?_ | refine s_dec ?_ ?_ | refine g_ndec ?_ ?_ | refine c_ndec ?_ ?_ | refine g_nbool ?_ ?_ | refine c_nbool ?_ ?_ | refine g_bool ?_ ?_ | refine c_bool ?_ ?_ | refine s_bool ?_ ?_) <;> intro h d <;> (try simp only [d]) <;> (try simp only [B1, B2, B3, B4, B5, B6, B7, B8] at h) <;> (try omega)))
      obtain ⟨_, h2, h3, h4⟩ := hc (((m.room 1).room 4).room 10)
      simp only [room_next, room_get] at h2 h3
      refine ⟨_, rfl, by omega, fun id hid => h3 id (by omega), ?_⟩
      rcases h4 with ⟨e, hv⟩ | ⟨e, id, hv, _⟩
      · rw [hv, hT, e]; rfl
      · rw [hv, hT]; rfl
    obtain ⟨o, m', h1, v, rfl, h2, h3, h4⟩ := key
    exact ⟨v, m', h1, h2, h3, h4⟩
  · have hT : TP all a = [] := if_neg h
    have key : Wp (aBody (callsN cfg (n + 1)) cf63 [TT all k, avI a] m) fun o m' => ∃ v, o = .ret v ∧ m.next ≤ m'.next ∧ (∀ id, id < m.next → m'.get id = m.get id) ∧ lenK v = some (avI (TP all a).length) := by
      unfold aBody cf63
      repeat' (first | simp -implicitDefEqProofs (disch := first | exact soD | fail) only [go_sem, ↓reduceIte, Nat.reduceEqDiff, Nat.reduceAdd, Nat.reduceLT, Nat.reduceLeDiff, Nat.reduceBEq, reduceCtorEq, sp_has] | ((with_reducible first | refine g_dec ?_ ?_ | refine c_dec ?_ ?_ | refine s_dec ?_ ?_ | refine g_ndec ?_ ?_ | refine c_ndec ?_ ?_ | refine g_nbool ?_ ?_ | refine c_nbool ?_ ?_ | refine g_bool ?_ ?_ | refine c_bool ?_ ?_ | refine s_bool ?_ ?_) <;> intro h d <;> (try simp only [d]) <;> (try simp only [B1, B2, B3, B4, B5, B6, B7, B8] at h) <;> (try omega)))
      exact ⟨_, rfl, by omega, fun _ _ => trivial, by rw [hT]; rfl⟩
    obtain ⟨o, m', h1, v, rfl, h2, h3, h4⟩ := key
    exact ⟨v, m', h1, h2, h3, h4⟩
/-- May an instruction stand there? -/
def ir (tk : Int → Int) (tp : Int → List Int) (nf locals code op a b : Int) : Bool :=
  if form op ≠ 7 ∧ form op ≠ 8 ∧ b ≠ 0 then false
  else if form op = 0 then decide (a = 0)
  else if form op = 1 then decide (-4611686018427387904 ≤ a ∧ a ≤ 4611686018427387903)
  else if form op = 2 then decide (0 ≤ a ∧ a < 2)
  else if form op = 3 then decide (0 ≤ a ∧ a < locals)
  else if form op = 4 then decide (0 ≤ a ∧ a < code)
  else if form op = 5 then decide (0 ≤ a ∧ a < nf)
  else if form op = 9 then decide (0 ≤ a ∧ a < 256)
  else if form op = 6 then decide (tk a = kindOf op)
  else if form op = 7 then decide (tk a = kindOf op ∧ 0 ≤ b ∧ b < (tp a).length)
  else if form op = 8 then decide (tk a = kindOf op ∧ 0 ≤ b ∧ b < nf)
  else false
set_option maxHeartbeats 1000000 in
theorem sp_iRight (n : Nat) (all : List GT) (k : List Int) (fs : List GF) (lo co op a b : Int) (hp : ∀ x ∈ all, x.parts.length ≤ 1000) (hop : i64 op) (m : AMem) :
    callsN cfg (n + 3) 33 [.agg [avI op, avI a, avI b], .agg [TT all k, tsl 4 (fs.map GF.av), avI lo, avI co]] m = some (.ret (.bool (ir (TK all) (TP all) fs.length lo co op a b)), m) := by
  rw [ce33]
  refine borrow_wp (targs := [.agg [avI op, avI a, avI b], .agg [TT all k, tsl 4 (fs.map GF.av), avI lo, avI co]]) (by simp only [go_sem]) ?_ rfl
  unfold aBody cf33
  obtain ⟨s, t, l, v, hof⟩ := sp_of (n := n) (op := op) hop
  obtain ⟨fv, hc⟩ := Classical.skolem.1 (fun m => sp_Parts n all k a hp m)
  obtain ⟨fm, hc⟩ := Classical.skolem.1 hc
  have h1 := fun m => (hc m).1
  have h2 := fun m => (hc m).2.2.1
  have h3 := fun m => (hc m).2.2.2
  repeat' (first | simp -implicitDefEqProofs (disch := first | exact soD | fail) only [go_sem, ↓reduceIte, Nat.reduceEqDiff, Nat.reduceAdd, Nat.reduceLT, Nat.reduceLeDiff, Nat.reduceBEq, reduceCtorEq, hof, sp_two, sp_Is, sp_below, sp_TKind, h1, h2, h3] | ((with_reducible first | refine g_dec ?_ ?_ | refine c_dec ?_ ?_ | refine s_dec ?_ ?_ | refine g_ndec ?_ ?_ | refine c_ndec ?_ ?_ | refine g_nbool ?_ ?_ | refine c_nbool ?_ ?_ | refine g_bool ?_ ?_ | refine c_bool ?_ ?_ | refine s_bool ?_ ?_) <;> intro h d <;> (try simp only [d]) <;> (try simp only [B1, B2, B3, B4, B5, B6, B7, B8] at h) <;> (try omega)))
  all_goals clear h1 h2 h3 hc hof hp hop
  all_goals (unfold ir; (repeat' split) <;> first | omega | (first | rfl | (rw [Bool.eq_iff_iff]; simp only [B1, B2, B3, B4, B5, B6, B7, B8, Bool.false_eq_true, eq_self, true_iff, false_iff, iff_true, iff_false] <;> omega)))
end Go.Proofs.YtiijjopdhjpalaaDoor

/-! What the functions of chapter 10 answer: may a program be? Conditions: none. -/
namespace Go.Proofs.YtiijjopdhjpalaaDoor
open Go
set_option linter.unusedSimpArgs false
set_option linter.unusedVariables false
/-- Of all places below n. -/
def allI (n : Nat) (p : Int → Bool) : Bool := (List.range n).all fun k => p k
theorem allI_t {n : Nat} {p : Int → Bool} (h : ∀ j : Int, 0 ≤ j → j < n → p j = true) : allI n p = true := by
  unfold allI
  rw [List.all_eq_true]
  intro k hk
  exact h k (by omega) (by have := List.mem_range.1 hk; omega)
theorem allI_f {n : Nat} {p : Int → Bool} {j : Int} (h0 : 0 ≤ j) (h1 : j < n) (h : p j = false) : allI n p = false := by
  cases ha : allI n p with
  | false => rfl
  | true =>
    unfold allI at ha
    rw [List.all_eq_true] at ha
    have := ha j.toNat (List.mem_range.2 (by omega))
    rw [show ((j.toNat : Nat) : Int) = j by omega, h] at this
    cases this
theorem allI_step {p : Int → Bool} {i : Int} (h : ∀ j : Int, 0 ≤ j → j < i → p j = true) (hi : p i = true) : ∀ j : Int, 0 ≤ j → j < i + 1 → p j = true := fun j h0 h1 => by
  by_cases e : j = i
  · rw [e]; exact hi
  · exact h j h0 (by omega)
end Go.Proofs.YtiijjopdhjpalaaDoor

/-! What the functions of chapter 10 answer: may a function be? Conditions: none. -/
namespace Go.Proofs.YtiijjopdhjpalaaDoor
open Go
set_option linter.unusedSimpArgs false
set_option linter.unusedVariables false
def fokT (tk : Int → Int) (tp : Int → List Int) (nf : Int) (f : GF) : Bool :=
  if 16 < f.params.length ∨ f.locals < 0 ∨ 32 - f.params.length < f.locals ∨ f.code.length < 1 ∨ 300 < f.code.length ∨ tk f.result < 0 then false
  else f.params.all (fun x => decide (0 ≤ tk x)) && (f.code.all (fun i => ir tk tp nf (f.params.length + f.locals) f.code.length i.op i.a i.b)) && ends (nth f.code (f.code.length - 1)).op
set_option maxHeartbeats 2000000 in
theorem sp_right (n : Nat) (p : GP) (all : List GT) (k : List Int) (f : GF) (hw : f.wf) (hp : ∀ x ∈ all, x.parts.length ≤ 1000) (hl : p.funcs.length ≤ 1000) (m : AMem) :
    callsN cfg (n + 4) 18 [.agg [tsl 3 (p.types.map GT.av), tsl 4 (p.funcs.map GF.av)], TT all k, f.av] m = some (.ret (.bool (fokT (TK all) (TP all) p.funcs.length f)), m) := by
  rw [ce18]
  refine borrow_wp (targs := [.agg [tsl 3 (p.types.map GT.av), tsl 4 (p.funcs.map GF.av)], TT all k, f.av]) (by simp only [go_sem]) ?_ rfl
  unfold aBody cf18
  obtain ⟨_, wp, wr, wl, _, wc⟩ := hw
  rw [i64_iff] at wl
  generalize hF : fokT (TK all) (TP all) p.funcs.length f = F
  have key2 : ∀ (env : AEnv) (m : AMem) (id : Nat), f.params.length ≤ 16 → 0 ≤ f.locals → f.params.length + f.locals ≤ 32 → 1 ≤ f.code.length → f.code.length ≤ 300 → 0 ≤ TK all f.result → f.params.all (fun x => decide (0 ≤ TK all x)) = true →
      2 ≤ m.next → 2 ≤ id → id < m.next →
      m.get 1 = some (.arr 48 4 [f.av]) → m.get id = some (.arr 81 4 [.agg [TT all k, tsl 4 (p.funcs.map GF.av), avI (f.params.length + f.locals), avI f.code.length]]) →
      env 5 = .ptr 1 0 0 → env 9 = .ptr id 0 0 → env 75 = tsl 3 (f.code.map GI.av) → env 76 = avI f.code.length → env 77 = avI 0 →
      Wp (loopN LOOPK (aCode (callsN cfg (n + 3)) lb18_1) env m (KBlk 2 (KSeq (callsN cfg (n + 3)) ls18_0 (fin [.slot 6])))) fun o m' => RetIs m' (.bool F) o := by
    intro env m id q1 q2 q3 q4 q5 q6 q7 hn h2 hid g1 g9 e5 e9 e75 e76 e77
    refine wp_loop (fun (i : Int) (env : AEnv) (m : AMem) => (0 ≤ i ∧ i ≤ f.code.length ∧ ∀ j, 0 ≤ j → j < i → (fun (x : GI) => ir (TK all) (TP all) p.funcs.length (f.params.length + f.locals) f.code.length x.op x.a x.b) (nth f.code j) = true) ∧ id < m.next ∧
        m.get 1 = some (.arr 48 4 [f.av]) ∧ m.get id = some (.arr 81 4 [.agg [TT all k, tsl 4 (p.funcs.map GF.av), avI (f.params.length + f.locals), avI f.code.length]]) ∧
        env 5 = .ptr 1 0 0 ∧ env 9 = .ptr id 0 0 ∧ env 75 = tsl 3 (f.code.map GI.av) ∧ env 76 = avI f.code.length ∧ env 77 = avI i) (fun i => (f.code.length - i).toNat)
      (fun i env m K' ⟨⟨hi0, hi1, hall⟩, hid, g1, g9, e5, e9, e75, e76, e77⟩ hN hE => ?_) LOOPK 0 _ _ ⟨⟨by omega, by omega, fun j a b => by omega⟩, hid, g1, g9, e5, e9, e75, e76, e77⟩ (by rw [LOOPK_eq]; omega)
    have hI : ∀ (h1 : i < f.code.length) (m : AMem), callsN cfg (n + 3) 33 [(nth f.code i).av, .agg [TT all k, tsl 4 (p.funcs.map GF.av), avI (f.params.length + f.locals), avI f.code.length]] m =
        some (.ret (.bool (ir (TK all) (TP all) p.funcs.length (f.params.length + f.locals) f.code.length (nth f.code i).op (nth f.code i).a (nth f.code i).b)), m) := fun h1 m =>
      sp_iRight n all k p.funcs _ _ _ _ _ hp (wc _ (nth_mem _ _ hi0 h1)).1 m
    unfold lb18_1
    repeat' (first | simp -implicitDefEqProofs (disch := first | exact soD | fail) only [go_sem, ↓reduceIte, Nat.reduceEqDiff, Nat.reduceAdd, Nat.reduceLT, Nat.reduceLeDiff, Nat.reduceBEq, reduceCtorEq, g1, g9, e5, e9, e75, e76, e77, hI] | ((with_reducible first | refine g_dec ?_ ?_ | refine c_dec ?_ ?_ | refine s_dec ?_ ?_ | refine g_ndec ?_ ?_ | refine c_ndec ?_ ?_ | refine g_nbool ?_ ?_ | refine c_nbool ?_ ?_ | refine g_bool ?_ ?_ | refine c_bool ?_ ?_ | refine s_bool ?_ ?_) <;> intro h d <;> (try simp only [d]) <;> (try simp only [B1, B2, B3, B4, B5, B6, B7, B8] at h) <;> (try omega)))
    all_goals (with_reducible first | refine hN (i + 1) _ _ ?_ ?_ | refine (hE _ _).1 _ ?_ | refine (hE _ _).2.1 ?_)
    all_goals try omega
    all_goals try unfold ls18_0
    all_goals repeat' (first | simp -implicitDefEqProofs (disch := first | exact soD | fail) only [go_sem, ↓reduceIte, Nat.reduceEqDiff, Nat.reduceAdd, Nat.reduceLT, Nat.reduceLeDiff, Nat.reduceBEq, reduceCtorEq, g1, g9, e5, e9, e75, e76, e77, sp_Ends] | ((with_reducible first | refine g_dec ?_ ?_ | refine c_dec ?_ ?_ | refine s_dec ?_ ?_ | refine g_ndec ?_ ?_ | refine c_ndec ?_ ?_ | refine g_nbool ?_ ?_ | refine c_nbool ?_ ?_ | refine g_bool ?_ ?_ | refine c_bool ?_ ?_ | refine s_bool ?_ ?_) <;> intro h d <;> (try simp only [d]) <;> (try simp only [B1, B2, B3, B4, B5, B6, B7, B8] at h) <;> (try omega)))
    · have hA := all_nth_f (p := (fun (x : GI) => ir (TK all) (TP all) p.funcs.length (f.params.length + f.locals) f.code.length x.op x.a x.b)) hi0 (by assumption) (by assumption)
      rw [← hF, fokT, if_neg (by omega), hA, Bool.and_false, Bool.false_and]
    · first
        | exact ⟨by omega, by omega, all_step (p := (fun (x : GI) => ir (TK all) (TP all) p.funcs.length (f.params.length + f.locals) f.code.length x.op x.a x.b)) hall (by assumption)⟩
        | exact ⟨⟨by omega, by omega, all_step (p := (fun (x : GI) => ir (TK all) (TP all) p.funcs.length (f.params.length + f.locals) f.code.length x.op x.a x.b)) hall (by assumption)⟩, by omega⟩
    · have hA := all_nth (p := (fun (x : GI) => ir (TK all) (TP all) p.funcs.length (f.params.length + f.locals) f.code.length x.op x.a x.b)) fun j a b => hall j a (by omega)
      rw [← hF, fokT, if_neg (by omega), hA, q7, Bool.true_and, Bool.true_and]
  have key1 : ∀ (env : AEnv) (m : AMem), f.params.length ≤ 16 → 0 ≤ f.locals → f.params.length + f.locals ≤ 32 → 1 ≤ f.code.length → f.code.length ≤ 300 → 0 ≤ TK all f.result → 2 ≤ m.next →
      m.get 0 = some (.arr 25 2 [.agg [tsl 3 (p.types.map GT.av), tsl 4 (p.funcs.map GF.av)]]) → m.get 1 = some (.arr 48 4 [f.av]) →
      env 1 = TT all k → env 3 = .ptr 0 0 0 → env 5 = .ptr 1 0 0 → env 50 = tsl 1 (f.params.map avI) → env 51 = avI f.params.length → env 52 = avI 0 →
      Wp (loopN LOOPK (aCode (callsN cfg (n + 3)) lb18_0) env m (KBlk 0 (KSeq (callsN cfg (n + 3)) ls18_1 (fin [.slot 6])))) fun o m' => RetIs m' (.bool F) o := by
    intro env m q1 q2 q3 q4 q5 q6 hn g0 g1 e1 e3 e5 e50 e51 e52
    refine wp_loop (fun (i : Int) (env : AEnv) (m : AMem) => (0 ≤ i ∧ i ≤ f.params.length ∧ ∀ j, 0 ≤ j → j < i → (fun x => decide (0 ≤ TK all x)) (nth f.params j) = true) ∧ 2 ≤ m.next ∧
        m.get 0 = some (.arr 25 2 [.agg [tsl 3 (p.types.map GT.av), tsl 4 (p.funcs.map GF.av)]]) ∧ m.get 1 = some (.arr 48 4 [f.av]) ∧
        env 1 = TT all k ∧ env 3 = .ptr 0 0 0 ∧ env 5 = .ptr 1 0 0 ∧ env 50 = tsl 1 (f.params.map avI) ∧ env 51 = avI f.params.length ∧ env 52 = avI i) (fun i => (f.params.length - i).toNat)
      (fun i env m K' ⟨⟨hi0, hi1, hall⟩, hn, g0, g1, e1, e3, e5, e50, e51, e52⟩ hN hE => ?_) LOOPK 0 _ _ ⟨⟨by omega, by omega, fun j a b => by omega⟩, hn, g0, g1, e1, e3, e5, e50, e51, e52⟩ (by rw [LOOPK_eq]; omega)
    unfold lb18_0
    repeat' (first | simp -implicitDefEqProofs (disch := first | exact soD | fail) only [go_sem, ↓reduceIte, Nat.reduceEqDiff, Nat.reduceAdd, Nat.reduceLT, Nat.reduceLeDiff, Nat.reduceBEq, reduceCtorEq, g0, g1, e1, e3, e5, e50, e51, e52, sp_TKind] | ((with_reducible first | refine g_dec ?_ ?_ | refine c_dec ?_ ?_ | refine s_dec ?_ ?_ | refine g_ndec ?_ ?_ | refine c_ndec ?_ ?_ | refine g_nbool ?_ ?_ | refine c_nbool ?_ ?_ | refine g_bool ?_ ?_ | refine c_bool ?_ ?_ | refine s_bool ?_ ?_) <;> intro h d <;> (try simp only [d]) <;> (try simp only [B1, B2, B3, B4, B5, B6, B7, B8] at h) <;> (try omega)))
    all_goals (with_reducible first | refine hN (i + 1) _ _ ?_ ?_ | refine (hE _ _).1 _ ?_ | refine (hE _ _).2.1 ?_)
    all_goals try omega
    all_goals try unfold ls18_1
    all_goals repeat' (first | simp -implicitDefEqProofs (disch := first | exact soD | fail) only [go_sem, ↓reduceIte, Nat.reduceEqDiff, Nat.reduceAdd, Nat.reduceLT, Nat.reduceLeDiff, Nat.reduceBEq, reduceCtorEq, g0, g1, e1, e3, e5, e50, e51, e52] | ((with_reducible first | refine g_dec ?_ ?_ | refine c_dec ?_ ?_ | refine s_dec ?_ ?_ | refine g_ndec ?_ ?_ | refine c_ndec ?_ ?_ | refine g_nbool ?_ ?_ | refine c_nbool ?_ ?_ | refine g_bool ?_ ?_ | refine c_bool ?_ ?_ | refine s_bool ?_ ?_) <;> intro h d <;> (try simp only [d]) <;> (try simp only [B1, B2, B3, B4, B5, B6, B7, B8] at h) <;> (try omega)))
    · have hA := all_nth_f (p := (fun x => decide (0 ≤ TK all x))) (l := f.params) hi0 (by assumption) (decide_eq_false (by omega))
      rw [← hF, fokT, if_neg (by omega), hA, Bool.false_and, Bool.false_and]
    · first
        | exact ⟨by omega, by omega, all_step (p := (fun x => decide (0 ≤ TK all x))) hall (decide_eq_true (by omega))⟩
        | exact ⟨⟨by omega, by omega, all_step (p := (fun x => decide (0 ≤ TK all x))) hall (decide_eq_true (by omega))⟩, by omega⟩
    · have hA := all_nth (p := (fun x => decide (0 ≤ TK all x))) (l := f.params) fun j a b => hall j a (by omega)
      refine key2 _ _ (m.next + 1 + 13) q1 q2 q3 q4 q5 q6 hA ?_ ?_ ?_ ?_ ?_ ?_ ?_ ?_ ?_ ?_
      all_goals try omega
      all_goals try (simp -implicitDefEqProofs (disch := first | exact soD | fail) only [go_sem, ↓reduceIte, Nat.reduceEqDiff, Nat.reduceAdd, Nat.reduceLT, Nat.reduceLeDiff, Nat.reduceBEq, reduceCtorEq, g0, g1, e1, e3, e5, e50, e51, e52]; done)
  repeat' (first | simp -implicitDefEqProofs (disch := first | exact soD | fail) only [go_sem, ↓reduceIte, Nat.reduceEqDiff, Nat.reduceAdd, Nat.reduceLT, Nat.reduceLeDiff, Nat.reduceBEq, reduceCtorEq, sp_TKind] | ((with_reducible first | refine g_dec ?_ ?_ | refine c_dec ?_ ?_ | refine s_dec ?_ ?_ | refine g_ndec ?_ ?_ | refine c_ndec ?_ ?_ | refine g_nbool ?_ ?_ | refine c_nbool ?_ ?_ | refine g_bool ?_ ?_ | refine c_bool ?_ ?_ | refine s_bool ?_ ?_) <;> intro h d <;> (try simp only [d]) <;> (try simp only [B1, B2, B3, B4, B5, B6, B7, B8] at h) <;> (try omega)))
  all_goals try (refine key1 _ _ ?_ ?_ ?_ ?_ ?_ ?_ ?_ ?_ ?_ ?_ ?_ ?_ ?_ ?_ ?_)
  all_goals try omega
  all_goals try (simp -implicitDefEqProofs (disch := first | exact soD | fail) only [go_sem, ↓reduceIte, Nat.reduceEqDiff, Nat.reduceAdd, Nat.reduceLT, Nat.reduceLeDiff, Nat.reduceBEq, reduceCtorEq]; done)
  all_goals (rw [← hF, fokT, if_pos (by omega)])
end Go.Proofs.YtiijjopdhjpalaaDoor

/-! What the functions of chapter 10 answer: classes of types, first part. Conditions: none. -/
namespace Go.Proofs.YtiijjopdhjpalaaDoor
open Go
set_option linter.unusedSimpArgs false
set_option linter.unusedVariables false
/-- A slice of numbers, owned, among the objects below B. -/
def PI (m : AMem) (B : Nat) (pv : AV) (ps : List Int) : Prop :=
  (ps = [] ∧ (pv = .nils ∨ pv = .ts 0 [])) ∨ (ps ≠ [] ∧ ∃ id, id < B ∧ pv = .sl 1 id 0 ps.length ∧ m.get id = some (.arr 3 1 (ps.map avI)))
theorem PI.len {m : AMem} {B : Nat} {pv : AV} {ps : List Int} (h : PI m B pv ps) : lenK pv = some (avI ps.length) := by
  rcases h with ⟨rfl, rfl | rfl⟩ | ⟨_, id, _, rfl, _⟩ <;> rfl
theorem PI.one {m : AMem} {B : Nat} {pv : AV} {ps : List Int} (h : PI m B pv ps) : pv.one = true ∧ pv.isAgg = false ∧ pv.cells = [pv] := by
  rcases h with ⟨_, rfl | rfl⟩ | ⟨_, id, _, rfl, _⟩ <;> exact ⟨rfl, rfl, rfl⟩
theorem PI.frame {m m' : AMem} {B B' : Nat} {pv : AV} {ps : List Int} (h : PI m B pv ps) (hB : B ≤ B') (hf : ∀ id ps, id < B → m.get id = some (.arr 3 1 ps) → m'.get id = some (.arr 3 1 ps)) : PI m' B' pv ps := by
  rcases h with h | ⟨h, id, a, b, c⟩
  · exact .inl h
  · exact .inr ⟨h, id, by omega, b, hf id _ a c⟩
theorem PI.read {m : AMem} {B : Nat} {pv : AV} {ps : List Int} (h : PI m B pv ps) (n : Nat) : rb m (n + 2) pv = some (tsl 1 (ps.map avI)) := by
  rcases h with ⟨rfl, rfl | rfl⟩ | ⟨h, id, _, rfl, hg⟩
  · rfl
  · rfl
  · have hl : 0 < ps.length := by
      cases ps with
      | nil => exact absurd rfl h
      | cons => simp
    rw [yrb_sl m (n + 1) 1 id 0 ps.length hl, hg, rslK_s _ _ _ _ _ _ _ (by simp), tsl_ne h]
    have key : ∀ l : List Int, rbL (rb m (n + 1)) (l.map avI) = some (l.map avI) := by
      intro l
      induction l with
      | nil => rfl
      | cons x r ih => rw [List.map_cons, yrbL_cons, ih]; rfl
    rw [List.drop_zero, List.take_of_length_le (by simp), key]
    rfl
theorem PI.readN {m : AMem} {B : Nat} {pv : AV} {ps : List Int} (h : PI m B pv ps) (n : Nat) : rbN m (n + 2) pv = some (tsl 1 (ps.map avI)) := by
  rcases h with ⟨rfl, rfl | rfl⟩ | ⟨h, id, _, rfl, hg⟩
  · rfl
  · rfl
  · have hl : 0 < ps.length := by
      cases ps with
      | nil => exact absurd rfl h
      | cons => simp
    rw [ynb_sl m (n + 1) 1 id 0 ps.length hl, hg, nslK_s _ _ _ _ _ _ _ (by simp), tsl_ne h]
    have key : ∀ l : List Int, rbL (rbN m (n + 1)) (l.map avI) = some (l.map avI) := by
      intro l
      induction l with
      | nil => rfl
      | cons x r ih => rw [List.map_cons, yrbL_cons, ih]; rfl
    rw [List.drop_zero, List.take_of_length_le (by simp), key]
    rfl
/-- A type, its parts owned. -/
def EI (m : AMem) (B : Nat) (e : AV) (x : GT) : Prop := ∃ pv, e = .agg [avI x.kind, pv, avI x.of] ∧ PI m B pv x.parts
/-- A list of them. -/
structure LI (m : AMem) (B : Nat) (es : List AV) (l : List GT) : Prop where
  len : es.length = l.length
  el : ∀ (j : Int), 0 ≤ j → j < l.length → ∃ e, es[j.toNat]? = some e ∧ EI m B e (nth l j)
theorem LI.frame {m m' : AMem} {B B' : Nat} {es : List AV} {l : List GT} (h : LI m B es l) (hB : B ≤ B') (hf : ∀ id ps, id < B → m.get id = some (.arr 3 1 ps) → m'.get id = some (.arr 3 1 ps)) : LI m' B' es l :=
  ⟨h.len, fun j h0 h1 => by
    obtain ⟨e, he, pv, h2, h3⟩ := h.el j h0 h1
    exact ⟨e, he, pv, h2, h3.frame hB hf⟩⟩
/-- The closure of classes: is it of one kind and length with the i-th? -/
theorem sp_like (n : Nat) (m : AMem) (V1 V2 T A B : Nat) (t1 t2 t3 s3 : Nat) (lk : AV) (es : List AV) (all : List GT) (i : Int) (x : GT) (pv : AV)
    (hx : PI m B pv x.parts) (h0 : 0 ≤ i) (h1 : i < all.length) (hA : LI m B es all)
    (g1 : m.get V1 = some (.arr t1 1 [.ptr T 0 0])) (g2 : m.get V2 = some (.arr t2 1 [avI i])) (gT : m.get T = some (.arr t3 2 [.agg [.sl 3 A 0 all.length, lk]])) (gA : m.get A = some (.arr s3 3 es))
    (l1 : V1 < m.next) (l2 : V2 < m.next) (lT : T < m.next) (lA : A < m.next) (hlk : lk.isAgg = false) :
    ∃ m', callsN cfg (n + 1) 55 [.agg [avI x.kind, pv, avI x.of], .ptr V1 0 0, .ptr V2 0 0] m = some (.ret (.bool (decide (x.kind = (nth all i).kind ∧ x.parts.length = (nth all i).parts.length))), m') ∧ m.next ≤ m'.next ∧ ∀ id, id < m.next → m'.get id = m.get id := by
  rw [ce55]
  obtain ⟨e, he, pw, rfl, hw⟩ := hA.el i h0 h1
  obtain ⟨o1, o2, o3⟩ := hx.one
  obtain ⟨p1, p2, p3⟩ := hw.one
  have n1 := hx.len
  have n2 := hw.len
  have key : Wp (aBody (callsN cfg n) cf55 [.agg [avI x.kind, pv, avI x.of], .ptr V1 0 0, .ptr V2 0 0] m) fun o m' => o = .ret (.bool (decide (x.kind = (nth all i).kind ∧ x.parts.length = (nth all i).parts.length))) ∧ m.next ≤ m'.next ∧ ∀ id, id < m.next → m'.get id = m.get id := by
    unfold aBody cf55
    repeat' (first | simp -implicitDefEqProofs (disch := first | exact soD | fail) only [go_sem, ↓reduceIte, Nat.reduceEqDiff, Nat.reduceAdd, Nat.reduceLT, Nat.reduceLeDiff, Nat.reduceBEq, reduceCtorEq, g1, g2, gT, gA, he, o1, o2, o3, p1, p2, p3, n1, n2] | ((with_reducible first | refine g_dec ?_ ?_ | refine c_dec ?_ ?_ | refine s_dec ?_ ?_ | refine g_ndec ?_ ?_ | refine c_ndec ?_ ?_ | refine g_nbool ?_ ?_ | refine c_nbool ?_ ?_ | refine g_bool ?_ ?_ | refine c_bool ?_ ?_ | refine s_bool ?_ ?_) <;> intro h d <;> (try simp only [d]) <;> (try simp only [B1, B2, B3, B4, B5, B6, B7, B8] at h) <;> (try omega)))
    all_goals exact ⟨congrArg (fun b => AOut.ret (.bool b)) (by (first | rfl | (rw [Bool.eq_iff_iff]; simp only [B1, B2, B3, B4, B5, B6, B7, B8, Bool.false_eq_true, eq_self, true_iff, false_iff, iff_true, iff_false] <;> omega))), by omega, fun id hid => sxA⟩
  obtain ⟨o, m', h1, rfl, h2, h3⟩ := key
  exact ⟨m', h1, h2, h3⟩
theorem find_some_lt {α : Type} {l : List α} {p : α → Bool} {i : Nat} (h : l.findIdx? p = some i) : i < l.length := by
  rw [List.findIdx?_eq_some_iff_getElem] at h
  exact h.1
/-- slices.IndexFunc with that closure: the first of one kind and length. -/
theorem sp_IndexFunc (n : Nat) (m : AMem) (V1 V2 T A B : Nat) (t1 t2 t3 s3 : Nat) (lk : AV) (es : List AV) (all : List GT) (i : Int)
    (h0 : 0 ≤ i) (h1 : i < all.length) (hlen : all.length ≤ 1000) (hA : LI m B es all) (hB : B ≤ m.next)
    (g1 : m.get V1 = some (.arr t1 1 [.ptr T 0 0])) (g2 : m.get V2 = some (.arr t2 1 [avI i])) (gT : m.get T = some (.arr t3 2 [.agg [.sl 3 A 0 all.length, lk]])) (gA : m.get A = some (.arr s3 3 es))
    (l1 : V1 < m.next) (l2 : V2 < m.next) (lT : T < m.next) (lA : A < m.next) (hlk : lk.isAgg = false) :
    ∃ (m' : AMem) (r : Nat), all.findIdx? (fun x => decide (x.kind = (nth all i).kind ∧ x.parts.length = (nth all i).parts.length)) = some r ∧
      callsN cfg (n + 2) 54 [.sl 3 A 0 all.length, .fn (.func 55) [] [.ptr V1 0 0, .ptr V2 0 0]] m = some (.ret (avI r), m') ∧ m.next ≤ m'.next ∧ ∀ id, id < m.next → m'.get id = m.get id := by
  rw [ce54]
  have key : Wp (aBody (callsN cfg (n + 1)) cf54 [.sl 3 A 0 all.length, .fn (.func 55) [] [.ptr V1 0 0, .ptr V2 0 0]] m) fun o m' =>
      (∃ r : Nat, all.findIdx? (fun x => decide (x.kind = (nth all i).kind ∧ x.parts.length = (nth all i).parts.length)) = some r ∧ o = .ret (avI r)) ∧ m.next ≤ m'.next ∧ ∀ id, id < m.next → m'.get id = m.get id := by
    unfold aBody cf54
    repeat' (first | simp -implicitDefEqProofs (disch := first | exact soD | fail) only [go_sem, ↓reduceIte, Nat.reduceEqDiff, Nat.reduceAdd, Nat.reduceLT, Nat.reduceLeDiff, Nat.reduceBEq, reduceCtorEq] | ((with_reducible first | refine g_dec ?_ ?_ | refine c_dec ?_ ?_ | refine s_dec ?_ ?_ | refine g_ndec ?_ ?_ | refine c_ndec ?_ ?_ | refine g_nbool ?_ ?_ | refine c_nbool ?_ ?_ | refine g_bool ?_ ?_ | refine c_bool ?_ ?_ | refine s_bool ?_ ?_) <;> intro h d <;> (try simp only [d]) <;> (try simp only [B1, B2, B3, B4, B5, B6, B7, B8] at h) <;> (try omega)))
    refine wp_loop (fun (j : Int) (env : AEnv) (w : AMem) => (0 ≤ j ∧ j ≤ all.length ∧ ∀ q, 0 ≤ q → q < j → (!(fun (x : GT) => decide (x.kind = (nth all i).kind ∧ x.parts.length = (nth all i).parts.length)) (nth all q)) = true) ∧ m.next ≤ w.next ∧ (∀ id, id < m.next → w.get id = m.get id) ∧
        env 0 = .sl 3 A 0 all.length ∧ env 1 = .fn (.func 55) [] [.ptr V1 0 0, .ptr V2 0 0] ∧ env 7 = avI all.length ∧ env 8 = avI j) (fun j => (all.length - j).toNat)
      (fun j env w K' ⟨⟨hi0, hi1, hall⟩, hn, hm, e0, e1, e7, e8⟩ hN hE => ?_) LOOPK 0 _ _ ⟨⟨by omega, by omega, fun j a b => by omega⟩, by simp -implicitDefEqProofs (disch := first | exact soD | fail) only [go_sem, ↓reduceIte, Nat.reduceEqDiff, Nat.reduceAdd, Nat.reduceLT, Nat.reduceLeDiff, Nat.reduceBEq, reduceCtorEq]; omega, fun id hid => sxA, sxA, sxA, sxA, sxA⟩ (by rw [LOOPK_eq]; omega)
    unfold lb54_0
    by_cases hj : j < all.length
    · obtain ⟨e, he, pw, rfl, hw⟩ := hA.el j hi0 hj
      have gA' : w.get A = some (.arr s3 3 es) := (hm A lA).trans gA
      have gT' := (hm T lT).trans gT
      have g1' := (hm V1 l1).trans g1
      have g2' := (hm V2 l2).trans g2
      obtain ⟨p1, p2, p3⟩ := hw.one
      have fr : ∀ (q : AMem), (∀ id, id < m.next → q.get id = m.get id) → PI q B pw (nth all j).parts := fun q hq => hw.frame (Nat.le_refl _) fun id ps hid hg => (hq id (by omega)).trans hg
      have frA : ∀ (q : AMem), (∀ id, id < m.next → q.get id = m.get id) → LI q B es all := fun q hq => hA.frame (Nat.le_refl _) fun id ps hid hg => (hq id (by omega)).trans hg
      obtain ⟨q', c1, c2, c3⟩ := sp_like n (((w.room 1).room 2).room 6) V1 V2 T A B t1 t2 t3 s3 lk es all i (nth all j) pw (fr _ hm) h0 h1 (frA _ hm) g1' g2' gT' gA' (by simp only [room_next]; omega) (by simp only [room_next]; omega) (by simp only [room_next]; omega) (by simp only [room_next]; omega) hlk
      simp only [room_next, room_get] at c2 c3
      repeat' (first | simp -implicitDefEqProofs (disch := first | exact soD | fail) only [go_sem, ↓reduceIte, Nat.reduceEqDiff, Nat.reduceAdd, Nat.reduceLT, Nat.reduceLeDiff, Nat.reduceBEq, reduceCtorEq, e0, e1, e7, e8, gA', he, p1, p2, p3, c1] | ((with_reducible first | refine g_dec ?_ ?_ | refine c_dec ?_ ?_ | refine s_dec ?_ ?_ | refine g_ndec ?_ ?_ | refine c_ndec ?_ ?_ | refine g_nbool ?_ ?_ | refine c_nbool ?_ ?_ | refine g_bool ?_ ?_ | refine c_bool ?_ ?_ | refine s_bool ?_ ?_) <;> intro h d <;> (try simp only [d]) <;> (try simp only [B1, B2, B3, B4, B5, B6, B7, B8] at h) <;> (try omega)))
      all_goals (with_reducible first | refine hN (j + 1) _ _ ?_ ?_ | refine (hE _ _).1 _ ?_ | refine (hE _ _).2.1 ?_)
      all_goals try omega
      · repeat' (first | simp -implicitDefEqProofs (disch := first | exact soD | fail) only [go_sem, ↓reduceIte, Nat.reduceEqDiff, Nat.reduceAdd, Nat.reduceLT, Nat.reduceLeDiff, Nat.reduceBEq, reduceCtorEq, e0, e1, e7, e8] | ((with_reducible first | refine g_dec ?_ ?_ | refine c_dec ?_ ?_ | refine s_dec ?_ ?_ | refine g_ndec ?_ ?_ | refine c_ndec ?_ ?_ | refine g_nbool ?_ ?_ | refine c_nbool ?_ ?_ | refine g_bool ?_ ?_ | refine c_bool ?_ ?_ | refine s_bool ?_ ?_) <;> intro h d <;> (try simp only [d]) <;> (try simp only [B1, B2, B3, B4, B5, B6, B7, B8] at h) <;> (try omega)))
        have hf := first_some (p := fun (x : GT) => decide (x.kind = (nth all i).kind ∧ x.parts.length = (nth all i).parts.length)) hi0 hj hall (by assumption)
        exact ⟨⟨_, hf, congrArg (fun b => AOut.ret (.int .i64 b)) (by omega)⟩, by omega, fun id hid => (c3 id (by omega)).trans (hm id hid)⟩
      · refine ⟨⟨by omega, by omega, all_step (p := fun (x : GT) => !decide (x.kind = (nth all i).kind ∧ x.parts.length = (nth all i).parts.length)) hall (by simp only [Bool.not_eq_true', decide_eq_false_iff_not]; assumption)⟩, ?_⟩
        refine ⟨by simp -implicitDefEqProofs (disch := first | exact soD | fail) only [go_sem, ↓reduceIte, Nat.reduceEqDiff, Nat.reduceAdd, Nat.reduceLT, Nat.reduceLeDiff, Nat.reduceBEq, reduceCtorEq]; omega, fun id hid => ?_, by simp -implicitDefEqProofs (disch := first | exact soD | fail) only [go_sem, ↓reduceIte, Nat.reduceEqDiff, Nat.reduceAdd, Nat.reduceLT, Nat.reduceLeDiff, Nat.reduceBEq, reduceCtorEq, e0], by simp -implicitDefEqProofs (disch := first | exact soD | fail) only [go_sem, ↓reduceIte, Nat.reduceEqDiff, Nat.reduceAdd, Nat.reduceLT, Nat.reduceLeDiff, Nat.reduceBEq, reduceCtorEq, e1], by simp -implicitDefEqProofs (disch := first | exact soD | fail) only [go_sem, ↓reduceIte, Nat.reduceEqDiff, Nat.reduceAdd, Nat.reduceLT, Nat.reduceLeDiff, Nat.reduceBEq, reduceCtorEq, e7], by simp -implicitDefEqProofs (disch := first | exact soD | fail) only [go_sem, ↓reduceIte, Nat.reduceEqDiff, Nat.reduceAdd, Nat.reduceLT, Nat.reduceLeDiff, Nat.reduceBEq, reduceCtorEq, e8]⟩
        simp only [room_get]
        exact (c3 id (by omega)).trans (hm id hid)
    · exfalso
      have hall' := hall i h0 (by omega)
      simp at hall'
  obtain ⟨o, m', h1, ⟨r, hr, rfl⟩, h2, h3⟩ := key
  exact ⟨m', r, hr, h1, h2, h3⟩
end Go.Proofs.YtiijjopdhjpalaaDoor

/-! What the functions of chapter 10 answer: classes of types, second part. Conditions: none. -/
namespace Go.Proofs.YtiijjopdhjpalaaDoor
open Go
set_option linter.unusedSimpArgs false
set_option linter.unusedVariables false
/-- Does what stands in two types go together? -/
def goesB (all : List GT) (like : List Int) (a b : Int) : Bool :=
  allI (nth all a).parts.length (fun i => decide (nth like (nth (nth all a).parts i) = nth like (nth (nth all b).parts i))) && decide (nth like (nth all a).of = nth like (nth all b).of)
/-- All places in a list of types are there. -/
def Inside (all : List GT) : Prop := ∀ x ∈ all, (∀ p ∈ x.parts, 0 ≤ p ∧ p < all.length) ∧ 0 ≤ x.of ∧ x.of < all.length
theorem Inside.part {all : List GT} (h : Inside all) {a i : Int} (h0 : 0 ≤ a) (h1 : a < all.length) (h2 : 0 ≤ i) (h3 : i < (nth all a).parts.length) : 0 ≤ nth (nth all a).parts i ∧ nth (nth all a).parts i < all.length :=
  (h _ (nth_mem _ _ h0 h1)).1 _ (nth_mem _ _ h2 h3)
theorem Inside.of {all : List GT} (h : Inside all) {a : Int} (h0 : 0 ≤ a) (h1 : a < all.length) : 0 ≤ (nth all a).of ∧ (nth all a).of < all.length := (h _ (nth_mem _ _ h0 h1)).2
theorem sp_goes (n : Nat) (all : List GT) (like : List Int) (a b : Int) (a0 : 0 ≤ a) (a1 : a < all.length) (b0 : 0 ≤ b) (b1 : b < all.length) (hin : Inside all) (hl : like.length = all.length) (hp : (nth all a).parts.length = (nth all b).parts.length) (hm : (nth all a).parts.length ≤ 1000) (m : AMem) :
    callsN cfg (n + 1) 56 [TT all like, avI a, avI b] m = some (.ret (.bool (goesB all like a b)), m) := by
  rw [ce56]
  refine borrow_wp (targs := [TT all like, avI a, avI b]) (by simp only [go_sem]) ?_ rfl
  unfold aBody cf56
  repeat' (first | simp -implicitDefEqProofs (disch := first | exact soD | fail) only [go_sem, ↓reduceIte, Nat.reduceEqDiff, Nat.reduceAdd, Nat.reduceLT, Nat.reduceLeDiff, Nat.reduceBEq, reduceCtorEq] | ((with_reducible first | refine g_dec ?_ ?_ | refine c_dec ?_ ?_ | refine s_dec ?_ ?_ | refine g_ndec ?_ ?_ | refine c_ndec ?_ ?_ | refine g_nbool ?_ ?_ | refine c_nbool ?_ ?_ | refine g_bool ?_ ?_ | refine c_bool ?_ ?_ | refine s_bool ?_ ?_) <;> intro h d <;> (try simp only [d]) <;> (try simp only [B1, B2, B3, B4, B5, B6, B7, B8] at h) <;> (try omega)))
  refine wp_loop (fun (i : Int) (env : AEnv) (m : AMem) => (0 ≤ i ∧ i ≤ (nth all a).parts.length ∧ ∀ j, 0 ≤ j → j < i → (fun i => decide (nth like (nth (nth all a).parts i) = nth like (nth (nth all b).parts i))) j = true) ∧ env 0 = TT all like ∧ env 1 = avI a ∧ env 2 = avI b ∧ env 16 = tsl 1 ((nth all a).parts.map avI) ∧ env 17 = avI (nth all a).parts.length ∧ env 18 = avI i) (fun i => ((nth all a).parts.length - i).toNat)
      (fun i env m K' ⟨⟨hi0, hi1, hall⟩, e0, e1, e2, e16, e17, e18⟩ hN hE => ?_) LOOPK 0 _ _ ⟨⟨by omega, by omega, fun j a b => by omega⟩, sxA, sxA, sxA, sxA, sxA, sxA⟩ (by rw [LOOPK_eq]; omega)
  unfold lb56_0
  have ra := fun (h : i < (nth all a).parts.length) => hin.part a0 a1 hi0 h
  have rb := fun (h : i < (nth all b).parts.length) => hin.part b0 b1 hi0 h
  have oa := hin.of a0 a1
  have ob := hin.of b0 b1
  by_cases hi : i < (nth all a).parts.length
  · have ra := ra hi
    have rb := rb (by omega)
    repeat' (first | simp -implicitDefEqProofs (disch := first | exact soD | fail) only [go_sem, ↓reduceIte, Nat.reduceEqDiff, Nat.reduceAdd, Nat.reduceLT, Nat.reduceLeDiff, Nat.reduceBEq, reduceCtorEq, e0, e1, e2, e16, e17, e18] | ((with_reducible first | refine g_dec ?_ ?_ | refine c_dec ?_ ?_ | refine s_dec ?_ ?_ | refine g_ndec ?_ ?_ | refine c_ndec ?_ ?_ | refine g_nbool ?_ ?_ | refine c_nbool ?_ ?_ | refine g_bool ?_ ?_ | refine c_bool ?_ ?_ | refine s_bool ?_ ?_) <;> intro h d <;> (try simp only [d]) <;> (try simp only [B1, B2, B3, B4, B5, B6, B7, B8] at h) <;> (try omega)))
    all_goals (with_reducible first | refine hN (i + 1) _ _ ?_ ?_ | refine (hE _ _).1 _ ?_ | refine (hE _ _).2.1 ?_)
    all_goals try omega
    · repeat' (first | simp -implicitDefEqProofs (disch := first | exact soD | fail) only [go_sem, ↓reduceIte, Nat.reduceEqDiff, Nat.reduceAdd, Nat.reduceLT, Nat.reduceLeDiff, Nat.reduceBEq, reduceCtorEq, e0, e1, e2, e16, e17, e18] | ((with_reducible first | refine g_dec ?_ ?_ | refine c_dec ?_ ?_ | refine s_dec ?_ ?_ | refine g_ndec ?_ ?_ | refine c_ndec ?_ ?_ | refine g_nbool ?_ ?_ | refine c_nbool ?_ ?_ | refine g_bool ?_ ?_ | refine c_bool ?_ ?_ | refine s_bool ?_ ?_) <;> intro h d <;> (try simp only [d]) <;> (try simp only [B1, B2, B3, B4, B5, B6, B7, B8] at h) <;> (try omega)))
      have hA := allI_f (n := (nth all a).parts.length) (p := fun i => decide (nth like (nth (nth all a).parts i) = nth like (nth (nth all b).parts i))) hi0 hi (decide_eq_false (by assumption))
      rw [goesB, hA, Bool.false_and]
    · refine ⟨⟨by omega, by omega, allI_step (p := fun i => decide (nth like (nth (nth all a).parts i) = nth like (nth (nth all b).parts i))) hall (decide_eq_true (by assumption))⟩, ?_⟩
      simp -implicitDefEqProofs (disch := first | exact soD | fail) only [go_sem, ↓reduceIte, Nat.reduceEqDiff, Nat.reduceAdd, Nat.reduceLT, Nat.reduceLeDiff, Nat.reduceBEq, reduceCtorEq, e0, e1, e2, e16, e17, e18]
  · repeat' (first | simp -implicitDefEqProofs (disch := first | exact soD | fail) only [go_sem, ↓reduceIte, Nat.reduceEqDiff, Nat.reduceAdd, Nat.reduceLT, Nat.reduceLeDiff, Nat.reduceBEq, reduceCtorEq, e0, e1, e2, e16, e17, e18] | ((with_reducible first | refine g_dec ?_ ?_ | refine c_dec ?_ ?_ | refine s_dec ?_ ?_ | refine g_ndec ?_ ?_ | refine c_ndec ?_ ?_ | refine g_nbool ?_ ?_ | refine c_nbool ?_ ?_ | refine g_bool ?_ ?_ | refine c_bool ?_ ?_ | refine s_bool ?_ ?_) <;> intro h d <;> (try simp only [d]) <;> (try simp only [B1, B2, B3, B4, B5, B6, B7, B8] at h) <;> (try omega)))
    all_goals (with_reducible first | refine hN (i + 1) _ _ ?_ ?_ | refine (hE _ _).1 _ ?_ | refine (hE _ _).2.1 ?_)
    all_goals try omega
    all_goals try unfold ls56_0
    repeat' (first | simp -implicitDefEqProofs (disch := first | exact soD | fail) only [go_sem, ↓reduceIte, Nat.reduceEqDiff, Nat.reduceAdd, Nat.reduceLT, Nat.reduceLeDiff, Nat.reduceBEq, reduceCtorEq, e0, e1, e2, e16, e17, e18] | ((with_reducible first | refine g_dec ?_ ?_ | refine c_dec ?_ ?_ | refine s_dec ?_ ?_ | refine g_ndec ?_ ?_ | refine c_ndec ?_ ?_ | refine g_nbool ?_ ?_ | refine c_nbool ?_ ?_ | refine g_bool ?_ ?_ | refine c_bool ?_ ?_ | refine s_bool ?_ ?_) <;> intro h d <;> (try simp only [d]) <;> (try simp only [B1, B2, B3, B4, B5, B6, B7, B8] at h) <;> (try omega)))
    have hA := allI_t (n := (nth all a).parts.length) (p := fun i => decide (nth like (nth (nth all a).parts i) = nth like (nth (nth all b).parts i))) fun j a b => hall j a (by omega)
    rw [goesB, hA, Bool.true_and]
theorem list_eq {x y : List Int} (hl : x.length = y.length) (h : ∀ j : Int, 0 ≤ j → j < x.length → nth x j = nth y j) : x = y := by
  apply List.ext_getElem hl
  intro i h1 h2
  have := h i (by omega) (by omega)
  rw [nth_nat, nth_nat, List.getD_eq_getElem?_getD, List.getD_eq_getElem?_getD, List.getElem?_eq_getElem h1, List.getElem?_eq_getElem h2] at this
  exact this
theorem sp_Equal (n : Nat) (x y : List Int) (hx : x.length ≤ 1000) (m : AMem) : callsN cfg (n + 1) 57 [tsl 1 (x.map avI), tsl 1 (y.map avI)] m = some (.ret (.bool (decide (x = y))), m) := by
  rw [ce57]
  refine borrow_wp (targs := [tsl 1 (x.map avI), tsl 1 (y.map avI)]) (by simp only [go_sem]) ?_ rfl
  unfold aBody cf57
  by_cases hl : x.length = y.length
  · repeat' (first | simp -implicitDefEqProofs (disch := first | exact soD | fail) only [go_sem, ↓reduceIte, Nat.reduceEqDiff, Nat.reduceAdd, Nat.reduceLT, Nat.reduceLeDiff, Nat.reduceBEq, reduceCtorEq] | ((with_reducible first | refine g_dec ?_ ?_ | refine c_dec ?_ ?_ | refine s_dec ?_ ?_ | refine g_ndec ?_ ?_ | refine c_ndec ?_ ?_ | refine g_nbool ?_ ?_ | refine c_nbool ?_ ?_ | refine g_bool ?_ ?_ | refine c_bool ?_ ?_ | refine s_bool ?_ ?_) <;> intro h d <;> (try simp only [d]) <;> (try simp only [B1, B2, B3, B4, B5, B6, B7, B8] at h) <;> (try omega)))
    refine wp_loop (fun (i : Int) (env : AEnv) (m : AMem) => (0 ≤ i ∧ i ≤ x.length ∧ ∀ j, 0 ≤ j → j < i → (fun j => decide (nth x j = nth y j)) j = true) ∧ env 0 = tsl 1 (x.map avI) ∧ env 1 = tsl 1 (y.map avI) ∧ env 12 = avI x.length ∧ env 13 = avI i) (fun i => (x.length - i).toNat)
      (fun i env m K' ⟨⟨hi0, hi1, hall⟩, e0, e1, e12, e13⟩ hN hE => ?_) LOOPK 0 _ _ ⟨⟨by omega, by omega, fun j a b => by omega⟩, sxA, sxA, sxA, sxA⟩ (by rw [LOOPK_eq]; omega)
    unfold lb57_0
    repeat' (first | simp -implicitDefEqProofs (disch := first | exact soD | fail) only [go_sem, ↓reduceIte, Nat.reduceEqDiff, Nat.reduceAdd, Nat.reduceLT, Nat.reduceLeDiff, Nat.reduceBEq, reduceCtorEq, e0, e1, e12, e13] | ((with_reducible first | refine g_dec ?_ ?_ | refine c_dec ?_ ?_ | refine s_dec ?_ ?_ | refine g_ndec ?_ ?_ | refine c_ndec ?_ ?_ | refine g_nbool ?_ ?_ | refine c_nbool ?_ ?_ | refine g_bool ?_ ?_ | refine c_bool ?_ ?_ | refine s_bool ?_ ?_) <;> intro h d <;> (try simp only [d]) <;> (try simp only [B1, B2, B3, B4, B5, B6, B7, B8] at h) <;> (try omega)))
    all_goals (with_reducible first | refine hN (i + 1) _ _ ?_ ?_ | refine (hE _ _).1 _ ?_ | refine (hE _ _).2.1 ?_)
    all_goals try omega
    all_goals try unfold ls57_0
    all_goals repeat' (first | simp -implicitDefEqProofs (disch := first | exact soD | fail) only [go_sem, ↓reduceIte, Nat.reduceEqDiff, Nat.reduceAdd, Nat.reduceLT, Nat.reduceLeDiff, Nat.reduceBEq, reduceCtorEq, e0, e1, e12, e13] | ((with_reducible first | refine g_dec ?_ ?_ | refine c_dec ?_ ?_ | refine s_dec ?_ ?_ | refine g_ndec ?_ ?_ | refine c_ndec ?_ ?_ | refine g_nbool ?_ ?_ | refine c_nbool ?_ ?_ | refine g_bool ?_ ?_ | refine c_bool ?_ ?_ | refine s_bool ?_ ?_) <;> intro h d <;> (try simp only [d]) <;> (try simp only [B1, B2, B3, B4, B5, B6, B7, B8] at h) <;> (try omega)))
    · refine (decide_eq_false ?_).symm
      rintro rfl
      exact absurd rfl (by assumption)
    · exact ⟨by omega, by omega, allI_step (p := fun j => decide (nth x j = nth y j)) hall (decide_eq_true (by assumption))⟩
    · exact (decide_eq_true (list_eq hl fun j a b => of_decide_eq_true (hall j a (by omega)))).symm
  · repeat' (first | simp -implicitDefEqProofs (disch := first | exact soD | fail) only [go_sem, ↓reduceIte, Nat.reduceEqDiff, Nat.reduceAdd, Nat.reduceLT, Nat.reduceLeDiff, Nat.reduceBEq, reduceCtorEq] | ((with_reducible first | refine g_dec ?_ ?_ | refine c_dec ?_ ?_ | refine s_dec ?_ ?_ | refine g_ndec ?_ ?_ | refine c_ndec ?_ ?_ | refine g_nbool ?_ ?_ | refine c_nbool ?_ ?_ | refine g_bool ?_ ?_ | refine c_bool ?_ ?_ | refine s_bool ?_ ?_) <;> intro h d <;> (try simp only [d]) <;> (try simp only [B1, B2, B3, B4, B5, B6, B7, B8] at h) <;> (try omega)))
    refine (decide_eq_false ?_).symm
    rintro rfl
    exact hl rfl
end Go.Proofs.YtiijjopdhjpalaaDoor

/-! Parting classes until nothing parts: plain lists of numbers. Conditions: none. -/
namespace Go.Proofs.YtiijjopdhjpalaaDoor
open Go
set_option linter.unusedSimpArgs false
set_option linter.unusedVariables false
theorem nth_app1 {α : Type} [Inhabited α] {l r : List α} {i : Int} (h0 : 0 ≤ i) (h : i < l.length) : nth (l ++ r) i = nth l i := by
  unfold nth
  rw [List.getD_eq_getElem?_getD, List.getD_eq_getElem?_getD, List.getElem?_append_left (by omega)]
theorem nth_app2 {α : Type} [Inhabited α] {l r : List α} {i : Int} (h : (l.length : Int) ≤ i) : nth (l ++ r) i = nth r (i - l.length) := by
  unfold nth
  rw [List.getD_eq_getElem?_getD, List.getD_eq_getElem?_getD, List.getElem?_append_right (by omega)]
  congr 2
  omega
theorem nth_one {α : Type} [Inhabited α] {x : α} : nth [x] 0 = x := rfl
theorem nth_map {α β : Type} [Inhabited α] [Inhabited β] {l : List α} {f : α → β} {i : Int} (h0 : 0 ≤ i) (h : i < l.length) : nth (l.map f) i = f (nth l i) := by
  have h1 := nth_get? l i h0 h
  have h2 := nth_get? (l.map f) i h0 (by simpa using h)
  rw [List.getElem?_map, h1] at h2
  exact (Option.some.inj h2).symm
theorem nth_range {n : Nat} {i : Int} (h0 : 0 ≤ i) (h : i < n) : nth (List.range n) i = i.toNat := by
  have h2 := nth_get? (List.range n) i h0 (by simpa using h)
  rw [List.getElem?_range (by omega)] at h2
  exact (Option.some.inj h2).symm
/-- Of one kind and length. -/
def alikeB (all : List GT) (i : Int) (x : GT) : Bool := decide (x.kind = (nth all i).kind ∧ x.parts.length = (nth all i).parts.length)
def initL (all : List GT) : List Int := (List.range all.length).map fun (i : Nat) => (((all.findIdx? (alikeB all (i : Int))).getD 0 : Nat) : Int)
/-- The first one below i that goes with it. -/
def firstK (all : List GT) (like : List Int) (i : Nat) : Option Nat := (List.range i).findIdx? fun (k : Nat) => decide (nth like (k : Int) = nth like (i : Int)) && goesB all like (i : Int) (k : Int)
def stepTo (all : List GT) (like : List Int) : Nat → List Int
  | 0 => []
  | i + 1 => stepTo all like i ++ [match firstK all like i with
    | some k => nth (stepTo all like i) k
    | none => i]
def stepL (all : List GT) (like : List Int) : List Int := stepTo all like all.length
theorem stepTo_succ (all : List GT) (like : List Int) (i : Nat) : stepTo all like (i + 1) = stepTo all like i ++ [match firstK all like i with
    | some k => nth (stepTo all like i) k
    | none => (i : Int)] := rfl
theorem stepTo_length (all : List GT) (like : List Int) : ∀ i, (stepTo all like i).length = i
  | 0 => rfl
  | i + 1 => by simp [stepTo_succ, stepTo_length all like i]
theorem stepTo_nth (all : List GT) (like : List Int) : ∀ (n : Nat) (i : Int), 0 ≤ i → i < n → nth (stepTo all like n) i = (match firstK all like i.toNat with
    | some k => nth (stepTo all like i.toNat) k
    | none => i)
  | 0, i, h0, h => by omega
  | n + 1, i, h0, h => by
    have hl := stepTo_length all like n
    rw [stepTo_succ]
    by_cases e : i < n
    · rw [nth_app1 h0 (by rw [hl]; exact e)]
      exact stepTo_nth all like n i h0 e
    · have e : i = n := by omega
      subst e
      rw [nth_app2 (by rw [hl]; exact Int.le_refl _), hl, Int.sub_self, Int.toNat_natCast]
      rfl
theorem firstK_some {all : List GT} {like : List Int} {i k : Nat} (h : firstK all like i = some k) : k < i ∧ nth like k = nth like i ∧ goesB all like i k = true := by
  unfold firstK at h
  rw [List.findIdx?_eq_some_iff_getElem] at h
  obtain ⟨h1, h2, _⟩ := h
  simp only [List.length_range] at h1
  simp only [List.getElem_range, Bool.and_eq_true, decide_eq_true_eq] at h2
  exact ⟨h1, h2.1, h2.2⟩
/-- Each place names the least one of its class; what is of one class is of one kind and length. -/
structure Can (all : List GT) (like : List Int) : Prop where
  len : like.length = all.length
  le : ∀ i : Int, 0 ≤ i → i < all.length → 0 ≤ nth like i ∧ nth like i ≤ i
  idem : ∀ i : Int, 0 ≤ i → i < all.length → nth like (nth like i) = nth like i
  kind : ∀ i j : Int, 0 ≤ i → i < all.length → 0 ≤ j → j < all.length → nth like i = nth like j → (nth all i).kind = (nth all j).kind ∧ (nth all i).parts.length = (nth all j).parts.length
/-- What the places built so far are. -/
theorem stepTo_ok {all : List GT} {like : List Int} (hc : Can all like) : ∀ (n : Nat), n ≤ all.length → ∀ i : Int, 0 ≤ i → i < n →
    0 ≤ nth (stepTo all like n) i ∧ nth (stepTo all like n) i ≤ i ∧ nth like (nth (stepTo all like n) i) = nth like i ∧ nth (stepTo all like n) (nth (stepTo all like n) i) = nth (stepTo all like n) i
  | 0, _, i, h0, h => by omega
  | n + 1, hn, i, h0, h => by
    have hl := stepTo_length all like n
    have old : ∀ j : Int, 0 ≤ j → j < n → nth (stepTo all like (n + 1)) j = nth (stepTo all like n) j := fun j a b => by
      show nth (stepTo all like n ++ _) j = _
      exact nth_app1 a (by rw [hl]; exact b)
    by_cases e : i < n
    · obtain ⟨a, b, c, d⟩ := stepTo_ok hc n (by omega) i h0 e
      rw [old i h0 e]
      refine ⟨a, b, c, ?_⟩
      rw [old _ a (by omega)]
      exact d
    · have e : i = n := by omega
      subst e
      have hv := stepTo_nth all like (n + 1) n (by omega) (by omega)
      rw [Int.toNat_natCast] at hv
      cases hf : firstK all like n with
      | none =>
        rw [hf] at hv
        have hv : nth (stepTo all like (n + 1)) (n : Int) = n := hv
        rw [hv]
        exact ⟨by omega, Int.le_refl _, rfl, hv⟩
      | some k =>
        rw [hf] at hv
        have hv : nth (stepTo all like (n + 1)) (n : Int) = nth (stepTo all like n) k := hv
        obtain ⟨k1, k2, _⟩ := firstK_some hf
        obtain ⟨a, b, c, d⟩ := stepTo_ok hc n (by omega) k (by omega) (by omega)
        rw [hv]
        refine ⟨a, by omega, c.trans k2, ?_⟩
        rw [old _ a (by omega)]
        exact d
theorem stepL_can {all : List GT} {like : List Int} (hc : Can all like) : Can all (stepL all like) where
  len := stepTo_length _ _ _
  le := fun i h0 h1 => by
    obtain ⟨a, b, _, _⟩ := stepTo_ok hc all.length (Nat.le_refl _) i h0 h1
    exact ⟨a, b⟩
  idem := fun i h0 h1 => (stepTo_ok hc all.length (Nat.le_refl _) i h0 h1).2.2.2
  kind := fun i j a b c d h => by
    obtain ⟨_, _, e1, _⟩ := stepTo_ok hc all.length (Nat.le_refl _) i a b
    obtain ⟨_, _, e2, _⟩ := stepTo_ok hc all.length (Nat.le_refl _) j c d
    have h : nth (stepTo all like all.length) i = nth (stepTo all like all.length) j := h
    rw [h] at e1
    exact hc.kind i j a b c d (e1.symm.trans e2)
/-- A place that names itself goes on naming itself. -/
theorem step_fix {all : List GT} {like : List Int} (hc : Can all like) {i : Int} (h0 : 0 ≤ i) (h1 : i < all.length) (h : nth like i = i) : nth (stepL all like) i = i := by
  have hv := stepTo_nth all like all.length i h0 h1
  cases hf : firstK all like i.toNat with
  | none => rw [hf] at hv; exact hv
  | some k =>
    obtain ⟨k1, k2, _⟩ := firstK_some hf
    have e : ((i.toNat : Nat) : Int) = i := by omega
    rw [e, h] at k2
    have := (hc.le k (by omega) (by omega)).2
    omega
/-- Where no further place names itself, nothing has turned. -/
theorem step_same {all : List GT} {like : List Int} (hc : Can all like) (h : ∀ i : Int, 0 ≤ i → i < all.length → nth (stepL all like) i = i → nth like i = i) : stepL all like = like := by
  refine list_eq (by rw [(stepL_can hc).len, hc.len]) fun j h0 h1 => ?_
  rw [(stepL_can hc).len] at h1
  obtain ⟨a, b, c, d⟩ := stepTo_ok hc all.length (Nat.le_refl _) j h0 h1
  have := h (nth (stepL all like) j) a (by show nth (stepTo all like all.length) j < _; omega) d
  have c : nth like (nth (stepL all like) j) = nth like j := c
  rw [this] at c
  exact c
theorem countP_lt {α : Type} {p q : α → Bool} : ∀ {l : List α}, (∀ x ∈ l, p x = true → q x = true) → (∃ x ∈ l, q x = true ∧ p x = false) → l.countP p < l.countP q
  | [], _, h => by
    obtain ⟨x, hx, _⟩ := h
    simp at hx
  | a :: l, h, hx => by
    have hm : l.countP p ≤ l.countP q := List.countP_mono_left fun x hx hp => h x (List.mem_cons_of_mem _ hx) hp
    rw [List.countP_cons, List.countP_cons]
    obtain ⟨x, hx, h1, h2⟩ := hx
    rcases List.mem_cons.1 hx with rfl | hx
    · rw [h1, h2]
      simp
      omega
    · have ih := countP_lt (fun x hx => h x (List.mem_cons_of_mem _ hx)) ⟨x, hx, h1, h2⟩
      have ha := h a (List.mem_cons_self ..)
      cases hp : p a with
      | false => simp; split <;> omega
      | true => rw [ha hp]; simp; omega
/-- How many places name themselves. -/
def fixC (like : List Int) (n : Nat) : Nat := (List.range n).countP fun (i : Nat) => decide (nth like (i : Int) = (i : Int))
theorem fixC_le (like : List Int) (n : Nat) : fixC like n ≤ n := by
  have := List.countP_le_length (p := fun (i : Nat) => decide (nth like (i : Int) = (i : Int))) (l := List.range n)
  simpa [fixC] using this
theorem step_more {all : List GT} {like : List Int} (hc : Can all like) (h : stepL all like ≠ like) : fixC like all.length < fixC (stepL all like) all.length := by
  apply countP_lt
  · intro i hi hp
    have hi := List.mem_range.1 hi
    exact decide_eq_true (step_fix hc (by omega) (by omega) (of_decide_eq_true hp))
  · by_cases hx : ∃ i : Int, 0 ≤ i ∧ i < all.length ∧ nth (stepL all like) i = i ∧ nth like i ≠ i
    · obtain ⟨i, a, b, c, d⟩ := hx
      have e : ((i.toNat : Nat) : Int) = i := by omega
      exact ⟨i.toNat, List.mem_range.2 (by omega), decide_eq_true (by rw [e]; exact c), decide_eq_false (by rw [e]; exact d)⟩
    · exfalso
      apply h
      refine step_same hc fun i a b c => ?_
      by_cases d : nth like i = i
      · exact d
      · exact absurd ⟨i, a, b, c, d⟩ hx
theorem init_nth {all : List GT} {i : Int} (h0 : 0 ≤ i) (h1 : i < all.length) : ∃ r : Nat, all.findIdx? (alikeB all i) = some r ∧ nth (initL all) i = r ∧ (r : Int) ≤ i ∧ alikeB all i (nth all r) = true := by
  have hs : alikeB all i (nth all i) = true := by simp [alikeB]
  have hv : nth (initL all) i = (((all.findIdx? (alikeB all i)).getD 0 : Nat) : Int) := by
    unfold initL
    rw [nth_map h0 (by simpa using h1), nth_range h0 h1]
    rw [show ((i.toNat : Nat) : Int) = i by omega]
  cases hf : all.findIdx? (alikeB all i) with
  | none =>
    rw [List.findIdx?_eq_none_iff] at hf
    have := hf _ (nth_mem all i h0 h1)
    rw [hs] at this
    cases this
  | some r =>
    rw [hf] at hv
    rw [List.findIdx?_eq_some_iff_getElem] at hf
    obtain ⟨a, b, c⟩ := hf
    refine ⟨r, rfl, hv, ?_, ?_⟩
    · rcases Nat.lt_or_ge i.toNat r with hlt | hge
      · have := c i.toNat hlt
        have hg := nth_get? all i h0 h1
        rw [List.getElem?_eq_getElem (by omega)] at hg
        rw [Option.some.inj hg, hs] at this
        simp at this
      · omega
    · have hg := nth_get? all (r : Int) (by omega) (by omega)
      rw [Int.toNat_natCast, List.getElem?_eq_getElem a] at hg
      rw [← Option.some.inj hg]
      exact b
theorem alike_eq {all : List GT} {i : Int} {x : GT} (h : alikeB all i x = true) : x.kind = (nth all i).kind ∧ x.parts.length = (nth all i).parts.length := of_decide_eq_true h
theorem alike_same {all : List GT} {i j : Int} (h : (nth all i).kind = (nth all j).kind ∧ (nth all i).parts.length = (nth all j).parts.length) : alikeB all i = alikeB all j := by
  funext x
  simp only [alikeB, h.1, h.2]
theorem init_can (all : List GT) : Can all (initL all) where
  len := by simp [initL]
  le := fun i h0 h1 => by
    obtain ⟨r, _, h2, h3, _⟩ := init_nth h0 h1
    rw [h2]
    omega
  idem := fun i h0 h1 => by
    obtain ⟨r, h2, h3, h4, h5⟩ := init_nth h0 h1
    rw [h3]
    obtain ⟨q, q2, q3, _, _⟩ := init_nth (all := all) (i := (r : Int)) (by omega) (by omega)
    rw [q3]
    have e : alikeB all r = alikeB all i := alike_same (alike_eq h5)
    rw [e, h2] at q2
    rw [Option.some.inj q2]
  kind := fun i j a b c d h => by
    obtain ⟨r, _, h3, _, h5⟩ := init_nth a b
    obtain ⟨q, _, q3, _, q5⟩ := init_nth c d
    rw [h3, q3] at h
    have h : r = q := by omega
    subst h
    have e1 := alike_eq h5
    have e2 := alike_eq q5
    exact ⟨e1.1.symm.trans e2.1, e1.2.symm.trans e2.2⟩
end Go.Proofs.YtiijjopdhjpalaaDoor
