/- What the functions of chapter 10 answer: an instruction's operands as bytes. Conditions: none. -/
import Derived.Test.YtiijjopdhjpalaaDoorMi
/-! What the functions of chapter 10 answer: numbers as bytes. Conditions: none. -/
namespace Go.Proofs.YtiijjopdhjpalaaDoor
open Go
set_option linter.unusedSimpArgs false
set_option linter.unusedVariables false
@[reducible] def avB (z : Int) : AV := .int .u8 z
/-- A number in its bytes. -/
def lebL (n : Nat) : List Int := if h : n < 128 then [(n : Int)] else ((n % 128 + 128 : Nat) : Int) :: lebL (n / 128)
termination_by n
decreasing_by omega
theorem lebL_lt {n : Nat} (h : n < 128) : lebL n = [(n : Int)] := by rw [lebL, dif_pos h]
theorem lebL_ge {n : Nat} (h : ¬ n < 128) : lebL n = ((n % 128 + 128 : Nat) : Int) :: lebL (n / 128) := by rw [lebL, dif_neg h]
theorem lebL_len : ∀ (k n : Nat), n < 128 ^ k → 0 < k → (lebL n).length ≤ k
  | 0, n, h, h0 => by omega
  | k + 1, n, h, _ => by
    by_cases hn : n < 128
    · rw [lebL_lt hn]; simp
    · rw [lebL_ge hn, List.length_cons]
      have hk : 0 < k := by
        rcases k with _ | k
        · simp at h; omega
        · omega
      have := lebL_len k (n / 128) (by
        rw [Nat.div_lt_iff_lt_mul (by omega)]
        rw [Nat.pow_succ] at h
        exact h) hk
      omega
theorem or128_all : (List.range 256).all (fun a => decide (((BitVec.ofInt 8 (a : Int) ||| BitVec.ofInt 8 128).toNat) = a % 128 + 128)) = true := by kernel_rfl
@[go_sem] theorem b_or128 (a : Int) (h0 : 0 ≤ a) (h1 : a < 256) : aBin .or (.int .u8 a) (.int .u8 128) = some (.int .u8 (a % 128 + 128)) := by
  have h := or128_all
  rw [List.all_eq_true] at h
  have := of_decide_eq_true (h a.toNat (List.mem_range.2 (by omega)))
  rw [show ((a.toNat : Nat) : Int) = a by omega] at this
  show some (AV.int .u8 (IntKind.u8.wrap (((BitVec.ofInt 8 a ||| BitVec.ofInt 8 128).toNat : Nat) : Int))) = _
  rw [this]
  congr 2
  unfold IntKind.wrap
  simp only [IntKind.bits, IntKind.signed, Bool.false_and, show (2 : Int) ^ 8 = 256 from rfl, Bool.false_eq_true, if_false]
  omega
@[go_sem] theorem b_shr7 (a : Int) (h0 : 0 ≤ a) (k : IntKind) : aBin .shr (.int .u64 a) (.int k 7) = some (.int .u64 (a / 128)) := by
  show (if (7 : Int) < 0 then none else some (AV.int .u64 (a.fdiv (2 ^ (min (7 : Int).toNat IntKind.u64.bits))))) = _
  rw [if_neg (by omega)]
  congr 2
  show a.fdiv 128 = a / 128
  exact Int.fdiv_eq_ediv_of_nonneg a (by omega)
@[go_sem] theorem wrap_u64 (n : Int) (h0 : 0 ≤ n) (h1 : n < 18446744073709551616) : IntKind.wrap .u64 n = n := by
  unfold IntKind.wrap
  simp only [IntKind.bits, IntKind.signed, Bool.false_and, Bool.false_eq_true, if_false, show (2 : Int) ^ 64 = 18446744073709551616 from rfl]
  omega
theorem wrap_u8 (n : Int) : IntKind.wrap .u8 n = n % 256 := by
  unfold IntKind.wrap
  simp only [IntKind.bits, IntKind.signed, Bool.false_and, Bool.false_eq_true, if_false, show (2 : Int) ^ 8 = 256 from rfl]
@[go_sem] theorem mksK_g (m : AMem) (new t sz bytes : Nat) (zero : AV) (k k' : IntKind) (n c : Int) (h0 : 0 ≤ n) (h00 : n ≤ c) (h1 : bytes * c ≤ 281474976710656) (h2 : c ≤ 9223372036854775807) :
    mksK m new t sz bytes zero (.int k n) (.int k' c) = some (.val (.sl sz new 0 n.toNat) (m.put new (.arr t sz (List.replicate n.toNat zero)))) := by
  simp only [mksK, decide_eq_true h0, decide_eq_true h00, decide_eq_true h1, decide_eq_true h2]
  rfl
/-- A copy onto the whole of a new slice. -/
theorem copy_all {m : AMem} {id t : Nat} {xs : List AV} {z : AV} (h : m.get id = some (.arr t 1 (List.replicate xs.length z))) : ∃ m', aCopy m 1 (.sl 1 id 0 xs.length) xs = some (.val (avI xs.length) m') ∧ m'.next = m.next ∧ (∀ j, j ≠ id → m'.get j = m.get j) ∧ (id < m.next → m'.get id = some (.arr t 1 xs)) := by
  unfold aCopy
  simp only
  rw [if_neg (by simp)]
  by_cases hn : xs.length = 0
  · rw [if_pos hn]
    have : xs = [] := List.eq_nil_of_length_eq_zero hn
    subst this
    exact ⟨m, rfl, rfl, fun _ _ => rfl, fun _ => h⟩
  · rw [if_neg hn, h]
    simp only
    rw [if_pos ⟨trivial, by simp⟩]
    refine ⟨m.put id (.arr t 1 xs), ?_, rfl, fun j hj => put_ne _ _ _ _ hj, fun hid => put_same _ _ _ hid⟩
    rw [Nat.min_self, List.take_zero, List.nil_append, List.take_length, Nat.zero_add, List.drop_of_length_le (by simp), List.append_nil]
/-- Bytes, owned. -/
def BO (m : AMem) (lo : Nat) (v : AV) (l : List Int) : Prop := ∃ id, v = .sl 1 id 0 l.length ∧ lo ≤ id ∧ id < m.next ∧ m.get id = some (.arr 5 1 (l.map avB))
set_option maxHeartbeats 1000000 in
theorem sp_Put (n : Nat) (m : AMem) (b : AV) (l : List Int) (x : Nat) (hl : l.length ≤ 10000000) (hx : x < 18446744073709551616) (h1 : lenK b = some (avI l.length)) (h2 : ∀ q : AMem, (∀ id, id < m.next → q.get id = m.get id) → elems q 1 b = some (l.map avB)) :
    ∃ v m', callsN cfg (n + 1) 21 [b, .int .u64 x] m = some (.ret v, m') ∧ BO m' m.next v (l ++ lebL x) ∧ m.next ≤ m'.next ∧ ∀ id, id < m.next → m'.get id = m.get id := by
  rw [ce21]
  have key : Wp (aBody (callsN cfg n) cf21 [b, .int .u64 x] m) fun o m' => ∃ v, o = .ret v ∧ BO m' m.next v (l ++ lebL x) ∧ m.next ≤ m'.next ∧ ∀ id, id < m.next → m'.get id = m.get id := by
    unfold aBody cf21
    obtain ⟨q2, c1, c2, c3, c4⟩ := copy_all (m := ((((m.room 1).room 7).put (m.next + 1 + 5) (.arr 5 1 (List.replicate l.length (.int .u8 0)))).room 3)) (id := m.next + 1 + 5) (t := 5) (xs := l.map avB) (z := .int .u8 0) (by simp -implicitDefEqProofs (disch := (first | omega | (simp only [go_sem, List.length_append, Nat.zero_add, Nat.reduceAdd, Nat.reduceLT] <;> omega) | fail)) only [go_sem, ↓reduceIte, Nat.reduceEqDiff, Nat.reduceAdd, Nat.reduceLT, Nat.reduceLeDiff, Nat.reduceBEq, reduceCtorEq])
    rw [List.length_map] at c1
    have he := h2 ((((m.room 1).room 7).put (m.next + 1 + 5) (.arr 5 1 (List.replicate l.length (.int .u8 0)))).room 3) (fun id hid => by simp -implicitDefEqProofs (disch := (first | omega | (simp only [go_sem, List.length_append, Nat.zero_add, Nat.reduceAdd, Nat.reduceLT] <;> omega) | fail)) only [go_sem, ↓reduceIte, Nat.reduceEqDiff, Nat.reduceAdd, Nat.reduceLT, Nat.reduceLeDiff, Nat.reduceBEq, reduceCtorEq])
    simp only [room_next, put_next] at c2
    have c4 := c4 (by first | (simp -implicitDefEqProofs (disch := (first | omega | (simp only [go_sem, List.length_append, Nat.zero_add, Nat.reduceAdd, Nat.reduceLT] <;> omega) | fail)) only [go_sem, ↓reduceIte, Nat.reduceEqDiff, Nat.reduceAdd, Nat.reduceLT, Nat.reduceLeDiff, Nat.reduceBEq, reduceCtorEq]; done) | (simp -implicitDefEqProofs (disch := (first | omega | (simp only [go_sem, List.length_append, Nat.zero_add, Nat.reduceAdd, Nat.reduceLT] <;> omega) | fail)) only [go_sem, ↓reduceIte, Nat.reduceEqDiff, Nat.reduceAdd, Nat.reduceLT, Nat.reduceLeDiff, Nat.reduceBEq, reduceCtorEq]; omega))
    repeat' (first | simp -implicitDefEqProofs (disch := (first | omega | (simp only [go_sem, List.length_append, Nat.zero_add, Nat.reduceAdd, Nat.reduceLT] <;> omega) | fail)) only [go_sem, ↓reduceIte, Nat.reduceEqDiff, Nat.reduceAdd, Nat.reduceLT, Nat.reduceLeDiff, Nat.reduceBEq, reduceCtorEq, h1, he, c1] | ((with_reducible first | refine g_dec (fun h d => ?_) (fun h d => ?_) | refine c_dec (fun h d => ?_) (fun h d => ?_) | refine s_dec (fun h d => ?_) (fun h d => ?_) | refine g_ndec (fun h d => ?_) (fun h d => ?_) | refine c_ndec (fun h d => ?_) (fun h d => ?_) | refine g_nbool (fun h d => ?_) (fun h d => ?_) | refine c_nbool (fun h d => ?_) (fun h d => ?_) | refine g_bool (fun h d => ?_) (fun h d => ?_) | refine c_bool (fun h d => ?_) (fun h d => ?_) | refine s_bool (fun h d => ?_) (fun h d => ?_)) <;> (try simp only [d]) <;> (try simp only [Bool.or_eq_true, Bool.and_eq_true, Bool.or_eq_false_iff, Bool.and_eq_false_iff, decide_eq_true_eq, decide_eq_false_iff_not, Bool.not_eq_true', Bool.not_eq_false'] at h) <;> (try omega)))
    refine wp_loop (fun (s : Nat × List Int) (env : AEnv) (w : AMem) => s.1 ≤ x ∧ s.2 ++ lebL s.1 = lebL x ∧ ∃ id, m.next ≤ id ∧ id < w.next ∧ w.get id = some (.arr 5 1 ((l ++ s.2).map avB)) ∧ (∀ id, id < m.next → w.get id = m.get id) ∧ m.next ≤ w.next ∧ env 1 = .int .u64 s.1 ∧ env 5 = .sl 1 id 0 (l.length + s.2.length)) (fun s => (lebL s.1).length)
      (fun s env w K' ⟨hk, hs, id, i1, i2, gI, old, hn, e1, e5⟩ hN hE => ?_) LOOPK (x, []) _ _ ⟨Nat.le_refl _, rfl, m.next + 1 + 5, ?_, ?_, ?_, ?_, ?_, ?_, ?_⟩ ?_
    · obtain ⟨k, acc⟩ := s
      simp only at hk hs gI e1 e5 hN
      have hal := lebL_len 10 x (Nat.lt_trans hx (by decide)) (by omega)
      have hacc : acc.length < 10 := by
        have h3 := congrArg List.length hs
        rw [List.length_append] at h3
        have : 0 < (lebL k).length := by
          by_cases h : k < 128
          · rw [lebL_lt h]; simp
          · rw [lebL_ge h]; simp
        omega
      have ht : List.take (l.length + acc.length) ((l ++ acc).map avB) = (l ++ acc).map avB := List.take_of_length_le (by simp)
      have hlen : ((l ++ acc).map avB).length = l.length + acc.length := by simp
      unfold lb21_0
      by_cases hk2 : k < 128
      · repeat' (first | simp -implicitDefEqProofs (disch := (first | omega | (simp only [go_sem, List.length_append, Nat.zero_add, Nat.reduceAdd, Nat.reduceLT] <;> omega) | fail)) only [go_sem, ↓reduceIte, Nat.reduceEqDiff, Nat.reduceAdd, Nat.reduceLT, Nat.reduceLeDiff, Nat.reduceBEq, reduceCtorEq, e1, e5, gI] | ((with_reducible first | refine g_dec (fun h d => ?_) (fun h d => ?_) | refine c_dec (fun h d => ?_) (fun h d => ?_) | refine s_dec (fun h d => ?_) (fun h d => ?_) | refine g_ndec (fun h d => ?_) (fun h d => ?_) | refine c_ndec (fun h d => ?_) (fun h d => ?_) | refine g_nbool (fun h d => ?_) (fun h d => ?_) | refine c_nbool (fun h d => ?_) (fun h d => ?_) | refine g_bool (fun h d => ?_) (fun h d => ?_) | refine c_bool (fun h d => ?_) (fun h d => ?_) | refine s_bool (fun h d => ?_) (fun h d => ?_)) <;> (try simp only [d]) <;> (try simp only [Bool.or_eq_true, Bool.and_eq_true, Bool.or_eq_false_iff, Bool.and_eq_false_iff, decide_eq_true_eq, decide_eq_false_iff_not, Bool.not_eq_true', Bool.not_eq_false'] at h) <;> (try omega)))
        all_goals (with_reducible first | refine hN ((k, acc)) _ _ ?_ ?_ | refine (hE _ _).1 _ ?_ | refine (hE _ _).2.1 ?_)
        all_goals try unfold ls21_0
        all_goals repeat' (first | simp -implicitDefEqProofs (disch := (first | omega | (simp only [go_sem, List.length_append, Nat.zero_add, Nat.reduceAdd, Nat.reduceLT] <;> omega) | fail)) only [go_sem, ↓reduceIte, Nat.reduceEqDiff, Nat.reduceAdd, Nat.reduceLT, Nat.reduceLeDiff, Nat.reduceBEq, reduceCtorEq, e1, e5, gI, wrap_u8, ht] | ((with_reducible first | refine g_dec (fun h d => ?_) (fun h d => ?_) | refine c_dec (fun h d => ?_) (fun h d => ?_) | refine s_dec (fun h d => ?_) (fun h d => ?_) | refine g_ndec (fun h d => ?_) (fun h d => ?_) | refine c_ndec (fun h d => ?_) (fun h d => ?_) | refine g_nbool (fun h d => ?_) (fun h d => ?_) | refine c_nbool (fun h d => ?_) (fun h d => ?_) | refine g_bool (fun h d => ?_) (fun h d => ?_) | refine c_bool (fun h d => ?_) (fun h d => ?_) | refine s_bool (fun h d => ?_) (fun h d => ?_)) <;> (try simp only [d]) <;> (try simp only [Bool.or_eq_true, Bool.and_eq_true, Bool.or_eq_false_iff, Bool.and_eq_false_iff, decide_eq_true_eq, decide_eq_false_iff_not, Bool.not_eq_true', Bool.not_eq_false'] at h) <;> (try omega)))
        have hx' : lebL x = acc ++ [(k : Int)] := by rw [← hs, lebL_lt hk2]
        have hm : (k : Int) % 256 = k := by omega
        refine ⟨_, rfl, ⟨w.next + 2 + 4, ?_, by omega, ?_, ?_⟩, by omega, fun j hj => ?_⟩
        · rw [hx']
          congr 1
          simp only [List.length_append, List.length_cons, List.length_nil]
          omega
        · first | (simp -implicitDefEqProofs (disch := (first | omega | (simp only [go_sem, List.length_append, Nat.zero_add, Nat.reduceAdd, Nat.reduceLT] <;> omega) | fail)) only [go_sem, ↓reduceIte, Nat.reduceEqDiff, Nat.reduceAdd, Nat.reduceLT, Nat.reduceLeDiff, Nat.reduceBEq, reduceCtorEq]; done) | (simp -implicitDefEqProofs (disch := (first | omega | (simp only [go_sem, List.length_append, Nat.zero_add, Nat.reduceAdd, Nat.reduceLT] <;> omega) | fail)) only [go_sem, ↓reduceIte, Nat.reduceEqDiff, Nat.reduceAdd, Nat.reduceLT, Nat.reduceLeDiff, Nat.reduceBEq, reduceCtorEq]; omega)
        · simp -implicitDefEqProofs (disch := (first | omega | (simp only [go_sem, List.length_append, Nat.zero_add, Nat.reduceAdd, Nat.reduceLT] <;> omega) | fail)) only [go_sem, ↓reduceIte, Nat.reduceEqDiff, Nat.reduceAdd, Nat.reduceLT, Nat.reduceLeDiff, Nat.reduceBEq, reduceCtorEq]
          rw [hx', hm, ← List.append_assoc, List.map_append (l₁ := l ++ acc)]
          rfl
        · simp -implicitDefEqProofs (disch := (first | omega | (simp only [go_sem, List.length_append, Nat.zero_add, Nat.reduceAdd, Nat.reduceLT] <;> omega) | fail)) only [go_sem, ↓reduceIte, Nat.reduceEqDiff, Nat.reduceAdd, Nat.reduceLT, Nat.reduceLeDiff, Nat.reduceBEq, reduceCtorEq]
          exact old j hj
      · repeat' (first | simp -implicitDefEqProofs (disch := (first | omega | (simp only [go_sem, List.length_append, Nat.zero_add, Nat.reduceAdd, Nat.reduceLT] <;> omega) | fail)) only [go_sem, ↓reduceIte, Nat.reduceEqDiff, Nat.reduceAdd, Nat.reduceLT, Nat.reduceLeDiff, Nat.reduceBEq, reduceCtorEq, e1, e5, gI, wrap_u8, ht] | ((with_reducible first | refine g_dec (fun h d => ?_) (fun h d => ?_) | refine c_dec (fun h d => ?_) (fun h d => ?_) | refine s_dec (fun h d => ?_) (fun h d => ?_) | refine g_ndec (fun h d => ?_) (fun h d => ?_) | refine c_ndec (fun h d => ?_) (fun h d => ?_) | refine g_nbool (fun h d => ?_) (fun h d => ?_) | refine c_nbool (fun h d => ?_) (fun h d => ?_) | refine g_bool (fun h d => ?_) (fun h d => ?_) | refine c_bool (fun h d => ?_) (fun h d => ?_) | refine s_bool (fun h d => ?_) (fun h d => ?_)) <;> (try simp only [d]) <;> (try simp only [Bool.or_eq_true, Bool.and_eq_true, Bool.or_eq_false_iff, Bool.and_eq_false_iff, decide_eq_true_eq, decide_eq_false_iff_not, Bool.not_eq_true', Bool.not_eq_false'] at h) <;> (try omega)))
        have hm : (k : Int) % 256 % 128 + 128 = ((k % 128 + 128 : Nat) : Int) := by omega
        have hd : (k : Int) / 128 = ((k / 128 : Nat) : Int) := by omega
        refine hN (k / 128, acc ++ [((k % 128 + 128 : Nat) : Int)]) _ _ ⟨by show k / 128 ≤ x; omega, ?_, w.next + 2 + 5, by omega, ?_, ?_, fun j hj => ?_, ?_, ?_, ?_⟩ (by show (lebL (k / 128)).length < (lebL k).length; rw [lebL_ge hk2, List.length_cons]; omega)
        · show (acc ++ [((k % 128 + 128 : Nat) : Int)]) ++ lebL (k / 128) = lebL x
          rw [← hs, lebL_ge hk2, List.append_assoc]
          rfl
        · first | (simp -implicitDefEqProofs (disch := (first | omega | (simp only [go_sem, List.length_append, Nat.zero_add, Nat.reduceAdd, Nat.reduceLT] <;> omega) | fail)) only [go_sem, ↓reduceIte, Nat.reduceEqDiff, Nat.reduceAdd, Nat.reduceLT, Nat.reduceLeDiff, Nat.reduceBEq, reduceCtorEq]; done) | (simp -implicitDefEqProofs (disch := (first | omega | (simp only [go_sem, List.length_append, Nat.zero_add, Nat.reduceAdd, Nat.reduceLT] <;> omega) | fail)) only [go_sem, ↓reduceIte, Nat.reduceEqDiff, Nat.reduceAdd, Nat.reduceLT, Nat.reduceLeDiff, Nat.reduceBEq, reduceCtorEq]; omega)
        · show _ = some (AObj.arr 5 1 ((l ++ (acc ++ [((k % 128 + 128 : Nat) : Int)])).map avB))
          simp -implicitDefEqProofs (disch := (first | omega | (simp only [go_sem, List.length_append, Nat.zero_add, Nat.reduceAdd, Nat.reduceLT] <;> omega) | fail)) only [go_sem, ↓reduceIte, Nat.reduceEqDiff, Nat.reduceAdd, Nat.reduceLT, Nat.reduceLeDiff, Nat.reduceBEq, reduceCtorEq]
          rw [hm, ← List.append_assoc, List.map_append (l₁ := l ++ acc)]
          rfl
        · simp -implicitDefEqProofs (disch := (first | omega | (simp only [go_sem, List.length_append, Nat.zero_add, Nat.reduceAdd, Nat.reduceLT] <;> omega) | fail)) only [go_sem, ↓reduceIte, Nat.reduceEqDiff, Nat.reduceAdd, Nat.reduceLT, Nat.reduceLeDiff, Nat.reduceBEq, reduceCtorEq]
          exact old j hj
        · first | (simp -implicitDefEqProofs (disch := (first | omega | (simp only [go_sem, List.length_append, Nat.zero_add, Nat.reduceAdd, Nat.reduceLT] <;> omega) | fail)) only [go_sem, ↓reduceIte, Nat.reduceEqDiff, Nat.reduceAdd, Nat.reduceLT, Nat.reduceLeDiff, Nat.reduceBEq, reduceCtorEq]; done) | (simp -implicitDefEqProofs (disch := (first | omega | (simp only [go_sem, List.length_append, Nat.zero_add, Nat.reduceAdd, Nat.reduceLT] <;> omega) | fail)) only [go_sem, ↓reduceIte, Nat.reduceEqDiff, Nat.reduceAdd, Nat.reduceLT, Nat.reduceLeDiff, Nat.reduceBEq, reduceCtorEq]; omega)
        · simp -implicitDefEqProofs (disch := (first | omega | (simp only [go_sem, List.length_append, Nat.zero_add, Nat.reduceAdd, Nat.reduceLT] <;> omega) | fail)) only [go_sem, ↓reduceIte, Nat.reduceEqDiff, Nat.reduceAdd, Nat.reduceLT, Nat.reduceLeDiff, Nat.reduceBEq, reduceCtorEq]
          rw [hd]
        · simp -implicitDefEqProofs (disch := (first | omega | (simp only [go_sem, List.length_append, Nat.zero_add, Nat.reduceAdd, Nat.reduceLT] <;> omega) | fail)) only [go_sem, ↓reduceIte, Nat.reduceEqDiff, Nat.reduceAdd, Nat.reduceLT, Nat.reduceLeDiff, Nat.reduceBEq, reduceCtorEq]
          rw [List.length_append]
          rfl
    · omega
    · omega
    · rw [c4]; simp
    · intro id hid
      rw [c3 id (by omega)]
      simp -implicitDefEqProofs (disch := (first | omega | (simp only [go_sem, List.length_append, Nat.zero_add, Nat.reduceAdd, Nat.reduceLT] <;> omega) | fail)) only [go_sem, ↓reduceIte, Nat.reduceEqDiff, Nat.reduceAdd, Nat.reduceLT, Nat.reduceLeDiff, Nat.reduceBEq, reduceCtorEq]
    · omega
    · simp -implicitDefEqProofs (disch := (first | omega | (simp only [go_sem, List.length_append, Nat.zero_add, Nat.reduceAdd, Nat.reduceLT] <;> omega) | fail)) only [go_sem, ↓reduceIte, Nat.reduceEqDiff, Nat.reduceAdd, Nat.reduceLT, Nat.reduceLeDiff, Nat.reduceBEq, reduceCtorEq]
    · simp -implicitDefEqProofs (disch := (first | omega | (simp only [go_sem, List.length_append, Nat.zero_add, Nat.reduceAdd, Nat.reduceLT] <;> omega) | fail)) only [go_sem, ↓reduceIte, Nat.reduceEqDiff, Nat.reduceAdd, Nat.reduceLT, Nat.reduceLeDiff, Nat.reduceBEq, reduceCtorEq]
    · rw [LOOPK_eq]
      have := lebL_len 10 x (Nat.lt_trans hx (by decide)) (by omega)
      show (lebL x).length < _
      omega
  obtain ⟨o, m', h1, v, rfl, h2⟩ := key
  exact ⟨v, m', h1, h2⟩
end Go.Proofs.YtiijjopdhjpalaaDoor

/-! What the functions of chapter 10 answer: numbers below 0, lists, operands as bytes. Conditions: none. -/
namespace Go.Proofs.YtiijjopdhjpalaaDoor
open Go
set_option linter.unusedSimpArgs false
set_option linter.unusedVariables false
/-- A number that may be below 0, folded. -/
def foldZ (n : Int) : Nat := if 0 ≤ n then (2 * n).toNat else (-2 * n - 1).toNat
@[go_sem] theorem b_shl1 (a : Int) (k : IntKind) (h0 : -4611686018427387904 ≤ a) (h1 : a ≤ 4611686018427387903) : aBin .shl (.int .i64 a) (.int k 1) = some (.int .i64 (2 * a)) := by
  show (if (1 : Int) < 0 then none else some (AV.int .i64 (IntKind.i64.wrap (a * 2 ^ (min (1 : Int).toNat IntKind.i64.bits))))) = _
  rw [if_neg (by omega), show a * 2 ^ (min (1 : Int).toNat IntKind.i64.bits) = 2 * a by show a * 2 ^ 1 = 2 * a; omega, wrap_i64 _ (by omega) (by omega)]
@[go_sem] theorem b_shr63 (a : Int) (k : IntKind) (h0 : -4611686018427387904 ≤ a) (h1 : a ≤ 4611686018427387903) : aBin .shr (.int .i64 a) (.int k 63) = some (.int .i64 (if 0 ≤ a then 0 else -1)) := by
  show (if (63 : Int) < 0 then none else some (AV.int .i64 (a.fdiv (2 ^ (min (63 : Int).toNat IntKind.i64.bits))))) = _
  rw [if_neg (by omega)]
  congr 2
  show a.fdiv 9223372036854775808 = _
  rw [Int.fdiv_eq_ediv_of_nonneg a (by omega)]
  split <;> omega
theorem wrap_u64_neg (n : Int) (h0 : n < 0) (h1 : -18446744073709551616 ≤ n) : IntKind.wrap .u64 n = n + 18446744073709551616 := by
  unfold IntKind.wrap
  simp only [IntKind.bits, IntKind.signed, Bool.false_and, Bool.false_eq_true, if_false, show (2 : Int) ^ 64 = 18446744073709551616 from rfl]
  omega
theorem ofInt_toNat (a : Int) (h0 : 0 ≤ a) (h1 : a < 18446744073709551616) : (BitVec.ofInt 64 a).toNat = a.toNat := by
  rw [BitVec.toNat_ofInt]
  congr 1
  show a % 18446744073709551616 = a
  omega
theorem xor_0 (a : Int) (h0 : 0 ≤ a) (h1 : a < 18446744073709551616) : aBin .xor (.int .u64 a) (.int .u64 0) = some (.int .u64 a) := by
  show some (AV.int .u64 (IntKind.u64.wrap (((BitVec.ofInt 64 a ^^^ BitVec.ofInt 64 0).toNat : Nat) : Int))) = _
  have : BitVec.ofInt 64 a ^^^ BitVec.ofInt 64 0 = BitVec.ofInt 64 a := BitVec.xor_zero
  rw [this, ofInt_toNat a h0 h1, wrap_u64 _ (by omega) (by omega)]
  congr 2
  omega
theorem xor_1 (a : Int) (h0 : 0 ≤ a) (h1 : a < 18446744073709551616) : aBin .xor (.int .u64 a) (.int .u64 18446744073709551615) = some (.int .u64 (18446744073709551615 - a)) := by
  show some (AV.int .u64 (IntKind.u64.wrap (((BitVec.ofInt 64 a ^^^ BitVec.ofInt 64 18446744073709551615).toNat : Nat) : Int))) = _
  have : BitVec.ofInt 64 a ^^^ BitVec.ofInt 64 18446744073709551615 = ~~~ BitVec.ofInt 64 a := by
    rw [show BitVec.ofInt 64 18446744073709551615 = BitVec.allOnes 64 from rfl, BitVec.xor_allOnes]
  rw [this, BitVec.toNat_not, ofInt_toNat a h0 h1]
  have e : ((2 ^ 64 - 1 - a.toNat : Nat) : Int) = 18446744073709551615 - a := by
    show ((18446744073709551615 - a.toNat : Nat) : Int) = _
    omega
  rw [e, wrap_u64 _ (by omega) (by omega)]
theorem foldZ_lt (a : Int) (h0 : -4611686018427387904 ≤ a) (h1 : a ≤ 4611686018427387903) : foldZ a < 18446744073709551616 := by
  unfold foldZ; split <;> omega
theorem BO.lenK {m : AMem} {lo : Nat} {v : AV} {l : List Int} (h : BO m lo v l) : lenK v = some (avI l.length) := by
  obtain ⟨id, rfl, _⟩ := h
  rfl
theorem BO.elems {m : AMem} {lo : Nat} {v : AV} {l : List Int} (h : BO m lo v l) : ∀ q : AMem, (∀ id, id < m.next → q.get id = m.get id) → elems q 1 v = some (l.map avB) := by
  obtain ⟨id, rfl, _, h2, h3⟩ := h
  intro q hq
  rw [y_elems_sl, hq id h2, h3, elK_s _ _ _ _ _ (by simp), List.drop_zero, List.take_of_length_le (by simp)]
theorem BO.frame {m m' : AMem} {lo : Nat} {v : AV} {l : List Int} (h : BO m lo v l) (hn : m.next ≤ m'.next) (hf : ∀ id, id < m.next → lo ≤ id → m'.get id = m.get id) : BO m' lo v l := by
  obtain ⟨id, rfl, h1, h2, h3⟩ := h
  exact ⟨id, rfl, h1, by omega, (hf id h2 h1).trans h3⟩
theorem BO.lo {m : AMem} {lo lo' : Nat} {v : AV} {l : List Int} (h : BO m lo v l) (hl : lo' ≤ lo) : BO m lo' v l := by
  obtain ⟨id, rfl, h1, h2, h3⟩ := h
  exact ⟨id, rfl, by omega, h2, h3⟩
/-- What a call that puts bytes behind bytes leaves. -/
structure Puts (m : AMem) (r : Res) (l : List Int) (v : AV) (m' : AMem) : Prop where
  run : r = some (.ret v, m')
  bo : BO m' m.next v l
  next : m.next ≤ m'.next
  old : ∀ id, id < m.next → m'.get id = m.get id
theorem put_bo (n : Nat) {m : AMem} {lo : Nat} {b : AV} {l : List Int} (hb : BO m lo b l) (x : Nat) (hl : l.length ≤ 10000000) (hx : x < 18446744073709551616) : ∃ v m', Puts m (callsN cfg (n + 1) 21 [b, .int .u64 x] m) (l ++ lebL x) v m' := by
  obtain ⟨v, m', h1, h2, h3, h4⟩ := sp_Put n m b l x hl hx hb.lenK hb.elems
  exact ⟨v, m', h1, h2, h3, h4⟩
theorem putInt_bo (n : Nat) {m : AMem} {lo : Nat} {b : AV} {l : List Int} (hb : BO m lo b l) (x : Int) (hl : l.length ≤ 10000000) (h0 : -4611686018427387904 ≤ x) (h1 : x ≤ 4611686018427387903) : ∃ v m', Puts m (callsN cfg (n + 2) 41 [b, .int .i64 x] m) (l ++ lebL (foldZ x)) v m' := by
  rw [ce41]
  obtain ⟨v, m', g1, g2, g3, g4⟩ := put_bo n (m := (m.room 1).room 10) (hb.frame (by simp -implicitDefEqProofs (disch := (first | omega | (simp only [go_sem, List.length_append, Nat.zero_add, Nat.reduceAdd, Nat.reduceLT] <;> omega) | fail)) only [go_sem, ↓reduceIte, Nat.reduceEqDiff, Nat.reduceAdd, Nat.reduceLT, Nat.reduceLeDiff, Nat.reduceBEq, reduceCtorEq]; omega) (fun id _ _ => rfl)) (foldZ x) hl (foldZ_lt x h0 h1)
  have hf := foldZ_lt x h0 h1
  have key : Wp (aBody (callsN cfg (n + 1)) cf41 [b, .int .i64 x] m) fun o w => o = .ret v ∧ w = m' := by
    unfold aBody cf41
    by_cases hx : 0 ≤ x
    · have e : (2 * x) = (foldZ x : Int) := by unfold foldZ; rw [if_pos hx]; omega
      have x0 := xor_0 (foldZ x : Int) (by omega) (by omega)
      repeat' (first | simp -implicitDefEqProofs (disch := (first | omega | (simp only [go_sem, List.length_append, Nat.zero_add, Nat.reduceAdd, Nat.reduceLT] <;> omega) | fail)) only [go_sem, ↓reduceIte, Nat.reduceEqDiff, Nat.reduceAdd, Nat.reduceLT, Nat.reduceLeDiff, Nat.reduceBEq, reduceCtorEq, if_pos hx, e, x0, g1] | ((with_reducible first | refine g_dec (fun h d => ?_) (fun h d => ?_) | refine c_dec (fun h d => ?_) (fun h d => ?_) | refine s_dec (fun h d => ?_) (fun h d => ?_) | refine g_ndec (fun h d => ?_) (fun h d => ?_) | refine c_ndec (fun h d => ?_) (fun h d => ?_) | refine g_nbool (fun h d => ?_) (fun h d => ?_) | refine c_nbool (fun h d => ?_) (fun h d => ?_) | refine g_bool (fun h d => ?_) (fun h d => ?_) | refine c_bool (fun h d => ?_) (fun h d => ?_) | refine s_bool (fun h d => ?_) (fun h d => ?_)) <;> (try simp only [d]) <;> (try simp only [Bool.or_eq_true, Bool.and_eq_true, Bool.or_eq_false_iff, Bool.and_eq_false_iff, decide_eq_true_eq, decide_eq_false_iff_not, Bool.not_eq_true', Bool.not_eq_false'] at h) <;> (try omega)))
    · have e : 18446744073709551615 - (2 * x + 18446744073709551616) = (foldZ x : Int) := by unfold foldZ; rw [if_neg hx]; omega
      have x1 := xor_1 (2 * x + 18446744073709551616) (by omega) (by omega)
      have w1 := wrap_u64_neg (2 * x) (by omega) (by omega)
      have w2 := wrap_u64_neg (-1) (by omega) (by omega)
      repeat' (first | simp -implicitDefEqProofs (disch := (first | omega | (simp only [go_sem, List.length_append, Nat.zero_add, Nat.reduceAdd, Nat.reduceLT] <;> omega) | fail)) only [go_sem, ↓reduceIte, Nat.reduceEqDiff, Nat.reduceAdd, Nat.reduceLT, Nat.reduceLeDiff, Nat.reduceBEq, reduceCtorEq, if_neg hx, w1, w2, x1, e, g1, show (-1 : Int) + 18446744073709551616 = 18446744073709551615 from rfl] | ((with_reducible first | refine g_dec (fun h d => ?_) (fun h d => ?_) | refine c_dec (fun h d => ?_) (fun h d => ?_) | refine s_dec (fun h d => ?_) (fun h d => ?_) | refine g_ndec (fun h d => ?_) (fun h d => ?_) | refine c_ndec (fun h d => ?_) (fun h d => ?_) | refine g_nbool (fun h d => ?_) (fun h d => ?_) | refine c_nbool (fun h d => ?_) (fun h d => ?_) | refine g_bool (fun h d => ?_) (fun h d => ?_) | refine c_bool (fun h d => ?_) (fun h d => ?_) | refine s_bool (fun h d => ?_) (fun h d => ?_)) <;> (try simp only [d]) <;> (try simp only [Bool.or_eq_true, Bool.and_eq_true, Bool.or_eq_false_iff, Bool.and_eq_false_iff, decide_eq_true_eq, decide_eq_false_iff_not, Bool.not_eq_true', Bool.not_eq_false'] at h) <;> (try omega)))
  obtain ⟨o, w, h1, rfl, rfl⟩ := key
  simp only [room_next, room_get] at g2 g3 g4
  exact ⟨v, w, h1, g2.lo (by omega), by omega, fun id hid => g4 id (by omega)⟩
/-- What was there is there as it was. -/
def Old (m q : AMem) : Prop := ∀ id, id < m.next → q.get id = m.get id
@[go_sem] theorem old_refl (m : AMem) : Old m m = True := eq_true fun _ _ => rfl
@[go_sem] theorem old_room (m q : AMem) (n : Nat) : Old m (q.room n) = Old m q := rfl
@[go_sem] theorem old_put (m q : AMem) (id : Nat) (o : AObj) (h : m.next ≤ id) : Old m (q.put id o) = Old m q := by
  refine propext ⟨fun a j hj => ?_, fun a j hj => ?_⟩
  · have := a j hj
    rw [put_ne _ _ _ _ (by omega)] at this
    exact this
  · rw [put_ne _ _ _ _ (by omega)]
    exact a j hj
@[go_sem] theorem old_kill (m q : AMem) (id : Nat) (h : m.next ≤ id) : Old m (q.kill id) = Old m q := by
  refine propext ⟨fun a j hj => ?_, fun a j hj => ?_⟩
  · have := a j hj
    rw [kill_ne _ _ _ (by omega)] at this
    exact this
  · rw [kill_ne _ _ _ (by omega)]
    exact a j hj
theorem Puts.old' {m : AMem} {r : Res} {l : List Int} {v : AV} {m' : AMem} (h : Puts m r l v m') {m0 : AMem} (h0 : Old m0 m) (hn : m0.next ≤ m.next) : Old m0 m' := fun id hid => (h.old id (by omega)).trans (h0 id hid)
theorem Puts.done {m q : AMem} {r : Res} {l l' : List Int} {v : AV} {m' : AMem} {lo : Nat} (h : Puts q r l v m') (ho : Old m q) (hn : m.next ≤ q.next) (hlo : lo ≤ m.next) (e : l = l') :
    ∃ v', AOut.ret v = .ret v' ∧ BO m' lo v' l' ∧ m.next ≤ m'.next ∧ ∀ id, id < m.next → m'.get id = m.get id :=
  ⟨v, rfl, by rw [← e]; exact h.bo.lo (Nat.le_trans hlo hn), Nat.le_trans hn h.next, h.old' ho hn⟩
theorem Puts.done2 {m q p m1 : AMem} {r r1 : Res} {l l1 l' : List Int} {v v1 : AV} {m' : AMem} {lo : Nat} (h1 : Puts q r1 l1 v1 m1) (h : Puts p r l v m') (ho : Old m q) (hn : m.next ≤ q.next) (c : Old m1 p) (d : m1.next ≤ p.next) (hlo : lo ≤ m.next) (e : l = l') :
    ∃ v', AOut.ret v = .ret v' ∧ BO m' lo v' l' ∧ m.next ≤ m'.next ∧ ∀ id, id < m.next → m'.get id = m.get id :=
  h.done (m := m) (fun id hid => by
    have := h1.next
    rw [c id (by omega)]
    exact h1.old' ho hn id hid) (by have := h1.next; omega) hlo e
/-- A family of calls that may be made at any later memory. -/
theorem choose_puts {m : AMem} {l : List Int} {r : AMem → Res} (h : ∀ q : AMem, Old m q → m.next ≤ q.next → ∃ v m', Puts q (r q) l v m') : ∃ (fv : AMem → AV) (fm : AMem → AMem), ∀ q, Old m q → m.next ≤ q.next → Puts q (r q) l (fv q) (fm q) := by
  have h2 : ∀ q : AMem, ∃ x : AV × AMem, Old m q → m.next ≤ q.next → Puts q (r q) l x.1 x.2 := fun q => by
    by_cases a : Old m q ∧ m.next ≤ q.next
    · obtain ⟨v, m', hp⟩ := h q a.1 a.2
      exact ⟨(v, m'), fun _ _ => hp⟩
    · exact ⟨(.nilp, q), fun b c => absurd ⟨b, c⟩ a⟩
  obtain ⟨f, hf⟩ := Classical.skolem.1 h2
  exact ⟨fun q => (f q).1, fun q => (f q).2, hf⟩
theorem put_any (n : Nat) {m : AMem} {lo : Nat} {b : AV} {l : List Int} (hb : BO m lo b l) (x : Nat) (hl : l.length ≤ 10000000) (hx : x < 18446744073709551616) : ∃ (fv : AMem → AV) (fm : AMem → AMem), ∀ q, Old m q → m.next ≤ q.next → Puts q (callsN cfg (n + 1) 21 [b, .int .u64 x] q) (l ++ lebL x) (fv q) (fm q) :=
  choose_puts fun q ho hn => put_bo n (hb.frame hn fun id h _ => ho id h) x hl hx
/-- .. and a number more, behind what such a call has left. -/
theorem put_more (n : Nat) {m : AMem} {l : List Int} {r : AMem → Res} {fv : AMem → AV} {fm : AMem → AMem} (hP : ∀ q, Old m q → m.next ≤ q.next → Puts q (r q) l (fv q) (fm q)) (x : Nat) (hl : l.length ≤ 10000000) (hx : x < 18446744073709551616) :
    ∃ (gv : AMem → AMem → AV) (gm : AMem → AMem → AMem), ∀ q, Old m q → m.next ≤ q.next → ∀ p, Old (fm q) p → (fm q).next ≤ p.next → Puts p (callsN cfg (n + 1) 21 [fv q, .int .u64 x] p) (l ++ lebL x) (gv q p) (gm q p) := by
  have h2 : ∀ q : AMem, ∃ x' : (AMem → AV) × (AMem → AMem), Old m q → m.next ≤ q.next → ∀ p, Old (fm q) p → (fm q).next ≤ p.next → Puts p (callsN cfg (n + 1) 21 [fv q, .int .u64 x] p) (l ++ lebL x) (x'.1 p) (x'.2 p) := fun q => by
    by_cases a : Old m q ∧ m.next ≤ q.next
    · obtain ⟨gv, gm, h⟩ := put_any n (hP q a.1 a.2).bo x hl hx
      exact ⟨(gv, gm), fun _ _ => h⟩
    · exact ⟨(fun _ => .nilp, fun p => p), fun b c => absurd ⟨b, c⟩ a⟩
  obtain ⟨f, hf⟩ := Classical.skolem.1 h2
  exact ⟨fun q => (f q).1, fun q => (f q).2, hf⟩
theorem putInt_any (n : Nat) {m : AMem} {lo : Nat} {b : AV} {l : List Int} (hb : BO m lo b l) (x : Int) (hl : l.length ≤ 10000000) (h0 : -4611686018427387904 ≤ x) (h1 : x ≤ 4611686018427387903) : ∃ (fv : AMem → AV) (fm : AMem → AMem), ∀ q, Old m q → m.next ≤ q.next → Puts q (callsN cfg (n + 2) 41 [b, .int .i64 x] q) (l ++ lebL (foldZ x)) (fv q) (fm q) :=
  choose_puts fun q ho hn => putInt_bo n (hb.frame hn fun id h _ => ho id h) x hl h0 h1
end Go.Proofs.YtiijjopdhjpalaaDoor

/-! What the functions of chapter 10 answer: lists and operands as bytes. Conditions: none. -/
namespace Go.Proofs.YtiijjopdhjpalaaDoor
open Go
set_option linter.unusedSimpArgs false
set_option linter.unusedVariables false
def encN (l : List Int) : List Int := l.flatMap fun z => lebL z.toNat
def encList (l : List Int) : List Int := lebL l.length ++ encN l
theorem lebL_small {n : Nat} (h : n < 4294967296) : (lebL n).length ≤ 5 := lebL_len 5 n (Nat.lt_of_lt_of_le h (by decide)) (by omega)
theorem encN_len {l : List Int} (h : ∀ z ∈ l, 0 ≤ z ∧ z < 4294967296) : (encN l).length ≤ 5 * l.length := by
  induction l with
  | nil => simp [encN]
  | cons z l ih =>
    have h1 := lebL_small (n := z.toNat) (by have := h z (List.mem_cons_self ..); omega)
    have h2 := ih fun y hy => h y (List.mem_cons_of_mem _ hy)
    simp only [encN, List.flatMap_cons, List.length_append, List.length_cons] at h2 ⊢
    omega
theorem encN_step {l : List Int} {i : Int} (h0 : 0 ≤ i) (h1 : i < l.length) : encN (l.take (i + 1).toNat) = encN (l.take i.toNat) ++ lebL (nth l i).toNat := by
  rw [take_step h0 h1]
  simp [encN]
theorem small_take {l : List Int} {n : Nat} (h : ∀ z ∈ l, 0 ≤ z ∧ z < 4294967296) : ∀ z ∈ l.take n, 0 ≤ z ∧ z < 4294967296 := fun z hz => h z (List.mem_of_mem_take hz)
set_option maxHeartbeats 1000000 in
theorem list_bo (n : Nat) {m : AMem} {lo : Nat} {b : AV} {l : List Int} (hb : BO m lo b l) (ps : List Int) (hl : l.length ≤ 5000000) (hn : ps.length ≤ 1000) (hp : ∀ z ∈ ps, 0 ≤ z ∧ z < 4294967296) :
    ∃ v m', Puts m (callsN cfg (n + 2) 22 [b, tsl 1 (ps.map avI)] m) (l ++ encList ps) v m' := by
  rw [ce22]
  obtain ⟨v1, q1, g1, g2, g3, g4⟩ := put_bo n (m := (m.room 1).room 6) (hb.frame (by simp -implicitDefEqProofs (disch := (first | omega | (simp only [go_sem, List.length_append, Nat.zero_add, Nat.reduceAdd, Nat.reduceLT] <;> omega) | fail)) only [go_sem, ↓reduceIte, Nat.reduceEqDiff, Nat.reduceAdd, Nat.reduceLT, Nat.reduceLeDiff, Nat.reduceBEq, reduceCtorEq]; omega) (fun id _ _ => rfl)) ps.length (by omega) (by omega)
  simp only [room_next, room_get] at g2 g3 g4
  have h5 := lebL_small (n := ps.length) (by omega)
  have key : Wp (aBody (callsN cfg (n + 1)) cf22 [b, tsl 1 (ps.map avI)] m) fun o w => ∃ v, o = .ret v ∧ BO w m.next v (l ++ encList ps) ∧ m.next ≤ w.next ∧ ∀ id, id < m.next → w.get id = m.get id := by
    unfold aBody cf22
    repeat' (first | simp -implicitDefEqProofs (disch := (first | omega | (simp only [go_sem, List.length_append, Nat.zero_add, Nat.reduceAdd, Nat.reduceLT] <;> omega) | fail)) only [go_sem, ↓reduceIte, Nat.reduceEqDiff, Nat.reduceAdd, Nat.reduceLT, Nat.reduceLeDiff, Nat.reduceBEq, reduceCtorEq, g1] | ((with_reducible first | refine g_dec (fun h d => ?_) (fun h d => ?_) | refine c_dec (fun h d => ?_) (fun h d => ?_) | refine s_dec (fun h d => ?_) (fun h d => ?_) | refine g_ndec (fun h d => ?_) (fun h d => ?_) | refine c_ndec (fun h d => ?_) (fun h d => ?_) | refine g_nbool (fun h d => ?_) (fun h d => ?_) | refine c_nbool (fun h d => ?_) (fun h d => ?_) | refine g_bool (fun h d => ?_) (fun h d => ?_) | refine c_bool (fun h d => ?_) (fun h d => ?_) | refine s_bool (fun h d => ?_) (fun h d => ?_)) <;> (try simp only [d]) <;> (try simp only [Bool.or_eq_true, Bool.and_eq_true, Bool.or_eq_false_iff, Bool.and_eq_false_iff, decide_eq_true_eq, decide_eq_false_iff_not, Bool.not_eq_true', Bool.not_eq_false'] at h) <;> (try omega)))
    refine wp_loop (fun (i : Int) (env : AEnv) (w : AMem) => (0 ≤ i ∧ i ≤ ps.length) ∧ ∃ v, env 0 = v ∧ BO w m.next v (l ++ lebL ps.length ++ encN (ps.take i.toNat)) ∧ m.next ≤ w.next ∧ (∀ id, id < m.next → w.get id = m.get id) ∧ env 12 = tsl 1 (ps.map avI) ∧ env 13 = avI ps.length ∧ env 14 = avI i) (fun i => (ps.length - i).toNat)
      (fun i env w K' ⟨⟨i0, i1⟩, v, e0, hv, hn', old, e12, e13, e14⟩ hN hE => ?_) LOOPK 0 _ _ ⟨⟨by omega, by omega⟩, v1, ?_, ?_, ?_, ?_, ?_, ?_, ?_⟩ (by rw [LOOPK_eq]; omega)
    · unfold lb22_0
      by_cases hi : i < ps.length
      · have hz := hp _ (nth_mem ps i i0 hi)
        have hel := encN_len (small_take (n := i.toNat) hp)
        obtain ⟨v2, q2, k1, k2, k3, k4⟩ := put_bo n (m := ((w.room 1).room 3).room 5) (hv.frame (by simp -implicitDefEqProofs (disch := (first | omega | (simp only [go_sem, List.length_append, Nat.zero_add, Nat.reduceAdd, Nat.reduceLT] <;> omega) | fail)) only [go_sem, ↓reduceIte, Nat.reduceEqDiff, Nat.reduceAdd, Nat.reduceLT, Nat.reduceLeDiff, Nat.reduceBEq, reduceCtorEq]; omega) (fun id _ _ => rfl)) (nth ps i).toNat (by simp only [List.length_append, List.length_take] at hel ⊢; omega) (by omega)
        simp only [room_next, room_get] at k2 k3 k4
        have ez : ((nth ps i).toNat : Int) = nth ps i := by omega
        rw [ez] at k1
        repeat' (first | simp -implicitDefEqProofs (disch := (first | omega | (simp only [go_sem, List.length_append, Nat.zero_add, Nat.reduceAdd, Nat.reduceLT] <;> omega) | fail)) only [go_sem, ↓reduceIte, Nat.reduceEqDiff, Nat.reduceAdd, Nat.reduceLT, Nat.reduceLeDiff, Nat.reduceBEq, reduceCtorEq, e0, e12, e13, e14, k1] | ((with_reducible first | refine g_dec (fun h d => ?_) (fun h d => ?_) | refine c_dec (fun h d => ?_) (fun h d => ?_) | refine s_dec (fun h d => ?_) (fun h d => ?_) | refine g_ndec (fun h d => ?_) (fun h d => ?_) | refine c_ndec (fun h d => ?_) (fun h d => ?_) | refine g_nbool (fun h d => ?_) (fun h d => ?_) | refine c_nbool (fun h d => ?_) (fun h d => ?_) | refine g_bool (fun h d => ?_) (fun h d => ?_) | refine c_bool (fun h d => ?_) (fun h d => ?_) | refine s_bool (fun h d => ?_) (fun h d => ?_)) <;> (try simp only [d]) <;> (try simp only [Bool.or_eq_true, Bool.and_eq_true, Bool.or_eq_false_iff, Bool.and_eq_false_iff, decide_eq_true_eq, decide_eq_false_iff_not, Bool.not_eq_true', Bool.not_eq_false'] at h) <;> (try omega)))
        refine hN (i + 1) _ _ ⟨⟨by omega, by omega⟩, v2, ?_, ?_, ?_, fun id hid => ?_, ?_, ?_, ?_⟩ (by omega)
        all_goals try (simp -implicitDefEqProofs (disch := (first | omega | (simp only [go_sem, List.length_append, Nat.zero_add, Nat.reduceAdd, Nat.reduceLT] <;> omega) | fail)) only [go_sem, ↓reduceIte, Nat.reduceEqDiff, Nat.reduceAdd, Nat.reduceLT, Nat.reduceLeDiff, Nat.reduceBEq, reduceCtorEq, e0, e12, e13, e14]; done)
        · rw [encN_step i0 hi, ← List.append_assoc]
          exact (k2.lo (by omega)).frame (by simp -implicitDefEqProofs (disch := (first | omega | (simp only [go_sem, List.length_append, Nat.zero_add, Nat.reduceAdd, Nat.reduceLT] <;> omega) | fail)) only [go_sem, ↓reduceIte, Nat.reduceEqDiff, Nat.reduceAdd, Nat.reduceLT, Nat.reduceLeDiff, Nat.reduceBEq, reduceCtorEq]; omega) (fun id _ _ => rfl)
        · simp -implicitDefEqProofs (disch := (first | omega | (simp only [go_sem, List.length_append, Nat.zero_add, Nat.reduceAdd, Nat.reduceLT] <;> omega) | fail)) only [go_sem, ↓reduceIte, Nat.reduceEqDiff, Nat.reduceAdd, Nat.reduceLT, Nat.reduceLeDiff, Nat.reduceBEq, reduceCtorEq]
          omega
        · exact (k4 id (by omega)).trans (old id hid)
      · repeat' (first | simp -implicitDefEqProofs (disch := (first | omega | (simp only [go_sem, List.length_append, Nat.zero_add, Nat.reduceAdd, Nat.reduceLT] <;> omega) | fail)) only [go_sem, ↓reduceIte, Nat.reduceEqDiff, Nat.reduceAdd, Nat.reduceLT, Nat.reduceLeDiff, Nat.reduceBEq, reduceCtorEq, e0, e12, e13, e14] | ((with_reducible first | refine g_dec (fun h d => ?_) (fun h d => ?_) | refine c_dec (fun h d => ?_) (fun h d => ?_) | refine s_dec (fun h d => ?_) (fun h d => ?_) | refine g_ndec (fun h d => ?_) (fun h d => ?_) | refine c_ndec (fun h d => ?_) (fun h d => ?_) | refine g_nbool (fun h d => ?_) (fun h d => ?_) | refine c_nbool (fun h d => ?_) (fun h d => ?_) | refine g_bool (fun h d => ?_) (fun h d => ?_) | refine c_bool (fun h d => ?_) (fun h d => ?_) | refine s_bool (fun h d => ?_) (fun h d => ?_)) <;> (try simp only [d]) <;> (try simp only [Bool.or_eq_true, Bool.and_eq_true, Bool.or_eq_false_iff, Bool.and_eq_false_iff, decide_eq_true_eq, decide_eq_false_iff_not, Bool.not_eq_true', Bool.not_eq_false'] at h) <;> (try omega)))
        all_goals (with_reducible first | refine hN (i + 1) _ _ ?_ ?_ | refine (hE _ _).1 _ ?_ | refine (hE _ _).2.1 ?_)
        all_goals try unfold ls22_0
        repeat' (first | simp -implicitDefEqProofs (disch := (first | omega | (simp only [go_sem, List.length_append, Nat.zero_add, Nat.reduceAdd, Nat.reduceLT] <;> omega) | fail)) only [go_sem, ↓reduceIte, Nat.reduceEqDiff, Nat.reduceAdd, Nat.reduceLT, Nat.reduceLeDiff, Nat.reduceBEq, reduceCtorEq, e0, e12, e13, e14] | ((with_reducible first | refine g_dec (fun h d => ?_) (fun h d => ?_) | refine c_dec (fun h d => ?_) (fun h d => ?_) | refine s_dec (fun h d => ?_) (fun h d => ?_) | refine g_ndec (fun h d => ?_) (fun h d => ?_) | refine c_ndec (fun h d => ?_) (fun h d => ?_) | refine g_nbool (fun h d => ?_) (fun h d => ?_) | refine c_nbool (fun h d => ?_) (fun h d => ?_) | refine g_bool (fun h d => ?_) (fun h d => ?_) | refine c_bool (fun h d => ?_) (fun h d => ?_) | refine s_bool (fun h d => ?_) (fun h d => ?_)) <;> (try simp only [d]) <;> (try simp only [Bool.or_eq_true, Bool.and_eq_true, Bool.or_eq_false_iff, Bool.and_eq_false_iff, decide_eq_true_eq, decide_eq_false_iff_not, Bool.not_eq_true', Bool.not_eq_false'] at h) <;> (try omega)))
        refine ⟨v, rfl, ?_, by omega, fun id hid => old id hid⟩
        have := hv.frame (m' := (w.room 1).room 2) (by simp -implicitDefEqProofs (disch := (first | omega | (simp only [go_sem, List.length_append, Nat.zero_add, Nat.reduceAdd, Nat.reduceLT] <;> omega) | fail)) only [go_sem, ↓reduceIte, Nat.reduceEqDiff, Nat.reduceAdd, Nat.reduceLT, Nat.reduceLeDiff, Nat.reduceBEq, reduceCtorEq]; omega) (fun id _ _ => rfl)
        rw [List.take_of_length_le (by omega), List.append_assoc] at this
        exact this
    all_goals try (simp -implicitDefEqProofs (disch := (first | omega | (simp only [go_sem, List.length_append, Nat.zero_add, Nat.reduceAdd, Nat.reduceLT] <;> omega) | fail)) only [go_sem, ↓reduceIte, Nat.reduceEqDiff, Nat.reduceAdd, Nat.reduceLT, Nat.reduceLeDiff, Nat.reduceBEq, reduceCtorEq]; done)
    · have := (g2.lo (lo' := m.next) (by omega)).frame (m' := q1.room 3) (by simp -implicitDefEqProofs (disch := (first | omega | (simp only [go_sem, List.length_append, Nat.zero_add, Nat.reduceAdd, Nat.reduceLT] <;> omega) | fail)) only [go_sem, ↓reduceIte, Nat.reduceEqDiff, Nat.reduceAdd, Nat.reduceLT, Nat.reduceLeDiff, Nat.reduceBEq, reduceCtorEq]; omega) (fun id _ _ => rfl)
      simpa [encN] using this
    · simp -implicitDefEqProofs (disch := (first | omega | (simp only [go_sem, List.length_append, Nat.zero_add, Nat.reduceAdd, Nat.reduceLT] <;> omega) | fail)) only [go_sem, ↓reduceIte, Nat.reduceEqDiff, Nat.reduceAdd, Nat.reduceLT, Nat.reduceLeDiff, Nat.reduceBEq, reduceCtorEq]
      omega
    · exact fun id hid => g4 id (by omega)
  obtain ⟨o, w, h1, v, rfl, h2, h3, h4⟩ := key
  exact ⟨v, w, h1, h2, h3, h4⟩
end Go.Proofs.YtiijjopdhjpalaaDoor

/-! What the functions of chapter 10 answer: an instruction's operands as bytes. Conditions: none. -/
namespace Go.Proofs.YtiijjopdhjpalaaDoor
open Go
set_option linter.unusedSimpArgs false
set_option linter.unusedVariables false
def encOp (i : GI) : List Int :=
  if form i.op = 0 then [] else if form i.op = 1 then lebL (foldZ i.a) else if form i.op = 7 ∨ form i.op = 8 then lebL i.a.toNat ++ lebL i.b.toNat else lebL i.a.toNat
/-- Operands as a right program has them. -/
def opOk (i : GI) : Prop := (form i.op = 1 → -4611686018427387904 ≤ i.a ∧ i.a ≤ 4611686018427387903) ∧ (form i.op ≠ 0 ∧ form i.op ≠ 1 → 0 ≤ i.a ∧ i.a < 4294967296 ∧ 0 ≤ i.b ∧ i.b < 4294967296)
theorem encOp_len {i : GI} (h : opOk i) : (encOp i).length ≤ 10 := by
  unfold encOp
  split
  · simp
  · split
    · rename_i h1
      have := h.1 h1
      exact lebL_len 10 _ (Nat.lt_trans (foldZ_lt _ this.1 this.2) (by decide)) (by omega)
    · rename_i h0 h1
      have := h.2 ⟨h0, h1⟩
      have ha := lebL_small (n := i.a.toNat) (by omega)
      have hb := lebL_small (n := i.b.toNat) (by omega)
      split
      · rw [List.length_append]; omega
      · omega
theorem sp_Form (n : Nat) (op : Int) (hop : i64 op) (m : AMem) : callsN cfg (n + 3) 40 [avI op] m = some (.ret (avI (form op)), m) := by
  obtain ⟨s, t, l, v, hof⟩ := sp_of (n := n) (op := op) hop
  rw [ce40]
  refine borrow_wp (targs := [avI op]) (by simp only [go_sem]) ?_ rfl
  unfold aBody cf40
  repeat' (first | simp -implicitDefEqProofs (disch := (first | omega | (simp only [go_sem, List.length_append, Nat.zero_add, Nat.reduceAdd, Nat.reduceLT] <;> omega) | fail)) only [go_sem, ↓reduceIte, Nat.reduceEqDiff, Nat.reduceAdd, Nat.reduceLT, Nat.reduceLeDiff, Nat.reduceBEq, reduceCtorEq, hof] | ((with_reducible first | refine g_dec (fun h d => ?_) (fun h d => ?_) | refine c_dec (fun h d => ?_) (fun h d => ?_) | refine s_dec (fun h d => ?_) (fun h d => ?_) | refine g_ndec (fun h d => ?_) (fun h d => ?_) | refine c_ndec (fun h d => ?_) (fun h d => ?_) | refine g_nbool (fun h d => ?_) (fun h d => ?_) | refine c_nbool (fun h d => ?_) (fun h d => ?_) | refine g_bool (fun h d => ?_) (fun h d => ?_) | refine c_bool (fun h d => ?_) (fun h d => ?_) | refine s_bool (fun h d => ?_) (fun h d => ?_)) <;> (try simp only [d]) <;> (try simp only [Bool.or_eq_true, Bool.and_eq_true, Bool.or_eq_false_iff, Bool.and_eq_false_iff, decide_eq_true_eq, decide_eq_false_iff_not, Bool.not_eq_true', Bool.not_eq_false'] at h) <;> (try omega)))
set_option maxHeartbeats 1000000 in
theorem operands_bo (n : Nat) {m : AMem} {lo : Nat} {b : AV} {l : List Int} (hb : BO m lo b l) (hlo : lo ≤ m.next) (i : GI) (hop : i64 i.op) (hi : opOk i) (hl : l.length ≤ 5000000) :
    ∃ v m', callsN cfg (n + 4) 23 [b, i.av] m = some (.ret v, m') ∧ BO m' lo v (l ++ encOp i) ∧ m.next ≤ m'.next ∧ ∀ id, id < m.next → m'.get id = m.get id := by
  rw [ce23]
  have hF := sp_Form n i.op hop
  have key : Wp (aBody (callsN cfg (n + 3)) cf23 [b, i.av] m) fun o w => ∃ v, o = .ret v ∧ BO w lo v (l ++ encOp i) ∧ m.next ≤ w.next ∧ ∀ id, id < m.next → w.get id = m.get id := by
    unfold aBody cf23
    by_cases h0 : form i.op = 0
    · have e : encOp i = [] := if_pos h0
      repeat' (first | simp -implicitDefEqProofs (disch := (first | omega | (simp only [go_sem, List.length_append, Nat.zero_add, Nat.reduceAdd, Nat.reduceLT] <;> omega) | fail)) only [go_sem, ↓reduceIte, Nat.reduceEqDiff, Nat.reduceAdd, Nat.reduceLT, Nat.reduceLeDiff, Nat.reduceBEq, reduceCtorEq, hF, h0] | ((with_reducible first | refine g_dec (fun h d => ?_) (fun h d => ?_) | refine c_dec (fun h d => ?_) (fun h d => ?_) | refine s_dec (fun h d => ?_) (fun h d => ?_) | refine g_ndec (fun h d => ?_) (fun h d => ?_) | refine c_ndec (fun h d => ?_) (fun h d => ?_) | refine g_nbool (fun h d => ?_) (fun h d => ?_) | refine c_nbool (fun h d => ?_) (fun h d => ?_) | refine g_bool (fun h d => ?_) (fun h d => ?_) | refine c_bool (fun h d => ?_) (fun h d => ?_) | refine s_bool (fun h d => ?_) (fun h d => ?_)) <;> (try simp only [d]) <;> (try simp only [Bool.or_eq_true, Bool.and_eq_true, Bool.or_eq_false_iff, Bool.and_eq_false_iff, decide_eq_true_eq, decide_eq_false_iff_not, Bool.not_eq_true', Bool.not_eq_false'] at h) <;> (try omega)))
      refine ⟨b, rfl, ?_, by omega, fun id hid => by simp -implicitDefEqProofs (disch := (first | omega | (simp only [go_sem, List.length_append, Nat.zero_add, Nat.reduceAdd, Nat.reduceLT] <;> omega) | fail)) only [go_sem, ↓reduceIte, Nat.reduceEqDiff, Nat.reduceAdd, Nat.reduceLT, Nat.reduceLeDiff, Nat.reduceBEq, reduceCtorEq]⟩
      rw [e, List.append_nil]
      refine hb.frame (by simp -implicitDefEqProofs (disch := (first | omega | (simp only [go_sem, List.length_append, Nat.zero_add, Nat.reduceAdd, Nat.reduceLT] <;> omega) | fail)) only [go_sem, ↓reduceIte, Nat.reduceEqDiff, Nat.reduceAdd, Nat.reduceLT, Nat.reduceLeDiff, Nat.reduceBEq, reduceCtorEq]; omega) (fun id h1 h2 => by simp -implicitDefEqProofs (disch := (first | omega | (simp only [go_sem, List.length_append, Nat.zero_add, Nat.reduceAdd, Nat.reduceLT] <;> omega) | fail)) only [go_sem, ↓reduceIte, Nat.reduceEqDiff, Nat.reduceAdd, Nat.reduceLT, Nat.reduceLeDiff, Nat.reduceBEq, reduceCtorEq])
    · by_cases h1 : form i.op = 1
      · have e : encOp i = lebL (foldZ i.a) := by unfold encOp; rw [if_neg h0, if_pos h1]
        have hr := hi.1 h1
        obtain ⟨fv, fm, hP⟩ := putInt_any (n + 1) hb i.a (by omega) hr.1 hr.2
        have hP1 := fun q a b => (hP q a b).run
        repeat' (first | simp -implicitDefEqProofs (disch := (first | omega | (simp only [room_next, put_next, kill_next, empty_next, List.length_map, List.length_cons, List.length_nil, List.length_append, Nat.zero_add, Nat.reduceAdd, Nat.reduceLT] <;> omega) | (simp -implicitDefEqProofs (disch := (first | omega | (simp only [room_next, put_next, kill_next, empty_next, List.length_map, List.length_cons, List.length_nil, List.length_append, Nat.zero_add, Nat.reduceAdd, Nat.reduceLT] <;> omega) | fail)) only [go_sem, ↓reduceIte, Nat.reduceEqDiff, Nat.reduceAdd, Nat.reduceLT, Nat.reduceLeDiff, Nat.reduceBEq, reduceCtorEq, hF, h1, hP1]; done) | fail)) only [go_sem, ↓reduceIte, Nat.reduceEqDiff, Nat.reduceAdd, Nat.reduceLT, Nat.reduceLeDiff, Nat.reduceBEq, reduceCtorEq, hF, h1, hP1] | ((with_reducible first | refine g_dec (fun h d => ?_) (fun h d => ?_) | refine c_dec (fun h d => ?_) (fun h d => ?_) | refine s_dec (fun h d => ?_) (fun h d => ?_) | refine g_ndec (fun h d => ?_) (fun h d => ?_) | refine c_ndec (fun h d => ?_) (fun h d => ?_) | refine g_nbool (fun h d => ?_) (fun h d => ?_) | refine c_nbool (fun h d => ?_) (fun h d => ?_) | refine g_bool (fun h d => ?_) (fun h d => ?_) | refine c_bool (fun h d => ?_) (fun h d => ?_) | refine s_bool (fun h d => ?_) (fun h d => ?_)) <;> (try simp only [d]) <;> (try simp only [Bool.or_eq_true, Bool.and_eq_true, Bool.or_eq_false_iff, Bool.and_eq_false_iff, decide_eq_true_eq, decide_eq_false_iff_not, Bool.not_eq_true', Bool.not_eq_false'] at h) <;> (try omega)))
        exact (hP _ (by simp -implicitDefEqProofs (disch := (first | omega | (simp only [go_sem, List.length_append, Nat.zero_add, Nat.reduceAdd, Nat.reduceLT] <;> omega) | fail)) only [go_sem, ↓reduceIte, Nat.reduceEqDiff, Nat.reduceAdd, Nat.reduceLT, Nat.reduceLeDiff, Nat.reduceBEq, reduceCtorEq]) (by simp -implicitDefEqProofs (disch := (first | omega | (simp only [go_sem, List.length_append, Nat.zero_add, Nat.reduceAdd, Nat.reduceLT] <;> omega) | fail)) only [go_sem, ↓reduceIte, Nat.reduceEqDiff, Nat.reduceAdd, Nat.reduceLT, Nat.reduceLeDiff, Nat.reduceBEq, reduceCtorEq]; omega)).done (by simp -implicitDefEqProofs (disch := (first | omega | (simp only [go_sem, List.length_append, Nat.zero_add, Nat.reduceAdd, Nat.reduceLT] <;> omega) | fail)) only [go_sem, ↓reduceIte, Nat.reduceEqDiff, Nat.reduceAdd, Nat.reduceLT, Nat.reduceLeDiff, Nat.reduceBEq, reduceCtorEq]) (by simp -implicitDefEqProofs (disch := (first | omega | (simp only [go_sem, List.length_append, Nat.zero_add, Nat.reduceAdd, Nat.reduceLT] <;> omega) | fail)) only [go_sem, ↓reduceIte, Nat.reduceEqDiff, Nat.reduceAdd, Nat.reduceLT, Nat.reduceLeDiff, Nat.reduceBEq, reduceCtorEq]; omega) hlo (by rw [e])
      · have hr := hi.2 ⟨h0, h1⟩
        have ea : (i.a.toNat : Int) = i.a := by omega
        have eb : (i.b.toNat : Int) = i.b := by omega
        by_cases h7 : form i.op = 7 ∨ form i.op = 8
        · have e : encOp i = lebL i.a.toNat ++ lebL i.b.toNat := by unfold encOp; rw [if_neg h0, if_neg h1, if_pos h7]
          have hla := lebL_small (n := i.a.toNat) (by omega)
          obtain ⟨fv, fm, hP⟩ := put_any (n + 2) hb i.a.toNat (by omega) (by omega)
          obtain ⟨gv, gm, hQ⟩ := put_more (n + 2) hP i.b.toNat (by rw [List.length_append]; omega) (by omega)
          rw [ea] at hP
          rw [eb] at hQ
          have hP1 := fun q a b => (hP q a b).run
          have hP4 := fun q a b => (hP q a b).old
          have hQ1 := fun q a b p c d => (hQ q a b p c d).run
          have hPQ := fun q a b p c d => (hP q a b).done2 (lo := lo) (m := m) (l' := l ++ encOp i) (hQ q a b p c d)
          repeat' (first | simp -implicitDefEqProofs (disch := (first | omega | (simp only [room_next, put_next, kill_next, empty_next, List.length_map, List.length_cons, List.length_nil, List.length_append, Nat.zero_add, Nat.reduceAdd, Nat.reduceLT] <;> omega) | (simp -implicitDefEqProofs (disch := (first | omega | (simp only [room_next, put_next, kill_next, empty_next, List.length_map, List.length_cons, List.length_nil, List.length_append, Nat.zero_add, Nat.reduceAdd, Nat.reduceLT] <;> omega) | fail)) only [go_sem, ↓reduceIte, Nat.reduceEqDiff, Nat.reduceAdd, Nat.reduceLT, Nat.reduceLeDiff, Nat.reduceBEq, reduceCtorEq, hF, hP1, hP4, hQ1]; done) | fail)) only [go_sem, ↓reduceIte, Nat.reduceEqDiff, Nat.reduceAdd, Nat.reduceLT, Nat.reduceLeDiff, Nat.reduceBEq, reduceCtorEq, hF, hP1, hP4, hQ1] | ((with_reducible first | refine g_dec (fun h d => ?_) (fun h d => ?_) | refine c_dec (fun h d => ?_) (fun h d => ?_) | refine s_dec (fun h d => ?_) (fun h d => ?_) | refine g_ndec (fun h d => ?_) (fun h d => ?_) | refine c_ndec (fun h d => ?_) (fun h d => ?_) | refine g_nbool (fun h d => ?_) (fun h d => ?_) | refine c_nbool (fun h d => ?_) (fun h d => ?_) | refine g_bool (fun h d => ?_) (fun h d => ?_) | refine c_bool (fun h d => ?_) (fun h d => ?_) | refine s_bool (fun h d => ?_) (fun h d => ?_)) <;> (try simp only [d]) <;> (try simp only [Bool.or_eq_true, Bool.and_eq_true, Bool.or_eq_false_iff, Bool.and_eq_false_iff, decide_eq_true_eq, decide_eq_false_iff_not, Bool.not_eq_true', Bool.not_eq_false'] at h) <;> (try omega)))
          all_goals refine hPQ _ ?_ ?_ _ ?_ ?_ ?_ ?_ ?_ ?_ hlo (by rw [e, List.append_assoc])
          all_goals first | (simp -implicitDefEqProofs (disch := (first | omega | (simp only [go_sem, List.length_append, Nat.zero_add, Nat.reduceAdd, Nat.reduceLT] <;> omega) | fail)) only [go_sem, ↓reduceIte, Nat.reduceEqDiff, Nat.reduceAdd, Nat.reduceLT, Nat.reduceLeDiff, Nat.reduceBEq, reduceCtorEq]; done) | (simp -implicitDefEqProofs (disch := (first | omega | (simp only [go_sem, List.length_append, Nat.zero_add, Nat.reduceAdd, Nat.reduceLT] <;> omega) | fail)) only [go_sem, ↓reduceIte, Nat.reduceEqDiff, Nat.reduceAdd, Nat.reduceLT, Nat.reduceLeDiff, Nat.reduceBEq, reduceCtorEq]; omega)
        · have e : encOp i = lebL i.a.toNat := by unfold encOp; rw [if_neg h0, if_neg h1, if_neg h7]
          obtain ⟨fv, fm, hP⟩ := put_any (n + 2) hb i.a.toNat (by omega) (by omega)
          rw [ea] at hP
          have hP1 := fun q a b => (hP q a b).run
          repeat' (first | simp -implicitDefEqProofs (disch := (first | omega | (simp only [room_next, put_next, kill_next, empty_next, List.length_map, List.length_cons, List.length_nil, List.length_append, Nat.zero_add, Nat.reduceAdd, Nat.reduceLT] <;> omega) | (simp -implicitDefEqProofs (disch := (first | omega | (simp only [room_next, put_next, kill_next, empty_next, List.length_map, List.length_cons, List.length_nil, List.length_append, Nat.zero_add, Nat.reduceAdd, Nat.reduceLT] <;> omega) | fail)) only [go_sem, ↓reduceIte, Nat.reduceEqDiff, Nat.reduceAdd, Nat.reduceLT, Nat.reduceLeDiff, Nat.reduceBEq, reduceCtorEq, hF, hP1]; done) | fail)) only [go_sem, ↓reduceIte, Nat.reduceEqDiff, Nat.reduceAdd, Nat.reduceLT, Nat.reduceLeDiff, Nat.reduceBEq, reduceCtorEq, hF, hP1] | ((with_reducible first | refine g_dec (fun h d => ?_) (fun h d => ?_) | refine c_dec (fun h d => ?_) (fun h d => ?_) | refine s_dec (fun h d => ?_) (fun h d => ?_) | refine g_ndec (fun h d => ?_) (fun h d => ?_) | refine c_ndec (fun h d => ?_) (fun h d => ?_) | refine g_nbool (fun h d => ?_) (fun h d => ?_) | refine c_nbool (fun h d => ?_) (fun h d => ?_) | refine g_bool (fun h d => ?_) (fun h d => ?_) | refine c_bool (fun h d => ?_) (fun h d => ?_) | refine s_bool (fun h d => ?_) (fun h d => ?_)) <;> (try simp only [d]) <;> (try simp only [Bool.or_eq_true, Bool.and_eq_true, Bool.or_eq_false_iff, Bool.and_eq_false_iff, decide_eq_true_eq, decide_eq_false_iff_not, Bool.not_eq_true', Bool.not_eq_false'] at h) <;> (try omega)))
          all_goals exact (hP _ (by simp -implicitDefEqProofs (disch := (first | omega | (simp only [go_sem, List.length_append, Nat.zero_add, Nat.reduceAdd, Nat.reduceLT] <;> omega) | fail)) only [go_sem, ↓reduceIte, Nat.reduceEqDiff, Nat.reduceAdd, Nat.reduceLT, Nat.reduceLeDiff, Nat.reduceBEq, reduceCtorEq]) (by simp -implicitDefEqProofs (disch := (first | omega | (simp only [go_sem, List.length_append, Nat.zero_add, Nat.reduceAdd, Nat.reduceLT] <;> omega) | fail)) only [go_sem, ↓reduceIte, Nat.reduceEqDiff, Nat.reduceAdd, Nat.reduceLT, Nat.reduceLeDiff, Nat.reduceBEq, reduceCtorEq]; omega)).done (by simp -implicitDefEqProofs (disch := (first | omega | (simp only [go_sem, List.length_append, Nat.zero_add, Nat.reduceAdd, Nat.reduceLT] <;> omega) | fail)) only [go_sem, ↓reduceIte, Nat.reduceEqDiff, Nat.reduceAdd, Nat.reduceLT, Nat.reduceLeDiff, Nat.reduceBEq, reduceCtorEq]) (by simp -implicitDefEqProofs (disch := (first | omega | (simp only [go_sem, List.length_append, Nat.zero_add, Nat.reduceAdd, Nat.reduceLT] <;> omega) | fail)) only [go_sem, ↓reduceIte, Nat.reduceEqDiff, Nat.reduceAdd, Nat.reduceLT, Nat.reduceLeDiff, Nat.reduceBEq, reduceCtorEq]; omega) hlo (by rw [e])
  obtain ⟨o, w, h1, v, rfl, h2, h3, h4⟩ := key
  exact ⟨v, w, h1, h2, h3, h4⟩
end Go.Proofs.YtiijjopdhjpalaaDoor
