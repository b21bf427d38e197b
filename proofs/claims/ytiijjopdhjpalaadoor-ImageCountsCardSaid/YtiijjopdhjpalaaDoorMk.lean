/- What the functions of chapter 10 answer: tidewayref10.Same. Conditions: none. -/
import Derived.Test.YtiijjopdhjpalaaDoorMh
/-! What the functions of chapter 10 answer: numbers as bytes. Conditions: none. -/
namespace Go.Proofs.YtiijjopdhjpalaaDoor
open Go
set_option linter.unusedSimpArgs false
set_option linter.unusedVariables false
@[reducible] def avB (z : Int) : AV := .int .u8 z
/-- A number in its bytes. -/
def lebL (n : Nat) : List Int := if h : n < 128 then [(n : Int)] else ((n % 128 + 128 : Nat) : Int) :: lebL (n / 128)
termination_by n
decreasing_by omega
theorem lebL_lt {n : Nat} (h : n < 128) : lebL n = [(n : Int)] := by rw [lebL, dif_pos h]
theorem lebL_ge {n : Nat} (h : ¬ n < 128) : lebL n = ((n % 128 + 128 : Nat) : Int) :: lebL (n / 128) := by rw [lebL, dif_neg h]
theorem lebL_len : ∀ (k n : Nat), n < 128 ^ k → 0 < k → (lebL n).length ≤ k
  | 0, n, h, h0 => by omega
  | k + 1, n, h, _ => by
    by_cases hn : n < 128
    · rw [lebL_lt hn]; simp
    · rw [lebL_ge hn, List.length_cons]
      have hk : 0 < k := by
        rcases k with _ | k
        · simp at h; omega
        · omega
      have := lebL_len k (n / 128) (by
        rw [Nat.div_lt_iff_lt_mul (by omega)]
        rw [Nat.pow_succ] at h
        exact h) hk
      omega
theorem or128_all : (List.range 256).all (fun a => decide (((BitVec.ofInt 8 (a : Int) ||| BitVec.ofInt 8 128).toNat) = a % 128 + 128)) = true := by kernel_rfl
@[go_sem] theorem b_or128 (a : Int) (h0 : 0 ≤ a) (h1 : a < 256) : aBin .or (.int .u8 a) (.int .u8 128) = some (.int .u8 (a % 128 + 128)) := by
  have h := or128_all
  rw [List.all_eq_true] at h
  have := of_decide_eq_true (h a.toNat (List.mem_range.2 (by omega)))
  rw [show ((a.toNat : Nat) : Int) = a by omega] at this
  show some (AV.int .u8 (IntKind.u8.wrap (((BitVec.ofInt 8 a ||| BitVec.ofInt 8 128).toNat : Nat) : Int))) = _
  rw [this]
  congr 2
  unfold IntKind.wrap
  simp only [IntKind.bits, IntKind.signed, Bool.false_and, show (2 : Int) ^ 8 = 256 from rfl, Bool.false_eq_true, if_false]
  omega
@[go_sem] theorem b_shr7 (a : Int) (h0 : 0 ≤ a) (k : IntKind) : aBin .shr (.int .u64 a) (.int k 7) = some (.int .u64 (a / 128)) := by
  show (if (7 : Int) < 0 then none else some (AV.int .u64 (a.fdiv (2 ^ (min (7 : Int).toNat IntKind.u64.bits))))) = _
  rw [if_neg (by omega)]
  congr 2
  show a.fdiv 128 = a / 128
  exact Int.fdiv_eq_ediv_of_nonneg a (by omega)
@[go_sem] theorem wrap_u64 (n : Int) (h0 : 0 ≤ n) (h1 : n < 18446744073709551616) : IntKind.wrap .u64 n = n := by
  unfold IntKind.wrap
  simp only [IntKind.bits, IntKind.signed, Bool.false_and, Bool.false_eq_true, if_false, show (2 : Int) ^ 64 = 18446744073709551616 from rfl]
  omega
theorem wrap_u8 (n : Int) : IntKind.wrap .u8 n = n % 256 := by
  unfold IntKind.wrap
  simp only [IntKind.bits, IntKind.signed, Bool.false_and, Bool.false_eq_true, if_false, show (2 : Int) ^ 8 = 256 from rfl]
@[go_sem] theorem mksK_g (m : AMem) (new t sz bytes : Nat) (zero : AV) (k k' : IntKind) (n c : Int) (h0 : 0 ≤ n) (h00 : n ≤ c) (h1 : bytes * c ≤ 281474976710656) (h2 : c ≤ 9223372036854775807) :
    mksK m new t sz bytes zero (.int k n) (.int k' c) = some (.val (.sl sz new 0 n.toNat) (m.put new (.arr t sz (List.replicate n.toNat zero)))) := by
  simp only [mksK, decide_eq_true h0, decide_eq_true h00, decide_eq_true h1, decide_eq_true h2]
  rfl
/-- A copy onto the whole of a new slice. -/
theorem copy_all {m : AMem} {id t : Nat} {xs : List AV} {z : AV} (h : m.get id = some (.arr t 1 (List.replicate xs.length z))) : ∃ m', aCopy m 1 (.sl 1 id 0 xs.length) xs = some (.val (avI xs.length) m') ∧ m'.next = m.next ∧ (∀ j, j ≠ id → m'.get j = m.get j) ∧ (id < m.next → m'.get id = some (.arr t 1 xs)) := by
  unfold aCopy
  simp only
  rw [if_neg (by simp)]
  by_cases hn : xs.length = 0
  · rw [if_pos hn]
    have : xs = [] := List.eq_nil_of_length_eq_zero hn
    subst this
    exact ⟨m, rfl, rfl, fun _ _ => rfl, fun _ => h⟩
  · rw [if_neg hn, h]
    simp only
    rw [if_pos ⟨trivial, by simp⟩]
    refine ⟨m.put id (.arr t 1 xs), ?_, rfl, fun j hj => put_ne _ _ _ _ hj, fun hid => put_same _ _ _ hid⟩
    rw [Nat.min_self, List.take_zero, List.nil_append, List.take_length, Nat.zero_add, List.drop_of_length_le (by simp), List.append_nil]
/-- Bytes, owned. -/
def BO (m : AMem) (lo : Nat) (v : AV) (l : List Int) : Prop := ∃ id, v = .sl 1 id 0 l.length ∧ lo ≤ id ∧ id < m.next ∧ m.get id = some (.arr 5 1 (l.map avB))
set_option maxHeartbeats 1000000 in
theorem sp_Put (n : Nat) (m : AMem) (b : AV) (l : List Int) (x : Nat) (hl : l.length ≤ 10000000) (hx : x < 18446744073709551616) (h1 : lenK b = some (avI l.length)) (h2 : ∀ q : AMem, (∀ id, id < m.next → q.get id = m.get id) → elems q 1 b = some (l.map avB)) :
    ∃ v m', callsN cfg (n + 1) 21 [b, .int .u64 x] m = some (.ret v, m') ∧ BO m' m.next v (l ++ lebL x) ∧ m.next ≤ m'.next ∧ ∀ id, id < m.next → m'.get id = m.get id := by
  rw [ce21]
  have key : Wp (aBody (callsN cfg n) cf21 [b, .int .u64 x] m) fun o m' => ∃ v, o = .ret v ∧ BO m' m.next v (l ++ lebL x) ∧ m.next ≤ m'.next ∧ ∀ id, id < m.next → m'.get id = m.get id := by
    unfold aBody cf21
    obtain ⟨q2, c1, c2, c3, c4⟩ := copy_all (m := ((((m.room 1).room 7).put (m.next + 1 + 5) (.arr 5 1 (List.replicate l.length (.int .u8 0)))).room 3)) (id := m.next + 1 + 5) (t := 5) (xs := l.map avB) (z := .int .u8 0) sxA
    rw [List.length_map] at c1
    have he := h2 ((((m.room 1).room 7).put (m.next + 1 + 5) (.arr 5 1 (List.replicate l.length (.int .u8 0)))).room 3) (fun id hid => by simp -implicitDefEqProofs (disch := first | exact soD | fail) only [go_sem, ↓reduceIte, Nat.reduceEqDiff, Nat.reduceAdd, Nat.reduceLT, Nat.reduceLeDiff, Nat.reduceBEq, reduceCtorEq])
    simp only [room_next, put_next] at c2
    have c4 := c4 (by first | (simp -implicitDefEqProofs (disch := first | exact soD | fail) only [go_sem, ↓reduceIte, Nat.reduceEqDiff, Nat.reduceAdd, Nat.reduceLT, Nat.reduceLeDiff, Nat.reduceBEq, reduceCtorEq]; done) | (simp -implicitDefEqProofs (disch := first | exact soD | fail) only [go_sem, ↓reduceIte, Nat.reduceEqDiff, Nat.reduceAdd, Nat.reduceLT, Nat.reduceLeDiff, Nat.reduceBEq, reduceCtorEq]; omega))
    repeat' (first | simp -implicitDefEqProofs (disch := first | exact soD | fail) only [go_sem, ↓reduceIte, Nat.reduceEqDiff, Nat.reduceAdd, Nat.reduceLT, Nat.reduceLeDiff, Nat.reduceBEq, reduceCtorEq, h1, he, c1] | ((with_reducible first | refine g_dec ?_ ?_ | refine c_dec ?_ ?_ | refine s_dec ?_ ?_ | refine g_ndec ?_ ?_ | refine c_ndec ?_ ?_ | refine g_nbool ?_ ?_ | refine c_nbool ?_ ?_ | refine g_bool ?_ ?_ | refine c_bool ?_ ?_ | refine s_bool ?_ ?_) <;> intro h d <;> (try simp only [d]) <;> (try simp only [B1, B2, B3, B4, B5, B6, B7, B8] at h) <;> (try omega)))
    refine wp_loop (fun (s : Nat × List Int) (env : AEnv) (w : AMem) => s.1 ≤ x ∧ s.2 ++ lebL s.1 = lebL x ∧ ∃ id, m.next ≤ id ∧ id < w.next ∧ w.get id = some (.arr 5 1 ((l ++ s.2).map avB)) ∧ (∀ id, id < m.next → w.get id = m.get id) ∧ m.next ≤ w.next ∧ env 1 = .int .u64 s.1 ∧ env 5 = .sl 1 id 0 (l.length + s.2.length)) (fun s => (lebL s.1).length)
      (fun s env w K' ⟨hk, hs, id, i1, i2, gI, old, hn, e1, e5⟩ hN hE => ?_) LOOPK (x, []) _ _ ⟨Nat.le_refl _, rfl, m.next + 1 + 5, ?_, ?_, ?_, ?_, ?_, ?_, ?_⟩ ?_
    · obtain ⟨k, acc⟩ := s
      simp only at hk hs gI e1 e5 hN
      have hal := lebL_len 10 x (Nat.lt_trans hx (by decide)) (by omega)
      have hacc : acc.length < 10 := by
        have h3 := congrArg List.length hs
        rw [List.length_append] at h3
        have : 0 < (lebL k).length := by
          by_cases h : k < 128
          · rw [lebL_lt h]; simp
          · rw [lebL_ge h]; simp
        omega
      have ht : List.take (l.length + acc.length) ((l ++ acc).map avB) = (l ++ acc).map avB := List.take_of_length_le (by simp)
      have hlen : ((l ++ acc).map avB).length = l.length + acc.length := by simp
      unfold lb21_0
      by_cases hk2 : k < 128
      · repeat' (first | simp -implicitDefEqProofs (disch := first | exact soD | fail) only [go_sem, ↓reduceIte, Nat.reduceEqDiff, Nat.reduceAdd, Nat.reduceLT, Nat.reduceLeDiff, Nat.reduceBEq, reduceCtorEq, e1, e5, gI] | ((with_reducible first | refine g_dec ?_ ?_ | refine c_dec ?_ ?_ | refine s_dec ?_ ?_ | refine g_ndec ?_ ?_ | refine c_ndec ?_ ?_ | refine g_nbool ?_ ?_ | refine c_nbool ?_ ?_ | refine g_bool ?_ ?_ | refine c_bool ?_ ?_ | refine s_bool ?_ ?_) <;> intro h d <;> (try simp only [d]) <;> (try simp only [B1, B2, B3, B4, B5, B6, B7, B8] at h) <;> (try omega)))
        all_goals (with_reducible first | refine hN ((k, acc)) _ _ ?_ ?_ | refine (hE _ _).1 _ ?_ | refine (hE _ _).2.1 ?_)
        all_goals try unfold ls21_0
        all_goals repeat' (first | simp -implicitDefEqProofs (disch := first | exact soD | fail) only [go_sem, ↓reduceIte, Nat.reduceEqDiff, Nat.reduceAdd, Nat.reduceLT, Nat.reduceLeDiff, Nat.reduceBEq, reduceCtorEq, e1, e5, gI, wrap_u8, ht] | ((with_reducible first | refine g_dec ?_ ?_ | refine c_dec ?_ ?_ | refine s_dec ?_ ?_ | refine g_ndec ?_ ?_ | refine c_ndec ?_ ?_ | refine g_nbool ?_ ?_ | refine c_nbool ?_ ?_ | refine g_bool ?_ ?_ | refine c_bool ?_ ?_ | refine s_bool ?_ ?_) <;> intro h d <;> (try simp only [d]) <;> (try simp only [B1, B2, B3, B4, B5, B6, B7, B8] at h) <;> (try omega)))
        have hx' : lebL x = acc ++ [(k : Int)] := by rw [← hs, lebL_lt hk2]
        have hm : (k : Int) % 256 = k := by omega
        refine ⟨_, rfl, ⟨w.next + 2 + 4, ?_, by omega, ?_, ?_⟩, by omega, fun j hj => ?_⟩
        · rw [hx']
          congr 1
          simp only [List.length_append, List.length_cons, List.length_nil]
          omega
        · first | (simp -implicitDefEqProofs (disch := first | exact soD | fail) only [go_sem, ↓reduceIte, Nat.reduceEqDiff, Nat.reduceAdd, Nat.reduceLT, Nat.reduceLeDiff, Nat.reduceBEq, reduceCtorEq]; done) | (simp -implicitDefEqProofs (disch := first | exact soD | fail) only [go_sem, ↓reduceIte, Nat.reduceEqDiff, Nat.reduceAdd, Nat.reduceLT, Nat.reduceLeDiff, Nat.reduceBEq, reduceCtorEq]; omega)
        · simp -implicitDefEqProofs (disch := first | exact soD | fail) only [go_sem, ↓reduceIte, Nat.reduceEqDiff, Nat.reduceAdd, Nat.reduceLT, Nat.reduceLeDiff, Nat.reduceBEq, reduceCtorEq]
          rw [hx', hm, ← List.append_assoc, List.map_append (l₁ := l ++ acc)]
          rfl
        · simp -implicitDefEqProofs (disch := first | exact soD | fail) only [go_sem, ↓reduceIte, Nat.reduceEqDiff, Nat.reduceAdd, Nat.reduceLT, Nat.reduceLeDiff, Nat.reduceBEq, reduceCtorEq]
          exact old j hj
      · repeat' (first | simp -implicitDefEqProofs (disch := first | exact soD | fail) only [go_sem, ↓reduceIte, Nat.reduceEqDiff, Nat.reduceAdd, Nat.reduceLT, Nat.reduceLeDiff, Nat.reduceBEq, reduceCtorEq, e1, e5, gI, wrap_u8, ht] | ((with_reducible first | refine g_dec ?_ ?_ | refine c_dec ?_ ?_ | refine s_dec ?_ ?_ | refine g_ndec ?_ ?_ | refine c_ndec ?_ ?_ | refine g_nbool ?_ ?_ | refine c_nbool ?_ ?_ | refine g_bool ?_ ?_ | refine c_bool ?_ ?_ | refine s_bool ?_ ?_) <;> intro h d <;> (try simp only [d]) <;> (try simp only [B1, B2, B3, B4, B5, B6, B7, B8] at h) <;> (try omega)))
        have hm : (k : Int) % 256 % 128 + 128 = ((k % 128 + 128 : Nat) : Int) := by omega
        have hd : (k : Int) / 128 = ((k / 128 : Nat) : Int) := by omega
        refine hN (k / 128, acc ++ [((k % 128 + 128 : Nat) : Int)]) _ _ ⟨by show k / 128 ≤ x; omega, ?_, w.next + 2 + 5, by omega, ?_, ?_, fun j hj => ?_, ?_, ?_, ?_⟩ (by show (lebL (k / 128)).length < (lebL k).length; rw [lebL_ge hk2, List.length_cons]; omega)
        · show (acc ++ [((k % 128 + 128 : Nat) : Int)]) ++ lebL (k / 128) = lebL x
          rw [← hs, lebL_ge hk2, List.append_assoc]
          rfl
        · first | (simp -implicitDefEqProofs (disch := first | exact soD | fail) only [go_sem, ↓reduceIte, Nat.reduceEqDiff, Nat.reduceAdd, Nat.reduceLT, Nat.reduceLeDiff, Nat.reduceBEq, reduceCtorEq]; done) | (simp -implicitDefEqProofs (disch := first | exact soD | fail) only [go_sem, ↓reduceIte, Nat.reduceEqDiff, Nat.reduceAdd, Nat.reduceLT, Nat.reduceLeDiff, Nat.reduceBEq, reduceCtorEq]; omega)
        · show _ = some (AObj.arr 5 1 ((l ++ (acc ++ [((k % 128 + 128 : Nat) : Int)])).map avB))
          simp -implicitDefEqProofs (disch := first | exact soD | fail) only [go_sem, ↓reduceIte, Nat.reduceEqDiff, Nat.reduceAdd, Nat.reduceLT, Nat.reduceLeDiff, Nat.reduceBEq, reduceCtorEq]
          rw [hm, ← List.append_assoc, List.map_append (l₁ := l ++ acc)]
          rfl
        · simp -implicitDefEqProofs (disch := first | exact soD | fail) only [go_sem, ↓reduceIte, Nat.reduceEqDiff, Nat.reduceAdd, Nat.reduceLT, Nat.reduceLeDiff, Nat.reduceBEq, reduceCtorEq]
          exact old j hj
        · first | (simp -implicitDefEqProofs (disch := first | exact soD | fail) only [go_sem, ↓reduceIte, Nat.reduceEqDiff, Nat.reduceAdd, Nat.reduceLT, Nat.reduceLeDiff, Nat.reduceBEq, reduceCtorEq]; done) | (simp -implicitDefEqProofs (disch := first | exact soD | fail) only [go_sem, ↓reduceIte, Nat.reduceEqDiff, Nat.reduceAdd, Nat.reduceLT, Nat.reduceLeDiff, Nat.reduceBEq, reduceCtorEq]; omega)
        · simp -implicitDefEqProofs (disch := first | exact soD | fail) only [go_sem, ↓reduceIte, Nat.reduceEqDiff, Nat.reduceAdd, Nat.reduceLT, Nat.reduceLeDiff, Nat.reduceBEq, reduceCtorEq]
          rw [hd]
        · simp -implicitDefEqProofs (disch := first | exact soD | fail) only [go_sem, ↓reduceIte, Nat.reduceEqDiff, Nat.reduceAdd, Nat.reduceLT, Nat.reduceLeDiff, Nat.reduceBEq, reduceCtorEq]
          rw [List.length_append]
          rfl
    · omega
    · omega
    · rw [c4]; simp
    · intro id hid
      rw [c3 id (by omega)]
      simp -implicitDefEqProofs (disch := first | exact soD | fail) only [go_sem, ↓reduceIte, Nat.reduceEqDiff, Nat.reduceAdd, Nat.reduceLT, Nat.reduceLeDiff, Nat.reduceBEq, reduceCtorEq]
    · omega
    · simp -implicitDefEqProofs (disch := first | exact soD | fail) only [go_sem, ↓reduceIte, Nat.reduceEqDiff, Nat.reduceAdd, Nat.reduceLT, Nat.reduceLeDiff, Nat.reduceBEq, reduceCtorEq]
    · simp -implicitDefEqProofs (disch := first | exact soD | fail) only [go_sem, ↓reduceIte, Nat.reduceEqDiff, Nat.reduceAdd, Nat.reduceLT, Nat.reduceLeDiff, Nat.reduceBEq, reduceCtorEq]
    · rw [LOOPK_eq]
      have := lebL_len 10 x (Nat.lt_trans hx (by decide)) (by omega)
      show (lebL x).length < _
      omega
  obtain ⟨o, m', h1, v, rfl, h2⟩ := key
  exact ⟨v, m', h1, h2⟩
end Go.Proofs.YtiijjopdhjpalaaDoor

/-! What the functions of chapter 10 answer: numbers below 0, lists, operands as bytes. Conditions: none. -/
namespace Go.Proofs.YtiijjopdhjpalaaDoor
open Go
set_option linter.unusedSimpArgs false
set_option linter.unusedVariables false
/-- A number that may be below 0, folded. -/
def foldZ (n : Int) : Nat := if 0 ≤ n then (2 * n).toNat else (-2 * n - 1).toNat
@[go_sem] theorem b_shl1 (a : Int) (k : IntKind) (h0 : -4611686018427387904 ≤ a) (h1 : a ≤ 4611686018427387903) : aBin .shl (.int .i64 a) (.int k 1) = some (.int .i64 (2 * a)) := by
  show (if (1 : Int) < 0 then none else some (AV.int .i64 (IntKind.i64.wrap (a * 2 ^ (min (1 : Int).toNat IntKind.i64.bits))))) = _
  rw [if_neg (by omega), show a * 2 ^ (min (1 : Int).toNat IntKind.i64.bits) = 2 * a by show a * 2 ^ 1 = 2 * a; omega, wrap_i64 _ (by omega) (by omega)]
@[go_sem] theorem b_shr63 (a : Int) (k : IntKind) (h0 : -4611686018427387904 ≤ a) (h1 : a ≤ 4611686018427387903) : aBin .shr (.int .i64 a) (.int k 63) = some (.int .i64 (if 0 ≤ a then 0 else -1)) := by
  show (if (63 : Int) < 0 then none else some (AV.int .i64 (a.fdiv (2 ^ (min (63 : Int).toNat IntKind.i64.bits))))) = _
  rw [if_neg (by omega)]
  congr 2
  show a.fdiv 9223372036854775808 = _
  rw [Int.fdiv_eq_ediv_of_nonneg a (by omega)]
  split <;> omega
theorem wrap_u64_neg (n : Int) (h0 : n < 0) (h1 : -18446744073709551616 ≤ n) : IntKind.wrap .u64 n = n + 18446744073709551616 := by
  unfold IntKind.wrap
  simp only [IntKind.bits, IntKind.signed, Bool.false_and, Bool.false_eq_true, if_false, show (2 : Int) ^ 64 = 18446744073709551616 from rfl]
  omega
theorem ofInt_toNat (a : Int) (h0 : 0 ≤ a) (h1 : a < 18446744073709551616) : (BitVec.ofInt 64 a).toNat = a.toNat := by
  rw [BitVec.toNat_ofInt]
  congr 1
  show a % 18446744073709551616 = a
  omega
theorem xor_0 (a : Int) (h0 : 0 ≤ a) (h1 : a < 18446744073709551616) : aBin .xor (.int .u64 a) (.int .u64 0) = some (.int .u64 a) := by
  show some (AV.int .u64 (IntKind.u64.wrap (((BitVec.ofInt 64 a ^^^ BitVec.ofInt 64 0).toNat : Nat) : Int))) = _
  have : BitVec.ofInt 64 a ^^^ BitVec.ofInt 64 0 = BitVec.ofInt 64 a := BitVec.xor_zero
  rw [this, ofInt_toNat a h0 h1, wrap_u64 _ (by omega) (by omega)]
  congr 2
  omega
theorem xor_1 (a : Int) (h0 : 0 ≤ a) (h1 : a < 18446744073709551616) : aBin .xor (.int .u64 a) (.int .u64 18446744073709551615) = some (.int .u64 (18446744073709551615 - a)) := by
  show some (AV.int .u64 (IntKind.u64.wrap (((BitVec.ofInt 64 a ^^^ BitVec.ofInt 64 18446744073709551615).toNat : Nat) : Int))) = _
  have : BitVec.ofInt 64 a ^^^ BitVec.ofInt 64 18446744073709551615 = ~~~ BitVec.ofInt 64 a := by
    rw [show BitVec.ofInt 64 18446744073709551615 = BitVec.allOnes 64 from rfl, BitVec.xor_allOnes]
  rw [this, BitVec.toNat_not, ofInt_toNat a h0 h1]
  have e : ((2 ^ 64 - 1 - a.toNat : Nat) : Int) = 18446744073709551615 - a := by
    show ((18446744073709551615 - a.toNat : Nat) : Int) = _
    omega
  rw [e, wrap_u64 _ (by omega) (by omega)]
theorem foldZ_lt (a : Int) (h0 : -4611686018427387904 ≤ a) (h1 : a ≤ 4611686018427387903) : foldZ a < 18446744073709551616 := by
  unfold foldZ; split <;> omega
theorem BO.lenK {m : AMem} {lo : Nat} {v : AV} {l : List Int} (h : BO m lo v l) : lenK v = some (avI l.length) := by
  obtain ⟨id, rfl, _⟩ := h
  rfl
theorem BO.elems {m : AMem} {lo : Nat} {v : AV} {l : List Int} (h : BO m lo v l) : ∀ q : AMem, (∀ id, id < m.next → q.get id = m.get id) → elems q 1 v = some (l.map avB) := by
  obtain ⟨id, rfl, _, h2, h3⟩ := h
  intro q hq
  rw [y_elems_sl, hq id h2, h3, elK_s _ _ _ _ _ (by simp), List.drop_zero, List.take_of_length_le (by simp)]
theorem BO.frame {m m' : AMem} {lo : Nat} {v : AV} {l : List Int} (h : BO m lo v l) (hn : m.next ≤ m'.next) (hf : ∀ id, id < m.next → lo ≤ id → m'.get id = m.get id) : BO m' lo v l := by
  obtain ⟨id, rfl, h1, h2, h3⟩ := h
  exact ⟨id, rfl, h1, by omega, (hf id h2 h1).trans h3⟩
theorem BO.lo {m : AMem} {lo lo' : Nat} {v : AV} {l : List Int} (h : BO m lo v l) (hl : lo' ≤ lo) : BO m lo' v l := by
  obtain ⟨id, rfl, h1, h2, h3⟩ := h
  exact ⟨id, rfl, by omega, h2, h3⟩
/-- What a call that puts bytes behind bytes leaves. -/
structure Puts (m : AMem) (r : Res) (l : List Int) (v : AV) (m' : AMem) : Prop where
  run : r = some (.ret v, m')
  bo : BO m' m.next v l
  next : m.next ≤ m'.next
  old : ∀ id, id < m.next → m'.get id = m.get id
theorem put_bo (n : Nat) {m : AMem} {lo : Nat} {b : AV} {l : List Int} (hb : BO m lo b l) (x : Nat) (hl : l.length ≤ 10000000) (hx : x < 18446744073709551616) : ∃ v m', Puts m (callsN cfg (n + 1) 21 [b, .int .u64 x] m) (l ++ lebL x) v m' := by
  obtain ⟨v, m', h1, h2, h3, h4⟩ := sp_Put n m b l x hl hx hb.lenK hb.elems
  exact ⟨v, m', h1, h2, h3, h4⟩
theorem putInt_bo (n : Nat) {m : AMem} {lo : Nat} {b : AV} {l : List Int} (hb : BO m lo b l) (x : Int) (hl : l.length ≤ 10000000) (h0 : -4611686018427387904 ≤ x) (h1 : x ≤ 4611686018427387903) : ∃ v m', Puts m (callsN cfg (n + 2) 41 [b, .int .i64 x] m) (l ++ lebL (foldZ x)) v m' := by
  rw [ce41]
  obtain ⟨v, m', g1, g2, g3, g4⟩ := put_bo n (m := (m.room 1).room 10) (hb.frame (by simp -implicitDefEqProofs (disch := first | exact soD | fail) only [go_sem, ↓reduceIte, Nat.reduceEqDiff, Nat.reduceAdd, Nat.reduceLT, Nat.reduceLeDiff, Nat.reduceBEq, reduceCtorEq]; omega) (fun id _ _ => rfl)) (foldZ x) hl (foldZ_lt x h0 h1)
  have hf := foldZ_lt x h0 h1
  have key : Wp (aBody (callsN cfg (n + 1)) cf41 [b, .int .i64 x] m) fun o w => o = .ret v ∧ w = m' := by
    unfold aBody cf41
    by_cases hx : 0 ≤ x
    · have e : (2 * x) = (foldZ x : Int) := by unfold foldZ; rw [if_pos hx]; omega
      have x0 := xor_0 (foldZ x : Int) (by omega) (by omega)
      repeat' (first | simp -implicitDefEqProofs (disch := first | exact soD | fail) only [go_sem, ↓reduceIte, Nat.reduceEqDiff, Nat.reduceAdd, Nat.reduceLT, Nat.reduceLeDiff, Nat.reduceBEq, reduceCtorEq, if_pos hx, e, x0, g1] | ((with_reducible first | refine g_dec ?_ ?_ | refine c_dec ?_ ?_ | refine s_dec ?_ ?_ | refine g_ndec ?_ ?_ | refine c_ndec ?_ ?_ | refine g_nbool ?_ ?_ | refine c_nbool ?_ ?_ | refine g_bool ?_ ?_ | refine c_bool ?_ ?_ | refine s_bool ?_ ?_) <;> intro h d <;> (try simp only [d]) <;> (try simp only [B1, B2, B3, B4, B5, B6, B7, B8] at h) <;> (try omega)))
    · have e : 18446744073709551615 - (2 * x + 18446744073709551616) = (foldZ x : Int) := by unfold foldZ; rw [if_neg hx]; omega
      have x1 := xor_1 (2 * x + 18446744073709551616) (by omega) (by omega)
      have w1 := wrap_u64_neg (2 * x) (by omega) (by omega)
      have w2 := wrap_u64_neg (-1) (by omega) (by omega)
      repeat' (first | simp -implicitDefEqProofs (disch := first | exact soD | fail) only [go_sem, ↓reduceIte, Nat.reduceEqDiff, Nat.reduceAdd, Nat.reduceLT, Nat.reduceLeDiff, Nat.reduceBEq, reduceCtorEq, if_neg hx, w1, w2, x1, e, g1, show (-1 : Int) + 18446744073709551616 = 18446744073709551615 from rfl] | ((with_reducible first | refine g_dec ?_ ?_ | refine c_dec ?_ ?_ | refine s_dec ?_ ?_ | refine g_ndec ?_ ?_ | refine c_ndec ?_ ?_ | refine g_nbool ?_ ?_ | refine c_nbool ?_ ?_ | refine g_bool ?_ ?_ | refine c_bool ?_ ?_ | refine s_bool ?_ ?_) <;> intro h d <;> (try simp only [d]) <;> (try simp only [B1, B2, B3, B4, B5, B6, B7, B8] at h) <;> (try omega)))
  obtain ⟨o, w, h1, rfl, rfl⟩ := key
  simp only [room_next, room_get] at g2 g3 g4
  exact ⟨v, w, h1, g2.lo (by omega), by omega, fun id hid => g4 id (by omega)⟩
/-- What was there is there as it was. -/
def Old (m q : AMem) : Prop := ∀ id, id < m.next → q.get id = m.get id
@[go_sem] theorem old_refl (m : AMem) : Old m m = True := eq_true fun _ _ => rfl
@[go_sem] theorem old_room (m q : AMem) (n : Nat) : Old m (q.room n) = Old m q := rfl
@[go_sem] theorem old_put (m q : AMem) (id : Nat) (o : AObj) (h : m.next ≤ id) : Old m (q.put id o) = Old m q := by
  refine propext ⟨fun a j hj => ?_, fun a j hj => ?_⟩
  · have := a j hj
    rw [put_ne _ _ _ _ (by omega)] at this
    exact this
  · rw [put_ne _ _ _ _ (by omega)]
    exact a j hj
@[go_sem] theorem old_kill (m q : AMem) (id : Nat) (h : m.next ≤ id) : Old m (q.kill id) = Old m q := by
  refine propext ⟨fun a j hj => ?_, fun a j hj => ?_⟩
  · have := a j hj
    rw [kill_ne _ _ _ (by omega)] at this
    exact this
  · rw [kill_ne _ _ _ (by omega)]
    exact a j hj
theorem Puts.old' {m : AMem} {r : Res} {l : List Int} {v : AV} {m' : AMem} (h : Puts m r l v m') {m0 : AMem} (h0 : Old m0 m) (hn : m0.next ≤ m.next) : Old m0 m' := fun id hid => (h.old id (by omega)).trans (h0 id hid)
theorem Puts.done {m q : AMem} {r : Res} {l l' : List Int} {v : AV} {m' : AMem} {lo : Nat} (h : Puts q r l v m') (ho : Old m q) (hn : m.next ≤ q.next) (hlo : lo ≤ m.next) (e : l = l') :
    ∃ v', AOut.ret v = .ret v' ∧ BO m' lo v' l' ∧ m.next ≤ m'.next ∧ ∀ id, id < m.next → m'.get id = m.get id :=
  ⟨v, rfl, by rw [← e]; exact h.bo.lo (Nat.le_trans hlo hn), Nat.le_trans hn h.next, h.old' ho hn⟩
theorem Puts.done2 {m q p m1 : AMem} {r r1 : Res} {l l1 l' : List Int} {v v1 : AV} {m' : AMem} {lo : Nat} (h1 : Puts q r1 l1 v1 m1) (h : Puts p r l v m') (ho : Old m q) (hn : m.next ≤ q.next) (c : Old m1 p) (d : m1.next ≤ p.next) (hlo : lo ≤ m.next) (e : l = l') :
    ∃ v', AOut.ret v = .ret v' ∧ BO m' lo v' l' ∧ m.next ≤ m'.next ∧ ∀ id, id < m.next → m'.get id = m.get id :=
  h.done (m := m) (fun id hid => by
    have := h1.next
    rw [c id (by omega)]
    exact h1.old' ho hn id hid) (by have := h1.next; omega) hlo e
/-- A family of calls that may be made at any later memory. -/
theorem choose_puts {m : AMem} {l : List Int} {r : AMem → Res} (h : ∀ q : AMem, Old m q → m.next ≤ q.next → ∃ v m', Puts q (r q) l v m') : ∃ (fv : AMem → AV) (fm : AMem → AMem), ∀ q, Old m q → m.next ≤ q.next → Puts q (r q) l (fv q) (fm q) := by
  have h2 : ∀ q : AMem, ∃ x : AV × AMem, Old m q → m.next ≤ q.next → Puts q (r q) l x.1 x.2 := fun q => by
    by_cases a : Old m q ∧ m.next ≤ q.next
    · obtain ⟨v, m', hp⟩ := h q a.1 a.2
      exact ⟨(v, m'), fun _ _ => hp⟩
    · exact ⟨(.nilp, q), fun b c => absurd ⟨b, c⟩ a⟩
  obtain ⟨f, hf⟩ := Classical.skolem.1 h2
  exact ⟨fun q => (f q).1, fun q => (f q).2, hf⟩
theorem put_any (n : Nat) {m : AMem} {lo : Nat} {b : AV} {l : List Int} (hb : BO m lo b l) (x : Nat) (hl : l.length ≤ 10000000) (hx : x < 18446744073709551616) : ∃ (fv : AMem → AV) (fm : AMem → AMem), ∀ q, Old m q → m.next ≤ q.next → Puts q (callsN cfg (n + 1) 21 [b, .int .u64 x] q) (l ++ lebL x) (fv q) (fm q) :=
  choose_puts fun q ho hn => put_bo n (hb.frame hn fun id h _ => ho id h) x hl hx
/-- .. and a number more, behind what such a call has left. -/
theorem put_more (n : Nat) {m : AMem} {l : List Int} {r : AMem → Res} {fv : AMem → AV} {fm : AMem → AMem} (hP : ∀ q, Old m q → m.next ≤ q.next → Puts q (r q) l (fv q) (fm q)) (x : Nat) (hl : l.length ≤ 10000000) (hx : x < 18446744073709551616) :
    ∃ (gv : AMem → AMem → AV) (gm : AMem → AMem → AMem), ∀ q, Old m q → m.next ≤ q.next → ∀ p, Old (fm q) p → (fm q).next ≤ p.next → Puts p (callsN cfg (n + 1) 21 [fv q, .int .u64 x] p) (l ++ lebL x) (gv q p) (gm q p) := by
  have h2 : ∀ q : AMem, ∃ x' : (AMem → AV) × (AMem → AMem), Old m q → m.next ≤ q.next → ∀ p, Old (fm q) p → (fm q).next ≤ p.next → Puts p (callsN cfg (n + 1) 21 [fv q, .int .u64 x] p) (l ++ lebL x) (x'.1 p) (x'.2 p) := fun q => by
    by_cases a : Old m q ∧ m.next ≤ q.next
    · obtain ⟨gv, gm, h⟩ := put_any n (hP q a.1 a.2).bo x hl hx
      exact ⟨(gv, gm), fun _ _ => h⟩
    · exact ⟨(fun _ => .nilp, fun p => p), fun b c => absurd ⟨b, c⟩ a⟩
  obtain ⟨f, hf⟩ := Classical.skolem.1 h2
  exact ⟨fun q => (f q).1, fun q => (f q).2, hf⟩
theorem putInt_any (n : Nat) {m : AMem} {lo : Nat} {b : AV} {l : List Int} (hb : BO m lo b l) (x : Int) (hl : l.length ≤ 10000000) (h0 : -4611686018427387904 ≤ x) (h1 : x ≤ 4611686018427387903) : ∃ (fv : AMem → AV) (fm : AMem → AMem), ∀ q, Old m q → m.next ≤ q.next → Puts q (callsN cfg (n + 2) 41 [b, .int .i64 x] q) (l ++ lebL (foldZ x)) (fv q) (fm q) :=
  choose_puts fun q ho hn => putInt_bo n (hb.frame hn fun id h _ => ho id h) x hl h0 h1
end Go.Proofs.YtiijjopdhjpalaaDoor

/-! What the functions of chapter 10 answer: lists and operands as bytes. Conditions: none. -/
namespace Go.Proofs.YtiijjopdhjpalaaDoor
open Go
set_option linter.unusedSimpArgs false
set_option linter.unusedVariables false
def encN (l : List Int) : List Int := l.flatMap fun z => lebL z.toNat
def encList (l : List Int) : List Int := lebL l.length ++ encN l
theorem lebL_small {n : Nat} (h : n < 4294967296) : (lebL n).length ≤ 5 := lebL_len 5 n (Nat.lt_of_lt_of_le h (by decide)) (by omega)
theorem encN_len {l : List Int} (h : ∀ z ∈ l, 0 ≤ z ∧ z < 4294967296) : (encN l).length ≤ 5 * l.length := by
  induction l with
  | nil => simp [encN]
  | cons z l ih =>
    have h1 := lebL_small (n := z.toNat) (by have := h z (List.mem_cons_self ..); omega)
    have h2 := ih fun y hy => h y (List.mem_cons_of_mem _ hy)
    simp only [encN, List.flatMap_cons, List.length_append, List.length_cons] at h2 ⊢
    omega
theorem encN_step {l : List Int} {i : Int} (h0 : 0 ≤ i) (h1 : i < l.length) : encN (l.take (i + 1).toNat) = encN (l.take i.toNat) ++ lebL (nth l i).toNat := by
  rw [take_step h0 h1]
  simp [encN]
theorem small_take {l : List Int} {n : Nat} (h : ∀ z ∈ l, 0 ≤ z ∧ z < 4294967296) : ∀ z ∈ l.take n, 0 ≤ z ∧ z < 4294967296 := fun z hz => h z (List.mem_of_mem_take hz)
set_option maxHeartbeats 1000000 in
theorem list_bo (n : Nat) {m : AMem} {lo : Nat} {b : AV} {l : List Int} (hb : BO m lo b l) (ps : List Int) (hl : l.length ≤ 5000000) (hn : ps.length ≤ 1000) (hp : ∀ z ∈ ps, 0 ≤ z ∧ z < 4294967296) :
    ∃ v m', Puts m (callsN cfg (n + 2) 22 [b, tsl 1 (ps.map avI)] m) (l ++ encList ps) v m' := by
  rw [ce22]
  obtain ⟨v1, q1, g1, g2, g3, g4⟩ := put_bo n (m := (m.room 1).room 6) (hb.frame (by simp -implicitDefEqProofs (disch := first | exact soD | fail) only [go_sem, ↓reduceIte, Nat.reduceEqDiff, Nat.reduceAdd, Nat.reduceLT, Nat.reduceLeDiff, Nat.reduceBEq, reduceCtorEq]; omega) (fun id _ _ => rfl)) ps.length (by omega) (by omega)
  simp only [room_next, room_get] at g2 g3 g4
  have h5 := lebL_small (n := ps.length) (by omega)
  have key : Wp (aBody (callsN cfg (n + 1)) cf22 [b, tsl 1 (ps.map avI)] m) fun o w => ∃ v, o = .ret v ∧ BO w m.next v (l ++ encList ps) ∧ m.next ≤ w.next ∧ ∀ id, id < m.next → w.get id = m.get id := by
    unfold aBody cf22
    repeat' (first | simp -implicitDefEqProofs (disch := first | exact soD | fail) only [go_sem, ↓reduceIte, Nat.reduceEqDiff, Nat.reduceAdd, Nat.reduceLT, Nat.reduceLeDiff, Nat.reduceBEq, reduceCtorEq, g1] | ((with_reducible first | refine g_dec ?_ ?_ | refine c_dec ?_ ?_ | refine s_dec ?_ ?_ | refine g_ndec ?_ ?_ | refine c_ndec ?_ ?_ | refine g_nbool ?_ ?_ | refine c_nbool ?_ ?_ | refine g_bool ?_ ?_ | refine c_bool ?_ ?_ | refine s_bool ?_ ?_) <;> intro h d <;> (try simp only [d]) <;> (try simp only [B1, B2, B3, B4, B5, B6, B7, B8] at h) <;> (try omega)))
    refine wp_loop (fun (i : Int) (env : AEnv) (w : AMem) => (0 ≤ i ∧ i ≤ ps.length) ∧ ∃ v, env 0 = v ∧ BO w m.next v (l ++ lebL ps.length ++ encN (ps.take i.toNat)) ∧ m.next ≤ w.next ∧ (∀ id, id < m.next → w.get id = m.get id) ∧ env 12 = tsl 1 (ps.map avI) ∧ env 13 = avI ps.length ∧ env 14 = avI i) (fun i => (ps.length - i).toNat)
      (fun i env w K' ⟨⟨i0, i1⟩, v, e0, hv, hn', old, e12, e13, e14⟩ hN hE => ?_) LOOPK 0 _ _ ⟨⟨by omega, by omega⟩, v1, ?_, ?_, ?_, ?_, ?_, ?_, ?_⟩ (by rw [LOOPK_eq]; omega)
    · unfold lb22_0
      by_cases hi : i < ps.length
      · have hz := hp _ (nth_mem ps i i0 hi)
        have hel := encN_len (small_take (n := i.toNat) hp)
        obtain ⟨v2, q2, k1, k2, k3, k4⟩ := put_bo n (m := ((w.room 1).room 3).room 5) (hv.frame (by simp -implicitDefEqProofs (disch := first | exact soD | fail) only [go_sem, ↓reduceIte, Nat.reduceEqDiff, Nat.reduceAdd, Nat.reduceLT, Nat.reduceLeDiff, Nat.reduceBEq, reduceCtorEq]; omega) (fun id _ _ => rfl)) (nth ps i).toNat (by simp only [List.length_append, List.length_take] at hel ⊢; omega) (by omega)
        simp only [room_next, room_get] at k2 k3 k4
        have ez : ((nth ps i).toNat : Int) = nth ps i := by omega
        rw [ez] at k1
        repeat' (first | simp -implicitDefEqProofs (disch := first | exact soD | fail) only [go_sem, ↓reduceIte, Nat.reduceEqDiff, Nat.reduceAdd, Nat.reduceLT, Nat.reduceLeDiff, Nat.reduceBEq, reduceCtorEq, e0, e12, e13, e14, k1] | ((with_reducible first | refine g_dec ?_ ?_ | refine c_dec ?_ ?_ | refine s_dec ?_ ?_ | refine g_ndec ?_ ?_ | refine c_ndec ?_ ?_ | refine g_nbool ?_ ?_ | refine c_nbool ?_ ?_ | refine g_bool ?_ ?_ | refine c_bool ?_ ?_ | refine s_bool ?_ ?_) <;> intro h d <;> (try simp only [d]) <;> (try simp only [B1, B2, B3, B4, B5, B6, B7, B8] at h) <;> (try omega)))
        refine hN (i + 1) _ _ ⟨⟨by omega, by omega⟩, v2, ?_, ?_, ?_, fun id hid => ?_, ?_, ?_, ?_⟩ (by omega)
        all_goals try (simp -implicitDefEqProofs (disch := first | exact soD | fail) only [go_sem, ↓reduceIte, Nat.reduceEqDiff, Nat.reduceAdd, Nat.reduceLT, Nat.reduceLeDiff, Nat.reduceBEq, reduceCtorEq, e0, e12, e13, e14]; done)
        · rw [encN_step i0 hi, ← List.append_assoc]
          exact (k2.lo (by omega)).frame (by simp -implicitDefEqProofs (disch := first | exact soD | fail) only [go_sem, ↓reduceIte, Nat.reduceEqDiff, Nat.reduceAdd, Nat.reduceLT, Nat.reduceLeDiff, Nat.reduceBEq, reduceCtorEq]; omega) (fun id _ _ => rfl)
        · simp -implicitDefEqProofs (disch := first | exact soD | fail) only [go_sem, ↓reduceIte, Nat.reduceEqDiff, Nat.reduceAdd, Nat.reduceLT, Nat.reduceLeDiff, Nat.reduceBEq, reduceCtorEq]
          omega
        · exact (k4 id (by omega)).trans (old id hid)
      · repeat' (first | simp -implicitDefEqProofs (disch := first | exact soD | fail) only [go_sem, ↓reduceIte, Nat.reduceEqDiff, Nat.reduceAdd, Nat.reduceLT, Nat.reduceLeDiff, Nat.reduceBEq, reduceCtorEq, e0, e12, e13, e14] | ((with_reducible first | refine g_dec ?_ ?_ | refine c_dec ?_ ?_ | refine s_dec ?_ ?_ | refine g_ndec ?_ ?_ | refine c_ndec ?_ ?_ | refine g_nbool ?_ ?_ | refine c_nbool ?_ ?_ | refine g_bool ?_ ?_ | refine c_bool ?_ ?_ | refine s_bool ?_ ?_) <;> intro h d <;> (try simp only [d]) <;> (try simp only [B1, B2, B3, B4, B5, B6, B7, B8] at h) <;> (try omega)))
        all_goals (with_reducible first | refine hN (i + 1) _ _ ?_ ?_ | refine (hE _ _).1 _ ?_ | refine (hE _ _).2.1 ?_)
        all_goals try unfold ls22_0
        repeat' (first | simp -implicitDefEqProofs (disch := first | exact soD | fail) only [go_sem, ↓reduceIte, Nat.reduceEqDiff, Nat.reduceAdd, Nat.reduceLT, Nat.reduceLeDiff, Nat.reduceBEq, reduceCtorEq, e0, e12, e13, e14] | ((with_reducible first | refine g_dec ?_ ?_ | refine c_dec ?_ ?_ | refine s_dec ?_ ?_ | refine g_ndec ?_ ?_ | refine c_ndec ?_ ?_ | refine g_nbool ?_ ?_ | refine c_nbool ?_ ?_ | refine g_bool ?_ ?_ | refine c_bool ?_ ?_ | refine s_bool ?_ ?_) <;> intro h d <;> (try simp only [d]) <;> (try simp only [B1, B2, B3, B4, B5, B6, B7, B8] at h) <;> (try omega)))
        refine ⟨v, rfl, ?_, by omega, fun id hid => old id hid⟩
        have := hv.frame (m' := (w.room 1).room 2) (by simp -implicitDefEqProofs (disch := first | exact soD | fail) only [go_sem, ↓reduceIte, Nat.reduceEqDiff, Nat.reduceAdd, Nat.reduceLT, Nat.reduceLeDiff, Nat.reduceBEq, reduceCtorEq]; omega) (fun id _ _ => rfl)
        rw [List.take_of_length_le (by omega), List.append_assoc] at this
        exact this
    all_goals try (simp -implicitDefEqProofs (disch := first | exact soD | fail) only [go_sem, ↓reduceIte, Nat.reduceEqDiff, Nat.reduceAdd, Nat.reduceLT, Nat.reduceLeDiff, Nat.reduceBEq, reduceCtorEq]; done)
    · have := (g2.lo (lo' := m.next) (by omega)).frame (m' := q1.room 3) (by simp -implicitDefEqProofs (disch := first | exact soD | fail) only [go_sem, ↓reduceIte, Nat.reduceEqDiff, Nat.reduceAdd, Nat.reduceLT, Nat.reduceLeDiff, Nat.reduceBEq, reduceCtorEq]; omega) (fun id _ _ => rfl)
      simpa [encN] using this
    · simp -implicitDefEqProofs (disch := first | exact soD | fail) only [go_sem, ↓reduceIte, Nat.reduceEqDiff, Nat.reduceAdd, Nat.reduceLT, Nat.reduceLeDiff, Nat.reduceBEq, reduceCtorEq]
      omega
    · exact fun id hid => g4 id (by omega)
  obtain ⟨o, w, h1, v, rfl, h2, h3, h4⟩ := key
  exact ⟨v, w, h1, h2, h3, h4⟩
end Go.Proofs.YtiijjopdhjpalaaDoor

/-! What the functions of chapter 10 answer: an instruction's operands as bytes. Conditions: none. -/
namespace Go.Proofs.YtiijjopdhjpalaaDoor
open Go
set_option linter.unusedSimpArgs false
set_option linter.unusedVariables false
def encOp (i : GI) : List Int :=
  if form i.op = 0 then [] else if form i.op = 1 then lebL (foldZ i.a) else if form i.op = 7 ∨ form i.op = 8 then lebL i.a.toNat ++ lebL i.b.toNat else lebL i.a.toNat
/-- Operands as a right program has them. -/
def opOk (i : GI) : Prop := (form i.op = 1 → -4611686018427387904 ≤ i.a ∧ i.a ≤ 4611686018427387903) ∧ (form i.op ≠ 0 ∧ form i.op ≠ 1 → 0 ≤ i.a ∧ i.a < 4294967296 ∧ 0 ≤ i.b ∧ i.b < 4294967296)
theorem encOp_len {i : GI} (h : opOk i) : (encOp i).length ≤ 10 := by
  unfold encOp
  split
  · simp
  · split
    · rename_i h1
      have := h.1 h1
      exact lebL_len 10 _ (Nat.lt_trans (foldZ_lt _ this.1 this.2) (by decide)) (by omega)
    · rename_i h0 h1
      have := h.2 ⟨h0, h1⟩
      have ha := lebL_small (n := i.a.toNat) (by omega)
      have hb := lebL_small (n := i.b.toNat) (by omega)
      split
      · rw [List.length_append]; omega
      · omega
theorem sp_Form (n : Nat) (op : Int) (hop : i64 op) (m : AMem) : callsN cfg (n + 3) 40 [avI op] m = some (.ret (avI (form op)), m) := by
  obtain ⟨s, t, l, v, hof⟩ := sp_of (n := n) (op := op) hop
  rw [ce40]
  refine borrow_wp (targs := [avI op]) (by simp only [go_sem]) ?_ rfl
  unfold aBody cf40
  repeat' (first | simp -implicitDefEqProofs (disch := first | exact soD | fail) only [go_sem, ↓reduceIte, Nat.reduceEqDiff, Nat.reduceAdd, Nat.reduceLT, Nat.reduceLeDiff, Nat.reduceBEq, reduceCtorEq, hof] | ((with_reducible first | refine g_dec ?_ ?_ | refine c_dec ?_ ?_ | refine s_dec ?_ ?_ | refine g_ndec ?_ ?_ | refine c_ndec ?_ ?_ | refine g_nbool ?_ ?_ | refine c_nbool ?_ ?_ | refine g_bool ?_ ?_ | refine c_bool ?_ ?_ | refine s_bool ?_ ?_) <;> intro h d <;> (try simp only [d]) <;> (try simp only [B1, B2, B3, B4, B5, B6, B7, B8] at h) <;> (try omega)))
set_option maxHeartbeats 1000000 in
theorem operands_bo (n : Nat) {m : AMem} {lo : Nat} {b : AV} {l : List Int} (hb : BO m lo b l) (hlo : lo ≤ m.next) (i : GI) (hop : i64 i.op) (hi : opOk i) (hl : l.length ≤ 5000000) :
    ∃ v m', callsN cfg (n + 4) 23 [b, i.av] m = some (.ret v, m') ∧ BO m' lo v (l ++ encOp i) ∧ m.next ≤ m'.next ∧ ∀ id, id < m.next → m'.get id = m.get id := by
  rw [ce23]
  have hF := sp_Form n i.op hop
  have key : Wp (aBody (callsN cfg (n + 3)) cf23 [b, i.av] m) fun o w => ∃ v, o = .ret v ∧ BO w lo v (l ++ encOp i) ∧ m.next ≤ w.next ∧ ∀ id, id < m.next → w.get id = m.get id := by
    unfold aBody cf23
    by_cases h0 : form i.op = 0
    · have e : encOp i = [] := if_pos h0
      repeat' (first | simp -implicitDefEqProofs (disch := first | exact soD | fail) only [go_sem, ↓reduceIte, Nat.reduceEqDiff, Nat.reduceAdd, Nat.reduceLT, Nat.reduceLeDiff, Nat.reduceBEq, reduceCtorEq, hF, h0] | ((with_reducible first | refine g_dec ?_ ?_ | refine c_dec ?_ ?_ | refine s_dec ?_ ?_ | refine g_ndec ?_ ?_ | refine c_ndec ?_ ?_ | refine g_nbool ?_ ?_ | refine c_nbool ?_ ?_ | refine g_bool ?_ ?_ | refine c_bool ?_ ?_ | refine s_bool ?_ ?_) <;> intro h d <;> (try simp only [d]) <;> (try simp only [B1, B2, B3, B4, B5, B6, B7, B8] at h) <;> (try omega)))
      refine ⟨b, rfl, ?_, by omega, fun id hid => sxA⟩
      rw [e, List.append_nil]
      refine hb.frame (by simp -implicitDefEqProofs (disch := first | exact soD | fail) only [go_sem, ↓reduceIte, Nat.reduceEqDiff, Nat.reduceAdd, Nat.reduceLT, Nat.reduceLeDiff, Nat.reduceBEq, reduceCtorEq]; omega) (fun id h1 h2 => by simp -implicitDefEqProofs (disch := first | exact soD | fail) only [go_sem, ↓reduceIte, Nat.reduceEqDiff, Nat.reduceAdd, Nat.reduceLT, Nat.reduceLeDiff, Nat.reduceBEq, reduceCtorEq])
    · by_cases h1 : form i.op = 1
      · have e : encOp i = lebL (foldZ i.a) := by unfold encOp; rw [if_neg h0, if_pos h1]
        have hr := hi.1 h1
        obtain ⟨fv, fm, hP⟩ := putInt_any (n + 1) hb i.a (by omega) hr.1 hr.2
        have hP1 := fun q a b => (hP q a b).run
        repeat' (first | simp -implicitDefEqProofs (disch := first | exact soE | (simp -implicitDefEqProofs (disch := first | exact soE | fail) only [go_sem, ↓reduceIte, Nat.reduceEqDiff, Nat.reduceAdd, Nat.reduceLT, Nat.reduceLeDiff, Nat.reduceBEq, reduceCtorEq, hF, h1, hP1]; done) | fail) only [go_sem, ↓reduceIte, Nat.reduceEqDiff, Nat.reduceAdd, Nat.reduceLT, Nat.reduceLeDiff, Nat.reduceBEq, reduceCtorEq, hF, h1, hP1] | ((with_reducible first | refine g_dec ?_ ?_ | refine c_dec ?_ ?_ | refine s_dec ?_ ?_ | refine g_ndec ?_ ?_ | refine c_ndec ?_ ?_ | refine g_nbool ?_ ?_ | refine c_nbool ?_ ?_ | refine g_bool ?_ ?_ | refine c_bool ?_ ?_ | refine s_bool ?_ ?_) <;> intro h d <;> (try simp only [d]) <;> (try simp only [B1, B2, B3, B4, B5, B6, B7, B8] at h) <;> (try omega)))
        exact (hP _ sxA (by simp -implicitDefEqProofs (disch := first | exact soD | fail) only [go_sem, ↓reduceIte, Nat.reduceEqDiff, Nat.reduceAdd, Nat.reduceLT, Nat.reduceLeDiff, Nat.reduceBEq, reduceCtorEq]; omega)).done sxA (by simp -implicitDefEqProofs (disch := first | exact soD | fail) only [go_sem, ↓reduceIte, Nat.reduceEqDiff, Nat.reduceAdd, Nat.reduceLT, Nat.reduceLeDiff, Nat.reduceBEq, reduceCtorEq]; omega) hlo (by rw [e])
      · have hr := hi.2 ⟨h0, h1⟩
        have ea : (i.a.toNat : Int) = i.a := by omega
        have eb : (i.b.toNat : Int) = i.b := by omega
        by_cases h7 : form i.op = 7 ∨ form i.op = 8
        · have e : encOp i = lebL i.a.toNat ++ lebL i.b.toNat := by unfold encOp; rw [if_neg h0, if_neg h1, if_pos h7]
          have hla := lebL_small (n := i.a.toNat) (by omega)
          obtain ⟨fv, fm, hP⟩ := put_any (n + 2) hb i.a.toNat (by omega) (by omega)
          obtain ⟨gv, gm, hQ⟩ := put_more (n + 2) hP i.b.toNat (by rw [List.length_append]; omega) (by omega)
          rw [ea] at hP
          rw [eb] at hQ
          have hP1 := fun q a b => (hP q a b).run
          have hP4 := fun q a b => (hP q a b).old
          have hQ1 := fun q a b p c d => (hQ q a b p c d).run
          have hPQ := fun q a b p c d => (hP q a b).done2 (lo := lo) (m := m) (l' := l ++ encOp i) (hQ q a b p c d)
          repeat' (first | simp -implicitDefEqProofs (disch := first | exact soE | (simp -implicitDefEqProofs (disch := first | exact soE | fail) only [go_sem, ↓reduceIte, Nat.reduceEqDiff, Nat.reduceAdd, Nat.reduceLT, Nat.reduceLeDiff, Nat.reduceBEq, reduceCtorEq, hF, hP1, hP4, hQ1]; done) | fail) only [go_sem, ↓reduceIte, Nat.reduceEqDiff, Nat.reduceAdd, Nat.reduceLT, Nat.reduceLeDiff, Nat.reduceBEq, reduceCtorEq, hF, hP1, hP4, hQ1] | ((with_reducible first | refine g_dec ?_ ?_ | refine c_dec ?_ ?_ | refine s_dec ?_ ?_ | refine g_ndec ?_ ?_ | refine c_ndec ?_ ?_ | refine g_nbool ?_ ?_ | refine c_nbool ?_ ?_ | refine g_bool ?_ ?_ | refine c_bool ?_ ?_ | refine s_bool ?_ ?_) <;> intro h d <;> (try simp only [d]) <;> (try simp only [B1, B2, B3, B4, B5, B6, B7, B8] at h) <;> (try omega)))
          all_goals refine hPQ _ ?_ ?_ _ ?_ ?_ ?_ ?_ ?_ ?_ hlo (by rw [e, List.append_assoc])
          all_goals first | (simp -implicitDefEqProofs (disch := first | exact soD | fail) only [go_sem, ↓reduceIte, Nat.reduceEqDiff, Nat.reduceAdd, Nat.reduceLT, Nat.reduceLeDiff, Nat.reduceBEq, reduceCtorEq]; done) | (simp -implicitDefEqProofs (disch := first | exact soD | fail) only [go_sem, ↓reduceIte, Nat.reduceEqDiff, Nat.reduceAdd, Nat.reduceLT, Nat.reduceLeDiff, Nat.reduceBEq, reduceCtorEq]; omega)
        · have e : encOp i = lebL i.a.toNat := by unfold encOp; rw [if_neg h0, if_neg h1, if_neg h7]
          obtain ⟨fv, fm, hP⟩ := put_any (n + 2) hb i.a.toNat (by omega) (by omega)
          rw [ea] at hP
          have hP1 := fun q a b => (hP q a b).run
          repeat' (first | simp -implicitDefEqProofs (disch := first | exact soE | (simp -implicitDefEqProofs (disch := first | exact soE | fail) only [go_sem, ↓reduceIte, Nat.reduceEqDiff, Nat.reduceAdd, Nat.reduceLT, Nat.reduceLeDiff, Nat.reduceBEq, reduceCtorEq, hF, hP1]; done) | fail) only [go_sem, ↓reduceIte, Nat.reduceEqDiff, Nat.reduceAdd, Nat.reduceLT, Nat.reduceLeDiff, Nat.reduceBEq, reduceCtorEq, hF, hP1] | ((with_reducible first | refine g_dec ?_ ?_ | refine c_dec ?_ ?_ | refine s_dec ?_ ?_ | refine g_ndec ?_ ?_ | refine c_ndec ?_ ?_ | refine g_nbool ?_ ?_ | refine c_nbool ?_ ?_ | refine g_bool ?_ ?_ | refine c_bool ?_ ?_ | refine s_bool ?_ ?_) <;> intro h d <;> (try simp only [d]) <;> (try simp only [B1, B2, B3, B4, B5, B6, B7, B8] at h) <;> (try omega)))
          all_goals exact (hP _ sxA (by simp -implicitDefEqProofs (disch := first | exact soD | fail) only [go_sem, ↓reduceIte, Nat.reduceEqDiff, Nat.reduceAdd, Nat.reduceLT, Nat.reduceLeDiff, Nat.reduceBEq, reduceCtorEq]; omega)).done sxA (by simp -implicitDefEqProofs (disch := first | exact soD | fail) only [go_sem, ↓reduceIte, Nat.reduceEqDiff, Nat.reduceAdd, Nat.reduceLT, Nat.reduceLeDiff, Nat.reduceBEq, reduceCtorEq]; omega) hlo (by rw [e])
  obtain ⟨o, w, h1, v, rfl, h2, h3, h4⟩ := key
  exact ⟨v, w, h1, h2, h3, h4⟩
end Go.Proofs.YtiijjopdhjpalaaDoor

/-! What the functions of chapter 10 answer: a program as bytes, the types. Conditions: none. -/
namespace Go.Proofs.YtiijjopdhjpalaaDoor
open Go
set_option linter.unusedSimpArgs false
set_option linter.unusedVariables false
def encT (x : GT) : List Int := [x.kind] ++ (if x.kind = 2 ∨ x.kind = 4 then encList x.parts else []) ++ (if x.kind = 2 then [] else lebL x.of.toNat)
def encI (i : GI) : List Int := [i.op] ++ encOp i
def encF (f : GF) : List Int := encList f.params ++ lebL f.result.toNat ++ lebL f.locals.toNat ++ lebL f.code.length ++ f.code.flatMap encI
def encHead (p : GP) : List Int := [116, 105, 100, 1] ++ lebL p.types.length
def encP (p : GP) : List Int := encHead p ++ p.types.flatMap encT ++ lebL p.funcs.length ++ p.funcs.flatMap encF
/-- A type as a right program has it. -/
def tyOk (x : GT) : Prop := 2 ≤ x.kind ∧ x.kind ≤ 5 ∧ x.parts.length ≤ 12 ∧ (∀ z ∈ x.parts, 0 ≤ z ∧ z < 100) ∧ 0 ≤ x.of ∧ x.of < 100
theorem encT_len {x : GT} (h : tyOk x) : (encT x).length ≤ 71 := by
  obtain ⟨_, _, h1, h2, h3, h4⟩ := h
  have a := encN_len (l := x.parts) (fun z hz => by have := h2 z hz; omega)
  have b := lebL_small (n := x.parts.length) (by omega)
  have c := lebL_small (n := x.of.toNat) (by omega)
  unfold encT encList
  split <;> split <;> simp only [List.length_append, List.length_cons, List.length_nil] <;> omega
theorem flat_len {α : Type} {l : List α} {f : α → List Int} {c : Nat} (h : ∀ x ∈ l, (f x).length ≤ c) : (l.flatMap f).length ≤ c * l.length := by
  induction l with
  | nil => simp
  | cons x l ih =>
    have h1 := h x (List.mem_cons_self ..)
    have h2 := ih fun y hy => h y (List.mem_cons_of_mem _ hy)
    rw [List.flatMap_cons, List.length_append, List.length_cons, Nat.mul_add]
    omega
theorem flat_step {α : Type} [Inhabited α] {l : List α} {f : α → List Int} {i : Int} (h0 : 0 ≤ i) (h1 : i < l.length) : (l.take (i + 1).toNat).flatMap f = (l.take i.toNat).flatMap f ++ f (nth l i) := by
  rw [take_step h0 h1]
  simp
@[go_sem] theorem map_snoc (l : List Int) (z : Int) : l.map avB ++ [AV.int .u8 z] = (l ++ [z]).map avB := by simp
/-- Calls that put behind bytes in a known object. -/
theorem at_puts {idn N : Nat} {L L' : List Int} (hN : L.length = N) {r : AMem → Res} (h : ∀ q : AMem, BO q 0 (.sl 1 idn 0 N) L → ∃ v m', Puts q (r q) L' v m') : ∃ (fv : AMem → AV) (fm : AMem → AMem), ∀ q : AMem, idn < q.next → q.get idn = some (.arr 5 1 (L.map avB)) → Puts q (r q) L' (fv q) (fm q) := by
  have h2 : ∀ q : AMem, ∃ x : AV × AMem, idn < q.next → q.get idn = some (.arr 5 1 (L.map avB)) → Puts q (r q) L' x.1 x.2 := fun q => by
    by_cases a : idn < q.next ∧ q.get idn = some (.arr 5 1 (L.map avB))
    · obtain ⟨v, m', hp⟩ := h q ⟨idn, by rw [hN], Nat.zero_le _, a.1, a.2⟩
      exact ⟨(v, m'), fun _ _ => hp⟩
    · exact ⟨(.nilp, q), fun b c => absurd ⟨b, c⟩ a⟩
  obtain ⟨f, hf⟩ := Classical.skolem.1 h2
  exact ⟨fun q => (f q).1, fun q => (f q).2, hf⟩
theorem at_more (n : Nat) {idn : Nat} {L L' : List Int} {r : AMem → Res} {fv : AMem → AV} {fm : AMem → AMem} (hP : ∀ q : AMem, idn < q.next → q.get idn = some (.arr 5 1 (L.map avB)) → Puts q (r q) L' (fv q) (fm q)) (x : Nat) (hl : L'.length ≤ 10000000) (hx : x < 18446744073709551616) :
    ∃ (gv : AMem → AMem → AV) (gm : AMem → AMem → AMem), ∀ q : AMem, idn < q.next → q.get idn = some (.arr 5 1 (L.map avB)) → ∀ p, Old (fm q) p → (fm q).next ≤ p.next → Puts p (callsN cfg (n + 1) 21 [fv q, .int .u64 x] p) (L' ++ lebL x) (gv q p) (gm q p) := by
  have h2 : ∀ q : AMem, ∃ x' : (AMem → AV) × (AMem → AMem), idn < q.next → q.get idn = some (.arr 5 1 (L.map avB)) → ∀ p, Old (fm q) p → (fm q).next ≤ p.next → Puts p (callsN cfg (n + 1) 21 [fv q, .int .u64 x] p) (L' ++ lebL x) (x'.1 p) (x'.2 p) := fun q => by
    by_cases a : idn < q.next ∧ q.get idn = some (.arr 5 1 (L.map avB))
    · obtain ⟨gv, gm, h⟩ := put_any n (hP q a.1 a.2).bo x hl hx
      exact ⟨(gv, gm), fun _ _ => h⟩
    · exact ⟨(fun _ => .nilp, fun p => p), fun b c => absurd ⟨b, c⟩ a⟩
  obtain ⟨f, hf⟩ := Classical.skolem.1 h2
  exact ⟨fun q => (f q).1, fun q => (f q).2, hf⟩
/-- The memory once a type's kind has been put. -/
def encM (w : AMem) (id : Nat) (x : GT) (L : List Int) (k : Int) : AMem :=
  ((((((((w.room 1).room 4).put (w.next + 1 + 2) (.arr 43 3 [.agg [.int .i64 0, .nils, .int .i64 0]])).put (w.next + 1 + 2) (.arr 43 3 [.agg [avI k, tsl 1 (x.parts.map avI), avI x.of]])).room 7).put
    (w.next + 1 + 4 + 4) (.arr 5 1 [.int .u8 k])).kill id).put (w.next + 1 + 4 + 5) (.arr 5 1 ((L ++ [k]).map avB))).room 8
/-- The loop over the types. -/
theorem enc_types (n : Nat) {g : Nat → Option AObj} {lo : Nat} (ts : List GT) (hts : ∀ x ∈ ts, tyOk x) (hlen : ts.length ≤ 60) {H : List Int} (hH : H.length ≤ 20) {p : AV} (hp1 : p.one = true)
    {K : Kont} {Q : AOut → AMem → Prop} {env : AEnv} {w : AMem} {v : AV} (hv : BO w (lo) v H) (hn : lo ≤ w.next) (old : ∀ id, id < lo → w.get id = g id)
    (e1 : env 1 = p) (e3 : env 3 = v) (e23 : env 23 = tsl 3 (ts.map GT.av)) (e24 : env 24 = avI ts.length) (e25 : env 25 = avI 0)
    (hK : ∀ (env' : AEnv) (w' : AMem) (v' : AV), BO w' (lo) v' (H ++ ts.flatMap encT) → lo ≤ w'.next → (∀ id, id < lo → w'.get id = g id) → env' 1 = p → env' 3 = v' → Wp (K (.exit 0) env' w') Q) :
    Wp (loopN LOOPK (aCode (callsN cfg (n + 3)) lb12_0) env w K) Q := by
  refine wp_loop (fun (i : Int) (env : AEnv) (w : AMem) => (0 ≤ i ∧ i ≤ ts.length) ∧ ∃ v, BO w (lo) v (H ++ (ts.take i.toNat).flatMap encT) ∧ lo ≤ w.next ∧ (∀ id, id < lo → w.get id = g id) ∧
      env 1 = p ∧ env 3 = v ∧ env 23 = tsl 3 (ts.map GT.av) ∧ env 24 = avI ts.length ∧ env 25 = avI i) (fun i => (ts.length - i).toNat)
    (fun i env w K' ⟨⟨i0, i1⟩, v, hv, hn, old, e1, e3, e23, e24, e25⟩ hN hE => ?_) LOOPK 0 _ _ ⟨⟨by omega, by omega⟩, v, by simpa using hv, hn, old, e1, e3, e23, e24, e25⟩ (by rw [LOOPK_eq]; omega)
  unfold lb12_0
  by_cases hi : i < ts.length
  · have hx := hts _ (nth_mem ts i i0 hi)
    have hfl := flat_len (l := ts.take i.toNat) (f := encT) (c := 71) (fun x hx => encT_len (hts x (List.mem_of_mem_take hx)))
    obtain ⟨k2, k5, hpl, hpp, ho0, ho1⟩ := hx
    have hstep := flat_step (f := encT) i0 hi
    generalize hL : H ++ (ts.take i.toNat).flatMap encT = L at hv
    have hLl : L.length ≤ 10000 := by rw [← hL, List.length_append]; simp only [List.length_take] at hfl; omega
    obtain ⟨id, rfl, b1, b2, b3⟩ := hv
    have hk8 : (nth ts i).kind % 256 = (nth ts i).kind := by omega
    have ht : List.take L.length (L.map avB) = L.map avB := List.take_of_length_le (by simp)
    have ez : ((nth ts i).of.toNat : Int) = (nth ts i).of := by omega
    have hel := encN_len (l := (nth ts i).parts) (fun z hz => by have := hpp z hz; omega)
    have hll := lebL_small (n := (nth ts i).parts.length) (by omega)
    have hbo : ∀ q : AMem, w.next + 1 + 4 + 5 < q.next → q.get (w.next + 1 + 4 + 5) = some (.arr 5 1 ((L ++ [(nth ts i).kind]).map avB)) → BO q (lo) (.sl 1 (w.next + 1 + 4 + 5) 0 (L.length + 1)) (L ++ [(nth ts i).kind]) := fun q h1 h2 => ⟨w.next + 1 + 4 + 5, by simp, by omega, h1, h2⟩
    by_cases c2 : (nth ts i).kind = 2
    · have e : encT (nth ts i) = (nth ts i).kind :: encList (nth ts i).parts := by
        rw [encT, if_pos (.inl c2), if_pos c2, List.append_nil]; rfl
      have hfin : L ++ [(nth ts i).kind] ++ encList (nth ts i).parts = H ++ (ts.take (i + 1).toNat).flatMap encT := by
        rw [hstep, ← List.append_assoc, hL, e]; simp
      obtain ⟨v2, m2, P⟩ := list_bo (n + 1) (hbo ((encM w id (nth ts i) L (nth ts i).kind).room 5) (by unfold encM; (first | omega | (simp -implicitDefEqProofs (disch := first | exact soD | fail) only [go_sem, ↓reduceIte, Nat.reduceEqDiff, Nat.reduceAdd, Nat.reduceLT, Nat.reduceLeDiff, Nat.reduceBEq, reduceCtorEq] <;> omega))) (by unfold encM; simp -implicitDefEqProofs (disch := first | exact soD | fail) only [go_sem, ↓reduceIte, Nat.reduceEqDiff, Nat.reduceAdd, Nat.reduceLT, Nat.reduceLeDiff, Nat.reduceBEq, reduceCtorEq])) (nth ts i).parts (by simp; omega) (by omega) (fun z hz => by have := hpp z hz; omega)
      rw [hfin] at P
      obtain ⟨p1, p2, p3, p4⟩ := P
      have p4' : m2.get (w.next + 1 + 2) = some (.arr 43 3 [.agg [avI (nth ts i).kind, tsl 1 ((nth ts i).parts.map avI), avI (nth ts i).of]]) := (p4 _ (by unfold encM; (first | omega | (simp -implicitDefEqProofs (disch := first | exact soD | fail) only [go_sem, ↓reduceIte, Nat.reduceEqDiff, Nat.reduceAdd, Nat.reduceLT, Nat.reduceLeDiff, Nat.reduceBEq, reduceCtorEq] <;> omega)))).trans (by unfold encM; simp -implicitDefEqProofs (disch := first | exact soD | fail) only [go_sem, ↓reduceIte, Nat.reduceEqDiff, Nat.reduceAdd, Nat.reduceLT, Nat.reduceLeDiff, Nat.reduceBEq, reduceCtorEq])
      have p5 : ∀ j, j < lo → m2.get j = g j := fun j hj => (p4 j (by unfold encM; (first | omega | (simp -implicitDefEqProofs (disch := first | exact soD | fail) only [go_sem, ↓reduceIte, Nat.reduceEqDiff, Nat.reduceAdd, Nat.reduceLT, Nat.reduceLeDiff, Nat.reduceBEq, reduceCtorEq] <;> omega)))).trans (by unfold encM; simp -implicitDefEqProofs (disch := first | exact soD | fail) only [go_sem, ↓reduceIte, Nat.reduceEqDiff, Nat.reduceAdd, Nat.reduceLT, Nat.reduceLeDiff, Nat.reduceBEq, reduceCtorEq]; exact old j hj)
      have p6 : w.next ≤ m2.next := by
        unfold encM at p3
        simp only [room_next, put_next, kill_next] at p3
        omega
      have p7 := p2.lo (lo' := lo) (by unfold encM; (first | omega | (simp -implicitDefEqProofs (disch := first | exact soD | fail) only [go_sem, ↓reduceIte, Nat.reduceEqDiff, Nat.reduceAdd, Nat.reduceLT, Nat.reduceLeDiff, Nat.reduceBEq, reduceCtorEq] <;> omega)))
      unfold encM at p1
      rw [c2] at p1 p4'
      repeat' (first | simp -implicitDefEqProofs (disch := first | exact soD | fail) only [go_sem, ↓reduceIte, Nat.reduceEqDiff, Nat.reduceAdd, Nat.reduceLT, Nat.reduceLeDiff, Nat.reduceBEq, reduceCtorEq, Int.reduceMod, e1, e3, e23, e24, e25, b3, ht, wrap_u8, hk8, c2, p1, p4'] | ((with_reducible first | refine g_dec ?_ ?_ | refine c_dec ?_ ?_ | refine s_dec ?_ ?_ | refine g_ndec ?_ ?_ | refine c_ndec ?_ ?_ | refine g_nbool ?_ ?_ | refine c_nbool ?_ ?_ | refine g_bool ?_ ?_ | refine c_bool ?_ ?_ | refine s_bool ?_ ?_) <;> intro h d <;> (try simp only [d]) <;> (try simp only [B1, B2, B3, B4, B5, B6, B7, B8] at h) <;> (try omega)))
      refine hN (i + 1) _ _ ⟨⟨by omega, by omega⟩, v2, p7.frame (by simp -implicitDefEqProofs (disch := first | exact soD | fail) only [go_sem, ↓reduceIte, Nat.reduceEqDiff, Nat.reduceAdd, Nat.reduceLT, Nat.reduceLeDiff, Nat.reduceBEq, reduceCtorEq]; omega) (fun id _ _ => rfl), by simp -implicitDefEqProofs (disch := first | exact soD | fail) only [go_sem, ↓reduceIte, Nat.reduceEqDiff, Nat.reduceAdd, Nat.reduceLT, Nat.reduceLeDiff, Nat.reduceBEq, reduceCtorEq]; omega, fun j hj => p5 j hj, ?_, ?_, ?_, ?_, ?_⟩ (by omega)
      all_goals (simp -implicitDefEqProofs (disch := first | exact soD | fail) only [go_sem, ↓reduceIte, Nat.reduceEqDiff, Nat.reduceAdd, Nat.reduceLT, Nat.reduceLeDiff, Nat.reduceBEq, reduceCtorEq, e1, e23, e24, e25]; done)
    · by_cases c4 : (nth ts i).kind = 4
      · have e : encT (nth ts i) = (nth ts i).kind :: (encList (nth ts i).parts ++ lebL (nth ts i).of.toNat) := by
          rw [encT, if_pos (.inr c4), if_neg c2]; rfl
        have hfin : L ++ [(nth ts i).kind] ++ encList (nth ts i).parts ++ lebL (nth ts i).of.toNat = H ++ (ts.take (i + 1).toNat).flatMap encT := by
          rw [hstep, ← List.append_assoc, hL, e]; simp
        obtain ⟨v2, m2, P⟩ := list_bo (n + 1) (hbo ((encM w id (nth ts i) L (nth ts i).kind).room 5) (by unfold encM; (first | omega | (simp -implicitDefEqProofs (disch := first | exact soD | fail) only [go_sem, ↓reduceIte, Nat.reduceEqDiff, Nat.reduceAdd, Nat.reduceLT, Nat.reduceLeDiff, Nat.reduceBEq, reduceCtorEq] <;> omega))) (by unfold encM; simp -implicitDefEqProofs (disch := first | exact soD | fail) only [go_sem, ↓reduceIte, Nat.reduceEqDiff, Nat.reduceAdd, Nat.reduceLT, Nat.reduceLeDiff, Nat.reduceBEq, reduceCtorEq])) (nth ts i).parts (by simp; omega) (by omega) (fun z hz => by have := hpp z hz; omega)
        obtain ⟨p1, p2, p3, p4⟩ := P
        have p4' : m2.get (w.next + 1 + 2) = some (.arr 43 3 [.agg [avI (nth ts i).kind, tsl 1 ((nth ts i).parts.map avI), avI (nth ts i).of]]) := (p4 _ (by unfold encM; (first | omega | (simp -implicitDefEqProofs (disch := first | exact soD | fail) only [go_sem, ↓reduceIte, Nat.reduceEqDiff, Nat.reduceAdd, Nat.reduceLT, Nat.reduceLeDiff, Nat.reduceBEq, reduceCtorEq] <;> omega)))).trans (by unfold encM; simp -implicitDefEqProofs (disch := first | exact soD | fail) only [go_sem, ↓reduceIte, Nat.reduceEqDiff, Nat.reduceAdd, Nat.reduceLT, Nat.reduceLeDiff, Nat.reduceBEq, reduceCtorEq])
        have p5 : ∀ j, j < lo → m2.get j = g j := fun j hj => (p4 j (by unfold encM; (first | omega | (simp -implicitDefEqProofs (disch := first | exact soD | fail) only [go_sem, ↓reduceIte, Nat.reduceEqDiff, Nat.reduceAdd, Nat.reduceLT, Nat.reduceLeDiff, Nat.reduceBEq, reduceCtorEq] <;> omega)))).trans (by unfold encM; simp -implicitDefEqProofs (disch := first | exact soD | fail) only [go_sem, ↓reduceIte, Nat.reduceEqDiff, Nat.reduceAdd, Nat.reduceLT, Nat.reduceLeDiff, Nat.reduceBEq, reduceCtorEq]; exact old j hj)
        have p6 : w.next + 10 ≤ m2.next := by
          unfold encM at p3
          simp only [room_next, put_next, kill_next] at p3
          omega
        have p7 := p2.lo (lo' := lo) (by unfold encM; (first | omega | (simp -implicitDefEqProofs (disch := first | exact soD | fail) only [go_sem, ↓reduceIte, Nat.reduceEqDiff, Nat.reduceAdd, Nat.reduceLT, Nat.reduceLeDiff, Nat.reduceBEq, reduceCtorEq] <;> omega)))
        obtain ⟨v3, m3, Q3⟩ := put_bo (n + 2) (m := (m2.room 3).room 6) (p7.frame (by simp -implicitDefEqProofs (disch := first | exact soD | fail) only [go_sem, ↓reduceIte, Nat.reduceEqDiff, Nat.reduceAdd, Nat.reduceLT, Nat.reduceLeDiff, Nat.reduceBEq, reduceCtorEq]; omega) (fun id _ _ => rfl)) (nth ts i).of.toNat (by simp only [encList, List.length_append, List.length_cons, List.length_nil]; omega) (by omega)
        rw [hfin] at Q3
        obtain ⟨r1, r2, r3, r4⟩ := Q3
        simp only [room_next, room_get] at r2 r3 r4
        unfold encM at p1
        rw [c4] at p1 p4'
        rw [ez] at r1
        repeat' (first | simp -implicitDefEqProofs (disch := first | exact soD | fail) only [go_sem, ↓reduceIte, Nat.reduceEqDiff, Nat.reduceAdd, Nat.reduceLT, Nat.reduceLeDiff, Nat.reduceBEq, reduceCtorEq, Int.reduceMod, e1, e3, e23, e24, e25, b3, ht, wrap_u8, hk8, c2, c4, p1, p4', r1] | ((with_reducible first | refine g_dec ?_ ?_ | refine c_dec ?_ ?_ | refine s_dec ?_ ?_ | refine g_ndec ?_ ?_ | refine c_ndec ?_ ?_ | refine g_nbool ?_ ?_ | refine c_nbool ?_ ?_ | refine g_bool ?_ ?_ | refine c_bool ?_ ?_ | refine s_bool ?_ ?_) <;> intro h d <;> (try simp only [d]) <;> (try simp only [B1, B2, B3, B4, B5, B6, B7, B8] at h) <;> (try omega)))
        refine hN (i + 1) _ _ ⟨⟨by omega, by omega⟩, v3, (r2.lo (lo' := lo) (by omega)).frame (by simp -implicitDefEqProofs (disch := first | exact soD | fail) only [go_sem, ↓reduceIte, Nat.reduceEqDiff, Nat.reduceAdd, Nat.reduceLT, Nat.reduceLeDiff, Nat.reduceBEq, reduceCtorEq]; omega) (fun id _ _ => rfl), by simp -implicitDefEqProofs (disch := first | exact soD | fail) only [go_sem, ↓reduceIte, Nat.reduceEqDiff, Nat.reduceAdd, Nat.reduceLT, Nat.reduceLeDiff, Nat.reduceBEq, reduceCtorEq]; omega, fun j hj => (r4 j (by omega)).trans (p5 j hj), ?_, ?_, ?_, ?_, ?_⟩ (by omega)
        all_goals (simp -implicitDefEqProofs (disch := first | exact soD | fail) only [go_sem, ↓reduceIte, Nat.reduceEqDiff, Nat.reduceAdd, Nat.reduceLT, Nat.reduceLeDiff, Nat.reduceBEq, reduceCtorEq, e1, e23, e24, e25]; done)
      · have e : encT (nth ts i) = (nth ts i).kind :: lebL (nth ts i).of.toNat := by
          rw [encT, if_neg (by omega), if_neg c2]; rfl
        have hfin : L ++ [(nth ts i).kind] ++ lebL (nth ts i).of.toNat = H ++ (ts.take (i + 1).toNat).flatMap encT := by
          rw [hstep, ← List.append_assoc, hL, e]; simp
        obtain ⟨v2, m2, P⟩ := put_bo (n + 2) (hbo (((encM w id (nth ts i) L (nth ts i).kind).room 3).room 6) (by unfold encM; (first | omega | (simp -implicitDefEqProofs (disch := first | exact soD | fail) only [go_sem, ↓reduceIte, Nat.reduceEqDiff, Nat.reduceAdd, Nat.reduceLT, Nat.reduceLeDiff, Nat.reduceBEq, reduceCtorEq] <;> omega))) (by unfold encM; simp -implicitDefEqProofs (disch := first | exact soD | fail) only [go_sem, ↓reduceIte, Nat.reduceEqDiff, Nat.reduceAdd, Nat.reduceLT, Nat.reduceLeDiff, Nat.reduceBEq, reduceCtorEq])) (nth ts i).of.toNat (by simp; omega) (by omega)
        rw [hfin] at P
        obtain ⟨p1, p2, p3, p4⟩ := P
        have p5 : ∀ j, j < lo → m2.get j = g j := fun j hj => (p4 j (by unfold encM; (first | omega | (simp -implicitDefEqProofs (disch := first | exact soD | fail) only [go_sem, ↓reduceIte, Nat.reduceEqDiff, Nat.reduceAdd, Nat.reduceLT, Nat.reduceLeDiff, Nat.reduceBEq, reduceCtorEq] <;> omega)))).trans (by unfold encM; simp -implicitDefEqProofs (disch := first | exact soD | fail) only [go_sem, ↓reduceIte, Nat.reduceEqDiff, Nat.reduceAdd, Nat.reduceLT, Nat.reduceLeDiff, Nat.reduceBEq, reduceCtorEq]; exact old j hj)
        have p6 : w.next ≤ m2.next := by
          unfold encM at p3
          simp only [room_next, put_next, kill_next] at p3
          omega
        have p7 := p2.lo (lo' := lo) (by unfold encM; (first | omega | (simp -implicitDefEqProofs (disch := first | exact soD | fail) only [go_sem, ↓reduceIte, Nat.reduceEqDiff, Nat.reduceAdd, Nat.reduceLT, Nat.reduceLeDiff, Nat.reduceBEq, reduceCtorEq] <;> omega)))
        unfold encM at p1
        rw [ez] at p1
        repeat' (first | simp -implicitDefEqProofs (disch := first | exact soD | fail) only [go_sem, ↓reduceIte, Nat.reduceEqDiff, Nat.reduceAdd, Nat.reduceLT, Nat.reduceLeDiff, Nat.reduceBEq, reduceCtorEq, Int.reduceMod, e1, e3, e23, e24, e25, b3, ht, wrap_u8, hk8, c2, c4, p1] | ((with_reducible first | refine g_dec ?_ ?_ | refine c_dec ?_ ?_ | refine s_dec ?_ ?_ | refine g_ndec ?_ ?_ | refine c_ndec ?_ ?_ | refine g_nbool ?_ ?_ | refine c_nbool ?_ ?_ | refine g_bool ?_ ?_ | refine c_bool ?_ ?_ | refine s_bool ?_ ?_) <;> intro h d <;> (try simp only [d]) <;> (try simp only [B1, B2, B3, B4, B5, B6, B7, B8] at h) <;> (try omega)))
        refine hN (i + 1) _ _ ⟨⟨by omega, by omega⟩, v2, p7.frame (by simp -implicitDefEqProofs (disch := first | exact soD | fail) only [go_sem, ↓reduceIte, Nat.reduceEqDiff, Nat.reduceAdd, Nat.reduceLT, Nat.reduceLeDiff, Nat.reduceBEq, reduceCtorEq]; omega) (fun id _ _ => rfl), by simp -implicitDefEqProofs (disch := first | exact soD | fail) only [go_sem, ↓reduceIte, Nat.reduceEqDiff, Nat.reduceAdd, Nat.reduceLT, Nat.reduceLeDiff, Nat.reduceBEq, reduceCtorEq]; omega, fun j hj => p5 j hj, ?_, ?_, ?_, ?_, ?_⟩ (by omega)
        all_goals (simp -implicitDefEqProofs (disch := first | exact soD | fail) only [go_sem, ↓reduceIte, Nat.reduceEqDiff, Nat.reduceAdd, Nat.reduceLT, Nat.reduceLeDiff, Nat.reduceBEq, reduceCtorEq, e1, e23, e24, e25]; done)
  · repeat' (first | simp -implicitDefEqProofs (disch := first | exact soE | (simp -implicitDefEqProofs (disch := first | exact soE | fail) only [go_sem, ↓reduceIte, Nat.reduceEqDiff, Nat.reduceAdd, Nat.reduceLT, Nat.reduceLeDiff, Nat.reduceBEq, reduceCtorEq, e1, e3, e23, e24, e25]; done) | fail) only [go_sem, ↓reduceIte, Nat.reduceEqDiff, Nat.reduceAdd, Nat.reduceLT, Nat.reduceLeDiff, Nat.reduceBEq, reduceCtorEq, e1, e3, e23, e24, e25] | ((with_reducible first | refine g_dec ?_ ?_ | refine c_dec ?_ ?_ | refine s_dec ?_ ?_ | refine g_ndec ?_ ?_ | refine c_ndec ?_ ?_ | refine g_nbool ?_ ?_ | refine c_nbool ?_ ?_ | refine g_bool ?_ ?_ | refine c_bool ?_ ?_ | refine s_bool ?_ ?_) <;> intro h d <;> (try simp only [d]) <;> (try simp only [B1, B2, B3, B4, B5, B6, B7, B8] at h) <;> (try omega)))
    have : ts.take i.toNat = ts := List.take_of_length_le (by omega)
    rw [this] at hv
    exact (hE _ _).1 _ (hK _ _ v (hv.frame (by simp -implicitDefEqProofs (disch := first | exact soD | fail) only [go_sem, ↓reduceIte, Nat.reduceEqDiff, Nat.reduceAdd, Nat.reduceLT, Nat.reduceLeDiff, Nat.reduceBEq, reduceCtorEq]; omega) (fun id _ _ => rfl)) (by simp -implicitDefEqProofs (disch := first | exact soD | fail) only [go_sem, ↓reduceIte, Nat.reduceEqDiff, Nat.reduceAdd, Nat.reduceLT, Nat.reduceLeDiff, Nat.reduceBEq, reduceCtorEq]; omega) (fun id hid => old id hid) (by simp -implicitDefEqProofs (disch := first | exact soD | fail) only [go_sem, ↓reduceIte, Nat.reduceEqDiff, Nat.reduceAdd, Nat.reduceLT, Nat.reduceLeDiff, Nat.reduceBEq, reduceCtorEq, e1]) (by simp -implicitDefEqProofs (disch := first | exact soD | fail) only [go_sem, ↓reduceIte, Nat.reduceEqDiff, Nat.reduceAdd, Nat.reduceLT, Nat.reduceLeDiff, Nat.reduceBEq, reduceCtorEq, e3]))
end Go.Proofs.YtiijjopdhjpalaaDoor

/-! What the functions of chapter 10 answer: a program as bytes, the functions. Conditions: none. -/
namespace Go.Proofs.YtiijjopdhjpalaaDoor
open Go
set_option linter.unusedSimpArgs false
set_option linter.unusedVariables false
theorem encN_snoc (l : List Int) (z : Int) : encN (l ++ [z]) = encN l ++ lebL z.toNat := by simp [encN]
set_option maxHeartbeats 1000000 in
/-- The three numbers of a function. -/
theorem enc_three (n : Nat) {a b c : Int} (ha : 0 ≤ a ∧ a < 4294967296) (hb : 0 ≤ b ∧ b < 4294967296) (hc : 0 ≤ c ∧ c < 4294967296) {lo : Nat} {L : List Int} (hL : L.length ≤ 9000000)
    {K : Kont} {Q : AOut → AMem → Prop} {env : AEnv} {w : AMem} {v : AV} {idq : Nat} (hv : BO w lo v L) (hlo : lo ≤ w.next) (hq : idq < w.next) (hg : w.get idq = some (.arr 3 1 [avI a, avI b, avI c]))
    (e3 : env 3 = v) (e80 : env 80 = .sl 1 idq 0 3) (e81 : env 81 = avI 3) (e82 : env 82 = avI 0)
    (hK : ∀ (env' : AEnv) (w' : AMem) (v' : AV), BO w' lo v' (L ++ encN [a, b, c]) → w.next ≤ w'.next → (∀ id, id < w.next → w'.get id = w.get id) → env' 3 = v' → env' 1 = env 1 → env' 7 = env 7 → env' 63 = env 63 → env' 64 = env 64 → env' 65 = env 65 → Wp (K (.exit 4) env' w') Q) :
    Wp (loopN LOOPK (aCode (callsN cfg (n + 1)) lb12_1) env w K) Q := by
  refine wp_loop (fun (i : Int) (env' : AEnv) (w' : AMem) => (0 ≤ i ∧ i ≤ 3) ∧ ∃ v, BO w' lo v (L ++ encN ([a, b, c].take i.toNat)) ∧ w.next ≤ w'.next ∧ (∀ id, id < w.next → w'.get id = w.get id) ∧
      env' 3 = v ∧ env' 80 = .sl 1 idq 0 3 ∧ env' 81 = avI 3 ∧ env' 82 = avI i ∧ env' 1 = env 1 ∧ env' 7 = env 7 ∧ env' 63 = env 63 ∧ env' 64 = env 64 ∧ env' 65 = env 65) (fun i => (3 - i).toNat)
    (fun i env' w' K' ⟨⟨i0, i1⟩, v, hv, hn, old, e3, e80, e81, e82, f1, f7, f63, f64, f65⟩ hN hE => ?_) LOOPK 0 _ _ ⟨⟨by omega, by omega⟩, v, by simpa [encN] using hv, by omega, fun _ _ => rfl, e3, e80, e81, e82, rfl, rfl, rfl, rfl, rfl⟩ (by rw [LOOPK_eq]; omega)
  unfold lb12_1
  by_cases hi : i < 3
  · obtain ⟨z, hz0, hz1, hz2, hz3⟩ : ∃ z, ([a, b, c].take (i + 1).toNat) = [a, b, c].take i.toNat ++ [z] ∧ [avI a, avI b, avI c][i.toNat]? = some (avI z) ∧ 0 ≤ z ∧ z < 4294967296 := by
      have : i = 0 ∨ i = 1 ∨ i = 2 := by omega
      rcases this with rfl | rfl | rfl
      · exact ⟨a, rfl, rfl, ha.1, ha.2⟩
      · exact ⟨b, rfl, rfl, hb.1, hb.2⟩
      · exact ⟨c, rfl, rfl, hc.1, hc.2⟩
    have hel := encN_len (l := [a, b, c].take i.toNat) (fun z hz => by
      have := List.mem_of_mem_take hz
      simp only [List.mem_cons, List.not_mem_nil, or_false] at this
      rcases this with rfl | rfl | rfl <;> assumption)
    simp only [List.length_take, List.length_cons, List.length_nil] at hel
    obtain ⟨v2, m2, P⟩ := put_bo n (m := ((w'.room 1).room 3).room 5) (hv.frame (by simp -implicitDefEqProofs (disch := first | exact soD | fail) only [go_sem, ↓reduceIte, Nat.reduceEqDiff, Nat.reduceAdd, Nat.reduceLT, Nat.reduceLeDiff, Nat.reduceBEq, reduceCtorEq]; omega) (fun id _ _ => rfl)) z.toNat (by rw [List.length_append]; omega) (by omega)
    rw [List.append_assoc, ← encN_snoc, ← hz0, show ((z.toNat : Nat) : Int) = z by omega] at P
    obtain ⟨p1, p2, p3, p4⟩ := P
    simp only [room_next, room_get] at p2 p3 p4
    have hg' := (old idq hq).trans hg
    repeat' (first | simp -implicitDefEqProofs (disch := first | exact soD | fail) only [go_sem, ↓reduceIte, Nat.reduceEqDiff, Nat.reduceAdd, Nat.reduceLT, Nat.reduceLeDiff, Nat.reduceBEq, reduceCtorEq, e3, e80, e81, e82, hg', hz1, p1] | ((with_reducible first | refine g_dec ?_ ?_ | refine c_dec ?_ ?_ | refine s_dec ?_ ?_ | refine g_ndec ?_ ?_ | refine c_ndec ?_ ?_ | refine g_nbool ?_ ?_ | refine c_nbool ?_ ?_ | refine g_bool ?_ ?_ | refine c_bool ?_ ?_ | refine s_bool ?_ ?_) <;> intro h d <;> (try simp only [d]) <;> (try simp only [B1, B2, B3, B4, B5, B6, B7, B8] at h) <;> (try omega)))
    refine hN (i + 1) _ _ ⟨⟨by omega, by omega⟩, v2, (p2.lo (lo' := lo) (by omega)).frame (by simp -implicitDefEqProofs (disch := first | exact soD | fail) only [go_sem, ↓reduceIte, Nat.reduceEqDiff, Nat.reduceAdd, Nat.reduceLT, Nat.reduceLeDiff, Nat.reduceBEq, reduceCtorEq]; omega) (fun id _ _ => rfl), by simp -implicitDefEqProofs (disch := first | exact soD | fail) only [go_sem, ↓reduceIte, Nat.reduceEqDiff, Nat.reduceAdd, Nat.reduceLT, Nat.reduceLeDiff, Nat.reduceBEq, reduceCtorEq]; omega, fun j hj => (p4 j (by omega)).trans (old j hj), ?_, ?_, ?_, ?_, ?_, ?_, ?_, ?_, ?_⟩ (by omega)
    all_goals (simp -implicitDefEqProofs (disch := first | exact soD | fail) only [go_sem, ↓reduceIte, Nat.reduceEqDiff, Nat.reduceAdd, Nat.reduceLT, Nat.reduceLeDiff, Nat.reduceBEq, reduceCtorEq, e80, e81, e82, f1, f7, f63, f64, f65]; done)
  · repeat' (first | simp -implicitDefEqProofs (disch := first | exact soE | (simp -implicitDefEqProofs (disch := first | exact soE | fail) only [go_sem, ↓reduceIte, Nat.reduceEqDiff, Nat.reduceAdd, Nat.reduceLT, Nat.reduceLeDiff, Nat.reduceBEq, reduceCtorEq, e3, e80, e81, e82]; done) | fail) only [go_sem, ↓reduceIte, Nat.reduceEqDiff, Nat.reduceAdd, Nat.reduceLT, Nat.reduceLeDiff, Nat.reduceBEq, reduceCtorEq, e3, e80, e81, e82] | ((with_reducible first | refine g_dec ?_ ?_ | refine c_dec ?_ ?_ | refine s_dec ?_ ?_ | refine g_ndec ?_ ?_ | refine c_ndec ?_ ?_ | refine g_nbool ?_ ?_ | refine c_nbool ?_ ?_ | refine g_bool ?_ ?_ | refine c_bool ?_ ?_ | refine s_bool ?_ ?_) <;> intro h d <;> (try simp only [d]) <;> (try simp only [B1, B2, B3, B4, B5, B6, B7, B8] at h) <;> (try omega)))
    have : i = 3 := by omega
    subst this
    exact (hE _ _).1 _ (hK _ _ v (hv.frame (by simp -implicitDefEqProofs (disch := first | exact soD | fail) only [go_sem, ↓reduceIte, Nat.reduceEqDiff, Nat.reduceAdd, Nat.reduceLT, Nat.reduceLeDiff, Nat.reduceBEq, reduceCtorEq]; omega) (fun id _ _ => rfl)) (by simp -implicitDefEqProofs (disch := first | exact soD | fail) only [go_sem, ↓reduceIte, Nat.reduceEqDiff, Nat.reduceAdd, Nat.reduceLT, Nat.reduceLeDiff, Nat.reduceBEq, reduceCtorEq]; omega) (fun id hid => old id hid) (by simp -implicitDefEqProofs (disch := first | exact soD | fail) only [go_sem, ↓reduceIte, Nat.reduceEqDiff, Nat.reduceAdd, Nat.reduceLT, Nat.reduceLeDiff, Nat.reduceBEq, reduceCtorEq, e3]) (by simp -implicitDefEqProofs (disch := first | exact soD | fail) only [go_sem, ↓reduceIte, Nat.reduceEqDiff, Nat.reduceAdd, Nat.reduceLT, Nat.reduceLeDiff, Nat.reduceBEq, reduceCtorEq, f1]) (by simp -implicitDefEqProofs (disch := first | exact soD | fail) only [go_sem, ↓reduceIte, Nat.reduceEqDiff, Nat.reduceAdd, Nat.reduceLT, Nat.reduceLeDiff, Nat.reduceBEq, reduceCtorEq, f7]) (by simp -implicitDefEqProofs (disch := first | exact soD | fail) only [go_sem, ↓reduceIte, Nat.reduceEqDiff, Nat.reduceAdd, Nat.reduceLT, Nat.reduceLeDiff, Nat.reduceBEq, reduceCtorEq, f63]) (by simp -implicitDefEqProofs (disch := first | exact soD | fail) only [go_sem, ↓reduceIte, Nat.reduceEqDiff, Nat.reduceAdd, Nat.reduceLT, Nat.reduceLeDiff, Nat.reduceBEq, reduceCtorEq, f64]) (by simp -implicitDefEqProofs (disch := first | exact soD | fail) only [go_sem, ↓reduceIte, Nat.reduceEqDiff, Nat.reduceAdd, Nat.reduceLT, Nat.reduceLeDiff, Nat.reduceBEq, reduceCtorEq, f65]))
/-- An instruction as a right program has it. -/
def inOk (i : GI) : Prop := 0 ≤ i.op ∧ i.op < 38 ∧ opOk i
theorem encI_len {i : GI} (h : inOk i) : (encI i).length ≤ 11 := by
  have := encOp_len h.2.2
  unfold encI
  simp only [List.length_append, List.length_cons, List.length_nil]
  omega
theorem beq_instr (i : GI) : AV.beq i.av i.av = true := by simp [AV.beq, AV.beqL]
/-- The memory once an instruction's operation has been put. -/
def encC (w : AMem) (id : Nat) (x : GI) (L : List Int) : AMem :=
  ((((((((w.room 1).room 4).put (w.next + 1 + 2) (.arr 45 3 [.agg [.int .i64 0, .int .i64 0, .int .i64 0]])).put (w.next + 1 + 2) (.arr 45 3 [x.av])).room 9).put
    (w.next + 1 + 4 + 4) (.arr 5 1 [.int .u8 x.op])).kill id).put (w.next + 1 + 4 + 5) (.arr 5 1 ((L ++ [x.op]).map avB)))
set_option maxHeartbeats 1000000 in
/-- The loop over the instructions. -/
theorem enc_code (n : Nat) (cs : List GI) (hcs : ∀ x ∈ cs, inOk x) (hlen : cs.length ≤ 300) {lo : Nat} {H : List Int} (hH : H.length ≤ 1000000)
    {K : Kont} {Q : AOut → AMem → Prop} {env : AEnv} {w : AMem} {v : AV} (hv : BO w lo v H) (hlo : lo ≤ w.next)
    (e3 : env 3 = v) (e92 : env 92 = tsl 3 (cs.map GI.av)) (e93 : env 93 = avI cs.length) (e94 : env 94 = avI 0)
    (hK : ∀ (env' : AEnv) (w' : AMem) (v' : AV), BO w' lo v' (H ++ cs.flatMap encI) → w.next ≤ w'.next → (∀ id, id < lo → w'.get id = w.get id) → env' 3 = v' → env' 1 = env 1 → env' 63 = env 63 → env' 64 = env 64 → env' 65 = env 65 → Wp (K (.exit 6) env' w') Q) :
    Wp (loopN LOOPK (aCode (callsN cfg (n + 4)) lb12_2) env w K) Q := by
  refine wp_loop (fun (i : Int) (env' : AEnv) (w' : AMem) => (0 ≤ i ∧ i ≤ cs.length) ∧ ∃ v, BO w' lo v (H ++ (cs.take i.toNat).flatMap encI) ∧ w.next ≤ w'.next ∧ (∀ id, id < lo → w'.get id = w.get id) ∧
      env' 3 = v ∧ env' 92 = tsl 3 (cs.map GI.av) ∧ env' 93 = avI cs.length ∧ env' 94 = avI i ∧ env' 1 = env 1 ∧ env' 63 = env 63 ∧ env' 64 = env 64 ∧ env' 65 = env 65) (fun i => (cs.length - i).toNat)
    (fun i env' w' K' ⟨⟨i0, i1⟩, v, hv, hn, old, e3, e92, e93, e94, f1, f63, f64, f65⟩ hN hE => ?_) LOOPK 0 _ _ ⟨⟨by omega, by omega⟩, v, by simpa using hv, by omega, fun _ _ => rfl, e3, e92, e93, e94, rfl, rfl, rfl, rfl⟩ (by rw [LOOPK_eq]; omega)
  unfold lb12_2
  by_cases hi : i < cs.length
  · have hx := hcs _ (nth_mem cs i i0 hi)
    have hfl := flat_len (l := cs.take i.toNat) (f := encI) (c := 11) (fun x hx => encI_len (hcs x (List.mem_of_mem_take hx)))
    obtain ⟨o0, o1, hop⟩ := hx
    have hstep := flat_step (f := encI) i0 hi
    generalize hL : H ++ (cs.take i.toNat).flatMap encI = L at hv
    have hLl : L.length ≤ 1010000 := by rw [← hL, List.length_append]; simp only [List.length_take] at hfl; omega
    obtain ⟨id, rfl, b1, b2, b3⟩ := hv
    have hk8 : (nth cs i).op % 256 = (nth cs i).op := by omega
    have ht : List.take L.length (L.map avB) = L.map avB := List.take_of_length_le (by simp)
    have hfin : L ++ [(nth cs i).op] ++ encOp (nth cs i) = H ++ (cs.take (i + 1).toNat).flatMap encI := by
      rw [hstep, ← List.append_assoc, hL]; simp [encI]
    have hbo : BO (encC w' id (nth cs i) L) lo (.sl 1 (w'.next + 1 + 4 + 5) 0 (L.length + 1)) (L ++ [(nth cs i).op]) := ⟨w'.next + 1 + 4 + 5, by simp, by omega, by unfold encC; (first | omega | (simp -implicitDefEqProofs (disch := first | exact soD | fail) only [go_sem, ↓reduceIte, Nat.reduceEqDiff, Nat.reduceAdd, Nat.reduceLT, Nat.reduceLeDiff, Nat.reduceBEq, reduceCtorEq] <;> omega)), by unfold encC; simp -implicitDefEqProofs (disch := first | exact soD | fail) only [go_sem, ↓reduceIte, Nat.reduceEqDiff, Nat.reduceAdd, Nat.reduceLT, Nat.reduceLeDiff, Nat.reduceBEq, reduceCtorEq]⟩
    obtain ⟨v2, m2, p1, p2, p3, p4⟩ := operands_bo n hbo (by unfold encC; (first | omega | (simp -implicitDefEqProofs (disch := first | exact soD | fail) only [go_sem, ↓reduceIte, Nat.reduceEqDiff, Nat.reduceAdd, Nat.reduceLT, Nat.reduceLeDiff, Nat.reduceBEq, reduceCtorEq] <;> omega))) (nth cs i) (i64_iff.2 ⟨by omega, by omega⟩) hop (by simp; omega)
    rw [hfin] at p2
    have p5 : ∀ j, j < lo → m2.get j = w.get j := fun j hj => (p4 j (by unfold encC; (first | omega | (simp -implicitDefEqProofs (disch := first | exact soD | fail) only [go_sem, ↓reduceIte, Nat.reduceEqDiff, Nat.reduceAdd, Nat.reduceLT, Nat.reduceLeDiff, Nat.reduceBEq, reduceCtorEq] <;> omega)))).trans (by unfold encC; simp -implicitDefEqProofs (disch := first | exact soD | fail) only [go_sem, ↓reduceIte, Nat.reduceEqDiff, Nat.reduceAdd, Nat.reduceLT, Nat.reduceLeDiff, Nat.reduceBEq, reduceCtorEq]; exact old j hj)
    have p6 : w'.next ≤ m2.next := by
      unfold encC at p3
      simp only [room_next, put_next, kill_next] at p3
      omega
    unfold encC at p1
    repeat' (first | simp -implicitDefEqProofs (disch := first | exact soD | fail) only [go_sem, ↓reduceIte, Nat.reduceEqDiff, Nat.reduceAdd, Nat.reduceLT, Nat.reduceLeDiff, Nat.reduceBEq, reduceCtorEq, Int.reduceMod, e3, e92, e93, e94, b3, ht, wrap_u8, hk8, p1, beq_instr] | ((with_reducible first | refine g_dec ?_ ?_ | refine c_dec ?_ ?_ | refine s_dec ?_ ?_ | refine g_ndec ?_ ?_ | refine c_ndec ?_ ?_ | refine g_nbool ?_ ?_ | refine c_nbool ?_ ?_ | refine g_bool ?_ ?_ | refine c_bool ?_ ?_ | refine s_bool ?_ ?_) <;> intro h d <;> (try simp only [d]) <;> (try simp only [B1, B2, B3, B4, B5, B6, B7, B8] at h) <;> (try omega)))
    refine hN (i + 1) _ _ ⟨⟨by omega, by omega⟩, v2, p2.frame soA (fun id _ _ => rfl), soA, fun j hj => p5 j hj, ?_, ?_, ?_, ?_, ?_, ?_, ?_, ?_⟩ (by omega)
    all_goals (simp -implicitDefEqProofs (disch := first | exact soD | fail) only [go_sem, ↓reduceIte, Nat.reduceEqDiff, Nat.reduceAdd, Nat.reduceLT, Nat.reduceLeDiff, Nat.reduceBEq, reduceCtorEq, e92, e93, e94, f1, f63, f64, f65]; done)
  · repeat' (first | simp -implicitDefEqProofs (disch := first | exact soE | (simp -implicitDefEqProofs (disch := first | exact soE | fail) only [go_sem, ↓reduceIte, Nat.reduceEqDiff, Nat.reduceAdd, Nat.reduceLT, Nat.reduceLeDiff, Nat.reduceBEq, reduceCtorEq, e3, e92, e93, e94]; done) | fail) only [go_sem, ↓reduceIte, Nat.reduceEqDiff, Nat.reduceAdd, Nat.reduceLT, Nat.reduceLeDiff, Nat.reduceBEq, reduceCtorEq, e3, e92, e93, e94] | ((with_reducible first | refine g_dec ?_ ?_ | refine c_dec ?_ ?_ | refine s_dec ?_ ?_ | refine g_ndec ?_ ?_ | refine c_ndec ?_ ?_ | refine g_nbool ?_ ?_ | refine c_nbool ?_ ?_ | refine g_bool ?_ ?_ | refine c_bool ?_ ?_ | refine s_bool ?_ ?_) <;> intro h d <;> (try simp only [d]) <;> (try simp only [B1, B2, B3, B4, B5, B6, B7, B8] at h) <;> (try omega)))
    have : cs.take i.toNat = cs := List.take_of_length_le (by omega)
    rw [this] at hv
    exact (hE _ _).1 _ (hK _ _ v (hv.frame (by simp -implicitDefEqProofs (disch := first | exact soD | fail) only [go_sem, ↓reduceIte, Nat.reduceEqDiff, Nat.reduceAdd, Nat.reduceLT, Nat.reduceLeDiff, Nat.reduceBEq, reduceCtorEq]; omega) (fun id _ _ => rfl)) (by simp -implicitDefEqProofs (disch := first | exact soD | fail) only [go_sem, ↓reduceIte, Nat.reduceEqDiff, Nat.reduceAdd, Nat.reduceLT, Nat.reduceLeDiff, Nat.reduceBEq, reduceCtorEq]; omega) (fun id hid => old id hid) (by simp -implicitDefEqProofs (disch := first | exact soD | fail) only [go_sem, ↓reduceIte, Nat.reduceEqDiff, Nat.reduceAdd, Nat.reduceLT, Nat.reduceLeDiff, Nat.reduceBEq, reduceCtorEq, e3]) (by simp -implicitDefEqProofs (disch := first | exact soD | fail) only [go_sem, ↓reduceIte, Nat.reduceEqDiff, Nat.reduceAdd, Nat.reduceLT, Nat.reduceLeDiff, Nat.reduceBEq, reduceCtorEq, f1]) (by simp -implicitDefEqProofs (disch := first | exact soD | fail) only [go_sem, ↓reduceIte, Nat.reduceEqDiff, Nat.reduceAdd, Nat.reduceLT, Nat.reduceLeDiff, Nat.reduceBEq, reduceCtorEq, f63]) (by simp -implicitDefEqProofs (disch := first | exact soD | fail) only [go_sem, ↓reduceIte, Nat.reduceEqDiff, Nat.reduceAdd, Nat.reduceLT, Nat.reduceLeDiff, Nat.reduceBEq, reduceCtorEq, f64]) (by simp -implicitDefEqProofs (disch := first | exact soD | fail) only [go_sem, ↓reduceIte, Nat.reduceEqDiff, Nat.reduceAdd, Nat.reduceLT, Nat.reduceLeDiff, Nat.reduceBEq, reduceCtorEq, f65]))
end Go.Proofs.YtiijjopdhjpalaaDoor

/-! What the functions of chapter 10 answer: a program as bytes. Conditions: none. -/
namespace Go.Proofs.YtiijjopdhjpalaaDoor
open Go
set_option linter.unusedSimpArgs false
set_option linter.unusedVariables false
/-- A function as a right program has it. -/
def fnOk (f : GF) : Prop := f.params.length ≤ 16 ∧ (∀ z ∈ f.params, 0 ≤ z ∧ z < 100) ∧ (0 ≤ f.result ∧ f.result < 100) ∧ (0 ≤ f.locals ∧ f.locals < 100) ∧ f.code.length ≤ 300 ∧ ∀ x ∈ f.code, inOk x
theorem encN_three (a b c : Int) : encN [a, b, c] = lebL a.toNat ++ lebL b.toNat ++ lebL c.toNat := by simp [encN]
theorem encF_eq (f : GF) : encF f = encList f.params ++ encN [f.result, f.locals, (f.code.length : Int)] ++ f.code.flatMap encI := by
  unfold encF
  rw [encN_three, show ((f.code.length : Nat) : Int).toNat = f.code.length by omega]
  simp only [List.append_assoc]
theorem encList_len {l : List Int} (hl : l.length ≤ 1000) (h : ∀ z ∈ l, 0 ≤ z ∧ z < 100) : (encList l).length ≤ 5 + 5 * l.length := by
  have a := encN_len (l := l) (fun z hz => by have := h z hz; omega)
  have b := lebL_small (n := l.length) (by omega)
  unfold encList
  rw [List.length_append]
  omega
theorem encF_len {f : GF} (h : fnOk f) : (encF f).length ≤ 3500 := by
  obtain ⟨h1, h2, h3, h4, h5, h6⟩ := h
  have a := encList_len (by omega) h2
  have b := lebL_small (n := f.result.toNat) (by omega)
  have c := lebL_small (n := f.locals.toNat) (by omega)
  have d := lebL_small (n := f.code.length) (by omega)
  have e := flat_len (l := f.code) (f := encI) (c := 11) (fun x hx => encI_len (h6 x hx))
  unfold encF
  simp only [List.length_append]
  omega
/-- The memory ahead of a function's params. -/
def encG (w : AMem) (f : GF) : AMem :=
  (((((w.room 1).room 4).put (w.next + 1 + 2) (.arr 48 4 [.agg [.nils, .int .i64 0, .int .i64 0, .nils]])).put (w.next + 1 + 2) (.arr 48 4 [f.av])).room 5)
set_option maxHeartbeats 1000000 in
/-- The loop over the functions. -/
theorem enc_funcs (n : Nat) {g : Nat → Option AObj} {lo : Nat} (fs : List GF) (hfs : ∀ x ∈ fs, fnOk x) (hlen : fs.length ≤ 50) {H : List Int} (hH : H.length ≤ 10000)
    {K : Kont} {Q : AOut → AMem → Prop} {env : AEnv} {w : AMem} {v : AV} (hv : BO w (lo) v H) (hn : lo ≤ w.next) (old : ∀ id, id < lo → w.get id = g id)
    (e3 : env 3 = v) (e63 : env 63 = tsl 4 (fs.map GF.av)) (e64 : env 64 = avI fs.length) (e65 : env 65 = avI 0)
    (hK : ∀ (env' : AEnv) (w' : AMem) (v' : AV), BO w' (lo) v' (H ++ fs.flatMap encF) → lo ≤ w'.next → (∀ id, id < lo → w'.get id = g id) → env' 1 = env 1 → env' 3 = v' → Wp (K (.exit 2) env' w') Q) :
    Wp (loopN LOOPK (aCode (callsN cfg (n + 4)) lb12_3) env w K) Q := by
  refine wp_loop (fun (i : Int) (env' : AEnv) (w : AMem) => (0 ≤ i ∧ i ≤ fs.length) ∧ ∃ v, BO w (lo) v (H ++ (fs.take i.toNat).flatMap encF) ∧ lo ≤ w.next ∧ (∀ id, id < lo → w.get id = g id) ∧
      env' 1 = env 1 ∧ env' 3 = v ∧ env' 63 = tsl 4 (fs.map GF.av) ∧ env' 64 = avI fs.length ∧ env' 65 = avI i) (fun i => (fs.length - i).toNat)
    (fun i env' w K' ⟨⟨i0, i1⟩, v, hv, hn, old, e1, e3, e63, e64, e65⟩ hN hE => ?_) LOOPK 0 _ _ ⟨⟨by omega, by omega⟩, v, by simpa using hv, hn, old, rfl, e3, e63, e64, e65⟩ (by rw [LOOPK_eq]; omega)
  unfold lb12_3
  by_cases hi : i < fs.length
  · have hx := hfs _ (nth_mem fs i i0 hi)
    have hfl := flat_len (l := fs.take i.toNat) (f := encF) (c := 3500) (fun x hx => encF_len (hfs x (List.mem_of_mem_take hx)))
    have hstep := flat_step (f := encF) i0 hi
    generalize hL : H ++ (fs.take i.toNat).flatMap encF = L at hv
    have hLl : L.length ≤ 200000 := by rw [← hL, List.length_append]; simp only [List.length_take] at hfl; omega
    generalize hF : nth fs i = F at hx hstep
    obtain ⟨h1, h2, h3, h4, h5, h6⟩ := hx
    have hfin : L ++ encList F.params ++ encN [F.result, F.locals, (F.code.length : Int)] ++ F.code.flatMap encI = H ++ (fs.take (i + 1).toNat).flatMap encF := by
      rw [hstep, ← List.append_assoc, hL, encF_eq]; simp only [List.append_assoc]
    have hel := encList_len (by omega) h2
    have hen := encN_len (l := [F.result, F.locals, (F.code.length : Int)]) (fun z hz => by
      simp only [List.mem_cons, List.not_mem_nil, or_false] at hz
      rcases hz with rfl | rfl | rfl <;> omega)
    simp only [List.length_cons, List.length_nil] at hen
    have hbo : BO (encG w F) (lo) v L := hv.frame (by unfold encG; (first | omega | (simp -implicitDefEqProofs (disch := first | exact soD | fail) only [go_sem, ↓reduceIte, Nat.reduceEqDiff, Nat.reduceAdd, Nat.reduceLT, Nat.reduceLeDiff, Nat.reduceBEq, reduceCtorEq] <;> omega))) (fun id a b => by unfold encG; simp -implicitDefEqProofs (disch := first | exact soD | fail) only [go_sem, ↓reduceIte, Nat.reduceEqDiff, Nat.reduceAdd, Nat.reduceLT, Nat.reduceLeDiff, Nat.reduceBEq, reduceCtorEq])
    obtain ⟨v2, m2, P⟩ := list_bo (n + 2) hbo F.params (by omega) (by omega) (fun z hz => by have := h2 z hz; omega)
    obtain ⟨p1, p2, p3, p4⟩ := P
    have p5 : ∀ j, j < lo → m2.get j = g j := fun j hj => (p4 j (by unfold encG; (first | omega | (simp -implicitDefEqProofs (disch := first | exact soD | fail) only [go_sem, ↓reduceIte, Nat.reduceEqDiff, Nat.reduceAdd, Nat.reduceLT, Nat.reduceLeDiff, Nat.reduceBEq, reduceCtorEq] <;> omega)))).trans (by unfold encG; simp -implicitDefEqProofs (disch := first | exact soD | fail) only [go_sem, ↓reduceIte, Nat.reduceEqDiff, Nat.reduceAdd, Nat.reduceLT, Nat.reduceLeDiff, Nat.reduceBEq, reduceCtorEq]; exact old j hj)
    have p6 : w.next + 10 ≤ m2.next := by
      unfold encG at p3
      simp only [room_next, put_next, kill_next] at p3
      omega
    have p7 := p2.lo (lo' := lo) (by unfold encG; (first | omega | (simp -implicitDefEqProofs (disch := first | exact soD | fail) only [go_sem, ↓reduceIte, Nat.reduceEqDiff, Nat.reduceAdd, Nat.reduceLT, Nat.reduceLeDiff, Nat.reduceBEq, reduceCtorEq] <;> omega)))
    have p8 : m2.get (w.next + 1 + 2) = some (.arr 48 4 [F.av]) := (p4 _ (by unfold encG; (first | omega | (simp -implicitDefEqProofs (disch := first | exact soD | fail) only [go_sem, ↓reduceIte, Nat.reduceEqDiff, Nat.reduceAdd, Nat.reduceLT, Nat.reduceLeDiff, Nat.reduceBEq, reduceCtorEq] <;> omega)))).trans (by unfold encG; simp -implicitDefEqProofs (disch := first | exact soD | fail) only [go_sem, ↓reduceIte, Nat.reduceEqDiff, Nat.reduceAdd, Nat.reduceLT, Nat.reduceLeDiff, Nat.reduceBEq, reduceCtorEq])
    unfold encG at p1
    repeat' (first | simp -implicitDefEqProofs (disch := first | exact soD | fail) only [go_sem, ↓reduceIte, Nat.reduceEqDiff, Nat.reduceAdd, Nat.reduceLT, Nat.reduceLeDiff, Nat.reduceBEq, reduceCtorEq, Int.reduceMod, e1, e3, e63, e64, e65, hF, p1, p8] | ((with_reducible first | refine g_dec ?_ ?_ | refine c_dec ?_ ?_ | refine s_dec ?_ ?_ | refine g_ndec ?_ ?_ | refine c_ndec ?_ ?_ | refine g_nbool ?_ ?_ | refine c_nbool ?_ ?_ | refine g_bool ?_ ?_ | refine c_bool ?_ ?_ | refine s_bool ?_ ?_) <;> intro h d <;> (try simp only [d]) <;> (try simp only [B1, B2, B3, B4, B5, B6, B7, B8] at h) <;> (try omega)))
    refine enc_three (n + 3) (a := F.result) (b := F.locals) (c := (F.code.length : Int)) (by omega) (by omega) (by omega) (lo := lo) (L := L ++ encList F.params) (idq := m2.next + 7) (v := v2) (by rw [List.length_append]; omega) (p7.frame soA (fun id a b => by simp -implicitDefEqProofs (disch := first | exact soD | fail) only [go_sem, ↓reduceIte, Nat.reduceEqDiff, Nat.reduceAdd, Nat.reduceLT, Nat.reduceLeDiff, Nat.reduceBEq, reduceCtorEq])) soA soA sxA sxA sxA (by simp -implicitDefEqProofs (disch := first | exact soD | fail) only [go_sem, ↓reduceIte, Nat.reduceEqDiff, Nat.reduceAdd, Nat.reduceLT, Nat.reduceLeDiff, Nat.reduceBEq, reduceCtorEq]; rfl) sxA (fun env' w' v' hv' hn' old' e3' e1' e7' e63' e64' e65' => ?_)
    have g1 : w'.get (w.next + 1 + 2) = some (.arr 48 4 [F.av]) := (old' _ soA).trans (by simp -implicitDefEqProofs (disch := first | exact soD | fail) only [go_sem, ↓reduceIte, Nat.reduceEqDiff, Nat.reduceAdd, Nat.reduceLT, Nat.reduceLeDiff, Nat.reduceBEq, reduceCtorEq]; exact p8)
    simp only [room_next, put_next] at hn'
    have e7'' : env' 7 = .ptr (w.next + 1 + 2) 0 0 := by rw [e7']; simp -implicitDefEqProofs (disch := first | exact soD | fail) only [go_sem, ↓reduceIte, Nat.reduceEqDiff, Nat.reduceAdd, Nat.reduceLT, Nat.reduceLeDiff, Nat.reduceBEq, reduceCtorEq]
    have e1'' : env' 1 = env 1 := by rw [e1']; simp -implicitDefEqProofs (disch := first | exact soD | fail) only [go_sem, ↓reduceIte, Nat.reduceEqDiff, Nat.reduceAdd, Nat.reduceLT, Nat.reduceLeDiff, Nat.reduceBEq, reduceCtorEq, e1]
    have e63'' : env' 63 = tsl 4 (fs.map GF.av) := by rw [e63']; simp -implicitDefEqProofs (disch := first | exact soD | fail) only [go_sem, ↓reduceIte, Nat.reduceEqDiff, Nat.reduceAdd, Nat.reduceLT, Nat.reduceLeDiff, Nat.reduceBEq, reduceCtorEq, e63]
    have e64'' : env' 64 = avI fs.length := by rw [e64']; simp -implicitDefEqProofs (disch := first | exact soD | fail) only [go_sem, ↓reduceIte, Nat.reduceEqDiff, Nat.reduceAdd, Nat.reduceLT, Nat.reduceLeDiff, Nat.reduceBEq, reduceCtorEq, e64]
    have e65'' : env' 65 = avI i := by rw [e65']; simp -implicitDefEqProofs (disch := first | exact soD | fail) only [go_sem, ↓reduceIte, Nat.reduceEqDiff, Nat.reduceAdd, Nat.reduceLT, Nat.reduceLeDiff, Nat.reduceBEq, reduceCtorEq, e65]
    clear e1' e7' e63' e64' e65'
    unfold ls12_0
    repeat' (first | simp -implicitDefEqProofs (disch := first | exact soD | fail) only [go_sem, ↓reduceIte, Nat.reduceEqDiff, Nat.reduceAdd, Nat.reduceLT, Nat.reduceLeDiff, Nat.reduceBEq, reduceCtorEq, e7'', g1] | ((with_reducible first | refine g_dec ?_ ?_ | refine c_dec ?_ ?_ | refine s_dec ?_ ?_ | refine g_ndec ?_ ?_ | refine c_ndec ?_ ?_ | refine g_nbool ?_ ?_ | refine c_nbool ?_ ?_ | refine g_bool ?_ ?_ | refine c_bool ?_ ?_ | refine s_bool ?_ ?_) <;> intro h d <;> (try simp only [d]) <;> (try simp only [B1, B2, B3, B4, B5, B6, B7, B8] at h) <;> (try omega)))
    refine enc_code n F.code h6 h5 (lo := lo) (H := L ++ encList F.params ++ encN [F.result, F.locals, (F.code.length : Int)]) (v := v') (by simp only [List.length_append] at *; omega) (hv'.frame soA (fun id a b => by simp -implicitDefEqProofs (disch := first | exact soD | fail) only [go_sem, ↓reduceIte, Nat.reduceEqDiff, Nat.reduceAdd, Nat.reduceLT, Nat.reduceLeDiff, Nat.reduceBEq, reduceCtorEq])) soA (by simp -implicitDefEqProofs (disch := first | exact soD | fail) only [go_sem, ↓reduceIte, Nat.reduceEqDiff, Nat.reduceAdd, Nat.reduceLT, Nat.reduceLeDiff, Nat.reduceBEq, reduceCtorEq, e3']) sxA sxA sxA (fun env'' w'' v'' hv'' hn'' old'' f3 f1 f63 f64 f65 => ?_)
    simp only [room_next, put_next] at hn''
    have f1' : env'' 1 = env 1 := by rw [f1]; simp -implicitDefEqProofs (disch := first | exact soD | fail) only [go_sem, ↓reduceIte, Nat.reduceEqDiff, Nat.reduceAdd, Nat.reduceLT, Nat.reduceLeDiff, Nat.reduceBEq, reduceCtorEq, e1'']
    have f63' : env'' 63 = tsl 4 (fs.map GF.av) := by rw [f63]; simp -implicitDefEqProofs (disch := first | exact soD | fail) only [go_sem, ↓reduceIte, Nat.reduceEqDiff, Nat.reduceAdd, Nat.reduceLT, Nat.reduceLeDiff, Nat.reduceBEq, reduceCtorEq, e63'']
    have f64' : env'' 64 = avI fs.length := by rw [f64]; simp -implicitDefEqProofs (disch := first | exact soD | fail) only [go_sem, ↓reduceIte, Nat.reduceEqDiff, Nat.reduceAdd, Nat.reduceLT, Nat.reduceLeDiff, Nat.reduceBEq, reduceCtorEq, e64'']
    have f65' : env'' 65 = avI i := by rw [f65]; simp -implicitDefEqProofs (disch := first | exact soD | fail) only [go_sem, ↓reduceIte, Nat.reduceEqDiff, Nat.reduceAdd, Nat.reduceLT, Nat.reduceLeDiff, Nat.reduceBEq, reduceCtorEq, e65'']
    clear f1 f63 f64 f65
    unfold ls12_1
    repeat' (first | simp -implicitDefEqProofs (disch := first | exact soD | fail) only [go_sem, ↓reduceIte, Nat.reduceEqDiff, Nat.reduceAdd, Nat.reduceLT, Nat.reduceLeDiff, Nat.reduceBEq, reduceCtorEq, f65'] | ((with_reducible first | refine g_dec ?_ ?_ | refine c_dec ?_ ?_ | refine s_dec ?_ ?_ | refine g_ndec ?_ ?_ | refine c_ndec ?_ ?_ | refine g_nbool ?_ ?_ | refine c_nbool ?_ ?_ | refine g_bool ?_ ?_ | refine c_bool ?_ ?_ | refine s_bool ?_ ?_) <;> intro h d <;> (try simp only [d]) <;> (try simp only [B1, B2, B3, B4, B5, B6, B7, B8] at h) <;> (try omega)))
    rw [hfin] at hv''
    refine hN (i + 1) _ _ ⟨⟨by omega, by omega⟩, v'', hv''.frame soA (fun id a b => by simp -implicitDefEqProofs (disch := first | exact soD | fail) only [go_sem, ↓reduceIte, Nat.reduceEqDiff, Nat.reduceAdd, Nat.reduceLT, Nat.reduceLeDiff, Nat.reduceBEq, reduceCtorEq]), soA, fun j hj => ?_, by simp -implicitDefEqProofs (disch := first | exact soD | fail) only [go_sem, ↓reduceIte, Nat.reduceEqDiff, Nat.reduceAdd, Nat.reduceLT, Nat.reduceLeDiff, Nat.reduceBEq, reduceCtorEq, f1'], by simp -implicitDefEqProofs (disch := first | exact soD | fail) only [go_sem, ↓reduceIte, Nat.reduceEqDiff, Nat.reduceAdd, Nat.reduceLT, Nat.reduceLeDiff, Nat.reduceBEq, reduceCtorEq, f3], by simp -implicitDefEqProofs (disch := first | exact soD | fail) only [go_sem, ↓reduceIte, Nat.reduceEqDiff, Nat.reduceAdd, Nat.reduceLT, Nat.reduceLeDiff, Nat.reduceBEq, reduceCtorEq, f63'], by simp -implicitDefEqProofs (disch := first | exact soD | fail) only [go_sem, ↓reduceIte, Nat.reduceEqDiff, Nat.reduceAdd, Nat.reduceLT, Nat.reduceLeDiff, Nat.reduceBEq, reduceCtorEq, f64'], by simp -implicitDefEqProofs (disch := first | exact soD | fail) only [go_sem, ↓reduceIte, Nat.reduceEqDiff, Nat.reduceAdd, Nat.reduceLT, Nat.reduceLeDiff, Nat.reduceBEq, reduceCtorEq, f65']⟩ (by omega)
    simp -implicitDefEqProofs (disch := first | exact soD | fail) only [go_sem, ↓reduceIte, Nat.reduceEqDiff, Nat.reduceAdd, Nat.reduceLT, Nat.reduceLeDiff, Nat.reduceBEq, reduceCtorEq]
    rw [old'' j hj]
    simp -implicitDefEqProofs (disch := first | exact soD | fail) only [go_sem, ↓reduceIte, Nat.reduceEqDiff, Nat.reduceAdd, Nat.reduceLT, Nat.reduceLeDiff, Nat.reduceBEq, reduceCtorEq]
    rw [old' j soA]
    simp -implicitDefEqProofs (disch := first | exact soD | fail) only [go_sem, ↓reduceIte, Nat.reduceEqDiff, Nat.reduceAdd, Nat.reduceLT, Nat.reduceLeDiff, Nat.reduceBEq, reduceCtorEq]
    exact p5 j hj
  · repeat' (first | simp -implicitDefEqProofs (disch := first | exact soE | (simp -implicitDefEqProofs (disch := first | exact soE | fail) only [go_sem, ↓reduceIte, Nat.reduceEqDiff, Nat.reduceAdd, Nat.reduceLT, Nat.reduceLeDiff, Nat.reduceBEq, reduceCtorEq, e1, e3, e63, e64, e65]; done) | fail) only [go_sem, ↓reduceIte, Nat.reduceEqDiff, Nat.reduceAdd, Nat.reduceLT, Nat.reduceLeDiff, Nat.reduceBEq, reduceCtorEq, e1, e3, e63, e64, e65] | ((with_reducible first | refine g_dec ?_ ?_ | refine c_dec ?_ ?_ | refine s_dec ?_ ?_ | refine g_ndec ?_ ?_ | refine c_ndec ?_ ?_ | refine g_nbool ?_ ?_ | refine c_nbool ?_ ?_ | refine g_bool ?_ ?_ | refine c_bool ?_ ?_ | refine s_bool ?_ ?_) <;> intro h d <;> (try simp only [d]) <;> (try simp only [B1, B2, B3, B4, B5, B6, B7, B8] at h) <;> (try omega)))
    have : fs.take i.toNat = fs := List.take_of_length_le (by omega)
    rw [this] at hv
    exact (hE _ _).1 _ (hK _ _ v (hv.frame (by simp -implicitDefEqProofs (disch := first | exact soD | fail) only [go_sem, ↓reduceIte, Nat.reduceEqDiff, Nat.reduceAdd, Nat.reduceLT, Nat.reduceLeDiff, Nat.reduceBEq, reduceCtorEq]; omega) (fun id _ _ => rfl)) (by simp -implicitDefEqProofs (disch := first | exact soD | fail) only [go_sem, ↓reduceIte, Nat.reduceEqDiff, Nat.reduceAdd, Nat.reduceLT, Nat.reduceLeDiff, Nat.reduceBEq, reduceCtorEq]; omega) (fun id hid => old id hid) (by simp -implicitDefEqProofs (disch := first | exact soD | fail) only [go_sem, ↓reduceIte, Nat.reduceEqDiff, Nat.reduceAdd, Nat.reduceLT, Nat.reduceLeDiff, Nat.reduceBEq, reduceCtorEq, e1]) (by simp -implicitDefEqProofs (disch := first | exact soD | fail) only [go_sem, ↓reduceIte, Nat.reduceEqDiff, Nat.reduceAdd, Nat.reduceLT, Nat.reduceLeDiff, Nat.reduceBEq, reduceCtorEq, e3]))
end Go.Proofs.YtiijjopdhjpalaaDoor

/-! What the functions of chapter 10 answer: image.Encode. Conditions: none. -/
namespace Go.Proofs.YtiijjopdhjpalaaDoor
open Go
set_option linter.unusedSimpArgs false
set_option linter.unusedVariables false
theorem tyOk_of {l : List GT} (h : (tr l).2 = 0) : l.length ≤ 60 ∧ ∀ x ∈ l, tyOk x := by
  obtain ⟨h1, h2⟩ := tr_ok h
  refine ⟨h1, fun x hx => ?_⟩
  obtain ⟨a, b, c, d, e, f⟩ := wr_ok (h2 x hx)
  have hth : ∀ z, there l z = true → 0 ≤ z ∧ z < 100 := fun z hz => by
    simp only [there, decide_eq_true_eq] at hz
    omega
  exact ⟨a, b, c, fun z hz => hth z (List.all_eq_true.1 d z hz), (hth _ e).1, (hth _ e).2⟩
theorem TK_in {l : List GT} (h : l.length ≤ 60) {n : Int} (hn : 0 ≤ TK (T0 l) n) : 0 ≤ n ∧ n < 62 := by
  unfold TK at hn
  have hl : (T0 l).length = l.length + 2 := by simp [T0]
  split at hn <;> omega
theorem form_in {op : Int} (h : form op ≠ -1) : 0 ≤ op ∧ op < 38 := by
  unfold form at h
  split at h
  · assumption
  · exact absurd rfl h
theorem form_vals : (List.range 38).all (fun k => decide (0 ≤ form k ∧ form k ≤ 9 ∧ (form k = 6 ∨ form k = 7 ∨ form k = 8 → 2 ≤ kindOf k))) = true := by decide
theorem form_big {op : Int} (h : form op = 6 ∨ form op = 7 ∨ form op = 8) : 2 ≤ kindOf op := by
  have hi := form_in (op := op) (by omega)
  have key := form_vals
  rw [List.all_eq_true] at key
  have := of_decide_eq_true (key op.toNat (List.mem_range.2 (by omega)))
  rw [show ((op.toNat : Nat) : Int) = op by omega] at this
  exact this.2.2 h
theorem TP_len {l : List GT} (h : (tr l).2 = 0) (a : Int) : (TP (T0 l) a).length ≤ 12 := by
  obtain ⟨_, h12, _⟩ := T0_inside h
  unfold TP
  split
  · exact h12 _ (nth_mem _ _ (by omega) (by omega))
  · simp
theorem ite_tt {c : Prop} [Decidable c] {a b : Bool} : (if c then a else b) = true ↔ (c ∧ a = true) ∨ (¬ c ∧ b = true) := by
  by_cases h : c
  · rw [if_pos h]; exact ⟨fun x => .inl ⟨h, x⟩, fun x => x.elim (fun y => y.2) fun y => absurd h y.1⟩
  · rw [if_neg h]; exact ⟨fun x => .inr ⟨h, x⟩, fun x => x.elim (fun y => absurd y.1 h) fun y => y.2⟩
theorem inOk_of {l : List GT} (ht : (tr l).2 = 0) (h : l.length ≤ 60) {nf lo co : Int} {i : GI} (hnf : nf ≤ 50) (hlo : lo ≤ 32) (hco : co ≤ 300) (hi : ir (TK (T0 l)) (TP (T0 l)) nf lo co i.op i.a i.b = true) : inOk i := by
  have hb := @form_big i.op
  have hk := @TK_in l h i.a
  have hq := TP_len ht i.a
  unfold ir at hi
  have key : form i.op ≠ -1 ∧ opOk i := by
    unfold opOk
    simp only [ite_tt, decide_eq_true_eq, Bool.false_eq_true, and_false, false_or, or_false] at hi
    omega
  obtain ⟨a, b⟩ := form_in key.1
  exact ⟨a, b, key.2⟩
theorem fnOk_of {l : List GT} (ht : (tr l).2 = 0) (h : l.length ≤ 60) {nf : Int} (hnf : nf ≤ 50) {f : GF} (hf : fokT (TK (T0 l)) (TP (T0 l)) nf f = true) : fnOk f := by
  unfold fokT at hf
  split at hf
  · cases hf
  · simp only [Bool.and_eq_true] at hf
    obtain ⟨⟨h1, h2⟩, h3⟩ := hf
    rw [List.all_eq_true] at h1 h2
    have hr := TK_in h (n := f.result) (by omega)
    refine ⟨by omega, fun z hz => ?_, ⟨by omega, by omega⟩, ⟨by omega, by omega⟩, by omega, fun x hx => inOk_of ht h hnf (by omega) (by omega) (h2 x hx)⟩
    have := TK_in h (of_decide_eq_true (h1 z hz))
    omega
theorem rokT_ok {p : GP} (h : rokT p = true) : ((tr p.types).2 = 0 ∧ p.types.length ≤ 60 ∧ ∀ x ∈ p.types, tyOk x) ∧ (1 ≤ p.funcs.length ∧ p.funcs.length ≤ 50) ∧ (∀ f ∈ p.funcs, fnOk f ∧ fokT (TK (T0 p.types)) (TP (T0 p.types)) p.funcs.length f = true) ∧ (nth p.funcs 0).params.length = 0 ∧ (nth p.funcs 0).result = 0 := by
  unfold rokT at h
  simp only [Bool.and_eq_true, decide_eq_true_eq] at h
  obtain ⟨⟨⟨h1, h2⟩, h3⟩, h4⟩ := h
  obtain ⟨h5, h6⟩ := tyOk_of h1
  rw [List.all_eq_true] at h4
  exact ⟨⟨h1, h5, h6⟩, h2, fun f hf => ⟨fnOk_of h1 h5 (by omega) (h4 f hf), h4 f hf⟩, h3⟩
theorem encP_len {p : GP} (h : rokT p = true) : (encP p).length ≤ 200000 := by
  obtain ⟨⟨_, h1, h2⟩, h3, h4, _⟩ := rokT_ok h
  have a := flat_len (l := p.types) (f := encT) (c := 71) fun x hx => encT_len (h2 x hx)
  have b := flat_len (l := p.funcs) (f := encF) (c := 3500) fun x hx => encF_len (h4 x hx).1
  have c := lebL_small (n := p.types.length) (by omega)
  have d := lebL_small (n := p.funcs.length) (by omega)
  unfold encP encHead
  simp only [List.length_append, List.length_cons, List.length_nil]
  omega
def bbG (m : AMem) (sz id i n : Nat) : Option AObj → Option AR
  | some (.arr _ s es) => if sz = 1 ∧ s = 1 ∧ 0 < n ∧ i + n ≤ es.length ∧ ((es.drop i).take n).all isInt = true then some (.val (.ts 1 ((es.drop i).take n)) (m.kill id)) else none
  | _ => none
def bbK (m : AMem) : AV → Option AR
  | .sl sz id i n => bbG m sz id i n (m.get id)
  | _ => none
@[go_sem] theorem p_convBB (calls : Nat → AF) (env : AEnv) (m : AMem) (new : Nat) (x : Opd) : aOp calls env m new (.convBB x) = bbK m (x.ev env) := by
  simp only [aOp]
  cases x.ev env with
  | sl sz id i n =>
    simp only [bbK]
    cases m.get id with
    | none => rfl
    | some o => cases o <;> rfl
  | _ => rfl
@[go_sem] theorem bbK_sl (m : AMem) (sz id i n : Nat) : bbK m (.sl sz id i n) = bbG m sz id i n (m.get id) := rfl
@[go_sem] theorem bbG_4 (m : AMem) (id t : Nat) (a b c d : Int) : bbG m 1 id 0 4 (some (.arr t 1 [.int .u8 a, .int .u8 b, .int .u8 c, .int .u8 d])) = some (.val (.ts 1 [.int .u8 a, .int .u8 b, .int .u8 c, .int .u8 d]) (m.kill id)) := rfl
/-- The memory once the first four bytes stand. -/
def encS (m : AMem) (p : GP) : AMem := (((((m.room 2).put m.next (.arr 25 2 [p.av])).room 3).room 8).put (m.next + 5) (.arr 5 1 ([116, 105, 100, 1].map avB))).kill (m.next + 5)
set_option maxHeartbeats 1000000 in
theorem Encode_run (n : Nat) (p : GP) (hp : p.wf) (hr : rokT p = true) (m : AMem) : ∃ v m', aBody (callsN cfg (n + 7)) cf12 [.agg [tsl 3 (p.types.map GT.av), tsl 4 (p.funcs.map GF.av)]] m = some (.ret v, m') ∧ BO m' m.next v (encP p) ∧ m.next ≤ m'.next ∧ ∀ id, id < m.next → m'.get id = m.get id := by
  obtain ⟨⟨_, h1, h2⟩, h3, h4, _⟩ := rokT_ok hr
  have hR := fun m => sp_Right10 n p hp m
  have hl1 := lebL_small (n := p.types.length) (by omega)
  have key : Wp (aBody (callsN cfg (n + 7)) cf12 [.agg [tsl 3 (p.types.map GT.av), tsl 4 (p.funcs.map GF.av)]] m) fun o w => ∃ v, o = .ret v ∧ BO w m.next v (encP p) ∧ m.next ≤ w.next ∧ ∀ id, id < m.next → w.get id = m.get id := by
    unfold aBody cf12
    obtain ⟨v2, m2, p1, p2, p3, p4⟩ := sp_Put (n + 6) (encS m p) (.ts 1 ([116, 105, 100, 1].map avB)) [116, 105, 100, 1] p.types.length (by simp) (by omega) rfl (fun q _ => rfl)
    have p5 : ∀ id, id < m.next → m2.get id = m.get id := fun j hj => (p4 j (by unfold encS; (first | omega | (simp -implicitDefEqProofs (disch := first | exact soD | fail) only [go_sem, ↓reduceIte, Nat.reduceEqDiff, Nat.reduceAdd, Nat.reduceLT, Nat.reduceLeDiff, Nat.reduceBEq, reduceCtorEq] <;> omega)))).trans (by unfold encS; simp -implicitDefEqProofs (disch := first | exact soD | fail) only [go_sem, ↓reduceIte, Nat.reduceEqDiff, Nat.reduceAdd, Nat.reduceLT, Nat.reduceLeDiff, Nat.reduceBEq, reduceCtorEq])
    have p6 : m.next + 12 ≤ m2.next := by
      unfold encS at p3
      simp only [room_next, put_next, kill_next] at p3
      omega
    have p7 := p2.lo (lo' := m.next + 1) (by unfold encS; (first | omega | (simp -implicitDefEqProofs (disch := first | exact soD | fail) only [go_sem, ↓reduceIte, Nat.reduceEqDiff, Nat.reduceAdd, Nat.reduceLT, Nat.reduceLeDiff, Nat.reduceBEq, reduceCtorEq] <;> omega)))
    have p8 : m2.get m.next = some (.arr 25 2 [p.av]) := (p4 _ (by unfold encS; (first | omega | (simp -implicitDefEqProofs (disch := first | exact soD | fail) only [go_sem, ↓reduceIte, Nat.reduceEqDiff, Nat.reduceAdd, Nat.reduceLT, Nat.reduceLeDiff, Nat.reduceBEq, reduceCtorEq] <;> omega)))).trans (by unfold encS; simp -implicitDefEqProofs (disch := first | exact soD | fail) only [go_sem, ↓reduceIte, Nat.reduceEqDiff, Nat.reduceAdd, Nat.reduceLT, Nat.reduceLeDiff, Nat.reduceBEq, reduceCtorEq])
    unfold encS at p1
    simp only [List.map_cons, List.map_nil, avB] at p1
    repeat' (first | simp -implicitDefEqProofs (disch := first | exact soD | fail) only [go_sem, ↓reduceIte, Nat.reduceEqDiff, Nat.reduceAdd, Nat.reduceLT, Nat.reduceLeDiff, Nat.reduceBEq, reduceCtorEq, hR, hr, p1, p8] | ((with_reducible first | refine g_dec ?_ ?_ | refine c_dec ?_ ?_ | refine s_dec ?_ ?_ | refine g_ndec ?_ ?_ | refine c_ndec ?_ ?_ | refine g_nbool ?_ ?_ | refine c_nbool ?_ ?_ | refine g_bool ?_ ?_ | refine c_bool ?_ ?_ | refine s_bool ?_ ?_) <;> intro h d <;> (try simp only [d]) <;> (try simp only [B1, B2, B3, B4, B5, B6, B7, B8] at h) <;> (try omega)))
    refine enc_types (n + 4) (g := fun id => if id = m.next then some (.arr 25 2 [p.av]) else m.get id) (lo := m.next + 1) p.types h2 h1 (H := encHead p) (p := .ptr m.next 0 0) (by unfold encHead; simp; omega) rfl (v := v2) (p7.frame soA (fun id a b => by simp -implicitDefEqProofs (disch := first | exact soD | fail) only [go_sem, ↓reduceIte, Nat.reduceEqDiff, Nat.reduceAdd, Nat.reduceLT, Nat.reduceLeDiff, Nat.reduceBEq, reduceCtorEq])) soA ?_ sxA sxA sxA sxA sxA (fun env' w' v' hv' hn' old' e1 e3 => ?_)
    · intro id hid
      simp -implicitDefEqProofs (disch := first | exact soD | fail) only [go_sem, ↓reduceIte, Nat.reduceEqDiff, Nat.reduceAdd, Nat.reduceLT, Nat.reduceLeDiff, Nat.reduceBEq, reduceCtorEq]
      split
      · rename_i h; subst h; exact p8
      · exact p5 id (by omega)
    have o1 : w'.get m.next = some (.arr 25 2 [p.av]) := (old' m.next (by omega)).trans (if_pos rfl)
    have o2 : ∀ id, id < m.next → w'.get id = m.get id := fun j hj => (old' j (by omega)).trans (if_neg (by omega))
    have hfl := flat_len (l := p.types) (f := encT) (c := 71) fun x hx => encT_len (h2 x hx)
    have hhl : (encHead p).length ≤ 9 := by unfold encHead; simp; omega
    obtain ⟨v3, m3, Q3⟩ := put_bo (n + 6) (m := w'.room 7) (hv'.frame soA (fun id a b => by simp -implicitDefEqProofs (disch := first | exact soD | fail) only [go_sem, ↓reduceIte, Nat.reduceEqDiff, Nat.reduceAdd, Nat.reduceLT, Nat.reduceLeDiff, Nat.reduceBEq, reduceCtorEq])) p.funcs.length (by rw [List.length_append]; omega) (by omega)
    obtain ⟨r1, r2, r3, r4⟩ := Q3
    simp only [room_next, room_get] at r2 r3 r4
    have hl2 := lebL_small (n := p.funcs.length) (by omega)
    unfold ls12_3
    have r5 : m3.get m.next = some (.arr 25 2 [p.av]) := (r4 _ (by omega)).trans o1
    repeat' (first | simp -implicitDefEqProofs (disch := first | exact soD | fail) only [go_sem, ↓reduceIte, Nat.reduceEqDiff, Nat.reduceAdd, Nat.reduceLT, Nat.reduceLeDiff, Nat.reduceBEq, reduceCtorEq, e1, e3, o1, r1, r5] | ((with_reducible first | refine g_dec ?_ ?_ | refine c_dec ?_ ?_ | refine s_dec ?_ ?_ | refine g_ndec ?_ ?_ | refine c_ndec ?_ ?_ | refine g_nbool ?_ ?_ | refine c_nbool ?_ ?_ | refine g_bool ?_ ?_ | refine c_bool ?_ ?_ | refine s_bool ?_ ?_) <;> intro h d <;> (try simp only [d]) <;> (try simp only [B1, B2, B3, B4, B5, B6, B7, B8] at h) <;> (try omega)))
    refine enc_funcs (n + 3) (g := fun id => if id = m.next then some (.arr 25 2 [p.av]) else m.get id) (lo := m.next + 1) p.funcs (fun x hx => (h4 x hx).1) h3.2 (H := encHead p ++ p.types.flatMap encT ++ lebL p.funcs.length) (by simp only [List.length_append]; omega) (v := v3) ((r2.lo (lo' := m.next + 1) (by omega)).frame soA (fun id a b => by simp -implicitDefEqProofs (disch := first | exact soD | fail) only [go_sem, ↓reduceIte, Nat.reduceEqDiff, Nat.reduceAdd, Nat.reduceLT, Nat.reduceLeDiff, Nat.reduceBEq, reduceCtorEq])) soA ?_ sxA sxA sxA sxA (fun env'' w'' v'' hv'' hn'' old'' f1 f3 => ?_)
    · intro id hid
      simp -implicitDefEqProofs (disch := first | exact soD | fail) only [go_sem, ↓reduceIte, Nat.reduceEqDiff, Nat.reduceAdd, Nat.reduceLT, Nat.reduceLeDiff, Nat.reduceBEq, reduceCtorEq]
      rw [r4 id (by omega)]
      exact old' id hid
    unfold ls12_2
    repeat' (first | simp -implicitDefEqProofs (disch := first | exact soD | fail) only [go_sem, ↓reduceIte, Nat.reduceEqDiff, Nat.reduceAdd, Nat.reduceLT, Nat.reduceLeDiff, Nat.reduceBEq, reduceCtorEq, f3] | ((with_reducible first | refine g_dec ?_ ?_ | refine c_dec ?_ ?_ | refine s_dec ?_ ?_ | refine g_ndec ?_ ?_ | refine c_ndec ?_ ?_ | refine g_nbool ?_ ?_ | refine c_nbool ?_ ?_ | refine g_bool ?_ ?_ | refine c_bool ?_ ?_ | refine s_bool ?_ ?_) <;> intro h d <;> (try simp only [d]) <;> (try simp only [B1, B2, B3, B4, B5, B6, B7, B8] at h) <;> (try omega)))
    refine ⟨v'', rfl, (hv''.lo (lo' := m.next) (by omega)).frame soA (fun id a b => by simp -implicitDefEqProofs (disch := first | exact soD | fail) only [go_sem, ↓reduceIte, Nat.reduceEqDiff, Nat.reduceAdd, Nat.reduceLT, Nat.reduceLeDiff, Nat.reduceBEq, reduceCtorEq]), soA, fun j hj => ?_⟩
    exact (old'' j (by omega)).trans (if_neg (by omega))
  obtain ⟨o, w, h1, v, rfl, h2, h3, h4⟩ := key
  exact ⟨v, w, h1, h2, h3, h4⟩
theorem nb_bytesL (m : AMem) (n : Nat) : ∀ l : List Int, rbL (rbN m (n + 1)) (l.map avB) = some (l.map avB)
  | [] => rfl
  | x :: l => by rw [List.map_cons, yrbL_cons, nb_bytesL m n l]; rfl
theorem nb_bytes {m : AMem} {lo : Nat} {v : AV} {l : List Int} (h : BO m lo v l) (n : Nat) : rbN m (n + 2) v = some (tsl 1 (l.map avB)) := by
  obtain ⟨id, rfl, _, _, hg⟩ := h
  cases l with
  | nil => rfl
  | cons x l =>
    rw [ynb_sl m (n + 1) 1 id 0 (x :: l).length (by simp), hg, nslK_s _ _ _ _ _ _ _ (by simp), List.drop_zero, List.take_of_length_le (by simp), nb_bytesL]
    rfl
def encR (p : GP) : List Int := if rokT p then encP p else []
theorem sp_Encode (n : Nat) (p : GP) (hp : p.wf) (m : AMem) (v : AV) (hv : rb m RBN v = some (.agg [tsl 3 (p.types.map GT.av), tsl 4 (p.funcs.map GF.av)])) : callsN cfg (n + 8) 12 [v] m = some (.ret (tsl 1 ((encR p).map avB)), m) := by
  rw [ce12]
  cases hr : rokT p with
  | true =>
    obtain ⟨u, m', h1, h2, _⟩ := Encode_run n p hp hr .empty
    refine lend_run (targs := [.agg [tsl 3 (p.types.map GT.av), tsl 4 (p.funcs.map GF.av)]]) (by rw [yrbL_cons, hv]; rfl) h1 ?_
    rw [encR, hr, if_pos rfl]
    exact nb_bytes h2 10
  | false =>
    have hR := fun m => sp_Right10 n p hp m
    have key : Wp (aBody (callsN cfg (n + 7)) cf12 [.agg [tsl 3 (p.types.map GT.av), tsl 4 (p.funcs.map GF.av)]] .empty) fun o w => ∃ u, o = .ret u ∧ rbN w RBN u = some (tsl 1 ((encR p).map avB)) := by
      unfold aBody cf12
      repeat' (first | simp -implicitDefEqProofs (disch := first | exact soD | fail) only [go_sem, ↓reduceIte, Nat.reduceEqDiff, Nat.reduceAdd, Nat.reduceLT, Nat.reduceLeDiff, Nat.reduceBEq, reduceCtorEq, hR, hr] | ((with_reducible first | refine g_dec ?_ ?_ | refine c_dec ?_ ?_ | refine s_dec ?_ ?_ | refine g_ndec ?_ ?_ | refine c_ndec ?_ ?_ | refine g_nbool ?_ ?_ | refine c_nbool ?_ ?_ | refine g_bool ?_ ?_ | refine c_bool ?_ ?_ | refine s_bool ?_ ?_) <;> intro h d <;> (try simp only [d]) <;> (try simp only [B1, B2, B3, B4, B5, B6, B7, B8] at h) <;> (try omega)))
      rw [encR, hr]
      exact ⟨_, rfl, rfl⟩
    exact lend_wp (targs := [.agg [tsl 3 (p.types.map GT.av), tsl 4 (p.funcs.map GF.av)]]) (by rw [yrbL_cons, hv]; rfl) key
end Go.Proofs.YtiijjopdhjpalaaDoor

/-! What the functions of chapter 10 answer: tidewayref10.Same. Conditions: none. -/
namespace Go.Proofs.YtiijjopdhjpalaaDoor
open Go
set_option linter.unusedSimpArgs false
set_option linter.unusedVariables false
theorem ext_nth {α : Type} [Inhabited α] {a b : List α} (h : a.length = b.length) (hj : ∀ j : Int, 0 ≤ j → j < a.length → nth a j = nth b j) : a = b := by
  refine List.ext_getElem h fun i h1 h2 => ?_
  have := hj i (by omega) (by omega)
  have a1 := nth_get? a i (by omega) (by omega)
  have b1 := nth_get? b i (by omega) (by omega)
  rw [this] at a1
  rw [← a1] at b1
  simp only [Int.toNat_natCast] at b1
  rw [List.getElem?_eq_getElem h2, List.getElem?_eq_getElem h1] at b1
  exact (Option.some.inj b1).symm
theorem nth_step {α : Type} [Inhabited α] {a b : List α} {i : Int} (h : ∀ j : Int, 0 ≤ j → j < i → nth a j = nth b j) (hi : nth a i = nth b i) : ∀ j : Int, 0 ≤ j → j < i + 1 → nth a j = nth b j := fun j h0 h1 => by
  by_cases e : j = i
  · rw [e]; exact hi
  · exact h j h0 (by omega)
theorem ne_nth {α : Type} [Inhabited α] {a b : List α} {j : Int} (h : nth a j ≠ nth b j) : a ≠ b := fun e => h (by rw [e])
set_option maxHeartbeats 1000000 in
theorem sp_sameInts (n : Nat) (a b : List Int) (ha : a.length ≤ 576460752303423488) (m : AMem) : callsN cfg (n + 1) 27 [tsl 1 (a.map avI), tsl 1 (b.map avI)] m = some (.ret (.bool (decide (a = b))), m) := by
  rw [ce27]
  refine borrow_wp (targs := [tsl 1 (a.map avI), tsl 1 (b.map avI)]) (by simp only [go_sem]) ?_ rfl
  unfold aBody cf27
  by_cases hl : a.length = b.length
  · repeat' (first | simp -implicitDefEqProofs (disch := first | exact soD | fail) only [go_sem, ↓reduceIte, Nat.reduceEqDiff, Nat.reduceAdd, Nat.reduceLT, Nat.reduceLeDiff, Nat.reduceBEq, reduceCtorEq, hl] | ((with_reducible first | refine g_dec ?_ ?_ | refine c_dec ?_ ?_ | refine s_dec ?_ ?_ | refine g_ndec ?_ ?_ | refine c_ndec ?_ ?_ | refine g_nbool ?_ ?_ | refine c_nbool ?_ ?_ | refine g_bool ?_ ?_ | refine c_bool ?_ ?_ | refine s_bool ?_ ?_) <;> intro h d <;> (try simp only [d]) <;> (try simp only [B1, B2, B3, B4, B5, B6, B7, B8] at h) <;> (try omega)))
    refine wp_loop (fun (i : Int) (env : AEnv) (m : AMem) => (0 ≤ i ∧ i ≤ a.length ∧ ∀ j, 0 ≤ j → j < i → nth a j = nth b j) ∧ env 0 = tsl 1 (a.map avI) ∧ env 1 = tsl 1 (b.map avI) ∧ env 5 = avI i) (fun i => (a.length - i).toNat)
      (fun i env m K' ⟨⟨hi0, hi1, hall⟩, e0, e1, e5⟩ hN hE => ?_) LOOPK 0 _ _ ⟨⟨by omega, by omega, fun j a b => by omega⟩, sxA, sxA, sxA⟩ (by rw [LOOPK_eq]; omega)
    unfold lb27_0
    repeat' (first | simp -implicitDefEqProofs (disch := first | exact soD | fail) only [go_sem, ↓reduceIte, Nat.reduceEqDiff, Nat.reduceAdd, Nat.reduceLT, Nat.reduceLeDiff, Nat.reduceBEq, reduceCtorEq, e0, e1, e5] | ((with_reducible first | refine g_dec ?_ ?_ | refine c_dec ?_ ?_ | refine s_dec ?_ ?_ | refine g_ndec ?_ ?_ | refine c_ndec ?_ ?_ | refine g_nbool ?_ ?_ | refine c_nbool ?_ ?_ | refine g_bool ?_ ?_ | refine c_bool ?_ ?_ | refine s_bool ?_ ?_) <;> intro h d <;> (try simp only [d]) <;> (try simp only [B1, B2, B3, B4, B5, B6, B7, B8] at h) <;> (try omega)))
    all_goals (with_reducible first | refine hN (i + 1) _ _ ?_ ?_ | refine (hE _ _).1 _ ?_ | refine (hE _ _).2.1 ?_)
    all_goals try omega
    all_goals try unfold ls27_0
    all_goals repeat' (first | simp -implicitDefEqProofs (disch := first | exact soD | fail) only [go_sem, ↓reduceIte, Nat.reduceEqDiff, Nat.reduceAdd, Nat.reduceLT, Nat.reduceLeDiff, Nat.reduceBEq, reduceCtorEq, e0, e1, e5] | ((with_reducible first | refine g_dec ?_ ?_ | refine c_dec ?_ ?_ | refine s_dec ?_ ?_ | refine g_ndec ?_ ?_ | refine c_ndec ?_ ?_ | refine g_nbool ?_ ?_ | refine c_nbool ?_ ?_ | refine g_bool ?_ ?_ | refine c_bool ?_ ?_ | refine s_bool ?_ ?_) <;> intro h d <;> (try simp only [d]) <;> (try simp only [B1, B2, B3, B4, B5, B6, B7, B8] at h) <;> (try omega)))
    · rw [decide_eq_false (ne_nth (by assumption))]
    · exact ⟨by omega, by omega, nth_step hall (by assumption)⟩
    · rw [decide_eq_true (ext_nth hl fun j a b => hall j a (by omega))]
  · repeat' (first | simp -implicitDefEqProofs (disch := first | exact soD | fail) only [go_sem, ↓reduceIte, Nat.reduceEqDiff, Nat.reduceAdd, Nat.reduceLT, Nat.reduceLeDiff, Nat.reduceBEq, reduceCtorEq, hl] | ((with_reducible first | refine g_dec ?_ ?_ | refine c_dec ?_ ?_ | refine s_dec ?_ ?_ | refine g_ndec ?_ ?_ | refine c_ndec ?_ ?_ | refine g_nbool ?_ ?_ | refine c_nbool ?_ ?_ | refine g_bool ?_ ?_ | refine c_bool ?_ ?_ | refine s_bool ?_ ?_) <;> intro h d <;> (try simp only [d]) <;> (try simp only [B1, B2, B3, B4, B5, B6, B7, B8] at h) <;> (try omega)))
    rw [decide_eq_false (fun e => hl (by rw [e]))]
structure GP.bnd (p : GP) : Prop where
  types : p.types.length ≤ 576460752303423488
  parts : ∀ x ∈ p.types, x.parts.length ≤ 576460752303423488
  funcs : p.funcs.length ≤ 576460752303423488
  params : ∀ x ∈ p.funcs, x.params.length ≤ 576460752303423488
  code : ∀ x ∈ p.funcs, x.code.length ≤ 576460752303423488
theorem GT_ne {a b : GT} (h : a.parts = b.parts → a.kind = b.kind → a.of ≠ b.of) : a ≠ b := fun e => h (by rw [e]) (by rw [e]) (by rw [e])
theorem GT_eq {a b : GT} (h1 : a.parts = b.parts) (h2 : a.kind = b.kind) (h3 : a.of = b.of) : a = b := by
  cases a; cases b; cases h1; cases h2; cases h3; rfl
theorem GF_eq {a b : GF} (h1 : a.params = b.params) (h2 : a.result = b.result) (h3 : a.locals = b.locals) (h4 : a.code = b.code) : a = b := by
  cases a; cases b; cases h1; cases h2; cases h3; cases h4; rfl
theorem GP_eq {a b : GP} (h1 : a.types = b.types) (h2 : a.funcs = b.funcs) : a = b := by
  cases a; cases b; cases h1; cases h2; rfl
theorem GP_tne {a b : GP} {j : Int} (h : nth a.types j ≠ nth b.types j) : a ≠ b := fun e => h (by rw [e])
theorem GP_fne {a b : GP} {j : Int} (h : nth a.funcs j ≠ nth b.funcs j) : a ≠ b := fun e => h (by rw [e])
theorem GI_ne {a b : GI} (h : ¬ (a.op = b.op ∧ a.a = b.a ∧ a.b = b.b)) : a ≠ b := fun e => h (by rw [e]; exact ⟨rfl, rfl, rfl⟩)
theorem GI_eq {a b : GI} (h : a.op = b.op ∧ a.a = b.a ∧ a.b = b.b) : a = b := by
  cases a; cases b; obtain ⟨h1, h2, h3⟩ := h; cases h1; cases h2; cases h3; rfl
theorem eqs_instr (a b : GI) : eqCells [.int, .int, .int] [avI a.op, avI a.a, avI a.b] [avI b.op, avI b.a, avI b.b] = some (decide (a = b)) := by
  by_cases h : a = b
  · subst h; simp [eqCells, eqCell]
  · rw [decide_eq_false h]
    simp only [eqCells, eqCell]
    have : ¬ (a.op = b.op ∧ a.a = b.a ∧ a.b = b.b) := fun e => h (GI_eq e)
    simp
    intro x y z
    exact this ⟨x, y, z⟩
set_option maxHeartbeats 1000000 in
theorem same_code (n : Nat) (f g : GF) (hl : f.code.length = g.code.length) (hc : f.code.length ≤ 576460752303423488) {K : Kont} {Q : AOut → AMem → Prop} {env : AEnv} {m : AMem} {i8 i9 : Nat}
    (e8 : env 8 = .ptr i8 0 0) (e9 : env 9 = .ptr i9 0 0) (e11 : env 11 = avI 0) (g8 : m.get i8 = some (.arr 48 4 [f.av])) (g9 : m.get i9 = some (.arr 48 4 [g.av])) (l8 : i8 < m.next) (l9 : i9 < m.next)
    (hT : f.code = g.code → ∀ (env' : AEnv) (m' : AMem), m.next ≤ m'.next → (∀ id, id < m.next → m'.get id = m.get id) → env' 2 = env 2 → env' 3 = env 3 → env' 7 = env 7 → Wp (K (.exit 4) env' m') Q)
    (hF : f.code ≠ g.code → ∀ (env' : AEnv) (m' : AMem), env' 4 = .bool false → Wp (K .ret env' m') Q) :
    Wp (loopN LOOPK (aCode (callsN cfg n) lb14_1) env m K) Q := by
  refine wp_loop (fun (i : Int) (env' : AEnv) (m' : AMem) => (0 ≤ i ∧ i ≤ f.code.length ∧ ∀ j, 0 ≤ j → j < i → nth f.code j = nth g.code j) ∧ m.next ≤ m'.next ∧ (∀ id, id < m.next → m'.get id = m.get id) ∧ env' 2 = env 2 ∧ env' 3 = env 3 ∧ env' 7 = env 7 ∧ env' 8 = .ptr i8 0 0 ∧ env' 9 = .ptr i9 0 0 ∧ env' 11 = avI i) (fun i => (f.code.length - i).toNat)
    (fun i env' m' K' ⟨⟨hi0, hi1, hall⟩, hn, old, e2, e3, e7, e8, e9, e11⟩ hN hE => ?_) LOOPK 0 _ _ ⟨⟨by omega, by omega, fun j a b => by omega⟩, Nat.le_refl _, fun _ _ => rfl, rfl, rfl, rfl, e8, e9, e11⟩ (by rw [LOOPK_eq]; omega)
  have g8' := (old _ l8).trans g8
  have g9' := (old _ l9).trans g9
  unfold lb14_1
  repeat' (first | simp -implicitDefEqProofs (disch := first | exact soD | fail) only [go_sem, ↓reduceIte, Nat.reduceEqDiff, Nat.reduceAdd, Nat.reduceLT, Nat.reduceLeDiff, Nat.reduceBEq, reduceCtorEq, e8, e9, e11, g8', g9', eqs_instr] | ((with_reducible first | refine g_dec ?_ ?_ | refine c_dec ?_ ?_ | refine s_dec ?_ ?_ | refine g_ndec ?_ ?_ | refine c_ndec ?_ ?_ | refine g_nbool ?_ ?_ | refine c_nbool ?_ ?_ | refine g_bool ?_ ?_ | refine c_bool ?_ ?_ | refine s_bool ?_ ?_) <;> intro h d <;> (try simp only [d]) <;> (try simp only [B1, B2, B3, B4, B5, B6, B7, B8] at h) <;> (try omega)))
  · exact (hE _ _).2.1 (hF (ne_nth (by assumption)) _ _ sxA)
  · exact hN (i + 1) _ _ ⟨⟨by omega, by omega, nth_step hall (by assumption)⟩, soA, fun j hj => by simp -implicitDefEqProofs (disch := first | exact soD | fail) only [go_sem, ↓reduceIte, Nat.reduceEqDiff, Nat.reduceAdd, Nat.reduceLT, Nat.reduceLeDiff, Nat.reduceBEq, reduceCtorEq]; exact old j hj, by simp -implicitDefEqProofs (disch := first | exact soD | fail) only [go_sem, ↓reduceIte, Nat.reduceEqDiff, Nat.reduceAdd, Nat.reduceLT, Nat.reduceLeDiff, Nat.reduceBEq, reduceCtorEq, e2], by simp -implicitDefEqProofs (disch := first | exact soD | fail) only [go_sem, ↓reduceIte, Nat.reduceEqDiff, Nat.reduceAdd, Nat.reduceLT, Nat.reduceLeDiff, Nat.reduceBEq, reduceCtorEq, e3], by simp -implicitDefEqProofs (disch := first | exact soD | fail) only [go_sem, ↓reduceIte, Nat.reduceEqDiff, Nat.reduceAdd, Nat.reduceLT, Nat.reduceLeDiff, Nat.reduceBEq, reduceCtorEq, e7], by simp -implicitDefEqProofs (disch := first | exact soD | fail) only [go_sem, ↓reduceIte, Nat.reduceEqDiff, Nat.reduceAdd, Nat.reduceLT, Nat.reduceLeDiff, Nat.reduceBEq, reduceCtorEq, e8], by simp -implicitDefEqProofs (disch := first | exact soD | fail) only [go_sem, ↓reduceIte, Nat.reduceEqDiff, Nat.reduceAdd, Nat.reduceLT, Nat.reduceLeDiff, Nat.reduceBEq, reduceCtorEq, e9], sxA⟩ (by omega)
  · exact (hE _ _).1 _ (hT (ext_nth hl fun j a b => hall j a (by omega)) _ _ soA (fun j hj => by simp -implicitDefEqProofs (disch := first | exact soD | fail) only [go_sem, ↓reduceIte, Nat.reduceEqDiff, Nat.reduceAdd, Nat.reduceLT, Nat.reduceLeDiff, Nat.reduceBEq, reduceCtorEq]; exact old j hj) (by simp -implicitDefEqProofs (disch := first | exact soD | fail) only [go_sem, ↓reduceIte, Nat.reduceEqDiff, Nat.reduceAdd, Nat.reduceLT, Nat.reduceLeDiff, Nat.reduceBEq, reduceCtorEq, e2]) (by simp -implicitDefEqProofs (disch := first | exact soD | fail) only [go_sem, ↓reduceIte, Nat.reduceEqDiff, Nat.reduceAdd, Nat.reduceLT, Nat.reduceLeDiff, Nat.reduceBEq, reduceCtorEq, e3]) (by simp -implicitDefEqProofs (disch := first | exact soD | fail) only [go_sem, ↓reduceIte, Nat.reduceEqDiff, Nat.reduceAdd, Nat.reduceLT, Nat.reduceLeDiff, Nat.reduceBEq, reduceCtorEq, e7]))
set_option maxHeartbeats 2000000 in
theorem same_funcs (n : Nat) (p q : GP) (hl : p.funcs.length = q.funcs.length) (hb3 : p.funcs.length ≤ 576460752303423488) (hb4 : ∀ x ∈ p.funcs, x.params.length ≤ 576460752303423488) (hb5 : ∀ x ∈ p.funcs, x.code.length ≤ 576460752303423488) {K : Kont} {Q : AOut → AMem → Prop} {env : AEnv} {m : AMem}
    (e2 : env 2 = .ptr 0 0 0) (e3 : env 3 = .ptr 1 0 0) (e7 : env 7 = avI 0) (g0 : m.get 0 = some (.arr 25 2 [p.av])) (g1 : m.get 1 = some (.arr 25 2 [q.av])) (hm : 2 ≤ m.next)
    (hT : p.funcs = q.funcs → ∀ (env' : AEnv) (m' : AMem), Wp (K (.exit 2) env' m') Q)
    (hF : p.funcs ≠ q.funcs → ∀ (env' : AEnv) (m' : AMem), env' 4 = .bool false → Wp (K .ret env' m') Q) :
    Wp (loopN LOOPK (aCode (callsN cfg (n + 1)) lb14_2) env m K) Q := by
  refine wp_loop (fun (i : Int) (env' : AEnv) (m' : AMem) => (0 ≤ i ∧ i ≤ p.funcs.length ∧ ∀ j, 0 ≤ j → j < i → nth p.funcs j = nth q.funcs j) ∧ 2 ≤ m'.next ∧ m'.get 0 = some (.arr 25 2 [p.av]) ∧ m'.get 1 = some (.arr 25 2 [q.av]) ∧ env' 2 = .ptr 0 0 0 ∧ env' 3 = .ptr 1 0 0 ∧ env' 7 = avI i) (fun i => (p.funcs.length - i).toNat)
    (fun i env m K' ⟨⟨hi0, hi1, hall⟩, hn, g0, g1, e2, e3, e7⟩ hN hE => ?_) LOOPK 0 _ _ ⟨⟨by omega, by omega, fun j a b => by omega⟩, hm, g0, g1, e2, e3, e7⟩ (by rw [LOOPK_eq]; omega)
  unfold lb14_2
  by_cases hi : i < p.funcs.length
  · have hS := fun m => sp_sameInts n (nth p.funcs i).params (nth q.funcs i).params (hb4 _ (nth_mem _ _ hi0 hi)) m
    have h5 := hb5 _ (nth_mem _ _ hi0 hi)
    have hne : nth p.funcs i ≠ nth q.funcs i → p.funcs ≠ q.funcs := ne_nth
    have hcl : (nth p.funcs i).code.length ≠ (nth q.funcs i).code.length → (nth p.funcs i) ≠ (nth q.funcs i) := fun h e => h (by rw [e])
    repeat' (first | simp -implicitDefEqProofs (disch := first | exact soD | fail) only [go_sem, ↓reduceIte, Nat.reduceEqDiff, Nat.reduceAdd, Nat.reduceLT, Nat.reduceLeDiff, Nat.reduceBEq, reduceCtorEq, e2, e3, e7, g0, g1, hS] | ((with_reducible first | refine g_dec ?_ ?_ | refine c_dec ?_ ?_ | refine s_dec ?_ ?_ | refine g_ndec ?_ ?_ | refine c_ndec ?_ ?_ | refine g_nbool ?_ ?_ | refine c_nbool ?_ ?_ | refine g_bool ?_ ?_ | refine c_bool ?_ ?_ | refine s_bool ?_ ?_) <;> intro h d <;> (try simp only [d]) <;> (try simp only [B1, B2, B3, B4, B5, B6, B7, B8] at h) <;> (try omega)))
    · exact (hE _ _).2.1 (hF (hne fun e => h (by rw [e])) _ _ sxA)
    · exact (hE _ _).2.1 (hF (hne fun e => h (by rw [e])) _ _ sxA)
    · exact (hE _ _).2.1 (hF (hne fun e => h (by rw [e])) _ _ sxA)
    · exact (hE _ _).2.1 (hF (hne fun e => h (by rw [e])) _ _ sxA)
    · refine same_code (n + 1) (nth p.funcs i) (nth q.funcs i) (by omega) h5 (i8 := m.next + 5 + 5) (i9 := m.next + 5 + 7 + 5) sxA sxA sxA sxA sxA soA soA (fun he env' m' hn' old' f2 f3 f7 => ?_) (fun he env' m' f4 => (hE _ _).2.1 (hF (hne fun e => he (by rw [e])) _ _ f4))
      have f2' : env' 2 = .ptr 0 0 0 := by rw [f2]; simp -implicitDefEqProofs (disch := first | exact soD | fail) only [go_sem, ↓reduceIte, Nat.reduceEqDiff, Nat.reduceAdd, Nat.reduceLT, Nat.reduceLeDiff, Nat.reduceBEq, reduceCtorEq, e2]
      have f3' : env' 3 = .ptr 1 0 0 := by rw [f3]; simp -implicitDefEqProofs (disch := first | exact soD | fail) only [go_sem, ↓reduceIte, Nat.reduceEqDiff, Nat.reduceAdd, Nat.reduceLT, Nat.reduceLeDiff, Nat.reduceBEq, reduceCtorEq, e3]
      have f7' : env' 7 = avI i := by rw [f7]; simp -implicitDefEqProofs (disch := first | exact soD | fail) only [go_sem, ↓reduceIte, Nat.reduceEqDiff, Nat.reduceAdd, Nat.reduceLT, Nat.reduceLeDiff, Nat.reduceBEq, reduceCtorEq, e7]
      clear f2 f3 f7
      simp only [room_next, put_next] at hn'
      have q0 : m'.get 0 = some (.arr 25 2 [p.av]) := (old' 0 soA).trans (by simp -implicitDefEqProofs (disch := first | exact soD | fail) only [go_sem, ↓reduceIte, Nat.reduceEqDiff, Nat.reduceAdd, Nat.reduceLT, Nat.reduceLeDiff, Nat.reduceBEq, reduceCtorEq]; exact g0)
      have q1 : m'.get 1 = some (.arr 25 2 [q.av]) := (old' 1 soA).trans (by simp -implicitDefEqProofs (disch := first | exact soD | fail) only [go_sem, ↓reduceIte, Nat.reduceEqDiff, Nat.reduceAdd, Nat.reduceLT, Nat.reduceLeDiff, Nat.reduceBEq, reduceCtorEq]; exact g1)
      unfold ls14_0
      repeat' (first | simp -implicitDefEqProofs (disch := first | exact soD | fail) only [go_sem, ↓reduceIte, Nat.reduceEqDiff, Nat.reduceAdd, Nat.reduceLT, Nat.reduceLeDiff, Nat.reduceBEq, reduceCtorEq, f7'] | ((with_reducible first | refine g_dec ?_ ?_ | refine c_dec ?_ ?_ | refine s_dec ?_ ?_ | refine g_ndec ?_ ?_ | refine c_ndec ?_ ?_ | refine g_nbool ?_ ?_ | refine c_nbool ?_ ?_ | refine g_bool ?_ ?_ | refine c_bool ?_ ?_ | refine s_bool ?_ ?_) <;> intro h d <;> (try simp only [d]) <;> (try simp only [B1, B2, B3, B4, B5, B6, B7, B8] at h) <;> (try omega)))
      exact hN (i + 1) _ _ ⟨⟨by omega, by omega, nth_step hall (GF_eq (by assumption) (by assumption) (by assumption) he)⟩, soA, by simp -implicitDefEqProofs (disch := first | exact soD | fail) only [go_sem, ↓reduceIte, Nat.reduceEqDiff, Nat.reduceAdd, Nat.reduceLT, Nat.reduceLeDiff, Nat.reduceBEq, reduceCtorEq]; exact q0, by simp -implicitDefEqProofs (disch := first | exact soD | fail) only [go_sem, ↓reduceIte, Nat.reduceEqDiff, Nat.reduceAdd, Nat.reduceLT, Nat.reduceLeDiff, Nat.reduceBEq, reduceCtorEq]; exact q1, by simp -implicitDefEqProofs (disch := first | exact soD | fail) only [go_sem, ↓reduceIte, Nat.reduceEqDiff, Nat.reduceAdd, Nat.reduceLT, Nat.reduceLeDiff, Nat.reduceBEq, reduceCtorEq, f2'], by simp -implicitDefEqProofs (disch := first | exact soD | fail) only [go_sem, ↓reduceIte, Nat.reduceEqDiff, Nat.reduceAdd, Nat.reduceLT, Nat.reduceLeDiff, Nat.reduceBEq, reduceCtorEq, f3'], sxA⟩ (by omega)
  · repeat' (first | simp -implicitDefEqProofs (disch := first | exact soD | fail) only [go_sem, ↓reduceIte, Nat.reduceEqDiff, Nat.reduceAdd, Nat.reduceLT, Nat.reduceLeDiff, Nat.reduceBEq, reduceCtorEq, e2, e3, e7, g0, g1] | ((with_reducible first | refine g_dec ?_ ?_ | refine c_dec ?_ ?_ | refine s_dec ?_ ?_ | refine g_ndec ?_ ?_ | refine c_ndec ?_ ?_ | refine g_nbool ?_ ?_ | refine c_nbool ?_ ?_ | refine g_bool ?_ ?_ | refine c_bool ?_ ?_ | refine s_bool ?_ ?_) <;> intro h d <;> (try simp only [d]) <;> (try simp only [B1, B2, B3, B4, B5, B6, B7, B8] at h) <;> (try omega)))
    exact (hE _ _).1 _ (hT (ext_nth hl fun j a b => hall j a (by omega)) _ _)
set_option maxHeartbeats 2000000 in
theorem sp_Same (n : Nat) (p q : GP) (hp : p.bnd) (m : AMem) : callsN cfg (n + 2) 14 [.agg [tsl 3 (p.types.map GT.av), tsl 4 (p.funcs.map GF.av)], .agg [tsl 3 (q.types.map GT.av), tsl 4 (q.funcs.map GF.av)]] m = some (.ret (.bool (decide (p = q))), m) := by
  rw [ce14]
  refine borrow_wp (targs := [.agg [tsl 3 (p.types.map GT.av), tsl 4 (p.funcs.map GF.av)], .agg [tsl 3 (q.types.map GT.av), tsl 4 (q.funcs.map GF.av)]]) (by simp only [go_sem]) ?_ rfl
  obtain ⟨hb1, hb2, hb3, hb4, hb5⟩ := hp
  unfold aBody cf14
  by_cases hl : p.types.length = q.types.length ∧ p.funcs.length = q.funcs.length
  · obtain ⟨hl1, hl2⟩ := hl
    repeat' (first | simp -implicitDefEqProofs (disch := first | exact soD | fail) only [go_sem, ↓reduceIte, Nat.reduceEqDiff, Nat.reduceAdd, Nat.reduceLT, Nat.reduceLeDiff, Nat.reduceBEq, reduceCtorEq, hl1, hl2] | ((with_reducible first | refine g_dec ?_ ?_ | refine c_dec ?_ ?_ | refine s_dec ?_ ?_ | refine g_ndec ?_ ?_ | refine c_ndec ?_ ?_ | refine g_nbool ?_ ?_ | refine c_nbool ?_ ?_ | refine g_bool ?_ ?_ | refine c_bool ?_ ?_ | refine s_bool ?_ ?_) <;> intro h d <;> (try simp only [d]) <;> (try simp only [B1, B2, B3, B4, B5, B6, B7, B8] at h) <;> (try omega)))
    refine wp_loop (fun (i : Int) (env : AEnv) (m : AMem) => (0 ≤ i ∧ i ≤ p.types.length ∧ ∀ j, 0 ≤ j → j < i → nth p.types j = nth q.types j) ∧ 2 ≤ m.next ∧ m.get 0 = some (.arr 25 2 [p.av]) ∧ m.get 1 = some (.arr 25 2 [q.av]) ∧ env 2 = .ptr 0 0 0 ∧ env 3 = .ptr 1 0 0 ∧ env 5 = avI i) (fun i => (p.types.length - i).toNat)
      (fun i env m K' ⟨⟨hi0, hi1, hall⟩, hn, g0, g1, e2, e3, e5⟩ hN hE => ?_) LOOPK 0 _ _ ⟨⟨by omega, by omega, fun j a b => by omega⟩, soA, sxA, sxA, sxA, sxA, sxA⟩ (by rw [LOOPK_eq]; omega)
    have hS := fun (h : i < p.types.length) m => sp_sameInts n (nth p.types i).parts (nth q.types i).parts (hb2 _ (nth_mem _ _ hi0 h)) m
    have hne : nth p.types i ≠ nth q.types i → decide (p = q) = false := fun h => decide_eq_false (GP_tne h)
    unfold lb14_0
    repeat' (first | simp -implicitDefEqProofs (disch := first | exact soD | fail) only [go_sem, ↓reduceIte, Nat.reduceEqDiff, Nat.reduceAdd, Nat.reduceLT, Nat.reduceLeDiff, Nat.reduceBEq, reduceCtorEq, e2, e3, e5, g0, g1, hS] | ((with_reducible first | refine g_dec ?_ ?_ | refine c_dec ?_ ?_ | refine s_dec ?_ ?_ | refine g_ndec ?_ ?_ | refine c_ndec ?_ ?_ | refine g_nbool ?_ ?_ | refine c_nbool ?_ ?_ | refine g_bool ?_ ?_ | refine c_bool ?_ ?_ | refine s_bool ?_ ?_) <;> intro h d <;> (try simp only [d]) <;> (try simp only [B1, B2, B3, B4, B5, B6, B7, B8] at h) <;> (try omega)))
    · have hd := hne fun e => h (by rw [e])
      refine (hE _ _).2.1 ?_
      repeat' (first | simp -implicitDefEqProofs (disch := first | exact soD | fail) only [go_sem, ↓reduceIte, Nat.reduceEqDiff, Nat.reduceAdd, Nat.reduceLT, Nat.reduceLeDiff, Nat.reduceBEq, reduceCtorEq, hd] | ((with_reducible first | refine g_dec ?_ ?_ | refine c_dec ?_ ?_ | refine s_dec ?_ ?_ | refine g_ndec ?_ ?_ | refine c_ndec ?_ ?_ | refine g_nbool ?_ ?_ | refine c_nbool ?_ ?_ | refine g_bool ?_ ?_ | refine c_bool ?_ ?_ | refine s_bool ?_ ?_) <;> intro h d <;> (try simp only [d]) <;> (try simp only [B1, B2, B3, B4, B5, B6, B7, B8] at h) <;> (try omega)))
    · have hd := hne fun e => h (by rw [e])
      refine (hE _ _).2.1 ?_
      repeat' (first | simp -implicitDefEqProofs (disch := first | exact soD | fail) only [go_sem, ↓reduceIte, Nat.reduceEqDiff, Nat.reduceAdd, Nat.reduceLT, Nat.reduceLeDiff, Nat.reduceBEq, reduceCtorEq, hd] | ((with_reducible first | refine g_dec ?_ ?_ | refine c_dec ?_ ?_ | refine s_dec ?_ ?_ | refine g_ndec ?_ ?_ | refine c_ndec ?_ ?_ | refine g_nbool ?_ ?_ | refine c_nbool ?_ ?_ | refine g_bool ?_ ?_ | refine c_bool ?_ ?_ | refine s_bool ?_ ?_) <;> intro h d <;> (try simp only [d]) <;> (try simp only [B1, B2, B3, B4, B5, B6, B7, B8] at h) <;> (try omega)))
    · have hd := hne fun e => h (by rw [e])
      refine (hE _ _).2.1 ?_
      repeat' (first | simp -implicitDefEqProofs (disch := first | exact soD | fail) only [go_sem, ↓reduceIte, Nat.reduceEqDiff, Nat.reduceAdd, Nat.reduceLT, Nat.reduceLeDiff, Nat.reduceBEq, reduceCtorEq, hd] | ((with_reducible first | refine g_dec ?_ ?_ | refine c_dec ?_ ?_ | refine s_dec ?_ ?_ | refine g_ndec ?_ ?_ | refine c_ndec ?_ ?_ | refine g_nbool ?_ ?_ | refine c_nbool ?_ ?_ | refine g_bool ?_ ?_ | refine c_bool ?_ ?_ | refine s_bool ?_ ?_) <;> intro h d <;> (try simp only [d]) <;> (try simp only [B1, B2, B3, B4, B5, B6, B7, B8] at h) <;> (try omega)))
    · have hst := nth_step hall (GT_eq (by assumption) (by assumption) (by assumption))
      exact hN (i + 1) _ _ ⟨⟨by omega, by omega, hst⟩, soA, by simp -implicitDefEqProofs (disch := first | exact soD | fail) only [go_sem, ↓reduceIte, Nat.reduceEqDiff, Nat.reduceAdd, Nat.reduceLT, Nat.reduceLeDiff, Nat.reduceBEq, reduceCtorEq]; exact g0, by simp -implicitDefEqProofs (disch := first | exact soD | fail) only [go_sem, ↓reduceIte, Nat.reduceEqDiff, Nat.reduceAdd, Nat.reduceLT, Nat.reduceLeDiff, Nat.reduceBEq, reduceCtorEq]; exact g1, by simp -implicitDefEqProofs (disch := first | exact soD | fail) only [go_sem, ↓reduceIte, Nat.reduceEqDiff, Nat.reduceAdd, Nat.reduceLT, Nat.reduceLeDiff, Nat.reduceBEq, reduceCtorEq, e2], by simp -implicitDefEqProofs (disch := first | exact soD | fail) only [go_sem, ↓reduceIte, Nat.reduceEqDiff, Nat.reduceAdd, Nat.reduceLT, Nat.reduceLeDiff, Nat.reduceBEq, reduceCtorEq, e3], sxA⟩ (by omega)
    · have ht : p.types = q.types := ext_nth hl1 fun j a b => hall j a (by omega)
      refine (hE _ _).1 _ ?_
      unfold ls14_2
      repeat' (first | simp -implicitDefEqProofs (disch := first | exact soD | fail) only [go_sem, ↓reduceIte, Nat.reduceEqDiff, Nat.reduceAdd, Nat.reduceLT, Nat.reduceLeDiff, Nat.reduceBEq, reduceCtorEq, e2, e3] | ((with_reducible first | refine g_dec ?_ ?_ | refine c_dec ?_ ?_ | refine s_dec ?_ ?_ | refine g_ndec ?_ ?_ | refine c_ndec ?_ ?_ | refine g_nbool ?_ ?_ | refine c_nbool ?_ ?_ | refine g_bool ?_ ?_ | refine c_bool ?_ ?_ | refine s_bool ?_ ?_) <;> intro h d <;> (try simp only [d]) <;> (try simp only [B1, B2, B3, B4, B5, B6, B7, B8] at h) <;> (try omega)))
      refine same_funcs n p q hl2 hb3 hb4 hb5 (by simp -implicitDefEqProofs (disch := first | exact soD | fail) only [go_sem, ↓reduceIte, Nat.reduceEqDiff, Nat.reduceAdd, Nat.reduceLT, Nat.reduceLeDiff, Nat.reduceBEq, reduceCtorEq, e2]) (by simp -implicitDefEqProofs (disch := first | exact soD | fail) only [go_sem, ↓reduceIte, Nat.reduceEqDiff, Nat.reduceAdd, Nat.reduceLT, Nat.reduceLeDiff, Nat.reduceBEq, reduceCtorEq, e3]) sxA (by simp -implicitDefEqProofs (disch := first | exact soD | fail) only [go_sem, ↓reduceIte, Nat.reduceEqDiff, Nat.reduceAdd, Nat.reduceLT, Nat.reduceLeDiff, Nat.reduceBEq, reduceCtorEq]; exact g0) (by simp -implicitDefEqProofs (disch := first | exact soD | fail) only [go_sem, ↓reduceIte, Nat.reduceEqDiff, Nat.reduceAdd, Nat.reduceLT, Nat.reduceLeDiff, Nat.reduceBEq, reduceCtorEq]; exact g1) soA (fun hf env' m' => ?_) (fun hf env' m' f4 => ?_)
      · unfold ls14_1
        repeat' (first | simp -implicitDefEqProofs (disch := first | exact soD | fail) only [go_sem, ↓reduceIte, Nat.reduceEqDiff, Nat.reduceAdd, Nat.reduceLT, Nat.reduceLeDiff, Nat.reduceBEq, reduceCtorEq] | ((with_reducible first | refine g_dec ?_ ?_ | refine c_dec ?_ ?_ | refine s_dec ?_ ?_ | refine g_ndec ?_ ?_ | refine c_ndec ?_ ?_ | refine g_nbool ?_ ?_ | refine c_nbool ?_ ?_ | refine g_bool ?_ ?_ | refine c_bool ?_ ?_ | refine s_bool ?_ ?_) <;> intro h d <;> (try simp only [d]) <;> (try simp only [B1, B2, B3, B4, B5, B6, B7, B8] at h) <;> (try omega)))
        rw [decide_eq_true (GP_eq ht hf)]
      · repeat' (first | simp -implicitDefEqProofs (disch := first | exact soD | fail) only [go_sem, ↓reduceIte, Nat.reduceEqDiff, Nat.reduceAdd, Nat.reduceLT, Nat.reduceLeDiff, Nat.reduceBEq, reduceCtorEq, f4] | ((with_reducible first | refine g_dec ?_ ?_ | refine c_dec ?_ ?_ | refine s_dec ?_ ?_ | refine g_ndec ?_ ?_ | refine c_ndec ?_ ?_ | refine g_nbool ?_ ?_ | refine c_nbool ?_ ?_ | refine g_bool ?_ ?_ | refine c_bool ?_ ?_ | refine s_bool ?_ ?_) <;> intro h d <;> (try simp only [d]) <;> (try simp only [B1, B2, B3, B4, B5, B6, B7, B8] at h) <;> (try omega)))
        rw [decide_eq_false fun e => hf (by rw [e])]
  · repeat' (first | simp -implicitDefEqProofs (disch := first | exact soD | fail) only [go_sem, ↓reduceIte, Nat.reduceEqDiff, Nat.reduceAdd, Nat.reduceLT, Nat.reduceLeDiff, Nat.reduceBEq, reduceCtorEq, hl] | ((with_reducible first | refine g_dec ?_ ?_ | refine c_dec ?_ ?_ | refine s_dec ?_ ?_ | refine g_ndec ?_ ?_ | refine c_ndec ?_ ?_ | refine g_nbool ?_ ?_ | refine c_nbool ?_ ?_ | refine g_bool ?_ ?_ | refine c_bool ?_ ?_ | refine s_bool ?_ ?_) <;> intro h d <;> (try simp only [d]) <;> (try simp only [B1, B2, B3, B4, B5, B6, B7, B8] at h) <;> (try omega)))
    all_goals rw [decide_eq_false fun e => hl (by rw [e]; exact ⟨rfl, rfl⟩)]
end Go.Proofs.YtiijjopdhjpalaaDoor
