/- Each count at its limit and beyond. Conditions: none. -/
import Derived.Test.YtiijjopdhjpalaaDoorMp
import Derived.KernelRfl
/-! Each count at its limit and beyond: the programs, in plain Lean. Conditions: none. -/
namespace Go.Proofs.YtiijjopdhjpalaaDoor
open Go
set_option linter.unusedSimpArgs false
set_option linter.unusedVariables false
/-- A function that fails at once. -/
@[reducible] def F0 : GF := ⟨[], 0, 0, [⟨37, 0, 0⟩]⟩
@[reducible] def Ts (a b : List Int) : List GT := [⟨2, a, 0⟩, ⟨4, b, 0⟩]
@[reducible] def zeros (n : Nat) : List Int := List.replicate n 0
@[reducible] def jumps (n : Nat) : List GI := (List.replicate n (⟨0, 0, 0⟩ : GI)).set (n - 1) ⟨18, (n : Int) - 1, 0⟩
def pc (w n : Nat) : GP := match w with
  | 0 => ⟨List.replicate n ⟨3, [], 0⟩, [F0, F0]⟩
  | 1 => ⟨Ts (zeros n) [], [F0, F0]⟩
  | 2 => ⟨Ts [] (zeros n), [F0, F0]⟩
  | 3 => ⟨Ts [] [], List.replicate n F0⟩
  | 4 => ⟨Ts [] [], [F0, ⟨zeros n, 0, 0, [⟨37, 0, 0⟩]⟩]⟩
  | 5 => ⟨Ts [] [], [F0, ⟨[0], 0, n, [⟨37, 0, 0⟩]⟩]⟩
  | _ => ⟨Ts [] [], [F0, ⟨[], 0, 0, jumps n⟩]⟩
def least (w : Nat) : Nat := match w with
  | 3 | 6 => 1
  | _ => 0
def most (w : Nat) : Nat := match w with
  | 0 => 60
  | 1 => 12
  | 2 => 6
  | 3 => 50
  | 4 => 16
  | 5 => 31
  | _ => 300
def fineB (w n : Nat) : Bool := decide (least w ≤ n) && decide (n ≤ most w)
theorem pc_all0 : ((List.range 400).all fun n => rokT (pc 0 n) == fineB 0 n) = true := by kernel_rfl
theorem pc_all1 : ((List.range 400).all fun n => rokT (pc 1 n) == fineB 1 n) = true := by kernel_rfl
theorem pc_all2 : ((List.range 400).all fun n => rokT (pc 2 n) == fineB 2 n) = true := by kernel_rfl
theorem pc_all3 : ((List.range 400).all fun n => rokT (pc 3 n) == fineB 3 n) = true := by kernel_rfl
theorem pc_all4 : ((List.range 400).all fun n => rokT (pc 4 n) == fineB 4 n) = true := by kernel_rfl
theorem pc_all5 : ((List.range 400).all fun n => rokT (pc 5 n) == fineB 5 n) = true := by kernel_rfl
theorem pc_all6 : ((List.range 400).all fun n => rokT (pc 6 n) == fineB 6 n) = true := by kernel_rfl
theorem pc_rok {w n : Nat} (hw : w < 7) (hn : n < 400) : rokT (pc w n) = fineB w n := by
  have key : ∀ w, ((List.range 400).all fun n => rokT (pc w n) == fineB w n) = true → rokT (pc w n) = fineB w n := fun w h => by
    rw [List.all_eq_true] at h
    simpa using h n (List.mem_range.2 hn)
  rcases (by omega : w = 0 ∨ w = 1 ∨ w = 2 ∨ w = 3 ∨ w = 4 ∨ w = 5 ∨ w = 6) with h | h | h | h | h | h | h <;> subst h
  · exact key _ pc_all0
  · exact key _ pc_all1
  · exact key _ pc_all2
  · exact key _ pc_all3
  · exact key _ pc_all4
  · exact key _ pc_all5
  · exact key _ pc_all6
end Go.Proofs.YtiijjopdhjpalaaDoor

/-! Each count at its limit and beyond: what is said of a program in the end. Conditions: none. -/
namespace Go.Proofs.YtiijjopdhjpalaaDoor
open Go
set_option linter.unusedSimpArgs false
set_option linter.unusedVariables false
/-- A program in memory reads as its tree. -/
theorem prog_read {m : AMem} {tv fv : AV} {p : GP} (T : TL m tv p.types) (L : FL m fv p.funcs) : rb m RBN (.agg [tv, fv]) = some (.agg [tsl 3 (p.types.map GT.av), tsl 4 (p.funcs.map GF.av)]) := by
  rw [show RBN = 11 + 1 from rfl, yrb_agg, yrbL_cons, TL.read T (isRb_rb m) 7, yrbL_cons, FL.read L (isRb_rb m) 6]
  rfl
theorem same_rb (n : Nat) (p q : GP) (hp : p.bnd) {m : AMem} {v : AV} (hv : rb m RBN v = some (.agg [tsl 3 (p.types.map GT.av), tsl 4 (p.funcs.map GF.av)])) : callsN cfg (n + 2) 14 [v, .agg [tsl 3 (q.types.map GT.av), tsl 4 (q.funcs.map GF.av)]] m = some (.ret (.bool (decide (p = q))), m) := by
  have h := sp_Same n p q hp .empty
  rw [ce14] at h ⊢
  refine borrow_any (by simp only [go_sem]) h ?_
  rw [yrbL_cons, hv, yrbL_cons, rb_prog]
  rfl
theorem right_rb (n : Nat) (p : GP) (hp : p.wf) {m : AMem} {v : AV} (hv : rb m RBN v = some (.agg [tsl 3 (p.types.map GT.av), tsl 4 (p.funcs.map GF.av)])) : callsN cfg (n + 7) 10 [v] m = some (.ret (.bool (rokT p)), m) := by
  have h := sp_Right10 n p hp .empty
  rw [ce10] at h ⊢
  refine borrow_any (by simp only [go_sem]) h ?_
  rw [yrbL_cons, hv]
  rfl
theorem dec_none : dec [] = .bad 0 2 := rfl
/-- What is there when the program is made. -/
structure CT (p : GP) (N lst mst P : Nat) (env : AEnv) (w : AMem) : Prop where
  lt : P < w.next
  pg : ∃ tv fv, w.get P = some (.arr 25 2 [.agg [tv, fv]]) ∧ TL w tv p.types ∧ FL w fv p.funcs
  e1 : env 1 = avI N
  e5 : env 5 = .bool true
  e6 : env 6 = .ptr P 0 0
  e7 : env 7 = avI lst
  e8 : env 8 = avI mst
set_option maxHeartbeats 4000000 in
theorem counts_end {p : GP} {N lst mst P : Nat} {env : AEnv} {w : AMem} (hr : rokT p = (decide (lst ≤ N) && decide (N ≤ mst))) (hw : p.wf) (hb : p.bnd) (I : CT p N lst mst P env w) :
    Wp (aCode (callsN cfg 60) ls8_0 env w (fin [.slot 4])) fun o m' => o = .ret (.bool true) := by
  obtain ⟨lt, ⟨tv, fv, g, T, L⟩, e1, e5, e6, e7, e8⟩ := I
  obtain ⟨_, OT, _⟩ := T.ov
  obtain ⟨o1, o2, o3, o4, o5⟩ := OT.flat
  obtain ⟨_, OF, _⟩ := L.ov
  obtain ⟨q1, q2, q3, q4, q5⟩ := OF.flat
  have hv : ∀ M, Fr (fun _ => False) w M → rb M RBN (.agg [tv, fv]) = some (.agg [tsl 3 (p.types.map GT.av), tsl 4 (p.funcs.map GF.av)]) := fun M F => prog_read (T.frame F off_none off_none) (L.frame F off_none off_none off_none)
  have hF0 := fun m => sp_fault_nil 58 m
  unfold ls8_0
  by_cases hf : lst ≤ N ∧ N ≤ mst
  · have rp : rokT p = true := by rw [hr, decide_eq_true hf.1, decide_eq_true hf.2]; rfl
    have r1 : encR p = encP p := by rw [encR, rp]; rfl
    have l1 := encP_11 rp
    have l2 := encP_len rp
    have hbb := encP_BB rp
    have hd := dec_back rp [] (by rw [List.append_nil]; omega)
    rw [List.append_nil, if_pos rfl] at hd
    have hD := fun (m : AMem) => sp_Decode 51 hbb (m := m) (v := tsl 1 ((encP p).map avB)) (yrb_tsl m 11 1 _) (.inl rfl) (by omega)
    rw [hd] at hD
    have dA : decide ((lst : Int) ≤ (N : Int)) = true := decide_eq_true (by omega)
    have dB : decide ((N : Int) ≤ (mst : Int)) = true := decide_eq_true (by omega)
    have dl : decide (((encP p).length : Int) = 0) = false := decide_eq_false (by omega)
    repeat' (first | simp -implicitDefEqProofs (disch := first | exact soD | fail) only [go_sem, ↓reduceIte, Nat.reduceEqDiff, Nat.reduceAdd, Nat.reduceLT, Nat.reduceLeDiff, Nat.reduceBEq, reduceCtorEq, e1, e5, e6, e7, e8, g, o1, o2, o3, o4, q1, q2, q3, q4, dA, dB, Int.reduceEq] | ((with_reducible first | refine g_dec ?_ ?_ | refine c_dec ?_ ?_ | refine s_dec ?_ ?_ | refine g_ndec ?_ ?_ | refine c_ndec ?_ ?_ | refine g_nbool ?_ ?_ | refine c_nbool ?_ ?_ | refine g_bool ?_ ?_ | refine c_bool ?_ ?_ | refine s_bool ?_ ?_) <;> intro h d <;> (try simp only [d]) <;> (try simp only [B1, B2, B3, B4, B5, B6, B7, B8] at h) <;> (try omega)))
    refine call_eq (sp_Encode 52 p hw _ _ (hv _ frA)) ?_
    rw [r1]
    repeat' (first | simp -implicitDefEqProofs (disch := first | exact soD | fail) only [go_sem, ↓reduceIte, Nat.reduceEqDiff, Nat.reduceAdd, Nat.reduceLT, Nat.reduceLeDiff, Nat.reduceBEq, reduceCtorEq, e1, e5, e6, e7, e8, g, o1, o2, o3, o4, q1, q2, q3, q4, dA, dB, hD, dV, hF0, dl, Int.reduceEq] | ((with_reducible first | refine g_dec ?_ ?_ | refine c_dec ?_ ?_ | refine s_dec ?_ ?_ | refine g_ndec ?_ ?_ | refine c_ndec ?_ ?_ | refine g_nbool ?_ ?_ | refine c_nbool ?_ ?_ | refine g_bool ?_ ?_ | refine c_bool ?_ ?_ | refine s_bool ?_ ?_) <;> intro h d <;> (try simp only [d]) <;> (try simp only [B1, B2, B3, B4, B5, B6, B7, B8] at h) <;> (try omega)))
    refine call_eq (same_rb 58 p p hb (hv _ frA)) ?_
    rw [decide_eq_true (rfl : p = p)]
    repeat' (first | simp -implicitDefEqProofs (disch := first | exact soD | fail) only [go_sem, ↓reduceIte, Nat.reduceEqDiff, Nat.reduceAdd, Nat.reduceLT, Nat.reduceLeDiff, Nat.reduceBEq, reduceCtorEq, e1, e5, e6, e7, e8, g, o1, o2, o3, o4, q1, q2, q3, q4, dA, dB, dl, Int.reduceEq] | ((with_reducible first | refine g_dec ?_ ?_ | refine c_dec ?_ ?_ | refine s_dec ?_ ?_ | refine g_ndec ?_ ?_ | refine c_ndec ?_ ?_ | refine g_nbool ?_ ?_ | refine c_nbool ?_ ?_ | refine g_bool ?_ ?_ | refine c_bool ?_ ?_ | refine s_bool ?_ ?_) <;> intro h d <;> (try simp only [d]) <;> (try simp only [B1, B2, B3, B4, B5, B6, B7, B8] at h) <;> (try omega)))
    refine call_eq (right_rb 53 p hw (hv _ frA)) ?_
    rw [rp]
    repeat' (first | simp -implicitDefEqProofs (disch := first | exact soD | fail) only [go_sem, ↓reduceIte, Nat.reduceEqDiff, Nat.reduceAdd, Nat.reduceLT, Nat.reduceLeDiff, Nat.reduceBEq, reduceCtorEq, e1, e5, e6, e7, e8, g, o1, o2, o3, o4, q1, q2, q3, q4, dA, dB, dl, Int.reduceEq] | ((with_reducible first | refine g_dec ?_ ?_ | refine c_dec ?_ ?_ | refine s_dec ?_ ?_ | refine g_ndec ?_ ?_ | refine c_ndec ?_ ?_ | refine g_nbool ?_ ?_ | refine c_nbool ?_ ?_ | refine g_bool ?_ ?_ | refine c_bool ?_ ?_ | refine s_bool ?_ ?_) <;> intro h d <;> (try simp only [d]) <;> (try simp only [B1, B2, B3, B4, B5, B6, B7, B8] at h) <;> (try omega)))
  · have rp : rokT p = false := by
      rw [hr]
      by_cases h1 : lst ≤ N
      · rw [decide_eq_false (fun h => hf ⟨h1, h⟩), Bool.and_false]
      · rw [decide_eq_false h1, Bool.false_and]
    have r1 : encR p = [] := by rw [encR, rp]; rfl
    have hD := fun (m : AMem) => sp_Decode 51 (b := []) (fun z hz => by cases hz) (m := m) (v := tsl 1 []) (yrb_tsl m 11 1 _) (.inl rfl) (by decide)
    rw [dec_none] at hD
    have dz : decide (((0 : Nat) : Int) = 0) = true := rfl
    by_cases hA : lst ≤ N
    · have dA : decide ((lst : Int) ≤ (N : Int)) = true := decide_eq_true (by omega)
      have dB : decide ((N : Int) ≤ (mst : Int)) = false := decide_eq_false (by omega)
      repeat' (first | simp -implicitDefEqProofs (disch := first | exact soD | fail) only [go_sem, ↓reduceIte, Nat.reduceEqDiff, Nat.reduceAdd, Nat.reduceLT, Nat.reduceLeDiff, Nat.reduceBEq, reduceCtorEq, e1, e5, e6, e7, e8, g, o1, o2, o3, o4, q1, q2, q3, q4, dA, dB, Int.reduceEq] | ((with_reducible first | refine g_dec ?_ ?_ | refine c_dec ?_ ?_ | refine s_dec ?_ ?_ | refine g_ndec ?_ ?_ | refine c_ndec ?_ ?_ | refine g_nbool ?_ ?_ | refine c_nbool ?_ ?_ | refine g_bool ?_ ?_ | refine c_bool ?_ ?_ | refine s_bool ?_ ?_) <;> intro h d <;> (try simp only [d]) <;> (try simp only [B1, B2, B3, B4, B5, B6, B7, B8] at h) <;> (try omega)))
      refine call_eq (sp_Encode 52 p hw _ _ (hv _ frA)) ?_
      rw [r1]
      repeat' (first | simp -implicitDefEqProofs (disch := first | exact soD | fail) only [go_sem, ↓reduceIte, Nat.reduceEqDiff, Nat.reduceAdd, Nat.reduceLT, Nat.reduceLeDiff, Nat.reduceBEq, reduceCtorEq, e1, e5, e6, e7, e8, g, o1, o2, o3, o4, q1, q2, q3, q4, dA, dB, hD, dV, dz, Int.reduceEq] | ((with_reducible first | refine g_dec ?_ ?_ | refine c_dec ?_ ?_ | refine s_dec ?_ ?_ | refine g_ndec ?_ ?_ | refine c_ndec ?_ ?_ | refine g_nbool ?_ ?_ | refine c_nbool ?_ ?_ | refine g_bool ?_ ?_ | refine c_bool ?_ ?_ | refine s_bool ?_ ?_) <;> intro h d <;> (try simp only [d]) <;> (try simp only [B1, B2, B3, B4, B5, B6, B7, B8] at h) <;> (try omega)))
      refine call_eq (same_rb 58 p ⟨[], []⟩ hb (hv _ frA)) ?_
      generalize decide (p = ⟨[], []⟩) = sm
      repeat' (first | simp -implicitDefEqProofs (disch := first | exact soD | fail) only [go_sem, ↓reduceIte, Nat.reduceEqDiff, Nat.reduceAdd, Nat.reduceLT, Nat.reduceLeDiff, Nat.reduceBEq, reduceCtorEq, e1, e5, e6, e7, e8, g, o1, o2, o3, o4, q1, q2, q3, q4, dA, dB, dz, Int.reduceEq] | ((with_reducible first | refine g_dec ?_ ?_ | refine c_dec ?_ ?_ | refine s_dec ?_ ?_ | refine g_ndec ?_ ?_ | refine c_ndec ?_ ?_ | refine g_nbool ?_ ?_ | refine c_nbool ?_ ?_ | refine g_bool ?_ ?_ | refine c_bool ?_ ?_ | refine s_bool ?_ ?_) <;> intro h d <;> (try simp only [d]) <;> (try simp only [B1, B2, B3, B4, B5, B6, B7, B8] at h) <;> (try omega)))
      refine call_eq (right_rb 53 p hw (hv _ frA)) ?_
      rw [rp]
      repeat' (first | simp -implicitDefEqProofs (disch := first | exact soD | fail) only [go_sem, ↓reduceIte, Nat.reduceEqDiff, Nat.reduceAdd, Nat.reduceLT, Nat.reduceLeDiff, Nat.reduceBEq, reduceCtorEq, e1, e5, e6, e7, e8, g, o1, o2, o3, o4, q1, q2, q3, q4, dA, dB, dz, Int.reduceEq] | ((with_reducible first | refine g_dec ?_ ?_ | refine c_dec ?_ ?_ | refine s_dec ?_ ?_ | refine g_ndec ?_ ?_ | refine c_ndec ?_ ?_ | refine g_nbool ?_ ?_ | refine c_nbool ?_ ?_ | refine g_bool ?_ ?_ | refine c_bool ?_ ?_ | refine s_bool ?_ ?_) <;> intro h d <;> (try simp only [d]) <;> (try simp only [B1, B2, B3, B4, B5, B6, B7, B8] at h) <;> (try omega)))
    · have dA : decide ((lst : Int) ≤ (N : Int)) = false := decide_eq_false (by omega)
      repeat' (first | simp -implicitDefEqProofs (disch := first | exact soD | fail) only [go_sem, ↓reduceIte, Nat.reduceEqDiff, Nat.reduceAdd, Nat.reduceLT, Nat.reduceLeDiff, Nat.reduceBEq, reduceCtorEq, e1, e5, e6, e7, e8, g, o1, o2, o3, o4, q1, q2, q3, q4, dA, Int.reduceEq] | ((with_reducible first | refine g_dec ?_ ?_ | refine c_dec ?_ ?_ | refine s_dec ?_ ?_ | refine g_ndec ?_ ?_ | refine c_ndec ?_ ?_ | refine g_nbool ?_ ?_ | refine c_nbool ?_ ?_ | refine g_bool ?_ ?_ | refine c_bool ?_ ?_ | refine s_bool ?_ ?_) <;> intro h d <;> (try simp only [d]) <;> (try simp only [B1, B2, B3, B4, B5, B6, B7, B8] at h) <;> (try omega)))
      refine call_eq (sp_Encode 52 p hw _ _ (hv _ frA)) ?_
      rw [r1]
      repeat' (first | simp -implicitDefEqProofs (disch := first | exact soD | fail) only [go_sem, ↓reduceIte, Nat.reduceEqDiff, Nat.reduceAdd, Nat.reduceLT, Nat.reduceLeDiff, Nat.reduceBEq, reduceCtorEq, e1, e5, e6, e7, e8, g, o1, o2, o3, o4, q1, q2, q3, q4, dA, hD, dV, dz, Int.reduceEq] | ((with_reducible first | refine g_dec ?_ ?_ | refine c_dec ?_ ?_ | refine s_dec ?_ ?_ | refine g_ndec ?_ ?_ | refine c_ndec ?_ ?_ | refine g_nbool ?_ ?_ | refine c_nbool ?_ ?_ | refine g_bool ?_ ?_ | refine c_bool ?_ ?_ | refine s_bool ?_ ?_) <;> intro h d <;> (try simp only [d]) <;> (try simp only [B1, B2, B3, B4, B5, B6, B7, B8] at h) <;> (try omega)))
      refine call_eq (same_rb 58 p ⟨[], []⟩ hb (hv _ frA)) ?_
      generalize decide (p = ⟨[], []⟩) = sm
      repeat' (first | simp -implicitDefEqProofs (disch := first | exact soD | fail) only [go_sem, ↓reduceIte, Nat.reduceEqDiff, Nat.reduceAdd, Nat.reduceLT, Nat.reduceLeDiff, Nat.reduceBEq, reduceCtorEq, e1, e5, e6, e7, e8, g, o1, o2, o3, o4, q1, q2, q3, q4, dA, dz, Int.reduceEq] | ((with_reducible first | refine g_dec ?_ ?_ | refine c_dec ?_ ?_ | refine s_dec ?_ ?_ | refine g_ndec ?_ ?_ | refine c_ndec ?_ ?_ | refine g_nbool ?_ ?_ | refine c_nbool ?_ ?_ | refine g_bool ?_ ?_ | refine c_bool ?_ ?_ | refine s_bool ?_ ?_) <;> intro h d <;> (try simp only [d]) <;> (try simp only [B1, B2, B3, B4, B5, B6, B7, B8] at h) <;> (try omega)))
      refine call_eq (right_rb 53 p hw (hv _ frA)) ?_
      rw [rp]
      repeat' (first | simp -implicitDefEqProofs (disch := first | exact soD | fail) only [go_sem, ↓reduceIte, Nat.reduceEqDiff, Nat.reduceAdd, Nat.reduceLT, Nat.reduceLeDiff, Nat.reduceBEq, reduceCtorEq, e1, e5, e6, e7, e8, g, o1, o2, o3, o4, q1, q2, q3, q4, dA, dz, Int.reduceEq] | ((with_reducible first | refine g_dec ?_ ?_ | refine c_dec ?_ ?_ | refine s_dec ?_ ?_ | refine g_ndec ?_ ?_ | refine c_ndec ?_ ?_ | refine g_nbool ?_ ?_ | refine c_nbool ?_ ?_ | refine g_bool ?_ ?_ | refine c_bool ?_ ?_ | refine s_bool ?_ ?_) <;> intro h d <;> (try simp only [d]) <;> (try simp only [B1, B2, B3, B4, B5, B6, B7, B8] at h) <;> (try omega)))
end Go.Proofs.YtiijjopdhjpalaaDoor

/-! Each count at its limit and beyond. Conditions: none. -/
namespace Go.Proofs.YtiijjopdhjpalaaDoor
open Go
set_option linter.unusedSimpArgs false
set_option linter.unusedVariables false
theorem SV.of1 {α : Type} {t sz id : Nat} {R : AV → α → Prop} {m : AMem} {e : AV} {a : α} (h1 : id < m.next) (h2 : m.get id = some (.arr t sz [e])) (ha : R e a) : SV t sz R m (.sl sz id 0 1) [a] :=
  .inr ⟨id, [e], rfl, h1, h2, rfl, fun j x hj => by
    cases j with
    | zero => cases hj; exact ⟨e, rfl, ha⟩
    | succ j => simp at hj⟩
theorem SV.of2 {α : Type} {t sz id : Nat} {R : AV → α → Prop} {m : AMem} {e f : AV} {a b : α} (h1 : id < m.next) (h2 : m.get id = some (.arr t sz [e, f])) (ha : R e a) (hb : R f b) : SV t sz R m (.sl sz id 0 2) [a, b] :=
  .inr ⟨id, [e, f], rfl, h1, h2, rfl, fun j x hj => by
    match j, hj with
    | 0, hj => cases hj; exact ⟨e, rfl, ha⟩
    | 1, hj => cases hj; exact ⟨f, rfl, hb⟩
    | j + 2, hj => simp at hj⟩
theorem nv_zeros {m : AMem} {id N : Nat} (h1 : id < m.next) (h2 : m.get id = some (.arr 3 1 ((List.replicate N (0 : Int)).map avI))) : NV m (.sl 1 id 0 N) (zeros N) := by
  have := NV.mk (l := zeros N) h1 h2
  rwa [List.length_replicate] at this
/-- The loop that makes types. -/
structure L0 (N P : Nat) (i : Nat) (env : AEnv) (w : AMem) : Prop where
  le : i ≤ N
  lt : P < w.next
  pg : ∃ tv fv, w.get P = some (.arr 25 2 [.agg [tv, fv]]) ∧ TL w tv (List.replicate i ⟨3, [], 0⟩) ∧ FL w fv [F0, F0]
  e1 : env 1 = avI N
  e5 : env 5 = .bool true
  e6 : env 6 = .ptr P 0 0
  e7 : env 7 = avI 0
  e8 : env 8 = avI 60
  e9 : env 9 = avI i
set_option maxHeartbeats 4000000 in
theorem counts_types {N P : Nat} (hN0 : N < 400) {Q : AOut → AMem → Prop} {K : Kont} {env : AEnv} {w : AMem} (hI : L0 N P 0 env w) (hx : ∀ env' w', CT (pc 0 N) N 0 60 P env' w' → Wp (K (.exit 1) env' w') Q) :
    Wp (loopN LOOPK (aCode (callsN cfg 60) lb8_0) env w K) Q := by
  refine wp_loop (L0 N P) (fun i => N - i) (fun i env w K' hI hN hE => ?_) LOOPK 0 _ _ hI (by rw [LOOPK_eq]; omega)
  obtain ⟨le, lt, ⟨tv, fv, g, T, L⟩, e1, e5, e6, e7, e8, e9⟩ := hI
  obtain ⟨es, O, el, ea⟩ := T.ov
  rw [List.length_replicate] at el
  obtain ⟨o1, o2, o3, o4, o5⟩ := O.flat
  obtain ⟨_, OF, _⟩ := L.ov
  obtain ⟨q1, q2, q3, q4, q5⟩ := OF.flat
  unfold lb8_0
  by_cases c : i < N
  · repeat' (first | simp -implicitDefEqProofs (disch := first | exact soD | fail) only [go_sem, ↓reduceIte, Nat.reduceEqDiff, Nat.reduceAdd, Nat.reduceLT, Nat.reduceLeDiff, Nat.reduceBEq, reduceCtorEq, e1, e5, e6, e7, e8, e9, g, o1, o2, o3, o4, q1, q2, q3, q4, Int.reduceEq] | ((with_reducible first | refine g_dec ?_ ?_ | refine c_dec ?_ ?_ | refine s_dec ?_ ?_ | refine g_ndec ?_ ?_ | refine c_ndec ?_ ?_ | refine g_nbool ?_ ?_ | refine c_nbool ?_ ?_ | refine g_bool ?_ ?_ | refine c_bool ?_ ?_ | refine s_bool ?_ ?_) <;> intro h d <;> (try simp only [d]) <;> (try simp only [B1, B2, B3, B4, B5, B6, B7, B8] at h) <;> (try omega)))
    refine app_wp (O.frame (S := fun _ => False) frA off_none) soA (by omega) (fun p f4 gp lp => ?_)
    have nsP : ¬ SId tv P := O.ne g (by decide)
    have gP := f4.get (id := P) (by simp -implicitDefEqProofs (disch := first | exact soD | fail) only [go_sem, ↓reduceIte, Nat.reduceEqDiff, Nat.reduceAdd, Nat.reduceLT, Nat.reduceLeDiff, Nat.reduceBEq, reduceCtorEq]; exact g) soA (fun c => c.elim nsP (fun e => by omega))
    repeat' (first | simp -implicitDefEqProofs (disch := first | exact soD | fail) only [go_sem, ↓reduceIte, Nat.reduceEqDiff, Nat.reduceAdd, Nat.reduceLT, Nat.reduceLeDiff, Nat.reduceBEq, reduceCtorEq, e1, e5, e6, e7, e8, e9, gP, o1, o2, o3, o4, q1, q2, q3, q4, Int.reduceEq] | ((with_reducible first | refine g_dec ?_ ?_ | refine c_dec ?_ ?_ | refine s_dec ?_ ?_ | refine g_ndec ?_ ?_ | refine c_ndec ?_ ?_ | refine g_nbool ?_ ?_ | refine c_nbool ?_ ?_ | refine g_bool ?_ ?_ | refine c_bool ?_ ?_ | refine s_bool ?_ ?_) <;> intro h d <;> (try simp only [d]) <;> (try simp only [B1, B2, B3, B4, B5, B6, B7, B8] at h) <;> (try omega)))
    have FW : Fr (fun y => SId tv y ∨ y = w.next + 3 + 4) w p := Fr.trans frA f4
    have wp := FW.next
    have ow : ∀ {t : Nat}, t ≠ 43 → Off (fun y => SId tv y ∨ y = w.next + 3 + 4) w t := fun h => off_or (O.off h) (off_gone (w.wf _ (by omega)))
    have g5 : ∀ {O}, Fr (fun x => x = P) p (p.put P O) := Fr.put (S := fun x => x = P) Fr.refl _ (.inr rfl)
    have od : ∀ {t : Nat}, t ≠ 25 → Off (fun x => x = P) p t := fun h => off_eq gP (fun e => h e.symm)
    refine hN (i + 1) _ _ ⟨by omega, soA, ⟨.sl 3 (w.next + 3 + 4) 0 (es.length + 1), fv, sxA, ?_, ?_⟩, by simp -implicitDefEqProofs (disch := first | exact soD | fail) only [go_sem, ↓reduceIte, Nat.reduceEqDiff, Nat.reduceAdd, Nat.reduceLT, Nat.reduceLeDiff, Nat.reduceBEq, reduceCtorEq, e1], by simp -implicitDefEqProofs (disch := first | exact soD | fail) only [go_sem, ↓reduceIte, Nat.reduceEqDiff, Nat.reduceAdd, Nat.reduceLT, Nat.reduceLeDiff, Nat.reduceBEq, reduceCtorEq, e5], by simp -implicitDefEqProofs (disch := first | exact soD | fail) only [go_sem, ↓reduceIte, Nat.reduceEqDiff, Nat.reduceAdd, Nat.reduceLT, Nat.reduceLeDiff, Nat.reduceBEq, reduceCtorEq, e6], by simp -implicitDefEqProofs (disch := first | exact soD | fail) only [go_sem, ↓reduceIte, Nat.reduceEqDiff, Nat.reduceAdd, Nat.reduceLT, Nat.reduceLeDiff, Nat.reduceBEq, reduceCtorEq, e7], by simp -implicitDefEqProofs (disch := first | exact soD | fail) only [go_sem, ↓reduceIte, Nat.reduceEqDiff, Nat.reduceAdd, Nat.reduceLT, Nat.reduceLeDiff, Nat.reduceBEq, reduceCtorEq, e8], sxR⟩ (by omega)
    · rw [List.replicate_succ']
      refine SV.snoc (by rw [el, List.length_replicate]) (fun j a hj => ?_) ⟨.nils, rfl, .inl ⟨rfl, rfl⟩⟩ soA (by simp -implicitDefEqProofs (disch := first | exact soD | fail) only [go_sem, ↓reduceIte, Nat.reduceEqDiff, Nat.reduceAdd, Nat.reduceLT, Nat.reduceLeDiff, Nat.reduceBEq, reduceCtorEq]; exact gp)
      obtain ⟨e, h1, h2⟩ := ea j a hj
      exact ⟨e, h1, ((h2.frame FW (ow (by decide))).frame g5 (od (by decide))).frame (S := fun _ => False) frA off_none⟩
    · exact ((L.frame FW (ow (by decide)) (ow (by decide)) (ow (by decide))).frame g5 (od (by decide)) (od (by decide)) (od (by decide))).frame (S := fun _ => False) frA off_none off_none off_none
  · have : i = N := by omega
    subst this
    repeat' (first | simp -implicitDefEqProofs (disch := first | exact soD | fail) only [go_sem, ↓reduceIte, Nat.reduceEqDiff, Nat.reduceAdd, Nat.reduceLT, Nat.reduceLeDiff, Nat.reduceBEq, reduceCtorEq, e1, e5, e6, e7, e8, e9, g, o1, o2, o3, o4, q1, q2, q3, q4, Int.reduceEq] | ((with_reducible first | refine g_dec ?_ ?_ | refine c_dec ?_ ?_ | refine s_dec ?_ ?_ | refine g_ndec ?_ ?_ | refine c_ndec ?_ ?_ | refine g_nbool ?_ ?_ | refine c_nbool ?_ ?_ | refine g_bool ?_ ?_ | refine c_bool ?_ ?_ | refine s_bool ?_ ?_) <;> intro h d <;> (try simp only [d]) <;> (try simp only [B1, B2, B3, B4, B5, B6, B7, B8] at h) <;> (try omega)))
    refine (hE _ _).1 _ (hx _ _ ⟨soA, ⟨tv, fv, by simp -implicitDefEqProofs (disch := first | exact soD | fail) only [go_sem, ↓reduceIte, Nat.reduceEqDiff, Nat.reduceAdd, Nat.reduceLT, Nat.reduceLeDiff, Nat.reduceBEq, reduceCtorEq, g], T.frame (S := fun _ => False) frA off_none off_none, L.frame (S := fun _ => False) frA off_none off_none off_none⟩, by simp -implicitDefEqProofs (disch := first | exact soD | fail) only [go_sem, ↓reduceIte, Nat.reduceEqDiff, Nat.reduceAdd, Nat.reduceLT, Nat.reduceLeDiff, Nat.reduceBEq, reduceCtorEq, e1], by simp -implicitDefEqProofs (disch := first | exact soD | fail) only [go_sem, ↓reduceIte, Nat.reduceEqDiff, Nat.reduceAdd, Nat.reduceLT, Nat.reduceLeDiff, Nat.reduceBEq, reduceCtorEq, e5], by simp -implicitDefEqProofs (disch := first | exact soD | fail) only [go_sem, ↓reduceIte, Nat.reduceEqDiff, Nat.reduceAdd, Nat.reduceLT, Nat.reduceLeDiff, Nat.reduceBEq, reduceCtorEq, e6], by simp -implicitDefEqProofs (disch := first | exact soD | fail) only [go_sem, ↓reduceIte, Nat.reduceEqDiff, Nat.reduceAdd, Nat.reduceLT, Nat.reduceLeDiff, Nat.reduceBEq, reduceCtorEq, e7] <;> rfl, by simp -implicitDefEqProofs (disch := first | exact soD | fail) only [go_sem, ↓reduceIte, Nat.reduceEqDiff, Nat.reduceAdd, Nat.reduceLT, Nat.reduceLeDiff, Nat.reduceBEq, reduceCtorEq, e8] <;> rfl⟩)
/-- The loop that makes functions. -/
structure L1 (N P : Nat) (i : Nat) (env : AEnv) (w : AMem) : Prop where
  le : i ≤ N
  lt : P < w.next
  pg : ∃ tv fv, w.get P = some (.arr 25 2 [.agg [tv, fv]]) ∧ TL w tv (Ts [] []) ∧ FL w fv (List.replicate i F0)
  e1 : env 1 = avI N
  e5 : env 5 = .bool true
  e6 : env 6 = .ptr P 0 0
  e7 : env 7 = avI 1
  e8 : env 8 = avI 50
  e10 : env 10 = avI i
set_option maxHeartbeats 4000000 in
theorem counts_funcs {N P : Nat} (hN0 : N < 400) {Q : AOut → AMem → Prop} {K : Kont} {env : AEnv} {w : AMem} (hI : L1 N P 0 env w) (hx : ∀ env' w', CT (pc 3 N) N 1 50 P env' w' → Wp (K (.exit 3) env' w') Q) :
    Wp (loopN LOOPK (aCode (callsN cfg 60) lb8_1) env w K) Q := by
  refine wp_loop (L1 N P) (fun i => N - i) (fun i env w K' hI hN hE => ?_) LOOPK 0 _ _ hI (by rw [LOOPK_eq]; omega)
  obtain ⟨le, lt, ⟨tv, fv, g, T, L⟩, e1, e5, e6, e7, e8, e10⟩ := hI
  obtain ⟨_, O, _⟩ := T.ov
  obtain ⟨o1, o2, o3, o4, o5⟩ := O.flat
  obtain ⟨es, OF, el, ea⟩ := L.ov
  rw [List.length_replicate] at el
  obtain ⟨q1, q2, q3, q4, q5⟩ := OF.flat
  unfold lb8_1
  by_cases c : i < N
  · repeat' (first | simp -implicitDefEqProofs (disch := first | exact soD | fail) only [go_sem, ↓reduceIte, Nat.reduceEqDiff, Nat.reduceAdd, Nat.reduceLT, Nat.reduceLeDiff, Nat.reduceBEq, reduceCtorEq, e1, e5, e6, e7, e8, e10, g, o1, o2, o3, o4, q1, q2, q3, q4, Int.reduceEq] | ((with_reducible first | refine g_dec ?_ ?_ | refine c_dec ?_ ?_ | refine s_dec ?_ ?_ | refine g_ndec ?_ ?_ | refine c_ndec ?_ ?_ | refine g_nbool ?_ ?_ | refine c_nbool ?_ ?_ | refine g_bool ?_ ?_ | refine c_bool ?_ ?_ | refine s_bool ?_ ?_) <;> intro h d <;> (try simp only [d]) <;> (try simp only [B1, B2, B3, B4, B5, B6, B7, B8] at h) <;> (try omega)))
    refine app_wp (OF.frame (S := fun _ => False) frA off_none) soA (by omega) (fun p f4 gp lp => ?_)
    have nsP : ¬ SId fv P := OF.ne g (by decide)
    have gP := f4.get (id := P) (by simp -implicitDefEqProofs (disch := first | exact soD | fail) only [go_sem, ↓reduceIte, Nat.reduceEqDiff, Nat.reduceAdd, Nat.reduceLT, Nat.reduceLeDiff, Nat.reduceBEq, reduceCtorEq]; exact g) soA (fun c => c.elim nsP (fun e => by omega))
    repeat' (first | simp -implicitDefEqProofs (disch := first | exact soD | fail) only [go_sem, ↓reduceIte, Nat.reduceEqDiff, Nat.reduceAdd, Nat.reduceLT, Nat.reduceLeDiff, Nat.reduceBEq, reduceCtorEq, e1, e5, e6, e7, e8, e10, gP, o1, o2, o3, o4, q1, q2, q3, q4, Int.reduceEq] | ((with_reducible first | refine g_dec ?_ ?_ | refine c_dec ?_ ?_ | refine s_dec ?_ ?_ | refine g_ndec ?_ ?_ | refine c_ndec ?_ ?_ | refine g_nbool ?_ ?_ | refine c_nbool ?_ ?_ | refine g_bool ?_ ?_ | refine c_bool ?_ ?_ | refine s_bool ?_ ?_) <;> intro h d <;> (try simp only [d]) <;> (try simp only [B1, B2, B3, B4, B5, B6, B7, B8] at h) <;> (try omega)))
    have FW : Fr (fun y => SId fv y ∨ y = w.next + 3 + 6) w p := Fr.trans frA f4
    have wp := FW.next
    have ow : ∀ {t : Nat}, t ≠ 48 → Off (fun y => SId fv y ∨ y = w.next + 3 + 6) w t := fun h => off_or (OF.off h) (off_gone (w.wf _ (by omega)))
    have g5 : ∀ {O}, Fr (fun x => x = P) p (p.put P O) := Fr.put (S := fun x => x = P) Fr.refl _ (.inr rfl)
    have od : ∀ {t : Nat}, t ≠ 25 → Off (fun x => x = P) p t := fun h => off_eq gP (fun e => h e.symm)
    have gc := f4.get (id := w.next + 3 + 3) (o := .arr 45 3 [.agg [avI 37, avI 0, avI 0]]) sxA soA (fun c => c.elim (fun h => by have := OF.lt h; omega) (fun e => by omega))
    refine hN (i + 1) _ _ ⟨by omega, soA, ⟨tv, .sl 4 (w.next + 3 + 6) 0 (es.length + 1), sxA, ?_, ?_⟩, by simp -implicitDefEqProofs (disch := first | exact soD | fail) only [go_sem, ↓reduceIte, Nat.reduceEqDiff, Nat.reduceAdd, Nat.reduceLT, Nat.reduceLeDiff, Nat.reduceBEq, reduceCtorEq, e1], by simp -implicitDefEqProofs (disch := first | exact soD | fail) only [go_sem, ↓reduceIte, Nat.reduceEqDiff, Nat.reduceAdd, Nat.reduceLT, Nat.reduceLeDiff, Nat.reduceBEq, reduceCtorEq, e5], by simp -implicitDefEqProofs (disch := first | exact soD | fail) only [go_sem, ↓reduceIte, Nat.reduceEqDiff, Nat.reduceAdd, Nat.reduceLT, Nat.reduceLeDiff, Nat.reduceBEq, reduceCtorEq, e6], by simp -implicitDefEqProofs (disch := first | exact soD | fail) only [go_sem, ↓reduceIte, Nat.reduceEqDiff, Nat.reduceAdd, Nat.reduceLT, Nat.reduceLeDiff, Nat.reduceBEq, reduceCtorEq, e7], by simp -implicitDefEqProofs (disch := first | exact soD | fail) only [go_sem, ↓reduceIte, Nat.reduceEqDiff, Nat.reduceAdd, Nat.reduceLT, Nat.reduceLeDiff, Nat.reduceBEq, reduceCtorEq, e8], sxR⟩ (by omega)
    · exact ((T.frame FW (ow (by decide)) (ow (by decide))).frame g5 (od (by decide)) (od (by decide))).frame (S := fun _ => False) frA off_none off_none
    · rw [List.replicate_succ']
      refine SV.snoc (by rw [el, List.length_replicate]) (fun j a hj => ?_) ⟨.nils, .sl 3 (w.next + 3 + 3) 0 1, rfl, .inl ⟨rfl, rfl⟩, SV.of1 soA (by simp -implicitDefEqProofs (disch := first | exact soD | fail) only [go_sem, ↓reduceIte, Nat.reduceEqDiff, Nat.reduceAdd, Nat.reduceLT, Nat.reduceLeDiff, Nat.reduceBEq, reduceCtorEq]; exact gc) rfl⟩ soA (by simp -implicitDefEqProofs (disch := first | exact soD | fail) only [go_sem, ↓reduceIte, Nat.reduceEqDiff, Nat.reduceAdd, Nat.reduceLT, Nat.reduceLeDiff, Nat.reduceBEq, reduceCtorEq]; exact gp)
      obtain ⟨e, h1, h2⟩ := ea j a hj
      exact ⟨e, h1, ((h2.frame FW (ow (by decide)) (ow (by decide))).frame g5 (od (by decide)) (od (by decide))).frame (S := fun _ => False) frA off_none off_none⟩
  · have : i = N := by omega
    subst this
    repeat' (first | simp -implicitDefEqProofs (disch := first | exact soD | fail) only [go_sem, ↓reduceIte, Nat.reduceEqDiff, Nat.reduceAdd, Nat.reduceLT, Nat.reduceLeDiff, Nat.reduceBEq, reduceCtorEq, e1, e5, e6, e7, e8, e10, g, o1, o2, o3, o4, q1, q2, q3, q4, Int.reduceEq] | ((with_reducible first | refine g_dec ?_ ?_ | refine c_dec ?_ ?_ | refine s_dec ?_ ?_ | refine g_ndec ?_ ?_ | refine c_ndec ?_ ?_ | refine g_nbool ?_ ?_ | refine c_nbool ?_ ?_ | refine g_bool ?_ ?_ | refine c_bool ?_ ?_ | refine s_bool ?_ ?_) <;> intro h d <;> (try simp only [d]) <;> (try simp only [B1, B2, B3, B4, B5, B6, B7, B8] at h) <;> (try omega)))
    refine (hE _ _).1 _ (hx _ _ ⟨soA, ⟨tv, fv, by simp -implicitDefEqProofs (disch := first | exact soD | fail) only [go_sem, ↓reduceIte, Nat.reduceEqDiff, Nat.reduceAdd, Nat.reduceLT, Nat.reduceLeDiff, Nat.reduceBEq, reduceCtorEq, g], T.frame (S := fun _ => False) frA off_none off_none, L.frame (S := fun _ => False) frA off_none off_none off_none⟩, by simp -implicitDefEqProofs (disch := first | exact soD | fail) only [go_sem, ↓reduceIte, Nat.reduceEqDiff, Nat.reduceAdd, Nat.reduceLT, Nat.reduceLeDiff, Nat.reduceBEq, reduceCtorEq, e1], by simp -implicitDefEqProofs (disch := first | exact soD | fail) only [go_sem, ↓reduceIte, Nat.reduceEqDiff, Nat.reduceAdd, Nat.reduceLT, Nat.reduceLeDiff, Nat.reduceBEq, reduceCtorEq, e5], by simp -implicitDefEqProofs (disch := first | exact soD | fail) only [go_sem, ↓reduceIte, Nat.reduceEqDiff, Nat.reduceAdd, Nat.reduceLT, Nat.reduceLeDiff, Nat.reduceBEq, reduceCtorEq, e6], by simp -implicitDefEqProofs (disch := first | exact soD | fail) only [go_sem, ↓reduceIte, Nat.reduceEqDiff, Nat.reduceAdd, Nat.reduceLT, Nat.reduceLeDiff, Nat.reduceBEq, reduceCtorEq, e7] <;> rfl, by simp -implicitDefEqProofs (disch := first | exact soD | fail) only [go_sem, ↓reduceIte, Nat.reduceEqDiff, Nat.reduceAdd, Nat.reduceLT, Nat.reduceLeDiff, Nat.reduceBEq, reduceCtorEq, e8] <;> rfl⟩)
theorem mkCT {p : GP} {N lst mst P : Nat} {env : AEnv} {w : AMem} {tv fv : AV} (e6 : env 6 = .ptr P 0 0) (g : w.get P = some (.arr 25 2 [.agg [tv, fv]])) (lt : P < w.next) (T : TL w tv p.types) (L : FL w fv p.funcs)
    (e1 : env 1 = avI N) (e5 : env 5 = .bool true) (e7 : env 7 = avI lst) (e8 : env 8 = avI mst) : CT p N lst mst P env w := ⟨lt, ⟨tv, fv, g, T, L⟩, e1, e5, e6, e7, e8⟩
theorem gt_wf {k o : Int} {ps : List Int} (hk : 0 ≤ k ∧ k < 100) (ho : 0 ≤ o ∧ o < 100) (hl : ps.length ≤ 400) (hp : ∀ z ∈ ps, z = 0) : GT.wf ⟨k, ps, o⟩ := by
  have hm : maxLen = 9223372036854775807 := rfl
  exact ⟨i64_iff.2 ⟨by show _ ≤ k; omega, by show k ≤ _; omega⟩, by show ps.length ≤ _; omega, fun z hz => by rw [hp z hz]; exact i64_iff.2 ⟨by decide, by decide⟩, i64_iff.2 ⟨by show _ ≤ o; omega, by show o ≤ _; omega⟩⟩
theorem gf_wf {lo : Int} {ps : List Int} {cs : List GI} (ho : 0 ≤ lo ∧ lo < 1000) (hl : ps.length ≤ 400) (hp : ∀ z ∈ ps, z = 0) (hc : cs.length ≤ 400) (hi : ∀ i ∈ cs, 0 ≤ i.op ∧ i.op < 100 ∧ -1000 ≤ i.a ∧ i.a < 1000 ∧ i.b = 0) : GF.wf ⟨ps, 0, lo, cs⟩ := by
  have hm : maxLen = 9223372036854775807 := rfl
  refine ⟨by show ps.length ≤ _; omega, fun z hz => by rw [hp z hz]; exact i64_iff.2 ⟨by decide, by decide⟩, i64_iff.2 ⟨by show (-9223372036854775808 : Int) ≤ 0; decide, by show (0 : Int) ≤ 9223372036854775807; decide⟩, i64_iff.2 ⟨by show _ ≤ lo; omega, by show lo ≤ _; omega⟩, by show cs.length ≤ _; omega, fun i hi' => ?_⟩
  have := hi i hi'
  exact ⟨i64_iff.2 ⟨by omega, by omega⟩, i64_iff.2 ⟨by omega, by omega⟩, i64_iff.2 ⟨by omega, by omega⟩⟩
theorem wf_bnd {p : GP} (h : p.types.length ≤ 400 ∧ p.funcs.length ≤ 400) (ht : ∀ x ∈ p.types, x.parts.length ≤ 400) (hf : ∀ x ∈ p.funcs, x.params.length ≤ 400 ∧ x.code.length ≤ 400) : p.bnd :=
  ⟨by omega, fun x hx => by have := ht x hx; omega, by omega, fun x hx => by have := (hf x hx).1; omega, fun x hx => by have := (hf x hx).2; omega⟩
/-- All of a list of two. -/
theorem all2 {α : Type} {P : α → Prop} {a b : α} (ha : P a) (hb : P b) : ∀ x ∈ [a, b], P x := fun x hx => by
  rcases List.mem_cons.1 hx with rfl | hx
  · exact ha
  · rcases List.mem_cons.1 hx with rfl | hx
    · exact hb
    · cases hx
theorem allr {α : Type} {P : α → Prop} {a : α} {n : Nat} (ha : P a) : ∀ x ∈ List.replicate n a, P x := fun x hx => by rw [List.eq_of_mem_replicate hx]; exact ha
theorem none0 : ∀ z ∈ ([] : List Int), z = 0 := fun _ h => by cases h
theorem F0_wf : F0.wf := gf_wf (by decide) (by decide) none0 (by decide) fun i hi => by
  rcases List.mem_cons.1 hi with rfl | hi
  · decide
  · cases hi
theorem one37 : ∀ i ∈ ([⟨37, 0, 0⟩] : List GI), 0 ≤ i.op ∧ i.op < 100 ∧ -1000 ≤ i.a ∧ i.a < 1000 ∧ i.b = 0 := fun i hi => by
  rcases List.mem_cons.1 hi with rfl | hi
  · decide
  · cases hi
theorem jumps_ok {n : Nat} (hn : n < 400) : ∀ i ∈ jumps n, 0 ≤ i.op ∧ i.op < 100 ∧ -1000 ≤ i.a ∧ i.a < 1000 ∧ i.b = 0 := fun i hi => by
  rcases List.mem_or_eq_of_mem_set hi with h | h
  · rw [List.eq_of_mem_replicate h]; decide
  · rw [h]
    refine ⟨by show (0 : Int) ≤ 18; decide, by show (18 : Int) < 100; decide, ?_, ?_, rfl⟩
    · show (-1000 : Int) ≤ (n : Int) - 1; omega
    · show (n : Int) - 1 < 1000; omega
theorem zeros_0 (n : Nat) : ∀ z ∈ zeros n, z = 0 := fun z hz => List.eq_of_mem_replicate hz
theorem pc_good {w n : Nat} (hw : w < 7) (hn : n < 400) : (pc w n).wf ∧ (pc w n).bnd := by
  have hm : maxLen = 9223372036854775807 := rfl
  have hz : (zeros n).length ≤ 400 := by rw [List.length_replicate]; omega
  have g1 : ∀ ps, (ps.length ≤ 400) → (∀ z ∈ ps, z = 0) → GT.wf ⟨2, ps, 0⟩ := fun ps h1 h2 => gt_wf (by decide) (by decide) h1 h2
  have g2 : ∀ ps, (ps.length ≤ 400) → (∀ z ∈ ps, z = 0) → GT.wf ⟨4, ps, 0⟩ := fun ps h1 h2 => gt_wf (by decide) (by decide) h1 h2
  have n0 : ([] : List Int).length ≤ 400 := by decide
  have z1 : ([0] : List Int).length ≤ 400 := by decide
  have k1 : ([⟨37, 0, 0⟩] : List GI).length ≤ 400 := by decide
  have kj : (jumps n).length ≤ 400 := by rw [List.length_set, List.length_replicate]; omega
  have e2 : ∀ {α : Type} {a b : α}, [a, b].length ≤ maxLen := by intros; rw [hm]; simp
  have e4 : ∀ {α : Type} {a b : α}, [a, b].length ≤ 400 := by intros; simp
  have r2 : ∀ {α : Type} {a : α}, (List.replicate n a).length ≤ maxLen := by intros; rw [List.length_replicate]; omega
  have r4 : ∀ {α : Type} {a : α}, (List.replicate n a).length ≤ 400 := by intros; rw [List.length_replicate]; omega
  rcases (by omega : w = 0 ∨ w = 1 ∨ w = 2 ∨ w = 3 ∨ w = 4 ∨ w = 5 ∨ w = 6) with h | h | h | h | h | h | h <;> subst h
  · exact ⟨⟨r2, allr (gt_wf (by decide) (by decide) n0 none0), e2, all2 F0_wf F0_wf⟩, wf_bnd ⟨r4, e4⟩ (allr n0) (all2 ⟨n0, k1⟩ ⟨n0, k1⟩)⟩
  · exact ⟨⟨e2, all2 (g1 _ hz (zeros_0 n)) (g2 _ n0 none0), e2, all2 F0_wf F0_wf⟩, wf_bnd ⟨e4, e4⟩ (all2 hz n0) (all2 ⟨n0, k1⟩ ⟨n0, k1⟩)⟩
  · exact ⟨⟨e2, all2 (g1 _ n0 none0) (g2 _ hz (zeros_0 n)), e2, all2 F0_wf F0_wf⟩, wf_bnd ⟨e4, e4⟩ (all2 n0 hz) (all2 ⟨n0, k1⟩ ⟨n0, k1⟩)⟩
  · exact ⟨⟨e2, all2 (g1 _ n0 none0) (g2 _ n0 none0), r2, allr F0_wf⟩, wf_bnd ⟨e4, r4⟩ (all2 n0 n0) (allr ⟨n0, k1⟩)⟩
  · exact ⟨⟨e2, all2 (g1 _ n0 none0) (g2 _ n0 none0), e2, all2 F0_wf (gf_wf (by decide) hz (zeros_0 n) k1 one37)⟩, wf_bnd ⟨e4, e4⟩ (all2 n0 n0) (all2 ⟨n0, k1⟩ ⟨hz, k1⟩)⟩
  · exact ⟨⟨e2, all2 (g1 _ n0 none0) (g2 _ n0 none0), e2, all2 F0_wf (gf_wf (by omega) z1 (fun z hz => by simpa using hz) k1 one37)⟩, wf_bnd ⟨e4, e4⟩ (all2 n0 n0) (all2 ⟨n0, k1⟩ ⟨z1, k1⟩)⟩
  · exact ⟨⟨e2, all2 (g1 _ n0 none0) (g2 _ n0 none0), e2, all2 F0_wf (gf_wf (by decide) n0 none0 kj (jumps_ok hn))⟩, wf_bnd ⟨e4, e4⟩ (all2 n0 n0) (all2 ⟨n0, k1⟩ ⟨n0, kj⟩)⟩
theorem mkL0 {N P : Nat} {env : AEnv} {w : AMem} {tv fv : AV} (e6 : env 6 = .ptr P 0 0) (g : w.get P = some (.arr 25 2 [.agg [tv, fv]])) (lt : P < w.next) (T : TL w tv []) (L : FL w fv [F0, F0])
    (e1 : env 1 = avI N) (e5 : env 5 = .bool true) (e7 : env 7 = avI 0) (e8 : env 8 = avI 60) (e9 : env 9 = avI 0) : L0 N P 0 env w := ⟨Nat.zero_le _, lt, ⟨tv, fv, g, T, L⟩, e1, e5, e6, e7, e8, e9⟩
theorem mkL1 {N P : Nat} {env : AEnv} {w : AMem} {tv fv : AV} (e6 : env 6 = .ptr P 0 0) (g : w.get P = some (.arr 25 2 [.agg [tv, fv]])) (lt : P < w.next) (T : TL w tv (Ts [] [])) (L : FL w fv [])
    (e1 : env 1 = avI N) (e5 : env 5 = .bool true) (e7 : env 7 = avI 1) (e8 : env 8 = avI 50) (e10 : env 10 = avI 0) : L1 N P 0 env w := ⟨Nat.zero_le _, lt, ⟨tv, fv, g, T, L⟩, e1, e5, e6, e7, e8, e10⟩
theorem sv_map {α : Type} {t sz id : Nat} {m : AMem} {l : List α} {av : α → AV} (h1 : id < m.next) (h2 : m.get id = some (.arr t sz (l.map av))) : SV t sz (fun e (x : α) => e = av x) m (.sl sz id 0 l.length) l :=
  .inr ⟨id, _, rfl, h1, h2, by simp, fun j a hj => ⟨av a, by rw [List.getElem?_map, hj]; rfl, rfl⟩⟩
theorem cv_jumps {m : AMem} {id N : Nat} (h1 : id < m.next) (h2 : m.get id = some (.arr 45 3 ((List.replicate N (.agg [avI 0, avI 0, avI 0])).set (N - 1) (.agg [avI 18, avI ((N : Int) - 1), avI 0])))) : CV m (.sl 3 id 0 N) (jumps N) := by
  have := sv_map (l := jumps N) (av := GI.av) h1 (by rw [h2, List.map_set, List.map_replicate])
  rwa [List.length_set, List.length_replicate] at this
set_option maxHeartbeats 8000000 in
theorem law_ImageCounts (wh n : Int) (h1 : i64 wh) (h2 : i64 n) : ∃ m', callsN cfg 61 8 [avI wh, avI n] .empty = some (.ret (.bool true), m') := by
  rw [i64_iff] at h1 h2
  have key : Wp (aBody (callsN cfg 60) cf8 [avI wh, avI n] .empty) fun o m' => o = .ret (.bool true) := by
    unfold aBody cf8
    obtain ⟨c, hc⟩ : ∃ c : Int, (c = wh ∧ 0 ≤ wh) ∨ (c = 0 - (wh + 1) ∧ wh < 0) := by
      by_cases h : 0 ≤ wh
      · exact ⟨wh, .inl ⟨rfl, h⟩⟩
      · exact ⟨_, .inr ⟨rfl, by omega⟩⟩
    obtain ⟨d, hd⟩ : ∃ c : Int, (c = n ∧ 0 ≤ n) ∨ (c = 0 - (n + 1) ∧ n < 0) := by
      by_cases h : 0 ≤ n
      · exact ⟨n, .inl ⟨rfl, h⟩⟩
      · exact ⟨_, .inr ⟨rfl, by omega⟩⟩
    obtain ⟨W, hW, hW7⟩ := rem_nat (c := c) (L := 7) (by omega) (by omega)
    obtain ⟨N, hN, hN400⟩ := rem_nat (c := d) (L := 400) (by omega) (by omega)
    have hN : aBin .rem (.int .i64 d) (.int .i64 400) = some (.int .i64 (N : Int)) := hN
    have hW : aBin .rem (.int .i64 c) (.int .i64 7) = some (.int .i64 (W : Int)) := hW
    have hrok := pc_rok hW7 hN400
    have hgd := pc_good hW7 hN400
    rcases (by omega : W = 0 ∨ W = 1 ∨ W = 2 ∨ W = 3 ∨ W = 4 ∨ W = 5 ∨ W = 6) with h | h | h | h | h | h | h <;> subst h
    · have hW : aBin .rem (.int .i64 c) (.int .i64 7) = some (.int .i64 0) := hW
      rcases hc with ⟨rfl, hc⟩ | ⟨rfl, hc⟩ <;> rcases hd with ⟨rfl, hd⟩ | ⟨rfl, hd⟩
      all_goals (
        repeat' (first | simp -implicitDefEqProofs (disch := first | exact soD | fail) only [go_sem, ↓reduceIte, Nat.reduceEqDiff, Nat.reduceAdd, Nat.reduceLT, Nat.reduceLeDiff, Nat.reduceBEq, reduceCtorEq, shown_ok, hW, hN, Int.reduceEq, Int.reduceToNat] | ((with_reducible first | refine g_dec ?_ ?_ | refine c_dec ?_ ?_ | refine s_dec ?_ ?_ | refine g_ndec ?_ ?_ | refine c_ndec ?_ ?_ | refine g_nbool ?_ ?_ | refine c_nbool ?_ ?_ | refine g_bool ?_ ?_ | refine c_bool ?_ ?_ | refine s_bool ?_ ?_) <;> intro h d <;> (try simp only [d]) <;> (try simp only [B1, B2, B3, B4, B5, B6, B7, B8] at h) <;> (try omega)))
        refine counts_types hN400 (mkL0 rfl rfl soA (.inl ⟨rfl, rfl⟩) (SV.of2 soA rfl ⟨.nils, _, rfl, .inl ⟨rfl, rfl⟩, SV.of1 soA rfl rfl⟩ ⟨.nils, _, rfl, .inl ⟨rfl, rfl⟩, SV.of1 soA rfl rfl⟩) rfl rfl rfl rfl rfl) (fun env' w' hCT => ?_)
        simp -implicitDefEqProofs (disch := first | exact soD | fail) only [go_sem, ↓reduceIte, Nat.reduceEqDiff, Nat.reduceAdd, Nat.reduceLT, Nat.reduceLeDiff, Nat.reduceBEq, reduceCtorEq]
        exact counts_end hrok hgd.1 hgd.2 hCT)
    · have hW : aBin .rem (.int .i64 c) (.int .i64 7) = some (.int .i64 1) := hW
      rcases hc with ⟨rfl, hc⟩ | ⟨rfl, hc⟩ <;> rcases hd with ⟨rfl, hd⟩ | ⟨rfl, hd⟩
      all_goals (
        repeat' (first | simp -implicitDefEqProofs (disch := first | exact soD | fail) only [go_sem, ↓reduceIte, Nat.reduceEqDiff, Nat.reduceAdd, Nat.reduceLT, Nat.reduceLeDiff, Nat.reduceBEq, reduceCtorEq, shown_ok, hW, hN, Int.reduceEq, Int.reduceToNat] | ((with_reducible first | refine g_dec ?_ ?_ | refine c_dec ?_ ?_ | refine s_dec ?_ ?_ | refine g_ndec ?_ ?_ | refine c_ndec ?_ ?_ | refine g_nbool ?_ ?_ | refine c_nbool ?_ ?_ | refine g_bool ?_ ?_ | refine c_bool ?_ ?_ | refine s_bool ?_ ?_) <;> intro h d <;> (try simp only [d]) <;> (try simp only [B1, B2, B3, B4, B5, B6, B7, B8] at h) <;> (try omega)))
        exact counts_end (p := pc 1 N) (N := N) (lst := 0) (mst := 12) hrok hgd.1 hgd.2 (mkCT rfl rfl soA (SV.of2 soA rfl ⟨_, rfl, nv_zeros soA sxA⟩ ⟨.nils, rfl, .inl ⟨rfl, rfl⟩⟩) (SV.of2 soA rfl ⟨.nils, _, rfl, .inl ⟨rfl, rfl⟩, SV.of1 soA rfl rfl⟩ ⟨.nils, _, rfl, .inl ⟨rfl, rfl⟩, SV.of1 soA rfl rfl⟩) rfl rfl rfl rfl))
    · have hW : aBin .rem (.int .i64 c) (.int .i64 7) = some (.int .i64 2) := hW
      rcases hc with ⟨rfl, hc⟩ | ⟨rfl, hc⟩ <;> rcases hd with ⟨rfl, hd⟩ | ⟨rfl, hd⟩
      all_goals (
        repeat' (first | simp -implicitDefEqProofs (disch := first | exact soD | fail) only [go_sem, ↓reduceIte, Nat.reduceEqDiff, Nat.reduceAdd, Nat.reduceLT, Nat.reduceLeDiff, Nat.reduceBEq, reduceCtorEq, shown_ok, hW, hN, Int.reduceEq, Int.reduceToNat] | ((with_reducible first | refine g_dec ?_ ?_ | refine c_dec ?_ ?_ | refine s_dec ?_ ?_ | refine g_ndec ?_ ?_ | refine c_ndec ?_ ?_ | refine g_nbool ?_ ?_ | refine c_nbool ?_ ?_ | refine g_bool ?_ ?_ | refine c_bool ?_ ?_ | refine s_bool ?_ ?_) <;> intro h d <;> (try simp only [d]) <;> (try simp only [B1, B2, B3, B4, B5, B6, B7, B8] at h) <;> (try omega)))
        exact counts_end (p := pc 2 N) (N := N) (lst := 0) (mst := 6) hrok hgd.1 hgd.2 (mkCT rfl rfl soA (SV.of2 soA rfl ⟨.nils, rfl, .inl ⟨rfl, rfl⟩⟩ ⟨_, rfl, nv_zeros soA sxA⟩) (SV.of2 soA rfl ⟨.nils, _, rfl, .inl ⟨rfl, rfl⟩, SV.of1 soA rfl rfl⟩ ⟨.nils, _, rfl, .inl ⟨rfl, rfl⟩, SV.of1 soA rfl rfl⟩) rfl rfl rfl rfl))
    · have hW : aBin .rem (.int .i64 c) (.int .i64 7) = some (.int .i64 3) := hW
      rcases hc with ⟨rfl, hc⟩ | ⟨rfl, hc⟩ <;> rcases hd with ⟨rfl, hd⟩ | ⟨rfl, hd⟩
      all_goals (
        repeat' (first | simp -implicitDefEqProofs (disch := first | exact soD | fail) only [go_sem, ↓reduceIte, Nat.reduceEqDiff, Nat.reduceAdd, Nat.reduceLT, Nat.reduceLeDiff, Nat.reduceBEq, reduceCtorEq, shown_ok, hW, hN, Int.reduceEq, Int.reduceToNat] | ((with_reducible first | refine g_dec ?_ ?_ | refine c_dec ?_ ?_ | refine s_dec ?_ ?_ | refine g_ndec ?_ ?_ | refine c_ndec ?_ ?_ | refine g_nbool ?_ ?_ | refine c_nbool ?_ ?_ | refine g_bool ?_ ?_ | refine c_bool ?_ ?_ | refine s_bool ?_ ?_) <;> intro h d <;> (try simp only [d]) <;> (try simp only [B1, B2, B3, B4, B5, B6, B7, B8] at h) <;> (try omega)))
        refine counts_funcs hN400 (mkL1 rfl rfl soA (SV.of2 soA rfl ⟨.nils, rfl, .inl ⟨rfl, rfl⟩⟩ ⟨.nils, rfl, .inl ⟨rfl, rfl⟩⟩) (.inl ⟨rfl, rfl⟩) rfl rfl rfl rfl rfl) (fun env' w' hCT => ?_)
        simp -implicitDefEqProofs (disch := first | exact soD | fail) only [go_sem, ↓reduceIte, Nat.reduceEqDiff, Nat.reduceAdd, Nat.reduceLT, Nat.reduceLeDiff, Nat.reduceBEq, reduceCtorEq]
        exact counts_end hrok hgd.1 hgd.2 hCT)
    · have hW : aBin .rem (.int .i64 c) (.int .i64 7) = some (.int .i64 4) := hW
      rcases hc with ⟨rfl, hc⟩ | ⟨rfl, hc⟩ <;> rcases hd with ⟨rfl, hd⟩ | ⟨rfl, hd⟩
      all_goals (
        repeat' (first | simp -implicitDefEqProofs (disch := first | exact soD | fail) only [go_sem, ↓reduceIte, Nat.reduceEqDiff, Nat.reduceAdd, Nat.reduceLT, Nat.reduceLeDiff, Nat.reduceBEq, reduceCtorEq, shown_ok, hW, hN, Int.reduceEq, Int.reduceToNat] | ((with_reducible first | refine g_dec ?_ ?_ | refine c_dec ?_ ?_ | refine s_dec ?_ ?_ | refine g_ndec ?_ ?_ | refine c_ndec ?_ ?_ | refine g_nbool ?_ ?_ | refine c_nbool ?_ ?_ | refine g_bool ?_ ?_ | refine c_bool ?_ ?_ | refine s_bool ?_ ?_) <;> intro h d <;> (try simp only [d]) <;> (try simp only [B1, B2, B3, B4, B5, B6, B7, B8] at h) <;> (try omega)))
        exact counts_end (p := pc 4 N) (N := N) (lst := 0) (mst := 16) hrok hgd.1 hgd.2 (mkCT rfl rfl soA (SV.of2 soA rfl ⟨.nils, rfl, .inl ⟨rfl, rfl⟩⟩ ⟨.nils, rfl, .inl ⟨rfl, rfl⟩⟩) (SV.of2 soA rfl ⟨.nils, _, rfl, .inl ⟨rfl, rfl⟩, SV.of1 soA rfl rfl⟩ ⟨_, _, rfl, nv_zeros soA sxA, SV.of1 soA rfl rfl⟩) rfl rfl rfl rfl))
    · have hW : aBin .rem (.int .i64 c) (.int .i64 7) = some (.int .i64 5) := hW
      rcases hc with ⟨rfl, hc⟩ | ⟨rfl, hc⟩ <;> rcases hd with ⟨rfl, hd⟩ | ⟨rfl, hd⟩
      all_goals (
        repeat' (first | simp -implicitDefEqProofs (disch := first | exact soD | fail) only [go_sem, ↓reduceIte, Nat.reduceEqDiff, Nat.reduceAdd, Nat.reduceLT, Nat.reduceLeDiff, Nat.reduceBEq, reduceCtorEq, shown_ok, hW, hN, Int.reduceEq, Int.reduceToNat] | ((with_reducible first | refine g_dec ?_ ?_ | refine c_dec ?_ ?_ | refine s_dec ?_ ?_ | refine g_ndec ?_ ?_ | refine c_ndec ?_ ?_ | refine g_nbool ?_ ?_ | refine c_nbool ?_ ?_ | refine g_bool ?_ ?_ | refine c_bool ?_ ?_ | refine s_bool ?_ ?_) <;> intro h d <;> (try simp only [d]) <;> (try simp only [B1, B2, B3, B4, B5, B6, B7, B8] at h) <;> (try omega)))
        exact counts_end (p := pc 5 N) (N := N) (lst := 0) (mst := 31) hrok hgd.1 hgd.2 (mkCT rfl rfl soA (SV.of2 soA rfl ⟨.nils, rfl, .inl ⟨rfl, rfl⟩⟩ ⟨.nils, rfl, .inl ⟨rfl, rfl⟩⟩) (SV.of2 soA rfl ⟨.nils, _, rfl, .inl ⟨rfl, rfl⟩, SV.of1 soA rfl rfl⟩ ⟨_, _, rfl, SV.of1 soA rfl rfl, SV.of1 soA rfl rfl⟩) rfl rfl rfl rfl))
    · have hW : aBin .rem (.int .i64 c) (.int .i64 7) = some (.int .i64 6) := hW
      by_cases c0 : N = 0
      · subst c0
        have dz : decide (0 < ((0 : Nat) : Int)) = false := rfl
        rcases hc with ⟨rfl, hc⟩ | ⟨rfl, hc⟩ <;> rcases hd with ⟨rfl, hd⟩ | ⟨rfl, hd⟩
        all_goals (
          repeat' (first | simp -implicitDefEqProofs (disch := first | exact soD | fail) only [go_sem, ↓reduceIte, Nat.reduceEqDiff, Nat.reduceAdd, Nat.reduceLT, Nat.reduceLeDiff, Nat.reduceBEq, reduceCtorEq, shown_ok, hW, hN, dz, Int.reduceEq, Int.reduceToNat] | ((with_reducible first | refine g_dec ?_ ?_ | refine c_dec ?_ ?_ | refine s_dec ?_ ?_ | refine g_ndec ?_ ?_ | refine c_ndec ?_ ?_ | refine g_nbool ?_ ?_ | refine c_nbool ?_ ?_ | refine g_bool ?_ ?_ | refine c_bool ?_ ?_ | refine s_bool ?_ ?_) <;> intro h d <;> (try simp only [d]) <;> (try simp only [B1, B2, B3, B4, B5, B6, B7, B8] at h) <;> (try omega)))
          exact counts_end (p := pc 6 0) (N := 0) (lst := 1) (mst := 300) hrok hgd.1 hgd.2 (mkCT rfl rfl soA (SV.of2 soA rfl ⟨.nils, rfl, .inl ⟨rfl, rfl⟩⟩ ⟨.nils, rfl, .inl ⟨rfl, rfl⟩⟩) (SV.of2 soA rfl ⟨.nils, _, rfl, .inl ⟨rfl, rfl⟩, SV.of1 soA rfl rfl⟩ ⟨.nils, _, rfl, .inl ⟨rfl, rfl⟩, cv_jumps soA rfl⟩) rfl rfl rfl rfl))
      · have hget : (List.replicate N (AV.agg [avI 0, avI 0, avI 0]))[((N : Int) - 1).toNat]? = some (.agg [avI 0, avI 0, avI 0]) := by rw [List.getElem?_replicate, if_pos (by omega)]
        have hnn : ((N : Int) - 1).toNat = N - 1 := by omega
        have dz : decide (0 < (N : Int)) = true := decide_eq_true (by omega)
        rcases hc with ⟨rfl, hc⟩ | ⟨rfl, hc⟩ <;> rcases hd with ⟨rfl, hd⟩ | ⟨rfl, hd⟩
        all_goals (
          repeat' (first | simp -implicitDefEqProofs (disch := first | exact soD | fail) only [go_sem, ↓reduceIte, Nat.reduceEqDiff, Nat.reduceAdd, Nat.reduceLT, Nat.reduceLeDiff, Nat.reduceBEq, reduceCtorEq, shown_ok, hW, hN, hget, dz, Int.reduceEq, Int.reduceToNat] | ((with_reducible first | refine g_dec ?_ ?_ | refine c_dec ?_ ?_ | refine s_dec ?_ ?_ | refine g_ndec ?_ ?_ | refine c_ndec ?_ ?_ | refine g_nbool ?_ ?_ | refine c_nbool ?_ ?_ | refine g_bool ?_ ?_ | refine c_bool ?_ ?_ | refine s_bool ?_ ?_) <;> intro h d <;> (try simp only [d]) <;> (try simp only [B1, B2, B3, B4, B5, B6, B7, B8] at h) <;> (try omega)))
          exact counts_end (p := pc 6 N) (N := N) (lst := 1) (mst := 300) hrok hgd.1 hgd.2 (mkCT rfl rfl soA (SV.of2 soA rfl ⟨.nils, rfl, .inl ⟨rfl, rfl⟩⟩ ⟨.nils, rfl, .inl ⟨rfl, rfl⟩⟩) (SV.of2 soA rfl ⟨.nils, _, rfl, .inl ⟨rfl, rfl⟩, SV.of1 soA rfl rfl⟩ ⟨.nils, _, rfl, .inl ⟨rfl, rfl⟩, cv_jumps soA (by simp -implicitDefEqProofs (disch := first | exact soD | fail) only [go_sem, ↓reduceIte, Nat.reduceEqDiff, Nat.reduceAdd, Nat.reduceLT, Nat.reduceLeDiff, Nat.reduceBEq, reduceCtorEq, hnn])⟩) rfl rfl rfl rfl))
  obtain ⟨o, m', h1, rfl⟩ := key
  rw [ce8]
  exact ⟨m', h1⟩
end Go.Proofs.YtiijjopdhjpalaaDoor
