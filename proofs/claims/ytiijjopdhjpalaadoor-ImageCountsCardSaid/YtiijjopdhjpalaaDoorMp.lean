/- Written and read again; no beginning, no tail. Conditions: none. -/
import Derived.Test.YtiijjopdhjpalaaDoorMj
import Derived.Test.YtiijjopdhjpalaaDoorMm
import Derived.Test.YtiijjopdhjpalaaDoorMo
/-! A law's arguments as trees. Conditions: none. -/
namespace Go.Proofs.YtiijjopdhjpalaaDoor
open Go
theorem arg_prog {x : AV} (h : ArgOf Tryd.prog 25 x) : ∃ p : GP, x = p.av ∧ p.wf := by
  cases h with
  | mk h hz =>
    rw [Tryd.underlying25]
    exact prog_of (n := 2) h
theorem arg_int {x : AV} (h : ArgOf Tryd.prog 3 x) : ∃ z : Int, x = avI z ∧ i64 z := by
  cases h with
  | mk h hz =>
    rw [Tryd.underlying3]
    obtain ⟨z, rfl, hz2⟩ := shape_int (n := 7) Tryd.underlying3 h
    exact ⟨z, rfl, hz2⟩
theorem cells_uint8 : Tryd.prog.cellsOf 5 = 1 := by kernel_rfl
theorem bytes_uint8 : Tryd.prog.bytesOf 5 = 1 := by kernel_rfl
theorem u8_iff {z : Int} : (Lit.int .u8 z).wf = true ↔ 0 ≤ z ∧ z < 256 := by
  simp [Lit.wf, IntKind.min, IntKind.max, IntKind.signed, IntKind.bits]
  omega
theorem arg_bytes {x : AV} (h : ArgOf Tryd.prog 28 x) : ∃ l : List Int, x = tsl 1 (l.map avB) ∧ l.length ≤ 140737488351232 ∧ BB l := by
  cases h with
  | mk h hz =>
    have hz := hz _ Tryd.underlying28
    rw [Tryd.underlying28] at hz ⊢
    obtain ⟨l, rfl, hl, hb⟩ := shape_slice (n := 7) avB (fun z => 0 ≤ z ∧ z < 256) (agg := false) Tryd.underlying28 cells_uint8 (by rw [Tryd.underlying5]; rfl) (fun x hx => by
      obtain ⟨z, rfl, hz⟩ := shape_int (n := 6) Tryd.underlying5 hx
      exact ⟨z, rfl, u8_iff.1 hz⟩) h
    have := hz (l.map avB) 1 rfl
    rw [bytes_uint8, List.length_map, Nat.mul_one] at this
    exact ⟨l, rfl, this, hb⟩
end Go.Proofs.YtiijjopdhjpalaaDoor

/-! ImageUnlike: the law. Conditions: none. -/
namespace Go.Proofs.YtiijjopdhjpalaaDoor
open Go
set_option linter.unusedSimpArgs false
set_option linter.unusedVariables false
def strK (m : AMem) : Option (List AV) → Option AR
  | some es => match es.mapM byteOf with
    | some l => some (.val (.str l) m)
    | none => none
  | none => none
@[go_sem] theorem p_convBS (calls : Nat → AF) (env : AEnv) (m : AMem) (new : Nat) (x : Opd) : aOp calls env m new (.convBS x) = strK m (elems m 1 (x.ev env)) := by
  simp only [aOp]
  rfl
def strOf (l : List Int) : List UInt8 := l.map fun z => UInt8.ofNat z.toNat
theorem bytes_str : ∀ {l : List Int}, BB l → (l.map avB).mapM byteOf = some (strOf l)
  | [], _ => rfl
  | z :: l, h => by
    have ih := bytes_str (l := l) fun y hy => h y (List.mem_cons_of_mem _ hy)
    have hz := h z (List.mem_cons_self ..)
    have : byteOf (avB z) = some (UInt8.ofNat z.toNat) := by
      simp only [byteOf]
    rw [List.map_cons, List.mapM_cons, this, ih]
    rfl
theorem strK_b {m : AMem} {l : List Int} (h : BB l) : strK m (some (l.map avB)) = some (.val (.str (strOf l)) m) := by
  simp only [strK, bytes_str h]
theorem strOf_inj : ∀ {a b : List Int}, BB a → BB b → strOf a = strOf b → a = b
  | [], [], _, _, _ => rfl
  | [], _ :: _, _, _, h => by cases h
  | _ :: _, [], _, _, h => by cases h
  | x :: a, y :: b, ha, hb, h => by
    simp only [strOf, List.map_cons, List.cons.injEq] at h
    have hx := ha x (List.mem_cons_self ..)
    have hy := hb y (List.mem_cons_self ..)
    have ih := strOf_inj (a := a) (b := b) (fun z hz => ha z (List.mem_cons_of_mem _ hz)) (fun z hz => hb z (List.mem_cons_of_mem _ hz)) h.2
    have := congrArg UInt8.toNat h.1
    rw [UInt8.toNat_ofNat', UInt8.toNat_ofNat'] at this
    rw [ih, show x = y by omega]
theorem strOf_eq {a b : List Int} (ha : BB a) (hb : BB b) : (strOf a == strOf b) = decide (a = b) := by
  by_cases h : a = b
  · rw [h, decide_eq_true rfl]; simp
  · rw [decide_eq_false h]
    simp only [beq_eq_false_iff_ne, ne_eq]
    exact fun e => h (strOf_inj ha hb e)
theorem rok_bnd {p : GP} (h : rokT p = true) : p.bnd := by
  obtain ⟨⟨_, h1, h2⟩, h3, h4, _⟩ := rokT_ok h
  refine ⟨by omega, fun x hx => ?_, by omega, fun x hx => ?_, fun x hx => ?_⟩
  · have := (h2 x hx).2.2.1; omega
  · have := (h4 x hx).1.1; omega
  · have := (h4 x hx).1.2.2.2.2.1; omega
theorem encP_pos (p : GP) : 5 ≤ (encP p).length := by
  unfold encP encHead
  have : 0 < (lebL p.types.length).length := by
    by_cases h : p.types.length < 128
    · rw [lebL_lt h]; simp
    · rw [lebL_ge h]; simp
  simp only [List.length_append, List.length_cons, List.length_nil]
  omega
theorem rb_prog (m : AMem) (p : GP) : rb m RBN (.agg [tsl 3 (p.types.map GT.av), tsl 4 (p.funcs.map GF.av)]) = some (.agg [tsl 3 (p.types.map GT.av), tsl 4 (p.funcs.map GF.av)]) := by
  simp only [go_sem]
end Go.Proofs.YtiijjopdhjpalaaDoor

/-! What any bytes are read as is right, and is written as the same bytes. Conditions: none. -/
namespace Go.Proofs.YtiijjopdhjpalaaDoor
open Go
set_option linter.unusedSimpArgs false
set_option linter.unusedVariables false
def asK : Option AMem → Res
  | some m' => some (.ret (.bool true), m')
  | none => none
@[go_sem] theorem asK_s (m : AMem) : asK (some m) = some (.ret (.bool true), m) := rfl
theorem asF_tp (x p : AV) (m : AMem) : asF [.ifc 62 (.tp x), .ifc 75 p] m = asK (aStore m false 1 p (.tp x)) := by
  cases h : aStore m false 1 p (.tp x) <;> simp [asF, asK, h]
theorem ceAs (n : Nat) : callsN cfg (n + 1) 28 = asF := by kernel_rfl
theorem sp_fault_nil (n : Nat) (m : AMem) : callsN cfg (n + 2) 15 [.nili] m = some (.ret (.tup [avI 0, avI 0]), m) := by
  rw [ce15]
  refine borrow_wp (targs := [.nili]) (by simp only [go_sem]) ?_ rfl
  unfold aBody cf15
  repeat' (first | simp -implicitDefEqProofs (disch := first | exact soD | fail) only [go_sem, ↓reduceIte, Nat.reduceEqDiff, Nat.reduceAdd, Nat.reduceLT, Nat.reduceLeDiff, Nat.reduceBEq, reduceCtorEq] | ((with_reducible first | refine g_dec ?_ ?_ | refine c_dec ?_ ?_ | refine s_dec ?_ ?_ | refine g_ndec ?_ ?_ | refine c_ndec ?_ ?_ | refine g_nbool ?_ ?_ | refine c_nbool ?_ ?_ | refine g_bool ?_ ?_ | refine c_bool ?_ ?_ | refine s_bool ?_ ?_) <;> intro h d <;> (try simp only [d]) <;> (try simp only [B1, B2, B3, B4, B5, B6, B7, B8] at h) <;> (try omega)))
theorem sp_fault (n : Nat) (k e : Int) (m : AMem) : callsN cfg (n + 2) 15 [.ifc 62 (.tp (.agg [avI k, avI e]))] m = some (.ret (.tup [avI k, avI e]), m) := by
  rw [ce15]
  refine borrow_wp (targs := [.ifc 62 (.tp (.agg [avI k, avI e]))]) (by simp only [go_sem]) ?_ rfl
  unfold aBody cf15
  repeat' (first | simp -implicitDefEqProofs (disch := first | exact soD | fail) only [go_sem, ↓reduceIte, Nat.reduceEqDiff, Nat.reduceAdd, Nat.reduceLT, Nat.reduceLeDiff, Nat.reduceBEq, reduceCtorEq, ceAs, asF_tp] | ((with_reducible first | refine g_dec ?_ ?_ | refine c_dec ?_ ?_ | refine s_dec ?_ ?_ | refine g_ndec ?_ ?_ | refine c_ndec ?_ ?_ | refine g_nbool ?_ ?_ | refine c_nbool ?_ ?_ | refine g_bool ?_ ?_ | refine c_bool ?_ ?_ | refine s_bool ?_ ?_) <;> intro h d <;> (try simp only [d]) <;> (try simp only [B1, B2, B3, B4, B5, B6, B7, B8] at h) <;> (try omega)))
theorem no_prog (n : Nat) (m : AMem) : callsN cfg (n + 7) 10 [.agg [tsl 3 [], tsl 4 []]] m = some (.ret (.bool false), m) := by
  have h := sp_Right10 n ⟨[], []⟩ ⟨by decide, (fun x h => by cases h), by decide, (fun x h => by cases h)⟩ m
  rw [show rokT ⟨[], []⟩ = false by decide] at h
  exact h
end Go.Proofs.YtiijjopdhjpalaaDoor

/-! Where bytes are refused hangs on nothing behind. Conditions: none. -/
namespace Go.Proofs.YtiijjopdhjpalaaDoor
open Go
set_option linter.unusedSimpArgs false
set_option linter.unusedVariables false
theorem BB_app {a b : List Int} (ha : BB a) (hb : BB b) : BB (a ++ b) := fun z hz => (List.mem_append.1 hz).elim (ha z) (hb z)
theorem rb_two {m : AMem} {id : Nat} {b x : List Int} (h : m.get id = some (.arr 5 1 (b.map avB ++ x.map avB))) : rb m RBN (.sl 1 id 0 (b.length + x.length)) = some (tsl 1 ((b ++ x).map avB)) := by
  rw [← List.length_append]
  exact rb_bytes (by rw [h, List.map_append]) 10
end Go.Proofs.YtiijjopdhjpalaaDoor

/-! Written and read again; no beginning, no tail. Conditions: none. -/
namespace Go.Proofs.YtiijjopdhjpalaaDoor
open Go
set_option linter.unusedSimpArgs false
set_option linter.unusedVariables false
theorem leb_pos (n : Nat) : 0 < (lebL n).length := by
  by_cases h : n < 128
  · rw [lebL_lt h]; simp
  · rw [lebL_ge h]; simp
theorem encP_11 {p : GP} (h : rokT p = true) : 11 ≤ (encP p).length := by
  obtain ⟨_, ⟨h1, _⟩, h3, _⟩ := rokT_ok h
  unfold encP encHead
  have a1 := leb_pos p.types.length
  have a2 := leb_pos p.funcs.length
  have a3 : 5 ≤ (p.funcs.flatMap encF).length := by
    cases hf : p.funcs with
    | nil => rw [hf] at h1; simp at h1
    | cons f l =>
      have hk := (h3 f (by rw [hf]; exact List.mem_cons_self ..)).2
      rw [List.flatMap_cons, List.length_append]
      have hc : 1 ≤ f.code.length := by
        unfold fokT at hk
        split at hk
        · cases hk
        · omega
      have b1 := leb_pos f.params.length
      have b2 := leb_pos f.result.toNat
      have b3 := leb_pos f.locals.toNat
      have b4 := leb_pos f.code.length
      have b5 : 1 ≤ (f.code.flatMap encI).length := by
        cases hi : f.code with
        | nil => rw [hi] at hc; simp at hc
        | cons i l =>
          rw [List.flatMap_cons, List.length_append]
          unfold encI
          simp only [List.length_append, List.length_cons, List.length_nil]
          omega
      unfold encF encList
      simp only [List.length_append]
      omega
  simp only [List.length_append, List.length_cons, List.length_nil]
  omega
theorem rem_nat {c : Int} {L : Nat} (h0 : 0 ≤ c) (hL : 0 < L) : ∃ C : Nat, aBin .rem (.int .i64 c) (.int .i64 (L : Int)) = some (.int .i64 (C : Int)) ∧ C < L := by
  have h1 := Int.emod_nonneg c (show (L : Int) ≠ 0 by omega)
  have h2 := Int.emod_lt_of_pos c (show (0 : Int) < L by omega)
  refine ⟨(c % L).toNat, ?_, by omega⟩
  show (if (L : Int) = 0 then none else some (AV.int .i64 (c.tmod L))) = _
  rw [if_neg (by omega), Int.tmod_eq_emod_of_nonneg h0, Int.toNat_of_nonneg h1]
theorem slc_take {l : List Int} {C : Nat} (h : C < l.length) : slcK 1 (tsl 1 (l.map avB)) none (some (some (C : Int))) = some (.ts 1 ((l.take C).map avB)) := by
  cases l with
  | nil => simp at h
  | cons a r =>
    show cond (decide (0 ≤ (0 : Int)) && decide ((0 : Int) ≤ (C : Int)) && decide ((C : Int) ≤ (((a :: r).map avB).length : Nat))) _ _ = _
    rw [decide_eq_true (by omega), decide_eq_true (by omega), decide_eq_true (by rw [List.length_map]; omega)]
    show (if (1 : Nat) = 1 ∨ ((a :: r).map avB).isEmpty = true then some (AV.ts 1 ((((a :: r).map avB).drop 0).take ((C : Int).toNat - 0))) else none) = _
    rw [if_pos (.inl rfl), List.drop_zero, Nat.sub_zero, Int.toNat_natCast, List.map_take]
end Go.Proofs.YtiijjopdhjpalaaDoor
