/- Whatever is handed to tidewaylaw10.ImageUnlike, it answers true, and its arguments read as they did. Conditions: the package variable errors.errorType starts as the program's text lays it (the card ties it). -/
import Derived.Test.YtiijjopdhjpalaaDoorMj
import Derived.Test.YtiijjopdhjpalaaDoorMm
import Derived.Test.YtiijjopdhjpalaaDoorTie
import Derived.Test.YtiijjopdhjpalaaDoorCards
/-! A law's arguments as trees. Conditions: none. -/
namespace Go.Proofs.YtiijjopdhjpalaaDoor
open Go
theorem arg_prog {x : AV} (h : ArgOf Tryd.prog 25 x) : ∃ p : GP, x = p.av ∧ p.wf := by
  cases h with
  | mk h =>
    rw [Tryd.underlying25]
    exact prog_of (n := 2) h
theorem arg_int {x : AV} (h : ArgOf Tryd.prog 3 x) : ∃ z : Int, x = avI z ∧ i64 z := by
  cases h with
  | mk h =>
    rw [Tryd.underlying3]
    obtain ⟨z, rfl, hz⟩ := shape_int (n := 7) Tryd.underlying3 h
    exact ⟨z, rfl, hz⟩
theorem cells_uint8 : Tryd.prog.cellsOf 5 = 1 := by kernel_rfl
theorem u8_iff {z : Int} : (Lit.int .u8 z).wf = true ↔ 0 ≤ z ∧ z < 256 := by
  simp [Lit.wf, IntKind.min, IntKind.max, IntKind.signed, IntKind.bits]
  omega
theorem arg_bytes {x : AV} (h : ArgOf Tryd.prog 28 x) : ∃ l : List Int, x = tsl 1 (l.map avB) ∧ l.length ≤ maxLen ∧ BB l := by
  cases h with
  | mk h =>
    rw [Tryd.underlying28]
    obtain ⟨l, rfl, hl, hz⟩ := shape_slice (n := 7) avB (fun z => 0 ≤ z ∧ z < 256) (agg := false) Tryd.underlying28 cells_uint8 (by rw [Tryd.underlying5]; rfl) (fun x hx => by
      obtain ⟨z, rfl, hz⟩ := shape_int (n := 6) Tryd.underlying5 hx
      exact ⟨z, rfl, u8_iff.1 hz⟩) h
    exact ⟨l, rfl, hl, hz⟩
end Go.Proofs.YtiijjopdhjpalaaDoor

/-! ImageUnlike: the law. Conditions: none. -/
namespace Go.Proofs.YtiijjopdhjpalaaDoor
open Go
set_option linter.unusedSimpArgs false
set_option linter.unusedVariables false
def strK (m : AMem) : Option (List AV) → Option AR
  | some es => match es.mapM byteOf with
    | some l => some (.val (.str l) m)
    | none => none
  | none => none
@[go_sem] theorem p_convBS (calls : Nat → AF) (env : AEnv) (m : AMem) (new : Nat) (x : Opd) : aOp calls env m new (.convBS x) = strK m (elems m 1 (x.ev env)) := by
  simp only [aOp]
  rfl
def strOf (l : List Int) : List UInt8 := l.map fun z => UInt8.ofNat z.toNat
theorem bytes_str : ∀ {l : List Int}, BB l → (l.map avB).mapM byteOf = some (strOf l)
  | [], _ => rfl
  | z :: l, h => by
    have ih := bytes_str (l := l) fun y hy => h y (List.mem_cons_of_mem _ hy)
    have hz := h z (List.mem_cons_self ..)
    have : byteOf (avB z) = some (UInt8.ofNat z.toNat) := by
      simp only [byteOf]
    rw [List.map_cons, List.mapM_cons, this, ih]
    rfl
theorem strK_b {m : AMem} {l : List Int} (h : BB l) : strK m (some (l.map avB)) = some (.val (.str (strOf l)) m) := by
  simp only [strK, bytes_str h]
theorem strOf_inj : ∀ {a b : List Int}, BB a → BB b → strOf a = strOf b → a = b
  | [], [], _, _, _ => rfl
  | [], _ :: _, _, _, h => by cases h
  | _ :: _, [], _, _, h => by cases h
  | x :: a, y :: b, ha, hb, h => by
    simp only [strOf, List.map_cons, List.cons.injEq] at h
    have hx := ha x (List.mem_cons_self ..)
    have hy := hb y (List.mem_cons_self ..)
    have ih := strOf_inj (a := a) (b := b) (fun z hz => ha z (List.mem_cons_of_mem _ hz)) (fun z hz => hb z (List.mem_cons_of_mem _ hz)) h.2
    have := congrArg UInt8.toNat h.1
    rw [UInt8.toNat_ofNat', UInt8.toNat_ofNat'] at this
    rw [ih, show x = y by omega]
theorem strOf_eq {a b : List Int} (ha : BB a) (hb : BB b) : (strOf a == strOf b) = decide (a = b) := by
  by_cases h : a = b
  · rw [h, decide_eq_true rfl]; simp
  · rw [decide_eq_false h]
    simp only [beq_eq_false_iff_ne, ne_eq]
    exact fun e => h (strOf_inj ha hb e)
theorem rok_bnd {p : GP} (h : rokT p = true) : p.bnd := by
  obtain ⟨⟨_, h1, h2⟩, h3, h4, _⟩ := rokT_ok h
  refine ⟨by omega, fun x hx => ?_, by omega, fun x hx => ?_, fun x hx => ?_⟩
  · have := (h2 x hx).2.2.1; omega
  · have := (h4 x hx).1.1; omega
  · have := (h4 x hx).1.2.2.2.2.1; omega
theorem encP_pos (p : GP) : 5 ≤ (encP p).length := by
  unfold encP encHead
  have : 0 < (lebL p.types.length).length := by
    by_cases h : p.types.length < 128
    · rw [lebL_lt h]; simp
    · rw [lebL_ge h]; simp
  simp only [List.length_append, List.length_cons, List.length_nil]
  omega
theorem rb_prog (m : AMem) (p : GP) : rb m RBN (.agg [tsl 3 (p.types.map GT.av), tsl 4 (p.funcs.map GF.av)]) = some (.agg [tsl 3 (p.types.map GT.av), tsl 4 (p.funcs.map GF.av)]) := by
  simp only [go_sem]
set_option maxHeartbeats 1000000 in
theorem law_ImageUnlike (p q : GP) (hp : p.wf) (hq : q.wf) : ∃ m', callsN cfg 61 6 [p.av, q.av] .empty = some (.ret (.bool true), m') := by
  have h1 := fun m => sp_Encode 52 p hp m _ (rb_prog m p)
  have h2 := fun m => sp_Encode 52 q hq m _ (rb_prog m q)
  have key : Wp (aBody (callsN cfg 60) cf6 [.agg [tsl 3 (p.types.map GT.av), tsl 4 (p.funcs.map GF.av)], .agg [tsl 3 (q.types.map GT.av), tsl 4 (q.funcs.map GF.av)]] .empty) fun o m' => o = .ret (.bool true) := by
    unfold aBody cf6
    cases rp : rokT p with
    | false =>
      have e1 : encR p = [] := by rw [encR, rp]; rfl
      repeat' (first | simp -implicitDefEqProofs (disch := (first | omega | (simp only [go_sem, List.length_append, Nat.zero_add, Nat.reduceAdd, Nat.reduceLT] <;> omega) | fail)) only [go_sem, ↓reduceIte, Nat.reduceEqDiff, Nat.reduceAdd, Nat.reduceLT, Nat.reduceLeDiff, Nat.reduceBEq, reduceCtorEq, shown_ok, h1, h2, e1] | ((with_reducible first | refine g_dec (fun h d => ?_) (fun h d => ?_) | refine c_dec (fun h d => ?_) (fun h d => ?_) | refine s_dec (fun h d => ?_) (fun h d => ?_) | refine g_ndec (fun h d => ?_) (fun h d => ?_) | refine c_ndec (fun h d => ?_) (fun h d => ?_) | refine g_nbool (fun h d => ?_) (fun h d => ?_) | refine c_nbool (fun h d => ?_) (fun h d => ?_) | refine g_bool (fun h d => ?_) (fun h d => ?_) | refine c_bool (fun h d => ?_) (fun h d => ?_) | refine s_bool (fun h d => ?_) (fun h d => ?_)) <;> (try simp only [d]) <;> (try simp only [Bool.or_eq_true, Bool.and_eq_true, Bool.or_eq_false_iff, Bool.and_eq_false_iff, decide_eq_true_eq, decide_eq_false_iff_not, Bool.not_eq_true', Bool.not_eq_false'] at h) <;> (try omega)))
    | true =>
      cases rq : rokT q with
      | false =>
        have e1 : encR q = [] := by rw [encR, rq]; rfl
        repeat' (first | simp -implicitDefEqProofs (disch := (first | omega | (simp only [go_sem, List.length_append, Nat.zero_add, Nat.reduceAdd, Nat.reduceLT] <;> omega) | fail)) only [go_sem, ↓reduceIte, Nat.reduceEqDiff, Nat.reduceAdd, Nat.reduceLT, Nat.reduceLeDiff, Nat.reduceBEq, reduceCtorEq, shown_ok, h1, h2, e1] | ((with_reducible first | refine g_dec (fun h d => ?_) (fun h d => ?_) | refine c_dec (fun h d => ?_) (fun h d => ?_) | refine s_dec (fun h d => ?_) (fun h d => ?_) | refine g_ndec (fun h d => ?_) (fun h d => ?_) | refine c_ndec (fun h d => ?_) (fun h d => ?_) | refine g_nbool (fun h d => ?_) (fun h d => ?_) | refine c_nbool (fun h d => ?_) (fun h d => ?_) | refine g_bool (fun h d => ?_) (fun h d => ?_) | refine c_bool (fun h d => ?_) (fun h d => ?_) | refine s_bool (fun h d => ?_) (fun h d => ?_)) <;> (try simp only [d]) <;> (try simp only [Bool.or_eq_true, Bool.and_eq_true, Bool.or_eq_false_iff, Bool.and_eq_false_iff, decide_eq_true_eq, decide_eq_false_iff_not, Bool.not_eq_true', Bool.not_eq_false'] at h) <;> (try omega)))
      | true =>
        have e1 : encR p = encP p := by rw [encR, rp]; rfl
        have e2 : encR q = encP q := by rw [encR, rq]; rfl
        have l1 := encP_pos p
        have l2 := encP_pos q
        have hS := fun m => sp_Same 58 p q (rok_bnd rp) m
        have b1 := fun m => strK_b (m := m) (encP_BB rp)
        have b2 := fun m => strK_b (m := m) (encP_BB rq)
        have hs : (strOf (encP p) == strOf (encP q)) = decide (p = q) := by
          rw [strOf_eq (encP_BB rp) (encP_BB rq)]
          by_cases h : p = q
          · rw [h, decide_eq_true rfl, decide_eq_true rfl]
          · rw [decide_eq_false h, decide_eq_false fun e => h (encP_inj rp rq e)]
        repeat' (first | simp -implicitDefEqProofs (disch := (first | omega | (simp only [go_sem, List.length_append, Nat.zero_add, Nat.reduceAdd, Nat.reduceLT] <;> omega) | fail)) only [go_sem, ↓reduceIte, Nat.reduceEqDiff, Nat.reduceAdd, Nat.reduceLT, Nat.reduceLeDiff, Nat.reduceBEq, reduceCtorEq, shown_ok, h1, h2, e1, e2, hS, b1, b2, hs] | ((with_reducible first | refine g_dec (fun h d => ?_) (fun h d => ?_) | refine c_dec (fun h d => ?_) (fun h d => ?_) | refine s_dec (fun h d => ?_) (fun h d => ?_) | refine g_ndec (fun h d => ?_) (fun h d => ?_) | refine c_ndec (fun h d => ?_) (fun h d => ?_) | refine g_nbool (fun h d => ?_) (fun h d => ?_) | refine c_nbool (fun h d => ?_) (fun h d => ?_) | refine g_bool (fun h d => ?_) (fun h d => ?_) | refine c_bool (fun h d => ?_) (fun h d => ?_) | refine s_bool (fun h d => ?_) (fun h d => ?_)) <;> (try simp only [d]) <;> (try simp only [Bool.or_eq_true, Bool.and_eq_true, Bool.or_eq_false_iff, Bool.and_eq_false_iff, decide_eq_true_eq, decide_eq_false_iff_not, Bool.not_eq_true', Bool.not_eq_false'] at h) <;> (try omega)))
  obtain ⟨o, m', h1, rfl⟩ := key
  rw [ce6]
  exact ⟨m', h1⟩
end Go.Proofs.YtiijjopdhjpalaaDoor

/-! Whatever is handed to tidewaylaw10.ImageUnlike, it answers true, and its arguments read as they did. Conditions: the package variable errors.errorType starts as the program's text lays it (the card ties it). -/
namespace Go.Proofs.YtiijjopdhjpalaaDoor
open Go Go.ChangeShapes Go.WideShapes Go.RowKit
set_option linter.unusedVariables false
theorem imageUnlike_trees : ∀ xs, ArgsOf Tryd.prog Tryd.f6.params.toList xs → ∃ m', callsN cfg 61 6 xs .empty = some (.ret (.bool true), m') := by
  intro xs h
  rw [Tryd.params6] at h
  cases h with
  | cons a0 h =>
    cases h with
    | cons a1 h =>
      cases h
      obtain ⟨v0, rfl, w0⟩ := arg_prog a0
      obtain ⟨v1, rfl, w1⟩ := arg_prog a1
      exact law_ImageUnlike v0 v1 w0 w1
set_option maxRecDepth 100000 in
theorem imageUnlike_lifted (os : Os) (started : os.Started) (H : Type) (enc : TypeId × Value → H) :
    ReturnsInHanded {} Tryd.checked os 6 .any (fun w args => (Rows.imageUnlikeSpec.pre enc Tryd.prog Tryd.f6 [] false w args ∧ laidMetH Tryd.prog [("errors.errorType", Rows.laid_errors_errorType)] w) ∧ sizedMet enc Tryd.prog Tryd.f6 (OpenSpec.ofChange Rows.imageUnlikeSpec) false w args)
      (Rows.imageUnlikeSpec.post enc Tryd.prog Tryd.f6 false true false false) := by
  refine returnsInHanded_of_change_and (C := Tryd.checked) (X := fun w _ => laidMetH Tryd.prog [("errors.errorType", Rows.laid_errors_errorType)] w) (fun _ _ _ hh h => h.of_heap hh) fin_own started (by kernel_rfl) Tryd.func6
    (ChangeSpec.witness_at (enc := enc) (C := Tryd.checked) (os := os) (X := fun w _ => laidMetH Tryd.prog [("errors.errorType", Rows.laid_errors_errorType)] w) false (laidWorld os) #[.agg #[.slice none 0 0, .slice none 0 0], .agg #[.slice none 0 0, .slice none 0 0]] 8 rfl (by kernel_rfl) (by kernel_rfl) (by kernel_rfl) (by kernel_rfl) (by kernel_rfl) (laidWorld_met os _)) ?_
  intro W base args ds gs before hval hW _ _ hL _
  exact law_lift (P := Tryd.prog) (tb := 4) (n := 61) Tryd.func6 (by kernel_rfl) (by kernel_rfl) (by kernel_rfl) Tryd.underlying4 all_ok rfl (by kernel_rfl) (by kernel_rfl) (by kernel_rfl)
    (fun H ds h => by
      rw [Tryd.params6] at h
      match ds, h with
      | [d0, d1], _ => exact ⟨rfl, rfl, rfl⟩) imageUnlike_trees hval hW (glob_of_laid hL)
theorem imageUnlike_holds : Rows.ImageUnlikeSaid :=
  OpenClaim.holds_of_wide 6 Tryd.f6 rfl rfl rfl rfl rfl rfl rfl ⟨rfl, rfl, rfl, rfl, rfl⟩ rfl rfl rfl rfl rfl (by kernel_rfl) Tryd.func6 (by kernel_rfl)
    (of_decide_eq_true (by kernel_rfl)) (by unfold Func.isWrapper; rw [if_neg (of_decide_eq_false (by kernel_rfl))]; exact ⟨rfl, rfl⟩)
    (fun os started H enc _ => imageUnlike_lifted os started H enc)
theorem imageUnlike_card : Rows.ImageUnlikeCardSaid :=
  Claim7.holds_tied_plain_at .later [] [.handle] true (true, "652a5eeae77635ab699cc65da7c4b1b63c97a95569c1474093e0914700766cdf") true
    imageUnlike_holds (fun _ h => by cases h) (by kernel_rfl) (fun _ h => by cases h) imageUnlike_row_tie rfl ⟨rfl, rfl⟩ (by kernel_rfl) rfl
    (fun f fn hf hfn => by
      obtain rfl : f = 6 := Option.some.inj ((show Tryd.prog.funcNamed "tideway/tidewaylaw10.ImageUnlike" = some 6 by kernel_rfl).symm.trans hf) |>.symm
      obtain rfl : fn = Tryd.f6 := (Option.some.inj (Tryd.func6.symm.trans hfn)).symm
      exact ⟨by kernel_rfl, fun j t ht => by
        rw [Tryd.params6] at ht
        have h3 : t = 25 := by
          rcases j with _ | j
          · have e : 25 = t := Option.some.inj ht
            exact e.symm
          rcases j with _ | j
          · have e : 25 = t := Option.some.inj ht
            exact e.symm
          · simp at ht
        rcases h3 with rfl
        · exact (show Tryd.prog.wantsStandIn 25 = false by kernel_rfl)⟩)
    (by kernel_rfl)
#print axioms imageUnlike_card
end Go.Proofs.YtiijjopdhjpalaaDoor
