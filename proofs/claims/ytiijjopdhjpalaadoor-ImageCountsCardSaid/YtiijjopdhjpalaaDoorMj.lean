/- From the evaluator's answer to the row's: for any law of this program that answers true. Conditions: the package variable errors.errorType is laid as the program's text lays it. -/
import Derived.Test.YtiijjopdhjpalaaDoorMf
import Derived.Test.YtiijjopdhjpalaaDoorMe
import Derived.Test.YtiijjopdhjpalaaDoorRows
import Derived.ChangeSame
import Derived.ChangeVars
import Derived.JoinedOf
import Derived.RowKit
import Derived.RowKitTokens
import Derived.LaidLaws
import Derived.LaidHandle
import Derived.Stop.Joined
import Derived.Carry
/-! From the evaluator's answer to the row's: for any law of this program that answers true. Conditions: the package variable errors.errorType is laid as the program's text lays it. -/
namespace Go.Proofs.YtiijjopdhjpalaaDoor
open Go Go.ChangeShapes Go.WideShapes Go.RowKit
set_option linter.unusedVariables false
set_option linter.unusedSimpArgs false
theorem fin_own : ownKnob Tryd.prog.godebug = none := by kernel_rfl
theorem fin_et : Tryd.prog.globalNamed "errors.errorType" = some 0 := by kernel_rfl
theorem fin_rt : (Tryd.prog.cutTypes.find? (·.1 == "internal/reflectlite.rtype")).map (·.2) = some 125 := by kernel_rfl
theorem fin_oneRow : ((List.range Tryd.prog.types.size).filter fun t => Tryd.prog.rowNamed t [101, 114, 114, 111, 114]) = [31] := by kernel_rfl
/-- What the condition gives: the variable's one cell. -/
theorem glob_of_laid {W : World} (h : laidMetH Tryd.prog [("errors.errorType", Rows.laid_errors_errorType)] W) : GlobOk noOwn W := by
  have h' : laidMet Tryd.prog [] W ∧ handlesMet Tryd.prog [("errors.errorType", Rows.laid_errors_errorType)] W := h
  obtain ⟨name, u, ty, e1, e2, e3, e4, e5⟩ := h'.2 _ (List.mem_singleton.2 rfl)
  have en : name = [101, 114, 114, 111, 114] := (Option.some.inj e1).symm
  subst en
  obtain rfl := Option.some.inj (fin_rt.symm.trans e2)
  have hm : ty ∈ (List.range Tryd.prog.types.size).filter fun t => Tryd.prog.rowNamed t [101, 114, 114, 111, 114] := List.mem_filter.2 ⟨List.mem_range.2 e3, e4⟩
  rw [fin_oneRow] at hm
  obtain rfl := List.mem_singleton.1 hm
  have hh : typeHandle Tryd.prog 31 = .pointer (some ⟨1, 31, none⟩) := by kernel_rfl
  rw [hh] at e5
  have hc : W.cell? ⟨0, 0, none⟩ = some (.iface 125 (.agg #[.pointer (some ⟨1, 31, none⟩)])) := by simpa using World.var?_cell fin_et e5 0
  intro p hp
  simp only [globs, List.mem_singleton] at hp
  subst hp
  exact ⟨fun h => h, hc⟩
/-- A world that meets the condition: the settled one, the variable's cell laid. -/
noncomputable def laidWorld (os : Os) : World :=
  let w0 := World.holding Tryd.prog os ⟨#[], #[], []⟩
  { w0 with heap := w0.heap.modify 0 fun
      | .cells _ t frozen => .cells #[.iface 125 (.agg #[.pointer (some ⟨1, 31, none⟩)])] t frozen
      | o => o }
theorem laidWorld_met (os : Os) (args : Array Value) : laidMetH Tryd.prog [("errors.errorType", Rows.laid_errors_errorType)] ((laidWorld os).forCall (fun _ _ => 0) ⟨#[], args, []⟩).memory :=
  laidMetH_of_parts (laidMet_nil _ _) (by kernel_rfl)
/-- An argument as a tree. -/
inductive ArgOf (P : Program) (t : TypeId) : AV → Prop
  | mk {vs : List AV} : ShapeP P 8 t vs → (∀ e, P.underlying t = some (.slice e) → ∀ es sz, packE ((aggOf (P.underlying t)).getD true) vs = tsl sz es → es.length * P.bytesOf e ≤ reachBytes) → ArgOf P t (packE ((aggOf (P.underlying t)).getD true) vs)
theorem rep_len {O : Nat → Prop} {w : World} {sz : Nat} {es : List AV} {a : Option Addr} {l c : Nat} (h : RepT O w (tsl sz es) (.slice a l c)) : es.length = l := by
  cases es with
  | nil => cases h <;> rfl
  | cons x r => cases h; rfl
theorem arg_of {P : Program} {H : Type} {enc : TypeId × Value → H} {W : World} {base : Nat} {t : TypeId} {v : Value} {d : DataW H} {ps : List MemPlace} (hp : plainT P 8 t = true) (hok : Value.okWide P W .any base t v)
    (h : DataW.Trod enc P W 0 (fun _ => true) true t v d ps) (hw : (d.weights P t).all (· ≤ reachBytes) = true) : ∃ x, ArgOf P t x ∧ RepT noOwn W x v := by
  obtain ⟨fuel, hf⟩ := h
  obtain ⟨vs, h1, h2, h3, h4, h5⟩ := tree_of (P := P) 8 t v.cells.toList fuel _ hp hf
  refine ⟨_, .mk ⟨h4⟩ (fun e hu es sz hx => ?_), ?_⟩
  · obtain ⟨a, l, c, rfl⟩ := okWide_slice hu hok
    rw [hu] at h5 hx
    obtain ⟨_, x, rfl, _⟩ := h5.resolve_left (by simp [aggOf])
    have hx : x = tsl sz es := hx
    subst hx
    have hr : RepT noOwn W (tsl sz es) (.slice a l c) := by
      cases h1 with
      | cons r _ => exact r
    have hl := rep_len hr
    rcases DataW.trod_slice hu hf with ⟨h6, _⟩ | ⟨a', len, cap, elems, rest, m, _, h6, h7, _, _, _, h8, _⟩
    · simp only [Value.cells, List.cons.injEq, Value.slice.injEq, and_true] at h6
      rw [hl, h6.2.1, Nat.zero_mul]
      exact Nat.zero_le _
    · simp only [Value.cells, List.cons.injEq, Value.slice.injEq, and_true] at h6
      injection h7 with h7 _
      subst h7
      simp only [DataW.weights, hu, List.all_cons, Bool.and_eq_true, decide_eq_true_eq, List.length_map] at hw
      refine Nat.le_trans (Nat.mul_le_mul_right _ ?_) hw.1
      omega
  have hone : v.cells = #[v] → (∃ x, vs = [x] ∧ x.isAgg = false) → RepT noOwn W (packE false vs) v := fun hc ⟨x, e, _⟩ => by
    rw [hc] at h1
    subst e
    cases h1 with
    | cons a _ => exact a
  unfold plainT at hp
  cases hu : P.underlying t with
  | none => rw [hu] at hp; cases hp
  | some k =>
    rw [hu] at hp h5
    cases k with
    | struct fs =>
      obtain ⟨cs, rfl, _⟩ := okWide_struct hu hok
      have := RepT.agg (O := noOwn) (w := W) h1 h2
      simpa [packE, aggOf, Value.cells] using this
    | int k =>
      obtain ⟨n, rfl⟩ := okWide_int hu hok
      exact hone rfl (h5.resolve_left (by simp [aggOf])).2
    | bool =>
      obtain ⟨n, rfl⟩ := okWide_bool hu hok
      exact hone rfl (h5.resolve_left (by simp [aggOf])).2
    | string =>
      obtain ⟨n, rfl⟩ := okWide_string hu hok
      exact hone rfl (h5.resolve_left (by simp [aggOf])).2
    | slice e =>
      obtain ⟨a, l, c, rfl⟩ := okWide_slice hu hok
      exact hone rfl (h5.resolve_left (by simp [aggOf])).2
    | _ => cases hp
inductive ArgsOf (P : Program) : List TypeId → List AV → Prop
  | nil : ArgsOf P [] []
  | cons {t ts x xs} : ArgOf P t x → ArgsOf P ts xs → ArgsOf P (t :: ts) (x :: xs)
theorem args_of {P : Program} {H : Type} {enc : TypeId × Value → H} {W : World} {base : Nat} : ∀ {ts : List TypeId} {vs : List Value} {ds : List (DataW H)} {ps : List MemPlace}, (∀ t ∈ ts, plainT P 8 t = true) →
    (∀ (j : Nat) t v, ts[j]? = some t → vs[j]? = some v → Value.okWide P W .any base t v) → DataW.TrodAll enc P W 0 (fun _ => true) true ts vs ds ps → (DataW.weightsEach P ts ds).all (· ≤ reachBytes) = true → ∃ xs, ArgsOf P ts xs ∧ RepTL noOwn W xs vs
  | [], vs, ds, ps, _, _, h, _ => by
    obtain ⟨rfl, _, _⟩ := trodAll_nil h
    exact ⟨[], .nil, .nil⟩
  | t :: ts, vs, ds, ps, hp, hok, h, hw => by
    obtain ⟨v, vs1, d, ds1, a, b, rfl, rfl, rfl, h1, h2⟩ := trodAll_cons h
    simp only [DataW.weightsEach, List.all_append, Bool.and_eq_true] at hw
    obtain ⟨x, x1, x2⟩ := arg_of (hp t (List.mem_cons_self ..)) (hok 0 t v rfl rfl) h1 hw.1
    obtain ⟨xs, y1, y2⟩ := args_of (fun u hu => hp u (List.mem_cons_of_mem _ hu)) (fun j u w a b => hok (j + 1) u w (by simpa using a) (by simpa using b)) h2 hw.2
    exact ⟨x :: xs, .cons x1 y1, .cons x2 y2⟩
theorem trodAll_stays {P : Program} {H : Type} {enc : TypeId × Value → H} {W W' : World} (hl : laidOutB P = true) (hs : ∀ b, b < W.heap.size → W'.heap[b]? = W.heap[b]?) : ∀ {ts : List TypeId} {vs : List Value} {ds : List (DataW H)} {ps : List MemPlace},
    (∀ t ∈ ts, P.readableRec t = true ∧ t < P.types.size) → DataW.TrodAll enc P W 0 (fun _ => true) true ts vs ds ps → (∀ x ∈ ps, x.block < W.heap.size) →
    DataW.TrodAll enc P W' 0 (fun b => decide (b < W.heap.size)) true ts vs ds ps
  | [], vs, ds, ps, _, h, _ => by
    obtain ⟨rfl, rfl, rfl⟩ := trodAll_nil h
    exact trodAll_mk0
  | t :: ts, vs, ds, ps, hr, h, hlt => by
    obtain ⟨v, vs1, d, ds1, a, b, rfl, rfl, rfl, h1, h2⟩ := trodAll_cons h
    refine ⟨a, b, ?_, trodAll_stays hl hs (fun u hu => hr u (List.mem_cons_of_mem _ hu)) h2 (fun x hx => hlt x (List.mem_append.2 (.inr hx))), rfl⟩
    refine WideElems.Trod_stays hl (hr t (List.mem_cons_self ..)).1 (hr t (List.mem_cons_self ..)).2 h1 (fun x hx => ?_) (fun x hx => by simpa using hlt x (List.mem_append.2 (.inl hx)))
    have hb := hs x.block (hlt x (List.mem_append.2 (.inl hx)))
    cases x with
    | cell b o => exact World.cell?_of_block hb
    | map b => exact hb
theorem keptBut_of_keeps {O' : Nat → Prop} {W W' : World} (k : Keeps noOwn W O' W') (may : MemPlace → Prop) : W.keptBut W' may := by
  refine ⟨k.1.2.1, k.1.2.2, fun i hi => ?_⟩
  have := (k.2 i hi (fun h => h)).2
  rw [this]
  cases W.heap[i]? with
  | none => trivial
  | some o =>
    cases o with
    | cells c t fr => exact ⟨rfl, rfl, rfl, fun _ _ => rfl⟩
    | map es clock => exact .inr ⟨rfl, rfl⟩
    | _ => rfl
theorem weights_short {P : Program} {H : Type} : ∀ {ts us : List TypeId} {ds : List (DataW H)}, ds.length = ts.length → DataW.weightsEach P (ts ++ us) ds = DataW.weightsEach P ts ds
  | [], us, [], _ => by cases us <;> simp [DataW.weightsEach]
  | [], us, _ :: _, h => by simp at h
  | _ :: _, us, [], h => by simp at h
  | t :: ts, us, d :: ds, h => by
    simp only [List.cons_append, DataW.weightsEach]
    rw [weights_short (by simpa using h)]
/-- **A law that answers true in the evaluator, whatever the trees, does so in the world.** -/
theorem law_lift {P : Program} {f : Nat} {fn : Func} {s : ChangeSpec} (hfn : P.funcs[f]? = some fn) (hbody : fn.body.isNone = false) (hname : (fn.name == "runtime.NumGoroutine") = false) {tb : TypeId} (hres : fn.resultTypes = #[tb]) (hbool : P.underlying tb = some .bool) (hall : ∀ n g, CallOk P g (callsN cfg n g)) (hvars : s.vars = [])
    (hplain : fn.params.toList.all (plainT P 8) = true) (hread : (fn.params.toList.all fun t => P.readableRec t && decide (t < P.types.size)) = true) (hl : laidOutB P = true)
    (hspec : ∀ (H : Type) (ds : List (DataW H)), ds.length = fn.params.toList.length → (s.fn H ds).results = [.lit (.bool true)] ∧ (s.fn H ds).args = ds ∧ (s.fn H ds).vars = [])
    {n : Nat} (law : ∀ xs, ArgsOf P fn.params.toList xs → ∃ m', callsN cfg n f xs .empty = some (.ret (.bool true), m'))
    {H : Type} {enc : TypeId × Value → H} {W : World} {base : Nat} {args : Array Value} {ds gs : List (DataW H)} {before : List MemPlace}
    (hval : ∀ (j : Nat) t v, fn.params[j]? = some t → args[j]? = some v → Value.okWide P W .any base t v) (hW : DataW.Whole enc P fn.params.toList s.vars false W args.toList ds gs before)
    (hw : (DataW.weightsEach P (fn.params.toList ++ s.plain.varTypes P) (ds ++ gs)).all (· ≤ reachBytes) = true) (hL : GlobOk noOwn W) :
    Calls P f args W fun e W' => ∃ v, e = .returned v ∧ s.post enc P fn false true false false W args v W' := by
  have hW' := hW
  have hlt := hW.lt
  rw [List.all_eq_true] at hplain hread
  have hread : ∀ t ∈ fn.params.toList, P.readableRec t = true ∧ t < P.types.size := fun t ht => by simpa using hread t ht
  obtain ⟨p, q, hA, hV, rfl, hfz, hnd⟩ := hW
  rw [hvars] at hV
  obtain ⟨rfl, rfl⟩ := trodVars_none hV
  have hds : ds.length = fn.params.toList.length := by
    have key : ∀ {ts : List TypeId} {vs : List Value} {ds : List (DataW H)} {ps : List MemPlace}, DataW.TrodAll enc P W 0 (fun _ => true) true ts vs ds ps → ds.length = ts.length := by
      intro ts
      induction ts with
      | nil => intro vs ds ps h; obtain ⟨_, rfl, _⟩ := trodAll_nil h; rfl
      | cons t ts ih =>
        intro vs ds ps h
        obtain ⟨v, vs1, d, ds1, a, b, rfl, rfl, rfl, h1, h2⟩ := trodAll_cons h
        simp [ih h2]
    exact key hA
  obtain ⟨s1, s2, s3⟩ := hspec H ds hds
  obtain ⟨xs, x1, x2⟩ := args_of hplain (fun j t v a b => hval j t v (by simpa using a) (by simpa using b)) hA (by rw [List.append_nil, weights_short hds] at hw; exact hw)
  obtain ⟨m', hrun⟩ := law xs x1
  have hent := enter_run (P := P) hfn hbody hname args W
  rcases hall n f noBlk noOwn W .empty xs args.toList _ m' (sim_empty hL) x2.toL hrun with ⟨_, hc⟩ | ⟨u, w', h, _⟩
  · have hc : Calls P f args W (EndOk noBlk noOwn W .empty (.ret (.bool true)) m') := by simpa using hc
    refine hc.mono ?_
    intro e w' he
    cases e with
    | returned u =>
      obtain ⟨v, β', O', e1, st, _, hr⟩ := he
      injection e1 with e1
      subst e1
      have hu := rep_bool hr
      subst hu
      refine ⟨_, rfl, ds, [], p ++ [], [], p, [], hW', ?_, ?_, ?_, keptBut_of_keeps st.keeps _, fun h => by cases h⟩
      · rw [hres, List.append_nil, s1]
        exact trodAll_mk1 (shut_bool hbool true)
      · rw [List.append_nil, s2]
        exact trodAll_stays hl (fun b hb => (st.keeps.2 b hb (fun h => h)).2) hread hA (fun x hx => hlt x (by simpa using hx))
      · rw [hvars, List.append_nil, s3]
        rfl
    | panicked chain =>
      obtain ⟨v, u, β', O', e1, _⟩ := he
      cases e1
    | outgrown => exact he.elim
  · have h : (callFunc f args).run P W = .ok (.value u) w' := by simpa using h
    rw [hent] at h
    cases h
end Go.Proofs.YtiijjopdhjpalaaDoor
