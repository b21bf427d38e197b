/- shown(): the closed run. Conditions: none. -/
import Derived.Test.YtiijjopdhjpalaaDoorMc
import Derived.Test.YtiijjopdhjpalaaDoorMd
import Derived.KernelRfl
/-! image.Decode is what the evaluator's plug says. Conditions: none. -/
namespace Go.Proofs.YtiijjopdhjpalaaDoor
open Go
def piece : Nat → Code → Code
  | 0, .seq a _ => a
  | n + 1, .seq _ b => piece n b
  | _, c => c
def rest : Nat → Code → Code
  | 0, c => c
  | n + 1, .seq _ b => rest n b
  | _, c => c
def bodyOf (f : Func) : Code := f.body.getD .skip
def opAt (c : Code) (k j : Nat) : Oper := match piece k c with
  | .region _ ops _ => ops.getD j default
  | _ => default
def callOf (o : Oper) : Call := match o.op with
  | .defer c | .call c => c
  | _ => { callee := .builtin .recover, args := #[], argTypes := #[] }
noncomputable def bD : Code := bodyOf Tryd.f13
noncomputable def bC : Code := bodyOf Tryd.f25
def decC : DecC := { r0 := dc_r0, rx := dc_rx, r3 := dc_r3, r6 := dc_r6, rc := dc_rc, res := dc_res, prog := 26, clos := 25 }
theorem closIs : ClosIs Tryd.prog 25 Tryd.f25 pfX dc_rc :=
  { func := Tryd.func25
    body := ⟨0, #[opAt bC 0 0, opAt bC 0 1], rest 1 bC, opAt bC 0 0, opAt bC 0 1, callOf (opAt bC 0 0), by kernel_rfl, rfl, by kernel_rfl, by kernel_rfl, by kernel_rfl, by kernel_rfl, by kernel_rfl, by kernel_rfl, by kernel_rfl, by kernel_rfl, by kernel_rfl⟩
    res := by kernel_rfl
    nt := of_decide_eq_true (by kernel_rfl) }
theorem decIs : DecIs Tryd.prog 13 Tryd.f13 Tryd.f25 pfX decC :=
  { func := Tryd.func13
    name := by kernel_rfl
    body := ⟨piece 0 bD, piece 1 bD, piece 2 bD, rest 5 bD, 4, 5, opAt bD 3 0, opAt bD 3 1, opAt bD 4 0, opAt bD 4 1, callOf (opAt bD 3 1), callOf (opAt bD 4 1), by kernel_rfl,
      ⟨by kernel_rfl, by kernel_rfl, by kernel_rfl, by kernel_rfl⟩, ⟨by kernel_rfl, by kernel_rfl, by kernel_rfl⟩, ⟨by kernel_rfl, by kernel_rfl, by kernel_rfl, by kernel_rfl, by kernel_rfl⟩,
      ⟨by kernel_rfl, by kernel_rfl, by kernel_rfl⟩, ⟨by kernel_rfl, by kernel_rfl, by kernel_rfl, by kernel_rfl, by kernel_rfl⟩⟩
    res := by kernel_rfl
    nt := of_decide_eq_true (by kernel_rfl)
    clos := closIs
    closBody := by kernel_rfl
    closName := by kernel_rfl }
end Go.Proofs.YtiijjopdhjpalaaDoor

/-! All functions of this program in the abstract evaluator; they are sound. Conditions: none. -/
namespace Go.Proofs.YtiijjopdhjpalaaDoor
open Go
def find (l : List (Nat × AFun)) (k : Nat) : Option AFun := match l with
  | [] => none
  | p :: r => cond (Nat.beq p.1 k) (some p.2) (find r k)
theorem find_mem : ∀ {l : List (Nat × AFun)} {k : Nat} {v : AFun}, find l k = some v → (k, v) ∈ l
  | [], _, _, h => by cases h
  | p :: r, k, v, h => by
    unfold find at h
    cases hb : Nat.beq p.1 k with
    | true =>
      rw [hb, cond_true] at h
      injection h with h
      have := Nat.eq_of_beq_eq_true hb
      subst this h
      exact List.mem_cons_self ..
    | false =>
      rw [hb, cond_false] at h
      exact List.mem_cons_of_mem _ (find_mem h)
def cfg : Cfg where
  code := find codeT
  plug := fun f => cond (Nat.beq f 28) (some fun _ => asF) (cond (Nat.beq f 13) (some fun calls => borrow (decF calls decC)) (cond (Nat.beq f 30) (some (cloneF cf30)) none))
  pol := fun f => cond (pfX f) .pure .keep
theorem mixed : Tryd.prog.follows .mixedOrders = true := by kernel_rfl
theorem cfgOk : CfgOk Tryd.prog pfX cfg where
  plug := by
    intro g F h calls h1 h2 h3
    simp only [cfg] at h
    cases ha : Nat.beq g 28 with
    | true =>
      rw [ha, cond_true] at h
      injection h with h
      subst h
      have := Nat.eq_of_beq_eq_true ha
      subst this
      exact ⟨asF_ok, asF_good, fun h => (by cases h)⟩
    | false =>
      rw [ha, cond_false] at h
      cases hd : Nat.beq g 13 with
      | true =>
        rw [hd, cond_true] at h
        injection h with h
        subst h
        have := Nat.eq_of_beq_eq_true hd
        subst this
        exact ⟨borrow_ok (dec_ok h1 h2 h3 mixed decIs), borrow_good _, fun _ => borrow_pure _⟩
      | false =>
        rw [hd, cond_false] at h
        cases hl : Nat.beq g 30 with
        | true =>
          rw [hl, cond_true] at h
          injection h with h
          subst h
          have := Nat.eq_of_beq_eq_true hl
          subst this
          refine ⟨cloneF_ok Tryd.func30 (by rfl) (by rfl) (fun_ok h1 h2 h3 mixed Tryd.func30 cf30_ok (by rfl)) clone_nil clone_some, cloneF_good (aBody_good h2 _), fun h => (by cases h)⟩
        | false => rw [hl, cond_false] at h; cases h
  code := fun g af _ h => codeT_ok (g, af) (find_mem h)
  pol := fun g h _ => by simp only [cfg]; rw [h]; rfl
/-- **Every function of the program, as the evaluator has it, is what the program does.** -/
theorem all_ok (n g : Nat) : CallOk Tryd.prog g (callsN cfg n g) := (sound cfgOk mixed n).1 g
/-- What runs in an empty memory and is pure, runs in any. -/
theorem pure_any {g n : Nat} (hp : pfX g = true) {args : List AV} {v : AV} {m0 : AMem} (h : callsN cfg n g args .empty = some (.ret v, m0)) (m : AMem) : callsN cfg n g args m = some (.ret v, m) := by
  have hpf := (sound cfgOk mixed n).2.2 g hp
  obtain ⟨rfl, _⟩ := hpf.same _ _ _ _ h
  exact hpf.mono _ _ _ _ (fun id o h => by cases h) h
end Go.Proofs.YtiijjopdhjpalaaDoor

/-! shown(): the closed run. Conditions: none. -/
namespace Go.Proofs.YtiijjopdhjpalaaDoor
open Go
def isTrue : Res → Bool
  | some (.ret (.bool true), _) => true
  | _ => false
theorem isTrue_some {r : Res} (h : isTrue r = true) : ∃ m, r = some (.ret (.bool true), m) := by
  unfold isTrue at h
  split at h
  · exact ⟨_, rfl⟩
  · cases h
theorem shown_run : isTrue (callsN cfg 60 9 [] .empty) = true := by kernel_rfl
theorem shown_ok (m : AMem) : callsN cfg 60 9 [] m = some (.ret (.bool true), m) := by
  obtain ⟨m0, h⟩ := isTrue_some shown_run
  exact pure_any (by rfl) h m
end Go.Proofs.YtiijjopdhjpalaaDoor
