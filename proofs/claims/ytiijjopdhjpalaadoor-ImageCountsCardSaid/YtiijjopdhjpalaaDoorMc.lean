/- image.Decode: a function that defers one closure, which recovers. Conditions: none. -/
import Derived.Test.YtiijjopdhjpalaaDoorProg
import Derived.WalkKit
import Derived.LaidEql
import Derived.Stop.Asserts
import Derived.RowKitTokens
import Derived.Test.YtiijjopdhjpalaaDoorMb
import Derived.Laws.Cover3
import Derived.Recover
/-! errors.As at a *api.Fault: as the worked proof of errors.As has it, at this program's numbers. Conditions: none. -/
namespace Go.Proofs.YtiijjopdhjpalaaDoor
open Go.RowKit Go.Extern.Stop Go.Stop Go.Extern

/-- errors.As(nil, target). -/
theorem as_nil (t : Value) (w : World) :
    Calls Tryd.prog 28 #[.nilIface, t] w fun e w' => e = .returned (.bool false) ∧ w' = w := by
  go_enter Tryd.func28, Tryd.ntmps28
  go_wp2
  go_ret
  exact ⟨rfl, rfl⟩

/-! ### CLOSED FACTS ON THE MODEL's ENTRIES FOR internal/reflectlite, at this program's types: 25: *p.E · 27: **p.E · 23: error · 45: reflectlite's rtype · 1: how many package-level variables the dump has -/
theorem As.valueOf27 (t : Addr) (w : World) : (ReflectliteValue.unpack (.iface 75 (.pointer (some t)))).run Tryd.prog w
    = .ok (.agg #[.pointer (some ⟨1, 75, none⟩), .pointer (some ⟨w.heap.size, 0, none⟩), .int .u64 150]) (w.alloc (.cells #[.pointer (some t)] 75)) := by kernel_rfl
theorem As.type27 (a : Addr) (w : World) : (ReflectliteValue.methodAny (ReflectliteValue.valueError "reflectlite.Value.Type" 0) (fun t _ _ _ => ReflectliteType.toType t) #[.agg #[.pointer (some ⟨1, 75, none⟩), .pointer (some a), .int .u64 150]]).run Tryd.prog w
    = .ok (.iface 125 (.agg #[.pointer (some ⟨1, 75, none⟩)])) w := by kernel_rfl
theorem As.methodKind (h : Value) (w : World) : (Go.method 274 125 (.agg #[h]) "Kind").run Tryd.prog w = .ok (103, h) w := by kernel_rfl
theorem As.kind27 (w : World) : ((ReflectliteType.abiMethod fun t => (fun a : Nat => Value.int IntKind.u8 (a : Int)) <$> Rtype.kind t) #[.pointer (some ⟨1, 75, none⟩)]).run Tryd.prog w = .ok (.int .u8 22) w := by kernel_rfl
theorem As.kind25 (w : World) : ((ReflectliteType.abiMethod fun t => (fun a : Nat => Value.int IntKind.u8 (a : Int)) <$> Rtype.kind t) #[.pointer (some ⟨1, 62, none⟩)]).run Tryd.prog w = .ok (.int .u8 22) w := by kernel_rfl

/-! ### THE ENTRIES THAT READ OR WRITE MEMORY: laws with a premise on the cell (after Derived/Lib/ReflectliteSlice.lean's manner: each unfolding a lemma of its own, by rfl) -/
theorem rlm (z : Sem Value) (f : TypeId → Addr → Nat → Nat → Sem Value) (v : Value) :
    ReflectliteValue.method z f #[v] = (do match ← ReflectliteValue.parts v with | none => z | some (t, a, fl) => f t a fl (fl % 32)) := rfl
theorem As.parts27 (a : Addr) (w : World) : (ReflectliteValue.parts (.agg #[.pointer (some ⟨1, 75, none⟩), .pointer (some a), .int .u64 150])).run Tryd.prog w = .ok (some (75, a, 150)) w := by kernel_rfl
/-- (Value).IsNil at the Value of a **p.E that is not nil. -/
theorem As.isNil27 (a p : Addr) (W : World) (ha : W.cell? a = some (.pointer (some p))) :
    (ReflectliteValue.method (ReflectliteValue.valueError "reflectlite.Value.IsNil" 0) ReflectliteValue.isNil #[.agg #[.pointer (some ⟨1, 75, none⟩), .pointer (some a), .int .u64 150]]).run Tryd.prog W = .ok (.bool false) W := by
  rw [rlm]
  simp only [Sem.run_bind, As.parts27, Result.andThen]
  simp [ReflectliteValue.isNil, loadVar, isAgg, underlying, Tryd.underlying75, ha, Result.andThen]

theorem As.methodElem (h : Value) (w : World) : (Go.method 274 125 (.agg #[h]) "Elem").run Tryd.prog w = .ok (115, .agg #[h]) w := by kernel_rfl
theorem As.methodImplements (h : Value) (w : World) : (Go.method 274 125 (.agg #[h]) "Implements").run Tryd.prog w = .ok (116, .agg #[h]) w := by kernel_rfl
theorem As.methodAssignableTo (h : Value) (w : World) : (Go.method 274 125 (.agg #[h]) "AssignableTo").run Tryd.prog w = .ok (113, .agg #[h]) w := by kernel_rfl
theorem As.elem27 (w : World) : (ReflectliteType.method ReflectliteType.elem #[.agg #[.pointer (some ⟨1, 75, none⟩)]]).run Tryd.prog w = .ok (.iface 125 (.agg #[.pointer (some ⟨1, 62, none⟩)])) w := by kernel_rfl
theorem As.implements25 (w : World) : (ReflectliteType.relation "Implements" ReflectliteType.implements_ #[.agg #[.pointer (some ⟨1, 62, none⟩)], .iface 125 (.agg #[.pointer (some ⟨1, 31, none⟩)])]).run Tryd.prog w = .ok (.bool true) w := by kernel_rfl
theorem As.typeOf25 (v : Value) (w : World) : (ReflectliteType.typeOf #[.iface 62 v]).run Tryd.prog w = .ok (.iface 125 (.agg #[.pointer (some ⟨1, 62, none⟩)])) w := by kernel_rfl
theorem As.assignable25 (w : World) : (ReflectliteType.relation "AssignableTo" ReflectliteType.assignableTo #[.agg #[.pointer (some ⟨1, 62, none⟩)], .iface 125 (.agg #[.pointer (some ⟨1, 62, none⟩)])]).run Tryd.prog w = .ok (.bool true) w := by kernel_rfl
theorem As.valueOf25 (e : Addr) (w : World) : (ReflectliteValue.unpack (.iface 62 (.pointer (some e)))).run Tryd.prog w
    = .ok (.agg #[.pointer (some ⟨1, 62, none⟩), .pointer (some ⟨w.heap.size, 0, none⟩), .int .u64 150]) (w.alloc (.cells #[.pointer (some e)] 62)) := by kernel_rfl

theorem As.elemOf27 (w : World) : (Rtype.elem? 75).run Tryd.prog w = .ok (some 62) w := by kernel_rfl
theorem As.mk25 (p : Addr) (w : World) : (ReflectliteValue.mk 62 p ReflectliteValue.flagAddr).run Tryd.prog w = .ok (.agg #[.pointer (some ⟨1, 62, none⟩), .pointer (some p), .int .u64 406]) w := by kernel_rfl
/-- (Value).Elem at the Value of a **p.E that is not nil: the Value of the *p.E variable that it points to, addressable. -/
theorem As.elemV27 (a p : Addr) (W : World) (ha : W.cell? a = some (.pointer (some p))) :
    (ReflectliteValue.method (ReflectliteValue.valueError "reflectlite.Value.Elem" 0) ReflectliteValue.elem #[.agg #[.pointer (some ⟨1, 75, none⟩), .pointer (some a), .int .u64 150]]).run Tryd.prog W
      = .ok (.agg #[.pointer (some ⟨1, 62, none⟩), .pointer (some p), .int .u64 406]) W := by
  rw [rlm]
  simp only [Sem.run_bind, As.parts27, Result.andThen]
  simp [ReflectliteValue.elem, loadVar, isAgg, underlying, Tryd.underlying75, ha, Result.andThen, As.elemOf27, As.mk25]
theorem rls (v x : Value) : ReflectliteValue.set #[v, x] = (do
    let (some (dst, a, fl), some (src, b, _)) := (← ReflectliteValue.parts v, ← ReflectliteValue.parts x)
      | unsupported (.noEntry "extern/(internal/reflectlite.Value).Set.zeroValue")
    if fl / ReflectliteValue.flagAddr % 2 == 0 then unsupported (.noEntry "extern/(internal/reflectlite.Value).Set.unaddressable")
    let val ← loadVar src b
    if ← Rtype.directlyAssignable dst src then storeVar dst a val
    else if ← Rtype.implements dst src then
      if (← Rtype.kind src) == 20 then
        match val with
        | .nilIface => unsupported (.noEntry "extern/reflectlite: a nil value of one interface type handed on as a value of another")
        | _ => storeVar dst a val
      else storeVar dst a (.iface src val)
    else panicString ("reflectlite.Set: value of type " ++ (← Rtype.spelt src) ++ " is not assignable to type " ++ (← Rtype.spelt dst))
    pure (.tuple #[])) := rfl
theorem As.parts25a (a : Addr) (w : World) : (ReflectliteValue.parts (.agg #[.pointer (some ⟨1, 62, none⟩), .pointer (some a), .int .u64 406])).run Tryd.prog w = .ok (some (62, a, 406)) w := by kernel_rfl
theorem As.parts25 (a : Addr) (w : World) : (ReflectliteValue.parts (.agg #[.pointer (some ⟨1, 62, none⟩), .pointer (some a), .int .u64 150])).run Tryd.prog w = .ok (some (62, a, 150)) w := by kernel_rfl
theorem As.direct25 (w : World) : (Rtype.directlyAssignable 62 62).run Tryd.prog w = .ok true w := by kernel_rfl
theorem As.size25 (w : World) : (sizeOf 62).run Tryd.prog w = .ok 1 w := by kernel_rfl
/-- (Value).Set: the *p.E variable at 'ta' gets what the Value's own variable 'b' holds. -/
theorem As.set25 (ta b e : Addr) (old : Value) (W : World) (hb : W.cell? b = some (.pointer (some e))) (ht : W.cell? ta = some old) (hf : W.frozen? ta = false) :
    (ReflectliteValue.set #[.agg #[.pointer (some ⟨1, 62, none⟩), .pointer (some ta), .int .u64 406], .agg #[.pointer (some ⟨1, 62, none⟩), .pointer (some b), .int .u64 150]]).run Tryd.prog W
      = .ok (.tuple #[]) (W.setCell ta (.pointer (some e))) := by
  rw [rls]
  simp only [Sem.run_bind, As.parts25a, As.parts25, Result.andThen]
  simp [ReflectliteValue.flagAddr, loadVar, isAgg, underlying, Tryd.underlying62, hb, Result.andThen, As.direct25, storeVar, Value.cells, storeCells, Addr.add]
  rw [run_store Tryd.prog W ta _ _ (by rfl)]
  simp [ht, hf]

set_option maxHeartbeats 4000000 in
theorem as_hit (e t : Addr) (old : Value) (w : World) (hg : w.cell? ⟨0, 0, none⟩ = some (.iface 125 (.agg #[.pointer (some ⟨1, 31, none⟩)]))) (ht0 : w.cell? t = some old) (hf0 : w.frozen? t = false) :
    Calls Tryd.prog 28 #[.iface 62 (.pointer (some e)), .iface 75 (.pointer (some t))] w fun ev w' => ev = .returned (.bool true) ∧ w' = ((((w.alloc (.cells #[.pointer (some t)] 75)).alloc (.cells #[.pointer (some ⟨1, 75, none⟩), .pointer (some ⟨w.heap.size, 0, none⟩), .int .u64 150] 101)).alloc (.cells #[.pointer (some ⟨1, 75, none⟩), .pointer (some ⟨w.heap.size, 0, none⟩), .int .u64 150] 101)).alloc (.cells #[.pointer (some e)] 62)).setCell t (.pointer (some e)) := by
  have h6 := @run_callFunc_extern Tryd.prog 49 _ (fun args => ReflectliteValue.unpack (args.getD 0 (.tuple #[]))) Tryd.func49 (by kernel_rfl) (by kernel_rfl) (by kernel_rfl) (by kernel_rfl)
  have h7 := @run_callFunc_extern Tryd.prog 50 _ (ReflectliteValue.methodAny (ReflectliteValue.valueError "reflectlite.Value.Type" 0) (fun t _ _ _ => ReflectliteType.toType t)) Tryd.func50 (by kernel_rfl) (by kernel_rfl) (by kernel_rfl) (by kernel_rfl)
  have h8 := @run_callFunc_extern Tryd.prog 51 _ (ReflectliteValue.method (ReflectliteValue.valueError "reflectlite.Value.IsNil" 0) ReflectliteValue.isNil) Tryd.func51 (by kernel_rfl) (by kernel_rfl) (by kernel_rfl) (by kernel_rfl)
  have h27 := @run_callFunc_extern Tryd.prog 103 _ (ReflectliteType.abiMethod fun t => do pure (.int .u8 (← Rtype.kind t))) Tryd.func103 (by kernel_rfl) (by kernel_rfl) (by kernel_rfl) (by kernel_rfl)
  have h37 := @run_callFunc_extern Tryd.prog 115 _ (ReflectliteType.method ReflectliteType.elem) Tryd.func115 (by kernel_rfl) (by kernel_rfl) (by kernel_rfl) (by kernel_rfl)
  have h38 := @run_callFunc_extern Tryd.prog 116 _ (ReflectliteType.relation "Implements" ReflectliteType.implements_) Tryd.func116 (by kernel_rfl) (by kernel_rfl) (by kernel_rfl) (by kernel_rfl)
  have h10 := @run_callFunc_extern Tryd.prog 77 _ ReflectliteType.typeOf Tryd.func77 (by kernel_rfl) (by kernel_rfl) (by kernel_rfl) (by kernel_rfl)
  have h35 := @run_callFunc_extern Tryd.prog 113 _ (ReflectliteType.relation "AssignableTo" ReflectliteType.assignableTo) Tryd.func113 (by kernel_rfl) (by kernel_rfl) (by kernel_rfl) (by kernel_rfl)
  have h11 := @run_callFunc_extern Tryd.prog 78 _ (ReflectliteValue.method (ReflectliteValue.valueError "reflectlite.Value.Elem" 0) ReflectliteValue.elem) Tryd.func78 (by kernel_rfl) (by kernel_rfl) (by kernel_rfl) (by kernel_rfl)
  have h12 := @run_callFunc_extern Tryd.prog 79 _ ReflectliteValue.set Tryd.func79 (by kernel_rfl) (by kernel_rfl) (by kernel_rfl) (by kernel_rfl)
  have tO := As.typeOf25
  have mA := As.methodAssignableTo
  have a25 := As.assignable25
  have v25 := As.valueOf25
  have f6 := As.valueOf27
  have f7 := As.type27
  have mK := As.methodKind
  have mE := As.methodElem
  have mI := As.methodImplements
  have k27 := As.kind27
  have k25 := As.kind25
  have e27 := As.elem27
  have i25 := As.implements25
  have n8 := As.isNil27 ⟨w.heap.size, 0, none⟩ t ((w.alloc (.cells #[.pointer (some t)] 75)).alloc (.cells #[.pointer (some ⟨1, 75, none⟩), .pointer (some ⟨w.heap.size, 0, none⟩), .int .u64 150] 101)) (by simp)
  have hlt : 0 < w.heap.size := by
    rcases Nat.eq_zero_or_pos w.heap.size with h0 | h
    · simp [World.cell?, h0] at hg
    · exact h
  have hg2 : ((w.alloc (.cells #[.pointer (some t)] 75)).alloc (.cells #[.pointer (some ⟨1, 75, none⟩), .pointer (some ⟨w.heap.size, 0, none⟩), .int .u64 150] 101)).cell? ⟨0, 0, none⟩ = some (.iface 125 (.agg #[.pointer (some ⟨1, 31, none⟩)])) := by
    rw [World.cell?_alloc_lt _ _ ⟨0, 0, none⟩ (by simp), World.cell?_alloc_lt _ _ ⟨0, 0, none⟩ hlt]; exact hg
  have htl : t.block < w.heap.size := by
    rcases Nat.lt_or_ge t.block w.heap.size with h | h
    · exact h
    · simp [World.cell?, Array.getElem?_eq_none h] at ht0
  have el := As.elemV27 ⟨w.heap.size, 0, none⟩ t (((w.alloc (.cells #[.pointer (some t)] 75)).alloc (.cells #[.pointer (some ⟨1, 75, none⟩), .pointer (some ⟨w.heap.size, 0, none⟩), .int .u64 150] 101)).alloc (.cells #[.pointer (some ⟨1, 75, none⟩), .pointer (some ⟨w.heap.size, 0, none⟩), .int .u64 150] 101)) (by rw [World.cell?_alloc_lt _ _ ⟨w.heap.size, 0, none⟩ (by simp; omega)]; simp)
  have st := As.set25 t ⟨w.heap.size + 1 + 1 + 1, 0, none⟩ e old ((((w.alloc (.cells #[.pointer (some t)] 75)).alloc (.cells #[.pointer (some ⟨1, 75, none⟩), .pointer (some ⟨w.heap.size, 0, none⟩), .int .u64 150] 101)).alloc (.cells #[.pointer (some ⟨1, 75, none⟩), .pointer (some ⟨w.heap.size, 0, none⟩), .int .u64 150] 101)).alloc (.cells #[.pointer (some e)] 62))
    (by rw [World.cell?_alloc_at _ _ _ _ (by simp)]; rfl)
    (by rw [World.cell?_alloc_lt _ _ t (by simp; omega), World.cell?_alloc_lt _ _ t (by simp; omega), World.cell?_alloc_lt _ _ t (by simp; omega), World.cell?_alloc_lt _ _ t htl]; exact ht0)
    (by rw [World.frozen?_alloc_old _ _ t (by simp; omega), World.frozen?_alloc_old _ _ t (by simp; omega), World.frozen?_alloc_old _ _ t (by simp; omega), World.frozen?_alloc_old _ _ t (Nat.ne_of_lt htl)]; exact hf0)
  go_enter Tryd.func28, Tryd.ntmps28
  go_wp2
  refine wp_loop_rounds 1 ?_
  rw [rounds_succ]
  go_wp2
  go_ret
  exact ⟨rfl, rfl⟩
end Go.Proofs.YtiijjopdhjpalaaDoor

/-! errors.As in the abstract evaluator. Conditions: none. -/
namespace Go.Proofs.YtiijjopdhjpalaaDoor
open Go
set_option linter.unusedVariables false
set_option linter.unusedSimpArgs false
/-- errors.As(err, &f), f a *api.Fault. -/
def asF : AF := fun args m => match args with
  | [.nili, _] => some (.ret (.bool false), m)
  | [.ifc t v, .ifc t2 p] => if t = 62 ∧ t2 = 75 then (match v with
      | .ptr .. | .tp _ => (match aStore m false 1 p v with
        | some m' => some (.ret (.bool true), m')
        | none => none)
      | _ => none) else none
  | _ => none
section
variable {β : Nat → Option Blk} {O : Nat → Prop} {w : World} {m : AMem}
theorem stp_more {w' : World} {x : Obj} (hs : Sim β O w m) (e : w'.heap = w.heap.push x) (hout : w'.os = w.os ∧ w'.output = w.output := by exact ⟨rfl, rfl⟩) : Stp β O w m m.next β O w' m ∧ Sim β O w' m := hs.more e m.next hout
theorem storeVar_run {P : Program} {t : TypeId} {i : TypeInfo} (hi : P.info? t = some i) (h1 : i.size = 1) {a : Addr} {old v : Value} (hv : v.cells = #[v]) (h2 : v.oneCell' = true) (ht : w.cell? a = some old) (hf : w.frozen? a = false) : (storeVar t a v).run P w = .ok () (w.setCell a v) := by
  simp [storeVar, hv, sizeOf, typeInfo, hi, h1, storeCells, Addr.add, Sem.run_bind]
  rw [run_store P w a _ _ h2]
  simp [ht, hf]
theorem glob_cell (h : GlobOk O w) : w.cell? ⟨0, 0, none⟩ = some (.iface 125 (.agg #[.pointer (some ⟨1, 31, none⟩)])) := (h (0, 0, .iface 125 (.agg #[.pointer (some ⟨1, 31, none⟩)])) (List.mem_cons_self ..)).2
theorem as_info0 : (Tryd.prog.info? 62).map (·.size) = some 1 := by kernel_rfl
theorem as_info : ∃ i, Tryd.prog.info? 62 = some i ∧ i.size = 1 := by
  have h := as_info0
  cases hi : Tryd.prog.info? 62 with
  | none => rw [hi] at h; cases h
  | some i => rw [hi] at h; exact ⟨i, rfl, by simpa using h⟩
theorem asF_inv {args : List AV} {o : AOut} {m' : AMem} (hF : asF args m = some (o, m')) : (∃ b, args = [.nili, b] ∧ o = .ret (.bool false) ∧ m' = m) ∨
    ∃ v p, args = [.ifc 62 v, .ifc 75 p] ∧ ((∃ a b c, v = .ptr a b c) ∨ ∃ x, v = .tp x) ∧ aStore m false 1 p v = some m' ∧ o = .ret (.bool true) := by
  unfold asF at hF
  split at hF
  · injection hF with hF
    injection hF with e1 e2
    exact .inl ⟨_, rfl, e1.symm, e2.symm⟩
  · split at hF
    · rename_i htt
      obtain ⟨rfl, rfl⟩ := htt
      split at hF
      · split at hF
        · rename_i hst
          injection hF with hF
          injection hF with e1 e2
          subst e2
          exact .inr ⟨_, _, rfl, .inl ⟨_, _, _, rfl⟩, hst, e1.symm⟩
        · cases hF
      · split at hF
        · rename_i hst
          injection hF with hF
          injection hF with e1 e2
          subst e2
          exact .inr ⟨_, _, rfl, .inr ⟨_, rfl⟩, hst, e1.symm⟩
        · cases hF
      · cases hF
    · cases hF
  · cases hF
theorem store_cell (hs : Sim β O w m) {p v : AV} {m' : AMem} {y : Value} (hy : Rep β O w p y) (hst : aStore m false 1 p v = some m') : ∃ b o old, y = .pointer (some ⟨b, o, none⟩) ∧ w.cell? ⟨b, o, none⟩ = some old ∧ w.frozen? ⟨b, o, none⟩ = false ∧ b < w.heap.size := by
  unfold aStore at hst
  split at hst
  · rename_i id i off
    split at hst
    · rename_i ty s es hget
      split at hst
      · rename_i e he
        split at hst
        · rename_i hc
          simp only [Bool.and_eq_true, decide_eq_true_eq] at hc
          obtain ⟨bl, hbl, rfl⟩ := rep_ptr hy
          have hb := (hs.objs _ _ hget).2.2.2 bl hbl
          obtain ⟨c, hcc⟩ : ∃ c, e.cells[off]? = some c := ⟨_, List.getElem?_eq_getElem (by omega)⟩
          obtain ⟨u, hu, _, _⟩ := hb.cellAt he hcc
          obtain ⟨_, _, _, cs, hh, _⟩ := hb
          exact ⟨_, _, u, rfl, hu, by simp [World.frozen?, hh], cell_lt hu⟩
        · cases hst
      · cases hst
    · cases hst
  · cases hst
theorem asF_ok : CallOk Tryd.prog 28 asF := by
  intro β O w m args us o m' hs hargs hF
  have hent : (callFunc 28 us.toArray).run Tryd.prog w = .ok (.enter 28 us.toArray) w := enter_run Tryd.func28 (by kernel_rfl) (by kernel_rfl) _ _
  refine .inl ⟨hent, ?_⟩
  clear hent
  rcases asF_inv hF with ⟨b, rfl, rfl, rfl⟩ | ⟨v, p, rfl, hv, hst, rfl⟩
  · cases hargs with | cons ha hb => cases hb with | cons hb hn => cases hn with | nil =>
    rw [rep_nili ha]
    refine (as_nil _ w).mono ?_
    rintro e w' ⟨rfl, rfl⟩
    exact ⟨.bool false, β, O, rfl, .refl _ _ _ _ _, hs, .tree .bool⟩
  · cases hargs with | cons ha hb => cases hb with | cons hb hn => cases hn with | nil =>
    obtain ⟨x, rfl, hx⟩ := rep_ifc ha
    obtain ⟨y, rfl, hy⟩ := rep_ifc hb
    have ⟨ad, hx'⟩ : ∃ ad, x = .pointer (some ad) := by
      rcases hv with ⟨_, _, _, rfl⟩ | ⟨_, rfl⟩
      · obtain ⟨bl, _, e⟩ := rep_ptr hx; exact ⟨_, e⟩
      · obtain ⟨b, o, e, _⟩ := rep_tp hx; exact ⟨_, e⟩
    subst hx'
    obtain ⟨b, o, old, rfl, hc1, hc2, hbl⟩ := store_cell hs hy hst
    refine (as_hit ad ⟨b, o, none⟩ old w (glob_cell hs.glob) hc1 hc2).mono ?_
    rintro e w' ⟨rfl, rfl⟩
    generalize hw1 : w.alloc (.cells #[.pointer (some ⟨b, o, none⟩)] 75) = w1
    obtain ⟨_, z1⟩ : ∃ ob, w1.heap = w.heap.push ob := ⟨_, (congrArg World.heap hw1).symm⟩
    have y1 : w1.os = w.os ∧ w1.output = w.output := by rw [← hw1]; exact ⟨rfl, rfl⟩
    generalize hw2 : w1.alloc (.cells #[.pointer (some ⟨1, 75, none⟩), .pointer (some ⟨w.heap.size, 0, none⟩), .int .u64 150] 101) = w2
    obtain ⟨_, z2⟩ : ∃ ob, w2.heap = w1.heap.push ob := ⟨_, (congrArg World.heap hw2).symm⟩
    have y2 : w2.os = w1.os ∧ w2.output = w1.output := by rw [← hw2]; exact ⟨rfl, rfl⟩
    generalize hw3 : w2.alloc (.cells #[.pointer (some ⟨1, 75, none⟩), .pointer (some ⟨w.heap.size, 0, none⟩), .int .u64 150] 101) = w3
    obtain ⟨_, z3⟩ : ∃ ob, w3.heap = w2.heap.push ob := ⟨_, (congrArg World.heap hw3).symm⟩
    have y3 : w3.os = w2.os ∧ w3.output = w2.output := by rw [← hw3]; exact ⟨rfl, rfl⟩
    generalize hw4 : w3.alloc (.cells #[.pointer (some ad)] 62) = w4
    obtain ⟨_, z4⟩ : ∃ ob, w4.heap = w3.heap.push ob := ⟨_, (congrArg World.heap hw4).symm⟩
    have y4 : w4.os = w3.os ∧ w4.output = w3.output := by rw [← hw4]; exact ⟨rfl, rfl⟩
    obtain ⟨st1, s1⟩ := stp_more hs z1 y1
    obtain ⟨st2, s2⟩ := stp_more s1 z2 y2
    obtain ⟨st3, s3⟩ := stp_more s2 z3 y3
    obtain ⟨st4, s4⟩ := stp_more s3 z4 y4
    have st := ((st1.trans st2).trans st3).trans st4
    obtain ⟨i, hi, hi1⟩ := as_info
    obtain ⟨w5, β5, O5, hrun, st5, s5⟩ := aStore_ok (P := Tryd.prog) s4 hst (hy.keep st.goes st.keeps) (hx.keep st.goes st.keeps) hi hi1 m.next
    have l1 : w1.heap.size = w.heap.size + 1 := by rw [z1]; simp
    have l2 : w2.heap.size = w1.heap.size + 1 := by rw [z2]; simp
    have l3 : w3.heap.size = w2.heap.size + 1 := by rw [z3]; simp
    have hc4 : w4.cell? ⟨b, o, none⟩ = some old := by
      rw [← hw4, World.cell?_alloc_lt _ _ _ (by simp; omega), ← hw3, World.cell?_alloc_lt _ _ _ (by simp; omega), ← hw2, World.cell?_alloc_lt _ _ _ (by simp; omega), ← hw1, World.cell?_alloc_lt _ _ _ (by simpa using hbl)]
      exact hc1
    have hf4 : w4.frozen? ⟨b, o, none⟩ = false := by
      rw [← hw4, World.frozen?_alloc_old _ _ _ (by simp; omega), ← hw3, World.frozen?_alloc_old _ _ _ (by simp; omega), ← hw2, World.frozen?_alloc_old _ _ _ (by simp; omega), ← hw1, World.frozen?_alloc_old _ _ _ (by simp; omega)]
      exact hc2
    have hrun2 := storeVar_run (P := Tryd.prog) (w := w4) hi hi1 (a := ⟨b, o, none⟩) (v := .pointer (some ad)) rfl rfl hc4 hf4
    simp only [Instr.storeAt, Instr.sureAddr, Sem.run_bind, Sem.run_pure, Result.andThen_ok, hrun2] at hrun
    injection hrun with _ hrun
    rw [hrun]
    exact ⟨.bool true, β5, O5, rfl, st.trans st5, s5, .tree .bool⟩
theorem asF_good : Good asF := by
  intro args m o m' hF
  rcases asF_inv hF with ⟨b, rfl, rfl, rfl⟩ | ⟨v, p, rfl, hv, hm2, rfl⟩
  · exact .refl _ _
  · unfold aStore at hm2
    repeat' (split at hm2)
    all_goals (cases hm2)
    rename_i hget _ _ _ _
    exact grows_put (.inr (by rw [hget]; exact fun h => nomatch h))
end
end Go.Proofs.YtiijjopdhjpalaaDoor

/-! slices.Clone of nothing. Conditions: none. -/
namespace Go.Proofs.YtiijjopdhjpalaaDoor
open Go
set_option linter.unusedVariables false
set_option linter.unusedSimpArgs false
theorem cl_eql (a : Option Addr) (l c : Nat) (w : World) : (binOp .eql 41 (.slice a l c) (.slice none 0 0)).run Tryd.prog w = .ok (.bool a.isNone) w := by
  simp only [binOp]
  simp [run_equal_slice_nil w _ _ a l c Tryd.underlying41]
theorem cl_build (w : World) : (Instr.buildSlice 41 0 #[]).run Tryd.prog w = .ok (.slice (some ⟨w.heap.size, 0, none⟩) 0 0) (w.alloc (.cells #[] 3)) := by kernel_rfl
theorem cl_append (x a : Addr) (c : Nat) (w : World) : (Builtin.append_ #[41, 41] 41 #[.slice (some x) 0 0, .slice (some a) 0 c]).run Tryd.prog w = .ok (.slice (some x) 0 0) w := by kernel_rfl
set_option maxRecDepth 100000 in
theorem clone_nil (cap : Nat) (w : World) :
    Calls Tryd.prog 30 #[.slice none 0 cap] w fun e w' => e = .returned (.slice none 0 0) ∧ w' = w := by
  go_enter Tryd.func30, Tryd.ntmps30
  have he := cl_eql
  go_wp2
  go_ret
  exact ⟨rfl, rfl⟩
set_option maxRecDepth 100000 in
theorem clone_some (a : Addr) (cap : Nat) (w : World) :
    Calls Tryd.prog 30 #[.slice (some a) 0 cap] w fun e w' => e = .returned (.slice (some ⟨w.heap.size, 0, none⟩) 0 0) ∧ w' = w.alloc (.cells #[] 3) := by
  go_enter Tryd.func30, Tryd.ntmps30
  have he := cl_eql
  have hb := cl_build
  have ha := cl_append
  go_wp2
  go_ret
  exact ⟨rfl, rfl⟩
end Go.Proofs.YtiijjopdhjpalaaDoor

/-! slices.Clone in the evaluator: of nothing comes nothing, whether nil or not. Conditions: none. -/
namespace Go.Proofs.YtiijjopdhjpalaaDoor
open Go
set_option linter.unusedVariables false
set_option linter.unusedSimpArgs false
def emptyA : AV → Bool
  | .nils | .ts _ [] | .sl _ _ _ 0 => true
  | _ => false
def cloneF (fn : AFun) (calls : Nat → AF) : AF := fun args m => match args with
  | [v] => cond (emptyA v) (some (.ret (.ts 0 []), m)) (aBody calls fn [v] m)
  | _ => none
theorem rep_empty {β : Nat → Option Blk} {O : Nat → Prop} {w : World} {v : AV} {u : Value} (h : emptyA v = true) (hr : Rep β O w v u) : ∃ a c, u = .slice a 0 c := by
  unfold emptyA at h
  split at h
  · exact ⟨_, _, rep_nils hr⟩
  · rcases rep_ts hr with ⟨b, o, c, _, _, e⟩ | ⟨_, a, c, e⟩
    · exact ⟨_, _, e⟩
    · exact ⟨_, _, e⟩
  · rcases rep_sl hr with ⟨bl, c, _, _, _, _, e⟩ | ⟨_, a, e⟩
    · exact ⟨_, _, e⟩
    · exact ⟨_, _, e⟩
  · cases h
theorem cloneF_ok {P : Program} {g : Nat} {fn : Func} {af : AFun} {calls : Nat → AF} (hf : P.funcs[g]? = some fn) (hb : fn.body.isNone = false) (hname : (fn.name == "runtime.NumGoroutine") = false) (hc : CallOk P g (aBody calls af))
    (h0 : ∀ (c : Nat) (w : World), Calls P g #[.slice none 0 c] w fun e w' => e = .returned (.slice none 0 0) ∧ w' = w) {t : Nat}
    (h1 : ∀ (a : Addr) (c : Nat) (w : World), Calls P g #[.slice (some a) 0 c] w fun e w' => e = .returned (.slice (some ⟨w.heap.size, 0, none⟩) 0 0) ∧ w' = w.alloc (.cells #[] t)) : CallOk P g (cloneF af calls) := by
  intro β O w m args us o m' hs hr hF
  unfold cloneF at hF
  split at hF
  · rename_i v
    cases he : emptyA v with
    | false =>
      rw [he, cond_false] at hF
      exact hc β O w m _ us o m' hs hr hF
    | true =>
      rw [he, cond_true] at hF
      injection hF with hF
      injection hF with e1 e2
      subst e1 e2
      cases hr with
      | cons h t =>
        cases t
        obtain ⟨a, c, rfl⟩ := rep_empty he h
        refine .inl ⟨enter_run hf hb hname _ w, ?_⟩
        cases a with
        | none =>
          refine (h0 c w).mono ?_
          rintro e w' ⟨rfl, rfl⟩
          exact ⟨.ts 0 [], β, O, rfl, .refl _ _ _ _ _, hs, .tree .ts0⟩
        | some a =>
          refine (h1 a c w).mono ?_
          rintro e w' ⟨rfl, rfl⟩
          obtain ⟨a1, a2⟩ := hs.more (w' := w.alloc (.cells #[] t)) rfl m.next
          exact ⟨.ts 0 [], β, O, rfl, a1, a2, .tree .ts0⟩
  · cases hF
theorem cloneF_good {af : AFun} {calls : Nat → AF} (h : Good (aBody calls af)) : Good (cloneF af calls) := by
  intro args m o m' hF
  unfold cloneF at hF
  split at hF
  · rename_i v
    cases he : emptyA v with
    | false =>
      rw [he, cond_false] at hF
      exact h _ _ _ _ hF
    | true =>
      rw [he, cond_true] at hF
      injection hF with hF
      injection hF with e1 e2
      subst e2
      exact .refl _ _
  · cases hF
end Go.Proofs.YtiijjopdhjpalaaDoor

/-! image.Decode: a function that defers one closure, which recovers. Conditions: none. -/
namespace Go.Proofs.YtiijjopdhjpalaaDoor
open Go
set_option linter.unusedVariables false
set_option linter.unusedSimpArgs false
/-- Its results, as they stand in memory. -/
def resK (res : List ARes) (env : AEnv) : Kont := fun e _ m => match e with
  | .normal | .ret => (aResL env m res).map fun vs => (.ret (retV vs), m)
  | _ => none
def envC (p q v : AV) : AEnv := upd (upd (env0 [p, q]) (some 5) v) (some 2) v
/-- What is called, and what is done behind it. -/
structure DecC where
  r0 : ACode
  rx : ACode
  r3 : ACode
  r6 : ACode
  rc : ACode
  res : List ARes
  prog : Nat
  clos : Nat
def decK6 (calls : Nat → AF) (d : DecC) (p q : AV) : Kont := fun e env m => match e with
  | .normal | .ret => aCode calls d.rc (envC p q .nili) m (resK d.res env)
  | _ => none
def decBody (calls : Nat → AF) (d : DecC) (env : AEnv) (m : AMem) : Res :=
  let env1 := upd (upd env (some 16) (.fn (.func d.clos) [] [env 2, env 3])) (some 17) (env 4)
  match calls d.prog [env 4] m with
  | some (.ret v, m') => aCode calls d.r6 (upd env1 (some 18) v) m' (decK6 calls d (env 2) (env 3))
  | some (.pan v, m') => aCode calls d.rc (envC (env 2) (env 3) v) m' (resK d.res env1)
  | none => none
def decK3 (calls : Nat → AF) (d : DecC) : Kont := fun e env m => match e with
  | .normal => decBody calls d env m
  | _ => none
def decKX (calls : Nat → AF) (d : DecC) : Kont := fun e env m => match e with
  | .normal => aCode calls d.r3 env m (decK3 calls d)
  | .ret => (aResL env m d.res).map fun vs => (.ret (retV vs), m)
  | _ => none
def decK0 (calls : Nat → AF) (d : DecC) : Kont := fun e env m => match e with
  | .normal => aCode calls d.rx env m (decKX calls d)
  | _ => none
def decF (calls : Nat → AF) (d : DecC) : AF := fun args m => aCode calls d.r0 (env0 args) m (decK0 calls d)
section
variable {P : Program} {β : Nat → Option Blk} {O : Nat → Prop} {w : World} {m : AMem}
variable {calls : Nat → AF}
theorem env0_ok {args : List AV} {us : List Value} (hargs : RepL β O w args us) (nt : Nat) : EnvOk β O w (env0 args) nt (us.toArray ++ Array.replicate (nt - us.toArray.size) undef) := by
  refine ⟨by simp; omega, fun t => ?_⟩
  unfold env0
  cases ht : args[t]? with
  | some v =>
    obtain ⟨u, hu, hr⟩ := hargs.get t ht
    have hl := (List.getElem?_eq_some_iff.1 hu).1
    have : (us.toArray ++ Array.replicate (nt - us.toArray.size) undef).getD t undef = u := by
      simp only [Array.getD_eq_getD_getElem?]
      rw [Array.getElem?_append_left (by simpa using hl)]
      simp [hu]
    rw [this]
    exact hr
  | none =>
    have hl : us.length ≤ t := by
      have := List.getElem?_eq_none_iff.1 ht
      rw [hargs.length] at this
      exact this
    have : (us.toArray ++ Array.replicate (nt - us.toArray.size) undef).getD t undef = undef := by
      simp only [Array.getD_eq_getD_getElem?]
      rw [Array.getElem?_append_right (by simpa using hl)]
      rw [Array.getElem?_replicate]
      split <;> rfl
    rw [this]
    exact rep_undef
/-- The results of a function, out of its slots. -/
theorem results_ok {fn : Func} (hs : Sim β O w m) {tmps : Array Value} {env : AEnv} (he : ∀ t, Rep β O w (env t) (tmps.getD t undef)) {rs : List ARes} (hrs : cResL P fn.results.toList = some rs) {vs : List AV} (hvs : aResL env m rs = some vs) :
    ∃ u, (results fn tmps).run P w = .ok u w ∧ Rep β O w (retV vs) u := by
  obtain ⟨ul, h1, h2⟩ := resL_ok (P := P) hs he hrs hvs
  refine ⟨if h : ul.toArray.size = 1 then ul.toArray[0] else .tuple ul.toArray, ?_, ?_⟩
  · unfold results
    rw [Array.mapM_eq_mapM_toList]
    simp only [map_eq_pure_bind, Sem.run_bind]
    exact congrArg (fun R : Result (List Value) => (R.andThen fun a w' => Sem.run P (pure a.toArray) w').andThen fun a w' => Sem.run P (pure (if h : a.size = 1 then a[0] else Value.tuple a)) w') h1
  · have hlen := h2.length
    match vs, ul, h2 with
    | [], [], _ => exact .tup (vs := []) .nil
    | [v], [u], .cons hu .nil => exact hu
    | v :: v2 :: vs, u :: u2 :: ul, h => exact .tup (vs := u :: u2 :: ul) h
theorem resK_some {res : List ARes} {env env' : AEnv} {e : AExit} {m : AMem} {r : AOut × AMem} (h : resK res env e env' m = some r) : (e = .normal ∨ e = .ret) ∧ ∃ vs, aResL env m res = some vs ∧ r = (.ret (retV vs), m) := by
  unfold resK at h
  split at h
  · simp only [Option.map_eq_some_iff] at h
    obtain ⟨vs, h1, h2⟩ := h
    exact ⟨.inl rfl, vs, h1, h2.symm⟩
  · simp only [Option.map_eq_some_iff] at h
    obtain ⟨vs, h1, h2⟩ := h
    exact ⟨.inr rfl, vs, h1, h2.symm⟩
  · cases h
/-- The closure: it recovers; then its code. -/
structure ClosIs (P : Program) (f : Nat) (fn : Func) (pf : Nat → Bool) (ac : ACode) : Prop where
  func : P.funcs[f]? = some fn
  body : ∃ id ops c o0 o1 k, fn.body = some (.seq (.region id ops false) c) ∧ ops = #[o0, o1] ∧ o0.op = .call k ∧ k.callee = .builtin .recover ∧ k.args = #[] ∧ o0.dst = some 5 ∧ o0.guard = none ∧ o1.op = .assign (.tmp 5) ∧ o1.dst = some 2 ∧ o1.guard = none ∧ cCode P pf fn.ntmps c = some ac
  res : fn.results = #[]
  nt : 5 < fn.ntmps
theorem clos_ok (Hc : ∀ g, CallOk P g (calls g)) (Hg : ∀ g, Good (calls g)) {pf : Nat → Bool} (hp : ∀ g, pf g = true → PureF (calls g)) (hm : P.follows .mixedOrders = true) {f : Nat} {fn : Func} {ac : ACode} (hcl : ClosIs P f fn pf ac)
    (hs : Sim β O w m) {p q v : AV} {up uq uv : Value} (hp' : Rep β O w p up) (hq' : Rep β O w q uq) (hv' : Rep β O w v uv) {u u' : FrameMode}
    (hmode : (u = .returning ∧ u' = .returning ∧ uv = .nilIface) ∨ (u = .panicking [{ v := uv, recovered := false }] ∧ u' = .panicking [{ v := uv, recovered := true }]))
    {res : List ARes} {env : AEnv} {r : AOut × AMem} (h : aCode calls ac (envC p q v) m (resK res env) = some r) :
    CallsD P f #[up, uq] u w fun
      | .returned _, u2, w' => u2 = u' ∧ ∃ β' O' m' vs, Stp β O w m m.next β' O' w' m' ∧ Sim β' O' w' m' ∧ aResL env m' res = some vs ∧ r = (.ret (retV vs), m')
      | _, _, _ => False := by
  obtain ⟨id, ops, c, o0, o1, k, hb, rfl, ho0, hk1, hk2, hd0, hg0, ho1, hd1, hg1, hcc⟩ := hcl.body
  refine callsD_of_wpS hcl.func hb fun c₀ cs hc₀ => ?_
  refine wpS_seq (wpS_region ?_)
  have hsz : (#[o0, o1] : Array Oper).size = 2 := rfl
  have hw0 : ∀ y, Region.wanted o0 y = true := fun y => by simp [Region.wanted, hg0]
  have hw1 : ∀ y, Region.wanted o1 y = true := fun y => by simp [Region.wanted, hg1]
  have hrec : ∀ ρ w, (execOp ρ o0).run P w = .ok .recover w := fun ρ w => by
    simp [execOp, ho0, resolve, hk1, hk2, invoke, builtin, Sem.run_bind]
  have hl : List.range (#[o0, o1] : Array Oper).size = [0, 1] := rfl
  have hargs : RepL β O w [p, q] [up, uq] := .cons hp' (.cons hq' .nil)
  have he0 := env0_ok hargs fn.ntmps
  have ht5 : 5 < (#[up, uq] ++ Array.replicate (fn.ntmps - #[up, uq].size) undef).size := by have := hcl.nt; simp; omega
  have go : ∀ cs2, (∃ u2, cs2 = { c₀ with mode := u2 } :: cs ∧ u2 = u') → c.wpS P (bodyPostS P fn c₀ cs fun
      | .returned _, u2, w' => u2 = u' ∧ ∃ β' O' m' vs, Stp β O w m m.next β' O' w' m' ∧ Sim β' O' w' m' ∧ aResL env m' res = some vs ∧ r = (.ret (retV vs), m')
      | _, _, _ => False) (((Act.mk (#[up, uq] ++ Array.replicate (fn.ntmps - #[up, uq].size) undef) []).put (some 5) uv).put (some 2) uv) cs2 w := by
    rintro cs2 ⟨u2, rfl, rfl⟩
    refine wpS_of_wp (code_ok (ds := []) Hc Hg hp hm c hcc (env := envC p q v) hs ?_ ?_ ?_ h ?_)
    · refine EnvOk.put (EnvOk.put he0 (fun x hx => ?_) hv' (Act.mk _ []) rfl) (fun x hx => ?_) hv' _ rfl
      · injection hx with hx; have := hcl.nt; omega
      · injection hx with hx; have := hcl.nt; omega
    · intro v e e' m; rfl
    · rfl
    · intro e env' m' e' a' w' β' O' hK hex st hsim hev hdf
      obtain ⟨he, vs, hvs, hr⟩ := resK_some hK
      have hres : (results fn a'.tmps).run P w' = .ok (.tuple #[]) w' := by simp [results, hcl.res]
      have fin : bodyPostS P fn c₀ cs (fun
          | .returned _, u2', w' => u2' = u2 ∧ ∃ β' O' m' vs, Stp β O w m m.next β' O' w' m' ∧ Sim β' O' w' m' ∧ aResL env m' res = some vs ∧ r = (.ret (retV vs), m')
          | _, _, _ => False) .normal a' ({ c₀ with mode := u2 } :: cs) w' := ⟨hdf, u2, rfl, _, hres, rfl, β', O', m', vs, st, hsim, hvs, hr⟩
      rcases he with rfl | rfl <;> cases e' <;> simp only [ExitIs] at hex <;> exact fin
  rw [hl]
  simp only [wpOpsS, List.getElem?_toArray, List.getElem?_cons_zero, List.getElem?_cons_succ, hw0, hw1, if_true, hrec]
  have hput : ∀ a : Act, 5 < a.tmps.size → (a.put (some 5) uv).eval (.tmp 5) = uv := fun a ha => by simp [Act.put, Act.eval, ha]
  have hassign : ∀ a : Act, 5 < a.tmps.size → (execOp (a.put (some 5) uv).eval o1).run P w = .ok (.value uv) w := fun a ha => by
    simp [execOp, ho1, hput a ha]
  rcases hmode with ⟨rfl, rfl, rfl⟩ | ⟨rfl, rfl⟩
  · have : recoverD (c₀ :: cs) = none := by simp [recoverD, hc₀]
    simp only [this, hd0, hassign (Act.mk _ []) ht5, Oper.upon, hd1]
    exact go _ ⟨.returning, by rw [← hc₀], rfl⟩
  · have : recoverD (c₀ :: cs) = some (uv, { c₀ with mode := .panicking [{ v := uv, recovered := true }] } :: cs) := by simp [recoverD, hc₀]
    simp only [this, hd0, hassign (Act.mk _ []) ht5, Oper.upon, hd1]
    exact go _ ⟨_, rfl, rfl⟩
structure DecIs (P : Program) (f : Nat) (fn fnc : Func) (pf : Nat → Bool) (d : DecC) : Prop where
  func : P.funcs[f]? = some fn
  name : (fn.name == "runtime.NumGoroutine") = false
  body : ∃ c0 cx c3 c6 i4 i5 o40 o41 o50 o51 k4 k5, fn.body = some (.seq c0 (.seq cx (.seq c3 (.seq (.region i4 #[o40, o41] false) (.seq (.region i5 #[o50, o51] false) c6))))) ∧
    (cCode P pf fn.ntmps c0 = some d.r0 ∧ cCode P pf fn.ntmps cx = some d.rx ∧ cCode P pf fn.ntmps c3 = some d.r3 ∧ cCode P pf fn.ntmps c6 = some d.r6) ∧
    (o40.op = .makeFunc (.func d.clos) #[] #[.tmp 2, .tmp 3] ∧ o40.dst = some 16 ∧ o40.guard = none) ∧
    (o41.op = .defer k4 ∧ k4.callee = .value (.tmp 16) ∧ k4.args = #[] ∧ o41.dst = none ∧ o41.guard = none) ∧
    (o50.op = .move (.tmp 4) ∧ o50.dst = some 17 ∧ o50.guard = none) ∧
    (o51.op = .call k5 ∧ k5.callee = .value (.func d.prog) ∧ k5.args = #[.tmp 17] ∧ o51.dst = some 18 ∧ o51.guard = none)
  res : cResL P fn.results.toList = some d.res
  nt : 18 < fn.ntmps
  clos : ClosIs P d.clos fnc pf d.rc
  closBody : fnc.body.isNone = false
  closName : (fnc.name == "runtime.NumGoroutine") = false
theorem put_eval {a : Act} {d : Nat} {v : Value} (h : d < a.tmps.size) : (a.put (some d) v).eval (.tmp d) = v := by simp [Act.put, Act.eval, h]
theorem put_size (a : Act) (d : Option Nat) (v : Value) : (a.put d v).tmps.size = a.tmps.size := by cases d <;> simp [Act.put]
theorem dec_tail (Hc : ∀ g, CallOk P g (calls g)) (Hg : ∀ g, Good (calls g)) {pf : Nat → Bool} (hp : ∀ g, pf g = true → PureF (calls g)) (hm : P.follows .mixedOrders = true) {f : Nat} {fn fnc : Func} {d : DecC} (hd : DecIs P f fn fnc pf d)
    (hs : Sim β O w m) {env : AEnv} {a : Act} (he : EnvOk β O w env fn.ntmps a.tmps) (hdf : a.defers = []) {r : AOut × AMem} (h : decBody calls d env m = some r) {R : Ending → World → Prop}
    (hR : ∀ v u w' β' O' m', r = (.ret v, m') → Stp β O w m m.next β' O' w' m' → Sim β' O' w' m' → Rep β' O' w' v u → R (.returned u) w')
    {c6 : Code} {i4 i5 : Nat} {o40 o41 o50 o51 : Oper} {k4 k5 : Call} (h6 : cCode P pf fn.ntmps c6 = some d.r6)
    (e40 : o40.op = .makeFunc (.func d.clos) #[] #[.tmp 2, .tmp 3] ∧ o40.dst = some 16 ∧ o40.guard = none)
    (e41 : o41.op = .defer k4 ∧ k4.callee = .value (.tmp 16) ∧ k4.args = #[] ∧ o41.dst = none ∧ o41.guard = none)
    (e50 : o50.op = .move (.tmp 4) ∧ o50.dst = some 17 ∧ o50.guard = none)
    (e51 : o51.op = .call k5 ∧ k5.callee = .value (.func d.prog) ∧ k5.args = #[.tmp 17] ∧ o51.dst = some 18 ∧ o51.guard = none) :
    (Code.seq (.region i4 #[o40, o41] false) (.seq (.region i5 #[o50, o51] false) c6)).wp P (bodyPostD P fn R) a w := by
  have hnt := hd.nt
  have hasz : fn.ntmps ≤ a.tmps.size := he.1
  let F : Value := .func (.func d.clos) #[] #[a.eval (.tmp 2), a.eval (.tmp 3)]
  let d1 : Deferred := { target := .fn (.func d.clos) #[a.eval (.tmp 2), a.eval (.tmp 3)], args := #[] }
  let a1 : Act := a.put (some 16) F
  let a2 : Act := { a1 with defers := [d1] }
  let a3 : Act := a2.put (some 17) (a.eval (.tmp 4))
  have r40 : ∀ w, (execOp a.eval o40).run P w = .ok (.value F) w := fun w => by
    simp [execOp, e40.1, Instr.makeFunc, F, Sem.run_bind]
  have r41 : ∀ w, (execOp a1.eval o41).run P w = .ok (.defer d1) w := fun w => by
    have : a1.eval (.tmp 16) = F := put_eval (by omega)
    simp [execOp, e41.1, resolve, e41.2.1, e41.2.2.1, this, Deferred.ofValue, F, d1, Sem.run_bind]
  have ev4 : a2.eval (.tmp 4) = a.eval (.tmp 4) := by
    show a1.eval (.tmp 4) = _
    exact Act.eval_put (fun x hx => by injection hx with hx; subst hx; exact fun h => by cases h)
  have r50 : ∀ w, (execOp a2.eval o50).run P w = .ok (.value (a.eval (.tmp 4))) w := fun w => by
    simp only [execOp, e50.1, ev4]
    rfl
  have ev17 : a3.eval (.tmp 17) = a.eval (.tmp 4) := put_eval (by show 17 < a1.tmps.size; rw [put_size]; omega)
  have w4 : ∀ y, Region.wanted o40 y = true := fun y => by simp [Region.wanted, e40.2.2]
  have w41 : ∀ y, Region.wanted o41 y = true := fun y => by simp [Region.wanted, e41.2.2.2.2]
  have w50 : ∀ y, Region.wanted o50 y = true := fun y => by simp [Region.wanted, e50.2.2]
  have w51 : ∀ y, Region.wanted o51 y = true := fun y => by simp [Region.wanted, e51.2.2.2.2]
  -- what the slots stand for
  have hF : Rep β O w (.fn (.func d.clos) [] [env 2, env 3]) F := .fn (x := []) (y := [_, _]) .nil (.cons (he.2 2) (.cons (he.2 3) .nil))
  have he1 : EnvOk β O w (upd (upd env (some 16) (.fn (.func d.clos) [] [env 2, env 3])) (some 17) (env 4)) fn.ntmps a3.tmps := by
    refine EnvOk.put (EnvOk.put he (fun x hx => ?_) hF a rfl) (fun x hx => ?_) (he.2 4) a2 rfl
    · injection hx with hx; omega
    · injection hx with hx; omega
  refine wp_seq (wp_region ?_)
  show wpOps P #[o40, o41] _ [0, 1] a w
  simp only [wpOps, List.getElem?_toArray, List.getElem?_cons_zero, List.getElem?_cons_succ, w4, w41, if_true]
  refine .inl ?_
  rw [Oper.wp, r40, Oper.upon_value, e40.2.1]
  refine .inl ?_
  show o41.upon P a1 _ _ ((execOp a1.eval o41).run P w)
  rw [r41, Oper.upon_defer, e41.2.2.2.1]
  have hda1 : a1.defers = [] := by rw [show a1.defers = a.defers from put_defers _ _ _]; exact hdf
  show (Code.seq (.region i5 #[o50, o51] false) c6).wp P _ { a1 with defers := d1 :: a1.defers } w
  rw [hda1]
  refine wp_seq (wp_region ?_)
  show wpOps P #[o50, o51] _ [0, 1] a2 w
  simp only [wpOps, List.getElem?_toArray, List.getElem?_cons_zero, List.getElem?_cons_succ, w50, w51, if_true]
  refine .inl ?_
  rw [Oper.wp, r50, Oper.upon_value, e50.2.1]
  refine .inl ?_
  show o51.upon P a3 _ _ ((execOp a3.eval o51).run P w)
  -- what is deferred
  have inv : ∀ w, (invoke (.fn (.func d.clos) #[a.eval (.tmp 2), a.eval (.tmp 3)]) #[]).run P w = .ok (.enter d.clos #[a.eval (.tmp 2), a.eval (.tmp 3)]) w := fun w => by
    show (callFunc d.clos (#[] ++ #[a.eval (.tmp 2), a.eval (.tmp 3)])).run P w = _
    rw [show (#[] ++ #[a.eval (.tmp 2), a.eval (.tmp 3)] : Array Value) = #[a.eval (.tmp 2), a.eval (.tmp 3)] from by simp]
    exact enter_run hd.clos.func hd.closBody hd.closName _ _
  have close : ∀ {β' O' w' m' env' tmps' v uv u u'}, Stp β O w m m.next β' O' w' m' → Sim β' O' w' m' → EnvOk β' O' w' env' fn.ntmps tmps' → Rep β' O' w' v uv → u ≠ .run →
      ((u = .returning ∧ u' = .returning ∧ uv = .nilIface) ∨ (u = .panicking [{ v := uv, recovered := false }] ∧ u' = .panicking [{ v := uv, recovered := true }])) → settle u' = .returning →
      aCode calls d.rc (envC (env 2) (env 3) v) m' (resK d.res env') = some r → Leaves P fn tmps' R [d1] u w' := by
    intro β' O' w' m' env' tmps' v uv u u' st hs' he' hv hu hmode hset hrun
    refine leaves_cons hu (inv w') ((clos_ok Hc Hg hp hm hd.clos hs' ((he.2 2).keep st.goes st.keeps) ((he.2 3).keep st.goes st.keeps) hv hmode hrun).mono ?_)
    intro en u2 w2 hen
    cases en with
    | returned x =>
      obtain ⟨rfl, β2, O2, m2, vs, st2, hs2, hvs, hr⟩ := hen
      show Leaves P fn tmps' R [] (settle u2) w2
      rw [hset]
      obtain ⟨y, hy1, hy2⟩ := results_ok (P := P) (fn := fn) hs2 (fun t => (he'.2 t).keep st2.goes st2.keeps) hd.res hvs
      exact ⟨y, hy1, hR _ _ _ _ _ _ hr (st.trans st2) hs2 hy2⟩
    | panicked _ => exact hen.elim
    | outgrown => exact hen.elim
  have back : ∀ {u w' β' O' v m'}, calls d.prog [env 4] m = some (.ret v, m') → Stp β O w m m.next β' O' w' m' → Sim β' O' w' m' → Rep β' O' w' v u → c6.wp P (bodyPostD P fn R) (a3.put (some 18) u) w' := by
    intro u w' β' O' v m' hcall st hs' hrep
    simp only [decBody, hcall] at h
    have he2 := (he1.keep st.goes st.keeps).put (d := some 18) (fun x hx => by injection hx with hx; omega) hrep a3 rfl
    refine code_ok (ds := [d1]) Hc Hg hp hm c6 h6 hs' he2 ?_ ?_ h ?_
    · intro v e e' m; rfl
    · rw [put_defers, put_defers]
    · intro e env' m2 e' a' w2 β2 O2 hK hex st2 hs2 hev hdf2
      have fin : (e = .normal ∨ e = .ret) → bodyPostD P fn R .normal a' w2 := by
        intro hen
        have hev' := hev.resolve_left (by rcases hen with rfl | rfl <;> simp)
        show Leaves P fn a'.tmps R a'.defers .returning w2
        rw [hdf2]
        refine close (uv := .nilIface) (v := .nili) (u' := .returning) (st.trans st2) hs2 hev' (.tree .nili) (by simp) (.inl ⟨rfl, rfl, rfl⟩) rfl ?_
        rcases hen with rfl | rfl <;> exact hK
      cases e with
      | normal => cases e' <;> simp only [ExitIs] at hex; exact fin (.inl rfl)
      | ret => cases e' <;> simp only [ExitIs] at hex; exact fin (.inr rfl)
      | exit _ => cases hK
      | panic _ => cases hK
  have hcallArgs : RepL β O w ([] ++ [env 4] ++ []) ([] ++ (k5.args.toList.map a3.eval) ++ []) := by
    rw [e51.2.2.1]
    simp only [List.map_cons, List.map_nil, List.nil_append, List.append_nil, ev17]
    exact .cons (he.2 4) .nil
  cases hcall : calls d.prog [env 4] m with
  | none => simp [decBody, hcall] at h
  | some res =>
    obtain ⟨out, m'⟩ := res
    rcases Hc d.prog β O w m _ _ out m' hs hcallArgs hcall with ⟨hrun, hcalls⟩ | ⟨u, w', hrun, v, β', O', rfl, h1, h2, h3⟩
    · rw [run_enter e51.1 e51.2.1 (x := []) (y := []) rfl hrun, Oper.upon_enter]
      refine Calls.mono hcalls fun en w' hen => ?_
      cases en with
      | returned u =>
        obtain ⟨v, β', O', rfl, h1, h2, h3⟩ := hen
        rw [e51.2.2.2.1]
        exact back hcall h1 h2 h3
      | panicked chain =>
        obtain ⟨v, u, β', O', rfl, rfl, h1, h2, h3⟩ := hen
        simp only [decBody, hcall] at h
        show Leaves P fn a3.tmps R a3.defers (.panicking _) w'
        rw [show a3.defers = [d1] from put_defers _ _ _]
        exact close h1 h2 (he1.keep h1.goes h1.keeps) h3 (by simp) (.inr ⟨rfl, rfl⟩) rfl h
      | outgrown => exact hen.elim
    · rw [run_enter e51.1 e51.2.1 (x := []) (y := []) rfl hrun, Oper.upon_value, e51.2.2.2.1]
      exact back hcall h1 h2 h3
theorem dec_ok (Hc : ∀ g, CallOk P g (calls g)) (Hg : ∀ g, Good (calls g)) {pf : Nat → Bool} (hp : ∀ g, pf g = true → PureF (calls g)) (hm : P.follows .mixedOrders = true) {f : Nat} {fn fnc : Func} {d : DecC} (hd : DecIs P f fn fnc pf d) : CallOk P f (decF calls d) := by
  intro β O w m args us o m' hs hargs h
  obtain ⟨c0, cx, c3, c6, i4, i5, o40, o41, o50, o51, k4, k5, hb, ⟨h0, hx, h3, h6⟩, e40, e41, e50, e51⟩ := hd.body
  refine .inl ⟨enter_run hd.func (by rw [hb]; rfl) hd.name _ _, ?_⟩
  refine calls_of_wp_defers hd.func hb ?_
  refine wp_seq (code_ok (ds := []) Hc Hg hp hm c0 h0 (env := env0 args) hs (env0_ok hargs fn.ntmps) (fun v e e' m => rfl) rfl h ?_)
  intro e env1 m1 e1 a1 w1 β1 O1 hK hex st1 hs1 hev1 hdf1
  cases e with
  | ret => cases hK
  | exit _ => cases hK
  | panic _ => cases hK
  | normal =>
    cases e1 <;> simp only [ExitIs] at hex
    refine wp_seq (code_ok (ds := []) Hc Hg hp hm cx hx hs1 (hev1.resolve_left (by simp)) (fun v e e' m => rfl) hdf1 hK ?_)
    intro e env2 m2 e2 a2 w2 β2 O2 hK2 hex2 st2 hs2 hev2 hdf2
    cases e with
    | exit _ => cases hK2
    | panic _ => cases hK2
    | ret =>
      cases e2 <;> simp only [ExitIs] at hex2
      simp only [decKX, Option.map_eq_some_iff] at hK2
      obtain ⟨vs, hvs, hr⟩ := hK2
      injection hr with hr1 hr2
      subst hr1 hr2
      show Leaves P fn a2.tmps _ a2.defers .returning w2
      rw [hdf2]
      obtain ⟨y, hy1, hy2⟩ := results_ok (P := P) (fn := fn) hs2 (hev2.resolve_left (by simp)).2 hd.res hvs
      exact ⟨y, hy1, _, β2, O2, rfl, st1.trans st2, hs2, hy2⟩
    | normal =>
      cases e2 <;> simp only [ExitIs] at hex2
      refine wp_seq (code_ok (ds := []) Hc Hg hp hm c3 h3 hs2 (hev2.resolve_left (by simp)) (fun v e e' m => rfl) hdf2 hK2 ?_)
      intro e env3 m3 e3 a3 w3 β3 O3 hK3 hex3 st3 hs3 hev3 hdf3
      cases e with
      | exit _ => cases hK3
      | panic _ => cases hK3
      | ret => cases hK3
      | normal =>
        cases e3 <;> simp only [ExitIs] at hex3
        refine dec_tail Hc Hg hp hm hd hs3 (hev3.resolve_left (by simp)) hdf3 hK3 ?_ h6 e40 e41 e50 e51
        intro v u w' β' O' m4 hr st4 hs4 hrep
        injection hr with hr1 hr2
        subst hr1 hr2
        exact ⟨v, β', O', rfl, ((st1.trans st2).trans st3).trans st4, hs4, hrep⟩
theorem dec_good (Hg : ∀ g, Good (calls g)) (d : DecC) : Good (decF calls d) := by
  intro args m o m' h
  have res : ∀ {e env env' m1 r}, resK d.res env e env' m1 = some (r, m') → m1 = m' := by
    intro e env env' m1 r h
    obtain ⟨_, vs, _, e⟩ := resK_some h
    injection e with _ e
    exact e.symm
  have clos : ∀ {env env' m1 r}, aCode calls d.rc env m1 (resK d.res env') = some (r, m') → Grows m1 m' m1.next := by
    intro env env' m1 r h
    obtain ⟨e, env2, m2, h2, g2⟩ := aCode_grows Hg d.rc h
    rw [res h2] at g2
    exact g2
  obtain ⟨e, env1, m1, h1, g1⟩ := aCode_grows Hg d.r0 h
  cases e <;> simp only [decK0, reduceCtorEq] at h1
  obtain ⟨e, env2, m2, h2, g2⟩ := aCode_grows Hg d.rx h1
  cases e <;> simp only [decKX, reduceCtorEq] at h2
  · obtain ⟨e, env3, m3, h3, g3⟩ := aCode_grows Hg d.r3 h2
    cases e <;> simp only [decK3, reduceCtorEq] at h3
    unfold decBody at h3
    split at h3
    · rename_i v m4 hc
      have g4 := Hg _ _ _ _ _ hc
      obtain ⟨e, env5, m5, h5, g5⟩ := aCode_grows Hg d.r6 h3
      cases e <;> simp only [decK6, reduceCtorEq] at h5
      · exact ((((g1.trans' g2).trans' g3).trans' g4).trans' g5).trans' (clos h5)
      · exact ((((g1.trans' g2).trans' g3).trans' g4).trans' g5).trans' (clos h5)
    · rename_i v m4 hc
      have g4 := Hg _ _ _ _ _ hc
      exact (((g1.trans' g2).trans' g3).trans' g4).trans' (clos h3)
    · cases h3
  · simp only [Option.map_eq_some_iff] at h2
    obtain ⟨vs, _, e⟩ := h2
    injection e with _ e
    subst e
    exact g1.trans' g2
end
end Go.Proofs.YtiijjopdhjpalaaDoor
