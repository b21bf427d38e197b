/- All functions of a program, as the abstract evaluator has them. Conditions: none. -/
import Derived.Test.YtiijjopdhjpalaaDoorMa
import Derived.Orders
import Derived.Laws.Sem
/-! Every operation but calls: what it comes to is what the abstract one says. Conditions: none. -/
namespace Go.Proofs.YtiijjopdhjpalaaDoor
open Go
set_option linter.unusedVariables false
set_option linter.unusedSimpArgs false
section
variable {P : Program} {β : Nat → Option Blk} {O : Nat → Prop} {w : World} {m : AMem}
/-- What an operation must come to. -/
def Comes1 (P : Program) (β : Nat → Option Blk) (O : Nat → Prop) (w : World) (m : AMem) (new : Nat) (s : Sem Next) : AR → Prop
  | .val v m' => ∃ u w' β' O', (s.run P w = .ok (.value u) w' ∨ (s.run P w = .ok .skip w' ∧ u = undef)) ∧ Stp β O w m new β' O' w' m' ∧ Sim β' O' w' m' ∧ Rep β' O' w' v u
  | .pan v m' => m' = m ∧ ∃ u, s.run P w = .halt (.panic u) w ∧ Rep β O w v u
theorem comes_pure {new : Nat} {s : Sem Value} {v : AV} {u : Value} (hs : Sim β O w m) (h : s.run P w = .ok u w) (hv : Rep β O w v u) : Comes1 P β O w m new (do pure (Next.value (← s))) (.val v m) :=
  ⟨u, w, β, O, .inl (run_exec_value h), .refl _ _ _ _ _, hs, hv⟩
theorem v?_some {x : Option AV} {r : AR} (h : v? m x = some r) : ∃ v, x = some v ∧ r = .val v m := by
  cases x <;> simp only [v?, Option.some.injEq, reduceCtorEq] at h
  exact ⟨_, rfl, h.symm⟩
theorem m?_some {x : Option AMem} {r : AR} (h : m? x = some r) : ∃ m', x = some m' ∧ r = .val (.tup []) m' := by
  cases x <;> simp only [m?, Option.some.injEq, reduceCtorEq] at h
  exact ⟨_, rfl, h.symm⟩
theorem comes_of {new : Nat} {s : Sem Value} {v : AV} {m' : AMem} (h : ∃ r w' β' O', s.run P w = .ok r w' ∧ Stp β O w m new β' O' w' m' ∧ Sim β' O' w' m' ∧ Rep β' O' w' v r) : Comes1 P β O w m new (do pure (Next.value (← s))) (.val v m') := by
  obtain ⟨r, w', β', O', h1, h2, h3, h4⟩ := h
  exact ⟨r, w', β', O', .inl (run_exec_value h1), h2, h3, h4⟩
theorem rep_undef : Rep β O w (.tup []) undef := .tup (vs := []) .nil
theorem partsOk_of {env : AEnv} {nt : Nat} {a : Act} (he : EnvOk β O w env nt a.tmps) {pl : List (Nat × Nat)} : ∀ {ps : List (Nat × Operand)} {l : List (Nat × Nat × Opd)}, cParts pl ps = some l →
    PartsOk β O w (pl.toArray[·]?) (l.map fun p => (p.1, p.2.1, p.2.2.ev env)) (ps.map fun (i, x) => (i, a.eval x))
  | [], l, h => by
    simp only [cParts, Option.some.injEq] at h
    subst h
    exact .nil
  | p :: ps, l, h => by
    simp only [cParts] at h
    split at h
    · rename_i q l' hq hl
      injection h with h
      subst h
      exact .cons (by simpa using hq) (ev_ok he p.2) (partsOk_of he hl)
    · cases h
theorem partsOkA_of {env : AEnv} {nt : Nat} {a : Act} (he : EnvOk β O w env nt a.tmps) (sz : Nat) : ∀ (ps : List (Nat × Operand)),
    PartsOk β O w (fun i => some (i * sz, sz)) ((ps.map fun p => (p.1 * sz, sz, cOpd p.2)).map fun p => (p.1, p.2.1, p.2.2.ev env)) (ps.map fun (i, x) => (i, a.eval x))
  | [] => .nil
  | p :: ps => .cons rfl (ev_ok he p.2) (partsOkA_of he sz ps)
theorem partsE_of {env : AEnv} {nt : Nat} {a : Act} (he : EnvOk β O w env nt a.tmps) : ∀ (ps : List (Nat × Operand)),
    PartsE β O w ((ps.map fun p => (p.1, cOpd p.2)).map fun p => (p.1, p.2.ev env)) (ps.map fun (i, x) => (i, a.eval x))
  | [] => .nil
  | p :: ps => .cons (ev_ok he p.2) (partsE_of he ps)
theorem map_parts (a : Act) (ps : Array (Nat × Operand)) : (ps.map fun (i, x) => (i, a.eval x)) = (ps.toList.map fun (i, x) => (i, a.eval x)).toArray := by
  apply Array.ext'
  simp
def isCall : Op → Bool
  | .call { callee := .value _, .. } => true
  | _ => false
theorem asI_some {β O w} {x : AV} {u : Value} {n : Int} (h : asI x = some n) (hx : Rep β O w x u) : ∃ k, u = .int k n := by
  unfold asI at h
  split at h
  · injection h with h
    subst h
    exact ⟨_, rep_int hx⟩
  · cases h
theorem aApp_val {m : AMem} {new t sz bytes : Nat} {s : AV} {xs : List AV} {r : AR} (h : aApp m new t sz bytes s xs = some r) : ∃ v m', r = .val v m' := by
  unfold aApp at h
  split at h
  · split at h <;> cases h
    exact ⟨_, _, rfl⟩
  · split at h
    · split at h <;> cases h
      exact ⟨_, _, rfl⟩
    · cases h
  · cases h
theorem aCopy_val {m : AMem} {sz : Nat} {d : AV} {xs : List AV} {r : AR} (h : aCopy m sz d xs = some r) : ∃ v m', r = .val v m' := by
  unfold aCopy at h
  split at h
  · cases h; exact ⟨_, _, rfl⟩
  · split at h
    · cases h
    · split at h
      · cases h; exact ⟨_, _, rfl⟩
      · split at h
        · split at h <;> cases h
          exact ⟨_, _, rfl⟩
        · cases h
  · cases h
theorem mapM_bytes : ∀ (z : List UInt8), (z.map fun b => AV.int .u8 b.toNat).mapM Go.Proofs.YtiijjopdhjpalaaDoor.byteOf = some z
  | [] => rfl
  | b :: z => by
    rw [List.map_cons, List.mapM_cons, mapM_bytes z]
    simp [Go.Proofs.YtiijjopdhjpalaaDoor.byteOf]
theorem Sim.more (h : Sim β O w m) {w' : World} {ob : Obj} (e : w'.heap = w.heap.push ob) (new : Nat) (hout : w'.os = w.os ∧ w'.output = w.output := by exact ⟨rfl, rfl⟩) : Stp β O w m new β O w' m ∧ Sim β O w' m := by
  have kp : Keeps O w O w' := ⟨⟨by rw [e]; simp, hout⟩, fun b hb ho => ⟨ho, by rw [e, Array.getElem?_push, if_neg (by omega)]⟩⟩
  refine ⟨⟨.refl _, kp, Nat.le_refl _, fun _ _ _ => rfl⟩, fun id o ho => ?_, h.inj, h.fresh, fun b hb => by rw [e]; have := h.bound b hb; simp; omega, h.glob.keep kp⟩
  have := h.objs id o ho
  cases o with
  | arr t sz es =>
    refine ⟨this.1, this.2.1, this.2.2.1, fun bl hb => ?_⟩
    have hO := (this.2.2.2 bl hb).2.1
    have := h.bound _ hO
    exact ((h.objs id _ ho).2.2.2 bl hb).step (.refl _) kp hO (by rw [e, Array.getElem?_push, if_neg (by omega)])
  | map es => exact this.elim
theorem els_bytes {O : Nat → Prop} {w : World} {b : Nat} (ho : ¬ O b) : ∀ (z : List UInt8) (o : Nat), (∀ j (hj : j < z.length), w.cell? ⟨b, o + j, none⟩ = some (.int .u8 (z[j].toNat : Int))) → ElsAt O w 1 (z.map fun b => .int .u8 b.toNat) b o
  | [], o, h => .nil
  | c :: z, o, h => .cons rfl Nat.one_pos (.cons ho (h 0 (by simp)) rfl .int .nil) (els_bytes ho z (o + 1) (fun j hj => by
    have := h (j + 1) (by simpa using hj)
    simpa [Nat.add_assoc, Nat.add_comm 1 j] using this))
theorem convSB_ok (hs : Sim β O w m) {s d e : Nat} (h1 : P.underlying s = some .string) (h2 : P.underlying d = some (.slice e)) (h3 : P.underlying e = some (.int .u8)) (z : List UInt8) (new : Nat) :
    ∃ r w' β' O', (convert s d (.string ⟨z.toArray⟩)).run P w = .ok r w' ∧ Stp β O w m new β' O' w' m ∧ Sim β' O' w' m ∧ Rep β' O' w' (.ts 1 (z.map fun b => .int .u8 b.toNat)) r := by
  have hrun := run_bytes_of_string (P := P) w s d e ⟨z.toArray⟩ h1 h2 h3
  obtain ⟨a1, a2⟩ := hs.more (w' := w.drew.alloc (.cells (bytesRow ⟨z.toArray⟩ (grownCap w (ByteArray.size ⟨z.toArray⟩) 0 e)) e ((bytesRow ⟨z.toArray⟩ (grownCap w (ByteArray.size ⟨z.toArray⟩) 0 e)).size, (bytesRow ⟨z.toArray⟩ (grownCap w (ByteArray.size ⟨z.toArray⟩) 0 e)).size + 1))) rfl new
  refine ⟨_, _, β, O, hrun, a1, a2, .tree ?_⟩
  have hno : ¬ O w.heap.size := fun h => absurd (hs.bound _ h) (Nat.lt_irrefl _)
  have hlen : (z.map fun b => AV.int .u8 b.toNat).length = z.length := by simp
  have hel := els_bytes (w := w.drew.alloc (.cells (bytesRow ⟨z.toArray⟩ (grownCap w (ByteArray.size ⟨z.toArray⟩) 0 e)) e ((bytesRow ⟨z.toArray⟩ (grownCap w (ByteArray.size ⟨z.toArray⟩) 0 e)).size, (bytesRow ⟨z.toArray⟩ (grownCap w (ByteArray.size ⟨z.toArray⟩) 0 e)).size + 1))) hno z 0 (fun j hj => by
    rw [Nat.zero_add]
    have := World.cell?_alloc_mark w.drew (bytesRow ⟨z.toArray⟩ (grownCap w (ByteArray.size ⟨z.toArray⟩) 0 e)) e ((bytesRow ⟨z.toArray⟩ (grownCap w (ByteArray.size ⟨z.toArray⟩) 0 e)).size, (bytesRow ⟨z.toArray⟩ (grownCap w (ByteArray.size ⟨z.toArray⟩) 0 e)).size + 1) j
    refine Eq.trans this ?_
    have := bytesRow_at ⟨z.toArray⟩ (grownCap w (ByteArray.size ⟨z.toArray⟩) 0 e) j (by simpa using hj)
    simpa using this)
  have := RepT.ts (cap := grownCap w (ByteArray.size ⟨z.toArray⟩) 0 e) hel (by rw [hlen]; exact grownCap_ge _ _ _ _)
  rw [hlen] at this
  exact this
theorem els_ints {O' : Nat → Prop} {w' : World} {b : Nat} (ho : ¬ O' b) : ∀ (l : List AV) (o : Nat), (∀ c ∈ l, isInt c = true) → (∀ j c, l[j]? = some c → ∃ u, w'.cell? ⟨b, o + j, none⟩ = some u ∧ Rep β O w c u) → ElsAt O' w' 1 l b o
  | [], o, _, _ => .nil
  | c :: l, o, hi, h => by
    have hc := hi c (List.mem_cons_self ..)
    obtain ⟨u, hu, hr⟩ := h 0 c (by simp)
    have rest := els_ints ho l (o + 1) (fun x hx => hi x (List.mem_cons_of_mem _ hx)) (fun j x hx => by
      have := h (j + 1) x (by simpa using hx)
      simpa [Nat.add_assoc, Nat.add_comm 1 j] using this)
    cases c with
    | int k z =>
      rw [rep_int hr] at hu
      exact .cons rfl Nat.one_pos (.cons ho (by simpa using hu) rfl .int .nil) rest
    | _ => cases hc
theorem convBB_ok (hs : Sim β O w m) {id i n t : Nat} {es : List AV} (hget : m.get id = some (.arr t 1 es)) (hn : 0 < n) (hin : i + n ≤ es.length) (hint : ((es.drop i).take n).all isInt = true) {u : Value} (hx : Rep β O w (.sl 1 id i n) u)
    {d e : Nat} (hd : P.underlying d = some (.slice e)) (he : P.underlying e = some (.int .u8)) (new : Nat) :
    ∃ r w' β' O', (convert d d u).run P w = .ok r w' ∧ Stp β O w m new β' O' w' (m.kill id) ∧ Sim β' O' w' (m.kill id) ∧ Rep β' O' w' (.ts 1 ((es.drop i).take n)) r := by
  rcases rep_sl hx with ⟨bl, cap, hbl, hz, hnc, hic, rfl⟩ | ⟨h0, _⟩
  · have hobj := hs.objs _ _ hget
    have hb := hobj.2.2.2 bl hbl
    have hO := hb.2.1
    obtain ⟨_, _, _, cs, hh, _, hat⟩ := hb
    have hlt := hs.bound _ hO
    generalize hw' : w.freeze ⟨bl.b, cs.size, none⟩ 1 = w'
    have hsize : w'.heap.size = w.heap.size := by rw [← hw']; simp [World.freeze]
    have hold : ∀ k, k ≠ bl.b → w'.heap[k]? = w.heap[k]? := fun k hk => by rw [← hw']; simp [World.freeze, Array.getElem?_modify, Ne.symm hk]
    have hnew : w'.heap[bl.b]? = some (.cells cs t (cs.size, cs.size + 1)) := by
      rw [← hw']
      simp [World.freeze, Array.getElem?_modify, hh]
    let O' : Nat → Prop := fun b => O b ∧ b ≠ bl.b
    have kp : Keeps O w O' w' := ⟨⟨by omega, by rw [← hw']; exact ⟨rfl, rfl⟩⟩, fun b hbs ho => ⟨fun h => ho h.1, hold b (fun e => ho (by rw [e]; exact hO))⟩⟩
    have hget' : ∀ j o, (m.kill id).get j = some o → j ≠ id ∧ m.get j = some o := fun j o h => by
      rw [AMem.get_kill] at h
      split at h
      · cases h
      · exact ⟨by assumption, h⟩
    have hrun : (convert d d (.slice (some ⟨bl.b, bl.base + i * bl.sz, none⟩) n cap)).run P w = .ok (.slice (some ⟨bl.b, bl.base + i * bl.sz, none⟩) n cap) w' := by
      have hsh : w.shape? bl.b = some (t, cs.size) := by simp [World.shape?, hh]
      simp [convert, run_underlying hd, run_underlying he, markStringish, hsh, hw', Sem.run_bind]
    refine ⟨_, w', β, O', hrun, ⟨.refl _, kp, Nat.le_refl _, fun _ _ _ => rfl⟩, ⟨fun j o hj => ?_, fun a b oa ob ba bb ha hb' => ?_, hs.fresh, fun b hb' => by rw [hsize]; exact hs.bound b hb'.1, hs.glob.keep kp⟩, .tree ?_⟩
    · obtain ⟨hne, hj⟩ := hget' j o hj
      have := hs.objs j o hj
      cases o with
      | map es => exact this.elim
      | arr t2 s2 es2 =>
        refine ⟨this.1, this.2.1, this.2.2.1, fun bl2 hb2 => ?_⟩
        have h2 := this.2.2.2 bl2 hb2
        have hneb : bl2.b ≠ bl.b := fun e => hne (hs.inj j id _ _ bl2 bl hj hget hb2 hbl e)
        exact h2.step (.refl _) kp ⟨h2.2.1, hneb⟩ (hold _ hneb)
    · exact hs.inj a b oa ob ba bb (hget' _ _ ha).2 (hget' _ _ hb').2
    · have hlen : ((es.drop i).take n).length = n := by simp; omega
      have hel := els_ints (β := β) (O := O) (w := w) (O' := O') (w' := w') (b := bl.b) (fun h => h.2 rfl) ((es.drop i).take n) (bl.base + i * bl.sz) (fun c hc => List.all_eq_true.1 hint c hc) (fun j c hj => by
        have hj2 : es[i + j]? = some c := by
          rw [List.getElem?_take] at hj
          split at hj
          · rw [List.getElem?_drop] at hj; exact hj
          · cases hj
        have hci : isInt c = true := List.all_eq_true.1 hint c (List.mem_of_getElem? hj)
        have hcc : c.cells[0]? = some c := by cases c <;> first | rfl | cases hci
        obtain ⟨u, hu, _, hr⟩ := hat (i + j) c hj2 0 c hcc
        refine ⟨u, ?_, hr⟩
        simp only [World.cell?, hnew]
        have e : bl.base + i * bl.sz + j = bl.base + (i + j) * 1 + 0 := by rw [hz]; omega
        rw [e]
        simpa using hu)
      have := RepT.ts (cap := cap) hel (by rw [hlen]; exact hnc)
      rw [hlen] at this
      exact this
  · omega
theorem tas_ok {x : AV} {t xt : Nat} {i : TypeInfo} {z : Value} {u : Value} {new : Nat} {r : AR} (hs : Sim β O w m) (hi : P.info? t = some i) (hz : i.zero = some z) (h1 : ¬ (ckOf (P.underlying t) = .iface ∨ (P.underlying t).isNone = true)) 
    (hr : (match x with
      | .nili => some (AR.val (.tup [aConst z, .bool false]) m)
      | .ifc t' v => if t' = t then some (.val (.tup [v, .bool true]) m) else some (.val (.tup [aConst z, .bool false]) m)
      | _ => none) = some r) (hx : Rep β O w x u) :
    Comes1 P β O w m new (do pure (Next.value (← Instr.typeAssert u xt t true))) r := by
  have h2 : ¬ (ckOf (P.underlying t) = .iface) := fun h => h1 (.inl h)
  cases hu : P.underlying t with
  | none => exact absurd (.inr (by simp [hu])) h1
  | some d =>
    rw [hu] at h2
    have hz' : (zeroValue t).run P w = .ok z w := by simp [zeroValue, typeInfo, hi, hz]
    split at hr
    · injection hr with hr; subst hr
      have := rep_nili hx
      subst this
      refine comes_pure hs (u := .tuple #[z, .bool false]) ?_ (.tup (vs := [_, _]) (.cons (rep_const _ _ _ _) (.cons (.tree .bool) .nil)))
      cases d <;> first | exact absurd rfl h2 | simp [Instr.typeAssert, Sem.run_bind, run_underlying hu, hz']
    · rename_i t' v
      obtain ⟨y, rfl, hy⟩ := rep_ifc hx
      by_cases e : t' = t
      · rw [if_pos e] at hr
        injection hr with hr; subst hr
        refine comes_pure hs (u := .tuple #[y, .bool true]) ?_ (.tup (vs := [_, _]) (.cons hy (.cons (.tree .bool) .nil)))
        cases d <;> first | exact absurd rfl h2 | simp [Instr.typeAssert, Sem.run_bind, run_underlying hu, e]
      · rw [if_neg e] at hr
        injection hr with hr; subst hr
        refine comes_pure hs (u := .tuple #[z, .bool false]) ?_ (.tup (vs := [_, _]) (.cons (rep_const _ _ _ _) (.cons (.tree .bool) .nil)))
        cases d <;> first | exact absurd rfl h2 | simp [Instr.typeAssert, Sem.run_bind, run_underlying hu, hz', e]
    · cases hr
set_option maxHeartbeats 1000000 in
theorem op_ok {o : Oper} {ao : AOp} (hc : cOp P o.op = some ao) (hcall : isCall o.op = false) (hs : Sim β O w m) {env : AEnv} {nt : Nat} {a : Act} (he : EnvOk β O w env nt a.tmps) {new : Nat} (hn : m.get new = none) (hl : new < m.next) (hb : β new = none)
    {calls : Nat → AF} {r : AR} (hr : aOp calls env m new ao = some r) : Comes1 P β O w m new (execOp a.eval o) r := by
  obtain ⟨dst, op, type, pos, after, guard⟩ := o
  simp only at hc hcall
  cases op <;> simp only [cOp, reduceCtorEq] at hc
  case move x =>
    injection hc with hc; subst hc
    simp only [aOp, Option.some.injEq] at hr
    subst hr
    exact ⟨_, w, β, O, .inl rfl, .refl _ _ _ _ _, hs, ev_ok he x⟩
  case assign x =>
    injection hc with hc; subst hc
    simp only [aOp, Option.some.injEq] at hr
    subst hr
    exact ⟨_, w, β, O, .inl rfl, .refl _ _ _ _ _, hs, ev_ok he x⟩
  case pick c x y =>
    injection hc with hc; subst hc
    simp only [aOp] at hr
    split at hr
    · rename_i q hq
      have hcq := ev_ok he c
      rw [hq] at hcq
      have e := rep_bool hcq
      cases q
      · simp only [cond_false, Option.some.injEq] at hr
        subst hr
        exact ⟨_, w, β, O, .inl (by simp [execOp, e, asBool, Sem.run_bind]), .refl _ _ _ _ _, hs, ev_ok he y⟩
      · simp only [cond_true, Option.some.injEq] at hr
        subst hr
        exact ⟨_, w, β, O, .inl (by simp [execOp, e, asBool, Sem.run_bind]), .refl _ _ _ _ _, hs, ev_ok he x⟩
    · cases hr
  case alloc e =>
    split at hc
    · rename_i i hi
      split at hc
      · rename_i z hz
        split at hc
        · rename_i hpos
          injection hc with hc; subst hc
          obtain ⟨zv, hzv, hza, hf, hzs, hzr⟩ := zeroA_ok hz
          have hr : some (AR.val (.ptr new 0 0) (m.put new (.arr e i.size [z]))) = some r := by
            rw [← hr]
            show _ = if fits z.isAgg i.size z = true then _ else _
            rw [if_pos hf]
            rfl
          · injection hr with hr
            subst hr
            obtain ⟨β', O', h1, h2, h3⟩ := new_ok hs hn hl hb (t := e) hf hpos (hzr β O w)
            refine ⟨_, _, β', O', .inl ?_, h1, h2, h3⟩
            simp only [execOp]
            refine run_exec_value ?_
            simp [Instr.alloc, zeroValue, typeInfo, hi, hzv, Sem.run_bind, run_newVar]
        · cases hc
      · cases hc
    · cases hc
  case box e x =>
    split at hc
    · rename_i i hi
      split at hc
      · rename_i hpos
        injection hc with hc; subst hc
        simp only [aOp] at hr
        split at hr
        · rename_i hf
          injection hr with hr
          subst hr
          obtain ⟨β', O', h1, h2, h3⟩ := new_ok hs hn hl hb (t := e) hf hpos (ev_ok he x)
          refine ⟨_, _, β', O', .inl ?_, h1, h2, h3⟩
          simp only [execOp]
          refine run_exec_value ?_
          simp [Instr.box, Sem.run_bind, run_newVar]
        · cases hr
      · cases hc
    · cases hc
  case build t parts =>
    split at hc
    · rename_i fs i hu hi
      split at hc
      · rename_i z pl hz hpl
        cases hcp : cParts pl parts.toList with
        | none => rw [hcp] at hc; cases hc
        | some l =>
          rw [hcp] at hc
          simp only [Option.map_some, Option.some.injEq] at hc
          subst hc
          simp only [aOp] at hr
          obtain ⟨v, hv, rfl⟩ := v?_some hr
          cases hfp : fillP z.cells (l.map fun p => (p.1, p.2.1, p.2.2.ev env)) with
          | none => rw [hfp] at hv; cases hv
          | some cs' =>
            rw [hfp] at hv
            simp only [Option.map_some, Option.some.injEq] at hv
            subst hv
            obtain ⟨u, h1, h2⟩ := build_ok (P := P) (t := t) hz (partsOk_of he hcp) hfp (fun zv cells hzv hfill => by
              simp only [Program.built, hi, hu, hzv, hpl]
              exact hfill)
            simp only [execOp]
            rw [map_parts]
            exact comes_pure hs h1 h2
      · cases hc
    · rename_i n e i hu hi
      split at hc
      · rename_i z j hz hj
        injection hc with hc; subst hc
        simp only [aOp] at hr
        obtain ⟨v, hv, rfl⟩ := v?_some hr
        cases hfp : fillP z.cells ((parts.toList.map fun p => (p.1 * j.size, j.size, cOpd p.2)).map fun p => (p.1, p.2.1, p.2.2.ev env)) with
        | none => rw [hfp] at hv; cases hv
        | some cs' =>
          rw [hfp] at hv
          simp only [Option.map_some, Option.some.injEq] at hv
          subst hv
          obtain ⟨u, h1, h2⟩ := build_ok (P := P) (t := t) hz (partsOkA_of he j.size parts.toList) hfp (fun zv cells hzv hfill => by
            simp only [Program.built, hi, hu, hzv, hj]
            exact hfill)
          simp only [execOp]
          rw [map_parts]
          exact comes_pure hs h1 h2
      · cases hc
    · cases hc
  case buildSlice t n parts =>
    split at hc
    · rename_i e hu
      split at hc
      · rename_i j hj
        split at hc
        · rename_i z hz
          split at hc
          · rename_i hcc
            injection hc with hc; subst hc
            simp only [aOp] at hr
            split at hr
            · rename_i es hes
              injection hr with hr
              subst hr
              simp only [execOp]
              rw [map_parts]
              exact comes_of (mkl_ok hs hn hl hb hu hj hz hcc.2 hcc.1 (partsE_of he parts.toList) hes)
            · cases hr
          · cases hc
        · cases hc
      · cases hc
    · cases hc
  case load t p =>
    split at hc
    · rename_i g i hg hi
      split at hc
      · rename_i h1
        injection hc with hc; subst hc
        simp only [aOp] at hr
        obtain ⟨v, hv, rfl⟩ := v?_some hr
        obtain ⟨u, h2, h3⟩ := aLoad_ok hs hv (ev_ok he p) hg hi rfl (by simpa using h1)
        exact comes_pure hs h2 h3
      · cases hc
    · cases hc
  case store t p x =>
    split at hc
    · rename_i g i hg hi
      split at hc
      · rename_i h1
        injection hc with hc; subst hc
        simp only [aOp] at hr
        obtain ⟨m', hm, rfl⟩ := m?_some hr
        obtain ⟨w', β', O', h2, h3, h4⟩ := aStore_ok hs hm (ev_ok he p) (ev_ok he x) hi rfl new
        refine ⟨undef, w', β', O', .inr ⟨?_, rfl⟩, h3, h4, rep_undef⟩
        simp only [execOp, Sem.run_bind, h2, Result.andThen_ok, Sem.run_pure]
      · cases hc
    · cases hc
  case nilCheck x =>
    injection hc with hc; subst hc
    simp only [aOp] at hr
    split at hr
    · rename_i id i o hx
      injection hr with hr; subst hr
      have hx' := ev_ok he x
      rw [hx] at hx'
      obtain ⟨bl, _, e⟩ := rep_ptr hx'
      refine ⟨a.eval x, w, β, O, .inl ?_, .refl _ _ _ _ _, hs, hx'⟩
      simp [execOp, e]
    · rename_i v hx
      injection hr with hr; subst hr
      have hx' := ev_ok he x
      rw [hx] at hx'
      obtain ⟨b, o, e, _⟩ := rep_tp hx'
      refine ⟨a.eval x, w, β, O, .inl ?_, .refl _ _ _ _ _, hs, hx'⟩
      simp [execOp, e]
    · cases hr
  case binOp op t x y yt =>
    split at hc
    · rename_i hop
      split at hc
      · injection hc with hc; subst hc
        simp only [aOp] at hr
        obtain ⟨v, hv, rfl⟩ := v?_some hr
        obtain ⟨u, h1, h2⟩ := aBin_ok (P := P) hv t x y (ev_ok he x) (ev_ok he y)
        exact comes_pure hs h1 h2
      · injection hc with hc; subst hc
        simp only [aOp] at hr
        obtain ⟨v, hv, rfl⟩ := v?_some hr
        obtain ⟨u, h1, h2⟩ := aBin_ok (P := P) hv t x y (ev_ok he x) (ev_ok he y)
        exact comes_pure hs h1 h2
      · rename_i hck
        injection hc with hc; subst hc
        simp only [aOp] at hr
        split at hr
        · rename_i p q hp hq
          injection hr with hr; subst hr
          have hx := ev_ok he x
          have hy := ev_ok he y
          rw [hp] at hx
          rw [hq] at hy
          have hub : P.underlying t = some .bool := by
            unfold ckOf at hck
            split at hck <;> first | assumption | cases hck
          have := eqb_ok (P := P) (w := w) (decide (op = .neq)) p q op (by rcases hop with rfl | rfl <;> rfl) t hub x y
          simp only [execOp]
          rw [rep_bool hx, rep_bool hy]
          exact comes_pure hs this (.tree .bool)
        · cases hr
      · split at hc
        · rename_i k hk
          have hopn : op = if (decide (op = .neq)) = true then .neq else .eql := by rcases hop with rfl | rfl <;> rfl
          split at hc
          · rename_i hnil
            injection hc with hc; subst hc
            simp only [aOp] at hr
            obtain ⟨v, hv, rfl⟩ := v?_some hr
            obtain ⟨c, rfl, hcc⟩ := isNilC_iff hnil
            cases hnn : isNil k ((cOpd x).ev env) with
            | none => rw [hnn] at hv; cases hv
            | some e =>
              rw [hnn] at hv
              simp only [Option.map_some, Option.some.injEq] at hv
              subst hv
              have := (eqn_ok (P := P) (neg := decide (op = .neq)) hopn hk hnn (ev_ok he x) hcc x).1
              exact comes_pure hs this (.tree .bool)
          · split at hc
            · rename_i hnil
              injection hc with hc; subst hc
              simp only [aOp] at hr
              obtain ⟨v, hv, rfl⟩ := v?_some hr
              obtain ⟨c, rfl, hcc⟩ := isNilC_iff hnil
              cases hnn : isNil k ((cOpd y).ev env) with
              | none => rw [hnn] at hv; cases hv
              | some e =>
                rw [hnn] at hv
                simp only [Option.map_some, Option.some.injEq] at hv
                subst hv
                have := (eqn_ok (P := P) (neg := decide (op = .neq)) hopn hk hnn (ev_ok he y) hcc y).2
                exact comes_pure hs this (.tree .bool)
            · cases hc
        · cases hc
      · split at hc
        · rename_i k hk
          have hopn : op = if (decide (op = .neq)) = true then .neq else .eql := by rcases hop with rfl | rfl <;> rfl
          split at hc
          · rename_i hnil
            injection hc with hc; subst hc
            simp only [aOp] at hr
            obtain ⟨v, hv, rfl⟩ := v?_some hr
            obtain ⟨c, rfl, hcc⟩ := isNilC_iff hnil
            cases hnn : isNil k ((cOpd x).ev env) with
            | none => rw [hnn] at hv; cases hv
            | some e =>
              rw [hnn] at hv
              simp only [Option.map_some, Option.some.injEq] at hv
              subst hv
              have := (eqn_ok (P := P) (neg := decide (op = .neq)) hopn hk hnn (ev_ok he x) hcc x).1
              exact comes_pure hs this (.tree .bool)
          · split at hc
            · rename_i hnil
              injection hc with hc; subst hc
              simp only [aOp] at hr
              obtain ⟨v, hv, rfl⟩ := v?_some hr
              obtain ⟨c, rfl, hcc⟩ := isNilC_iff hnil
              cases hnn : isNil k ((cOpd y).ev env) with
              | none => rw [hnn] at hv; cases hv
              | some e =>
                rw [hnn] at hv
                simp only [Option.map_some, Option.some.injEq] at hv
                subst hv
                have := (eqn_ok (P := P) (neg := decide (op = .neq)) hopn hk hnn (ev_ok he y) hcc y).2
                exact comes_pure hs this (.tree .bool)
            · cases hc
        · cases hc
      · cases hfl : flatStruct P t with
        | none => rw [hfl] at hc; cases hc
        | some ks =>
          rw [hfl] at hc
          simp only [Option.map_some, Option.some.injEq] at hc
          subst hc
          simp only [aOp] at hr
          split at hr
          · rename_i p q hp hq
            obtain ⟨v, hv, rfl⟩ := v?_some hr
            have hx := ev_ok he x
            have hy := ev_ok he y
            rw [hp] at hx
            rw [hq] at hy
            cases hee : eqCells ks p q with
            | none => rw [hee] at hv; cases hv
            | some e =>
              rw [hee] at hv
              simp only [Option.map_some, Option.some.injEq] at hv
              subst hv
              have := eqs_ok (P := P) (neg := decide (op = .neq)) hee hx hy hfl (op := op) (by rcases hop with rfl | rfl <;> rfl) x y
              exact comes_pure hs this (.tree .bool)
          · cases hr
      · cases hc
    · injection hc with hc; subst hc
      simp only [aOp] at hr
      obtain ⟨v, hv, rfl⟩ := v?_some hr
      obtain ⟨u, h1, h2⟩ := aBin_ok (P := P) hv t x y (ev_ok he x) (ev_ok he y)
      exact comes_pure hs h1 h2
  case unOp op t x =>
    injection hc with hc; subst hc
    simp only [aOp] at hr
    obtain ⟨v, hv, rfl⟩ := v?_some hr
    obtain ⟨u, h1, h2⟩ := aUn_ok (P := P) hv (ev_ok he x)
    exact comes_pure hs h1 h2
  case convert s d x =>
    split at hc
    · rename_i k1 k2 h1 h2
      injection hc with hc; subst hc
      simp only [aOp] at hr
      split at hr
      · rename_i k n hx
        injection hr with hr; subst hr
        have hx' := ev_ok he x
        rw [hx] at hx'
        refine comes_pure hs ?_ (.tree .int)
        rw [rep_int hx']
        simp [convert, Sem.run_bind, run_underlying h1, run_underlying h2, Conv.intToInt]
      · cases hr
    · rename_i h1 h2
      injection hc with hc; subst hc
      simp only [aOp, Option.map_none] at hr
      split at hr
      · rename_i z hxs _ _
        have hx' := ev_ok he x
        rw [hxs] at hx'
        have e := rep_str hx'
        have hv : aSlcS z 0 none = some (.str z) := by simp [aSlcS]
        rw [hv] at hr
        simp only [v?, Option.some.injEq] at hr
        subst hr
        refine comes_pure hs (u := a.eval x) ?_ hx'
        rw [e]
        simp [convert, Sem.run_bind, run_underlying h1, run_underlying h2]
      · rename_i h _; cases h
      · rename_i h; cases h
      · rename_i h _; cases h
      · cases hr
    · rename_i e h1 h2
      split at hc
      · rename_i h3
        injection hc with hc; subst hc
        simp only [aOp] at hr
        split at hr
        · rename_i es hes
          split at hr
          · rename_i l hl
            injection hr with hr; subst hr
            have hu8 : P.underlying e = some (.int .u8) := h3
            by_cases hns : ∀ z, (cOpd x).ev env ≠ .str z
            · obtain ⟨u, h4, h5⟩ := convBS_ok (P := P) hs hes hl (ev_ok he x) h1 hu8 h2 hns
              exact comes_pure hs h4 h5
            · have ⟨z, hz⟩ : ∃ z, (cOpd x).ev env = .str z := by
                cases hh : (cOpd x).ev env <;> first | exact ⟨_, rfl⟩ | (exfalso; exact hns (fun z => by rw [hh]; exact fun h => by cases h))
              have hx' := ev_ok he x
              rw [hz] at hx' hes
              have e2 := rep_str hx'
              simp only [elems, if_true, Option.some.injEq] at hes
              subst hes
              rw [mapM_bytes] at hl
              injection hl with hl
              subst hl
              refine comes_pure hs (u := a.eval x) ?_ hx'
              rw [e2]
              simp [convert, Sem.run_bind, run_underlying h1, run_underlying h2]
          · cases hr
        · cases hr
      · cases hc
    · rename_i e e' h1 h2
      split at hc
      · rename_i h3
        subst h3
        split at hc
        · rename_i h4
          have hu8 : P.underlying e = some (.int .u8) := h4
          injection hc with hc; subst hc
          simp only [aOp] at hr
          split at hr
          · rename_i sz id i n hxs
            split at hr
            · rename_i t0 s0 es hget
              split at hr
              · rename_i hcc
                obtain ⟨rfl, rfl, c3, c4, c5⟩ := hcc
                injection hr with hr; subst hr
                have hx' := ev_ok he x
                rw [hxs] at hx'
                exact comes_of (convBB_ok hs hget c3 c4 c5 hx' h1 hu8 new)
              · cases hr
            · cases hr
          · cases hr
        · cases hc
      · cases hc
    · rename_i e h1 h2
      split at hc
      · rename_i h3
        injection hc with hc; subst hc
        simp only [aOp] at hr
        split at hr
        · rename_i z hz
          injection hr with hr; subst hr
          have hu8 : P.underlying e = some (.int .u8) := h3
          have hx' := ev_ok he x
          rw [hz] at hx'
          have e2 := rep_str hx'
          simp only [execOp]
          rw [e2]
          exact comes_of (convSB_ok hs h1 h2 hu8 z new)
        · cases hr
      · cases hc
    · cases hc
  case makeInterface t x =>
    split at hc
    · cases hc
    · rename_i h1
      injection hc with hc; subst hc
      simp only [aOp, Option.some.injEq] at hr
      subst hr
      refine comes_pure hs (u := .iface t (a.eval x)) ?_ (.ifc (ev_ok he x))
      have : ¬ (ckOf (P.underlying t) = .iface) := fun h => h1 (.inl h)
      cases hu : P.underlying t with
      | none => exact absurd (.inr (by simp [hu])) h1
      | some d =>
        rw [hu] at this
        simp only [Instr.makeInterface, Sem.run_bind, run_underlying hu, Result.andThen_ok]
        cases d <;> first | rfl | exact absurd rfl this
  case makeFunc f first cap =>
    injection hc with hc; subst hc
    simp only [aOp, Option.some.injEq] at hr
    subst hr
    refine ⟨.func f (first.map a.eval) (cap.map a.eval), w, β, O, .inl rfl, .refl _ _ _ _ _, hs, ?_⟩
    have := Rep.fn (f := f) (evL_ok he first.toList) (evL_ok he cap.toList)
    have e : ∀ x : Array Operand, x.map a.eval = (x.toList.map a.eval).toArray := fun x => by apply Array.ext'; simp
    rw [e first, e cap]
    exact this
  case makeSlice t l c =>
    split at hc
    · rename_i e hu
      split at hc
      · rename_i j hj
        split at hc
        · rename_i z hz
          split at hc
          · rename_i hpos
            injection hc with hc; subst hc
            simp only [aOp] at hr
            split at hr
            · rename_i k1 n k2 k hx hy
              have hx' := ev_ok he l
              have hy' := ev_ok he c
              rw [hx] at hx'
              rw [hy] at hy'
              rcases cond_some hr with ⟨hcc, hr⟩ | ⟨_, hr⟩
              · injection hr with hr; subst hr
                simp only [Bool.and_eq_true, decide_eq_true_eq] at hcc
                obtain ⟨⟨⟨c1, c2⟩, c3⟩, c4⟩ := hcc
                simp only [execOp]
                rw [rep_int hx', rep_int hy']
                exact comes_of (run_make_els hs hn hl hb hu hj hz hpos c1 c2 c3 c4 _ _)
              · cases hr
            · cases hr
          · cases hc
        · cases hc
      · cases hc
    · cases hc
  case slice t x lo hi mx =>
    cases mx with
    | some mx => simp only [cOp, reduceCtorEq] at hc
    | none =>
      have hlo : ∀ {l : Int}, lo.map (fun o => asI ((cOpd o).ev env)) = some (some l) → ∃ k, lo.map a.eval = some (.int k l) := by
        intro l h
        cases lo with
        | none => cases h
        | some o =>
          simp only [Option.map_some, Option.some.injEq] at h
          obtain ⟨k, hk⟩ := asI_some h (ev_ok he o)
          exact ⟨k, by simp [hk]⟩
      have hhi : ∀ {l : Int}, hi.map (fun o => asI ((cOpd o).ev env)) = some (some l) → ∃ k, hi.map a.eval = some (.int k l) := by
        intro l h
        cases hi with
        | none => cases h
        | some o =>
          simp only [Option.map_some, Option.some.injEq] at h
          obtain ⟨k, hk⟩ := asI_some h (ev_ok he o)
          exact ⟨k, by simp [hk]⟩
      have hlo0 : lo.map (fun o => asI ((cOpd o).ev env)) = none → lo.map a.eval = none := by intro h; cases lo <;> simp_all
      have hhi0 : hi.map (fun o => asI ((cOpd o).ev env)) = none → hi.map a.eval = none := by intro h; cases hi <;> simp_all
      simp only [cOp] at hc
      split at hc
      · rename_i e hu
        cases hj : P.info? e with
        | none => rw [hj] at hc; cases hc
        | some j =>
          rw [hj] at hc
          simp only [Option.map_some, Option.some.injEq] at hc
          subst hc
          simp only [aOp, Option.map_map, Function.comp_def] at hr
          split at hr
          · rename_i h1 h2
            obtain ⟨v, hv, rfl⟩ := v?_some hr
            obtain ⟨u, h3, h4⟩ := aSlc_ok (P := P) hv (ev_ok he x) hu hj rfl (lo := lo.map a.eval) (hiV := hi.map a.eval) (.inl ⟨hlo0 h1, rfl⟩) (.inl ⟨hhi0 h2, rfl⟩)
            exact comes_pure hs h3 h4
          · rename_i l h1 h2
            obtain ⟨v, hv, rfl⟩ := v?_some hr
            obtain ⟨u, h3, h4⟩ := aSlc_ok (P := P) hv (ev_ok he x) hu hj rfl (lo := lo.map a.eval) (hiV := hi.map a.eval) (.inr (hlo h1)) (.inl ⟨hhi0 h2, rfl⟩)
            exact comes_pure hs h3 h4
          · rename_i h h1 h2
            obtain ⟨v, hv, rfl⟩ := v?_some hr
            obtain ⟨k, hk⟩ := hhi h2
            obtain ⟨u, h3, h4⟩ := aSlc_ok (P := P) hv (ev_ok he x) hu hj rfl (lo := lo.map a.eval) (hiV := hi.map a.eval) (.inl ⟨hlo0 h1, rfl⟩) (.inr ⟨k, _, hk, rfl⟩)
            exact comes_pure hs h3 h4
          · rename_i l h h1 h2
            obtain ⟨v, hv, rfl⟩ := v?_some hr
            obtain ⟨k, hk⟩ := hhi h2
            obtain ⟨u, h3, h4⟩ := aSlc_ok (P := P) hv (ev_ok he x) hu hj rfl (lo := lo.map a.eval) (hiV := hi.map a.eval) (.inr (hlo h1)) (.inr ⟨k, _, hk, rfl⟩)
            exact comes_pure hs h3 h4
          · cases hr
      · rename_i hu
        injection hc with hc; subst hc
        simp only [aOp, Option.map_map, Function.comp_def] at hr
        have hx := ev_ok he x
        split at hr
        · rename_i s hxs h1 h2
          obtain ⟨v, hv, rfl⟩ := v?_some hr
          rw [hxs] at hx
          obtain ⟨u, h3, h4⟩ := aSlcS_ok (P := P) (β := β) (O := O) (w := w) hv hu (lo := lo.map a.eval) (hiV := hi.map a.eval) (.inl ⟨hlo0 h1, rfl⟩) (.inl ⟨hhi0 h2, rfl⟩)
          rw [← rep_str hx] at h3
          exact comes_pure hs h3 h4
        · rename_i s l hxs h1 h2
          obtain ⟨v, hv, rfl⟩ := v?_some hr
          rw [hxs] at hx
          obtain ⟨u, h3, h4⟩ := aSlcS_ok (P := P) (β := β) (O := O) (w := w) hv hu (lo := lo.map a.eval) (hiV := hi.map a.eval) (.inr (hlo h1)) (.inl ⟨hhi0 h2, rfl⟩)
          rw [← rep_str hx] at h3
          exact comes_pure hs h3 h4
        · rename_i s h hxs h1 h2
          obtain ⟨v, hv, rfl⟩ := v?_some hr
          rw [hxs] at hx
          obtain ⟨k, hk⟩ := hhi h2
          obtain ⟨u, h3, h4⟩ := aSlcS_ok (P := P) (β := β) (O := O) (w := w) hv hu (lo := lo.map a.eval) (hiV := hi.map a.eval) (.inl ⟨hlo0 h1, rfl⟩) (.inr ⟨k, _, hk, rfl⟩)
          rw [← rep_str hx] at h3
          exact comes_pure hs h3 h4
        · rename_i s l h hxs h1 h2
          obtain ⟨v, hv, rfl⟩ := v?_some hr
          rw [hxs] at hx
          obtain ⟨k, hk⟩ := hhi h2
          obtain ⟨u, h3, h4⟩ := aSlcS_ok (P := P) (β := β) (O := O) (w := w) hv hu (lo := lo.map a.eval) (hiV := hi.map a.eval) (.inr (hlo h1)) (.inr ⟨k, _, hk, rfl⟩)
          rw [← rep_str hx] at h3
          exact comes_pure hs h3 h4
        · cases hr
      · cases hc
  case fieldAddr s x k =>
    split at hc
    · rename_i fs hu
      split at hc
      · rename_i f hf
        split at hc
        · rename_i g i hg hi
          split at hc
          · rename_i h1
            injection hc with hc; subst hc
            simp only [aOp] at hr
            obtain ⟨v, hv, rfl⟩ := v?_some hr
            simp only [Bool.and_eq_true, bne_iff_ne, ne_eq] at h1
            obtain ⟨u, h2, h3⟩ := aFad_ok (P := P) hv (ev_ok he x) hu hf hi rfl rfl h1.2
            exact comes_pure hs h2 h3
          · cases hc
        · cases hc
      · cases hc
    · cases hc
  case field s x k =>
    split at hc
    · rename_i fs hu
      split at hc
      · rename_i f hf
        split at hc
        · rename_i g i hg hi
          split at hc
          · rename_i h1
            injection hc with hc; subst hc
            simp only [aOp] at hr
            split at hr
            · rename_i cs hx
              obtain ⟨v, hv, rfl⟩ := v?_some hr
              have hx' := ev_ok he x
              rw [hx] at hx'
              obtain ⟨vs, e, hrep, hone⟩ := rep_agg hx'
              obtain ⟨u, h2, h3⟩ := part_ok (P := P) hv hg hi rfl hrep hone
              refine comes_pure hs (u := u) ?_ h3
              rw [e]
              simp only [Instr.field, Sem.run_bind, run_underlying hu, Result.andThen_ok, hf, asAgg, Sem.run_pure, h2]
            · cases hr
          · cases hc
        · cases hc
      · cases hc
    · cases hc
  case indexAddr t x i =>
    split at hc
    · rename_i e hu
      cases hj : P.info? e with
      | none => rw [hj] at hc; cases hc
      | some j =>
        rw [hj] at hc
        simp only [Option.map_some, Option.some.injEq] at hc
        subst hc
        simp only [aOp] at hr
        split at hr
        · rename_i k n hx
          obtain ⟨v, hv, rfl⟩ := v?_some hr
          have hx' := ev_ok he i
          rw [hx] at hx'
          obtain ⟨u, h2, h3⟩ := aIad_ok (P := P) hv (ev_ok he x) hu hj rfl k
          rw [← rep_int hx'] at h2
          exact comes_pure hs h2 h3
        · cases hr
    · rename_i n e hu
      split at hc
      · rename_i j hj
        split at hc
        · injection hc with hc; subst hc
          simp only [aOp] at hr
          split at hr
          · rename_i k z id i0 o0 hx hy
            have hx' := ev_ok he i
            have hy' := ev_ok he x
            rw [hx] at hx'
            rw [hy] at hy'
            rcases cond_some hr with ⟨hcc, hr⟩ | ⟨_, hr⟩
            · injection hr with hr; subst hr
              obtain ⟨u, h2, h3⟩ := iada_ok (P := P) hcc hy' hu hj rfl k
              rw [← rep_int hx'] at h2
              exact comes_pure hs h2 h3
            · cases hr
          · cases hr
        · cases hc
      · cases hc
    · cases hc
  case index t x i =>
    split at hc
    · rename_i n e hu
      split at hc
      · rename_i g j hg hj
        split at hc
        · injection hc with hc; subst hc
          simp only [aOp] at hr
          split at hr
          · rename_i cs k z hx hy
            have hx' := ev_ok he x
            have hy' := ev_ok he i
            rw [hx] at hx'
            rw [hy] at hy'
            rcases cond_some hr with ⟨hcc, hr⟩ | ⟨_, hr⟩
            · obtain ⟨v, hv, rfl⟩ := v?_some hr
              obtain ⟨u, h2, h3⟩ := idx_ok (P := P) hcc hv hx' hu hg hj rfl k
              rw [← rep_int hy'] at h2
              exact comes_pure hs h2 h3
            · cases hr
          · cases hr
        · cases hc
      · cases hc
    · rename_i hu
      injection hc with hc; subst hc
      simp only [aOp] at hr
      split at hr
      · rename_i s k z hx hy
        have hx' := ev_ok he x
        have hy' := ev_ok he i
        rw [hx] at hx'
        rw [hy] at hy'
        rcases cond_some hr with ⟨hcc, hr⟩ | ⟨_, hr⟩
        · obtain ⟨v, hv, rfl⟩ := v?_some hr
          cases hb' : s[z.toNat]? with
          | none => rw [hb'] at hv; cases hv
          | some b =>
            rw [hb'] at hv
            simp only [Option.map_some, Option.some.injEq] at hv
            subst hv
            have h2 := idxs_ok (P := P) (w := w) hcc hb' hu k
            rw [← rep_int hy', ← rep_str hx'] at h2
            exact comes_pure hs h2 (.tree .int)
        · cases hr
      · cases hr
    · cases hc
  case extract x i =>
    injection hc with hc; subst hc
    simp only [aOp] at hr
    split at hr
    · rename_i vs hx
      obtain ⟨v, hv, rfl⟩ := v?_some hr
      have hx' := ev_ok he x
      rw [hx] at hx'
      obtain ⟨us, e, hrep⟩ := rep_tup hx'
      obtain ⟨u, hu, hru⟩ := hrep.get i hv
      refine comes_pure hs (u := u) ?_ hru
      rw [e]
      simp [Instr.extract, hu]
    · cases hr
  case typeAssert x xt t ok =>
    cases ok with
    | false => simp only [cOp, reduceCtorEq] at hc
    | true =>
      simp only [cOp] at hc
      split at hc
      · rename_i i hi
        split at hc
        · rename_i z hz
          split at hc
          · cases hc
          · rename_i h1
            injection hc with hc; subst hc
            simp only [aOp] at hr
            exact tas_ok hs hi hz h1 hr (ev_ok he x)
        · cases hc
      · cases hc
  case panic x =>
    injection hc with hc; subst hc
    simp only [aOp] at hr
    split at hr
    · rename_i t v hx
      injection hr with hr; subst hr
      have hx' := ev_ok he x
      rw [hx] at hx'
      obtain ⟨u, e, hu⟩ := rep_ifc hx'
      refine ⟨rfl, a.eval x, ?_, hx'⟩
      simp only [execOp]
      generalize a.eval x = p at e
      subst e
      simp [Instr.panic, goPanic, Sem.run_bind]
    · cases hr
  case call c =>
    obtain ⟨callee, args, argTypes⟩ := c
    cases callee with
    | value f => exact Bool.noConfusion hcall
    | invoke x n => simp only [reduceCtorEq] at hc
    | builtin b =>
      simp only [cOp] at hc
      have hargs : (args.map a.eval) = (args.toList.map a.eval).toArray := by apply Array.ext'; simp
      split at hc
      · rename_i x t ha ht
        have hta : argTypes = #[t] := by apply Array.ext'; exact ht
        simp only [ha, List.map_cons, List.map_nil] at hargs
        split at hc
        · rename_i e hu
          injection hc with hc; subst hc
          simp only [aOp] at hr
          obtain ⟨v, hv, rfl⟩ := v?_some hr
          cases hn' : lenA ((cOpd x).ev env) with
          | none => rw [hn'] at hv; cases hv
          | some n =>
            rw [hn'] at hv
            cases hv
            refine ⟨_, w, β, O, .inl ?_, .refl _ _ _ _ _, hs, .tree .int⟩
            simp only [execOp, resolve, invoke, builtin, hargs, hta, Sem.run_bind, Sem.run_pure, Result.andThen_ok, len_ok hn' (ev_ok he x) hu]
        · rename_i hu
          injection hc with hc; subst hc
          simp only [aOp] at hr
          split at hr
          · rename_i s hx
            injection hr with hr; subst hr
            have hx' := ev_ok he x
            rw [hx] at hx'
            refine ⟨_, w, β, O, .inl ?_, .refl _ _ _ _ _, hs, .tree .int⟩
            simp only [execOp, resolve, invoke, builtin, hargs, hta, rep_str hx', Sem.run_bind, Sem.run_pure, Result.andThen_ok, lens_ok hu]
          · cases hr
        · cases hc
      · rename_i s x t u ha ht
        have hta : argTypes = #[t, u] := by apply Array.ext'; exact ht
        simp only [ha, List.map_cons, List.map_nil] at hargs
        split at hc
        · rename_i e hu
          split at hc
          · rename_i j hj
            have fin : ∀ (tx : (∃ e, P.underlying u = some (.slice e)) ∨ P.underlying u = some .string) (z : AV) (hz : zeroA j = some z) (hc : (if 0 < j.size ∧ j.bytes ≤ 1048576 ∧ 0 < j.bytes then some (AOp.app e j.size j.bytes (cOpd s) (cOpd x)) else none) = some ao),
                Comes1 P β O w m new (execOp a.eval ⟨dst, .call ⟨.builtin .append, args, argTypes⟩, type, pos, after, guard⟩) r := by
              intro tx z hz hc
              split at hc
              · rename_i hcc
                injection hc with hc; subst hc
                simp only [aOp] at hr
                split at hr
                · rename_i xs hxs
                  obtain ⟨vs, h1, h2⟩ := src_ok (P := P) hs hxs (ev_ok he x) tx
                  obtain ⟨zv, hzv, _, _, hzs, _⟩ := zeroA_ok hz
                  obtain ⟨v, m', rfl⟩ := aApp_val hr
                  obtain ⟨r, w', β', O', h3, h4, h5, h6⟩ := app_ok (ty := type) hs hn hl hb hu hj hzv hzs rfl rfl hcc.1 hcc.2.1 hcc.2.2 (ev_ok he s) h1 h2 hr
                  refine ⟨r, w', β', O', .inl ?_, h4, h5, h6⟩
                  simp only [execOp, resolve, invoke, builtin, hargs, hta, Sem.run_bind, Sem.run_pure, Result.andThen_ok, h3]
                · cases hr
              · cases hc
            split at hc
            · rename_i z _ hz hk
              exact fin (.inl ⟨_, hk⟩) z hz hc
            · rename_i z hz hk
              exact fin (.inr hk) z hz hc
            · cases hc
          · cases hc
        · cases hc
      · rename_i d s t u ha ht
        have hta : argTypes = #[t, u] := by apply Array.ext'; exact ht
        simp only [ha, List.map_cons, List.map_nil] at hargs
        split at hc
        · rename_i e hu
          split at hc
          · rename_i j hj
            split at hc
            · rename_i hpos
              injection hc with hc; subst hc
              simp only [aOp] at hr
              split at hr
              · rename_i xs hxs
                obtain ⟨v, m', rfl⟩ := aCopy_val hr
                obtain ⟨r, w', β', O', h3, h4, h5, h6⟩ := aCopy_ok (P := P) (tx := u) (ty := type) hs hpos hr (ev_ok he d) hxs (ev_ok he s) hu hj rfl new
                refine ⟨r, w', β', O', .inl ?_, h4, h5, h6⟩
                simp only [execOp, resolve, invoke, builtin, hargs, hta, Sem.run_bind, Sem.run_pure, Result.andThen_ok, h3]
              · cases hr
            · cases hc
          · cases hc
        · cases hc
      · rename_i x y ha
        injection hc with hc; subst hc
        simp only [ha, List.map_cons, List.map_nil] at hargs
        simp only [aOp] at hr
        split at hr
        · rename_i k p k' q hp hq
          injection hr with hr; subst hr
          have hx := ev_ok he x
          have hy := ev_ok he y
          rw [hp] at hx
          rw [hq] at hy
          refine ⟨_, w, β, O, .inl ?_, .refl _ _ _ _ _, hs, .tree .int⟩
          simp [execOp, resolve, invoke, builtin, hargs, Sem.run_bind, Builtin.max_, Builtin.max2, rep_int hx, rep_int hy]
        · cases hr
      · rename_i x y ha
        injection hc with hc; subst hc
        simp only [ha, List.map_cons, List.map_nil] at hargs
        simp only [aOp] at hr
        split at hr
        · rename_i k p k' q hp hq
          injection hr with hr; subst hr
          have hx := ev_ok he x
          have hy := ev_ok he y
          rw [hp] at hx
          rw [hq] at hy
          refine ⟨_, w, β, O, .inl ?_, .refl _ _ _ _ _, hs, .tree .int⟩
          simp [execOp, resolve, invoke, builtin, hargs, Sem.run_bind, Builtin.min_, Builtin.min2, rep_int hx, rep_int hy]
        · cases hr
      · cases hc
end
end Go.Proofs.YtiijjopdhjpalaaDoor

/-! What operations look at, and what they leave alone; two that may be exchanged. Conditions: none. -/
namespace Go.Proofs.YtiijjopdhjpalaaDoor
open Go
set_option linter.unusedVariables false
set_option linter.unusedSimpArgs false

theorem upd_same {env : AEnv} {d : Nat} {v : AV} (h : env d = v) : upd env (some d) v = env := by
  funext i
  by_cases e : i = d
  · subst e; simp [upd, h]
  · simp [upd, e]
theorem upd_ne {env : AEnv} {d : Option Nat} {v : AV} {t : Nat} (h : d ≠ some t) : upd env d v t = env t := by
  cases d with
  | none => rfl
  | some d =>
    have : t ≠ d := fun e => h (by rw [e])
    simp [upd, this]
theorem upd_comm {env : AEnv} {d e : Option Nat} {v u : AV} (h : ∀ x, d = some x → e ≠ some x) : upd (upd env d v) e u = upd (upd env e u) d v := by
  cases d with
  | none => rfl
  | some d =>
    cases e with
    | none => rfl
    | some e =>
      have hne : d ≠ e := fun x => h d rfl (by rw [x])
      funext i
      by_cases h1 : i = d <;> by_cases h2 : i = e <;> simp [upd, h1, h2, hne, Ne.symm hne]

def aSeq (calls : Nat → AF) (base : Nat) : List AOper → AEnv → AMem → Kont → Res
  | [], env, m, K => K .normal env m
  | o :: r, env, m, K => match aStep calls base o env m with
    | some (.val v m') => aSeq calls base r (upd env o.dst v) m' K
    | some (.pan v m') => K (.panic v) env m'
    | none => none
theorem aOps_eq {calls : Nat → AF} {base : Nat} {K : Kont} : ∀ {l : List AOper} {env : AEnv} {m : AMem}, aOps calls base l env m K = aSeq calls base l env m K
  | [], _, _ => rfl
  | ⟨k, dst, g, op⟩ :: r, env, m => by
    have ih : ∀ {env m}, aOps calls base r env m K = aSeq calls base r env m K := aOps_eq
    cases g with
    | none =>
      simp only [aOps, aSeq, aStep]
      cases aOp calls env m (base + k) op with
      | none => rfl
      | some x => cases x <;> first | rfl | exact ih
    | some g =>
      obtain ⟨d, want⟩ := g
      cases d with
      | none => exact ih
      | some d =>
        simp only [aOps, aSeq, aStep]
        cases hq : env d
        case bool q =>
          by_cases hw : q = want
          · subst hw
            simp only [beq_self_eq_true, cond_true, upd_same hq]
            cases aOp calls env m (base + k) op with
            | none => rfl
            | some x => cases x <;> first | rfl | exact ih
          · have hw' : (q == want) = false := by simpa using hw
            have : q = !want := by cases q <;> cases want <;> simp_all
            simp only [hw', cond_false]
            rw [upd_same (by rw [hq, this])]
            exact ih
        case tup l =>
          cases l
          · exact ih
          · rfl
        all_goals rfl

theorem mem_opdTs : ∀ {l : List Opd} {i : Nat}, Opd.t i ∈ l → i ∈ opdTs l
  | .t j :: r, i, h => by
    rcases List.mem_cons.1 h with h | h
    · injection h with h; subst h; simp [opdTs]
    · simp [opdTs, mem_opdTs h]
  | .c v :: r, i, h => by
    rcases List.mem_cons.1 h with h | h
    · cases h
    · simp [opdTs, mem_opdTs h]
theorem ev_congr {l : List Opd} {env env' : AEnv} (h : ∀ t, t ∈ opdTs l → env t = env' t) : ∀ x, x ∈ l → x.ev env = x.ev env' := by
  intro x hx
  cases x with
  | t i => exact h i (mem_opdTs hx)
  | c v => rfl
theorem aOp_congr {calls : Nat → AF} {env env' : AEnv} {m : AMem} {new : Nat} {op : AOp} (h : ∀ t, t ∈ opdTs (opds op) → env t = env' t) : aOp calls env m new op = aOp calls env' m new op := by
  have H := ev_congr h
  clear h
  cases op
  case build z ps =>
    have e : (ps.map fun p => (p.1, p.2.1, p.2.2.ev env)) = ps.map fun p => (p.1, p.2.1, p.2.2.ev env') :=
      List.map_congr_left fun p hp => by rw [H p.2.2 (List.mem_map.2 ⟨p, hp, rfl⟩)]
    simp only [aOp, e]
  case mkl t s z ps =>
    have e : (ps.map fun p => (p.1, p.2.ev env)) = ps.map fun p => (p.1, p.2.ev env') :=
      List.map_congr_left fun p hp => by rw [H p.2 (List.mem_map.2 ⟨p, hp, rfl⟩)]
    simp only [aOp, e]
  case mkf f a b =>
    have e1 : evL env a = evL env' a := List.map_congr_left fun p hp => H p (List.mem_append.2 (.inl hp))
    have e2 : evL env b = evL env' b := List.map_congr_left fun p hp => H p (List.mem_append.2 (.inr hp))
    simp only [aOp, e1, e2]
  case call f a =>
    have e1 : f.ev env = f.ev env' := H f (List.mem_cons_self ..)
    have e2 : evL env a = evL env' a := List.map_congr_left fun p hp => H p (List.mem_cons_of_mem _ hp)
    simp only [aOp, e1, e2]
  case slc s x lo hi => cases lo <;> cases hi <;> simp [opds] at H <;> simp [aOp, H]
  case slcs x lo hi => cases lo <;> cases hi <;> simp [opds] at H <;> simp [aOp, H]
  all_goals (simp only [opds, List.mem_cons, List.not_mem_nil, or_false, forall_eq_or_imp, forall_eq] at H; simp only [aOp, H])

theorem aStep_congr {calls : Nat → AF} {base : Nat} {env env' : AEnv} {m : AMem} {o : AOper} (h : ∀ t, t ∈ looks o → env t = env' t) : aStep calls base o env m = aStep calls base o env' m := by
  unfold looks at h
  have h1 : aOp calls env m (base + o.k) o.op = aOp calls env' m (base + o.k) o.op := aOp_congr fun t ht => h t (List.mem_append.2 (.inr ht))
  unfold aStep
  split
  · exact h1
  · rfl
  · rename_i d want hg
    have : env d = env' d := h d (List.mem_append.2 (.inl (by simp [hg])))
    rw [this, h1]
theorem aStep_upd {calls : Nat → AF} {base : Nat} {env : AEnv} {m : AMem} {o : AOper} {d : Option Nat} {v : AV} (h : ∀ x, d = some x → x ∉ looks o) : aStep calls base o (upd env d v) m = aStep calls base o env m :=
  aStep_congr fun t ht => upd_ne fun e => h t e ht

/-! ### What is done to memory -/
def MLe (m m' : AMem) : Prop := ∀ id o, m.get id = some o → m'.get id = some o
/-- Memory grows; what is not there does not come back. -/
def Grows (m m' : AMem) (new : Nat) : Prop := m.next ≤ m'.next ∧ ∀ id, id < m.next → id ≠ new → m.get id = none → m'.get id = none
theorem Grows.refl (m : AMem) (new : Nat) : Grows m m new := ⟨Nat.le_refl _, fun _ _ _ h => h⟩
def Good (F : AF) : Prop := ∀ args m o m', F args m = some (o, m') → Grows m m' m.next
structure PureF (F : AF) : Prop where
  same : ∀ args m o m', F args m = some (o, m') → m' = m ∧ ∃ v, o = .ret v
  mono : ∀ args m m2 v, MLe m m2 → F args m = some (.ret v, m) → F args m2 = some (.ret v, m2)
def AR.mem : AR → AMem
  | .val _ m | .pan _ m => m
theorem grows_put {m : AMem} {id new : Nat} {o : AObj} (h : id = new ∨ m.get id ≠ none) : Grows m (m.put id o) new := by
  refine ⟨Nat.le_refl _, fun j hj hne hn => ?_⟩
  show (if j = id then _ else m.get j) = none
  by_cases e : j = id
  · subst e
    rcases h with h | h
    · exact absurd h hne
    · exact absurd hn h
  · rw [if_neg e]; exact hn
theorem aOp_grows {calls : Nat → AF} (hg : ∀ g, Good (calls g)) {env : AEnv} {m : AMem} {new : Nat} {op : AOp} {r : AR} (h : aOp calls env m new op = some r) : Grows m r.mem new := by
  have self : ∀ {x : Option AV}, v? m x = some r → Grows m r.mem new := by
    intro x hx
    cases x <;> simp only [v?, reduceCtorEq, Option.some.injEq] at hx
    subst hx
    exact .refl _ _
  have val : ∀ {v : AV}, some (AR.val v m) = some r → Grows m r.mem new := by
    intro v hx
    injection hx with hx
    subst hx
    exact .refl _ _
  cases op <;> simp only [aOp] at h
  case store a s p v =>
    generalize hx : aStore m a s (p.ev env) (v.ev env) = x at h
    cases x with
    | none => cases h
    | some m' =>
      simp only [m?, Option.some.injEq] at h
      subst h
      unfold aStore at hx
      repeat' (split at hx)
      all_goals (cases hx)
      rename_i hget _ _ _ _
      exact grows_put (.inr (by rw [hget]; exact fun h => nomatch h))
  case app t s b x y =>
    split at h
    · unfold aApp at h
      split at h
      · split at h
        · injection h with h; subst h; exact grows_put (.inl rfl)
        · cases h
      · split at h
        · split at h
          · injection h with h; subst h
            refine ⟨Nat.le_refl _, fun j hj hne hn => ?_⟩
            show (if j = new then _ else if j = _ then none else m.get j) = none
            rw [if_neg hne, hn]
            split <;> rfl
          · cases h
        · cases h
      · cases h
    · cases h
  case copy s x y =>
    split at h
    · unfold aCopy at h
      split at h
      · exact val h
      · split at h
        · cases h
        · split at h
          · exact val h
          · split at h
            · split at h
              · injection h with h; subst h
                rename_i hget _
                exact grows_put (.inr (by rw [hget]; exact fun h => nomatch h))
              · cases h
            · cases h
      · cases h
    · cases h
  case call f a =>
    split at h
    · rename_i g fi ca hf
      generalize hx : calls g (fi ++ evL env a ++ ca) m = x at h
      cases x with
      | none => cases h
      | some x =>
        obtain ⟨o, m'⟩ := x
        have := hg _ _ _ _ _ hx
        have e : r.mem = m' := by
          cases o <;> simp only [call?, Option.some.injEq] at h <;> subst h <;> rfl
        rw [e]
        exact ⟨this.1, fun id hid _ hn => this.2 id hid (by omega) hn⟩
    · cases h
  case mset x k v =>
    split at h
    · split at h
      · rename_i es hget
        generalize mapSet (k.ev env) (v.ev env) es = y at h
        cases y with
        | none => cases h
        | some y =>
          simp only [Option.map_some, m?, Option.some.injEq] at h
          subst h
          exact grows_put (.inr (by rw [hget]; exact fun h => nomatch h))
      · cases h
    · cases h
  case del x k =>
    split at h
    · split at h
      · rename_i es hget
        generalize mapDel (k.ev env) es = y at h
        cases y with
        | none => cases h
        | some y =>
          simp only [Option.map_some, m?, Option.some.injEq] at h
          subst h
          exact grows_put (.inr (by rw [hget]; exact fun h => nomatch h))
      · cases h
    · exact val h
    · cases h
  case convBB x =>
    split at h
    · split at h
      · split at h
        · injection h with h; subst h
          refine ⟨Nat.le_refl _, fun j hj hne hn => ?_⟩
          show (if j = _ then none else m.get j) = none
          rw [hn]
          split <;> rfl
        · cases h
      · cases h
    · cases h
  case look z k x y =>
    split at h
    · split at h
      · split at h <;> first | exact val h | cases h
      · cases h
    · exact val h
    · cases h
  case pick c a b =>
    split at h
    · rename_i q _
      cases q <;> exact val h
    · cases h
  case idx a n s x i =>
    split at h
    · rename_i cs k z _ _
      generalize inRange z n = q at h
      cases q
      · cases h
      · exact self h
    · cases h
  case idxs x i =>
    split at h
    · rename_i cs k z _ _
      generalize inRange z _ = q at h
      cases q
      · cases h
      · exact self h
    · cases h
  case iada n s x i =>
    split at h
    · rename_i k z _ _ _ _ _
      generalize inRange z n = q at h
      cases q
      · cases h
      · exact val h
    · cases h
  case mks t s b z l c =>
    split at h
    · generalize (_ && _ : Bool) = q at h
      cases q
      · cases h
      · injection h with h; subst h; exact grows_put (.inl rfl)
    · cases h
  all_goals first
    | exact val h
    | exact self h
    | (injection h with h; subst h; exact grows_put (.inl rfl))
    | (split at h <;> first | exact val h | exact self h | (cases h; done) | (injection h with h; subst h; exact grows_put (.inl rfl)) | (injection h with h; subst h; exact .refl _ _) | (split at h <;> first | exact val h | exact self h | (cases h; done)))
theorem aStep_grows {calls : Nat → AF} (hg : ∀ g, Good (calls g)) {base : Nat} {env : AEnv} {m : AMem} {o : AOper} {r : AR} (h : aStep calls base o env m = some r) : Grows m r.mem (base + o.k) := by
  unfold aStep at h
  split at h
  · exact aOp_grows hg h
  · injection h with h; subst h; exact .refl _ _
  · split at h
    · rename_i q _
      generalize (q == _) = b at h
      cases b
      · injection h with h; subst h; exact .refl _ _
      · exact aOp_grows hg h
    · injection h with h; subst h; exact .refl _ _
    · cases h

/-! ### The four kinds -/
theorem aLoad_mono {m m2 : AMem} (h : MLe m m2) {a : Bool} {s : Nat} {p v : AV} (e : aLoad m a s p = some v) : aLoad m2 a s p = some v := by
  unfold aLoad at *
  split at e
  · exact e
  · split at e
    · rename_i hget
      rw [h _ _ hget]
      exact e
    · cases e
  · cases e
theorem elems_mono {m m2 : AMem} (h : MLe m m2) {s : Nat} {x : AV} {es : List AV} (e : elems m s x = some es) : elems m2 s x = some es := by
  cases x with
  | sl sz' id i n =>
    simp only [elems] at *
    split at e
    · rename_i hs
      rw [if_pos hs]
      split at e
      · rename_i hget
        rw [h _ _ hget]
        exact e
      · split at e
        · rename_i hn
          injection e with e
          subst hn
          split
          · split
            · rw [← e]; simp
            · simp [e]
          · simp [e]
        · cases e
    · cases e
  | _ => exact e
theorem aOp_pure {calls : Nat → AF} {pf : Nat → Bool} {env : AEnv} {m : AMem} {new : Nat} {op : AOp} {r : AR} (he : effOf pf op = .pure) (h : aOp calls env m new op = some r) :
    ∃ v, r = .val v m ∧ ∀ m2 new2, aOp calls env m2 new2 op = some (.val v m2) := by
  have self : ∀ {x : Option AV}, v? m x = some r → ∃ v, r = .val v m ∧ ∀ m2, v? m2 x = some (.val v m2) := by
    intro x hx
    cases x <;> simp only [v?, reduceCtorEq, Option.some.injEq] at hx
    exact ⟨_, hx.symm, fun _ => rfl⟩
  cases op <;> simp only [effOf, reduceCtorEq] at he <;> simp only [aOp] at h ⊢
  case call f a =>
    exfalso
    unfold callEff at he
    split at he
    · split at he <;> cases he
    · cases he
  case pick c a b =>
    split at h
    · rename_i q hq
      cases q
      · injection h with h; exact ⟨_, h.symm, fun _ _ => rfl⟩
      · injection h with h; exact ⟨_, h.symm, fun _ _ => rfl⟩
    · cases h
  case idx a n s x i =>
    split at h
    · rename_i cs k z _ _
      generalize inRange z n = q at h
      cases q
      · cases h
      · obtain ⟨v, e, hv⟩ := self h
        exact ⟨v, e, fun m2 _ => hv m2⟩
    · cases h
  case idxs x i =>
    split at h
    · rename_i cs k z _ _
      generalize inRange z _ = q at h
      cases q
      · cases h
      · obtain ⟨v, e, hv⟩ := self h
        exact ⟨v, e, fun m2 _ => hv m2⟩
    · cases h
  case iada n s x i =>
    split at h
    · rename_i k z _ _ _ _ _
      generalize inRange z n = q at h
      cases q
      · cases h
      · injection h with h; exact ⟨_, h.symm, fun _ _ => rfl⟩
    · cases h
  all_goals first
    | (obtain ⟨v, e, hv⟩ := self h; exact ⟨v, e, fun m2 _ => hv m2⟩)
    | (injection h with h; exact ⟨_, h.symm, fun _ _ => rfl⟩)
    | (split at h <;> first
        | (obtain ⟨v, e, hv⟩ := self h; exact ⟨v, e, fun m2 _ => hv m2⟩)
        | (cases h; done)
        | (injection h with h; exact ⟨_, h.symm, fun _ _ => rfl⟩)
        | (split at h <;> (rename_i hc; injection h with h; first | exact ⟨_, h.symm, fun _ _ => if_pos hc⟩ | exact ⟨_, h.symm, fun _ _ => if_neg hc⟩)))
theorem aOp_read {calls : Nat → AF} {pf : Nat → Bool} (hp : ∀ g, pf g = true → PureF (calls g)) {env : AEnv} {m : AMem} {new : Nat} {op : AOp} {r : AR} (he : effOf pf op = .read) (h : aOp calls env m new op = some r) :
    ∃ v, r = .val v m ∧ ∀ m2 new2, MLe m m2 → aOp calls env m2 new2 op = some (.val v m2) := by
  cases op <;> simp only [effOf, reduceCtorEq] at he <;> simp only [aOp] at h ⊢
  case load a s p =>
    generalize hx : aLoad m a s (p.ev env) = x at h
    cases x with
    | none => cases h
    | some v =>
      simp only [v?, Option.some.injEq] at h
      exact ⟨v, h.symm, fun m2 _ hm => by rw [aLoad_mono hm hx]; rfl⟩
  case convBS p =>
    split at h
    · rename_i es hes
      split at h
      · rename_i l hl
        injection h with h
        exact ⟨_, h.symm, fun m2 _ hm => by rw [elems_mono hm hes]; simp only [hl]⟩
      · cases h
    · cases h
  case call f a =>
    unfold callEff at he
    split at he
    · rename_i g
      split at he
      · rename_i hg
        simp only [Opd.ev] at h ⊢
        generalize hx : calls g ([] ++ evL env a ++ []) m = x at h
        cases x with
        | none => cases h
        | some x =>
          obtain ⟨o, m'⟩ := x
          obtain ⟨rfl, v, rfl⟩ := (hp g hg).same _ _ _ _ hx
          simp only [call?, Option.some.injEq] at h
          exact ⟨v, h.symm, fun m2 _ hm => by rw [(hp g hg).mono _ _ _ _ hm hx]; rfl⟩
      · cases he
    · cases he
theorem aOp_make {calls : Nat → AF} {pf : Nat → Bool} {env : AEnv} {m : AMem} {new : Nat} {op : AOp} {r : AR} (he : effOf pf op = .make) (h : aOp calls env m new op = some r) :
    ∃ v o, r = .val v (m.put new o) ∧ ∀ m2, aOp calls env m2 new op = some (.val v (m2.put new o)) := by
  cases op <;> simp only [effOf, reduceCtorEq] at he <;> simp only [aOp] at h ⊢
  case call f a =>
    exfalso
    unfold callEff at he
    split at he
    · split at he <;> cases he
    · cases he
  case mks t s b z l c =>
    split at h
    · generalize (_ && _ : Bool) = q at h ⊢
      cases q
      · cases h
      · injection h with h; exact ⟨_, _, h.symm, fun _ => rfl⟩
    · cases h
  case new t s v =>
    split at h
    · rename_i hc
      injection h with h
      exact ⟨_, _, h.symm, fun _ => if_pos hc⟩
    · cases h
  all_goals (split at h <;> first | (cases h; done) | (injection h with h; exact ⟨_, _, h.symm, fun _ => rfl⟩))

/-! ### Two that may be exchanged -/
structure Swappable (calls : Nat → AF) (pf : Nat → Bool) : Prop where
  pure : ∀ g, pf g = true → PureF (calls g)
def AR.Is (r : AR) (v : AV) (m : AMem) : Prop := r = .val v m
/-- What one operation of a kind that is not 'write' does. -/
theorem aStep_kind {calls : Nat → AF} {pf : Nat → Bool} (hp : ∀ g, pf g = true → PureF (calls g)) {base : Nat} {env : AEnv} {m : AMem} {o : AOper} {r : AR} (h : aStep calls base o env m = some r) :
    (effOf pf o.op = .pure → ∃ v, r = .val v m ∧ ∀ m2, aStep calls base o env m2 = some (.val v m2)) ∧
    (effOf pf o.op = .read → ∃ v, r = .val v m ∧ ∀ m2, MLe m m2 → aStep calls base o env m2 = some (.val v m2)) ∧
    (effOf pf o.op = .make → (∃ v, r = .val v m ∧ ∀ m2, aStep calls base o env m2 = some (.val v m2)) ∨ ∃ v ob, r = .val v (m.put (base + o.k) ob) ∧ ∀ m2, aStep calls base o env m2 = some (.val v (m2.put (base + o.k) ob))) := by
  have run : ∀ {r : AR}, aOp calls env m (base + o.k) o.op = some r →
      (effOf pf o.op = .pure → ∃ v, r = .val v m ∧ ∀ m2, aOp calls env m2 (base + o.k) o.op = some (.val v m2)) ∧
      (effOf pf o.op = .read → ∃ v, r = .val v m ∧ ∀ m2, MLe m m2 → aOp calls env m2 (base + o.k) o.op = some (.val v m2)) ∧
      (effOf pf o.op = .make → (∃ v, r = .val v m ∧ ∀ m2, aOp calls env m2 (base + o.k) o.op = some (.val v m2)) ∨ ∃ v ob, r = .val v (m.put (base + o.k) ob) ∧ ∀ m2, aOp calls env m2 (base + o.k) o.op = some (.val v (m2.put (base + o.k) ob))) := by
    intro r h
    refine ⟨fun he => ?_, fun he => ?_, fun he => .inr (aOp_make he h)⟩
    · obtain ⟨v, e, hv⟩ := aOp_pure he h
      exact ⟨v, e, fun m2 => hv m2 _⟩
    · obtain ⟨v, e, hv⟩ := aOp_read hp he h
      exact ⟨v, e, fun m2 => hv m2 _⟩
  unfold aStep at h ⊢
  split at h
  · exact run h
  · injection h with h
    subst h
    exact ⟨fun _ => ⟨_, rfl, fun _ => rfl⟩, fun _ => ⟨_, rfl, fun _ _ => rfl⟩, fun _ => .inl ⟨_, rfl, fun _ => rfl⟩⟩
  · rename_i d want _
    split at h
    · rename_i q _
      by_cases hb : q = want
      · subst hb
        simp only [beq_self_eq_true, cond_true] at h ⊢
        exact run h
      · have hb : (q == want) = false := by simpa using hb
        simp only [hb, cond_false] at h ⊢
        injection h with h
        subst h
        exact ⟨fun _ => ⟨_, rfl, fun _ => rfl⟩, fun _ => ⟨_, rfl, fun _ _ => rfl⟩, fun _ => .inl ⟨_, rfl, fun _ => rfl⟩⟩
    · injection h with h
      subst h
      exact ⟨fun _ => ⟨_, rfl, fun _ => rfl⟩, fun _ => ⟨_, rfl, fun _ _ => rfl⟩, fun _ => .inl ⟨_, rfl, fun _ => rfl⟩⟩
    · cases h
theorem apart_spec {x y : AOper} (h : apartA x y = true) : (∀ d, x.dst = some d → d ∉ looks y) ∧ (∀ d, x.dst = some d → y.dst ≠ some d) ∧ (∀ d, y.dst = some d → d ∉ looks x) := by
  refine ⟨fun d hd => ?_, fun d hd => ?_, fun d hd => ?_⟩ <;> simp [apartA, hd] at h
  · exact h.1.1
  · exact h.1.2
  · exact h.2
theorem AMem.ext' {m m2 : AMem} (h : m.next = m2.next) (g : m.get = m2.get) : m = m2 := by
  cases m; cases m2
  cases h; cases g
  rfl
theorem put_comm {m : AMem} {a b : Nat} {x y : AObj} (h : a ≠ b) : (m.put a x).put b y = (m.put b y).put a x := by
  refine AMem.ext' rfl (funext fun j => ?_)
  show (if j = b then (if b < m.next then some y else none) else if j = a then (if a < m.next then some x else none) else m.get j) =
    (if j = a then (if a < m.next then some x else none) else if j = b then (if b < m.next then some y else none) else m.get j)
  by_cases h1 : j = b <;> by_cases h2 : j = a <;> simp [h1, h2, h, Ne.symm h]
theorem mle_put {m : AMem} {id : Nat} {o : AObj} (h : m.get id = none) : MLe m (m.put id o) := by
  intro j ob hj
  show (if j = id then _ else m.get j) = some ob
  by_cases e : j = id
  · subst e; rw [h] at hj; cases hj
  · rw [if_neg e]; exact hj
/-- At a panic the slots are not asked for. -/
def KPan (K : Kont) : Prop := ∀ v e e' m, K (.panic v) e m = K (.panic v) e' m
theorem swap {calls : Nat → AF} {pf : Nat → Bool} (hp : ∀ g, pf g = true → PureF (calls g)) {base : Nat} {x y : AOper} (hk : x.k ≠ y.k) (hmix : mayMix (effOf pf x.op) (effOf pf y.op) = true) (hap : apartA x y = true)
    {env : AEnv} {m : AMem} (hy : m.get (base + y.k) = none) {l : List AOper} {K : Kont} (hK : KPan K) {r : AOut × AMem} (h : aSeq calls base (x :: y :: l) env m K = some r) : aSeq calls base (y :: x :: l) env m K = some r := by
  obtain ⟨h1, h2, h3⟩ := apart_spec hap
  cases hx : aStep calls base x env m with
  | none => simp [aSeq, hx] at h
  | some rx =>
    obtain ⟨px, rx', mx⟩ := aStep_kind hp hx
    rw [aSeq, hx] at h
    -- the one value of x, and the memory
    have key : ∀ (vx : AV) (m1 : AMem), rx = .val vx m1 → (∀ ry, aStep calls base y env m1 = some ry → (∀ v m', ry = .val v m' → ∃ my, aStep calls base y env m = some (.val v my) ∧ aStep calls base x env my = some (.val vx m')) ∧
        (∀ v m', ry = .pan v m' → aStep calls base y env m = some (.pan v m'))) → aSeq calls base (y :: x :: l) env m K = some r := by
      intro vx m1 e hh
      subst e
      simp only [aSeq] at h
      rw [aStep_upd h1] at h
      cases hyy : aStep calls base y env m1 with
      | none => rw [hyy] at h; cases h
      | some ry =>
        rw [hyy] at h
        obtain ⟨a, b⟩ := hh ry hyy
        cases ry with
        | val v m' =>
          obtain ⟨my, e1, e2⟩ := a v m' rfl
          simp only [aSeq, e1]
          rw [aStep_upd h3, e2]
          simp only
          rw [upd_comm (fun d hd hx => h2 d hx hd)]
          exact h
        | pan v m' =>
          simp only [aSeq, b v m' rfl]
          rw [hK v env _ m']
          exact h
    cases ex : effOf pf x.op with
    | pure =>
      obtain ⟨vx, e, hv⟩ := px ex
      refine key vx m e (fun ry hyy => ⟨fun v m' e => ?_, fun v m' e => ?_⟩)
      · subst e; exact ⟨m', hyy, hv m'⟩
      · subst e; exact hyy
    | write => rw [ex] at hmix; cases hmix
    | read =>
      obtain ⟨vx, e, hv⟩ := rx' ex
      refine key vx m e (fun ry hyy => ?_)
      obtain ⟨py, ry', my⟩ := aStep_kind hp hyy
      rw [ex] at hmix
      cases ey : effOf pf y.op with
      | pure =>
        obtain ⟨vy, e, hvy⟩ := py ey
        subst e
        refine ⟨fun v m' e => ?_, fun v m' e => by cases e⟩
        injection e with e1 e2; subst e1 e2
        exact ⟨m, hyy, hv m (fun _ _ h => h)⟩
      | read =>
        obtain ⟨vy, e, hvy⟩ := ry' ey
        subst e
        refine ⟨fun v m' e => ?_, fun v m' e => by cases e⟩
        injection e with e1 e2; subst e1 e2
        exact ⟨m, hyy, hv m (fun _ _ h => h)⟩
      | write => rw [ey] at hmix; cases hmix
      | make =>
        rcases my ey with ⟨vy, e, hvy⟩ | ⟨vy, ob, e, hvy⟩
        · subst e
          refine ⟨fun v m' e => ?_, fun v m' e => by cases e⟩
          injection e with e1 e2; subst e1 e2
          exact ⟨m, hyy, hv m (fun _ _ h => h)⟩
        · subst e
          refine ⟨fun v m' e => ?_, fun v m' e => by cases e⟩
          injection e with e1 e2; subst e1 e2
          exact ⟨_, hyy, hv _ (mle_put hy)⟩
    | make =>
      rw [ex] at hmix
      rcases mx ex with ⟨vx, e, hv⟩ | ⟨vx, ob, e, hv⟩
      · refine key vx m e (fun ry hyy => ⟨fun v m' e => ?_, fun v m' e => ?_⟩)
        · subst e; exact ⟨m', hyy, hv m'⟩
        · subst e; exact hyy
      · refine key vx _ e (fun ry hyy => ?_)
        obtain ⟨py, ry', my⟩ := aStep_kind hp hyy
        cases ey : effOf pf y.op with
        | pure =>
          obtain ⟨vy, e, hvy⟩ := py ey
          subst e
          refine ⟨fun v m' e => ?_, fun v m' e => by cases e⟩
          injection e with e1 e2; subst e1 e2
          exact ⟨m, hvy m, hv m⟩
        | read => rw [ey] at hmix; cases hmix
        | write => rw [ey] at hmix; cases hmix
        | make =>
          rcases my ey with ⟨vy, e, hvy⟩ | ⟨vy, ob', e, hvy⟩
          · subst e
            refine ⟨fun v m' e => ?_, fun v m' e => by cases e⟩
            injection e with e1 e2; subst e1 e2
            exact ⟨m, hvy m, hv m⟩
          · subst e
            refine ⟨fun v m' e => ?_, fun v m' e => by cases e⟩
            injection e with e1 e2; subst e1 e2
            refine ⟨_, hvy m, ?_⟩
            rw [put_comm (by omega)]
            exact hv _
/-! ### With a second look at what was read -/
theorem aSeq_eq {calls : Nat → AF} {base : Nat} {K : Kont} : ∀ {l done : List AOper} {env : AEnv} {m : AMem}, aSeq calls base l env m K = aSeqD calls base [] done l env m K
  | [], _, _, _ => rfl
  | o :: r, done, env, m => by
    rw [aSeq, aSeqD]
    have : ∀ env m, again calls base [] done o env m = true := fun env m => by simp [again]
    cases aStep calls base o env m with
    | none => rfl
    | some x =>
      cases x with
      | val v m' => simp only [this, cond_true]; exact aSeq_eq
      | pan v m' => rfl
theorem seqD_done {calls : Nat → AF} {base : Nat} {chk : List (Nat × Nat)} {K : Kont} : ∀ {l d1 d2 : List AOper} {env : AEnv} {m : AMem}, (∀ p : AOper → Bool, d1.all p = d2.all p) → aSeqD calls base chk d1 l env m K = aSeqD calls base chk d2 l env m K
  | [], _, _, _, _, _ => rfl
  | o :: r, d1, d2, env, m, h => by
    rw [aSeqD, aSeqD]
    have : ∀ env m, again calls base chk d1 o env m = again calls base chk d2 o env m := fun env m => h _
    cases aStep calls base o env m with
    | none => rfl
    | some x =>
      cases x with
      | val v m' =>
        simp only [this]
        rw [seqD_done (d1 := o :: d1) (d2 := o :: d2) (fun p => by simp [h p])]
      | pan v m' => rfl
/-- Nothing is looked at again behind o. -/
def Free (chk : List (Nat × Nat)) (o : AOper) : Prop := ∀ p, p ∈ chk → p.2 ≠ o.k
theorem again_free {calls : Nat → AF} {base : Nat} {chk : List (Nat × Nat)} {done : List AOper} {o : AOper} (h : Free chk o) (env : AEnv) (m : AMem) : again calls base chk done o env m = true := by
  simp only [again, List.all_eq_true, Bool.or_eq_true, Bool.not_eq_true']
  intro x _
  left
  cases hc : chk.contains (x.k, o.k) with
  | false => rfl
  | true => exact absurd rfl (h _ (List.contains_iff_mem.1 hc))
/-- Two steps, and a rest. -/
theorem swapT {calls : Nat → AF} {pf : Nat → Bool} (hp : ∀ g, pf g = true → PureF (calls g)) {base : Nat} {x y : AOper} (hk : x.k ≠ y.k) (hmix : mayMix (effOf pf x.op) (effOf pf y.op) = true) (hap : apartA x y = true)
    {env : AEnv} {m : AMem} (hy : m.get (base + y.k) = none) {K : Kont} (hK : KPan K) {r : AOut × AMem} {T : AEnv → AMem → Res}
    (h : (match aStep calls base x env m with
      | some (.val v m') => (match aStep calls base y (upd env x.dst v) m' with
        | some (.val u m2) => T (upd (upd env x.dst v) y.dst u) m2
        | some (.pan u m2) => K (.panic u) (upd env x.dst v) m2
        | none => none)
      | some (.pan v m') => K (.panic v) env m'
      | none => none) = some r) :
    (match aStep calls base y env m with
      | some (.val v m') => (match aStep calls base x (upd env y.dst v) m' with
        | some (.val u m2) => T (upd (upd env y.dst v) x.dst u) m2
        | some (.pan u m2) => K (.panic u) (upd env y.dst v) m2
        | none => none)
      | some (.pan v m') => K (.panic v) env m'
      | none => none) = some r := by
  let T' : List AOper := []
  obtain ⟨h1, h2, h3⟩ := apart_spec hap
  cases hx : aStep calls base x env m with
  | none => simp [hx] at h
  | some rx =>
    obtain ⟨px, rx', mx⟩ := aStep_kind hp hx
    rw [hx] at h
    have key : ∀ (vx : AV) (m1 : AMem), rx = .val vx m1 → (∀ ry, aStep calls base y env m1 = some ry → (∀ v m', ry = .val v m' → ∃ my, aStep calls base y env m = some (.val v my) ∧ aStep calls base x env my = some (.val vx m')) ∧
        (∀ v m', ry = .pan v m' → aStep calls base y env m = some (.pan v m'))) → (match aStep calls base y env m with
      | some (.val v m') => (match aStep calls base x (upd env y.dst v) m' with
        | some (.val u m2) => T (upd (upd env y.dst v) x.dst u) m2
        | some (.pan u m2) => K (.panic u) (upd env y.dst v) m2
        | none => none)
      | some (.pan v m') => K (.panic v) env m'
      | none => none) = some r := by
      intro vx m1 e hh
      subst e
      simp only at h
      rw [aStep_upd h1] at h
      cases hyy : aStep calls base y env m1 with
      | none => rw [hyy] at h; cases h
      | some ry =>
        rw [hyy] at h
        obtain ⟨a, b⟩ := hh ry hyy
        cases ry with
        | val v m' =>
          obtain ⟨my, e1, e2⟩ := a v m' rfl
          simp only [e1]
          rw [aStep_upd h3, e2]
          simp only
          rw [upd_comm (fun d hd hx => h2 d hx hd)]
          exact h
        | pan v m' =>
          simp only [b v m' rfl]
          rw [hK v env _ m']
          exact h
    cases ex : effOf pf x.op with
    | pure =>
      obtain ⟨vx, e, hv⟩ := px ex
      refine key vx m e (fun ry hyy => ⟨fun v m' e => ?_, fun v m' e => ?_⟩)
      · subst e; exact ⟨m', hyy, hv m'⟩
      · subst e; exact hyy
    | write => rw [ex] at hmix; cases hmix
    | read =>
      obtain ⟨vx, e, hv⟩ := rx' ex
      refine key vx m e (fun ry hyy => ?_)
      obtain ⟨py, ry', my⟩ := aStep_kind hp hyy
      rw [ex] at hmix
      cases ey : effOf pf y.op with
      | pure =>
        obtain ⟨vy, e, hvy⟩ := py ey
        subst e
        refine ⟨fun v m' e => ?_, fun v m' e => by cases e⟩
        injection e with e1 e2; subst e1 e2
        exact ⟨m, hyy, hv m (fun _ _ h => h)⟩
      | read =>
        obtain ⟨vy, e, hvy⟩ := ry' ey
        subst e
        refine ⟨fun v m' e => ?_, fun v m' e => by cases e⟩
        injection e with e1 e2; subst e1 e2
        exact ⟨m, hyy, hv m (fun _ _ h => h)⟩
      | write => rw [ey] at hmix; cases hmix
      | make =>
        rcases my ey with ⟨vy, e, hvy⟩ | ⟨vy, ob, e, hvy⟩
        · subst e
          refine ⟨fun v m' e => ?_, fun v m' e => by cases e⟩
          injection e with e1 e2; subst e1 e2
          exact ⟨m, hyy, hv m (fun _ _ h => h)⟩
        · subst e
          refine ⟨fun v m' e => ?_, fun v m' e => by cases e⟩
          injection e with e1 e2; subst e1 e2
          exact ⟨_, hyy, hv _ (mle_put hy)⟩
    | make =>
      rw [ex] at hmix
      rcases mx ex with ⟨vx, e, hv⟩ | ⟨vx, ob, e, hv⟩
      · refine key vx m e (fun ry hyy => ⟨fun v m' e => ?_, fun v m' e => ?_⟩)
        · subst e; exact ⟨m', hyy, hv m'⟩
        · subst e; exact hyy
      · refine key vx _ e (fun ry hyy => ?_)
        obtain ⟨py, ry', my⟩ := aStep_kind hp hyy
        cases ey : effOf pf y.op with
        | pure =>
          obtain ⟨vy, e, hvy⟩ := py ey
          subst e
          refine ⟨fun v m' e => ?_, fun v m' e => by cases e⟩
          injection e with e1 e2; subst e1 e2
          exact ⟨m, hvy m, hv m⟩
        | read => rw [ey] at hmix; cases hmix
        | write => rw [ey] at hmix; cases hmix
        | make =>
          rcases my ey with ⟨vy, e, hvy⟩ | ⟨vy, ob', e, hvy⟩
          · subst e
            refine ⟨fun v m' e => ?_, fun v m' e => by cases e⟩
            injection e with e1 e2; subst e1 e2
            exact ⟨m, hvy m, hv m⟩
          · subst e
            refine ⟨fun v m' e => ?_, fun v m' e => by cases e⟩
            injection e with e1 e2; subst e1 e2
            refine ⟨_, hvy m, ?_⟩
            rw [put_comm (by omega)]
            exact hv _
/-- One that does not write goes ahead of all the earlier ones. -/
theorem ahead {calls : Nat → AF} (hg : ∀ g, Good (calls g)) {pf : Nat → Bool} (hp : ∀ g, pf g = true → PureF (calls g)) {base : Nat} {chk : List (Nat × Nat)} {y : AOper} (hfy : Free chk y) {K : Kont} (hK : KPan K) {r : AOut × AMem} {post : List AOper} : ∀ (pre : List AOper) {done : List AOper} {env : AEnv} {m : AMem},
    (∀ x ∈ pre, x.k ≠ y.k ∧ mayMix (effOf pf x.op) (effOf pf y.op) = true ∧ apartA x y = true ∧ Free chk x) → base + y.k < m.next → m.get (base + y.k) = none →
    aSeqD calls base chk done (pre ++ y :: post) env m K = some r → aSeqD calls base chk done (y :: (pre ++ post)) env m K = some r
  | [], done, env, m, _, _, _, h => h
  | x :: pre, done, env, m, hh, hl, hy, h => by
    obtain ⟨hk, hmix, hap, hfx⟩ := hh x (List.mem_cons_self ..)
    have h2 : aSeqD calls base chk done (x :: y :: (pre ++ post)) env m K = some r := by
      rw [List.cons_append, aSeqD] at h
      rw [aSeqD]
      cases hx : aStep calls base x env m with
      | none => rw [hx] at h; cases h
      | some rx =>
        rw [hx] at h
        have gr := aStep_grows hg hx
        cases rx with
        | val v m' =>
          simp only [again_free hfx, cond_true] at h ⊢
          refine ahead hg hp hfy hK pre (fun z hz => hh z (List.mem_cons_of_mem _ hz)) ?_ ?_ h
          · exact Nat.lt_of_lt_of_le hl gr.1
          · exact gr.2 _ hl (by omega) hy
        | pan v m' => exact h
    have h3 := swapT hp hk hmix hap hy hK (T := fun e m => aSeqD calls base chk (y :: x :: done) (pre ++ post) e m K) (r := r) (by
      rw [aSeqD] at h2
      cases hx : aStep calls base x env m with
      | none => rw [hx] at h2; cases h2
      | some rx =>
        rw [hx] at h2
        cases rx with
        | val v m' =>
          simp only [again_free hfx, cond_true] at h2
          rw [aSeqD] at h2
          simp only
          cases hyy : aStep calls base y (upd env x.dst v) m' with
          | none => rw [hyy] at h2; cases h2
          | some ry =>
            rw [hyy] at h2
            cases ry with
            | val u m2 => simp only [again_free hfy, cond_true] at h2; exact h2
            | pan u m2 => exact h2
        | pan v m' => exact h2)
    rw [aSeqD]
    cases hyy : aStep calls base y env m with
    | none => rw [hyy] at h3; cases h3
    | some ry =>
      rw [hyy] at h3
      cases ry with
      | val v m' =>
        simp only [again_free hfy, cond_true] at h3 ⊢
        rw [List.cons_append, aSeqD]
        cases hx : aStep calls base x (upd env y.dst v) m' with
        | none => rw [hx] at h3; cases h3
        | some rx =>
          rw [hx] at h3
          cases rx with
          | val u m2 =>
            simp only [again_free hfx, cond_true] at h3 ⊢
            rw [seqD_done (d2 := y :: x :: done) (fun p => by simp only [List.all_cons]; cases p x <;> cases p y <;> rfl)]
            exact h3
          | pan u m2 => exact h3
      | pan v m' => exact h3
/-- Does nothing to memory, and is the same again behind y. -/
structure Calm (calls : Nat → AF) (pf : Nat → Bool) (chk : List (Nat × Nat)) (x y : AOper) : Prop where
  ne : x.k ≠ y.k
  apart : apartA x y = true
  free : Free chk x
  kind : effOf pf x.op = .pure ∨ (effOf pf x.op = .read ∧ chk.contains (x.k, y.k) = true ∧ selfB x = true)
/-- The values of what is done ahead, in their order. -/
def updL : List (AOper × AV) → AEnv → AEnv
  | [], env => env
  | p :: l, env => updL l (upd env p.1.dst p.2)
theorem updL_ne {t : Nat} : ∀ {l : List (AOper × AV)} {env : AEnv}, (∀ p ∈ l, p.1.dst ≠ some t) → updL l env t = env t
  | [], _, _ => rfl
  | p :: l, env, h => by
    rw [updL, updL_ne (fun q hq => h q (List.mem_cons_of_mem _ hq)), upd_ne (h p (List.mem_cons_self ..))]
theorem updL_upd {d : Option Nat} {v : AV} : ∀ {l : List (AOper × AV)} {env : AEnv}, (∀ p ∈ l, ∀ x, d = some x → p.1.dst ≠ some x) → updL l (upd env d v) = upd (updL l env) d v
  | [], _, _ => rfl
  | p :: l, env, h => by
    rw [updL, updL, ← updL_upd (fun q hq => h q (List.mem_cons_of_mem _ hq)), upd_comm (h p (List.mem_cons_self ..))]
/-- One that writes goes ahead of earlier ones that only read. -/
theorem aheadW {calls : Nat → AF} {pf : Nat → Bool} (hp : ∀ g, pf g = true → PureF (calls g)) {base : Nat} {chk : List (Nat × Nat)} {y : AOper} {K : Kont} (hK : KPan K) {r : AOut × AMem} {post done : List AOper} {env : AEnv} {m : AMem} (pre : List AOper)
    (hh : ∀ x ∈ pre, Calm calls pf chk x y) (hssa : pre.Pairwise fun x z => effOf pf x.op = .read → ssaB x z = true)
    (h : aSeqD calls base chk done (pre ++ y :: post) env m K = some r) :
    match aStep calls base y env m with
    | some (.val v m') => aSeqD calls base chk (y :: done) (pre ++ post) (upd env y.dst v) m' K = some r
    | some (.pan v m') => K (.panic v) env m' = some r
    | none => False := by
  -- what is done ahead, as it is
  have run : ∀ (pre : List AOper) (done : List AOper) (env : AEnv), (∀ x ∈ pre, Calm calls pf chk x y) → aSeqD calls base chk done (pre ++ y :: post) env m K = some r →
      ∃ l : List (AOper × AV), l.map (·.1) = pre ∧ aSeqD calls base chk (pre.reverse ++ done) (y :: post) (updL l env) m K = some r ∧
        (∀ a p b, l = a ++ p :: b → aStep calls base p.1 (updL a env) m = some (.val p.2 m)) := by
    intro pre
    induction pre with
    | nil =>
      intro done env _ h
      exact ⟨[], rfl, h, fun a p b e => by cases a <;> cases e⟩
    | cons x pre ih =>
      intro done env hh h
      have cx := hh x (List.mem_cons_self ..)
      rw [List.cons_append, aSeqD] at h
      cases hx : aStep calls base x env m with
      | none => rw [hx] at h; cases h
      | some rx =>
        rw [hx] at h
        obtain ⟨px, rx', mx⟩ := aStep_kind hp hx
        have ⟨v, e⟩ : ∃ v, rx = .val v m := by
          rcases cx.kind with hk | ⟨hk, _⟩
          · obtain ⟨v, e, _⟩ := px hk; exact ⟨v, e⟩
          · obtain ⟨v, e, _⟩ := rx' hk; exact ⟨v, e⟩
        subst e
        simp only [again_free cx.free, cond_true] at h
        obtain ⟨l, h1, h2, h3⟩ := ih (x :: done) (upd env x.dst v) (fun z hz => hh z (List.mem_cons_of_mem _ hz)) h
        refine ⟨(x, v) :: l, by simp [h1], by simpa [updL] using h2, fun a p b e => ?_⟩
        cases a with
        | nil => injection e with e1 e2; subst e1; exact hx
        | cons q a =>
          injection e with e1 e2
          subst e1
          exact h3 a p b e2
  obtain ⟨l, h1, h2, h3⟩ := run pre done env hh h
  have hmem : ∀ p ∈ l, Calm calls pf chk p.1 y := fun p hp => hh _ (by rw [← h1]; exact List.mem_map.2 ⟨p, hp, rfl⟩)
  have hyenv : aStep calls base y (updL l env) m = aStep calls base y env m := aStep_congr fun t ht => updL_ne fun p hp e => (apart_spec (hmem p hp).apart).1 t e ht
  rw [aSeqD, hyenv] at h2
  cases hy : aStep calls base y env m with
  | none => rw [hy] at h2; cases h2
  | some ry =>
    rw [hy] at h2
    cases ry with
    | pan v m' => simp only at h2 ⊢; rw [hK v env (updL l env) m']; exact h2
    | val vy m' =>
      simp only at h2 ⊢
      cases hag : again calls base chk (pre.reverse ++ done) y (updL l env) m' with
      | false => rw [hag] at h2; cases h2
      | true =>
        rw [hag, cond_true] at h2
        simp only [again, List.all_eq_true] at hag
        -- the same values, behind y
        have vals : ∀ a p b, l = a ++ p :: b → aStep calls base p.1 (upd (updL a env) y.dst vy) m' = some (.val p.2 m') := by
          intro a p b e
          have hpl : p ∈ l := by rw [e]; simp
          have cp := hmem p hpl
          have hap := apart_spec cp.apart
          rw [aStep_upd (hap.2.2)]
          have h0 := h3 a p b e
          rcases cp.kind with hk | ⟨hk, hc, hself⟩
          · obtain ⟨v, e1, e2⟩ := (aStep_kind hp h0).1 hk
            injection e1 with e1 _
            rw [e2 m', e1]
          · have := hag p.1 (by simp; exact .inl (by rw [← h1]; exact List.mem_map.2 ⟨p, hpl, rfl⟩))
            rw [hc, Bool.not_true, Bool.false_or] at this
            -- nothing behind p turns what it looks at
            have later : ∀ q ∈ b, ssaB p.1 q.1 = true := by
              have hs := hssa
              rw [← h1, e, List.map_append, List.map_cons, List.pairwise_append, List.pairwise_cons] at hs
              exact fun q hq => hs.2.1.1 q.1 (List.mem_map.2 ⟨q, hq, rfl⟩) hk
            have henv : ∀ t, t ∈ looks p.1 → updL l env t = updL a env t := by
              intro t ht
              have split : ∀ (a : List (AOper × AV)) (env : AEnv), updL (a ++ p :: b) env = updL b (upd (updL a env) p.1.dst p.2) := by
                intro a
                induction a with
                | nil => intro env; rfl
                | cons q a ih => intro env; exact ih _
              rw [e, split, updL_ne, upd_ne]
              · intro hd
                have := hself
                simp [selfB, hd] at this
                exact this ht
              · intro q hq hd
                have := later q hq
                simp [ssaB, hd] at this
                exact this.1 ht
            rw [aStep_congr henv] at this
            cases hz : aStep calls base p.1 (updL a env) m' with
            | none => rw [hz] at this; cases this
            | some rz =>
              rw [hz] at this
              obtain ⟨vz, e1, _⟩ := (aStep_kind hp hz).2.1 hk
              subst e1
              simp only at this
              cases hd : p.1.dst with
              | none => simp [selfB, hd] at hself
              | some d =>
                rw [hd] at this
                have hvz := AV.beq_eq this
                have split : ∀ (a : List (AOper × AV)) (env : AEnv), updL (a ++ p :: b) env = updL b (upd (updL a env) p.1.dst p.2) := by
                  intro a
                  induction a with
                  | nil => intro env; rfl
                  | cons q a ih => intro env; exact ih _
                rw [hvz, e, split, updL_ne, hd]
                · simp [upd]
                · intro q hq hqd
                  have := later q hq
                  simp [ssaB, hqd, hd] at this
        -- the run
        have go : ∀ (b a : List (AOper × AV)) (dn : List AOper), l = a ++ b → (∀ p : AOper → Bool, dn.all p = (y :: ((a.map (·.1)).reverse ++ done)).all p) → aSeqD calls base chk dn (b.map (·.1) ++ post) (upd (updL a env) y.dst vy) m' K = some r := by
          intro b
          induction b with
          | nil =>
            intro a dn e hdn
            rw [List.append_nil] at e
            subst e
            rw [List.map_nil, List.nil_append, seqD_done hdn, h1]
            exact h2
          | cons p b ih =>
            intro a dn e hdn
            have hpl : p ∈ l := by rw [e]; simp
            have cp := hmem p hpl
            rw [List.map_cons, List.cons_append, aSeqD, vals a p b e]
            simp only [again_free cp.free, cond_true]
            rw [upd_comm (fun d hd hx => (apart_spec cp.apart).2.1 d hx hd)]
            have := ih (a ++ [p]) (p.1 :: dn) (by simp [e]) (fun q => by
              simp only [List.all_cons, hdn q, List.map_append, List.map_cons, List.map_nil, List.reverse_append, List.reverse_cons, List.reverse_nil, List.nil_append, List.cons_append, List.all_append]
              cases q p.1 <;> cases q y <;> rfl)
            have split : ∀ (a : List (AOper × AV)) (env : AEnv), updL (a ++ [p]) env = upd (updL a env) p.1.dst p.2 := by
              intro a
              induction a with
              | nil => intro env; rfl
              | cons q a ih => intro env; exact ih _
            rw [split] at this
            exact this
        have := go l [] (y :: done) rfl (fun p => by simp)
        rw [h1] at this
        exact this
end Go.Proofs.YtiijjopdhjpalaaDoor

/-! One operation, calls with it; a region in its order, or in an order that is drawn. Conditions: none. -/
namespace Go.Proofs.YtiijjopdhjpalaaDoor
open Go
set_option linter.unusedVariables false
set_option linter.unusedSimpArgs false
section
variable {P : Program} {β : Nat → Option Blk} {O : Nat → Prop} {w : World} {m : AMem}
/-- How a call ends. -/
def EndOk (β : Nat → Option Blk) (O : Nat → Prop) (w : World) (m : AMem) (o : AOut) (m' : AMem) : Ending → World → Prop
  | .returned u, w' => ∃ v β' O', o = .ret v ∧ Stp β O w m m.next β' O' w' m' ∧ Sim β' O' w' m' ∧ Rep β' O' w' v u
  | .panicked chain, w' => ∃ v u β' O', o = .pan v ∧ chain = [{ v := u, recovered := false }] ∧ Stp β O w m m.next β' O' w' m' ∧ Sim β' O' w' m' ∧ Rep β' O' w' v u
  | .outgrown, _ => False
/-- What a function is said to do, it does. -/
def CallOk (P : Program) (g : Nat) (F : AF) : Prop := ∀ β O w m args us o m', Sim β O w m → RepL β O w args us → F args m = some (o, m') →
  ((callFunc g us.toArray).run P w = .ok (.enter g us.toArray) w ∧ Calls P g us.toArray w (EndOk β O w m o m')) ∨
  ∃ u w', (callFunc g us.toArray).run P w = .ok (.value u) w' ∧ EndOk β O w m o m' (.returned u) w'
theorem Stp.at_ {β' O' w' m'} (h : Stp β O w m m.next β' O' w' m') (new : Nat) : Stp β O w m new β' O' w' m' :=
  ⟨h.goes, h.keeps, h.next, fun id hid _ => h.old id hid (by omega)⟩
theorem getD_yield {ops : Array Oper} {env : AEnv} {nt : Nat} {a : Act} (he : EnvOk β O w env nt a.tmps) {j d : Nat} (hj : (ops[j]?).bind (·.dst) = some d) (hd : d < nt) :
    (∀ q, env d = .bool q → yielded ops a.tmps j = some q) ∧ (env d = .tup [] → yielded ops a.tmps j = none) := by
  have hsz : d < a.tmps.size := Nat.lt_of_lt_of_le hd he.1
  have hr := he.2 d
  have hg : a.tmps.getD d undef = a.tmps[d] := by simp [hsz]
  rw [hg] at hr
  have hy : yielded ops a.tmps j = (match a.tmps[d] with | .bool b => some b | _ => none) := by
    unfold yielded
    rw [hj]
    simp only [Option.bind_some, Array.getElem?_eq_getElem hsz]
    cases a.tmps[d] <;> rfl
  constructor
  · intro q hq
    rw [hq] at hr
    rw [hy, rep_bool hr]
  · intro hq
    rw [hq] at hr
    obtain ⟨vs, e, hl⟩ := rep_tup hr
    rw [hy, e]
theorem run_enter {ρ : Operand → Value} {c : Call} {o : Oper} (ho : o.op = .call c) {f : Operand} (hc : c.callee = .value f) {g : Nat} {x y : List Value} (hf : ρ f = .func (.func g) x.toArray y.toArray) {r : Result Next}
    (h : (callFunc g (x ++ (c.args.toList.map ρ) ++ y).toArray).run P w = r) : (execOp ρ o).run P w = r := by
  have e : (c.args.map ρ) = (c.args.toList.map ρ).toArray := by apply Array.ext'; simp
  have e2 : x.toArray ++ c.args.map ρ ++ y.toArray = (x ++ (c.args.toList.map ρ) ++ y).toArray := by
    rw [e]; simp
  rw [← h, ← e2]
  simp only [execOp, ho, resolve, hc, Deferred.ofValue, hf, invoke, Sem.run_bind, Sem.run_pure, Result.andThen_ok]
theorem cOper_ok {ops : Array Oper} {nt i : Nat} {o : Oper} {ao : AOper} (hc : cOper P ops nt i o = some ao) : ao.k = i ∧ ao.dst = o.dst ∧ cOp P o.op = some ao.op ∧ (∀ d, o.dst = some d → d < nt) ∧
    ((o.guard = none ∧ ao.g = none) ∨ (∃ j want d, o.guard = some (j, want) ∧ (ops[j]?).bind (·.dst) = some d ∧ d < nt ∧ ao.g = some (some d, want)) ∨ (∃ j want, o.guard = some (j, want) ∧ (ops[j]?).bind (·.dst) = none ∧ ao.g = some (none, want))) := by
  unfold cOper at hc
  by_cases hd : dstOK nt o.dst = true
  · rw [if_pos hd] at hc
    have hd' : ∀ d, o.dst = some d → d < nt := fun d h => by rw [h] at hd; simpa [dstOK] using hd
    split at hc
    · rename_i op hop hg
      injection hc with hc; subst hc
      exact ⟨rfl, rfl, hop, hd', .inl ⟨hg, rfl⟩⟩
    · rename_i op j want hop hg
      split at hc
      · rename_i d hj
        split at hc
        · rename_i hdn
          injection hc with hc; subst hc
          exact ⟨rfl, rfl, hop, hd', .inr (.inl ⟨j, want, d, hg, hj, hdn, rfl⟩)⟩
        · cases hc
      · rename_i hj
        injection hc with hc; subst hc
        exact ⟨rfl, rfl, hop, hd', .inr (.inr ⟨j, want, hg, hj, rfl⟩)⟩
    · cases hc
  · rw [if_neg hd] at hc; cases hc
/-- **An operation that is wanted.** -/
theorem act_ok {calls : Nat → AF} (Hc : ∀ g, CallOk P g (calls g)) {o : Oper} {ao : AOp} (hc : cOp P o.op = some ao) (hs : Sim β O w m) {env : AEnv} {nt : Nat} {a : Act} (he : EnvOk β O w env nt a.tmps) {new : Nat} (hn : m.get new = none) (hl : new < m.next) (hb : β new = none)
    {r : AR} (h : aOp calls env m new ao = some r) {K : Act → World → Prop} {Q : Exit → Act → World → Prop}
    (hval : ∀ v m', r = .val v m' → ∀ u w' β' O', Stp β O w m new β' O' w' m' → Sim β' O' w' m' → Rep β' O' w' v u → K (a.put o.dst u) w')
    (hpan : ∀ v m', r = .pan v m' → ∀ u w' β' O', Stp β O w m new β' O' w' m' → Sim β' O' w' m' → Rep β' O' w' v u → Q (.panic [{ v := u, recovered := false }]) a w') :
    o.wp P a w K Q := by
  unfold Oper.wp
  by_cases hcall : isCall o.op = false
  · have := op_ok hc hcall hs he hn hl hb h
    cases r with
    | val v m' =>
      obtain ⟨u, w', β', O', hrun, h1, h2, h3⟩ := this
      rcases hrun with hrun | ⟨hrun, rfl⟩ <;> rw [hrun] <;> exact hval _ _ rfl _ _ _ _ h1 h2 h3
    | pan v m' =>
      obtain ⟨rfl, u, hrun, h1⟩ := this
      rw [hrun]
      exact hpan _ _ rfl _ _ _ _ (.refl _ _ _ _ _) hs h1
  · have ⟨c, f, ho, hcf⟩ : ∃ c f, o.op = .call c ∧ c.callee = .value f := by
      unfold isCall at hcall
      split at hcall
      · rename_i f args tys _
        exact ⟨_, f, by assumption, rfl⟩
      · exact absurd rfl hcall
    obtain ⟨callee, args, tys⟩ := c
    simp only at hcf
    subst hcf
    rw [ho] at hc
    simp only [cOp, Option.some.injEq] at hc
    subst hc
    simp only [aOp] at h
    split at h
    · rename_i g first cap hf
      have hf' := ev_ok he f
      rw [hf] at hf'
      obtain ⟨x, y, e, hx, hy⟩ := rep_fn hf'
      have hargs : RepL β O w (first ++ evL env (args.toList.map cOpd) ++ cap) (x ++ (args.toList.map a.eval) ++ y) := (hx.append (evL_ok he args.toList)).append hy
      generalize hF : calls g (first ++ evL env (args.toList.map cOpd) ++ cap) m = res at h
      cases res with
      | none => cases h
      | some res =>
        obtain ⟨out, m'⟩ := res
        rcases Hc g β O w m _ _ out m' hs hargs hF with ⟨hrun, hcalls⟩ | ⟨u, w', hrun, v, β', O', rfl, h1, h2, h3⟩
        · rw [run_enter ho rfl e hrun]
          rw [Oper.upon_enter]
          refine Calls.mono hcalls fun en w' hen => ?_
          cases en with
          | returned u =>
            obtain ⟨v, β', O', rfl, h1, h2, h3⟩ := hen
            simp only [call?, Option.some.injEq] at h
            exact hval v m' h.symm u w' β' O' (h1.at_ new) h2 h3
          | panicked chain =>
            obtain ⟨v, u, β', O', rfl, rfl, h1, h2, h3⟩ := hen
            simp only [call?, Option.some.injEq] at h
            exact hpan v m' h.symm u w' β' O' (h1.at_ new) h2 h3
          | outgrown => exact hen.elim
        · rw [run_enter ho rfl e hrun]
          simp only [call?, Option.some.injEq] at h
          exact hval v m' h.symm u w' β' O' (h1.at_ new) h2 h3
    · cases h
theorem oper_ok {calls : Nat → AF} (Hc : ∀ g, CallOk P g (calls g)) {ops : Array Oper} {nt i : Nat} {o : Oper} (hi : ops[i]? = some o) {ao : AOper} (hc : cOper P ops nt i o = some ao) (hs : Sim β O w m) {env : AEnv} {a : Act} (he : EnvOk β O w env nt a.tmps) {base : Nat}
    (hn : m.get (base + i) = none) (hl : base + i < m.next) (hb : β (base + i) = none) {r : AR} (h : aStep calls base ao env m = some r) {K : Act → World → Prop} {Q : Exit → Act → World → Prop}
    (hval : ∀ v m', r = .val v m' → ∀ u w' β' O', Stp β O w m (base + i) β' O' w' m' → Sim β' O' w' m' → EnvOk β' O' w' (upd env ao.dst v) nt (a.put o.dst u).tmps → K (a.put o.dst u) w')
    (hpan : ∀ v m', r = .pan v m' → ∀ u w' β' O', Stp β O w m (base + i) β' O' w' m' → Sim β' O' w' m' → Rep β' O' w' v u → Q (.panic [{ v := u, recovered := false }]) a w') :
    wpOp P ops Q i K a w := by
  obtain ⟨hk, hdst, hop, hdn, hg⟩ := cOper_ok hc
  subst hk
  have val : ∀ v m', r = .val v m' → ∀ u w' β' O', Stp β O w m (base + ao.k) β' O' w' m' → Sim β' O' w' m' → Rep β' O' w' v u → K (a.put o.dst u) w' := fun v m' e u w' β' O' h1 h2 h3 =>
    hval v m' e u w' β' O' h1 h2 (by rw [hdst]; exact (he.keep h1.goes h1.keeps).put hdn h3 a rfl)
  have skip : ∀ (hw : Region.wanted o (yielded ops a.tmps) = false), r = .val (.tup []) m → wpOp P ops Q ao.k K a w := by
    intro hw e
    unfold wpOp
    simp only [hi, hw, Bool.false_eq_true, if_false]
    exact val _ _ e undef w β O (.refl _ _ _ _ _) hs rep_undef
  have run : ∀ (hw : Region.wanted o (yielded ops a.tmps) = true), aOp calls env m (base + ao.k) ao.op = some r → wpOp P ops Q ao.k K a w := by
    intro hw e
    unfold wpOp
    simp only [hi, hw, if_true]
    exact .inl (act_ok Hc hop hs he hn hl hb e val hpan)
  unfold aStep at h
  rcases hg with ⟨g1, g2⟩ | ⟨j, want, d, g1, g2, g3, g4⟩ | ⟨j, want, g1, g2, g4⟩
  · rw [g2] at h
    exact run (by simp [Region.wanted, g1]) h
  · rw [g4] at h
    obtain ⟨y1, y2⟩ := getD_yield he g2 g3
    simp only at h
    split at h
    · rename_i q hq
      by_cases e : q = want
      · subst e
        simp only [beq_self_eq_true, cond_true] at h
        exact run (by simp [Region.wanted, g1, y1 _ hq]) h
      · have e' : (q == want) = false := by simpa using e
        simp only [e', cond_false, Option.some.injEq] at h
        exact skip (by simp [Region.wanted, g1, y1 _ hq, e]) h.symm
    · rename_i hq
      injection h with h
      exact skip (by simp [Region.wanted, g1, y2 hq]) h.symm
    · cases h
  · rw [g4] at h
    injection h with h
    refine skip ?_ h.symm
    have : yielded ops a.tmps j = none := by
      unfold yielded
      rw [g2]
      rfl
    simp [Region.wanted, g1, this]
end
end Go.Proofs.YtiijjopdhjpalaaDoor

/-! A region in its order, or in an order that is drawn. Conditions: none. -/
namespace Go.Proofs.YtiijjopdhjpalaaDoor
open Go
set_option linter.unusedVariables false
set_option linter.unusedSimpArgs false
section
variable {P : Program} {β : Nat → Option Blk} {O : Nat → Prop} {w : World} {m : AMem}
/-- How code is left. -/
def ExitIs (β : Nat → Option Blk) (O : Nat → Prop) (w : World) : AExit → Exit → Prop
  | .normal, .normal => True
  | .exit i, .exit j => i = j
  | .ret, .ret => True
  | .panic v, .panic chain => ∃ u, chain = [{ v := u, recovered := false }] ∧ Rep β O w v u
  | _, _ => False
/-- What holds behind a piece of code. -/
def After (P : Program) (β : Nat → Option Blk) (O : Nat → Prop) (w : World) (m : AMem) (nt : Nat) (ds : List Deferred) (K : Kont) (r : AOut × AMem) (Q : Exit → Act → World → Prop) : Prop :=
  ∀ e env' m' e' a' w' β' O', K e env' m' = some r → ExitIs β' O' w' e e' → Stp β O w m m.next β' O' w' m' → Sim β' O' w' m' → (e matches .panic _ ∨ EnvOk β' O' w' env' nt a'.tmps) → a'.defers = ds → Q e' a' w'
theorem Stp.trans {β' O' w' m' β'' O'' w'' m'' new} (h : Stp β O w m new β' O' w' m') (h' : Stp β' O' w' m' m'.next β'' O'' w'' m'') : Stp β O w m new β'' O'' w'' m'' :=
  ⟨h.goes.trans h'.goes, h.keeps.trans h'.keeps, Nat.le_trans h.next h'.next, fun id hid hne => by
    rw [h'.old id (Nat.lt_of_lt_of_le hid h.next) (by have := h.next; omega), h.old id hid hne]⟩
/-- The same below a smaller number, whatever was taken from it on. -/
theorem Stp.below {β' O' w' m' new} {m0 : AMem} (h : Stp β O w m new β' O' w' m') (h0 : m0.next ≤ m.next) (hnew : m0.next ≤ new) : Stp β O w m0 m0.next β' O' w' m' :=
  ⟨h.goes, h.keeps, Nat.le_trans h0 h.next, fun id hid hne => h.old id (by omega) (by omega)⟩
theorem put_defers (a : Act) (d : Option Nat) (u : Value) : (a.put d u).defers = a.defers := by cases d <;> rfl
/-- The rest of a region: what is still to be done, and what holds. 'm0': memory at the region's start. -/
structure Rest (β : Nat → Option Blk) (O : Nat → Prop) (w : World) (m : AMem) (base : Nat) (ks : List Nat) : Prop where
  sim : Sim β O w m
  free : ∀ k ∈ ks, base + k < m.next ∧ m.get (base + k) = none ∧ β (base + k) = none
theorem Rest.step {β' O' w' m'} {base k : Nat} {ks : List Nat} (h : Rest β O w m base ks) (hk : k ∉ ks) (st : Stp β O w m (base + k) β' O' w' m') (hs : Sim β' O' w' m') (gr : Grows m m' (base + k)) : Rest β' O' w' m' base ks :=
  ⟨hs, fun j hj => by
    obtain ⟨h1, h2, h3⟩ := h.free j hj
    have hne : base + j ≠ base + k := fun e => hk (by have : j = k := by omega
                                                      rw [← this]; exact hj)
    exact ⟨Nat.lt_of_lt_of_le h1 st.next, gr.2 _ h1 hne h2, by rw [st.old _ h1 hne]; exact h3⟩⟩
variable {calls : Nat → AF} {base : Nat} {ops : Array Oper} {nt : Nat} {K : Kont} {r : AOut × AMem} {Q : Exit → Act → World → Prop} {ds : List Deferred}
/-- One step of a region, in the world and in the abstract. 'go': what is to be shown of the rest. -/
theorem one_okT (Hc : ∀ g, CallOk P g (calls g)) (Hg : ∀ g, Good (calls g)) {o : Oper} {y : AOper} {ks : List Nat} (hi : ops[y.k]? = some o) (hc : cOper P ops nt y.k o = some y) {m0 : AMem} (h0 : m0.next ≤ base)
    (hr : Rest β O w m base (y.k :: ks)) (hnd : y.k ∉ ks) {env : AEnv} {a : Act} (he : EnvOk β O w env nt a.tmps) (hd : a.defers = ds)
    {rx : AR} (hx : aStep calls base y env m = some rx) (hpan : ∀ v m', rx = .pan v m' → K (.panic v) env m' = some r) (haft : After P β O w m0 nt ds K r Q) (hm0 : m0.next ≤ m.next) {Kk : Act → World → Prop}
    (go : ∀ v β' O' w' m' a', rx = .val v m' → Rest β' O' w' m' base ks → EnvOk β' O' w' (upd env y.dst v) nt a'.tmps → a'.defers = ds → m0.next ≤ m'.next → After P β' O' w' m0 nt ds K r Q → Kk a' w') :
    wpOp P ops Q y.k Kk a w := by
  obtain ⟨f1, f2, f3⟩ := hr.free y.k (List.mem_cons_self ..)
  have hr' : Rest β O w m base ks := ⟨hr.sim, fun k hk => hr.free k (List.mem_cons_of_mem _ hk)⟩
  have gr := aStep_grows Hg hx
  have aft : ∀ {β' O' w' m'}, Stp β O w m (base + y.k) β' O' w' m' → After P β' O' w' m0 nt ds K r Q := by
    intro β' O' w' m' st e env'' m'' e' a'' w'' β'' O'' hK hex st' hsim hev hdf
    refine haft e env'' m'' e' a'' w'' β'' O'' hK hex ?_ hsim hev hdf
    exact ⟨st.goes.trans st'.goes, st.keeps.trans st'.keeps, st'.next, fun id hid hne => by
      rw [st'.old id hid hne, st.old id (by omega) (by omega)]⟩
  refine oper_ok Hc hi hc hr.sim he f2 f1 f3 hx ?_ ?_
  · intro v m' e u w' β' O' st hs hev
    subst e
    exact go v β' O' w' m' _ rfl (hr'.step hnd st hs gr) hev (by rw [put_defers]; exact hd) (Nat.le_trans hm0 st.next) (aft st)
  · intro v m' e u w' β' O' st hs hrep
    subst e
    exact aft st _ _ _ _ _ _ _ _ (hpan v m' rfl) ⟨u, rfl, hrep⟩ ⟨.refl _, .refl _ _, Nat.le_trans hm0 st.next, fun _ _ _ => rfl⟩ hs (.inl rfl) hd
theorem one_ok (Hc : ∀ g, CallOk P g (calls g)) (Hg : ∀ g, Good (calls g)) {o : Oper} {y : AOper} {l : List AOper} (hi : ops[y.k]? = some o) (hc : cOper P ops nt y.k o = some y) {m0 : AMem} (h0 : m0.next ≤ base)
    (hr : Rest β O w m base (y.k :: l.map (·.k))) (hnd : y.k ∉ l.map (·.k)) {env : AEnv} {a : Act} (he : EnvOk β O w env nt a.tmps) (hd : a.defers = ds)
    (h : aSeq calls base (y :: l) env m K = some r) (haft : After P β O w m0 nt ds K r Q) (hm0 : m0.next ≤ m.next) {Kk : Act → World → Prop}
    (go : ∀ β' O' w' m' env' a', Rest β' O' w' m' base (l.map (·.k)) → EnvOk β' O' w' env' nt a'.tmps → a'.defers = ds → m0.next ≤ m'.next → aSeq calls base l env' m' K = some r → After P β' O' w' m0 nt ds K r Q → Kk a' w') :
    wpOp P ops Q y.k Kk a w := by
  obtain ⟨f1, f2, f3⟩ := hr.free y.k (List.mem_cons_self ..)
  have hr' : Rest β O w m base (l.map (·.k)) := ⟨hr.sim, fun k hk => hr.free k (List.mem_cons_of_mem _ hk)⟩
  rw [aSeq] at h
  cases hx : aStep calls base y env m with
  | none => rw [hx] at h; cases h
  | some rx =>
    rw [hx] at h
    have gr := aStep_grows Hg hx
    have aft : ∀ {β' O' w' m'}, Stp β O w m (base + y.k) β' O' w' m' → After P β' O' w' m0 nt ds K r Q := by
      intro β' O' w' m' st e env'' m'' e' a'' w'' β'' O'' hK hex st' hsim hev hdf
      refine haft e env'' m'' e' a'' w'' β'' O'' hK hex ?_ hsim hev hdf
      exact ⟨st.goes.trans st'.goes, st.keeps.trans st'.keeps, st'.next, fun id hid hne => by
        rw [st'.old id hid hne, st.old id (by omega) (by omega)]⟩
    refine oper_ok Hc hi hc hr.sim he f2 f1 f3 hx ?_ ?_
    · intro v m' e u w' β' O' st hs hev
      subst e
      exact go β' O' w' m' _ _ (hr'.step hnd st hs gr) hev (by rw [put_defers]; exact hd) (Nat.le_trans hm0 st.next) h (aft st)
    · intro v m' e u w' β' O' st hs hrep
      subst e
      exact aft st _ _ _ _ _ _ _ _ h ⟨u, rfl, hrep⟩ ⟨.refl _, .refl _ _, Nat.le_trans hm0 st.next, fun _ _ _ => rfl⟩ hs (.inl rfl) hd
theorem ops_ok (Hc : ∀ g, CallOk P g (calls g)) (Hg : ∀ g, Good (calls g)) {m0 : AMem} (h0 : m0.next ≤ base) : ∀ (l : List AOper) {β O w m env a},
    (∀ y ∈ l, ∃ o, ops[y.k]? = some o ∧ cOper P ops nt y.k o = some y) → (l.map (·.k)).Nodup → Rest β O w m base (l.map (·.k)) → EnvOk β O w env nt a.tmps → a.defers = ds → m0.next ≤ m.next →
    aSeq calls base l env m K = some r → After P β O w m0 nt ds K r Q → wpOps P ops Q (l.map (·.k)) a w
  | [], β, O, w, m, env, a, _, _, hr, he, hd, hm, h, haft => by
    exact haft .normal env m .normal a w β O h trivial ⟨.refl _, .refl _ _, hm, fun _ _ _ => rfl⟩ hr.sim (.inr he) hd
  | y :: l, β, O, w, m, env, a, hl, hnd, hr, he, hd, hm, h, haft => by
    rw [List.map_cons, wpOps_cons]
    obtain ⟨o, hi, hc⟩ := hl y (List.mem_cons_self ..)
    rw [List.map_cons, List.nodup_cons] at hnd
    exact one_ok Hc Hg hi hc h0 hr hnd.1 he hd h haft hm (fun β' O' w' m' env' a' hr' he' hd' hm' h' haft' =>
      ops_ok Hc Hg h0 l (fun z hz => hl z (List.mem_cons_of_mem _ hz)) hnd.2 hr' he' hd' hm' h' haft')

/-! ### Orders that are drawn -/
/-- i must stand before j. -/
inductive Dep (ops : List Oper) : Nat → Nat → Prop
  | one {i j o} : ops[j]? = some o → i ∈ depsOf o → Dep ops i j
  | more {i k j o} : ops[j]? = some o → k ∈ depsOf o → Dep ops i k → Dep ops i j
theorem mem_un {x : Nat} : ∀ {l s : List Nat}, x ∈ un l s → x ∈ l ∨ x ∈ s
  | [], s, h => .inr h
  | y :: l, s, h => by
    unfold un at h
    rw [List.foldr_cons] at h
    split at h
    · rcases mem_un (l := l) (s := s) h with h | h
      · exact .inl (List.mem_cons_of_mem _ h)
      · exact .inr h
    · rcases List.mem_cons.1 h with h | h
      · exact .inl (by rw [h]; exact List.mem_cons_self ..)
      · rcases mem_un (l := l) (s := s) h with h | h
        · exact .inl (List.mem_cons_of_mem _ h)
        · exact .inr h
theorem mem_upOf {acc : List (List Nat)} {x : Nat} : ∀ {l : List Nat}, x ∈ upOf acc l → ∃ d ∈ l, x = d ∨ x ∈ (acc[d]?).getD []
  | [], h => by cases h
  | d :: l, h => by
    rcases mem_un h with h | h
    · rcases List.mem_cons.1 h with h | h
      · exact ⟨d, List.mem_cons_self .., .inl h⟩
      · exact ⟨d, List.mem_cons_self .., .inr h⟩
    · obtain ⟨e, he, hx⟩ := mem_upOf h
      exact ⟨e, List.mem_cons_of_mem _ he, hx⟩
theorem befores_ok (ops : List Oper) : ∀ (l : List Oper) (acc : List (List Nat)), (∀ k o, l[k]? = some o → ops[acc.length + k]? = some o) → (∀ j x, x ∈ (acc[j]?).getD [] → Dep ops x j) → ∀ j x, x ∈ ((befores l acc)[j]?).getD [] → Dep ops x j
  | [], acc, _, h, j, x, hx => h j x hx
  | o :: l, acc, hl, h, j, x, hx => by
    refine befores_ok ops l (acc ++ [upOf acc (depsOf o)]) (fun k o' hk => ?_) (fun j x hx => ?_) j x hx
    · have := hl (k + 1) o' (by simpa using hk)
      rw [← this]
      congr 1
      simp
      omega
    · rcases Nat.lt_trichotomy j acc.length with hj | hj | hj
      · rw [List.getElem?_append_left hj] at hx
        exact h j x hx
      · subst hj
        rw [List.getElem?_append_right (Nat.le_refl _), Nat.sub_self, List.getElem?_cons_zero, Option.getD_some] at hx
        have ho := hl 0 o (by simp)
        obtain ⟨d, hd, hx | hx⟩ := mem_upOf hx
        · subst hx; exact .one (by simpa using ho) hd
        · exact .more (by simpa using ho) hd (h d x hx)
      · rw [List.getElem?_eq_none (by simp; omega)] at hx
        cases hx
theorem pairsB_ok {R : AOper → AOper → Bool} : ∀ {l : List AOper}, pairsB R l = true → l.Pairwise fun x y => R x y = true
  | [], _ => .nil
  | x :: l, h => by
    simp only [pairsB, Bool.and_eq_true, List.all_eq_true] at h
    exact .cons h.1 (pairsB_ok h.2)
theorem edgesOK_ok : ∀ {l : List Oper} {k : Nat}, edgesOK k l = true → ∀ j o, l[j]? = some o → ∀ d ∈ depsOf o, d < k + j
  | [], k, _, j, o, h, _, _ => by simp at h
  | x :: l, k, h, j, o, ho, d, hd => by
    simp only [edgesOK, Bool.and_eq_true, List.all_eq_true, decide_eq_true_eq] at h
    cases j with
    | zero =>
      simp only [List.getElem?_cons_zero, Option.some.injEq] at ho
      subst ho
      exact h.1 d hd
    | succ j =>
      have := edgesOK_ok h.2 j o (by simpa using ho) d hd
      omega
end
end Go.Proofs.YtiijjopdhjpalaaDoor

/-! A region whose order is drawn. Conditions: none. -/
namespace Go.Proofs.YtiijjopdhjpalaaDoor
open Go
set_option linter.unusedVariables false
set_option linter.unusedSimpArgs false
section
variable {P : Program} {β : Nat → Option Blk} {O : Nat → Prop} {w : World} {m : AMem}
variable {calls : Nat → AF} {base : Nat} {ops : Array Oper} {nt : Nat} {K : Kont} {r : AOut × AMem} {Q : Exit → Act → World → Prop} {ds : List Deferred}
theorem deps_all {o : Oper} {L : Nat → Bool} : (o.after.all fun e => !Region.binds .any e || L e.on) = true ↔ ∀ d ∈ depsOf o, L d = true := by
  simp only [Array.all_eq_true', depsOf, List.mem_map, List.mem_filter, Array.mem_toList_iff]
  constructor
  · rintro h d ⟨e, ⟨he, hb⟩, rfl⟩
    have := h e he
    simp only [hb, Bool.not_true, Bool.false_or] at this
    exact this
  · intro h e he
    cases hb : Region.binds .any e
    · simp
    · simpa [hb] using h e.on ⟨e, ⟨he, hb⟩, rfl⟩
/-- What is listed, and what is not. -/
structure Listed (ops : Array Oper) (cl : List AOper) (L : Array Bool) : Prop where
  size : L.size = ops.size
  rest : ∀ i, i < ops.size → (L.getD i true = false ↔ i ∈ cl.map (·.k))
  closed : ∀ j o, ops[j]? = some o → L.getD j false = true → ∀ d ∈ depsOf o, L.getD d false = true
theorem getD_same {L : Array Bool} {i : Nat} (h : i < L.size) (a b : Bool) : L.getD i a = L.getD i b := by simp [h]
theorem dep_listed {cl : List AOper} {L : Array Bool} (h : Listed ops cl L) : ∀ {i j : Nat}, Dep ops.toList i j → (∀ o, ops[j]? = some o → ∀ d ∈ depsOf o, L.getD d false = true) → L.getD i false = true := by
  intro i j hd
  induction hd with
  | one ho hm => exact fun hh => hh _ (by simpa using ho) _ hm
  | more ho hm _ ih =>
    intro hh
    refine ih (fun o' ho' d hd => h.closed _ o' ho' (hh _ (by simpa using ho) _ hm) d hd)
theorem mem_ready {L : Array Bool} {i : Nat} : i ∈ Region.ready .any ops L ↔ i < ops.size ∧ L.getD i true = false ∧ ∃ o, ops[i]? = some o ∧ ∀ d ∈ depsOf o, L.getD d false = true := by
  unfold Region.ready
  simp only [List.mem_filter, List.mem_range, Bool.and_eq_true, Bool.not_eq_true']
  constructor
  · rintro ⟨h1, h2, h3⟩
    refine ⟨h1, h2, ops[i], Array.getElem?_eq_getElem h1, ?_⟩
    rw [Array.getElem?_eq_getElem h1, Option.map_some, Option.getD_some] at h3
    exact deps_all (L := fun d => L.getD d false) |>.1 h3
  · rintro ⟨h1, h2, o, ho, h3⟩
    refine ⟨h1, h2, ?_⟩
    rw [ho, Option.map_some, Option.getD_some]
    exact deps_all (L := fun d => L.getD d false) |>.2 h3
/-- Nothing is ready only where all is listed. -/
theorem none_ready {cl : List AOper} {L : Array Bool} (h : Listed ops cl L) (he : ∀ j o, ops[j]? = some o → ∀ d ∈ depsOf o, d < j) (hcl : ∀ y ∈ cl, y.k < ops.size) (h0 : Region.ready .any ops L = []) : cl = [] := by
  have key : ∀ n, n < ops.size → L.getD n true = false → False := by
    intro n
    induction n using Nat.strongRecOn with
    | _ n ih =>
      intro hn hL
      have : n ∉ Region.ready .any ops L := by rw [h0]; simp
      rw [mem_ready] at this
      refine this ⟨hn, hL, ops[n], Array.getElem?_eq_getElem hn, fun d hd => ?_⟩
      have hlt := he n _ (Array.getElem?_eq_getElem hn) d hd
      have hds : d < L.size := by rw [h.size]; omega
      cases hLd : L.getD d false with
      | true => rfl
      | false => exact (ih d hlt (by omega) (by rw [getD_same hds true false]; exact hLd)).elim
  cases cl with
  | nil => rfl
  | cons y cl => exact (key y.k (hcl y (List.mem_cons_self ..)) ((h.rest y.k (hcl y (List.mem_cons_self ..))).2 (by simp))).elim
theorem draw_ok (Hc : ∀ g, CallOk P g (calls g)) (Hg : ∀ g, Good (calls g)) {pf : Nat → Bool} (hp : ∀ g, pf g = true → PureF (calls g)) (hK : KPan K) {m0 : AMem} (h0 : m0.next ≤ base) {chk : List (Nat × Nat)}
    (hed : ∀ j o, ops[j]? = some o → ∀ d ∈ depsOf o, d < j) : ∀ (fuel : Nat) (cl : List AOper) (L : Array Bool) {done β O w m env a}, cl.length = fuel → Listed ops cl L →
    (∀ y ∈ cl, (∃ o, ops[y.k]? = some o ∧ cOper P ops nt y.k o = some y) ∧ (effOf pf y.op ≠ .write → Free chk y)) →
    (cl.Pairwise fun x y => (effOf pf x.op = .read → (∃ p ∈ chk, p.1 = x.k) → ssaB x y = true) ∧ x.k ≠ y.k ∧ (Dep ops.toList x.k y.k ∨ ((mayMix (effOf pf x.op) (effOf pf y.op) = true ∨ (effOf pf x.op = .read ∧ chk.contains (x.k, y.k) = true ∧ selfB x = true)) ∧ apartA x y = true))) →
    Rest β O w m base (cl.map (·.k)) → EnvOk β O w env nt a.tmps → a.defers = ds → m0.next ≤ m.next →
    aSeqD calls base chk done cl env m K = some r → After P β O w m0 nt ds K r Q → wpAny P .any ops Q fuel L a w := by
  intro fuel
  induction fuel with
  | zero =>
    intro cl L done β O w m env a hlen hL hl hpw hr he hd hm h haft
    have : cl = [] := List.eq_nil_of_length_eq_zero hlen
    subst this
    refine ⟨?_, ?_⟩
    · apply List.eq_nil_iff_forall_not_mem.2
      intro i hi
      obtain ⟨h1, h2, _⟩ := mem_ready.1 hi
      simpa using (hL.rest i h1).1 h2
    · exact haft .normal env m .normal a w β O h trivial ⟨.refl _, .refl _ _, hm, fun _ _ _ => rfl⟩ hr.sim (.inr he) hd
  | succ fuel ih =>
    intro cl L done β O w m env a hlen hL hl hpw hr he hd hm h haft
    have hlt : ∀ y ∈ cl, y.k < ops.size := fun y hy => by
      obtain ⟨⟨o, ho, _⟩, _⟩ := hl y hy
      exact (Array.getElem?_eq_some_iff.1 ho).1
    refine ⟨fun hnil => ?_, fun i hi => ?_⟩
    · have := none_ready hL hed hlt hnil
      subst this
      cases hlen
    · obtain ⟨h1, h2, o, ho, hdeps⟩ := mem_ready.1 hi
      obtain ⟨y, hy, rfl⟩ := List.mem_map.1 ((hL.rest i h1).1 h2)
      obtain ⟨pre, post, rfl⟩ := List.append_of_mem hy
      obtain ⟨⟨o', ho', hc⟩, hfree⟩ := hl y hy
      obtain ⟨f1, f2, f3⟩ := hr.free y.k (List.mem_map.2 ⟨y, hy, rfl⟩)
      rw [List.pairwise_append] at hpw
      obtain ⟨p1, p2, p3⟩ := hpw
      rw [List.pairwise_cons] at p2
      -- what stands ahead of it may be exchanged with it
      have hmix : ∀ x ∈ pre, x.k ≠ y.k ∧ (mayMix (effOf pf x.op) (effOf pf y.op) = true ∨ (effOf pf x.op = .read ∧ chk.contains (x.k, y.k) = true ∧ selfB x = true)) ∧ apartA x y = true := fun x hx => by
        obtain ⟨_, hne, hm⟩ := p3 x hx y (List.mem_cons_self ..)
        refine ⟨hne, hm.resolve_left fun hdep => ?_⟩
        have := dep_listed hL hdep (fun o2 ho2 d hd => by
          rw [ho] at ho2
          injection ho2 with ho2
          subst ho2
          exact hdeps d hd)
        have hxs : x.k < L.size := by rw [hL.size]; exact hlt x (List.mem_append_left _ hx)
        have hx2 := (hL.rest x.k (hlt x (List.mem_append_left _ hx))).2 (List.mem_map.2 ⟨x, List.mem_append_left _ hx, rfl⟩)
        rw [getD_same hxs true false, this] at hx2
        cases hx2
      have step : match aStep calls base y env m with
          | some (.val v m') => ∃ dn, aSeqD calls base chk dn (pre ++ post) (upd env y.dst v) m' K = some r
          | some (.pan v m') => K (.panic v) env m' = some r
          | none => False := by
        by_cases hw : effOf pf y.op = .write
        · have := aheadW hp hK pre (fun x hx => ?_) ?_ h
          · cases hyy : aStep calls base y env m with
            | none => rw [hyy] at this; exact this
            | some ry =>
              rw [hyy] at this
              cases ry with
              | val v m' => exact ⟨_, this⟩
              | pan v m' => exact this
          · obtain ⟨hne, hm, hap⟩ := hmix x hx
            refine ⟨hne, hap, (hl x (List.mem_append_left _ hx)).2 ?_, ?_⟩
            · rw [hw] at hm
              rcases hm with hm | hm
              · intro e; rw [e] at hm; cases hm
              · rw [hm.1]; exact fun h => by cases h
            · rw [hw] at hm
              rcases hm with hm | hm
              · left
                cases ex : effOf pf x.op <;> rw [ex] at hm <;> first | rfl | cases hm
              · exact .inr hm
          · refine (List.Pairwise.imp_of_mem ?_ p1)
            intro x z hx hz hxz hxr
            obtain ⟨hne, hm, hap⟩ := hmix x hx
            refine hxz.1 hxr ?_
            rw [hw, hxr] at hm
            rcases hm with hm | hm
            · cases hm
            · exact ⟨_, List.contains_iff_mem.1 hm.2.1, rfl⟩
        · have hfy := hfree hw
          have h' := ahead Hg hp hfy hK pre (fun x hx => by
            obtain ⟨hne, hm, hap⟩ := hmix x hx
            have hm' : mayMix (effOf pf x.op) (effOf pf y.op) = true := hm.resolve_right fun hm => hfy _ (List.contains_iff_mem.1 hm.2.1) rfl
            refine ⟨hne, hm', hap, (hl x (List.mem_append_left _ hx)).2 ?_⟩
            intro e; rw [e] at hm'; cases hm') f1 f2 h
          rw [aSeqD] at h'
          cases hyy : aStep calls base y env m with
          | none => rw [hyy] at h'; cases h'
          | some ry =>
            rw [hyy] at h'
            cases ry with
            | val v m' => simp only [again_free hfy, cond_true] at h'; exact ⟨_, h'⟩
            | pan v m' => exact h'
      have hnd : y.k ∉ (pre ++ post).map (·.k) := by
        intro hmem
        obtain ⟨x, hx, e⟩ := List.mem_map.1 hmem
        rcases List.mem_append.1 hx with hx | hx
        · exact (p3 x hx y (List.mem_cons_self ..)).2.1 e
        · exact (p2.1 x hx).2.1 e.symm
      have hsub : ∀ z ∈ pre ++ post, z ∈ pre ++ y :: post := fun z hz => by
        rcases List.mem_append.1 hz with hz | hz
        · exact List.mem_append_left _ hz
        · exact List.mem_append_right _ (List.mem_cons_of_mem _ hz)
      have hr' : Rest β O w m base (y.k :: (pre ++ post).map (·.k)) := ⟨hr.sim, fun k hk => hr.free k (by
        rcases List.mem_cons.1 hk with hk | hk
        · rw [hk]; exact List.mem_map.2 ⟨y, hy, rfl⟩
        · obtain ⟨z, hz, rfl⟩ := List.mem_map.1 hk
          exact List.mem_map.2 ⟨z, hsub z hz, rfl⟩)⟩
      cases hyy : aStep calls base y env m with
      | none => rw [hyy] at step; exact step.elim
      | some ry =>
      rw [hyy] at step
      refine one_okT Hc Hg ho' hc h0 hr' hnd he hd hyy (fun v m' e => by subst e; exact step) haft hm (fun v β' O' w' m' a' e hr2 he2 hd2 hm2 haft2 => ?_)
      subst e
      obtain ⟨dn, h2'⟩ := step
      have hi' : y.k < L.size := by rw [hL.size]; exact h1
      have hget : ∀ (j : Nat) (b : Bool), (L.setIfInBounds y.k true).getD j b = if j = y.k then true else L.getD j b := by
        intro j b
        by_cases e : j = y.k
        · subst e; simp [hi']
        · simp [e, Array.getElem?_setIfInBounds_ne (Ne.symm e)]
      refine ih (pre ++ post) _ (done := dn) (by simp at hlen ⊢; omega) ⟨by simp [hL.size], fun j hj => ?_, fun j o2 ho2 hj d hd => ?_⟩ (fun z hz => hl z (hsub z hz)) ?_ hr2 he2 hd2 hm2 h2' haft2
      · rw [hget]
        by_cases e : j = y.k
        · subst e
          rw [if_pos rfl]
          exact ⟨fun h => (by cases h), fun h => absurd h hnd⟩
        · rw [if_neg e, hL.rest j hj]
          constructor
          · intro hmem
            obtain ⟨z, hz, rfl⟩ := List.mem_map.1 hmem
            rcases List.mem_append.1 hz with hz | hz
            · exact List.mem_map.2 ⟨z, List.mem_append_left _ hz, rfl⟩
            · rcases List.mem_cons.1 hz with hz | hz
              · exact absurd (by rw [hz]) e
              · exact List.mem_map.2 ⟨z, List.mem_append_right _ hz, rfl⟩
          · intro hmem
            obtain ⟨z, hz, rfl⟩ := List.mem_map.1 hmem
            exact List.mem_map.2 ⟨z, hsub z hz, rfl⟩
      · rw [hget] at hj ⊢
        by_cases e : d = y.k
        · rw [if_pos e]
        · rw [if_neg e]
          by_cases e2 : j = y.k
          · subst e2
            rw [ho] at ho2
            injection ho2 with ho2
            subst ho2
            exact hdeps d hd
          · rw [if_neg e2] at hj
            exact hL.closed j o2 ho2 hj d hd
      · rw [List.pairwise_append]
        exact ⟨p1, p2.2, fun x hx z hz => p3 x hx z (List.mem_cons_of_mem _ hz)⟩
theorem subB_ok {l : List AOper} : ∀ {ord cl : List AOper}, subB l ord = some cl → ∀ y ∈ cl, ∃ k : Nat, l[k]? = some y
  | [], cl, h, y, hy => by
    simp only [subB, Option.some.injEq] at h
    subst h
    cases hy
  | o :: ord, cl, h, y, hy => by
    simp only [subB] at h
    split at h
    · rename_i x t hx ht
      injection h with h
      subst h
      rcases List.mem_cons.1 hy with hy | hy
      · subst hy; exact ⟨_, hx⟩
      · exact subB_ok ht y hy
    · cases h
theorem cOpers_ok : ∀ {os : List Oper} {k : Nat} {l : List AOper}, cOpers P ops nt k os = some l → (∀ j o, os[j]? = some o → ops[k + j]? = some o) → l.length = os.length ∧ ∀ j y, l[j]? = some y → y.k = k + j ∧ ∃ o, ops[y.k]? = some o ∧ cOper P ops nt y.k o = some y
  | [], k, l, h, _ => by
    simp only [cOpers, Option.some.injEq] at h
    subst h
    exact ⟨rfl, fun j y hy => by simp at hy⟩
  | o :: os, k, l, h, ho => by
    simp only [cOpers] at h
    split at h
    · rename_i x t hx ht
      injection h with h
      subst h
      obtain ⟨h1, h2⟩ := cOpers_ok ht (fun j o' hj => by
        have := ho (j + 1) o' (by simpa using hj)
        rw [← this]; congr 1; omega)
      refine ⟨by simp [h1], fun j y hy => ?_⟩
      cases j with
      | zero =>
        simp only [List.getElem?_cons_zero, Option.some.injEq] at hy
        subst hy
        have hk := (cOper_ok hx).1
        refine ⟨by omega, o, ?_, ?_⟩
        · rw [hk]; simpa using ho 0 o (by simp)
        · rw [hk]; exact hx
      | succ j =>
        obtain ⟨h3, h4⟩ := h2 j y (by simpa using hy)
        exact ⟨by omega, h4⟩
    · cases h
end
end Go.Proofs.YtiijjopdhjpalaaDoor

/-! Code, and a function's body. Conditions: none. -/
namespace Go.Proofs.YtiijjopdhjpalaaDoor
open Go
set_option linter.unusedVariables false
set_option linter.unusedSimpArgs false
section
variable {P : Program} {β : Nat → Option Blk} {O : Nat → Prop} {w : World} {m : AMem}
variable {calls : Nat → AF} {nt : Nat}
theorem After.step {K r Q ds β' O' w' m'} (h : After P β O w m nt ds K r Q) (st : Stp β O w m m.next β' O' w' m') : After P β' O' w' m' nt ds K r Q :=
  fun e env'' m'' e' a'' w'' β'' O'' hK hex st' hsim hev hdf => h e env'' m'' e' a'' w'' β'' O'' hK hex (st.trans st') hsim hev hdf
/-- A loop that is known to end within so many rounds. -/
theorem wp_loopN {c : Code} {Q : Exit → Act → World → Prop} (I : Nat → Act → World → Prop) (hz : ∀ a w, ¬ I 0 a w)
    (round : ∀ n a w, I (n + 1) a w → c.wp P (Exit.then (fun a' w' => I n a' w') Q) a w) {n : Nat} {a : Act} {w : World} (h : I n a w) : (Code.loop c).wp P Q a w := by
  intro b k cs
  have key : ∀ n a w, I n a w →
      ∃ e a' w', Q e a' w' ∧ Arrives P (lone (b.at a (.code c :: .inLoop c :: k)) cs w) b k cs e a' w' := by
    intro n
    induction n with
    | zero => exact fun a w h => absurd h (hz a w)
    | succ n ih =>
      intro a w hI
      obtain ⟨e, a₁, w₁, hq, harr⟩ := round n a w hI b (.inLoop c :: k) cs
      cases e with
      | normal =>
        obtain ⟨e₂, a₂, w₂, hq₂, harr₂⟩ := ih a₁ w₁ hq
        exact ⟨e₂, a₂, w₂, hq₂, .of_steps (Steps.trans harr (.one step_inLoop)) harr₂⟩
      | exit id => exact ⟨_, a₁, w₁, hq, .pass (x := .inLoop c) rfl (fun _ _ => .inl (by simp)) harr⟩
      | goto l => exact ⟨_, a₁, w₁, hq, .pass (x := .inLoop c) rfl (fun _ _ => .inl (by simp)) harr⟩
      | ret => exact ⟨_, a₁, w₁, hq, .pass (x := .inLoop c) rfl (fun _ _ => .inl (by simp)) harr⟩
      | panic ch => exact ⟨_, a₁, w₁, hq, .pass (x := .inLoop c) rfl (fun _ _ => .inl (by simp)) harr⟩
      | outgrown => exact ⟨_, a₁, w₁, hq, .pass (x := .inLoop c) rfl (fun _ _ => .inl (by simp)) harr⟩
  obtain ⟨e, a', w', hq, harr⟩ := key n a w h
  exact ⟨e, a', w', hq, .of_steps (.one step_loop) harr⟩
theorem rest_room (hs : Sim β O w m) (n : Nat) (ks : List Nat) (hk : ∀ k ∈ ks, k < n) : Rest β O w (m.room n) m.next ks :=
  ⟨hs.room n, fun k h => ⟨by have := hk k h; simp only [AMem.room]; omega, m.wf _ (Nat.le_add_right _ _), hs.fresh _ (Nat.le_add_right _ _)⟩⟩
theorem aCode_mkReg {chk : List (Nat × Nat)} {cl : List AOper} {env : AEnv} {m : AMem} {K : Kont} : aCode calls (mkReg chk cl) env m K = aSeqD calls m.next chk [] cl env (m.room cl.length) K := by
  cases chk with
  | nil => rw [mkReg, aCode, aOps_eq, aSeq_eq]
  | cons p chk => rfl
/-- **Code does what its abstract form says.** -/
theorem code_ok (Hc : ∀ g, CallOk P g (calls g)) (Hg : ∀ g, Good (calls g)) {pf : Nat → Bool} (hp : ∀ g, pf g = true → PureF (calls g)) (hm : P.follows .mixedOrders = true) {r : AOut × AMem} {ds : List Deferred} :
    ∀ (c : Code) {ac : ACode}, cCode P pf nt c = some ac → ∀ {β O w m env a K Q}, Sim β O w m → EnvOk β O w env nt a.tmps → KPan K → a.defers = ds → aCode calls ac env m K = some r → After P β O w m nt ds K r Q → c.wp P Q a w := by
  intro c
  induction c with
  | skip =>
    intro ac hc β O w m env a K Q hs he hK hd h haft
    simp only [cCode, Option.some.injEq] at hc
    subst hc
    exact wp_skip (haft .normal env m .normal a w β O h trivial (.refl _ _ _ _ _) hs (.inr he) hd)
  | ret =>
    intro ac hc β O w m env a K Q hs he hK hd h haft
    simp only [cCode, Option.some.injEq] at hc
    subst hc
    exact wp_ret (haft .ret env m .ret a w β O h trivial (.refl _ _ _ _ _) hs (.inr he) hd)
  | exit id =>
    intro ac hc β O w m env a K Q hs he hK hd h haft
    simp only [cCode, Option.some.injEq] at hc
    subst hc
    exact wp_exit (haft (.exit id) env m (.exit id) a w β O h rfl (.refl _ _ _ _ _) hs (.inr he) hd)
  | region id ops draw =>
    intro ac hc β O w m env a K Q hs he hK hd h haft
    simp only [cCode] at hc
    split at hc
    · rename_i l hl
      obtain ⟨hlen, hat⟩ := cOpers_ok (ops := ops) hl (fun j o hj => by simpa using hj)
      have hks : ∀ y ∈ l, y.k < l.length ∧ ∃ o, ops[y.k]? = some o ∧ cOper P ops nt y.k o = some y := fun y hy => by
        obtain ⟨j, hj⟩ := List.getElem?_of_mem hy
        obtain ⟨h1, h2⟩ := hat j y hj
        refine ⟨?_, h2⟩
        have := (List.getElem?_eq_some_iff.1 hj).1
        omega
      cases draw with
      | false =>
        simp only [Bool.false_eq_true, if_false, Option.some.injEq] at hc
        subst hc
        simp only [aCode, aOps_eq] at h
        have hmap : l.map (·.k) = List.range ops.size := by
          apply List.ext_getElem?
          intro j
          rw [List.getElem?_map]
          cases hj : l[j]? with
          | none =>
            have : l.length ≤ j := List.getElem?_eq_none_iff.1 hj
            rw [List.getElem?_eq_none (by simp; rw [hlen] at this; simpa using this)]
            rfl
          | some y =>
            have h1 := (hat j y hj).1
            have h2 := (List.getElem?_eq_some_iff.1 hj).1
            rw [List.getElem?_range (by rw [hlen] at h2; simpa using h2)]
            simp [h1]
        refine wp_region ?_
        rw [← hmap]
        refine ops_ok (m0 := m) Hc Hg (Nat.le_refl _) l (fun y hy => (hks y hy).2) (by rw [hmap]; exact List.nodup_range) (rest_room hs _ _ (fun k hk => ?_)) he hd (Nat.le_add_right _ _) h haft
        obtain ⟨y, hy, rfl⟩ := List.mem_map.1 hk
        exact (hks y hy).1
      | true =>
        simp only [if_true] at hc
        split at hc
        · rename_i cl hcl
          split at hc
          · rename_i hcc
            obtain ⟨c1, c2, c3⟩ := hcc
            injection hc with hc
            subst hc
            rw [aCode_mkReg] at h
            have hin : ∀ y ∈ cl, y ∈ l := fun y hy => by
              obtain ⟨k, hk⟩ := subB_ok hcl y hy
              exact List.mem_of_getElem? hk
            generalize hchk : chkOf pf (befores ops.toList []) cl = chk at *
            simp only [drawOK, Bool.and_eq_true, List.all_eq_true, List.mem_range, List.any_eq_true, beq_iff_eq, Bool.or_eq_true, bne_iff_ne, decide_eq_true_eq, ne_eq] at c2
            obtain ⟨⟨⟨⟨c4, c6⟩, c7⟩, c8⟩, c5⟩ := c2
            have c5 := pairsB_ok c5
            have c8 := pairsB_ok c8
            have hed : ∀ j o, ops[j]? = some o → ∀ d ∈ depsOf o, d < j := fun j o hj d hd => by
              have := edgesOK_ok c3 j o (by simpa using hj) d hd
              omega
            have hbef := befores_ok ops.toList ops.toList [] (fun k o hk => by simpa using hk) (fun j x hx => by simp at hx)
            have hkeep : Keeps O w O { w with drawn := w.drawn + 1 } := Keeps.heap rfl
            have hs' : Sim β O { w with drawn := w.drawn + 1 } m := hs.heap rfl
            refine wp_region_any hm ?_
            have hlc : cl.length = ops.size := by rw [c1, hlen]; simp
            refine draw_ok (pf := pf) (m0 := m) Hc Hg hp hK (Nat.le_refl _) hed ops.size cl _ hlc ⟨by simp, fun i hi => ?_, fun j o ho hj => ?_⟩ (fun y hy => ⟨(hks y (hin y hy)).2, fun hw p hp' e => ?_⟩) ?_ (rest_room hs' _ _ (fun k hk => ?_)) (he.keep (.refl _) hkeep) hd (Nat.le_add_right _ _) h
              (haft.step ⟨.refl _, hkeep, Nat.le_refl _, fun _ _ _ => rfl⟩)
            · constructor
              · intro _
                obtain ⟨y, hy, e⟩ := c4 i (by simpa using hi)
                exact List.mem_map.2 ⟨y, hy, e⟩
              · intro _
                simp [hi]
            · have hjs : j < ops.size := (Array.getElem?_eq_some_iff.1 ho).1
              simp [hjs] at hj
            · rcases c6 p hp' y hy with h' | h'
              · exact h' e.symm
              · exact hw h'
            · refine (c5.and c8).imp_of_mem fun {x y} hx _ hxy => ?_
              obtain ⟨h1, h2⟩ := hxy
              simp only [Bool.and_eq_true, bne_iff_ne, ne_eq, Bool.or_eq_true, List.contains_iff_mem, decide_eq_true_eq, Bool.not_eq_true', List.any_eq_false, beq_iff_eq] at h1 h2
              refine ⟨fun _ hp' => ?_, h1.1, ?_⟩
              · obtain ⟨p, hp1, hp2⟩ := hp'
                exact h2.resolve_left fun hn => hn p hp1 hp2
              · rcases h1.2 with h' | ⟨h', h''⟩
                · exact .inl (hbef _ _ h')
                · refine .inr ⟨h'.imp (fun h => h) (fun h' => ⟨h'.1, by simpa using h'.2, ?_⟩), h''⟩
                  have := c7 x hx
                  simp only [Bool.not_eq_true', List.any_eq_false, beq_iff_eq] at this
                  exact this.resolve_left fun hn => hn _ h'.2 rfl
            · obtain ⟨y, hy, rfl⟩ := List.mem_map.1 hk
              rw [c1]
              exact (hks y (hin y hy)).1
          · cases hc
        · cases hc
    · cases hc
  | seq x y ihx ihy =>
    intro ac hc β O w m env a K Q hs he hK hd h haft
    simp only [cCode] at hc
    split at hc
    · rename_i ax ay hx hy
      injection hc with hc
      subst hc
      simp only [aCode] at h
      refine wp_seq (ihx hx hs he ?_ hd h ?_)
      · intro v e e' m
        exact hK v e e' m
      · intro e env' m' e' a' w' β' O' hK' hex st hsim hev hdf
        cases e with
        | normal =>
          cases e' <;> simp only [ExitIs] at hex
          exact ihy hy hsim (hev.resolve_left (by simp)) hK hdf hK' (haft.step st)
        | exit i =>
          cases e' <;> simp only [ExitIs] at hex
          exact haft (.exit i) env' m' _ a' w' β' O' hK' hex st hsim hev hdf
        | ret =>
          cases e' <;> simp only [ExitIs] at hex
          exact haft .ret env' m' _ a' w' β' O' hK' hex st hsim hev hdf
        | panic v =>
          cases e' <;> simp only [ExitIs] at hex
          exact haft (.panic v) env' m' _ a' w' β' O' hK' hex st hsim hev hdf
    · cases hc
  | cond c x y ihx ihy =>
    intro ac hc β O w m env a K Q hs he hK hd h haft
    simp only [cCode] at hc
    split at hc
    · rename_i ax ay hx hy
      injection hc with hc
      subst hc
      simp only [aCode] at h
      split at h
      · rename_i q hq
        have hcq := ev_ok he c
        rw [hq] at hcq
        refine wp_cond (rep_bool hcq) ?_
        cases q
        · exact ihy hy hs he hK hd h haft
        · exact ihx hx hs he hK hd h haft
      · cases h
    · cases hc
  | block id x ih =>
    intro ac hc β O w m env a K Q hs he hK hd h haft
    simp only [cCode] at hc
    cases hx : cCode P pf nt x with
    | none => rw [hx] at hc; cases hc
    | some ax =>
      rw [hx] at hc
      simp only [Option.map_some, Option.some.injEq] at hc
      subst hc
      simp only [aCode] at h
      refine wp_block (ih hx hs he ?_ hd h ?_)
      · intro v e e' m
        exact hK v e e' m
      · intro e env' m' e' a' w' β' O' hK' hex st hsim hev hdf
        cases e with
        | normal =>
          cases e' <;> simp only [ExitIs] at hex
          exact haft .normal env' m' .normal a' w' β' O' hK' trivial st hsim hev hdf
        | exit i =>
          cases e' <;> simp only [ExitIs] at hex
          rename_i j
          subst hex
          simp only at hK'
          by_cases e : i = id
          · rw [if_pos e] at hK'
            simp only [Exit.inBlock, if_pos e]
            exact haft .normal env' m' .normal a' w' β' O' hK' trivial st hsim (.inr (hev.resolve_left (by simp))) hdf
          · rw [if_neg e] at hK'
            simp only [Exit.inBlock, if_neg e]
            exact haft (.exit i) env' m' (.exit i) a' w' β' O' hK' rfl st hsim hev hdf
        | ret =>
          cases e' <;> simp only [ExitIs] at hex
          exact haft .ret env' m' _ a' w' β' O' hK' hex st hsim hev hdf
        | panic v =>
          cases e' <;> simp only [ExitIs] at hex
          exact haft (.panic v) env' m' _ a' w' β' O' hK' hex st hsim hev hdf
  | loop x ih =>
    intro ac hc β O w m env a K Q hs he hK hd h haft
    simp only [cCode] at hc
    cases hx : cCode P pf nt x with
    | none => rw [hx] at hc; cases hc
    | some ax =>
      rw [hx] at hc
      simp only [Option.map_some, Option.some.injEq] at hc
      subst hc
      rw [aCode] at h
      generalize LOOPK = n at h
      refine wp_loopN (I := fun n a w => ∃ β O m env, Sim β O w m ∧ EnvOk β O w env nt a.tmps ∧ a.defers = ds ∧ loopN n (aCode calls ax) env m K = some r ∧ After P β O w m nt ds K r Q) ?_ ?_ ⟨β, O, m, env, hs, he, hd, h, haft⟩
      · rintro a w ⟨β, O, m, env, _, _, _, h, _⟩
        cases h
      · rintro n a w ⟨β, O, m, env, hs, he, hd, h, haft⟩
        refine ih hx hs he ?_ hd h ?_
        · intro v e e' m
          exact hK v e e' m
        · intro e env' m' e' a' w' β' O' hK' hex st hsim hev hdf
          cases e with
          | normal =>
            cases e' <;> simp only [ExitIs] at hex
            exact ⟨β', O', m', env', hsim, hev.resolve_left (by simp), hdf, hK', haft.step st⟩
          | exit i =>
            cases e' <;> simp only [ExitIs] at hex
            exact haft (.exit i) env' m' _ a' w' β' O' hK' hex st hsim hev hdf
          | ret =>
            cases e' <;> simp only [ExitIs] at hex
            exact haft .ret env' m' _ a' w' β' O' hK' hex st hsim hev hdf
          | panic v =>
            cases e' <;> simp only [ExitIs] at hex
            exact haft (.panic v) env' m' _ a' w' β' O' hK' hex st hsim hev hdf
  | _ =>
    intro ac hc
    simp only [cCode, reduceCtorEq] at hc
end
end Go.Proofs.YtiijjopdhjpalaaDoor

/-! A function: its body, its results; what it leaves alone. Conditions: none. -/
namespace Go.Proofs.YtiijjopdhjpalaaDoor
open Go
set_option linter.unusedVariables false
set_option linter.unusedSimpArgs false
section
variable {P : Program} {β : Nat → Option Blk} {O : Nat → Prop} {w : World} {m : AMem}
variable {calls : Nat → AF} {nt : Nat}

/-! ### What is not there does not come back -/
def KGrows (m : AMem) (K : Kont) (r : AOut × AMem) : Prop := ∃ e env m', K e env m' = some r ∧ Grows m m' m.next
theorem Grows.trans' {m m' m'' : AMem} (h : Grows m m' m.next) (h' : Grows m' m'' m'.next) : Grows m m'' m.next :=
  ⟨Nat.le_trans h.1 h'.1, fun id hid hne hn => h'.2 id (Nat.lt_of_lt_of_le hid h.1) (by have := h.1; omega) (h.2 id hid hne hn)⟩
theorem aSeq_grows (Hg : ∀ g, Good (calls g)) {base : Nat} {K : Kont} {r : AOut × AMem} {m0 : AMem} (h0 : m0.next ≤ base) : ∀ (l : List AOper) {env : AEnv} {m : AMem}, Grows m0 m m0.next → aSeq calls base l env m K = some r → ∃ e env' m', K e env' m' = some r ∧ Grows m0 m' m0.next
  | [], env, m, hg, h => ⟨_, _, _, h, hg⟩
  | o :: l, env, m, hg, h => by
    rw [aSeq] at h
    cases hx : aStep calls base o env m with
    | none => rw [hx] at h; cases h
    | some rx =>
      rw [hx] at h
      have gr := aStep_grows Hg hx
      have g2 : Grows m0 rx.mem m0.next := ⟨Nat.le_trans hg.1 gr.1, fun id hid hne hn => gr.2 id (Nat.lt_of_lt_of_le hid hg.1) (by omega) (hg.2 id hid hne hn)⟩
      cases rx with
      | val v m' => exact aSeq_grows Hg h0 l g2 h
      | pan v m' => exact ⟨_, _, _, h, g2⟩
theorem aSeqD_grows (Hg : ∀ g, Good (calls g)) {base : Nat} {chk : List (Nat × Nat)} {K : Kont} {r : AOut × AMem} {m0 : AMem} (h0 : m0.next ≤ base) : ∀ (l done : List AOper) {env : AEnv} {m : AMem}, Grows m0 m m0.next → aSeqD calls base chk done l env m K = some r → ∃ e env' m', K e env' m' = some r ∧ Grows m0 m' m0.next
  | [], _, env, m, hg, h => ⟨_, _, _, h, hg⟩
  | o :: l, done, env, m, hg, h => by
    rw [aSeqD] at h
    cases hx : aStep calls base o env m with
    | none => rw [hx] at h; cases h
    | some rx =>
      rw [hx] at h
      have gr := aStep_grows Hg hx
      have g2 : Grows m0 rx.mem m0.next := ⟨Nat.le_trans hg.1 gr.1, fun id hid hne hn => gr.2 id (Nat.lt_of_lt_of_le hid hg.1) (by omega) (hg.2 id hid hne hn)⟩
      cases rx with
      | val v m' =>
        simp only at h
        cases ha : again calls base chk done o env m' with
        | false => rw [ha] at h; cases h
        | true => rw [ha, cond_true] at h; exact aSeqD_grows Hg h0 l _ g2 h
      | pan v m' => exact ⟨_, _, _, h, g2⟩
theorem grows_room (m : AMem) (n : Nat) : Grows m (m.room n) m.next := ⟨Nat.le_add_right _ _, fun _ _ _ h => h⟩
theorem aCode_grows (Hg : ∀ g, Good (calls g)) {r : AOut × AMem} : ∀ (c : ACode) {env : AEnv} {m : AMem} {K : Kont}, aCode calls c env m K = some r → ∃ e env' m', K e env' m' = some r ∧ Grows m m' m.next := by
  intro c
  induction c with
  | skip => exact fun h => ⟨_, _, _, h, .refl _ _⟩
  | exit id => exact fun h => ⟨_, _, _, h, .refl _ _⟩
  | ret => exact fun h => ⟨_, _, _, h, .refl _ _⟩
  | no => exact fun h => by cases h
  | reg ops =>
    intro env m K h
    simp only [aCode, aOps_eq] at h
    exact aSeq_grows Hg (Nat.le_refl _) ops (grows_room m _) h
  | regd chk ops =>
    intro env m K h
    exact aSeqD_grows Hg (Nat.le_refl _) ops [] (grows_room m _) h
  | seq x y ihx ihy =>
    intro env m K h
    simp only [aCode] at h
    obtain ⟨e, env', m', h1, g1⟩ := ihx h
    cases e with
    | normal =>
      obtain ⟨e, env'', m'', h2, g2⟩ := ihy h1
      exact ⟨e, env'', m'', h2, g1.trans' g2⟩
    | _ => exact ⟨_, env', m', h1, g1⟩
  | cond c x y ihx ihy =>
    intro env m K h
    simp only [aCode] at h
    split at h
    · rename_i q _
      cases q
      · exact ihy h
      · exact ihx h
    · cases h
  | blk id x ih =>
    intro env m K h
    simp only [aCode] at h
    obtain ⟨e, env', m', h1, g1⟩ := ih h
    cases e with
    | exit j =>
      simp only at h1
      split at h1
      · exact ⟨_, env', m', h1, g1⟩
      · exact ⟨_, env', m', h1, g1⟩
    | _ => exact ⟨_, env', m', h1, g1⟩
  | loop x ih =>
    intro env m K h
    rw [aCode] at h
    generalize LOOPK = n at h
    induction n generalizing env m with
    | zero => cases h
    | succ n ihn =>
      obtain ⟨e, env', m', h1, g1⟩ := ih h
      cases e with
      | normal =>
        obtain ⟨e, env'', m'', h2, g2⟩ := ihn h1
        exact ⟨e, env'', m'', h2, g1.trans' g2⟩
      | _ => exact ⟨_, env', m', h1, g1⟩
theorem fin_some {res : List ARes} {e : AExit} {env : AEnv} {m : AMem} {r : AOut × AMem} (h : fin res e env m = some r) :
    ((e = .normal ∨ e = .ret) ∧ ∃ vs, aResL env m res = some vs ∧ r = (.ret (retV vs), m)) ∨ ∃ v, e = .panic v ∧ r = (.pan v, m) := by
  cases e with
  | normal =>
    simp only [fin] at h
    cases hx : aResL env m res with
    | none => rw [hx] at h; cases h
    | some vs => rw [hx] at h; simp only [Option.map_some, Option.some.injEq] at h; exact .inl ⟨.inl rfl, vs, rfl, h.symm⟩
  | ret =>
    simp only [fin] at h
    cases hx : aResL env m res with
    | none => rw [hx] at h; cases h
    | some vs => rw [hx] at h; simp only [Option.map_some, Option.some.injEq] at h; exact .inl ⟨.inr rfl, vs, rfl, h.symm⟩
  | panic v => simp only [fin, Option.some.injEq] at h; exact .inr ⟨v, rfl, h.symm⟩
  | exit id => cases h
theorem aBody_good (Hg : ∀ g, Good (calls g)) (f : AFun) : Good (aBody calls f) := by
  intro args m o m' h
  obtain ⟨e, env', m2, h1, g1⟩ := aCode_grows Hg f.body h
  rcases fin_some h1 with ⟨_, vs, _, e⟩ | ⟨v, _, e⟩ <;> injection e with e1 e2 <;> subst e2 <;> exact g1

/-! ### The results -/
theorem resL_ok (hs : Sim β O w m) {tmps : Array Value} {env : AEnv} (he : ∀ t, Rep β O w (env t) (tmps.getD t undef)) : ∀ {rs : List ResultVar} {as : List ARes} {vs : List AV}, cResL P rs = some as → aResL env m as = some vs →
    ∃ us, (rs.mapM fun
      | .tmp t => pure (tmps.getD t undef)
      | .cell a t => do loadVar t (← asAddr (tmps.getD a undef)) : Sem (List Value)).run P w = .ok us w ∧ RepL β O w vs us
  | [], as, vs, hc, h => by
    simp only [cResL, Option.some.injEq] at hc
    subst hc
    simp only [aResL, Option.some.injEq] at h
    subst h
    exact ⟨[], rfl, .nil⟩
  | x :: rs, as, vs, hc, h => by
    simp only [cResL] at hc
    split at hc
    · rename_i a l ha hl
      injection hc with hc
      subst hc
      simp only [aResL, Option.bind_eq_some_iff, Option.map_eq_some_iff] at h
      obtain ⟨v, hv, vs', hvs, rfl⟩ := h
      obtain ⟨us, h1, h2⟩ := resL_ok hs he hl hvs
      have ⟨u, h3, h4⟩ : ∃ u, (match x with | .tmp t => pure (tmps.getD t undef) | .cell a t => do loadVar t (← asAddr (tmps.getD a undef)) : Sem Value).run P w = .ok u w ∧ Rep β O w v u := by
        cases x with
        | tmp t =>
          simp only [cRes, Option.some.injEq] at ha
          subst ha
          simp only [aRes, Option.some.injEq] at hv
          subst hv
          exact ⟨_, rfl, he t⟩
        | cell t ty =>
          simp only [cRes] at ha
          split at ha
          · rename_i g i hg hi
            split at ha
            · rename_i h1'
              injection ha with ha
              subst ha
              simp only [aRes] at hv
              obtain ⟨u, h5, h6⟩ := aLoad_ok hs hv (he t) hg hi rfl (by simpa using h1')
              refine ⟨u, ?_, h6⟩
              have hp : ∃ ad, tmps.getD t undef = .pointer (some ad) := by
                have hr := he t
                generalize env t = x at *
                cases x with
                | tp v => obtain ⟨b, o, e, _⟩ := rep_tp hr; exact ⟨_, e⟩
                | ptr i a b => obtain ⟨bl, _, e⟩ := rep_ptr hr; exact ⟨_, e⟩
                | _ => cases hv
              obtain ⟨ad, e⟩ := hp
              rw [e] at h5
              simp only [e, asAddr, Sem.run_bind, Sem.run_pure, Result.andThen_ok]
              simpa [Instr.loadAt, Instr.sureAddr, Sem.run_bind] using h5
            · cases ha
          · cases ha
      refine ⟨u :: us, ?_, .cons h4 h2⟩
      rw [List.mapM_cons]
      cases x <;> (simp only [Sem.run_bind, h3, Result.andThen_ok, h1, Sem.run_pure] at h3 ⊢)
    · cases hc
theorem fun_ok (Hc : ∀ g, CallOk P g (calls g)) (Hg : ∀ g, Good (calls g)) {pf : Nat → Bool} (hp : ∀ g, pf g = true → PureF (calls g)) (hm : P.follows .mixedOrders = true) {f : Nat} {fn : Func} {af : AFun} (hf : P.funcs[f]? = some fn)
    (hc : cFun P pf fn = some af) (hname : (fn.name == "runtime.NumGoroutine") = false) : CallOk P f (aBody calls af) := by
  intro β O w m args us o m' hs hargs h
  unfold cFun at hc
  split at hc
  · rename_i c hb
    split at hc
    · rename_i b rs hcb hrs
      injection hc with hc
      subst hc
      refine .inl ⟨?_, ?_⟩
      · have hn' : ¬ fn.name = "runtime.NumGoroutine" := by simpa using hname
        simp [callFunc, hf, hn', hb, Sem.run_bind]
      · refine calls_of_wp hf hb ?_
        refine code_ok (nt := fn.ntmps) (ds := []) Hc Hg hp hm c hcb (env := env0 args) hs ?_ ?_ rfl h ?_
        · refine ⟨by simp; omega, fun t => ?_⟩
          unfold env0
          cases ht : args[t]? with
          | some v =>
            obtain ⟨u, hu, hr⟩ := hargs.get t ht
            have hl := (List.getElem?_eq_some_iff.1 hu).1
            have : (us.toArray ++ Array.replicate (fn.ntmps - us.toArray.size) undef).getD t undef = u := by
              simp only [Array.getD_eq_getD_getElem?]
              rw [Array.getElem?_append_left (by simpa using hl)]
              simp [hu]
            rw [this]
            exact hr
          | none =>
            have hl : us.length ≤ t := by
              have := List.getElem?_eq_none_iff.1 ht
              rw [hargs.length] at this
              exact this
            have : (us.toArray ++ Array.replicate (fn.ntmps - us.toArray.size) undef).getD t undef = undef := by
              simp only [Array.getD_eq_getD_getElem?]
              rw [Array.getElem?_append_right (by simpa using hl)]
              rw [Array.getElem?_replicate]
              split <;> rfl
            rw [this]
            exact rep_undef
        · intro v e e' m
          rfl
        · intro e env' m2 e' a' w' β' O' hK hex st hsim hev hdf
          rcases fin_some hK with ⟨he, vs, hvs, hr⟩ | ⟨v, rfl, hr⟩
          · injection hr with hr1 hr2
            subst hr1 hr2
            have hev' : EnvOk β' O' w' env' fn.ntmps a'.tmps := hev.resolve_left (by rcases he with rfl | rfl <;> simp)
            obtain ⟨ul, h1, h2⟩ := resL_ok hsim hev'.2 hrs hvs
            have hres : (results fn a'.tmps).run P w' = .ok (if h : ul.toArray.size = 1 then ul.toArray[0] else .tuple ul.toArray) w' := by
              unfold results
              rw [Array.mapM_eq_mapM_toList]
              simp only [map_eq_pure_bind, Sem.run_bind]
              exact congrArg (fun R : Result (List Value) => (R.andThen fun a w' => Sem.run P (pure a.toArray) w').andThen fun a w' => Sem.run P (pure (if h : a.size = 1 then a[0] else Value.tuple a)) w') h1
            have hrep : Rep β' O' w' (retV vs) (if h : ul.toArray.size = 1 then ul.toArray[0] else .tuple ul.toArray) := by
              have hlen := h2.length
              match vs, ul, h2 with
              | [], [], _ => exact .tup (vs := []) .nil
              | [v], [u], .cons hu .nil => exact hu
              | v :: v2 :: vs, u :: u2 :: ul, h => exact .tup (vs := u :: u2 :: ul) h
            have hfin : bodyPost P fn (EndOk β O w m (.ret (retV vs)) _) .normal a' w' := ⟨hdf, _, hres, _, β', O', rfl, st, hsim, hrep⟩
            rcases he with rfl | rfl <;> cases e' <;> simp only [ExitIs] at hex <;> exact hfin
          · injection hr with hr1 hr2
            subst hr1 hr2
            cases e' <;> simp only [ExitIs] at hex
            obtain ⟨u, rfl, hu⟩ := hex
            exact ⟨hdf, v, u, β', O', rfl, rfl, st, hsim, hu⟩
    · cases hc
  · cases hc
end
end Go.Proofs.YtiijjopdhjpalaaDoor

/-! What is owned becomes a tree again; calls that borrow, calls whose making is let go. Conditions: none. -/
namespace Go.Proofs.YtiijjopdhjpalaaDoor
open Go
set_option linter.unusedVariables false
set_option linter.unusedSimpArgs false
section
variable {P : Program} {β : Nat → Option Blk} {O O2 : Nat → Prop} {w : World} {m : AMem}
theorem keeps_sub (h : ∀ b, O2 b → O b) : Keeps O w O2 w := ⟨⟨Nat.le_refl _, rfl, rfl⟩, fun b _ ho => ⟨fun h2 => ho (h b h2), rfl⟩⟩
theorem repT_notAgg {v : AV} {u : Value} (h : RepT O w v u) (h1 : oneV u = true) : v.cells = [v] := by
  cases h <;> first | rfl | cases h1
theorem cells_from {b : Nat} : ∀ {cs : List AV} {vs : List Value} {o : Nat}, RepTL O w cs vs → (∀ v ∈ vs, oneV v = true) → ¬ O b → (∀ j v, vs[j]? = some v → w.cell? ⟨b, o + j, none⟩ = some v) → CellsAt O w cs b o
  | _, _, _, .nil, _, _, _ => .nil
  | _, _, o, .cons (v := v) h t, h1, ho, hat => .cons ho (by simpa using hat 0 v (by simp)) (h1 v (List.mem_cons_self ..)) h
      (cells_from t (fun v hv => h1 v (List.mem_cons_of_mem _ hv)) ho (fun j v hj => by
        have := hat (j + 1) v (by simpa using hj)
        simpa [Nat.add_assoc, Nat.add_comm 1 j] using this))
theorem RepTL.length : ∀ {cs vs}, RepTL O w cs vs → cs.length = vs.length
  | _, _, .nil => rfl
  | _, _, .cons _ t => by simp [t.length]
theorem rbL_ok {f : AV → Option AV} (hf : ∀ v v' u, f v = some v' → Rep β O w v u → RepT O2 w v' u) : ∀ {l l' : List AV} {us : List Value}, rbL f l = some l' → RepL β O w l us → RepTL O2 w l' us
  | [], l', us, h, hr => by
    simp only [rbL, Option.some.injEq] at h
    subst h
    cases hr
    exact .nil
  | v :: l, l', us, h, hr => by
    simp only [rbL, Option.bind_eq_some_iff, Option.map_eq_some_iff] at h
    obtain ⟨v', hv, t, ht, rfl⟩ := h
    cases hr with
    | cons a b => exact .cons (hf _ _ _ hv a) (rbL_ok hf ht b)
theorem rbL_get {f : AV → Option AV} : ∀ {l l' : List AV}, rbL f l = some l' → l'.length = l.length ∧ ∀ (i : Nat) v, l[i]? = some v → ∃ v', l'[i]? = some v' ∧ f v = some v'
  | [], l', h => by
    simp only [rbL, Option.some.injEq] at h
    subst h
    exact ⟨rfl, fun i v hv => by simp at hv⟩
  | v :: l, l', h => by
    simp only [rbL, Option.bind_eq_some_iff, Option.map_eq_some_iff] at h
    obtain ⟨v', hv, t, ht, rfl⟩ := h
    obtain ⟨h1, h2⟩ := rbL_get ht
    refine ⟨by simp [h1], fun i x hx => ?_⟩
    cases i with
    | zero => simp only [List.getElem?_cons_zero, Option.some.injEq] at hx; subst hx; exact ⟨v', by simp, hv⟩
    | succ i => simpa using h2 i x (by simpa using hx)
/-- The cells of one element, read back. -/
theorem elem_back {e e' : AV} {f : AV → Option AV} (hf : ∀ v v' u, f v = some v' → Rep β O w v u → RepT O2 w v' u) (h : f e = some e') (hagg : e.isAgg = true → e'.isAgg = true) {bl : Blk} {t sz : Nat} {es : List AV} (hb : BlkOk β O w bl t sz es) {i : Nat} (he : es[i]? = some e) (ho : ¬ O2 bl.b) :
    CellsAt O2 w e'.cells bl.b (bl.base + i * bl.sz) ∧ e'.cells.length = e.cells.length := by
  obtain ⟨vs, h1, h2, h3, h4⟩ := hb.valsFrom he e.cells.length 0 (by omega)
  simp only [List.drop_zero, List.take_length, Nat.add_zero] at h2 h4
  by_cases hg : e.isAgg = true
  · have hg' := hagg hg
    cases e with
    | agg cs =>
      have hr : RepT O2 w e' (.agg vs.toArray) := hf _ _ _ h (.agg h2 h3)
      cases e' with
      | agg cs' =>
        generalize hx : Value.agg vs.toArray = x at hr
        cases hr with
        | agg hl _ =>
          rename_i us _
          have : us = vs := by injection hx with hx; simpa using hx.symm
          subst this
          refine ⟨cells_from hl h3 ho h4, ?_⟩
          have := hl.length
          show cs'.length = cs.length
          have h5 := h2.length
          simp only [AV.cells] at h5
          omega
      | _ => cases hg'
    | _ => cases hg
  · have hg : e.isAgg = false := by simpa using hg
    have hc := cells_one (c := e) hg
    rw [hc] at h1 h2
    match vs, h2 with
    | [u], .cons hu .nil =>
      have hr := hf _ _ _ h hu
      have hc' := repT_notAgg hr (h3 u (by simp))
      rw [hc', hc]
      exact ⟨cells_from (.cons hr .nil) h3 ho h4, rfl⟩
theorem rb_agg {n : Nat} {e e' : AV} (h : rb m n e = some e') (hg : e.isAgg = true) : e'.isAgg = true := by
  cases n with
  | zero => cases h
  | succ n =>
    cases e with
    | agg cs =>
      simp only [rb, Option.map_eq_some_iff] at h
      obtain ⟨l, _, rfl⟩ := h
      rfl
    | _ => cases hg
theorem rbN_agg {n : Nat} {e e' : AV} (h : rbN m n e = some e') (hg : e.isAgg = true) : e'.isAgg = true := by
  cases n with
  | zero => cases h
  | succ n =>
    cases e with
    | agg cs =>
      simp only [rbN, Option.map_eq_some_iff] at h
      obtain ⟨l, _, rfl⟩ := h
      rfl
    | _ => cases hg
theorem els_back {f : AV → Option AV} (hf : ∀ v v' u, f v = some v' → Rep β O w v u → RepT O2 w v' u) (hagg : ∀ e e', f e = some e' → e.isAgg = true → e'.isAgg = true) {bl : Blk} {t : Nat} {es : List AV} (hb : BlkOk β O w bl t bl.sz es) (hsz : ∀ e ∈ es, e.cells.length = bl.sz) (hpos : 0 < bl.sz) (ho : ¬ O2 bl.b) :
    ∀ (k i : Nat) {l : List AV}, i + k ≤ es.length → rbL f ((es.drop i).take k) = some l → ElsAt O2 w bl.sz l bl.b (bl.base + i * bl.sz) ∧ l.length = k
  | 0, i, l, _, h => by
    simp only [List.take_zero, rbL, Option.some.injEq] at h
    subst h
    exact ⟨.nil, rfl⟩
  | k + 1, i, l, hik, h => by
    have hi : i < es.length := by omega
    rw [List.drop_eq_getElem_cons hi, List.take_succ_cons] at h
    simp only [rbL, Option.bind_eq_some_iff, Option.map_eq_some_iff] at h
    obtain ⟨v', hv, t', ht, rfl⟩ := h
    have hat : es[i]? = some es[i] := List.getElem?_eq_getElem hi
    obtain ⟨h1, h2⟩ := elem_back hf hv (hagg _ _ hv) hb hat ho
    obtain ⟨h3, h4⟩ := els_back hf hagg hb hsz hpos ho k (i + 1) (by omega) ht
    refine ⟨.cons (by rw [h2]; exact hsz _ (List.getElem_mem hi)) hpos h1 ?_, by simp [h4]⟩
    have e : bl.base + (i + 1) * bl.sz = bl.base + i * bl.sz + bl.sz := by rw [Nat.add_mul]; omega
    rw [← e]
    exact h3
theorem rb_ok (hO : ∀ b, O2 b → O b) (hs : ∀ id o, m.get id = some o → ObjOk β O w id o) (hB : ∀ id o bl, m.get id = some o → β id = some bl → ¬ O2 bl.b) : ∀ (n : Nat) (v v' : AV) (u : Value), rb m n v = some v' → Rep β O w v u → RepT O2 w v' u
  | 0, _, _, _, h, _ => by cases h
  | n + 1, v, v', u, h, hr => by
    have ih := rb_ok hO hs hB n
    have kp : Keeps O w O2 w := keeps_sub hO
    unfold rb at h
    split at h
    · injection h with h; subst h; rw [rep_int hr]; exact .int
    · injection h with h; subst h; rw [rep_bool hr]; exact .bool
    · injection h with h; subst h; rw [rep_str hr]; exact .str
    · injection h with h; subst h; rw [rep_nilp hr]; exact .nilp
    · injection h with h; subst h; rw [rep_nils hr]; exact .ts0
    · injection h with h; subst h; rw [rep_nilf hr]; exact .nilf
    · injection h with h; subst h; rw [rep_nili hr]; exact .nili
    · injection h with h; subst h; rw [rep_nilm hr]; exact .nilm
    · injection h with h; subst h; cases hr with | tree hr => exact hr.keep kp
    · injection h with h; subst h; cases hr with | tree hr => exact hr.keep kp
    · simp only [Option.map_eq_some_iff] at h
      obtain ⟨l, hl, rfl⟩ := h
      obtain ⟨vs, rfl, h1, h2⟩ := rep_agg hr
      exact .agg (rbL_ok ih hl h1) h2
    · simp only [Option.map_eq_some_iff] at h
      obtain ⟨l, hl, rfl⟩ := h
      obtain ⟨vs, rfl, h1⟩ := rep_tup hr
      exact .tup (rbL_ok ih hl h1)
    · simp only [Option.map_eq_some_iff] at h
      obtain ⟨l, hl, rfl⟩ := h
      obtain ⟨x, rfl, h1⟩ := rep_ifc hr
      exact .ifc (ih _ _ _ hl h1)
    · injection h with h; subst h
      obtain ⟨x, y, rfl, h1, h2⟩ := rep_fn hr
      cases h1; cases h2
      exact .fn (x := []) (y := []) .nil .nil
    · rename_i id i o
      split at h
      · rename_i h0
        subst h0
        split at h
        · rename_i t s es hget
          split at h
          · rename_i e he
            simp only [Option.map_eq_some_iff] at h
            obtain ⟨e', hrb, rfl⟩ := h
            obtain ⟨bl, hbl, rfl⟩ := rep_ptr hr
            obtain ⟨o1, o2, o3, o4⟩ := hs _ _ hget
            have hb := o4 bl hbl
            obtain ⟨h1, h2⟩ := elem_back ih hrb (rb_agg hrb) hb he (hB _ _ _ hget hbl)
            refine .tp h1 ?_
            intro h0
            rw [h0] at h2
            have := o2 e (List.mem_of_getElem? he)
            simp only [List.length_nil] at h2
            omega
          · cases h
        · cases h
      · cases h
    · rename_i sz id i k
      split at h
      · rename_i h0
        subst h0
        injection h with h; subst h
        rcases rep_sl hr with ⟨bl, cap, _, _, _, _, rfl⟩ | ⟨_, a, rfl⟩
        · exact .ts0
        · exact .ts0
      · rename_i h0
        split at h
        · rename_i t s es hget
          split at h
          · rename_i hik
            simp only [Option.map_eq_some_iff] at h
            obtain ⟨l, hl, rfl⟩ := h
            rcases rep_sl hr with ⟨bl, cap, hbl, hz, hkc, _, rfl⟩ | ⟨hk, _⟩
            · obtain ⟨o1, o2, o3, o4⟩ := hs _ _ hget
              have hb := o4 bl hbl
              have hbs : bl.sz = s := hb.1
              subst hbs
              obtain ⟨h1, h2⟩ := els_back ih (fun e e' => rb_agg) hb o2 o1 (hB _ _ _ hget hbl) k i hik hl
              have := RepT.ts (cap := cap) h1 (by omega)
              rw [h2] at this
              exact this
            · exact absurd hk h0
          · cases h
        · cases h
    · cases h
theorem rbN_ok (hs : ∀ id o, m.get id = some o → ObjOk β O w id o) (hB : ∀ id o bl, m.get id = some o → β id = some bl → ¬ O2 bl.b) : ∀ (n : Nat) (v v' : AV) (u : Value), rbN m n v = some v' → Rep β O w v u → RepT O2 w v' u
  | 0, _, _, _, h, _ => by cases h
  | n + 1, v, v', u, h, hr => by
    have ih := rbN_ok hs hB n
    unfold rbN at h
    split at h
    · injection h with h; subst h; rw [rep_int hr]; exact .int
    · injection h with h; subst h; rw [rep_bool hr]; exact .bool
    · injection h with h; subst h; rw [rep_str hr]; exact .str
    · injection h with h; subst h; rw [rep_nilp hr]; exact .nilp
    · injection h with h; subst h; rw [rep_nils hr]; exact .ts0
    · injection h with h; subst h; rw [rep_nilf hr]; exact .nilf
    · injection h with h; subst h; rw [rep_nili hr]; exact .nili
    · injection h with h; subst h; rw [rep_nilm hr]; exact .nilm
    · injection h with h; subst h
      cases hr with
      | tree hr => cases hr with
        | ts h l => exact .ts .nil (Nat.zero_le _)
        | ts0 => exact .ts0
    · simp only [Option.map_eq_some_iff] at h
      obtain ⟨l, hl, rfl⟩ := h
      obtain ⟨vs, rfl, h1, h2⟩ := rep_agg hr
      exact .agg (rbL_ok ih hl h1) h2
    · simp only [Option.map_eq_some_iff] at h
      obtain ⟨l, hl, rfl⟩ := h
      obtain ⟨vs, rfl, h1⟩ := rep_tup hr
      exact .tup (rbL_ok ih hl h1)
    · simp only [Option.map_eq_some_iff] at h
      obtain ⟨l, hl, rfl⟩ := h
      obtain ⟨x, rfl, h1⟩ := rep_ifc hr
      exact .ifc (ih _ _ _ hl h1)
    · injection h with h; subst h
      obtain ⟨x, y, rfl, h1, h2⟩ := rep_fn hr
      cases h1; cases h2
      exact .fn (x := []) (y := []) .nil .nil
    · rename_i id i o
      split at h
      · rename_i h0
        subst h0
        split at h
        · rename_i t s es hget
          split at h
          · rename_i e he
            simp only [Option.map_eq_some_iff] at h
            obtain ⟨e', hrb, rfl⟩ := h
            obtain ⟨bl, hbl, rfl⟩ := rep_ptr hr
            obtain ⟨o1, o2, o3, o4⟩ := hs _ _ hget
            have hb := o4 bl hbl
            obtain ⟨h1, h2⟩ := elem_back ih hrb (rbN_agg hrb) hb he (hB _ _ _ hget hbl)
            refine .tp h1 ?_
            intro h0
            rw [h0] at h2
            have := o2 e (List.mem_of_getElem? he)
            simp only [List.length_nil] at h2
            omega
          · cases h
        · cases h
      · cases h
    · rename_i sz id i k
      split at h
      · rename_i h0
        subst h0
        injection h with h; subst h
        rcases rep_sl hr with ⟨bl, cap, _, _, _, _, rfl⟩ | ⟨_, a, rfl⟩
        · exact .ts0
        · exact .ts0
      · rename_i h0
        split at h
        · rename_i t s es hget
          split at h
          · rename_i hik
            simp only [Option.map_eq_some_iff] at h
            obtain ⟨l, hl, rfl⟩ := h
            rcases rep_sl hr with ⟨bl, cap, hbl, hz, hkc, _, rfl⟩ | ⟨hk, _⟩
            · obtain ⟨o1, o2, o3, o4⟩ := hs _ _ hget
              have hb := o4 bl hbl
              have hbs : bl.sz = s := hb.1
              subst hbs
              obtain ⟨h1, h2⟩ := els_back ih (fun e e' => rbN_agg) hb o2 o1 (hB _ _ _ hget hbl) k i hik hl
              have := RepT.ts (cap := cap) h1 (by omega)
              rw [h2] at this
              exact this
            · exact absurd hk h0
          · cases h
        · cases h
    · cases h
theorem rbN_flatL {n : Nat} (ih : ∀ v v', rb m n v = some v' → flatV n v' = true → rbN m n v = some v') : ∀ {l l' : List AV}, rbL (rb m n) l = some l' → flatL (flatV n) l' = true → rbL (rbN m n) l = some l'
  | [], l', h, _ => h
  | v :: l, l', h, hf => by
    simp only [rbL, Option.bind_eq_some_iff, Option.map_eq_some_iff] at h ⊢
    obtain ⟨v', hv, t, ht, rfl⟩ := h
    simp only [flatL, Bool.and_eq_true] at hf
    exact ⟨v', ih _ _ hv hf.1, t, rbN_flatL ih ht hf.2, rfl⟩
theorem rbN_flat : ∀ (n : Nat) (v v' : AV), rb m n v = some v' → flatV n v' = true → rbN m n v = some v'
  | 0, _, _, h, _ => by cases h
  | n + 1, v, v', h, hf => by
    have ih := rbN_flat n
    unfold rb at h
    unfold rbN
    split at h <;> try exact h
    · injection h with h; subst h; cases hf
    · rename_i s es
      injection h with h; subst h
      cases es with
      | nil => rfl
      | cons x y => cases hf
    · simp only [Option.map_eq_some_iff] at h ⊢
      obtain ⟨l, hl, rfl⟩ := h
      exact ⟨l, rbN_flatL ih hl hf, rfl⟩
    · simp only [Option.map_eq_some_iff] at h ⊢
      obtain ⟨l, hl, rfl⟩ := h
      exact ⟨l, rbN_flatL ih hl hf, rfl⟩
    · simp only [Option.map_eq_some_iff] at h ⊢
      obtain ⟨l, hl, rfl⟩ := h
      exact ⟨l, ih _ _ hl hf, rfl⟩
    · split at h
      · split at h
        · split at h
          · simp only [Option.map_eq_some_iff] at h
            obtain ⟨l, hl, rfl⟩ := h
            cases hf
          · cases h
        · cases h
      · cases h
    · split at h
      · rename_i h0
        simp only [h0, if_true]
        exact h
      · rename_i h0
        split at h
        · split at h
          · simp only [Option.map_eq_some_iff] at h
            obtain ⟨l, hl, rfl⟩ := h
            cases l with
            | nil =>
              have := (rbL_get hl).1
              simp only [List.length_nil, List.length_take, List.length_drop] at this
              omega
            | cons x y => cases hf
          · cases h
        · cases h
    · cases h
theorem rbL_mono {m2 : AMem} {n : Nat} (ih : ∀ v v', rb m n v = some v' → rb m2 n v = some v') : ∀ {l l' : List AV}, rbL (rb m n) l = some l' → rbL (rb m2 n) l = some l'
  | [], l', h => h
  | v :: l, l', h => by
    simp only [rbL, Option.bind_eq_some_iff, Option.map_eq_some_iff] at h ⊢
    obtain ⟨v', hv, t, ht, rfl⟩ := h
    exact ⟨v', ih _ _ hv, t, rbL_mono ih ht, rfl⟩
theorem rb_mono {m2 : AMem} (hm : MLe m m2) : ∀ (n : Nat) (v v' : AV), rb m n v = some v' → rb m2 n v = some v'
  | 0, _, _, h => h
  | n + 1, v, v', h => by
    have ih := rb_mono hm n
    unfold rb at h ⊢
    split at h <;> try exact h
    · simp only [Option.map_eq_some_iff] at h ⊢
      obtain ⟨l, hl, rfl⟩ := h
      exact ⟨l, rbL_mono ih hl, rfl⟩
    · simp only [Option.map_eq_some_iff] at h ⊢
      obtain ⟨l, hl, rfl⟩ := h
      exact ⟨l, rbL_mono ih hl, rfl⟩
    · simp only [Option.map_eq_some_iff] at h ⊢
      obtain ⟨l, hl, rfl⟩ := h
      exact ⟨l, ih _ _ hl, rfl⟩
    · split at h
      · rename_i h0
        simp only [h0, if_true]
        split at h
        · rename_i hget
          rw [hm _ _ hget]
          simp only
          split at h
          · rename_i he
            simp only [Option.map_eq_some_iff] at h ⊢
            obtain ⟨l, hl, rfl⟩ := h
            exact ⟨l, ih _ _ hl, rfl⟩
          · cases h
        · cases h
      · cases h
    · split at h
      · rename_i h0
        simp only [h0, if_true]
        exact h
      · rename_i h0
        simp only [h0, if_false]
        split at h
        · rename_i hget
          rw [hm _ _ hget]
          simp only
          split at h
          · rename_i hik
            simp only [hik, if_true]
            simp only [Option.map_eq_some_iff] at h ⊢
            obtain ⟨l, hl, rfl⟩ := h
            exact ⟨l, rbL_mono ih hl, rfl⟩
          · cases h
        · cases h
theorem flatL_ok {O' : Nat → Prop} {w' : World} {f : AV → Bool} (hf : ∀ v u, f v = true → RepT O w v u → RepT O' w' v u) : ∀ {l : List AV} {us : List Value}, flatL f l = true → RepTL O w l us → RepTL O' w' l us
  | [], _, _, .nil => .nil
  | v :: l, _, h, .cons a b => by
    simp only [flatL, Bool.and_eq_true] at h
    exact .cons (hf _ _ h.1 a) (flatL_ok hf h.2 b)
theorem flat_ok {O' : Nat → Prop} {w' : World} : ∀ (n : Nat) (v : AV) (u : Value), flatV n v = true → RepT O w v u → RepT O' w' v u
  | 0, _, _, h, _ => by cases h
  | n + 1, v, u, h, hr => by
    have ih := flat_ok (O' := O') (w' := w') n
    unfold flatV at h
    split at h <;> first
      | cases hr with | int => exact .int
      | cases hr with | bool => exact .bool
      | cases hr with | str => exact .str
      | cases hr with | nilp => exact .nilp
      | cases hr with | nilf => exact .nilf
      | cases hr with | nili => exact .nili
      | cases hr with | nilm => exact .nilm
      | (cases hr with
          | ts h l => exact .ts .nil (Nat.zero_le _)
          | ts0 => exact .ts0)
      | cases hr with | agg a b => exact .agg (flatL_ok ih h a) b
      | cases hr with | tup a => exact .tup (flatL_ok ih h a)
      | cases hr with | ifc a => exact .ifc (ih _ _ h a)
      | (cases hr with | fn a b => cases a; cases b; exact .fn .nil .nil)
      | cases h
end
end Go.Proofs.YtiijjopdhjpalaaDoor

/-! All functions of a program, as the abstract evaluator has them. Conditions: none. -/
namespace Go.Proofs.YtiijjopdhjpalaaDoor
open Go
set_option linter.unusedVariables false
set_option linter.unusedSimpArgs false
section
variable {P : Program} {β : Nat → Option Blk} {O O2 : Nat → Prop} {w : World} {m : AMem}
theorem Sim.world (h : Sim β O w m) {w' : World} (hsz : w.heap.size ≤ w'.heap.size ∧ w'.os = w.os ∧ w'.output = w.output) (hh : ∀ b, b < w.heap.size → w'.heap[b]? = w.heap[b]?) : Sim β O w' m := by
  have kp : Keeps O w O w' := ⟨hsz, fun b hb ho => ⟨ho, hh b hb⟩⟩
  refine ⟨fun id o ho => ?_, h.inj, h.fresh, fun b hb => Nat.lt_of_lt_of_le (h.bound b hb) hsz.1, h.glob.keep kp⟩
  have := h.objs id o ho
  cases o with
  | arr t sz es =>
    refine ⟨this.1, this.2.1, this.2.2.1, fun bl hb => ?_⟩
    have hO := (this.2.2.2 bl hb).2.1
    exact (this.2.2.2 bl hb).step (.refl _) kp hO (hh _ (h.bound _ hO))
  | map es => exact this.elim
def noBlk : Nat → Option Blk := fun _ => none
def noOwn : Nat → Prop := fun _ => False
theorem sim_empty {w : World} (h : GlobOk noOwn w) : Sim noBlk noOwn w .empty :=
  ⟨fun id o h => (nomatch h), fun i j oi oj bi bj h => (nomatch h), fun _ _ => rfl, fun _ h => h.elim, h⟩
theorem endOk_callOk {g : Nat} {F F' : AF} (h : CallOk P g F)
    (go : ∀ β O w m args us o m', Sim β O w m → RepL β O w args us → F' args m = some (o, m') →
      ∃ β0 O0 m0 args0 o0 m0', Sim β0 O0 w m0 ∧ RepL β0 O0 w args0 us ∧ F args0 m0 = some (o0, m0') ∧ ∀ en w', EndOk β0 O0 w m0 o0 m0' en w' → EndOk β O w m o m' en w') : CallOk P g F' := by
  intro β O w m args us o m' hs hr hF
  obtain ⟨β0, O0, m0, args0, o0, m0', h1, h2, h3, h4⟩ := go β O w m args us o m' hs hr hF
  rcases h β0 O0 w m0 args0 us o0 m0' h1 h2 h3 with ⟨a, b⟩ | ⟨u, w', a, b⟩
  · exact .inl ⟨a, Calls.mono b (fun en w' => h4 en w')⟩
  · exact .inr ⟨u, w', a, h4 (.returned u) w' b⟩
theorem borrow_ok {g : Nat} {F : AF} (h : CallOk P g F) : CallOk P g (borrow F) := by
  refine endOk_callOk h fun β O w m args us o m' hs hr hF => ?_
  unfold borrow at hF
  split at hF
  · cases hF
  · rename_i targs hta
    split at hF
    · rename_i v m2 hv
      split at hF
      · rename_i v' hv'
        injection hF with hF
        injection hF with e1 e2
        subst e1 e2
        have ht : RepTL noOwn w targs us := rbL_ok (fun v v' u => rb_ok (O2 := noOwn) (fun _ h => h.elim) hs.objs (fun _ _ _ _ _ h => h.elim) RBN v v' u) hta hr
        refine ⟨noBlk, noOwn, .empty, targs, .ret v, m2, sim_empty (hs.glob.keep (keeps_sub fun _ h => h.elim)), ht.toL, hv, fun en w' hen => ?_⟩
        cases en with
        | returned u =>
          obtain ⟨v2, β', O', e, st, hs', hrep⟩ := hen
          injection e with e
          subst e
          have hT : RepT O w' v' u := rbN_ok hs'.objs (fun id o bl h1 h2 h3 => (st.keeps.2 _ (hs.bound _ h3) (fun h => h)).1 (hs'.cellsNe h1 h2)) RBN _ _ _ hv' hrep
          have hh : ∀ b, b < w.heap.size → w'.heap[b]? = w.heap[b]? := fun b hb => (st.keeps.2 b hb (fun h => h)).2
          exact ⟨v', β, O, rfl, ⟨.refl _, ⟨st.keeps.1, fun b hb ho => ⟨ho, hh b hb⟩⟩, Nat.le_refl _, fun _ _ _ => rfl⟩, hs.world st.keeps.1 hh, .tree hT⟩
        | panicked chain =>
          obtain ⟨v2, u, β', O', e, _⟩ := hen
          cases e
        | outgrown => exact hen.elim
      · cases hF
    · cases hF
theorem borrow_pure (F : AF) : PureF (borrow F) := by
  refine ⟨fun args m o m' hF => ?_, fun args m m2 v hm hF => ?_⟩
  · unfold borrow at hF
    split at hF
    · cases hF
    · split at hF
      · split at hF
        · injection hF with hF
          injection hF with e1 e2
          exact ⟨e2.symm, _, e1.symm⟩
        · cases hF
      · cases hF
  · unfold borrow at hF ⊢
    split at hF
    · cases hF
    · rename_i targs hta
      rw [rbL_mono (rb_mono hm RBN) hta]
      simp only
      split at hF
      · rename_i v2 m3 hv
        split at hF
        · rename_i v' hv'
          injection hF with hF
          injection hF with e1 e2
          simp only [e1]
        · cases hF
      · cases hF
theorem borrow_good (F : AF) : Good (borrow F) := fun args m o m' h => by
  obtain ⟨rfl, _⟩ := (borrow_pure F).same _ _ _ _ h
  exact .refl _ _
/-- What is new is let go. -/
theorem drop_ok {β' O' w' m'} (st : Stp β O w m m.next β' O' w' m') (hs : Sim β' O' w' m') {v v' : AV} {u : Value} (hrep : Rep β' O' w' v u) (hv : rb (m'.news m.next) RBN v = some v') :
    ∃ O'', Stp β O w m m.next β' O'' w' (m'.only m.next) ∧ Sim β' O'' w' (m'.only m.next) ∧ Rep β' O'' w' v' u := by
  let O'' : Nat → Prop := fun b => O' b ∧ ¬ ∃ id o bl, m.next ≤ id ∧ m'.get id = some o ∧ β' id = some bl ∧ bl.b = b
  have sub : ∀ b, O'' b → O' b := fun b h => h.1
  have kp : Keeps O' w' O'' w' := keeps_sub sub
  have hget : ∀ id o, (m'.only m.next).get id = some o → id < m.next ∧ m'.get id = some o := by
    intro id o h
    simp only [AMem.only] at h
    split at h
    · exact ⟨by assumption, h⟩
    · cases h
  have hnew : ∀ id o, (m'.news m.next).get id = some o → m.next ≤ id ∧ m'.get id = some o := by
    intro id o h
    simp only [AMem.news] at h
    split at h
    · exact ⟨by assumption, h⟩
    · cases h
  refine ⟨O'', ⟨st.goes, st.keeps.trans kp, st.next, st.old⟩, ⟨fun id o ho => ?_, ?_, hs.fresh, fun b hb => hs.bound b hb.1, hs.glob.keep kp⟩, ?_⟩
  · obtain ⟨h1, h2⟩ := hget id o ho
    have := hs.objs id o h2
    cases o with
    | arr t sz es =>
      refine ⟨this.1, this.2.1, this.2.2.1, fun bl hb => ?_⟩
      refine (this.2.2.2 bl hb).step (.refl _) kp ⟨(this.2.2.2 bl hb).2.1, ?_⟩ rfl
      rintro ⟨id2, o2, bl2, h3, h4, h5, h6⟩
      have := hs.inj id id2 _ _ bl bl2 h2 h4 hb h5 h6.symm
      omega
    | map es => exact this.elim
  · intro i j oi oj bi bj hi hj
    exact hs.inj i j oi oj bi bj (hget _ _ hi).2 (hget _ _ hj).2
  · exact .tree (rb_ok (m := m'.news m.next) sub (fun id o h => hs.objs id o (hnew id o h).2) (fun id o bl h1 h2 h3 => h3.2 ⟨id, o, bl, (hnew id o h1).1, (hnew id o h1).2, h2, rfl⟩) RBN _ _ _ hv hrep)
theorem dropped_ok {g : Nat} {F : AF} (h : CallOk P g F) : CallOk P g (dropped F) := by
  refine endOk_callOk h fun β O w m args us o m' hs hr hF => ?_
  unfold dropped at hF
  split at hF
  · rename_i v m2 hv
    split at hF
    · rename_i v' hv'
      injection hF with hF
      injection hF with e1 e2
      subst e1 e2
      refine ⟨β, O, m, args, .ret v, m2, hs, hr, hv, fun en w' hen => ?_⟩
      cases en with
      | returned u =>
        obtain ⟨v2, β', O', e, st, hs', hrep⟩ := hen
        injection e with e
        subst e
        obtain ⟨O'', a, b, c⟩ := drop_ok st hs' hrep hv'
        exact ⟨v', β', O'', rfl, a, b, c⟩
      | panicked chain =>
        obtain ⟨v2, u, β', O', e, _⟩ := hen
        cases e
      | outgrown => exact hen.elim
    · cases hF
  · rename_i v m2 hv
    split at hF
    · rename_i v' hv'
      injection hF with hF
      injection hF with e1 e2
      subst e1 e2
      refine ⟨β, O, m, args, .pan v, m2, hs, hr, hv, fun en w' hen => ?_⟩
      cases en with
      | returned u =>
        obtain ⟨v2, β', O', e, _⟩ := hen
        cases e
      | panicked chain =>
        obtain ⟨v2, u, β', O', e, hch, st, hs', hrep⟩ := hen
        injection e with e
        subst e
        obtain ⟨O'', a, b, c⟩ := drop_ok st hs' hrep hv'
        exact ⟨v', u, β', O'', rfl, hch, a, b, c⟩
      | outgrown => exact hen.elim
    · cases hF
  · cases hF
theorem dropped_good {F : AF} (h : Good F) : Good (dropped F) := by
  intro args m o m' hF
  have key : ∀ o2 m2, F args m = some (o2, m2) → Grows m (m2.only m.next) m.next := fun o2 m2 hv => by
    have := h _ _ _ _ hv
    refine ⟨this.1, fun id hid hne hn => ?_⟩
    show (if id < m.next then m2.get id else none) = none
    rw [if_pos hid]
    exact this.2 id hid hne hn
  unfold dropped at hF
  split at hF
  · rename_i v m2 hv
    split at hF
    · injection hF with hF
      injection hF with e1 e2
      subst e2
      exact key _ _ hv
    · cases hF
  · rename_i v m2 hv
    split at hF
    · injection hF with hF
      injection hF with e1 e2
      subst e2
      exact key _ _ hv
    · cases hF
  · cases hF
theorem enter_run {P : Program} {f : Nat} {fn : Func} (hf : P.funcs[f]? = some fn) (hb : fn.body.isNone = false) (hname : (fn.name == "runtime.NumGoroutine") = false) (args : Array Value) (w : World) : (callFunc f args).run P w = .ok (.enter f args) w := by
  have hn' : ¬ fn.name = "runtime.NumGoroutine" := by simpa using hname
  cases hbb : fn.body with
  | none => rw [hbb] at hb; cases hb
  | some c => simp [callFunc, hf, hn', hbb, Sem.run_bind]
/-- The functions of a table are the program's. -/
structure CfgOk (P : Program) (pf : Nat → Bool) (c : Cfg) : Prop where
  plug : ∀ g F, c.plug g = some F → ∀ calls : Nat → AF, (∀ g, CallOk P g (calls g)) → (∀ g, Good (calls g)) → (∀ g, pf g = true → PureF (calls g)) → CallOk P g (F calls) ∧ Good (F calls) ∧ (pf g = true → PureF (F calls))
  code : ∀ g af, c.plug g = none → c.code g = some af → ∃ fn, P.funcs[g]? = some fn ∧ cFun P pf fn = some af ∧ (fn.name == "runtime.NumGoroutine") = false
  pol : ∀ g, pf g = true → c.plug g = none → c.pol g = .pure
theorem sound {pf : Nat → Bool} {c : Cfg} (h : CfgOk P pf c) (hm : P.follows .mixedOrders = true) : ∀ n, (∀ g, CallOk P g (callsN c n g)) ∧ (∀ g, Good (callsN c n g)) ∧ ∀ g, pf g = true → PureF (callsN c n g)
  | 0 => ⟨fun g β O w m args us o m' _ _ hF => (nomatch hF), fun g args m o m' hF => (nomatch hF), fun g _ => ⟨fun args m o m' hF => (nomatch hF), fun args m m2 v _ hF => (nomatch hF)⟩⟩
  | n + 1 => by
    obtain ⟨ih1, ih2, ih3⟩ := sound h hm n
    have all : ∀ g, CallOk P g (callsN c (n + 1) g) ∧ Good (callsN c (n + 1) g) ∧ (pf g = true → PureF (callsN c (n + 1) g)) := by
      intro g
      unfold callsN
      cases hp : c.plug g with
      | some F => exact h.plug g F hp _ ih1 ih2 ih3
      | none =>
        simp only
        cases hc : c.code g with
        | none => exact ⟨fun β O w m args us o m' _ _ hF => (nomatch hF), fun args m o m' hF => (nomatch hF), fun _ => ⟨fun args m o m' hF => (nomatch hF), fun args m m2 v _ hF => (nomatch hF)⟩⟩
        | some af =>
          obtain ⟨fn, h1, h2, h3⟩ := h.code g af hp hc
          have hbody := fun_ok ih1 ih2 ih3 hm h1 h2 h3
          have hgood := aBody_good ih2 af
          simp only
          cases hpol : c.pol g with
          | keep => exact ⟨hbody, hgood, fun hpf => by rw [h.pol g hpf hp] at hpol; cases hpol⟩
          | drop => exact ⟨dropped_ok hbody, dropped_good hgood, fun hpf => by rw [h.pol g hpf hp] at hpol; cases hpol⟩
          | pure => exact ⟨borrow_ok hbody, borrow_good _, fun _ => borrow_pure _⟩
    exact ⟨fun g => (all g).1, fun g => (all g).2.1, fun g => (all g).2.2⟩
end
end Go.Proofs.YtiijjopdhjpalaaDoor
