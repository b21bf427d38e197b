/- What image.Decode answers. Conditions: none. -/
import Derived.Test.YtiijjopdhjpalaaDoorMn
import Derived.Test.YtiijjopdhjpalaaDoorMm
/-! Reading an image, in the program: the list of types whole. Conditions: none. -/
namespace Go.Proofs.YtiijjopdhjpalaaDoor
open Go
set_option linter.unusedSimpArgs false
set_option linter.unusedVariables false
theorem borrow_any {F : AF} {args targs : List AV} {m m0 : AMem} {v : AV} (hT : rbL (rb m0 RBN) targs = some targs) (h : borrow F targs m0 = some (.ret v, m0)) (hr : rbL (rb m RBN) args = some targs) : borrow F args m = some (.ret v, m) := by
  simp only [borrow, hT] at h
  simp only [borrow, hr]
  cases hF : F targs .empty with
  | none => rw [hF] at h; cases h
  | some x =>
    obtain ⟨o, m'⟩ := x
    rw [hF] at h
    cases o with
    | pan v => cases h
    | ret u =>
      simp only at h ⊢
      cases hn : rbN m' RBN u with
      | none => rw [hn] at h; cases h
      | some v' =>
        rw [hn] at h
        simp only [Option.some.injEq, Prod.mk.injEq, AOut.ret.injEq] at h ⊢
        exact ⟨h.1, trivial⟩
theorem tr_in {l : List GT} (h : (tr l).2 ≠ 0) (hl : l.length ≤ 60) : 0 ≤ (tr l).1 ∧ (tr l).1 < l.length := by
  unfold tr at h ⊢
  rw [if_neg (by omega)] at h ⊢
  cases hf : l.findIdx? (fun x => decide (wrT l x ≠ 0)) with
  | none => rw [hf] at h; exact absurd rfl h
  | some i =>
    have := (List.findIdx?_eq_some_iff_findIdx_eq.1 hf).1
    simp only
    omega
theorem sp_Right_rb (n : Nat) (l : List GT) {m : AMem} {v : AV} (hl : ∀ x ∈ l, x.wf) (hv : rb m RBN v = some (tsl 3 (l.map GT.av))) : callsN cfg (n + 4) 29 [v] m = some (.ret (.tup [avI (tr l).1, avI (tr l).2]), m) := by
  have h := sp_Right n l .empty hl
  rw [ce29] at h ⊢
  exact borrow_any (by simp only [go_sem]) h (by rw [yrbL_cons, hv]; rfl)
theorem vty_wf {n : Int} (hn : n ≤ 100) {x : GT} (h : vty n x) : x.wf := by
  have hm : maxLen = 9223372036854775807 := rfl
  have i6 : ∀ z : Int, -9223372036854775808 ≤ z → z ≤ 9223372036854775807 → i64 z := fun z a b => i64_iff.2 ⟨a, b⟩
  unfold vty at h
  rcases h with ⟨h1, h2, h3, h4⟩ | ⟨h1, h2, h3, h4⟩ | ⟨h1, h2, h4⟩
  · exact ⟨i6 _ (by omega) (by omega), by omega, fun z hz => i6 _ (by have := h3 z hz; omega) (by have := h3 z hz; omega), i6 _ (by omega) (by omega)⟩
  · exact ⟨i6 _ (by omega) (by omega), by omega, fun z hz => i6 _ (by have := h3 z hz; omega) (by have := h3 z hz; omega), i6 _ (by omega) (by omega)⟩
  · refine ⟨i6 _ (by omega) (by omega), by rw [h2]; simp, fun z hz => ?_, i6 _ (by omega) (by omega)⟩
    rw [h2] at hz
    cases hz
theorem call_eq {calls : Nat → AF} {base : Nat} {dst : Option Nat} {rest : List AOper} {env : AEnv} {m : AMem} {K : Kont} {Q : AOut → AMem → Prop} {res : Res} {v : AV} (h : res = some (.ret v, m)) (hk : Wp (aOps calls base rest (upd env dst v) m K) Q) : Wp (opK calls base dst rest env K (call? res)) Q := by
  rw [h]
  exact hk
theorem rep_wf {b : List Int} (hb : BB b) {N : Nat} (hN : N ≤ 60) {i k : Nat} {xs : List (GT × Nat)} (h : prep (ptype N) N b i = .ok xs k) : ∀ x ∈ xs.map (·.1), x.wf := by
  have h1 : prep (pmap (·.1) (ptype N)) N b i = .ok (xs.map (·.1)) k := by
    rw [rep_map]
    exact map_ok.2 ⟨xs, h, rfl⟩
  have h2 := ((rep_ok (fun i a j => type_ok hb (n := (N : Int)) (by omega)) N).1 h1).2.1
  exact fun x hx => vty_wf (by omega) (h2 x hx)
theorem ptypes_bad {b : List Int} {j k : Nat} {e : Int} (h : pnumber 61 5 b j = .bad k e) : ptypes b j = .bad k e := pb_bad h
theorem ptypes_bad2 {b : List Int} {j i k : Nat} {a e : Int} (h : pnumber 61 5 b j = .ok a i) (h2 : prep (ptype a) a.toNat b i = .bad k e) : ptypes b j = .bad k e := by
  show pbind (pnumber 61 5) _ b j = _
  rw [pb_ok h]
  exact pb_bad h2
theorem ptypes_ok {b : List Int} {j i k : Nat} {a : Int} {xs : List (GT × Nat)} (h : pnumber 61 5 b j = .ok a i) (h2 : prep (ptype a) a.toNat b i = .ok xs k) : ptypes b j = (if (tr (xs.map (·.1))).2 = 0 then ppure (xs.map (·.1)) else pfail (nth xs (tr (xs.map (·.1))).1).2 (tr (xs.map (·.1))).2 : Par (List GT)) b k := by
  show pbind (pnumber 61 5) _ b j = _
  rw [pb_ok h]
  exact pb_ok h2
section
variable {m : AMem} {dc r id : Nat} {b : List Int} {j : Nat} {fs : AV} {nf : Int}
set_option maxHeartbeats 4000000 in
theorem sp_list (n : Nat) (hb : BB b) (hl : b.length ≤ 1048576) (hd : DD m dc r .nils fs .nilp nf) (hR : RD m r id b j 0 0) :
    Wp (callsN cfg (n + 7) 44 [.ptr dc 0 0] m) (PQ (fun x => x = r ∨ x = dc) m r id b (ptypes b j) fun ts v m' => v = .tup [] ∧ ∃ tv like, DD m' dc r tv fs (TT (T0 ts) like) nf ∧ TL m' tv ts ∧ ∀ y, SId tv y → m.next ≤ y) := by
  have n1 := hd.ne
  rw [ce44]
  unfold aBody cf44
  repeat' (first | simp -implicitDefEqProofs (disch := first | exact soD | fail) only [go_sem, ↓reduceIte, Nat.reduceEqDiff, Nat.reduceAdd, Nat.reduceLT, Nat.reduceLeDiff, Nat.reduceBEq, reduceCtorEq] | ((with_reducible first | refine g_dec ?_ ?_ | refine c_dec ?_ ?_ | refine s_dec ?_ ?_ | refine g_ndec ?_ ?_ | refine c_ndec ?_ ?_ | refine g_nbool ?_ ?_ | refine c_nbool ?_ ?_ | refine g_bool ?_ ?_ | refine c_bool ?_ ?_ | refine s_bool ?_ ?_) <;> intro h d <;> (try simp only [d]) <;> (try simp only [B1, B2, B3, B4, B5, B6, B7, B8] at h) <;> (try omega)))
  refine call_pr (sp_number (n + 3) (by omega) (by omega) (by decide) hb hl (hd.grow frA) (hR.grow frA)) (fun a k v m1 hx f1 hv R1 => ?_) (fun k e m1 hx f1 => ?_)
  · subst hv
    obtain ⟨a0, a1⟩ := number_bd hb hx
    obtain ⟨N, rfl⟩ : ∃ N : Nat, a = (N : Int) := ⟨a.toNat, by omega⟩
    have F : Fr (fun x => x = r) m m1 := Fr.trans frA f1
    have f1n := f1.next
    simp only [room_next, put_next] at f1n
    have F' : Fr (fun x => x = r ∨ x = dc) m m1 := F.mono fun _ _ h => .inl h
    repeat' (first | simp -implicitDefEqProofs (disch := first | exact soD | fail) only [go_sem, ↓reduceIte, Nat.reduceEqDiff, Nat.reduceAdd, Nat.reduceLT, Nat.reduceLeDiff, Nat.reduceBEq, reduceCtorEq] | ((with_reducible first | refine g_dec ?_ ?_ | refine c_dec ?_ ?_ | refine s_dec ?_ ?_ | refine g_ndec ?_ ?_ | refine c_ndec ?_ ?_ | refine g_nbool ?_ ?_ | refine c_nbool ?_ ?_ | refine g_bool ?_ ?_ | refine c_bool ?_ ?_ | refine s_bool ?_ ?_) <;> intro h d <;> (try simp only [d]) <;> (try simp only [B1, B2, B3, B4, B5, B6, B7, B8] at h) <;> (try omega)))
    refine list_loop (m := m) (dc := dc) (r := r) (id := id) (b := b) (fs := fs) (tb := .nilp) (nf := nf) n (N := N) (by omega) hb hl (q := m1.next + 1) (X := prep (ptype N) N b k) (s0 := ([], k))
      { len := by simp, par := by rw [pcat_nil]; rfl, fr := frA, rd := R1.grow frA, dd := ⟨.nils, (fun y ⟨_, _, _, h⟩ => by cases h), (hd.frame F n1).grow frA, .inl ⟨rfl, rfl⟩⟩
        q0 := by omega, q1 := soA, pl := ?_, e0 := sxA, e2 := sxA, e3 := sxA, e13 := sxA, e14 := by simp -implicitDefEqProofs (disch := first | exact soD | fail) only [go_sem, ↓reduceIte, Nat.reduceEqDiff, Nat.reduceAdd, Nat.reduceLT, Nat.reduceLeDiff, Nat.reduceBEq, reduceCtorEq] <;> rfl } (fun xs i env w hX hlen I => ?_) (fun k e env w hX f => ?_)
    · simp -implicitDefEqProofs (disch := first | exact soD | fail) only [go_sem, ↓reduceIte, Nat.reduceEqDiff, Nat.reduceAdd, Nat.reduceLT, Nat.reduceLeDiff, Nat.reduceBEq, reduceCtorEq]
      simp [places]
    · obtain ⟨_, _, f, R, ⟨tv, hy, D, T⟩, q0, q1, gq, e0, e2, e3, _, _⟩ := I
      simp only at T R gq
      have T' : TL w tv (xs.map (·.1)) := SV.frame T (S := fun _ => False) Fr.refl off_none fun _ _ h => h.1
      have hw := rep_wf hb (by omega) hX
      have py := ptypes_ok hx (by rw [Int.toNat_natCast]; exact hX)
      generalize hts : xs.map (·.1) = ts at T' hw py
      have gd := D.dd
      have ld := D.ld
      obtain ⟨_, O, _, _⟩ := T'.ov
      obtain ⟨o1, o2, o3, o4, o5⟩ := O.flat
      unfold ls44_0
      by_cases ht : (tr ts).2 = 0
      · obtain ⟨like, hNew, _⟩ := sp_New_ok n ts hw ht
        rw [if_pos ht] at py
        repeat' (first | simp -implicitDefEqProofs (disch := first | exact soD | fail) only [go_sem, ↓reduceIte, Nat.reduceEqDiff, Nat.reduceAdd, Nat.reduceLT, Nat.reduceLeDiff, Nat.reduceBEq, reduceCtorEq, e0, e2, e3, gd, o1] | ((with_reducible first | refine g_dec ?_ ?_ | refine c_dec ?_ ?_ | refine s_dec ?_ ?_ | refine g_ndec ?_ ?_ | refine c_ndec ?_ ?_ | refine g_nbool ?_ ?_ | refine c_nbool ?_ ?_ | refine g_bool ?_ ?_ | refine c_bool ?_ ?_ | refine s_bool ?_ ?_) <;> intro h d <;> (try simp only [d]) <;> (try simp only [B1, B2, B3, B4, B5, B6, B7, B8] at h) <;> (try omega)))
        refine call_eq (hNew _ _ (TL.read (T'.frame (S := fun _ => False) frA off_none off_none) (isRb_rb _) 8)) ?_
        repeat' (first | simp -implicitDefEqProofs (disch := first | exact soD | fail) only [go_sem, ↓reduceIte, Nat.reduceEqDiff, Nat.reduceAdd, Nat.reduceLT, Nat.reduceLeDiff, Nat.reduceBEq, reduceCtorEq, Int.reduceEq, e0, e2, e3, gd, o1] | ((with_reducible first | refine g_dec ?_ ?_ | refine c_dec ?_ ?_ | refine s_dec ?_ ?_ | refine g_ndec ?_ ?_ | refine c_ndec ?_ ?_ | refine g_nbool ?_ ?_ | refine c_nbool ?_ ?_ | refine g_bool ?_ ?_ | refine c_bool ?_ ?_ | refine s_bool ?_ ?_) <;> intro h d <;> (try simp only [d]) <;> (try simp only [B1, B2, B3, B4, B5, B6, B7, B8] at h) <;> (try omega)))
        rw [py]
        exact PQ.ok frA ⟨rfl, tv, like, ⟨sxA, soA, n1⟩, T'.frame (S := fun x => x = dc) frA (off_eq gd (by decide)) (off_eq gd (by decide)), hy⟩ (R.frame (S := fun x => x = dc) frA (fun e => n1 e.symm) (D.nid R))
      · rw [if_neg ht] at py
        have d0 : decide ((tr ts).2 = 0) = false := decide_eq_false ht
        repeat' (first | simp -implicitDefEqProofs (disch := first | exact soD | fail) only [go_sem, ↓reduceIte, Nat.reduceEqDiff, Nat.reduceAdd, Nat.reduceLT, Nat.reduceLeDiff, Nat.reduceBEq, reduceCtorEq, e0, e2, e3, gd, o1] | ((with_reducible first | refine g_dec ?_ ?_ | refine c_dec ?_ ?_ | refine s_dec ?_ ?_ | refine g_ndec ?_ ?_ | refine c_ndec ?_ ?_ | refine g_nbool ?_ ?_ | refine c_nbool ?_ ?_ | refine g_bool ?_ ?_ | refine c_bool ?_ ?_ | refine s_bool ?_ ?_) <;> intro h d <;> (try simp only [d]) <;> (try simp only [B1, B2, B3, B4, B5, B6, B7, B8] at h) <;> (try omega)))
        refine call_eq (sp_New_no n ts hw ht _ _ (TL.read (T'.frame (S := fun _ => False) frA off_none off_none) (isRb_rb _) 8)) ?_
        repeat' (first | simp -implicitDefEqProofs (disch := first | exact soD | fail) only [go_sem, ↓reduceIte, Nat.reduceEqDiff, Nat.reduceAdd, Nat.reduceLT, Nat.reduceLeDiff, Nat.reduceBEq, reduceCtorEq, Int.reduceEq, e0, e2, e3, gd, o1, d0] | ((with_reducible first | refine g_dec ?_ ?_ | refine c_dec ?_ ?_ | refine s_dec ?_ ?_ | refine g_ndec ?_ ?_ | refine c_ndec ?_ ?_ | refine g_nbool ?_ ?_ | refine c_nbool ?_ ?_ | refine g_bool ?_ ?_ | refine c_bool ?_ ?_ | refine s_bool ?_ ?_) <;> intro h d <;> (try simp only [d]) <;> (try simp only [B1, B2, B3, B4, B5, B6, B7, B8] at h) <;> (try omega)))
        refine call_eq (sp_Right_rb (n + 2) ts hw (TL.read (T'.frame (S := fun x => x = dc) frA (off_eq gd (by decide)) (off_eq gd (by decide))) (isRb_rb _) 8)) ?_
        have htl : ts.length = N := by rw [← hts, List.length_map, hlen]
        obtain ⟨t0, t1⟩ := tr_in ht (by omega)
        have hpn := places_nth (xs := xs) (tr ts).1 t0 (by omega)
        have hpg := nth_get? (places xs N) (tr ts).1 t0 (by rw [places_len (by omega)]; omega)
        rw [hlen] at hpn
        rw [hpn] at hpg
        have hpl : ((places xs N).map avI)[(tr ts).1.toNat]? = some (avI ((nth xs (tr ts).1).2 : Int)) := by rw [List.getElem?_map, hpg]; rfl
        have gq' : ¬ (m1.next + 1 = dc) := fun e => by
          rw [e, gd] at gq
          cases gq
        repeat' (first | simp -implicitDefEqProofs (disch := first | exact soD | fail) only [go_sem, ↓reduceIte, Nat.reduceEqDiff, Nat.reduceAdd, Nat.reduceLT, Nat.reduceLeDiff, Nat.reduceBEq, reduceCtorEq, Int.reduceEq, e0, e2, e3, gq, hpl, gq', ce43, x_body, cf43] | ((with_reducible first | refine g_dec ?_ ?_ | refine c_dec ?_ ?_ | refine s_dec ?_ ?_ | refine g_ndec ?_ ?_ | refine c_ndec ?_ ?_ | refine g_nbool ?_ ?_ | refine c_nbool ?_ ?_ | refine g_bool ?_ ?_ | refine c_bool ?_ ?_ | refine s_bool ?_ ?_) <;> intro h d <;> (try simp only [d]) <;> (try simp only [B1, B2, B3, B4, B5, B6, B7, B8] at h) <;> (try omega)))
        rw [py]
        exact PQ.bad frA
    · rw [ptypes_bad2 hx (by rw [Int.toNat_natCast]; exact hX)]
      repeat' (first | simp -implicitDefEqProofs (disch := first | exact soD | fail) only [go_sem, ↓reduceIte, Nat.reduceEqDiff, Nat.reduceAdd, Nat.reduceLT, Nat.reduceLeDiff, Nat.reduceBEq, reduceCtorEq] | ((with_reducible first | refine g_dec ?_ ?_ | refine c_dec ?_ ?_ | refine s_dec ?_ ?_ | refine g_ndec ?_ ?_ | refine c_ndec ?_ ?_ | refine g_nbool ?_ ?_ | refine c_nbool ?_ ?_ | refine g_bool ?_ ?_ | refine c_bool ?_ ?_ | refine s_bool ?_ ?_) <;> intro h d <;> (try simp only [d]) <;> (try simp only [B1, B2, B3, B4, B5, B6, B7, B8] at h) <;> (try omega)))
      exact PQ.bad f
  · rw [ptypes_bad hx]
    repeat' (first | simp -implicitDefEqProofs (disch := first | exact soD | fail) only [go_sem, ↓reduceIte, Nat.reduceEqDiff, Nat.reduceAdd, Nat.reduceLT, Nat.reduceLeDiff, Nat.reduceBEq, reduceCtorEq] | ((with_reducible first | refine g_dec ?_ ?_ | refine c_dec ?_ ?_ | refine s_dec ?_ ?_ | refine g_ndec ?_ ?_ | refine c_ndec ?_ ?_ | refine g_nbool ?_ ?_ | refine c_nbool ?_ ?_ | refine g_bool ?_ ?_ | refine c_bool ?_ ?_ | refine s_bool ?_ ?_) <;> intro h d <;> (try simp only [d]) <;> (try simp only [B1, B2, B3, B4, B5, B6, B7, B8] at h) <;> (try omega)))
    exact PQ.bad ((Fr.trans frA f1 : Fr (fun x => x = r) m m1).mono fun _ _ h => .inl h)
end
end Go.Proofs.YtiijjopdhjpalaaDoor

/-! Reading an image, in the program: an instruction. Conditions: none. -/
namespace Go.Proofs.YtiijjopdhjpalaaDoor
open Go
set_option linter.unusedSimpArgs false
set_option linter.unusedVariables false
theorem sp_iKind (n : Nat) (op : Int) (hop : i64 op) (m : AMem) : callsN cfg (n + 3) 87 [avI op] m = some (.ret (avI (kindOf op)), m) := by
  rw [ce87]
  refine borrow_wp (targs := [avI op]) (by simp only [go_sem]) ?_ rfl
  unfold aBody cf87
  obtain ⟨s, t, l, v, h⟩ := sp_of (n := n) (op := op) hop
  repeat' (first | simp -implicitDefEqProofs (disch := first | exact soD | fail) only [go_sem, ↓reduceIte, Nat.reduceEqDiff, Nat.reduceAdd, Nat.reduceLT, Nat.reduceLeDiff, Nat.reduceBEq, reduceCtorEq, h] | ((with_reducible first | refine g_dec ?_ ?_ | refine c_dec ?_ ?_ | refine s_dec ?_ ?_ | refine g_ndec ?_ ?_ | refine c_ndec ?_ ?_ | refine g_nbool ?_ ?_ | refine c_nbool ?_ ?_ | refine g_bool ?_ ?_ | refine c_bool ?_ ?_ | refine s_bool ?_ ?_) <;> intro h d <;> (try simp only [d]) <;> (try simp only [B1, B2, B3, B4, B5, B6, B7, B8] at h) <;> (try omega)))
/-- Functions of which nothing is known. -/
def ZF (m : AMem) (fv : AV) (nf : Nat) : Prop := ∃ s, fv = .sl 4 s 0 nf ∧ s < m.next ∧ m.get s = some (.arr 48 4 (List.replicate nf (.agg [.nils, avI 0, avI 0, .nils])))
theorem ZF.frame {S : Nat → Prop} {m p : AMem} {fv : AV} {nf : Nat} (h : ZF m fv nf) (f : Fr S m p) (ho : Off S m 48) : ZF p fv nf := by
  obtain ⟨s, h1, h2, h3⟩ := h
  exact ⟨s, h1, Nat.lt_of_lt_of_le h2 f.next, f.get h3 h2 (ho _ _ _ h3)⟩
theorem ZF.flat {m : AMem} {fv : AV} {nf : Nat} (h : ZF m fv nf) : fv.isAgg = false ∧ fv.cells = [fv] ∧ fv.one = true ∧ fits false 1 fv = true := by
  obtain ⟨s, rfl, _⟩ := h
  exact ⟨rfl, rfl, rfl, rfl⟩
theorem ZF.read {m : AMem} {fv : AV} {nf : Nat} (h : ZF m fv nf) : rb m 11 fv = some (tsl 4 ((List.replicate nf (⟨[], 0, 0, []⟩ : GF)).map GF.av)) := by
  obtain ⟨s, rfl, h2, h3⟩ := h
  refine FL.read (n := 6) (l := List.replicate nf (⟨[], 0, 0, []⟩ : GF)) (.inr ⟨s, _, by rw [List.length_replicate], h2, h3, by simp, fun j a hj => ?_⟩) (isRb_rb m)
  obtain ⟨hl, ha⟩ := List.getElem?_eq_some_iff.1 hj
  rw [List.getElem_replicate] at ha
  subst ha
  exact ⟨_, by rw [List.getElem?_replicate, if_pos (by simpa using hl)], .nils, .nils, rfl, .inl ⟨rfl, rfl⟩, .inl ⟨rfl, rfl⟩⟩
theorem sp_iRight_rb (n : Nat) (all : List GT) (k : List Int) (nf : Nat) (lo co op a b : Int) (hp : ∀ x ∈ all, x.parts.length ≤ 1000) (hop : i64 op) {m : AMem} {fv : AV} (hv : ZF m fv nf) :
    callsN cfg (n + 3) 33 [.agg [avI op, avI a, avI b], .agg [TT all k, fv, avI lo, avI co]] m = some (.ret (.bool (ir (TK all) (TP all) nf lo co op a b)), m) := by
  have h := sp_iRight n all k (List.replicate nf (⟨[], 0, 0, []⟩ : GF)) lo co op a b hp hop .empty
  rw [List.length_replicate] at h
  rw [ce33] at h ⊢
  refine borrow_any (by simp only [go_sem]) h ?_
  have := hv.read
  simp only [RBN_eq, yrbL_cons, yrbL_nil, yrb_agg, yrb_int, yrb_tp, this, opt_bind, opt_map, show (12 : Nat) = 11 + 1 from rfl, show (11 : Nat) = 10 + 1 from rfl]
theorem pinstr_bad {ts : List GT} {nf lo co : Int} {b : List Int} {j k : Nat} {e : Int} (h : pbyte b j = .bad k e) : pinstr ts nf lo co b j = .bad k e := by
  show pbind pbyte _ b j = _
  exact pb_bad h
theorem pinstr_bad2 {ts : List GT} {nf lo co op : Int} {b : List Int} {i j k : Nat} {e : Int} (h : pbyte b j = .ok op i) (h2 : poper j op b i = .bad k e) : pinstr ts nf lo co b j = .bad k e := by
  show pbind pbyte _ b j = _
  rw [pb_ok h]
  show pbind (poper j op) _ b i = _
  exact pb_bad h2
theorem pinstr_one {ts : List GT} {nf lo co op a : Int} {b : List Int} {i j k : Nat} (h : pbyte b j = .ok op i) (h2 : poper j op b i = .ok a k) (hf : ¬ (form op = 7 ∨ form op = 8)) : pinstr ts nf lo co b j = if ir (TK (T0 ts)) (TP (T0 ts)) nf lo co op a 0 = true then .ok ⟨op, a, 0⟩ k else .bad i 7 := by
  show pbind pbyte _ b j = _
  rw [pb_ok h]
  show pbind (poper j op) _ b i = _
  rw [pb_ok h2, if_neg hf]
  split <;> rfl
theorem pinstr_two {ts : List GT} {nf lo co op a : Int} {b : List Int} {i j k : Nat} (h : pbyte b j = .ok op i) (h2 : poper j op b i = .ok a k) (hf : form op = 7 ∨ form op = 8) : pinstr ts nf lo co b j = if TK (T0 ts) a ≠ kindOf op then .bad i 7 else pbind (pnumber 2147483648 7) (fun c => if ir (TK (T0 ts)) (TP (T0 ts)) nf lo co op a c = true then ppure ⟨op, a, c⟩ else pfail k 7) b k := by
  show pbind pbyte _ b j = _
  rw [pb_ok h]
  show pbind (poper j op) _ b i = _
  rw [pb_ok h2, if_pos hf]
  split <;> rfl
theorem pinstr_two2 {ts : List GT} {nf lo co op a c : Int} {b : List Int} {k l : Nat} (h : pnumber 2147483648 7 b k = .ok c l) : pbind (pnumber 2147483648 7) (fun c => if ir (TK (T0 ts)) (TP (T0 ts)) nf lo co op a c = true then ppure (⟨op, a, c⟩ : GI) else pfail k 7) b k = if ir (TK (T0 ts)) (TP (T0 ts)) nf lo co op a c = true then .ok ⟨op, a, c⟩ l else .bad k 7 := by
  rw [pb_ok h]
  split <;> rfl
section
variable {m : AMem} {dc r id : Nat} {b : List Int} {j : Nat} {tv fs fv : AV} {nf : Int}
set_option maxHeartbeats 4000000 in
theorem sp_instr (n : Nat) {ts : List GT} {like : List Int} {nz : Nat} {lo co : Int} (hp : ∀ x ∈ T0 ts, x.parts.length ≤ 1000) (hb : BB b) (hl : b.length ≤ 1048576) (hd : DD m dc r tv fs (TT (T0 ts) like) nf) (hR : RD m r id b j 0 0) (hz : ZF m fv nz) :
    Wp (callsN cfg (n + 4) 76 [.ptr dc 0 0, .agg [TT (T0 ts) like, fv, avI lo, avI co]] m) (PQ (fun x => x = r) m r id b (pinstr ts nz lo co b j) fun x v _ => v = x.av) := by
  have n1 := hd.ne
  have gd := hd.dd
  have gr := hR.rd
  have gi := hR.bs
  have lr := hR.lr
  have lb := hR.lb
  have ld := hd.ld
  have hA := @sp_At (n + 2) (r := r) (id := id) (b := b) (j := j) (k := ((0 : Nat) : Int)) (e := 0)
  obtain ⟨z1, z2, z3, z4⟩ := hz.flat
  rw [ce76]
  unfold aBody cf76
  repeat' (first | simp -implicitDefEqProofs (disch := first | exact soE | (simp -implicitDefEqProofs (disch := first | exact soE | fail) only [go_sem, ↓reduceIte, Nat.reduceEqDiff, Nat.reduceAdd, Nat.reduceLT, Nat.reduceLeDiff, Nat.reduceBEq, reduceCtorEq, gd, gr, gi, hA, z1, z2, z3, z4]; done) | fail) only [go_sem, ↓reduceIte, Nat.reduceEqDiff, Nat.reduceAdd, Nat.reduceLT, Nat.reduceLeDiff, Nat.reduceBEq, reduceCtorEq, gd, gr, gi, hA, z1, z2, z3, z4] | ((with_reducible first | refine g_dec ?_ ?_ | refine c_dec ?_ ?_ | refine s_dec ?_ ?_ | refine g_ndec ?_ ?_ | refine c_ndec ?_ ?_ | refine g_nbool ?_ ?_ | refine c_nbool ?_ ?_ | refine g_bool ?_ ?_ | refine c_bool ?_ ?_ | refine s_bool ?_ ?_) <;> intro h d <;> (try simp only [d]) <;> (try simp only [B1, B2, B3, B4, B5, B6, B7, B8] at h) <;> (try omega)))
  refine call_pr (sp_byte n (hd.grow frA) (hR.grow frA) hl) (fun op i v m1 hx1 f1 hv R1 => ?_) (fun k e m1 hx1 f1 => ?_)
  · subst hv
    have f1n := f1.next
    simp only [room_next, put_next] at f1n
    have F1 : Fr (fun x => x = r) m m1 := Fr.trans frA f1
    have gd1 := (hd.frame F1 n1).dd
    have gs1 : m1.get m.next = some (.arr 81 4 [.agg [TT (T0 ts) like, fv, avI lo, avI co]]) := f1.get (by simp -implicitDefEqProofs (disch := first | exact soD | fail) only [go_sem, ↓reduceIte, Nat.reduceEqDiff, Nat.reduceAdd, Nat.reduceLT, Nat.reduceLeDiff, Nat.reduceBEq, reduceCtorEq, gd, gr, gi]) soA (by show ¬ _ = _; omega)
    have g41 : m1.get (m.next + 1) = some (.arr 45 3 [.agg [avI 0, avI 0, avI 0]]) := f1.get (by simp -implicitDefEqProofs (disch := first | exact soD | fail) only [go_sem, ↓reduceIte, Nat.reduceEqDiff, Nat.reduceAdd, Nat.reduceLT, Nat.reduceLeDiff, Nat.reduceBEq, reduceCtorEq, gd, gr, gi]) soA (by show ¬ _ = _; omega)
    have gr1 := R1.rd
    have gi1 := R1.bs
    obtain ⟨op0, op1⟩ := hb.get (byte_ok.1 hx1 |> Enc_one.1 |>.1)
    have hop : i64 op := i64_iff.2 ⟨by omega, by omega⟩
    have hF := fun q => sp_Form n op hop q
    have hA1 := @sp_At (n + 2) (r := r) (id := id) (b := b) (j := i) (k := ((0 : Nat) : Int)) (e := 0)
    have fb := @form_big op
    generalize hfo : form op = fo at hF fb
    by_cases c0 : fo = 0
    · subst c0
      have po : poper j op b i = .ok 0 i := by unfold poper; rw [if_pos hfo]; rfl
      repeat' (first | simp -implicitDefEqProofs (disch := first | exact soE | (simp -implicitDefEqProofs (disch := first | exact soE | fail) only [go_sem, ↓reduceIte, Nat.reduceEqDiff, Nat.reduceAdd, Nat.reduceLT, Nat.reduceLeDiff, Nat.reduceBEq, reduceCtorEq, Int.reduceEq, gd1, gs1, g41, hF, hA1, gr1, gi1]; done) | fail) only [go_sem, ↓reduceIte, Nat.reduceEqDiff, Nat.reduceAdd, Nat.reduceLT, Nat.reduceLeDiff, Nat.reduceBEq, reduceCtorEq, Int.reduceEq, gd1, gs1, g41, hF, hA1, gr1, gi1] | ((with_reducible first | refine g_dec ?_ ?_ | refine c_dec ?_ ?_ | refine s_dec ?_ ?_ | refine g_ndec ?_ ?_ | refine c_ndec ?_ ?_ | refine g_nbool ?_ ?_ | refine c_nbool ?_ ?_ | refine g_bool ?_ ?_ | refine c_bool ?_ ?_ | refine s_bool ?_ ?_) <;> intro h d <;> (try simp only [d]) <;> (try simp only [B1, B2, B3, B4, B5, B6, B7, B8] at h) <;> (try omega)))
      refine call_eq (sp_iRight_rb n (T0 ts) like nz lo co op 0 0 hp hop (hz.frame (S := fun x => x = r) frA (off_r hR (by decide)))) ?_
      rw [pinstr_one hx1 po (by omega)]
      cases hir : ir (TK (T0 ts)) (TP (T0 ts)) nz lo co op 0 0
      · repeat' (first | simp -implicitDefEqProofs (disch := first | exact soD | fail) only [go_sem, ↓reduceIte, Nat.reduceEqDiff, Nat.reduceAdd, Nat.reduceLT, Nat.reduceLeDiff, Nat.reduceBEq, reduceCtorEq, gd1, gs1, g41, ce43, x_body, cf43] | ((with_reducible first | refine g_dec ?_ ?_ | refine c_dec ?_ ?_ | refine s_dec ?_ ?_ | refine g_ndec ?_ ?_ | refine c_ndec ?_ ?_ | refine g_nbool ?_ ?_ | refine c_nbool ?_ ?_ | refine g_bool ?_ ?_ | refine c_bool ?_ ?_ | refine s_bool ?_ ?_) <;> intro h d <;> (try simp only [d]) <;> (try simp only [B1, B2, B3, B4, B5, B6, B7, B8] at h) <;> (try omega)))
        exact PQ.bad frA
      · repeat' (first | simp -implicitDefEqProofs (disch := first | exact soD | fail) only [go_sem, ↓reduceIte, Nat.reduceEqDiff, Nat.reduceAdd, Nat.reduceLT, Nat.reduceLeDiff, Nat.reduceBEq, reduceCtorEq, gd1, gs1, g41] | ((with_reducible first | refine g_dec ?_ ?_ | refine c_dec ?_ ?_ | refine s_dec ?_ ?_ | refine g_ndec ?_ ?_ | refine c_ndec ?_ ?_ | refine g_nbool ?_ ?_ | refine c_nbool ?_ ?_ | refine g_bool ?_ ?_ | refine c_bool ?_ ?_ | refine s_bool ?_ ?_) <;> intro h d <;> (try simp only [d]) <;> (try simp only [B1, B2, B3, B4, B5, B6, B7, B8] at h) <;> (try omega)))
        exact PQ.ok frA rfl (R1.frame (S := fun x => m.next ≤ x) frA (by omega) (by omega))
    · by_cases cm : fo = -1
      · subst cm
        rw [pinstr_bad2 hx1 (k := j) (e := 6) (by unfold poper; rw [if_neg (by omega), if_pos hfo]; rfl)]
        repeat' (first | simp -implicitDefEqProofs (disch := first | exact soE | (simp -implicitDefEqProofs (disch := first | exact soE | fail) only [go_sem, ↓reduceIte, Nat.reduceEqDiff, Nat.reduceAdd, Nat.reduceLT, Nat.reduceLeDiff, Nat.reduceBEq, reduceCtorEq, Int.reduceEq, Int.reduceNeg, gd1, gs1, g41, hF, hA1, gr1, gi1, ce43, x_body, cf43]; done) | fail) only [go_sem, ↓reduceIte, Nat.reduceEqDiff, Nat.reduceAdd, Nat.reduceLT, Nat.reduceLeDiff, Nat.reduceBEq, reduceCtorEq, Int.reduceEq, Int.reduceNeg, gd1, gs1, g41, hF, hA1, gr1, gi1, ce43, x_body, cf43] | ((with_reducible first | refine g_dec ?_ ?_ | refine c_dec ?_ ?_ | refine s_dec ?_ ?_ | refine g_ndec ?_ ?_ | refine c_ndec ?_ ?_ | refine g_nbool ?_ ?_ | refine c_nbool ?_ ?_ | refine g_bool ?_ ?_ | refine c_bool ?_ ?_ | refine s_bool ?_ ?_) <;> intro h d <;> (try simp only [d]) <;> (try simp only [B1, B2, B3, B4, B5, B6, B7, B8] at h) <;> (try omega)))
        exact PQ.bad frA
      · have dm : decide (fo = -1) = false := decide_eq_false cm
        have d0 : decide (fo = 0) = false := decide_eq_false c0
        by_cases c1 : fo = 1
        · subst c1
          repeat' (first | simp -implicitDefEqProofs (disch := first | exact soE | (simp -implicitDefEqProofs (disch := first | exact soE | fail) only [go_sem, ↓reduceIte, Nat.reduceEqDiff, Nat.reduceAdd, Nat.reduceLT, Nat.reduceLeDiff, Nat.reduceBEq, reduceCtorEq, Int.reduceEq, Int.reduceNeg, gd1, gs1, g41, hF, hA1, gr1, gi1]; done) | fail) only [go_sem, ↓reduceIte, Nat.reduceEqDiff, Nat.reduceAdd, Nat.reduceLT, Nat.reduceLeDiff, Nat.reduceBEq, reduceCtorEq, Int.reduceEq, Int.reduceNeg, gd1, gs1, g41, hF, hA1, gr1, gi1] | ((with_reducible first | refine g_dec ?_ ?_ | refine c_dec ?_ ?_ | refine s_dec ?_ ?_ | refine g_ndec ?_ ?_ | refine c_ndec ?_ ?_ | refine g_nbool ?_ ?_ | refine c_nbool ?_ ?_ | refine g_bool ?_ ?_ | refine c_bool ?_ ?_ | refine s_bool ?_ ?_) <;> intro h d <;> (try simp only [d]) <;> (try simp only [B1, B2, B3, B4, B5, B6, B7, B8] at h) <;> (try omega)))
          refine call_wp _ (sp_Int n hb hl (R1.frame (S := fun x => m.next ≤ x) frA (by omega) (by omega))) (fun v m2 hU => ?_) (fun v m2 hU => ?_)
          · obtain ⟨f2, v, hv, hU⟩ := hU
            cases hv
            have f2n := f2.next
            simp only [room_next, put_next] at f2n
            have F2 : Fr (fun x => x = r) m m2 := Fr.trans frA f2
            have gd2 := (hd.frame F2 n1).dd
            have gs2 : m2.get m.next = some (.arr 81 4 [.agg [TT (T0 ts) like, fv, avI lo, avI co]]) := f2.get (by simp -implicitDefEqProofs (disch := first | exact soD | fail) only [go_sem, ↓reduceIte, Nat.reduceEqDiff, Nat.reduceAdd, Nat.reduceLT, Nat.reduceLeDiff, Nat.reduceBEq, reduceCtorEq, gd1, gs1, g41]) soA (by show ¬ _ = _; omega)
            have g42 : m2.get (m.next + 1) = some (.arr 45 3 [.agg [avI 0, avI 0, avI 0]]) := f2.get (by simp -implicitDefEqProofs (disch := first | exact soD | fail) only [go_sem, ↓reduceIte, Nat.reduceEqDiff, Nat.reduceAdd, Nat.reduceLT, Nat.reduceLeDiff, Nat.reduceBEq, reduceCtorEq, gd1, gs1, g41]) soA (by show ¬ _ = _; omega)
            have g62 : m2.get (m.next + 2 + 6 + 4) = some (.arr 45 3 [.agg [avI op, avI 0, avI 0]]) := f2.get sxA soA (by show ¬ _ = _; omega)
            cases hx2 : puint b i with
            | bad k e =>
              rw [hx2] at hU
              have gr2 := hU.rd
              have := puint_bad R1.at_ hx2
              have de : decide (e = 0) = false := decide_eq_false (by omega)
              have po : poper j op b i = .bad k e := by
                unfold poper
                rw [if_neg (by omega), if_neg (by omega), if_pos hfo]
                exact pb_bad hx2
              rw [pinstr_bad2 hx1 po]
              repeat' (first | simp -implicitDefEqProofs (disch := first | exact soD | fail) only [go_sem, ↓reduceIte, Nat.reduceEqDiff, Nat.reduceAdd, Nat.reduceLT, Nat.reduceLeDiff, Nat.reduceBEq, reduceCtorEq, Int.reduceEq, gd2, gs2, g42, g62, gr2, de, ce72, ce85, ce43, x_body, cf72, cf85, cf43] | ((with_reducible first | refine g_dec ?_ ?_ | refine c_dec ?_ ?_ | refine s_dec ?_ ?_ | refine g_ndec ?_ ?_ | refine c_ndec ?_ ?_ | refine g_nbool ?_ ?_ | refine c_nbool ?_ ?_ | refine g_bool ?_ ?_ | refine c_bool ?_ ?_ | refine s_bool ?_ ?_) <;> intro h d <;> (try simp only [d]) <;> (try simp only [B1, B2, B3, B4, B5, B6, B7, B8] at h) <;> (try omega)))
              exact PQ.bad frA
            | ok a k =>
              rw [hx2] at hU
              obtain ⟨rfl, R2⟩ := hU
              have gr2 := R2.rd
              have po : poper j op b i = .ok (unfoldZ a) k := by
                unfold poper
                rw [if_neg (by omega), if_neg (by omega), if_pos hfo]
                exact pb_ok hx2
              repeat' (first | simp -implicitDefEqProofs (disch := first | exact soE | (simp -implicitDefEqProofs (disch := first | exact soE | fail) only [go_sem, ↓reduceIte, Nat.reduceEqDiff, Nat.reduceAdd, Nat.reduceLT, Nat.reduceLeDiff, Nat.reduceBEq, reduceCtorEq, Int.reduceEq, gd2, gs2, g42, hF, hA1, gr1, gi1, g62, gr2, ce72, ce85, ce43, x_body, cf72, cf85, cf43]; done) | fail) only [go_sem, ↓reduceIte, Nat.reduceEqDiff, Nat.reduceAdd, Nat.reduceLT, Nat.reduceLeDiff, Nat.reduceBEq, reduceCtorEq, Int.reduceEq, gd2, gs2, g42, hF, hA1, gr1, gi1, g62, gr2, ce72, ce85, ce43, x_body, cf72, cf85, cf43] | ((with_reducible first | refine g_dec ?_ ?_ | refine c_dec ?_ ?_ | refine s_dec ?_ ?_ | refine g_ndec ?_ ?_ | refine c_ndec ?_ ?_ | refine g_nbool ?_ ?_ | refine c_nbool ?_ ?_ | refine g_bool ?_ ?_ | refine c_bool ?_ ?_ | refine s_bool ?_ ?_) <;> intro h d <;> (try simp only [d]) <;> (try simp only [B1, B2, B3, B4, B5, B6, B7, B8] at h) <;> (try omega)))
              refine call_eq (sp_iRight_rb n (T0 ts) like nz lo co op (unfoldZ a) 0 hp hop (hz.frame (S := fun x => x = r) frA (off_r hR (by decide)))) ?_
              rw [pinstr_one hx1 po (by omega)]
              cases hir : ir (TK (T0 ts)) (TP (T0 ts)) nz lo co op (unfoldZ a) 0
              · repeat' (first | simp -implicitDefEqProofs (disch := first | exact soD | fail) only [go_sem, ↓reduceIte, Nat.reduceEqDiff, Nat.reduceAdd, Nat.reduceLT, Nat.reduceLeDiff, Nat.reduceBEq, reduceCtorEq, gd2, gs2, g42, g62, gr2, ce72, ce85, ce43, x_body, cf72, cf85, cf43, ce43, x_body, cf43] | ((with_reducible first | refine g_dec ?_ ?_ | refine c_dec ?_ ?_ | refine s_dec ?_ ?_ | refine g_ndec ?_ ?_ | refine c_ndec ?_ ?_ | refine g_nbool ?_ ?_ | refine c_nbool ?_ ?_ | refine g_bool ?_ ?_ | refine c_bool ?_ ?_ | refine s_bool ?_ ?_) <;> intro h d <;> (try simp only [d]) <;> (try simp only [B1, B2, B3, B4, B5, B6, B7, B8] at h) <;> (try omega)))
                exact PQ.bad frA
              · repeat' (first | simp -implicitDefEqProofs (disch := first | exact soD | fail) only [go_sem, ↓reduceIte, Nat.reduceEqDiff, Nat.reduceAdd, Nat.reduceLT, Nat.reduceLeDiff, Nat.reduceBEq, reduceCtorEq, gd2, gs2, g42, g62, gr2, ce72, ce85, ce43, x_body, cf72, cf85, cf43] | ((with_reducible first | refine g_dec ?_ ?_ | refine c_dec ?_ ?_ | refine s_dec ?_ ?_ | refine g_ndec ?_ ?_ | refine c_ndec ?_ ?_ | refine g_nbool ?_ ?_ | refine c_nbool ?_ ?_ | refine g_bool ?_ ?_ | refine c_bool ?_ ?_ | refine s_bool ?_ ?_) <;> intro h d <;> (try simp only [d]) <;> (try simp only [B1, B2, B3, B4, B5, B6, B7, B8] at h) <;> (try omega)))
                exact PQ.ok frA rfl (R2.frame (S := fun x => m.next ≤ x) frA (by omega) (by omega))
          · obtain ⟨f2, v, hv, hU⟩ := hU
            cases hv
        · have d1 : decide (fo = 1) = false := decide_eq_false c1
          repeat' (first | simp -implicitDefEqProofs (disch := first | exact soE | (simp -implicitDefEqProofs (disch := first | exact soE | fail) only [go_sem, ↓reduceIte, Nat.reduceEqDiff, Nat.reduceAdd, Nat.reduceLT, Nat.reduceLeDiff, Nat.reduceBEq, reduceCtorEq, Int.reduceEq, Int.reduceNeg, gd1, gs1, g41, hF, hA1, gr1, gi1, dm, d0, d1]; done) | fail) only [go_sem, ↓reduceIte, Nat.reduceEqDiff, Nat.reduceAdd, Nat.reduceLT, Nat.reduceLeDiff, Nat.reduceBEq, reduceCtorEq, Int.reduceEq, Int.reduceNeg, gd1, gs1, g41, hF, hA1, gr1, gi1, dm, d0, d1] | ((with_reducible first | refine g_dec ?_ ?_ | refine c_dec ?_ ?_ | refine s_dec ?_ ?_ | refine g_ndec ?_ ?_ | refine c_ndec ?_ ?_ | refine g_nbool ?_ ?_ | refine c_nbool ?_ ?_ | refine g_bool ?_ ?_ | refine c_bool ?_ ?_ | refine s_bool ?_ ?_) <;> intro h d <;> (try simp only [d]) <;> (try simp only [B1, B2, B3, B4, B5, B6, B7, B8] at h) <;> (try omega)))
          refine call_pr (sp_number n (by omega) (by omega) (by decide) hb hl ((hd.frame F1 n1).frame (S := fun x => m.next ≤ x) frA (by omega)) (R1.frame (S := fun x => m.next ≤ x) frA (by omega) (by omega))) (fun a k v m2 hx2 f2 hv R2 => ?_) (fun k e m2 hx2 f2 => ?_)
          · subst hv
            have f2n := f2.next
            simp only [room_next, put_next] at f2n
            have F2 : Fr (fun x => x = r) m m2 := Fr.trans frA f2
            have gd2 := (hd.frame F2 n1).dd
            have gs2 : m2.get m.next = some (.arr 81 4 [.agg [TT (T0 ts) like, fv, avI lo, avI co]]) := f2.get (by simp -implicitDefEqProofs (disch := first | exact soD | fail) only [go_sem, ↓reduceIte, Nat.reduceEqDiff, Nat.reduceAdd, Nat.reduceLT, Nat.reduceLeDiff, Nat.reduceBEq, reduceCtorEq, gd1, gs1, g41]) soA (by show ¬ _ = _; omega)
            have g42 : m2.get (m.next + 1) = some (.arr 45 3 [.agg [avI 0, avI 0, avI 0]]) := f2.get (by simp -implicitDefEqProofs (disch := first | exact soD | fail) only [go_sem, ↓reduceIte, Nat.reduceEqDiff, Nat.reduceAdd, Nat.reduceLT, Nat.reduceLeDiff, Nat.reduceBEq, reduceCtorEq, gd1, gs1, g41]) soA (by show ¬ _ = _; omega)
            have g62 : m2.get (m.next + 2 + 6 + 4) = some (.arr 45 3 [.agg [avI op, avI 0, avI 0]]) := f2.get sxA soA (by show ¬ _ = _; omega)
            have po : poper j op b i = .ok a k := by
              unfold poper
              rw [if_neg (by omega), if_neg (by omega), if_neg (by omega)]
              exact hx2
            by_cases c78 : fo = 7 ∨ fo = 8
            · have gr2 := R2.rd
              have gi2 := R2.bs
              have hA2 := @sp_At (n + 2) (r := r) (id := id) (b := b) (j := k) (k := ((0 : Nat) : Int)) (e := 0)
              have hK1 := fun q => sp_TKind (n + 1) (T0 ts) like a q
              have hK2 := fun q => sp_iKind n op hop q
              rw [pinstr_two hx1 po (by omega)]
              by_cases ck : TK (T0 ts) a = kindOf op
              · have dk : decide (TK (T0 ts) a = kindOf op) = true := decide_eq_true ck
                rw [if_neg (fun h => h ck)]
                have d78 : (decide (fo = 7) || decide (fo = 8)) = true := by simpa using c78
                repeat' (first | simp -implicitDefEqProofs (disch := first | exact soE | (simp -implicitDefEqProofs (disch := first | exact soE | fail) only [go_sem, ↓reduceIte, Nat.reduceEqDiff, Nat.reduceAdd, Nat.reduceLT, Nat.reduceLeDiff, Nat.reduceBEq, reduceCtorEq, Int.reduceEq, gd2, gs2, g42, g62, gr2, gi2, hA2, hK1, hK2, dk]; done) | fail) only [go_sem, ↓reduceIte, Nat.reduceEqDiff, Nat.reduceAdd, Nat.reduceLT, Nat.reduceLeDiff, Nat.reduceBEq, reduceCtorEq, Int.reduceEq, gd2, gs2, g42, g62, gr2, gi2, hA2, hK1, hK2, dk] | ((with_reducible first | refine g_dec ?_ ?_ | refine c_dec ?_ ?_ | refine s_dec ?_ ?_ | refine g_ndec ?_ ?_ | refine c_ndec ?_ ?_ | refine g_nbool ?_ ?_ | refine c_nbool ?_ ?_ | refine g_bool ?_ ?_ | refine c_bool ?_ ?_ | refine s_bool ?_ ?_) <;> intro h d <;> (try simp only [d]) <;> (try simp only [B1, B2, B3, B4, B5, B6, B7, B8] at h) <;> (try omega)))
                all_goals (
                  refine call_pr (sp_number n (by omega) (by omega) (by decide) hb hl ((hd.frame F2 n1).frame (S := fun x => m.next ≤ x) frA (by omega)) (R2.frame (S := fun x => m.next ≤ x) frA (by omega) (by omega))) (fun c k3 v m3 hx3 f3 hv R3 => ?_) (fun k3 e m3 hx3 f3 => ?_)
                  · subst hv
                    have f3n := f3.next
                    simp only [room_next, put_next] at f3n
                    have F3 : Fr (fun x => x = r) m m3 := Fr.trans frA f3
                    have gd3 := (hd.frame F3 n1).dd
                    have gs3 : m3.get m.next = some (.arr 81 4 [.agg [TT (T0 ts) like, fv, avI lo, avI co]]) := f3.get (by simp -implicitDefEqProofs (disch := first | exact soD | fail) only [go_sem, ↓reduceIte, Nat.reduceEqDiff, Nat.reduceAdd, Nat.reduceLT, Nat.reduceLeDiff, Nat.reduceBEq, reduceCtorEq, gd2, gs2, g42]) soA (by show ¬ _ = _; omega)
                    have g43 : m3.get (m.next + 1) = some (.arr 45 3 [.agg [avI 0, avI 0, avI 0]]) := f3.get (by simp -implicitDefEqProofs (disch := first | exact soD | fail) only [go_sem, ↓reduceIte, Nat.reduceEqDiff, Nat.reduceAdd, Nat.reduceLT, Nat.reduceLeDiff, Nat.reduceBEq, reduceCtorEq, gd2, gs2, g42]) soA (by show ¬ _ = _; omega)
                    have g63 : m3.get (m.next + 2 + 6 + 4) = some (.arr 45 3 [.agg [avI op, avI a, avI 0]]) := f3.get sxA soA (by show ¬ _ = _; omega)
                    repeat' (first | simp -implicitDefEqProofs (disch := first | exact soD | fail) only [go_sem, ↓reduceIte, Nat.reduceEqDiff, Nat.reduceAdd, Nat.reduceLT, Nat.reduceLeDiff, Nat.reduceBEq, reduceCtorEq, Int.reduceEq, gd3, gs3, g43, g63] | ((with_reducible first | refine g_dec ?_ ?_ | refine c_dec ?_ ?_ | refine s_dec ?_ ?_ | refine g_ndec ?_ ?_ | refine c_ndec ?_ ?_ | refine g_nbool ?_ ?_ | refine c_nbool ?_ ?_ | refine g_bool ?_ ?_ | refine c_bool ?_ ?_ | refine s_bool ?_ ?_) <;> intro h d <;> (try simp only [d]) <;> (try simp only [B1, B2, B3, B4, B5, B6, B7, B8] at h) <;> (try omega)))
                    refine call_eq (sp_iRight_rb n (T0 ts) like nz lo co op a c hp hop (hz.frame (S := fun x => x = r) frA (off_r hR (by decide)))) ?_
                    rw [pinstr_two2 hx3]
                    cases hir : ir (TK (T0 ts)) (TP (T0 ts)) nz lo co op a c
                    · repeat' (first | simp -implicitDefEqProofs (disch := first | exact soD | fail) only [go_sem, ↓reduceIte, Nat.reduceEqDiff, Nat.reduceAdd, Nat.reduceLT, Nat.reduceLeDiff, Nat.reduceBEq, reduceCtorEq, gd3, gs3, g43, g63, ce43, x_body, cf43] | ((with_reducible first | refine g_dec ?_ ?_ | refine c_dec ?_ ?_ | refine s_dec ?_ ?_ | refine g_ndec ?_ ?_ | refine c_ndec ?_ ?_ | refine g_nbool ?_ ?_ | refine c_nbool ?_ ?_ | refine g_bool ?_ ?_ | refine c_bool ?_ ?_ | refine s_bool ?_ ?_) <;> intro h d <;> (try simp only [d]) <;> (try simp only [B1, B2, B3, B4, B5, B6, B7, B8] at h) <;> (try omega)))
                      exact PQ.bad frA
                    · repeat' (first | simp -implicitDefEqProofs (disch := first | exact soD | fail) only [go_sem, ↓reduceIte, Nat.reduceEqDiff, Nat.reduceAdd, Nat.reduceLT, Nat.reduceLeDiff, Nat.reduceBEq, reduceCtorEq, gd3, gs3, g43, g63] | ((with_reducible first | refine g_dec ?_ ?_ | refine c_dec ?_ ?_ | refine s_dec ?_ ?_ | refine g_ndec ?_ ?_ | refine c_ndec ?_ ?_ | refine g_nbool ?_ ?_ | refine c_nbool ?_ ?_ | refine g_bool ?_ ?_ | refine c_bool ?_ ?_ | refine s_bool ?_ ?_) <;> intro h d <;> (try simp only [d]) <;> (try simp only [B1, B2, B3, B4, B5, B6, B7, B8] at h) <;> (try omega)))
                      exact PQ.ok frA rfl (R3.frame (S := fun x => m.next ≤ x) frA (by omega) (by omega))
                  · rw [pb_bad hx3]
                    repeat' (first | simp -implicitDefEqProofs (disch := first | exact soD | fail) only [go_sem, ↓reduceIte, Nat.reduceEqDiff, Nat.reduceAdd, Nat.reduceLT, Nat.reduceLeDiff, Nat.reduceBEq, reduceCtorEq] | ((with_reducible first | refine g_dec ?_ ?_ | refine c_dec ?_ ?_ | refine s_dec ?_ ?_ | refine g_ndec ?_ ?_ | refine c_ndec ?_ ?_ | refine g_nbool ?_ ?_ | refine c_nbool ?_ ?_ | refine g_bool ?_ ?_ | refine c_bool ?_ ?_ | refine s_bool ?_ ?_) <;> intro h d <;> (try simp only [d]) <;> (try simp only [B1, B2, B3, B4, B5, B6, B7, B8] at h) <;> (try omega)))
                    exact PQ.bad (Fr.trans frA f3))
              · have dk : decide (TK (T0 ts) a = kindOf op) = false := decide_eq_false ck
                rw [if_pos ck]
                repeat' (first | simp -implicitDefEqProofs (disch := first | exact soE | (simp -implicitDefEqProofs (disch := first | exact soE | fail) only [go_sem, ↓reduceIte, Nat.reduceEqDiff, Nat.reduceAdd, Nat.reduceLT, Nat.reduceLeDiff, Nat.reduceBEq, reduceCtorEq, Int.reduceEq, gd2, gs2, g42, g62, gr2, gi2, hA2, hK1, hK2, dk, ce43, x_body, cf43]; done) | fail) only [go_sem, ↓reduceIte, Nat.reduceEqDiff, Nat.reduceAdd, Nat.reduceLT, Nat.reduceLeDiff, Nat.reduceBEq, reduceCtorEq, Int.reduceEq, gd2, gs2, g42, g62, gr2, gi2, hA2, hK1, hK2, dk, ce43, x_body, cf43] | ((with_reducible first | refine g_dec ?_ ?_ | refine c_dec ?_ ?_ | refine s_dec ?_ ?_ | refine g_ndec ?_ ?_ | refine c_ndec ?_ ?_ | refine g_nbool ?_ ?_ | refine c_nbool ?_ ?_ | refine g_bool ?_ ?_ | refine c_bool ?_ ?_ | refine s_bool ?_ ?_) <;> intro h d <;> (try simp only [d]) <;> (try simp only [B1, B2, B3, B4, B5, B6, B7, B8] at h) <;> (try omega)))
                all_goals exact PQ.bad frA
            · have d7 : decide (fo = 7) = false := decide_eq_false (by omega)
              have d8 : decide (fo = 8) = false := decide_eq_false (by omega)
              repeat' (first | simp -implicitDefEqProofs (disch := first | exact soE | (simp -implicitDefEqProofs (disch := first | exact soE | fail) only [go_sem, ↓reduceIte, Nat.reduceEqDiff, Nat.reduceAdd, Nat.reduceLT, Nat.reduceLeDiff, Nat.reduceBEq, reduceCtorEq, Int.reduceEq, gd2, gs2, g42, hF, hA1, gr1, gi1, g62, d7, d8]; done) | fail) only [go_sem, ↓reduceIte, Nat.reduceEqDiff, Nat.reduceAdd, Nat.reduceLT, Nat.reduceLeDiff, Nat.reduceBEq, reduceCtorEq, Int.reduceEq, gd2, gs2, g42, hF, hA1, gr1, gi1, g62, d7, d8] | ((with_reducible first | refine g_dec ?_ ?_ | refine c_dec ?_ ?_ | refine s_dec ?_ ?_ | refine g_ndec ?_ ?_ | refine c_ndec ?_ ?_ | refine g_nbool ?_ ?_ | refine c_nbool ?_ ?_ | refine g_bool ?_ ?_ | refine c_bool ?_ ?_ | refine s_bool ?_ ?_) <;> intro h d <;> (try simp only [d]) <;> (try simp only [B1, B2, B3, B4, B5, B6, B7, B8] at h) <;> (try omega)))
              refine call_eq (sp_iRight_rb n (T0 ts) like nz lo co op a 0 hp hop (hz.frame (S := fun x => x = r) frA (off_r hR (by decide)))) ?_
              rw [pinstr_one hx1 po (by omega)]
              cases hir : ir (TK (T0 ts)) (TP (T0 ts)) nz lo co op a 0
              · repeat' (first | simp -implicitDefEqProofs (disch := first | exact soD | fail) only [go_sem, ↓reduceIte, Nat.reduceEqDiff, Nat.reduceAdd, Nat.reduceLT, Nat.reduceLeDiff, Nat.reduceBEq, reduceCtorEq, gd2, gs2, g42, g62, d7, d8, ce43, x_body, cf43] | ((with_reducible first | refine g_dec ?_ ?_ | refine c_dec ?_ ?_ | refine s_dec ?_ ?_ | refine g_ndec ?_ ?_ | refine c_ndec ?_ ?_ | refine g_nbool ?_ ?_ | refine c_nbool ?_ ?_ | refine g_bool ?_ ?_ | refine c_bool ?_ ?_ | refine s_bool ?_ ?_) <;> intro h d <;> (try simp only [d]) <;> (try simp only [B1, B2, B3, B4, B5, B6, B7, B8] at h) <;> (try omega)))
                exact PQ.bad frA
              · repeat' (first | simp -implicitDefEqProofs (disch := first | exact soD | fail) only [go_sem, ↓reduceIte, Nat.reduceEqDiff, Nat.reduceAdd, Nat.reduceLT, Nat.reduceLeDiff, Nat.reduceBEq, reduceCtorEq, gd2, gs2, g42, g62, d7, d8] | ((with_reducible first | refine g_dec ?_ ?_ | refine c_dec ?_ ?_ | refine s_dec ?_ ?_ | refine g_ndec ?_ ?_ | refine c_ndec ?_ ?_ | refine g_nbool ?_ ?_ | refine c_nbool ?_ ?_ | refine g_bool ?_ ?_ | refine c_bool ?_ ?_ | refine s_bool ?_ ?_) <;> intro h d <;> (try simp only [d]) <;> (try simp only [B1, B2, B3, B4, B5, B6, B7, B8] at h) <;> (try omega)))
                exact PQ.ok frA rfl (R2.frame (S := fun x => m.next ≤ x) frA (by omega) (by omega))
          · rw [pinstr_bad2 hx1 (by unfold poper; rw [if_neg (by omega), if_neg (by omega), if_neg (by omega)]; exact hx2)]
            repeat' (first | simp -implicitDefEqProofs (disch := first | exact soD | fail) only [go_sem, ↓reduceIte, Nat.reduceEqDiff, Nat.reduceAdd, Nat.reduceLT, Nat.reduceLeDiff, Nat.reduceBEq, reduceCtorEq] | ((with_reducible first | refine g_dec ?_ ?_ | refine c_dec ?_ ?_ | refine s_dec ?_ ?_ | refine g_ndec ?_ ?_ | refine c_ndec ?_ ?_ | refine g_nbool ?_ ?_ | refine c_nbool ?_ ?_ | refine g_bool ?_ ?_ | refine c_bool ?_ ?_ | refine s_bool ?_ ?_) <;> intro h d <;> (try simp only [d]) <;> (try simp only [B1, B2, B3, B4, B5, B6, B7, B8] at h) <;> (try omega)))
            exact PQ.bad (Fr.trans frA f2)
  · rw [pinstr_bad hx1]
    repeat' (first | simp -implicitDefEqProofs (disch := first | exact soD | fail) only [go_sem, ↓reduceIte, Nat.reduceEqDiff, Nat.reduceAdd, Nat.reduceLT, Nat.reduceLeDiff, Nat.reduceBEq, reduceCtorEq] | ((with_reducible first | refine g_dec ?_ ?_ | refine c_dec ?_ ?_ | refine s_dec ?_ ?_ | refine g_ndec ?_ ?_ | refine c_ndec ?_ ?_ | refine g_nbool ?_ ?_ | refine c_nbool ?_ ?_ | refine g_bool ?_ ?_ | refine c_bool ?_ ?_ | refine s_bool ?_ ?_) <;> intro h d <;> (try simp only [d]) <;> (try simp only [B1, B2, B3, B4, B5, B6, B7, B8] at h) <;> (try omega)))
    exact PQ.bad (Fr.trans frA f1)
end
end Go.Proofs.YtiijjopdhjpalaaDoor

/-! Reading an image, in the program: a function's params and code. Conditions: none. -/
namespace Go.Proofs.YtiijjopdhjpalaaDoor
open Go
set_option linter.unusedSimpArgs false
set_option linter.unusedVariables false
theorem sp_Len (n : Nat) (all : List GT) (k : List Int) (m : AMem) : callsN cfg (n + 1) 75 [TT all k] m = some (.ret (avI all.length), m) := by
  rw [ce75]
  refine borrow_wp (targs := [TT all k]) (by simp only [go_sem]) ?_ rfl
  unfold aBody cf75
  repeat' (first | simp -implicitDefEqProofs (disch := first | exact soD | fail) only [go_sem, ↓reduceIte, Nat.reduceEqDiff, Nat.reduceAdd, Nat.reduceLT, Nat.reduceLeDiff, Nat.reduceBEq, reduceCtorEq] | ((with_reducible first | refine g_dec ?_ ?_ | refine c_dec ?_ ?_ | refine s_dec ?_ ?_ | refine g_ndec ?_ ?_ | refine c_ndec ?_ ?_ | refine g_nbool ?_ ?_ | refine c_nbool ?_ ?_ | refine g_bool ?_ ?_ | refine c_bool ?_ ?_ | refine s_bool ?_ ?_) <;> intro h d <;> (try simp only [d]) <;> (try simp only [B1, B2, B3, B4, B5, B6, B7, B8] at h) <;> (try omega)))
theorem T0_len (ts : List GT) : (((T0 ts).length : Nat) : Int) = (ts.length : Int) + 2 := by simp [T0]; omega
theorem OV.beq {m : AMem} {t sz : Nat} {v : AV} {es : List AV} (h : OV m t sz v es) : AV.beq v v = true := by
  rcases h with ⟨rfl, _⟩ | ⟨q, rfl, _⟩ <;> simp [AV.beq]
section
variable {m : AMem} {dc r id : Nat} {b : List Int} {tv fs : AV} {nf : Int}
theorem Fr.up {S T : Nat → Prop} {m M p : AMem} (f : Fr S m M) (g : Fr T M p) (h : ∀ y, T y → m.next ≤ y ∨ S y) : Fr S m p :=
  ⟨Nat.le_trans f.next g.next, fun i a c => (g.old i (Nat.lt_of_lt_of_le a f.next) (fun e => (h i e).elim (fun e => by omega) c)).trans (f.old i a c)⟩
/-- The loop over the params. -/
structure PI1 (m : AMem) (dc r id : Nat) (b : List Int) (T : Int) (N fid : Nat) (fst : Bool) (X : PR (List Int)) (s : List Int × Nat) (env : AEnv) (w : AMem) : Prop where
  len : s.1.length ≤ N
  par : pcat s.1 (prep (pnumber T 7) (N - s.1.length) b s.2) = X
  fr : Fr (fun x => x = r) m w
  rd : RD w r id b s.2 0 0
  f0 : m.next ≤ fid
  f1 : fid < w.next
  ff : ∃ pv, w.get fid = some (.arr 48 4 [.agg [pv, avI 0, avI 0, .nils]]) ∧ NV w pv s.1 ∧ ∀ y, SId pv y → m.next ≤ y
  e0 : env 0 = .ptr dc 0 0
  e2 : env 2 = .bool fst
  e4 : env 4 = .ptr fid 0 0
  e5 : env 5 = avI N
  e31 : env 31 = avI N
  e32 : env 32 = avI s.1.length
set_option maxHeartbeats 4000000 in
theorem func_params (n : Nat) {ts : List GT} {like : List Int} (hts : ts.length ≤ 60) {N fid : Nat} (hN0 : N ≤ 16) {fst : Bool} (hb : BB b) (hl : b.length ≤ 1048576) (D : DD m dc r tv fs (TT (T0 ts) like) nf) {X : PR (List Int)} {Q : AOut → AMem → Prop} {K : Kont} {s0 : List Int × Nat} {env : AEnv} {w : AMem} (hI : PI1 m dc r id b (ts.length + 2) N fid fst X s0 env w)
    (hx : ∀ (xs : List Int) (i : Nat) (env' : AEnv) (w' : AMem), X = .ok xs i → xs.length = N → PI1 m dc r id b (ts.length + 2) N fid fst X (xs, i) env' w' → Wp (K (.exit 0) env' w') Q)
    (hp : ∀ (k : Nat) (e : Int) (env' : AEnv) (w' : AMem), X = .bad k e → Fr (fun x => x = r) m w' → Wp (K (.panic (W k e)) env' w') Q) :
    Wp (loopN LOOPK (aCode (callsN cfg (n + 4)) lb47_0) env w K) Q := by
  refine wp_loop (PI1 m dc r id b (ts.length + 2) N fid fst X) (fun s => N - s.1.length) (fun s env w K' hI hN hE => ?_) LOOPK s0 _ _ hI (by rw [LOOPK_eq]; have := hI.len; omega)
  obtain ⟨xs, i⟩ := s
  have hI' := hI
  obtain ⟨sl, sx, f, R, f0, f1, ⟨pv, gf, P, py⟩, e0, e2, e4, e5, e31, e32⟩ := hI
  simp only at sl sx R P e32 hN
  have n1 := D.ne
  have D1 := D.frame f n1
  unfold lb47_0
  by_cases c : xs.length < N
  · rw [show N - xs.length = (N - xs.length - 1) + 1 by omega] at sx
    obtain ⟨es, O, el, ea⟩ := P.ov
    obtain ⟨o1, o2, o3, o4, o5⟩ := O.flat
    have ob := O.beq
    have hL := fun q => sp_Len (n + 3) (T0 ts) like q
    rw [T0_len] at hL
    have gd := D1.dd
    have ld := D1.ld
    have gr := R.rd
    have gi := R.bs
    have lr := R.lr
    have lb := R.lb
    have fn := f.next
    have nfr : ¬ fid = r := fun e => by
      rw [e, gr] at gf
      cases gf
    have nfd : ¬ fid = dc := fun e => by
      rw [e, gd] at gf
      cases gf
    repeat' (first | simp -implicitDefEqProofs (disch := first | exact soE | (simp -implicitDefEqProofs (disch := first | exact soE | fail) only [go_sem, ↓reduceIte, Nat.reduceEqDiff, Nat.reduceAdd, Nat.reduceLT, Nat.reduceLeDiff, Nat.reduceBEq, reduceCtorEq, e0, e2, e4, e5, e31, e32, gd, gf, hL, o1]; done) | fail) only [go_sem, ↓reduceIte, Nat.reduceEqDiff, Nat.reduceAdd, Nat.reduceLT, Nat.reduceLeDiff, Nat.reduceBEq, reduceCtorEq, e0, e2, e4, e5, e31, e32, gd, gf, hL, o1] | ((with_reducible first | refine g_dec ?_ ?_ | refine c_dec ?_ ?_ | refine s_dec ?_ ?_ | refine g_ndec ?_ ?_ | refine c_ndec ?_ ?_ | refine g_nbool ?_ ?_ | refine c_nbool ?_ ?_ | refine g_bool ?_ ?_ | refine c_bool ?_ ?_ | refine s_bool ?_ ?_) <;> intro h d <;> (try simp only [d]) <;> (try simp only [B1, B2, B3, B4, B5, B6, B7, B8] at h) <;> (try omega)))
    refine call_sd (sp_number (n + 1) (by omega) (by omega) (by decide) hb hl (D1.grow frA) (R.grow frA)) (fun z k v m1 hx1 g1 hv R1 => ?_) (fun k e m1 hx1 g1 => ?_)
    · subst hv
      rw [pcat_ok hx1] at sx
      have g1n := g1.next
      simp only [room_next, put_next] at g1n
      have F1 : Fr (fun x => x = r) w m1 := Fr.trans frA g1
      have gf1 := F1.get gf f1 nfr
      repeat' (first | simp -implicitDefEqProofs (disch := first | exact soD | fail) only [go_sem, ↓reduceIte, Nat.reduceEqDiff, Nat.reduceAdd, Nat.reduceLT, Nat.reduceLeDiff, Nat.reduceBEq, reduceCtorEq, e0, e2, e4, e5, e31, e32, gf1, o1, ob, Nat.reduceBEq] | ((with_reducible first | refine g_dec ?_ ?_ | refine c_dec ?_ ?_ | refine s_dec ?_ ?_ | refine g_ndec ?_ ?_ | refine c_ndec ?_ ?_ | refine g_nbool ?_ ?_ | refine c_nbool ?_ ?_ | refine g_bool ?_ ?_ | refine c_bool ?_ ?_ | refine s_bool ?_ ?_) <;> intro h d <;> (try simp only [d]) <;> (try simp only [B1, B2, B3, B4, B5, B6, B7, B8] at h) <;> (try omega)))
      refine app_sd (O.frame (S := fun x => x = r) frA (off_r R (by decide))) soA (by omega) (fun p f4 gp lp => ?_)
      have nsf : ¬ SId pv fid := O.ne gf (by decide)
      have gfp := f4.get (id := fid) (by simp -implicitDefEqProofs (disch := first | exact soD | fail) only [go_sem, ↓reduceIte, Nat.reduceEqDiff, Nat.reduceAdd, Nat.reduceLT, Nat.reduceLeDiff, Nat.reduceBEq, reduceCtorEq]; exact gf1) soA (fun c => c.elim nsf (fun e => by omega))
      repeat' (first | simp -implicitDefEqProofs (disch := first | exact soD | fail) only [go_sem, ↓reduceIte, Nat.reduceEqDiff, Nat.reduceAdd, Nat.reduceLT, Nat.reduceLeDiff, Nat.reduceBEq, reduceCtorEq, e0, e2, e4, e5, e31, e32, gfp, o1, ob, Nat.reduceBEq] | ((with_reducible first | refine g_dec ?_ ?_ | refine c_dec ?_ ?_ | refine s_dec ?_ ?_ | refine g_ndec ?_ ?_ | refine c_ndec ?_ ?_ | refine g_nbool ?_ ?_ | refine c_nbool ?_ ?_ | refine g_bool ?_ ?_ | refine c_bool ?_ ?_ | refine s_bool ?_ ?_) <;> intro h d <;> (try simp only [d]) <;> (try simp only [B1, B2, B3, B4, B5, B6, B7, B8] at h) <;> (try omega)))
      have nsr : ¬ SId pv r := O.ne gr (by decide)
      have nsi : ¬ SId pv id := O.ne gi (by decide)
      have nfi : ¬ fid = id := fun e => by
        rw [e, gi] at gf
        cases gf
      have FM : Fr (fun x => x = r) m p := Fr.up (Fr.trans f (frA : Fr (fun x => x = r) w _)) f4 (fun y h => .inl (h.elim (py y) (fun e => by omega)))
      have g5 : ∀ {O z}, Fr (fun x => x = fid) p ((p.put fid O).room z) := Fr.room (Fr.put (S := fun x => x = fid) Fr.refl _ (.inr rfl)) _
      refine hN (xs ++ [z], k) _ _ ⟨by simp; omega, ?_, frA, ((R1.frame (S := fun x => w.next ≤ x) frA (by omega) (by omega)).frame f4 (fun c => c.elim nsr (fun e => by omega)) (fun c => c.elim nsi (fun e => by omega))).frame g5 (fun e => nfr e.symm) (fun e => nfi e.symm), f0, ?_, ⟨.sl 1 (w.next + 1 + 10) 0 (es.length + 1), sxA, SV.snoc el ea rfl soA (by simp -implicitDefEqProofs (disch := first | exact soD | fail) only [go_sem, ↓reduceIte, Nat.reduceEqDiff, Nat.reduceAdd, Nat.reduceLT, Nat.reduceLeDiff, Nat.reduceBEq, reduceCtorEq]; exact gp), fun y ⟨_, _, _, h⟩ => by cases h; omega⟩, by simp -implicitDefEqProofs (disch := first | exact soD | fail) only [go_sem, ↓reduceIte, Nat.reduceEqDiff, Nat.reduceAdd, Nat.reduceLT, Nat.reduceLeDiff, Nat.reduceBEq, reduceCtorEq, e0], by simp -implicitDefEqProofs (disch := first | exact soD | fail) only [go_sem, ↓reduceIte, Nat.reduceEqDiff, Nat.reduceAdd, Nat.reduceLT, Nat.reduceLeDiff, Nat.reduceBEq, reduceCtorEq, e2], by simp -implicitDefEqProofs (disch := first | exact soD | fail) only [go_sem, ↓reduceIte, Nat.reduceEqDiff, Nat.reduceAdd, Nat.reduceLT, Nat.reduceLeDiff, Nat.reduceBEq, reduceCtorEq, e4], by simp -implicitDefEqProofs (disch := first | exact soD | fail) only [go_sem, ↓reduceIte, Nat.reduceEqDiff, Nat.reduceAdd, Nat.reduceLT, Nat.reduceLeDiff, Nat.reduceBEq, reduceCtorEq, e5], by simp -implicitDefEqProofs (disch := first | exact soD | fail) only [go_sem, ↓reduceIte, Nat.reduceEqDiff, Nat.reduceAdd, Nat.reduceLT, Nat.reduceLeDiff, Nat.reduceBEq, reduceCtorEq, e31], ?_⟩ ?_
      · rw [List.length_append, ← Nat.sub_sub]
        exact sx
      · have := f4.next
        (first | omega | (simp -implicitDefEqProofs (disch := first | exact soD | fail) only [go_sem, ↓reduceIte, Nat.reduceEqDiff, Nat.reduceAdd, Nat.reduceLT, Nat.reduceLeDiff, Nat.reduceBEq, reduceCtorEq] <;> omega))
      · simp -implicitDefEqProofs (disch := first | exact soD | fail) only [go_sem, ↓reduceIte, Nat.reduceEqDiff, Nat.reduceAdd, Nat.reduceLT, Nat.reduceLeDiff, Nat.reduceBEq, reduceCtorEq, List.length_append]
        rfl
      · show N - (xs ++ [z]).length < N - xs.length
        rw [List.length_append, List.length_cons]
        omega
    · rw [pcat_bad hx1] at sx
      repeat' (first | simp -implicitDefEqProofs (disch := first | exact soD | fail) only [go_sem, ↓reduceIte, Nat.reduceEqDiff, Nat.reduceAdd, Nat.reduceLT, Nat.reduceLeDiff, Nat.reduceBEq, reduceCtorEq] | ((with_reducible first | refine g_dec ?_ ?_ | refine c_dec ?_ ?_ | refine s_dec ?_ ?_ | refine g_ndec ?_ ?_ | refine c_ndec ?_ ?_ | refine g_nbool ?_ ?_ | refine c_nbool ?_ ?_ | refine g_bool ?_ ?_ | refine c_bool ?_ ?_ | refine s_bool ?_ ?_) <;> intro h d <;> (try simp only [d]) <;> (try simp only [B1, B2, B3, B4, B5, B6, B7, B8] at h) <;> (try omega)))
      refine (hE _ _).2.2 _ ?_
      exact hp _ _ _ _ sx.symm (Fr.trans f (Fr.trans frA g1))
  · repeat' (first | simp -implicitDefEqProofs (disch := first | exact soD | fail) only [go_sem, ↓reduceIte, Nat.reduceEqDiff, Nat.reduceAdd, Nat.reduceLT, Nat.reduceLeDiff, Nat.reduceBEq, reduceCtorEq, e0, e2, e4, e5, e31, e32] | ((with_reducible first | refine g_dec ?_ ?_ | refine c_dec ?_ ?_ | refine s_dec ?_ ?_ | refine g_ndec ?_ ?_ | refine c_ndec ?_ ?_ | refine g_nbool ?_ ?_ | refine c_nbool ?_ ?_ | refine g_bool ?_ ?_ | refine c_bool ?_ ?_ | refine s_bool ?_ ?_) <;> intro h d <;> (try simp only [d]) <;> (try simp only [B1, B2, B3, B4, B5, B6, B7, B8] at h) <;> (try omega)))
    refine (hE _ _).1 _ (hx xs i _ _ ?_ (by omega) ⟨sl, hI'.par, frA, R.grow frA, f0, soA, ⟨pv, by simp -implicitDefEqProofs (disch := first | exact soD | fail) only [go_sem, ↓reduceIte, Nat.reduceEqDiff, Nat.reduceAdd, Nat.reduceLT, Nat.reduceLeDiff, Nat.reduceBEq, reduceCtorEq, gf], P.frame (S := fun _ => False) frA off_none, py⟩, by simp -implicitDefEqProofs (disch := first | exact soD | fail) only [go_sem, ↓reduceIte, Nat.reduceEqDiff, Nat.reduceAdd, Nat.reduceLT, Nat.reduceLeDiff, Nat.reduceBEq, reduceCtorEq, e0], by simp -implicitDefEqProofs (disch := first | exact soD | fail) only [go_sem, ↓reduceIte, Nat.reduceEqDiff, Nat.reduceAdd, Nat.reduceLT, Nat.reduceLeDiff, Nat.reduceBEq, reduceCtorEq, e2], by simp -implicitDefEqProofs (disch := first | exact soD | fail) only [go_sem, ↓reduceIte, Nat.reduceEqDiff, Nat.reduceAdd, Nat.reduceLT, Nat.reduceLeDiff, Nat.reduceBEq, reduceCtorEq, e4], by simp -implicitDefEqProofs (disch := first | exact soD | fail) only [go_sem, ↓reduceIte, Nat.reduceEqDiff, Nat.reduceAdd, Nat.reduceLT, Nat.reduceLeDiff, Nat.reduceBEq, reduceCtorEq, e5], by simp -implicitDefEqProofs (disch := first | exact soD | fail) only [go_sem, ↓reduceIte, Nat.reduceEqDiff, Nat.reduceAdd, Nat.reduceLT, Nat.reduceLeDiff, Nat.reduceBEq, reduceCtorEq, e31], by simp -implicitDefEqProofs (disch := first | exact soD | fail) only [go_sem, ↓reduceIte, Nat.reduceEqDiff, Nat.reduceAdd, Nat.reduceLT, Nat.reduceLeDiff, Nat.reduceBEq, reduceCtorEq, e32]⟩)
    rw [show N - xs.length = 0 by omega, pcat_done] at sx
    exact sx.symm
end
end Go.Proofs.YtiijjopdhjpalaaDoor

/-! Reading an image, in the program: a function's code. Conditions: none. -/
namespace Go.Proofs.YtiijjopdhjpalaaDoor
open Go
set_option linter.unusedSimpArgs false
set_option linter.unusedVariables false
theorem last_snoc (cs : List (GI × Nat)) (a : GI × Nat) : lastOp (cs ++ [a]) = a := by
  unfold lastOp nth
  rw [List.getD_eq_getElem?_getD, List.length_append, List.length_cons, List.length_nil, show (((cs.length + (0 + 1) : Nat) : Int) - 1).toNat = cs.length by omega, List.getElem?_append_right (Nat.le_refl _), Nat.sub_self]
  rfl
/-- Where the last instruction that was read begins. -/
def lp (s3 : Nat) (cs : List (GI × Nat)) : Nat := if cs.length = 0 then s3 else (lastOp cs).2
theorem lp_snoc (s3 : Nat) (cs : List (GI × Nat)) (a : GI × Nat) : lp s3 (cs ++ [a]) = a.2 := by
  unfold lp
  rw [if_neg (by simp), last_snoc]
theorem pcode_bad {ts : List GT} {nf lo co : Int} {b : List Int} {j k : Nat} {e : Int} (h : pinstr ts nf lo co b j = .bad k e) : pcode ts nf lo co b j = .bad k e := by
  show pbind (pinstr ts nf lo co) _ b j = _
  exact pb_bad h
theorem pcode_ok {ts : List GT} {nf lo co : Int} {b : List Int} {j k : Nat} {x : GI} (h : pinstr ts nf lo co b j = .ok x k) : pcode ts nf lo co b j = .ok (x, j) k := by
  show pbind (pinstr ts nf lo co) _ b j = _
  rw [pb_ok h]
  rfl
section
variable {m : AMem} {dc r id : Nat} {b : List Int} {tv fs : AV} {nf : Int}
/-- The loop over the code. -/
structure CI (m : AMem) (dc r id : Nat) (b : List Int) (ts : List GT) (like : List Int) (nz : Nat) (lo : Int) (N fid sid z s3 : Nat) (fst : Bool) (pv : AV) (ps : List Int) (res loc : Int) (X : PR (List (GI × Nat))) (s : List (GI × Nat) × Nat) (env : AEnv) (w : AMem) : Prop where
  len : s.1.length ≤ N
  par : pcat s.1 (prep (pcode ts nz lo N) (N - s.1.length) b s.2) = X
  fr : Fr (fun x => x = r) m w
  rd : RD w r id b s.2 0 0
  f0 : m.next ≤ fid
  f1 : fid < w.next
  ff : ∃ cv, w.get fid = some (.arr 48 4 [.agg [pv, avI res, avI loc, cv]]) ∧ CV w cv (s.1.map (·.1)) ∧ ∀ y, SId cv y → m.next ≤ y
  pp : NV w pv ps
  c0 : m.next ≤ sid
  c1 : sid < w.next
  sc : w.get sid = some (.arr 81 4 [.agg [TT (T0 ts) like, .sl 4 z 0 nz, avI lo, avI N]])
  z1 : z < w.next
  zz : w.get z = some (.arr 48 4 (List.replicate nz (.agg [.nils, avI 0, avI 0, .nils])))
  zf : ¬ z = fid
  e0 : env 0 = .ptr dc 0 0
  e3 : env 3 = avI (lp s3 s.1)
  e4 : env 4 = .ptr fid 0 0
  e6 : env 6 = avI N
  e7 : env 7 = .ptr sid 0 0
  e97 : env 97 = avI N
  e98 : env 98 = avI s.1.length
set_option maxHeartbeats 4000000 in
theorem func_code (n : Nat) {ts : List GT} {like : List Int} (hpt : ∀ x ∈ T0 ts, x.parts.length ≤ 1000) {nz : Nat} {lo : Int} {N fid sid z s3 : Nat} {fst : Bool} {pv : AV} {ps : List Int} {res loc : Int} (hN0 : N ≤ 300) (hb : BB b) (hl : b.length ≤ 1048576) (D : DD m dc r tv fs (TT (T0 ts) like) nf)
    {X : PR (List (GI × Nat))} {Q : AOut → AMem → Prop} {K : Kont} {s0 : List (GI × Nat) × Nat} {env : AEnv} {w : AMem} (hI : CI m dc r id b ts like nz lo N fid sid z s3 fst pv ps res loc X s0 env w)
    (hx : ∀ (xs : List (GI × Nat)) (i : Nat) (env' : AEnv) (w' : AMem), X = .ok xs i → xs.length = N → CI m dc r id b ts like nz lo N fid sid z s3 fst pv ps res loc X (xs, i) env' w' → Wp (K (.exit 2) env' w') Q)
    (hp : ∀ (k : Nat) (e : Int) (env' : AEnv) (w' : AMem), X = .bad k e → Fr (fun x => x = r) m w' → Wp (K (.panic (W k e)) env' w') Q) :
    Wp (loopN LOOPK (aCode (callsN cfg (n + 4)) lb47_1) env w K) Q := by
  refine wp_loop (CI m dc r id b ts like nz lo N fid sid z s3 fst pv ps res loc X) (fun s => N - s.1.length) (fun s env w K' hI hN hE => ?_) LOOPK s0 _ _ hI (by rw [LOOPK_eq]; have := hI.len; omega)
  obtain ⟨xs, i⟩ := s
  have hI' := hI
  obtain ⟨sl, sx, f, R, f0, f1, ⟨cv, gf, P, py⟩, pp, c0, c1, gs, z1, gz, zf, e0, e3, e4, e6, e7, e97, e98⟩ := hI
  simp only at sl sx R P e98 hN
  have n1 := D.ne
  have D1 := D.frame f n1
  unfold lb47_1
  by_cases c : xs.length < N
  · rw [show N - xs.length = (N - xs.length - 1) + 1 by omega] at sx
    obtain ⟨es, O, el, ea⟩ := P.ov
    rw [List.length_map] at el
    obtain ⟨o1, o2, o3, o4, o5⟩ := O.flat
    have ob := O.beq
    obtain ⟨_, PO, _⟩ := pp.ov
    obtain ⟨p1, p2, p3, p4, p5⟩ := PO.flat
    have gd := D1.dd
    have ld := D1.ld
    have gr := R.rd
    have gi := R.bs
    have lr := R.lr
    have lb := R.lb
    have fn := f.next
    have nfr : ¬ fid = r := fun e => by
      rw [e, gr] at gf
      cases gf
    have nfd : ¬ fid = dc := fun e => by
      rw [e, gd] at gf
      cases gf
    have nfi : ¬ fid = id := fun e => by
      rw [e, gi] at gf
      cases gf
    have nsr : ¬ sid = r := fun e => by
      rw [e, gr] at gs
      cases gs
    have nzr : ¬ z = r := fun e => by
      rw [e, gr] at gz
      cases gz
    have nsdf : ¬ sid = fid := fun e => by
      rw [e, gf] at gs
      cases gs
    have hA := @sp_At (n + 3) (r := r) (id := id) (b := b) (j := i) (k := ((0 : Nat) : Int)) (e := 0)
    repeat' (first | simp -implicitDefEqProofs (disch := first | exact soE | (simp -implicitDefEqProofs (disch := first | exact soE | fail) only [go_sem, ↓reduceIte, Nat.reduceEqDiff, Nat.reduceAdd, Nat.reduceLT, Nat.reduceLeDiff, Nat.reduceBEq, reduceCtorEq, e0, e4, e6, e7, e97, e98, gd, gf, gr, gi, gs, hA, o1]; done) | fail) only [go_sem, ↓reduceIte, Nat.reduceEqDiff, Nat.reduceAdd, Nat.reduceLT, Nat.reduceLeDiff, Nat.reduceBEq, reduceCtorEq, e0, e4, e6, e7, e97, e98, gd, gf, gr, gi, gs, hA, o1] | ((with_reducible first | refine g_dec ?_ ?_ | refine c_dec ?_ ?_ | refine s_dec ?_ ?_ | refine g_ndec ?_ ?_ | refine c_ndec ?_ ?_ | refine g_nbool ?_ ?_ | refine c_nbool ?_ ?_ | refine g_bool ?_ ?_ | refine c_bool ?_ ?_ | refine s_bool ?_ ?_) <;> intro h d <;> (try simp only [d]) <;> (try simp only [B1, B2, B3, B4, B5, B6, B7, B8] at h) <;> (try omega)))
    refine call_sd (sp_instr n hpt hb hl (D1.grow frA) (R.grow frA) (nz := nz) ⟨z, rfl, soA, by simp -implicitDefEqProofs (disch := first | exact soD | fail) only [go_sem, ↓reduceIte, Nat.reduceEqDiff, Nat.reduceAdd, Nat.reduceLT, Nat.reduceLeDiff, Nat.reduceBEq, reduceCtorEq]; exact gz⟩) (fun x k v m1 hx1 g1 hv R1 => ?_) (fun k e m1 hx1 g1 => ?_)
    · subst hv
      rw [pcat_ok (pcode_ok hx1)] at sx
      have g1n := g1.next
      simp only [room_next, put_next] at g1n
      have F1 : Fr (fun x => x = r) w m1 := Fr.trans frA g1
      have gf1 := F1.get gf f1 nfr
      repeat' (first | simp -implicitDefEqProofs (disch := first | exact soD | fail) only [go_sem, ↓reduceIte, Nat.reduceEqDiff, Nat.reduceAdd, Nat.reduceLT, Nat.reduceLeDiff, Nat.reduceBEq, reduceCtorEq, e0, e4, e6, e7, e97, e98, gf1, o1, ob, Nat.reduceBEq] | ((with_reducible first | refine g_dec ?_ ?_ | refine c_dec ?_ ?_ | refine s_dec ?_ ?_ | refine g_ndec ?_ ?_ | refine c_ndec ?_ ?_ | refine g_nbool ?_ ?_ | refine c_nbool ?_ ?_ | refine g_bool ?_ ?_ | refine c_bool ?_ ?_ | refine s_bool ?_ ?_) <;> intro h d <;> (try simp only [d]) <;> (try simp only [B1, B2, B3, B4, B5, B6, B7, B8] at h) <;> (try omega)))
      refine app_sd (O.frame (S := fun x => x = r) frA (off_r R (by decide))) soA (by omega) (fun p f4 gp lp => ?_)
      have nsf : ¬ SId cv fid := O.ne gf (by decide)
      have gfp := f4.get (id := fid) (by simp -implicitDefEqProofs (disch := first | exact soD | fail) only [go_sem, ↓reduceIte, Nat.reduceEqDiff, Nat.reduceAdd, Nat.reduceLT, Nat.reduceLeDiff, Nat.reduceBEq, reduceCtorEq]; exact gf1) soA (fun c => c.elim nsf (fun e => by omega))
      repeat' (first | simp -implicitDefEqProofs (disch := first | exact soD | fail) only [go_sem, ↓reduceIte, Nat.reduceEqDiff, Nat.reduceAdd, Nat.reduceLT, Nat.reduceLeDiff, Nat.reduceBEq, reduceCtorEq, e0, e4, e6, e7, e97, e98, gfp, o1, ob, Nat.reduceBEq] | ((with_reducible first | refine g_dec ?_ ?_ | refine c_dec ?_ ?_ | refine s_dec ?_ ?_ | refine g_ndec ?_ ?_ | refine c_ndec ?_ ?_ | refine g_nbool ?_ ?_ | refine c_nbool ?_ ?_ | refine g_bool ?_ ?_ | refine c_bool ?_ ?_ | refine s_bool ?_ ?_) <;> intro h d <;> (try simp only [d]) <;> (try simp only [B1, B2, B3, B4, B5, B6, B7, B8] at h) <;> (try omega)))
      have nsr' : ¬ SId cv r := O.ne gr (by decide)
      have nsi' : ¬ SId cv id := O.ne gi (by decide)
      have FW : Fr (fun y => y = r ∨ (SId cv y ∨ y = w.next + 1 + 6 + 6)) w p := Fr.trans ((frA : Fr (fun x => x = r) w _).mono fun _ _ h => .inl h) (f4.mono fun _ _ h => .inr h)
      have ow : ∀ {t : Nat}, t ≠ 93 → t ≠ 45 → Off (fun y => y = r ∨ (SId cv y ∨ y = w.next + 1 + 6 + 6)) w t := fun h1 h2 => off_or (off_r R h1) (off_or (O.off h2) (off_gone (w.wf _ (by omega))))
      have FM : Fr (fun x => x = r) m p := Fr.up f FW (fun y h => h.elim .inr (fun h => .inl (h.elim (py y) (fun e => by omega))))
      have g5 : ∀ {O z}, Fr (fun x => x = fid) p ((p.put fid O).room z) := Fr.room (Fr.put (S := fun x => x = fid) Fr.refl _ (.inr rfl)) _
      have wp := FW.next
      refine hN (xs ++ [(x, i)], k) _ _ ⟨by simp; omega, ?_, frA, ((R1.frame (S := fun x => w.next ≤ x) frA (by omega) (by omega)).frame f4 (fun c => c.elim nsr' (fun e => by omega)) (fun c => c.elim nsi' (fun e => by omega))).frame g5 (fun e => nfr e.symm) (fun e => nfi e.symm), f0, soA, ⟨.sl 3 (w.next + 1 + 6 + 6) 0 (es.length + 1), sxA, ?_, fun y ⟨_, _, _, h⟩ => by cases h; omega⟩,
        (pp.frame FW (ow (by decide) (by decide))).frame g5 (off_eq gfp (by decide)), c0, soA, g5.get (FW.get gs c1 (fun c => c.elim nsr (fun c => c.elim (O.ne gs (by decide)) (fun e => by omega)))) (by omega) nsdf, soA, g5.get (FW.get gz z1 (fun c => c.elim nzr (fun c => c.elim (O.ne gz (by decide)) (fun e => by omega)))) (by omega) zf, zf, by simp -implicitDefEqProofs (disch := first | exact soD | fail) only [go_sem, ↓reduceIte, Nat.reduceEqDiff, Nat.reduceAdd, Nat.reduceLT, Nat.reduceLeDiff, Nat.reduceBEq, reduceCtorEq, e0], by simp -implicitDefEqProofs (disch := first | exact soD | fail) only [go_sem, ↓reduceIte, Nat.reduceEqDiff, Nat.reduceAdd, Nat.reduceLT, Nat.reduceLeDiff, Nat.reduceBEq, reduceCtorEq]; rw [lp_snoc], by simp -implicitDefEqProofs (disch := first | exact soD | fail) only [go_sem, ↓reduceIte, Nat.reduceEqDiff, Nat.reduceAdd, Nat.reduceLT, Nat.reduceLeDiff, Nat.reduceBEq, reduceCtorEq, e4], by simp -implicitDefEqProofs (disch := first | exact soD | fail) only [go_sem, ↓reduceIte, Nat.reduceEqDiff, Nat.reduceAdd, Nat.reduceLT, Nat.reduceLeDiff, Nat.reduceBEq, reduceCtorEq, e6], by simp -implicitDefEqProofs (disch := first | exact soD | fail) only [go_sem, ↓reduceIte, Nat.reduceEqDiff, Nat.reduceAdd, Nat.reduceLT, Nat.reduceLeDiff, Nat.reduceBEq, reduceCtorEq, e7], by simp -implicitDefEqProofs (disch := first | exact soD | fail) only [go_sem, ↓reduceIte, Nat.reduceEqDiff, Nat.reduceAdd, Nat.reduceLT, Nat.reduceLeDiff, Nat.reduceBEq, reduceCtorEq, e97], ?_⟩ ?_
      · rw [List.length_append, ← Nat.sub_sub]
        exact sx
      · rw [List.map_append]
        exact SV.snoc (by rw [el, List.length_map]) ea rfl soA (by simp -implicitDefEqProofs (disch := first | exact soD | fail) only [go_sem, ↓reduceIte, Nat.reduceEqDiff, Nat.reduceAdd, Nat.reduceLT, Nat.reduceLeDiff, Nat.reduceBEq, reduceCtorEq]; exact gp)
      · simp -implicitDefEqProofs (disch := first | exact soD | fail) only [go_sem, ↓reduceIte, Nat.reduceEqDiff, Nat.reduceAdd, Nat.reduceLT, Nat.reduceLeDiff, Nat.reduceBEq, reduceCtorEq, List.length_append]
        rfl
      · show N - (xs ++ [(x, i)]).length < N - xs.length
        rw [List.length_append, List.length_cons]
        omega
    · rw [pcat_bad (pcode_bad hx1)] at sx
      repeat' (first | simp -implicitDefEqProofs (disch := first | exact soD | fail) only [go_sem, ↓reduceIte, Nat.reduceEqDiff, Nat.reduceAdd, Nat.reduceLT, Nat.reduceLeDiff, Nat.reduceBEq, reduceCtorEq] | ((with_reducible first | refine g_dec ?_ ?_ | refine c_dec ?_ ?_ | refine s_dec ?_ ?_ | refine g_ndec ?_ ?_ | refine c_ndec ?_ ?_ | refine g_nbool ?_ ?_ | refine c_nbool ?_ ?_ | refine g_bool ?_ ?_ | refine c_bool ?_ ?_ | refine s_bool ?_ ?_) <;> intro h d <;> (try simp only [d]) <;> (try simp only [B1, B2, B3, B4, B5, B6, B7, B8] at h) <;> (try omega)))
      refine (hE _ _).2.2 _ ?_
      exact hp _ _ _ _ sx.symm (Fr.trans f (Fr.trans frA g1))
  · repeat' (first | simp -implicitDefEqProofs (disch := first | exact soD | fail) only [go_sem, ↓reduceIte, Nat.reduceEqDiff, Nat.reduceAdd, Nat.reduceLT, Nat.reduceLeDiff, Nat.reduceBEq, reduceCtorEq, e0, e4, e6, e7, e97, e98] | ((with_reducible first | refine g_dec ?_ ?_ | refine c_dec ?_ ?_ | refine s_dec ?_ ?_ | refine g_ndec ?_ ?_ | refine c_ndec ?_ ?_ | refine g_nbool ?_ ?_ | refine c_nbool ?_ ?_ | refine g_bool ?_ ?_ | refine c_bool ?_ ?_ | refine s_bool ?_ ?_) <;> intro h d <;> (try simp only [d]) <;> (try simp only [B1, B2, B3, B4, B5, B6, B7, B8] at h) <;> (try omega)))
    refine (hE _ _).1 _ (hx xs i _ _ ?_ (by omega) ⟨sl, hI'.par, frA, R.grow frA, f0, soA, ⟨cv, by simp -implicitDefEqProofs (disch := first | exact soD | fail) only [go_sem, ↓reduceIte, Nat.reduceEqDiff, Nat.reduceAdd, Nat.reduceLT, Nat.reduceLeDiff, Nat.reduceBEq, reduceCtorEq, gf], P.frame (S := fun _ => False) frA off_none, py⟩, pp.frame (S := fun _ => False) frA off_none, c0, soA, by simp -implicitDefEqProofs (disch := first | exact soD | fail) only [go_sem, ↓reduceIte, Nat.reduceEqDiff, Nat.reduceAdd, Nat.reduceLT, Nat.reduceLeDiff, Nat.reduceBEq, reduceCtorEq, gs], soA, by simp -implicitDefEqProofs (disch := first | exact soD | fail) only [go_sem, ↓reduceIte, Nat.reduceEqDiff, Nat.reduceAdd, Nat.reduceLT, Nat.reduceLeDiff, Nat.reduceBEq, reduceCtorEq, gz], zf, by simp -implicitDefEqProofs (disch := first | exact soD | fail) only [go_sem, ↓reduceIte, Nat.reduceEqDiff, Nat.reduceAdd, Nat.reduceLT, Nat.reduceLeDiff, Nat.reduceBEq, reduceCtorEq, e0], by simp -implicitDefEqProofs (disch := first | exact soD | fail) only [go_sem, ↓reduceIte, Nat.reduceEqDiff, Nat.reduceAdd, Nat.reduceLT, Nat.reduceLeDiff, Nat.reduceBEq, reduceCtorEq, e3], by simp -implicitDefEqProofs (disch := first | exact soD | fail) only [go_sem, ↓reduceIte, Nat.reduceEqDiff, Nat.reduceAdd, Nat.reduceLT, Nat.reduceLeDiff, Nat.reduceBEq, reduceCtorEq, e4], by simp -implicitDefEqProofs (disch := first | exact soD | fail) only [go_sem, ↓reduceIte, Nat.reduceEqDiff, Nat.reduceAdd, Nat.reduceLT, Nat.reduceLeDiff, Nat.reduceBEq, reduceCtorEq, e6], by simp -implicitDefEqProofs (disch := first | exact soD | fail) only [go_sem, ↓reduceIte, Nat.reduceEqDiff, Nat.reduceAdd, Nat.reduceLT, Nat.reduceLeDiff, Nat.reduceBEq, reduceCtorEq, e7], by simp -implicitDefEqProofs (disch := first | exact soD | fail) only [go_sem, ↓reduceIte, Nat.reduceEqDiff, Nat.reduceAdd, Nat.reduceLT, Nat.reduceLeDiff, Nat.reduceBEq, reduceCtorEq, e97], by simp -implicitDefEqProofs (disch := first | exact soD | fail) only [go_sem, ↓reduceIte, Nat.reduceEqDiff, Nat.reduceAdd, Nat.reduceLT, Nat.reduceLeDiff, Nat.reduceBEq, reduceCtorEq, e98]⟩)
    rw [show N - xs.length = 0 by omega, pcat_done] at sx
    exact sx.symm
end
end Go.Proofs.YtiijjopdhjpalaaDoor

/-! Reading an image, in the program: the end of a function. Conditions: none. -/
namespace Go.Proofs.YtiijjopdhjpalaaDoor
open Go
set_option linter.unusedSimpArgs false
set_option linter.unusedVariables false
section
variable {m : AMem} {dc r id : Nat} {b : List Int} {tv fsv : AV}
/-- What a function leaves. -/
def FE (m : AMem) (dc r : Nat) (tv : AV) (ts : List GT) (like : List Int) (nz : Nat) (l : List GF) (f : GF) (v : AV) (m' : AMem) : Prop :=
  v = .tup [] ∧ ∃ fsv', DD m' dc r tv fsv' (TT (T0 ts) like) nz ∧ FL m' fsv' (l ++ [f]) ∧ ∀ y, SId fsv' y → m.next ≤ y
set_option maxHeartbeats 4000000 in
theorem func_end (n : Nat) {ts : List GT} {like : List Int} {nz : Nat} {lo : Int} {N fid sid z s3 k : Nat} {fst : Bool} {pv : AV} {ps : List Int} {res loc : Int} {l : List GF} {xs : List (GI × Nat)} {Y : PR (List (GI × Nat))} {env : AEnv} {w : AMem} (hN0 : N ≤ 300) (hlen : xs.length = N) (hll : l.length ≤ 60)
    (D : DD m dc r tv fsv (TT (T0 ts) like) nz) (L : FL m fsv l) (hR0 : ∃ j, RD m r id b j 0 0) (hI : CI m dc r id b ts like nz lo N fid sid z s3 fst pv ps res loc Y (xs, k) env w) :
    Wp (aCode (callsN cfg (n + 4)) ls47_0 env w (fin []))
      (PQ (fun x => x = r ∨ x = dc ∨ SId fsv x) m r id b ((if (N : Int) = 0 then pfail s3 9 else if ends (lastOp xs).1.op = false then pfail (lastOp xs).2 9 else ppure ⟨ps, res, loc, xs.map (·.1)⟩ : Par GF) b k) (FE m dc r tv ts like nz l)) := by
  obtain ⟨_, _, f, R, f0, f1, ⟨cv, gf, P, py⟩, pp, _, _, _, _, _, _, e0, e3, e4, e6, _, _, _⟩ := hI
  simp only at R P e3
  obtain ⟨j0, R0⟩ := hR0
  have n1 := D.ne
  have D1 := D.frame f n1
  have gd := D1.dd
  have ld := D1.ld
  have gr := R.rd
  have gi := R.bs
  have lr := R.lr
  have lb := R.lb
  have fn := f.next
  obtain ⟨es, O0, el, ea⟩ := L.ov
  have O := O0.frame f (off_r R0 (by decide))
  obtain ⟨o1, o2, o3, o4, o5⟩ := O.flat
  unfold ls47_0
  have nfr : ¬ fid = r := fun e => by
    rw [e, gr] at gf
    cases gf
  have nfd : ¬ fid = dc := fun e => by
    rw [e, gd] at gf
    cases gf
  by_cases c : N = 0
  · rw [if_pos (by omega)]
    have hlp : lp s3 xs = s3 := by unfold lp; rw [if_pos (by omega)]
    rw [hlp] at e3
    subst c
    repeat' (first | simp -implicitDefEqProofs (disch := first | exact soD | fail) only [go_sem, ↓reduceIte, Nat.reduceEqDiff, Nat.reduceAdd, Nat.reduceLT, Nat.reduceLeDiff, Nat.reduceBEq, reduceCtorEq, Int.reduceEq, e0, e3, e4, e6, gd, gf, show ((0 : Nat) : Int) = 0 from rfl, ce43, x_body, cf43] | ((with_reducible first | refine g_dec ?_ ?_ | refine c_dec ?_ ?_ | refine s_dec ?_ ?_ | refine g_ndec ?_ ?_ | refine c_ndec ?_ ?_ | refine g_nbool ?_ ?_ | refine c_nbool ?_ ?_ | refine g_bool ?_ ?_ | refine c_bool ?_ ?_ | refine s_bool ?_ ?_) <;> intro h d <;> (try simp only [d]) <;> (try simp only [B1, B2, B3, B4, B5, B6, B7, B8] at h) <;> (try omega)))
    exact PQ.bad ((frA : Fr (fun x => x = r) m _).mono fun _ _ h => .inl h)
  · rw [if_neg (by omega)]
    have hlp : lp s3 xs = (lastOp xs).2 := by unfold lp; rw [if_neg (by omega)]
    rw [hlp] at e3
    have hE := fun q => sp_Ends (n + 3) (lastOp xs).1.op q
    obtain ⟨_, PO, _⟩ := pp.ov
    obtain ⟨p1, p2, p3, p4, p5⟩ := PO.flat
    have P' := P
    rcases P with ⟨h, _⟩ | ⟨cid, cs, rfl, hc1, gc, hcl, hca⟩
    · have : xs.length = 0 := by simpa using congrArg List.length h
      omega
    · rw [List.length_map] at hcl
      have hlast : cs[((N : Int) - 1).toNat]? = some (lastOp xs).1.av := by
        have h1 := nth_get? xs ((xs.length : Int) - 1) (by omega) (by omega)
        obtain ⟨e, h2, h3⟩ := hca ((xs.length : Int) - 1).toNat (lastOp xs).1 (by rw [List.getElem?_map, h1]; rfl)
        rw [← hlen, h2, h3]
      have d0 : decide ((N : Int) = 0) = false := decide_eq_false (by omega)
      rw [List.length_map, hlen] at gf P' py
      cases he : ends (lastOp xs).1.op with
      | false =>
        rw [he] at hE
        rw [if_pos rfl]
        repeat' (first | simp -implicitDefEqProofs (disch := first | exact soD | fail) only [go_sem, ↓reduceIte, Nat.reduceEqDiff, Nat.reduceAdd, Nat.reduceLT, Nat.reduceLeDiff, Nat.reduceBEq, reduceCtorEq, Int.reduceEq, e0, e3, e4, e6, gd, gf, d0, gc, hlast, hE, ce43, x_body, cf43] | ((with_reducible first | refine g_dec ?_ ?_ | refine c_dec ?_ ?_ | refine s_dec ?_ ?_ | refine g_ndec ?_ ?_ | refine c_ndec ?_ ?_ | refine g_nbool ?_ ?_ | refine c_nbool ?_ ?_ | refine g_bool ?_ ?_ | refine c_bool ?_ ?_ | refine s_bool ?_ ?_) <;> intro h d <;> (try simp only [d]) <;> (try simp only [B1, B2, B3, B4, B5, B6, B7, B8] at h) <;> (try omega)))
        exact PQ.bad ((frA : Fr (fun x => x = r) m _).mono fun _ _ h => .inl h)
      | true =>
        rw [he] at hE
        rw [if_neg (by decide)]
        repeat' (first | simp -implicitDefEqProofs (disch := first | exact soD | fail) only [go_sem, ↓reduceIte, Nat.reduceEqDiff, Nat.reduceAdd, Nat.reduceLT, Nat.reduceLeDiff, Nat.reduceBEq, reduceCtorEq, Int.reduceEq, e0, e3, e4, e6, gd, gf, d0, gc, hlast, hE, o1, p1, p2, p3, p4] | ((with_reducible first | refine g_dec ?_ ?_ | refine c_dec ?_ ?_ | refine s_dec ?_ ?_ | refine g_ndec ?_ ?_ | refine c_ndec ?_ ?_ | refine g_nbool ?_ ?_ | refine c_nbool ?_ ?_ | refine g_bool ?_ ?_ | refine c_bool ?_ ?_ | refine s_bool ?_ ?_) <;> intro h d <;> (try simp only [d]) <;> (try simp only [B1, B2, B3, B4, B5, B6, B7, B8] at h) <;> (try omega)))
        refine app_wp (O.frame (S := fun x => x = r) frA (off_r R (by decide))) soA (by omega) (fun p f4 gp lp => ?_)
        have nsd : ¬ SId fsv dc := O.ne gd (by decide)
        have nsr : ¬ SId fsv r := O.ne gr (by decide)
        have nsi : ¬ SId fsv id := O.ne gi (by decide)
        have gdp := f4.get (id := dc) (by simp -implicitDefEqProofs (disch := first | exact soD | fail) only [go_sem, ↓reduceIte, Nat.reduceEqDiff, Nat.reduceAdd, Nat.reduceLT, Nat.reduceLeDiff, Nat.reduceBEq, reduceCtorEq]; exact gd) soA (fun c => c.elim nsd (fun e => by omega))
        repeat' (first | simp -implicitDefEqProofs (disch := first | exact soD | fail) only [go_sem, ↓reduceIte, Nat.reduceEqDiff, Nat.reduceAdd, Nat.reduceLT, Nat.reduceLeDiff, Nat.reduceBEq, reduceCtorEq, Int.reduceEq, e0, e3, e4, e6, gdp, o1] | ((with_reducible first | refine g_dec ?_ ?_ | refine c_dec ?_ ?_ | refine s_dec ?_ ?_ | refine g_ndec ?_ ?_ | refine c_ndec ?_ ?_ | refine g_nbool ?_ ?_ | refine c_nbool ?_ ?_ | refine g_bool ?_ ?_ | refine c_bool ?_ ?_ | refine s_bool ?_ ?_) <;> intro h d <;> (try simp only [d]) <;> (try simp only [B1, B2, B3, B4, B5, B6, B7, B8] at h) <;> (try omega)))
        have FW : Fr (fun y => y = r ∨ (SId fsv y ∨ y = w.next + 13 + 8)) w p := Fr.trans ((frA : Fr (fun x => x = r) w _).mono fun _ _ h => .inl h) (f4.mono fun _ _ h => .inr h)
        have ow : ∀ {t : Nat}, t ≠ 93 → t ≠ 48 → Off (fun y => y = r ∨ (SId fsv y ∨ y = w.next + 13 + 8)) w t := fun h1 h2 => off_or (off_r R h1) (off_or (O.off h2) (off_gone (w.wf _ (by omega))))
        have g5 : ∀ {O z}, Fr (fun x => x = dc) p ((p.put dc O).room z) := Fr.room (Fr.put (S := fun x => x = dc) Fr.refl _ (.inr rfl)) _
        have g5' : ∀ {O}, Fr (fun x => x = dc) p (p.put dc O) := Fr.put (S := fun x => x = dc) Fr.refl _ (.inr rfl)
        have od : ∀ {t : Nat}, t ≠ 69 → Off (fun x => x = dc) p t := fun h => off_eq gdp (fun e => h e.symm)
        have wp := FW.next
        have nni : ¬ id = dc := D1.nid R
        have FM : Fr (fun x => x = r ∨ x = dc ∨ SId fsv x) m p := Fr.up (S := fun x => x = r ∨ x = dc ∨ SId fsv x) (f.mono fun _ _ h => .inl h) FW (fun y h => by
          rcases h with h | h | h
          · exact .inr (.inl h)
          · exact .inr (.inr (.inr h))
          · exact .inl (by omega))
        have gcp : NV p pv ps := pp.frame FW (ow (by decide) (by decide))
        have gcc := CV.frame P' FW (ow (by decide) (by decide))
        refine PQ.ok (FM.trans (g5'.mono fun _ _ h => .inr (.inl h))) ⟨rfl, .sl 4 (w.next + 13 + 8) 0 (es.length + 1), ⟨sxA, soA, n1⟩, ?_, fun y ⟨_, _, _, h⟩ => by cases h; omega⟩ ?_
        · refine SV.snoc el (fun j a hj => ?_) ⟨pv, .sl 3 cid 0 N, rfl, gcp.frame g5' (od (by decide)), gcc.frame g5' (od (by decide))⟩ soA (by simp -implicitDefEqProofs (disch := first | exact soD | fail) only [go_sem, ↓reduceIte, Nat.reduceEqDiff, Nat.reduceAdd, Nat.reduceLT, Nat.reduceLeDiff, Nat.reduceBEq, reduceCtorEq]; exact gp)
          obtain ⟨e, h1, h2⟩ := ea j a hj
          exact ⟨e, h1, ((h2.frame f (off_r R0 (by decide)) (off_r R0 (by decide))).frame FW (ow (by decide) (by decide)) (ow (by decide) (by decide))).frame g5' (od (by decide)) (od (by decide))⟩
        · exact ((R.frame (S := fun x => w.next ≤ x) frA (by omega) (by omega)).frame f4 (fun c => c.elim nsr (fun e => by omega)) (fun c => c.elim nsi (fun e => by omega))).frame g5' (fun e => n1 e.symm) nni
end
end Go.Proofs.YtiijjopdhjpalaaDoor

/-! Reading an image, in the program: a function whole. Conditions: none. -/
namespace Go.Proofs.YtiijjopdhjpalaaDoor
open Go
set_option linter.unusedSimpArgs false
set_option linter.unusedVariables false
def pf3 (ts : List GT) (nf n : Int) (ps : List Int) (r lo : Int) : Par GF := pat fun s3 => pbind (pnumber 301 5) fun size => pbind (prep (pcode ts nf (n + lo) size) size.toNat) fun cs =>
  if size = 0 then pfail s3 9 else if ends (lastOp cs).1.op = false then pfail (lastOp cs).2 9 else ppure ⟨ps, r, lo, cs.map (·.1)⟩
def pf2 (ts : List GT) (nf : Int) (first : Bool) (n : Int) (ps : List Int) : Par GF := pat fun s2 => pbind (pnumber (ts.length + 2) 7) fun r =>
  if first = true ∧ r ≠ 0 then pfail s2 8 else pbind (pnumber (32 - n + 1) 5) fun lo => pf3 ts nf n ps r lo
theorem pfunc_eq (ts : List GT) (nf : Int) (first : Bool) : pfunc ts nf first = pat fun st => pbind (pnumber 17 5) fun n => if first = true ∧ 0 < n then pfail st 8 else pbind (prep (pnumber (ts.length + 2) 7) n.toNat) fun ps => pf2 ts nf first n ps := rfl
theorem pf2_bad {ts : List GT} {nf : Int} {first : Bool} {n : Int} {ps : List Int} {b : List Int} {i k : Nat} {e : Int} (h : pnumber (ts.length + 2) 7 b i = .bad k e) : pf2 ts nf first n ps b i = .bad k e := by
  show pbind (pnumber (ts.length + 2) 7) _ b i = _
  exact pb_bad h
theorem pf2_ok {ts : List GT} {nf : Int} {first : Bool} {n : Int} {ps : List Int} {b : List Int} {i k : Nat} {r : Int} (h : pnumber (ts.length + 2) 7 b i = .ok r k) : pf2 ts nf first n ps b i = (if first = true ∧ r ≠ 0 then pfail i 8 else pbind (pnumber (32 - n + 1) 5) fun lo => pf3 ts nf n ps r lo : Par GF) b k := by
  show pbind (pnumber (ts.length + 2) 7) _ b i = _
  exact pb_ok h
theorem pf3_bad {ts : List GT} {nf n : Int} {ps : List Int} {r lo : Int} {b : List Int} {i k : Nat} {e : Int} (h : pnumber 301 5 b i = .bad k e) : pf3 ts nf n ps r lo b i = .bad k e := by
  show pbind (pnumber 301 5) _ b i = _
  exact pb_bad h
theorem pf3_bad2 {ts : List GT} {nf n : Int} {ps : List Int} {r lo : Int} {b : List Int} {i k l : Nat} {a e : Int} (h : pnumber 301 5 b i = .ok a k) (h2 : prep (pcode ts nf (n + lo) a) a.toNat b k = .bad l e) : pf3 ts nf n ps r lo b i = .bad l e := by
  show pbind (pnumber 301 5) _ b i = _
  rw [pb_ok h]
  exact pb_bad h2
theorem pf3_ok {ts : List GT} {nf n : Int} {ps : List Int} {r lo : Int} {b : List Int} {i k l : Nat} {a : Int} {cs : List (GI × Nat)} (h : pnumber 301 5 b i = .ok a k) (h2 : prep (pcode ts nf (n + lo) a) a.toNat b k = .ok cs l) : pf3 ts nf n ps r lo b i = (if a = 0 then pfail i 9 else if ends (lastOp cs).1.op = false then pfail (lastOp cs).2 9 else ppure ⟨ps, r, lo, cs.map (·.1)⟩ : Par GF) b l := by
  show pbind (pnumber 301 5) _ b i = _
  rw [pb_ok h]
  exact pb_ok h2
section
variable {m : AMem} {dc r id : Nat} {b : List Int} {tv fsv : AV}
set_option maxHeartbeats 4000000 in
theorem func_mid (n : Nat) {ts : List GT} {like : List Int} {nz : Nat} {N fid i : Nat} {fst : Bool} {l : List GF} {xs : List Int} {X : PR (List Int)} {env : AEnv} {w : AMem} (hts : ts.length ≤ 60) (hpt : ∀ x ∈ T0 ts, x.parts.length ≤ 1000) (hnz : nz ≤ 50) (hN0 : N ≤ 16) (hlen : xs.length = N) (hll : l.length ≤ 60) (hb : BB b) (hl : b.length ≤ 1048576)
    (D : DD m dc r tv fsv (TT (T0 ts) like) nz) (L : FL m fsv l) (hR0 : ∃ j, RD m r id b j 0 0) (hI : PI1 m dc r id b (ts.length + 2) N fid fst X (xs, i) env w) :
    Wp (aCode (callsN cfg (n + 4)) ls47_1 env w (fin []))
      (PQ (fun x => x = r ∨ x = dc ∨ SId fsv x) m r id b (pf2 ts nz fst N xs b i) (FE m dc r tv ts like nz l)) := by
  obtain ⟨_, _, f, R, f0, f1, ⟨pv, gf, P, py⟩, e0, e2, e4, e5, _, _⟩ := hI
  simp only at R P
  have n1 := D.ne
  have D1 := D.frame f n1
  have gd := D1.dd
  have ld := D1.ld
  have gr := R.rd
  have gi := R.bs
  have lr := R.lr
  have lb := R.lb
  have fn := f.next
  have hL := fun q => sp_Len (n + 3) (T0 ts) like q
  rw [T0_len] at hL
  have hA := @sp_At (n + 3) (r := r) (id := id) (b := b) (j := i) (k := ((0 : Nat) : Int)) (e := 0)
  obtain ⟨_, PO, _⟩ := P.ov
  obtain ⟨p1, p2, p3, p4, p5⟩ := PO.flat
  have nfr : ¬ fid = r := fun e => by
    rw [e, gr] at gf
    cases gf
  have nfd : ¬ fid = dc := fun e => by
    rw [e, gd] at gf
    cases gf
  have nfi : ¬ fid = id := fun e => by
    rw [e, gi] at gf
    cases gf
  have Sm : ∀ {p q : AMem}, Fr (fun x => x = r) p q → Fr (fun x => x = r ∨ x = dc ∨ SId fsv x) p q := fun h => h.mono fun _ _ h => .inl h
  unfold ls47_1
  repeat' (first | simp -implicitDefEqProofs (disch := first | exact soE | (simp -implicitDefEqProofs (disch := first | exact soE | fail) only [go_sem, ↓reduceIte, Nat.reduceEqDiff, Nat.reduceAdd, Nat.reduceLT, Nat.reduceLeDiff, Nat.reduceBEq, reduceCtorEq, e0, e2, e4, e5, gd, gr, gi, hA, hL]; done) | fail) only [go_sem, ↓reduceIte, Nat.reduceEqDiff, Nat.reduceAdd, Nat.reduceLT, Nat.reduceLeDiff, Nat.reduceBEq, reduceCtorEq, e0, e2, e4, e5, gd, gr, gi, hA, hL] | ((with_reducible first | refine g_dec ?_ ?_ | refine c_dec ?_ ?_ | refine s_dec ?_ ?_ | refine g_ndec ?_ ?_ | refine c_ndec ?_ ?_ | refine g_nbool ?_ ?_ | refine c_nbool ?_ ?_ | refine g_bool ?_ ?_ | refine c_bool ?_ ?_ | refine s_bool ?_ ?_) <;> intro h d <;> (try simp only [d]) <;> (try simp only [B1, B2, B3, B4, B5, B6, B7, B8] at h) <;> (try omega)))
  refine call_pr (sp_number (n + 1) (by omega) (by omega) (by decide) hb hl (D1.grow frA) (R.grow frA)) (fun a k1 v m1 hx1 g1 hv R1 => ?_) (fun k e m1 hx1 g1 => ?_)
  · subst hv
    have g1n := g1.next
    simp only [room_next, put_next] at g1n
    have F1 : Fr (fun x => x = r) w m1 := Fr.trans frA g1
    have gf1 := F1.get gf f1 nfr
    have gd1 := (D1.frame F1 n1).dd
    have P1 := P.frame F1 (off_r R (by decide))
    have F1' : Fr (fun x => x = r ∨ x = fid) w m1 := F1.mono fun _ _ h => .inl h
    rw [pf2_ok hx1]
    by_cases hc : fst = true ∧ a ≠ 0
    · obtain ⟨rfl, ha⟩ := hc
      have da : decide (a = 0) = false := decide_eq_false ha
      rw [if_pos ⟨rfl, ha⟩]
      repeat' (first | simp -implicitDefEqProofs (disch := first | exact soD | fail) only [go_sem, ↓reduceIte, Nat.reduceEqDiff, Nat.reduceAdd, Nat.reduceLT, Nat.reduceLeDiff, Nat.reduceBEq, reduceCtorEq, Int.reduceEq, e0, e2, e4, e5, gd1, gf1, da, p1, p2, p3, p4, ce43, x_body, cf43] | ((with_reducible first | refine g_dec ?_ ?_ | refine c_dec ?_ ?_ | refine s_dec ?_ ?_ | refine g_ndec ?_ ?_ | refine c_ndec ?_ ?_ | refine g_nbool ?_ ?_ | refine c_nbool ?_ ?_ | refine g_bool ?_ ?_ | refine c_bool ?_ ?_ | refine s_bool ?_ ?_) <;> intro h d <;> (try simp only [d]) <;> (try simp only [B1, B2, B3, B4, B5, B6, B7, B8] at h) <;> (try omega)))
      exact PQ.bad (Sm (Fr.up f (frA : Fr (fun x => x = r ∨ x = fid) w _) fun y h => h.elim .inr (fun h => .inl (by omega))))
    · rw [if_neg hc]
      have hfa : fst = false ∨ decide (a = 0) = true := by
        cases fst
        · exact .inl rfl
        · refine .inr (decide_eq_true (by
            by_cases h : a = 0
            · exact h
            · exact absurd ⟨rfl, h⟩ hc))
      clear hc
      have key : fst = false ∨ (fst = true ∧ decide (a = 0) = true) := by
        cases fst
        · exact .inl rfl
        · exact .inr ⟨rfl, hfa.resolve_left (by decide)⟩
      rcases key with rfl | ⟨rfl, da⟩
      case' neg.inl => repeat' (first | simp -implicitDefEqProofs (disch := first | exact soD | fail) only [go_sem, ↓reduceIte, Nat.reduceEqDiff, Nat.reduceAdd, Nat.reduceLT, Nat.reduceLeDiff, Nat.reduceBEq, reduceCtorEq, Int.reduceEq, e0, e2, e4, e5, gd1, gf1, p1, p2, p3, p4] | ((with_reducible first | refine g_dec ?_ ?_ | refine c_dec ?_ ?_ | refine s_dec ?_ ?_ | refine g_ndec ?_ ?_ | refine c_ndec ?_ ?_ | refine g_nbool ?_ ?_ | refine c_nbool ?_ ?_ | refine g_bool ?_ ?_ | refine c_bool ?_ ?_ | refine s_bool ?_ ?_) <;> intro h d <;> (try simp only [d]) <;> (try simp only [B1, B2, B3, B4, B5, B6, B7, B8] at h) <;> (try omega)))
      case' neg.inr => repeat' (first | simp -implicitDefEqProofs (disch := first | exact soD | fail) only [go_sem, ↓reduceIte, Nat.reduceEqDiff, Nat.reduceAdd, Nat.reduceLT, Nat.reduceLeDiff, Nat.reduceBEq, reduceCtorEq, Int.reduceEq, e0, e2, e4, e5, gd1, gf1, da, p1, p2, p3, p4] | ((with_reducible first | refine g_dec ?_ ?_ | refine c_dec ?_ ?_ | refine s_dec ?_ ?_ | refine g_ndec ?_ ?_ | refine c_ndec ?_ ?_ | refine g_nbool ?_ ?_ | refine c_nbool ?_ ?_ | refine g_bool ?_ ?_ | refine c_bool ?_ ?_ | refine s_bool ?_ ?_) <;> intro h d <;> (try simp only [d]) <;> (try simp only [B1, B2, B3, B4, B5, B6, B7, B8] at h) <;> (try omega)))
      all_goals (
        refine call_pr (sp_number (n + 1) (by omega) (by omega) (by decide) hb hl ((D1.frame F1 n1).frame (S := fun x => x = fid) frA (fun e => nfd e.symm)) (R1.frame (S := fun x => x = fid) frA (fun e => nfr e.symm) (fun e => nfi e.symm))) (fun lo k2 v m2 hx2 g2 hv R2 => ?_) (fun k e m2 hx2 g2 => ?_)
        · subst hv
          have g2n := g2.next
          simp only [room_next, put_next] at g2n
          have F2 : Fr (fun x => x = r ∨ x = fid) w m2 := Fr.trans frA (g2.mono fun _ _ h => .inl h)
          have gf2 : m2.get fid = some (.arr 48 4 [.agg [pv, avI a, avI 0, .nils]]) := g2.get sxA soA nfr
          have nd2 : ¬ (dc = r ∨ dc = fid) := fun c => c.elim n1 (fun e => nfd e.symm)
          have gd2 := (D1.frame F2 nd2).dd
          have gr2 := R2.rd
          have gi2 := R2.bs
          have hA2 := @sp_At (n + 3) (r := r) (id := id) (b := b) (j := k2) (k := ((0 : Nat) : Int)) (e := 0)
          obtain ⟨lo0, lo1⟩ := number_bd hb hx2
          rw [pb_ok hx2]
          repeat' (first | simp -implicitDefEqProofs (disch := first | exact soE | (simp -implicitDefEqProofs (disch := first | exact soE | fail) only [go_sem, ↓reduceIte, Nat.reduceEqDiff, Nat.reduceAdd, Nat.reduceLT, Nat.reduceLeDiff, Nat.reduceBEq, reduceCtorEq, Int.reduceEq, e0, e2, e4, e5, gd2, gf2, gr2, gi2, hA2, p1, p2, p3, p4]; done) | fail) only [go_sem, ↓reduceIte, Nat.reduceEqDiff, Nat.reduceAdd, Nat.reduceLT, Nat.reduceLeDiff, Nat.reduceBEq, reduceCtorEq, Int.reduceEq, e0, e2, e4, e5, gd2, gf2, gr2, gi2, hA2, p1, p2, p3, p4] | ((with_reducible first | refine g_dec ?_ ?_ | refine c_dec ?_ ?_ | refine s_dec ?_ ?_ | refine g_ndec ?_ ?_ | refine c_ndec ?_ ?_ | refine g_nbool ?_ ?_ | refine c_nbool ?_ ?_ | refine g_bool ?_ ?_ | refine c_bool ?_ ?_ | refine s_bool ?_ ?_) <;> intro h d <;> (try simp only [d]) <;> (try simp only [B1, B2, B3, B4, B5, B6, B7, B8] at h) <;> (try omega)))
          refine call_pr (sp_number (n + 1) (by omega) (by omega) (by decide) hb hl ((D1.frame F2 nd2).frame (S := fun x => x = fid) frA (fun e => nfd e.symm)) (R2.frame (S := fun x => x = fid) frA (fun e => nfr e.symm) (fun e => nfi e.symm))) (fun sz k3 v m3 hx3 g3 hv R3 => ?_) (fun k e m3 hx3 g3 => ?_)
          · subst hv
            have g3n := g3.next
            simp only [room_next, put_next] at g3n
            have F3 : Fr (fun x => x = r ∨ x = fid) w m3 := Fr.trans frA (g3.mono fun _ _ h => .inl h)
            have gf3 : m3.get fid = some (.arr 48 4 [.agg [pv, avI a, avI lo, .nils]]) := g3.get sxA soA nfr
            have gd3 := (D1.frame F3 nd2).dd
            obtain ⟨sz0, sz1⟩ := number_bd hb hx3
            obtain ⟨M, rfl⟩ : ∃ M : Nat, sz = (M : Int) := ⟨sz.toNat, by omega⟩
            repeat' (first | simp -implicitDefEqProofs (disch := first | exact soD | fail) only [go_sem, ↓reduceIte, Nat.reduceEqDiff, Nat.reduceAdd, Nat.reduceLT, Nat.reduceLeDiff, Nat.reduceBEq, reduceCtorEq, Int.reduceEq, e0, e2, e4, e5, gd3, gf3, p1, p2, p3, p4] | ((with_reducible first | refine g_dec ?_ ?_ | refine c_dec ?_ ?_ | refine s_dec ?_ ?_ | refine g_ndec ?_ ?_ | refine c_ndec ?_ ?_ | refine g_nbool ?_ ?_ | refine c_nbool ?_ ?_ | refine g_bool ?_ ?_ | refine c_bool ?_ ?_ | refine s_bool ?_ ?_) <;> intro h d <;> (try simp only [d]) <;> (try simp only [B1, B2, B3, B4, B5, B6, B7, B8] at h) <;> (try omega)))
            have F0 : Fr (fun x => x = r) m m3 := Fr.up f F3 fun y h => h.elim .inr (fun h => .inl (by omega))
            have F0n := F0.next
            have lr3 := R3.lr
            have lb3 := R3.lb
            refine func_code (m := m) (dc := dc) (r := r) (id := id) (b := b) (tv := tv) (fs := fsv) (nf := nz) n hpt (nz := nz) (lo := (N : Int) + lo) (N := M) (fid := fid) (sid := m3.next + 15) (z := m3.next + 8) (s3 := k2) (fst := true) (pv := pv) (ps := xs) (res := a) (loc := lo) (by omega) hb hl D (X := prep (pcode ts nz (N + lo) M) M b k3) (s0 := ([], k3))
              ⟨by simp, by rw [pcat_nil]; rfl, frA, R3.frame (S := fun x => m3.next ≤ x) frA (by omega) (by omega), f0, soA, ⟨.nils, by simp -implicitDefEqProofs (disch := first | exact soD | fail) only [go_sem, ↓reduceIte, Nat.reduceEqDiff, Nat.reduceAdd, Nat.reduceLT, Nat.reduceLeDiff, Nat.reduceBEq, reduceCtorEq, gf3], .inl ⟨rfl, rfl⟩, fun y ⟨_, _, _, h⟩ => by cases h⟩, (P.frame F3 (off_or (off_r R (by decide)) (off_eq gf (by decide)))).frame (S := fun _ => False) frA off_none, by omega, soA, sxA, soA, sxA, by omega, by simp -implicitDefEqProofs (disch := first | exact soD | fail) only [go_sem, ↓reduceIte, Nat.reduceEqDiff, Nat.reduceAdd, Nat.reduceLT, Nat.reduceLeDiff, Nat.reduceBEq, reduceCtorEq, e0], sxR, by simp -implicitDefEqProofs (disch := first | exact soD | fail) only [go_sem, ↓reduceIte, Nat.reduceEqDiff, Nat.reduceAdd, Nat.reduceLT, Nat.reduceLeDiff, Nat.reduceBEq, reduceCtorEq, e4], sxA, sxA, sxA, sxR⟩ (fun cs i' env' w' hX hcl I => ?_) (fun k e env' w' hX hf => ?_)
            · rw [pf3_ok hx3 (by rw [Int.toNat_natCast]; exact hX)]
              simp -implicitDefEqProofs (disch := first | exact soD | fail) only [go_sem, ↓reduceIte, Nat.reduceEqDiff, Nat.reduceAdd, Nat.reduceLT, Nat.reduceLeDiff, Nat.reduceBEq, reduceCtorEq]
              exact func_end n (by omega) hcl hll D L hR0 I
            · rw [pf3_bad2 hx3 (by rw [Int.toNat_natCast]; exact hX)]
              simp -implicitDefEqProofs (disch := first | exact soD | fail) only [go_sem, ↓reduceIte, Nat.reduceEqDiff, Nat.reduceAdd, Nat.reduceLT, Nat.reduceLeDiff, Nat.reduceBEq, reduceCtorEq]
              exact PQ.bad (Sm hf)
          · rw [pf3_bad hx3]
            repeat' (first | simp -implicitDefEqProofs (disch := first | exact soD | fail) only [go_sem, ↓reduceIte, Nat.reduceEqDiff, Nat.reduceAdd, Nat.reduceLT, Nat.reduceLeDiff, Nat.reduceBEq, reduceCtorEq] | ((with_reducible first | refine g_dec ?_ ?_ | refine c_dec ?_ ?_ | refine s_dec ?_ ?_ | refine g_ndec ?_ ?_ | refine c_ndec ?_ ?_ | refine g_nbool ?_ ?_ | refine c_nbool ?_ ?_ | refine g_bool ?_ ?_ | refine c_bool ?_ ?_ | refine s_bool ?_ ?_) <;> intro h d <;> (try simp only [d]) <;> (try simp only [B1, B2, B3, B4, B5, B6, B7, B8] at h) <;> (try omega)))
            exact PQ.bad (Sm (Fr.up f (Fr.trans (frA : Fr (fun x => x = r ∨ x = fid) w _) (g3.mono fun _ _ h => .inl h)) fun y h => h.elim .inr (fun h => .inl (by omega))))
        · rw [pb_bad hx2]
          repeat' (first | simp -implicitDefEqProofs (disch := first | exact soD | fail) only [go_sem, ↓reduceIte, Nat.reduceEqDiff, Nat.reduceAdd, Nat.reduceLT, Nat.reduceLeDiff, Nat.reduceBEq, reduceCtorEq] | ((with_reducible first | refine g_dec ?_ ?_ | refine c_dec ?_ ?_ | refine s_dec ?_ ?_ | refine g_ndec ?_ ?_ | refine c_ndec ?_ ?_ | refine g_nbool ?_ ?_ | refine c_nbool ?_ ?_ | refine g_bool ?_ ?_ | refine c_bool ?_ ?_ | refine s_bool ?_ ?_) <;> intro h d <;> (try simp only [d]) <;> (try simp only [B1, B2, B3, B4, B5, B6, B7, B8] at h) <;> (try omega)))
          exact PQ.bad (Sm (Fr.up f (Fr.trans (frA : Fr (fun x => x = r ∨ x = fid) w _) (g2.mono fun _ _ h => .inl h)) fun y h => h.elim .inr (fun h => .inl (by omega)))))
  · rw [pf2_bad hx1]
    repeat' (first | simp -implicitDefEqProofs (disch := first | exact soD | fail) only [go_sem, ↓reduceIte, Nat.reduceEqDiff, Nat.reduceAdd, Nat.reduceLT, Nat.reduceLeDiff, Nat.reduceBEq, reduceCtorEq] | ((with_reducible first | refine g_dec ?_ ?_ | refine c_dec ?_ ?_ | refine s_dec ?_ ?_ | refine g_ndec ?_ ?_ | refine c_ndec ?_ ?_ | refine g_nbool ?_ ?_ | refine c_nbool ?_ ?_ | refine g_bool ?_ ?_ | refine c_bool ?_ ?_ | refine s_bool ?_ ?_) <;> intro h d <;> (try simp only [d]) <;> (try simp only [B1, B2, B3, B4, B5, B6, B7, B8] at h) <;> (try omega)))
    exact PQ.bad (Sm (Fr.trans f (Fr.trans frA g1)))
end
end Go.Proofs.YtiijjopdhjpalaaDoor

/-! Reading an image, in the program: every function. Conditions: none. -/
namespace Go.Proofs.YtiijjopdhjpalaaDoor
open Go
set_option linter.unusedSimpArgs false
set_option linter.unusedVariables false
theorem pfunc_bad {ts : List GT} {nf : Int} {first : Bool} {b : List Int} {i k : Nat} {e : Int} (h : pnumber 17 5 b i = .bad k e) : pfunc ts nf first b i = .bad k e := by
  rw [pfunc_eq]
  show pbind (pnumber 17 5) _ b i = _
  exact pb_bad h
theorem pfunc_ok {ts : List GT} {nf : Int} {first : Bool} {b : List Int} {i k : Nat} {n : Int} (h : pnumber 17 5 b i = .ok n k) : pfunc ts nf first b i = (if first = true ∧ 0 < n then pfail i 8 else pbind (prep (pnumber (ts.length + 2) 7) n.toNat) fun ps => pf2 ts nf first n ps : Par GF) b k := by
  rw [pfunc_eq]
  show pbind (pnumber 17 5) _ b i = _
  exact pb_ok h
section
variable {m : AMem} {dc r id : Nat} {b : List Int} {j : Nat} {tv fsv : AV}
set_option maxHeartbeats 4000000 in
theorem sp_func (n : Nat) {ts : List GT} {like : List Int} {nz : Nat} {l : List GF} (hts : ts.length ≤ 60) (hpt : ∀ x ∈ T0 ts, x.parts.length ≤ 1000) (hnz : nz ≤ 50) (hll : l.length ≤ 60) (hb : BB b) (hl : b.length ≤ 1048576)
    (D : DD m dc r tv fsv (TT (T0 ts) like) nz) (L : FL m fsv l) (R : RD m r id b j 0 0) :
    Wp (callsN cfg (n + 5) 47 [.ptr dc 0 0] m)
      (PQ (fun x => x = r ∨ x = dc ∨ SId fsv x) m r id b (pfunc ts nz (decide (l.length = 0)) b j) (FE m dc r tv ts like nz l)) := by
  have n1 := D.ne
  have gd := D.dd
  have ld := D.ld
  have gr := R.rd
  have gi := R.bs
  have lr := R.lr
  have lb := R.lb
  have hA := @sp_At (n + 3) (r := r) (id := id) (b := b) (j := j) (k := ((0 : Nat) : Int)) (e := 0)
  obtain ⟨es, O, el, ea⟩ := L.ov
  obtain ⟨o1, o2, o3, o4, o5⟩ := O.flat
  obtain ⟨fst, hfst⟩ : ∃ q, decide (l.length = 0) = q := ⟨_, rfl⟩
  have dl : decide ((es.length : Int) = 0) = fst := by rw [← hfst, el]; exact decide_eq_decide.2 (by omega)
  have Sm : ∀ {p q : AMem}, Fr (fun x => x = r) p q → Fr (fun x => x = r ∨ x = dc ∨ SId fsv x) p q := fun h => h.mono fun _ _ h => .inl h
  rw [hfst, ce47]
  unfold aBody cf47
  repeat' (first | simp -implicitDefEqProofs (disch := first | exact soE | (simp -implicitDefEqProofs (disch := first | exact soE | fail) only [go_sem, ↓reduceIte, Nat.reduceEqDiff, Nat.reduceAdd, Nat.reduceLT, Nat.reduceLeDiff, Nat.reduceBEq, reduceCtorEq, gd, gr, gi, hA, o1, o5, dl]; done) | fail) only [go_sem, ↓reduceIte, Nat.reduceEqDiff, Nat.reduceAdd, Nat.reduceLT, Nat.reduceLeDiff, Nat.reduceBEq, reduceCtorEq, gd, gr, gi, hA, o1, o5, dl] | ((with_reducible first | refine g_dec ?_ ?_ | refine c_dec ?_ ?_ | refine s_dec ?_ ?_ | refine g_ndec ?_ ?_ | refine c_ndec ?_ ?_ | refine g_nbool ?_ ?_ | refine c_nbool ?_ ?_ | refine g_bool ?_ ?_ | refine c_bool ?_ ?_ | refine s_bool ?_ ?_) <;> intro h d <;> (try simp only [d]) <;> (try simp only [B1, B2, B3, B4, B5, B6, B7, B8] at h) <;> (try omega)))
  refine call_pr (sp_number (n + 1) (by omega) (by omega) (by decide) hb hl (D.grow frA) (R.grow frA)) (fun a k1 v m1 hx1 g1 hv R1 => ?_) (fun k e m1 hx1 g1 => ?_)
  · subst hv
    have g1n := g1.next
    simp only [room_next, put_next] at g1n
    have F1 : Fr (fun x => x = r) m m1 := Fr.trans frA g1
    obtain ⟨a0, a1⟩ := number_bd hb hx1
    obtain ⟨N, rfl⟩ : ∃ N : Nat, a = (N : Int) := ⟨a.toNat, by omega⟩
    have gf1 : m1.get (m.next + 8 + 6 + 1) = some (.arr 48 4 [.agg [.nils, avI 0, avI 0, .nils]]) := g1.get sxA soA (by show ¬ _ = _; omega)
    rw [pfunc_ok hx1]
    by_cases hc : fst = true ∧ 0 < (N : Int)
    · obtain ⟨rfl, ha⟩ := hc
      have da : decide (0 < (N : Int)) = true := decide_eq_true ha
      rw [if_pos ⟨rfl, ha⟩]
      repeat' (first | simp -implicitDefEqProofs (disch := first | exact soD | fail) only [go_sem, ↓reduceIte, Nat.reduceEqDiff, Nat.reduceAdd, Nat.reduceLT, Nat.reduceLeDiff, Nat.reduceBEq, reduceCtorEq, Int.reduceEq, da, ce43, x_body, cf43] | ((with_reducible first | refine g_dec ?_ ?_ | refine c_dec ?_ ?_ | refine s_dec ?_ ?_ | refine g_ndec ?_ ?_ | refine c_ndec ?_ ?_ | refine g_nbool ?_ ?_ | refine c_nbool ?_ ?_ | refine g_bool ?_ ?_ | refine c_bool ?_ ?_ | refine s_bool ?_ ?_) <;> intro h d <;> (try simp only [d]) <;> (try simp only [B1, B2, B3, B4, B5, B6, B7, B8] at h) <;> (try omega)))
      exact PQ.bad (Sm frA)
    · rw [if_neg hc]
      have key : fst = false ∨ (fst = true ∧ decide (0 < (N : Int)) = false) := by
        cases fst
        · exact .inl rfl
        · exact .inr ⟨rfl, decide_eq_false fun h => hc ⟨rfl, h⟩⟩
      clear hc hfst
      rcases key with rfl | ⟨rfl, da⟩
      · repeat' (first | simp -implicitDefEqProofs (disch := first | exact soD | fail) only [go_sem, ↓reduceIte, Nat.reduceEqDiff, Nat.reduceAdd, Nat.reduceLT, Nat.reduceLeDiff, Nat.reduceBEq, reduceCtorEq, Int.reduceEq] | ((with_reducible first | refine g_dec ?_ ?_ | refine c_dec ?_ ?_ | refine s_dec ?_ ?_ | refine g_ndec ?_ ?_ | refine c_ndec ?_ ?_ | refine g_nbool ?_ ?_ | refine c_nbool ?_ ?_ | refine g_bool ?_ ?_ | refine c_bool ?_ ?_ | refine s_bool ?_ ?_) <;> intro h d <;> (try simp only [d]) <;> (try simp only [B1, B2, B3, B4, B5, B6, B7, B8] at h) <;> (try omega)))
        refine func_params (m := m) (dc := dc) (r := r) (id := id) (b := b) (tv := tv) (fs := fsv) (nf := nz) n hts (N := N) (fid := m.next + 8 + 6 + 1) (by omega) (fst := false) hb hl D (X := prep (pnumber (ts.length + 2) 7) N b k1) (s0 := ([], k1)) ⟨by simp, by rw [pcat_nil]; rfl, frA, R1.grow frA, by omega, soA, ⟨.nils, by simp -implicitDefEqProofs (disch := first | exact soD | fail) only [go_sem, ↓reduceIte, Nat.reduceEqDiff, Nat.reduceAdd, Nat.reduceLT, Nat.reduceLeDiff, Nat.reduceBEq, reduceCtorEq, gf1], .inl ⟨rfl, rfl⟩, fun y ⟨_, _, _, h⟩ => by cases h⟩, sxA, sxA, sxA, sxA, sxA, sxR⟩ (fun xs i env' w' hX hlen I => ?_) (fun k e env' w' hX hf => ?_)
        · rw [pb_ok hX]
          simp -implicitDefEqProofs (disch := first | exact soD | fail) only [go_sem, ↓reduceIte, Nat.reduceEqDiff, Nat.reduceAdd, Nat.reduceLT, Nat.reduceLeDiff, Nat.reduceBEq, reduceCtorEq]
          exact func_mid n hts hpt hnz (by omega) hlen hll hb hl D L ⟨j, R⟩ I
        · rw [pb_bad hX]
          simp -implicitDefEqProofs (disch := first | exact soD | fail) only [go_sem, ↓reduceIte, Nat.reduceEqDiff, Nat.reduceAdd, Nat.reduceLT, Nat.reduceLeDiff, Nat.reduceBEq, reduceCtorEq]
          exact PQ.bad (Sm hf)
      · repeat' (first | simp -implicitDefEqProofs (disch := first | exact soD | fail) only [go_sem, ↓reduceIte, Nat.reduceEqDiff, Nat.reduceAdd, Nat.reduceLT, Nat.reduceLeDiff, Nat.reduceBEq, reduceCtorEq, Int.reduceEq, da] | ((with_reducible first | refine g_dec ?_ ?_ | refine c_dec ?_ ?_ | refine s_dec ?_ ?_ | refine g_ndec ?_ ?_ | refine c_ndec ?_ ?_ | refine g_nbool ?_ ?_ | refine c_nbool ?_ ?_ | refine g_bool ?_ ?_ | refine c_bool ?_ ?_ | refine s_bool ?_ ?_) <;> intro h d <;> (try simp only [d]) <;> (try simp only [B1, B2, B3, B4, B5, B6, B7, B8] at h) <;> (try omega)))
        refine func_params (m := m) (dc := dc) (r := r) (id := id) (b := b) (tv := tv) (fs := fsv) (nf := nz) n hts (N := N) (fid := m.next + 8 + 6 + 1) (by omega) (fst := true) hb hl D (X := prep (pnumber (ts.length + 2) 7) N b k1) (s0 := ([], k1)) ⟨by simp, by rw [pcat_nil]; rfl, frA, R1.grow frA, by omega, soA, ⟨.nils, by simp -implicitDefEqProofs (disch := first | exact soD | fail) only [go_sem, ↓reduceIte, Nat.reduceEqDiff, Nat.reduceAdd, Nat.reduceLT, Nat.reduceLeDiff, Nat.reduceBEq, reduceCtorEq, gf1], .inl ⟨rfl, rfl⟩, fun y ⟨_, _, _, h⟩ => by cases h⟩, sxA, sxA, sxA, sxA, sxA, sxR⟩ (fun xs i env' w' hX hlen I => ?_) (fun k e env' w' hX hf => ?_)
        · rw [pb_ok hX]
          simp -implicitDefEqProofs (disch := first | exact soD | fail) only [go_sem, ↓reduceIte, Nat.reduceEqDiff, Nat.reduceAdd, Nat.reduceLT, Nat.reduceLeDiff, Nat.reduceBEq, reduceCtorEq]
          exact func_mid n hts hpt hnz (by omega) hlen hll hb hl D L ⟨j, R⟩ I
        · rw [pb_bad hX]
          simp -implicitDefEqProofs (disch := first | exact soD | fail) only [go_sem, ↓reduceIte, Nat.reduceEqDiff, Nat.reduceAdd, Nat.reduceLT, Nat.reduceLeDiff, Nat.reduceBEq, reduceCtorEq]
          exact PQ.bad (Sm hf)
  · rw [pfunc_bad hx1]
    repeat' (first | simp -implicitDefEqProofs (disch := first | exact soD | fail) only [go_sem, ↓reduceIte, Nat.reduceEqDiff, Nat.reduceAdd, Nat.reduceLT, Nat.reduceLeDiff, Nat.reduceBEq, reduceCtorEq] | ((with_reducible first | refine g_dec ?_ ?_ | refine c_dec ?_ ?_ | refine s_dec ?_ ?_ | refine g_ndec ?_ ?_ | refine c_ndec ?_ ?_ | refine g_nbool ?_ ?_ | refine c_nbool ?_ ?_ | refine g_bool ?_ ?_ | refine c_bool ?_ ?_ | refine s_bool ?_ ?_) <;> intro h d <;> (try simp only [d]) <;> (try simp only [B1, B2, B3, B4, B5, B6, B7, B8] at h) <;> (try omega)))
    exact PQ.bad (Sm (Fr.trans frA g1))
end
end Go.Proofs.YtiijjopdhjpalaaDoor

/-! Reading an image, in the program: all of it. Conditions: none. -/
namespace Go.Proofs.YtiijjopdhjpalaaDoor
open Go
set_option linter.unusedSimpArgs false
set_option linter.unusedVariables false
def idxsK (m : AMem) : AV → AV → Option AR
  | .str s, .int _ k => cond (inRange k s.length) (v? m ((s[k.toNat]?).map fun b => .int .u8 b.toNat)) none
  | _, _ => none
@[go_sem] theorem p_idxs (calls : Nat → AF) (env : AEnv) (m : AMem) (new : Nat) (x i : Opd) : aOp calls env m new (.idxs x i) = idxsK m (x.ev env) (i.ev env) := by
  cases h : x.ev env <;> cases h2 : i.ev env <;> simp only [aOp, idxsK, h, h2]
section
variable {m : AMem} {dc r id : Nat} {b : List Int}
/-- Where the magic bytes are read. -/
structure MI (m : AMem) (dc r id : Nat) (b : List Int) (ts fs tb : AV) (nf : Int) (X : PR Unit) (i : Nat) (env : AEnv) (w : AMem) : Prop where
  le : i ≤ 4
  par : pmagic ([116, 105, 100, 1].drop i) b i = X
  fr : Fr (fun x => x = r) m w
  rd : RD w r id b i 0 0
  e0 : env 0 = .ptr dc 0 0
  e4 : env 4 = avI i
theorem pmagic_bad {c : Int} {l b : List Int} {i k : Nat} {e : Int} (h : pbyte b i = .bad k e) : pmagic (c :: l) b i = .bad k e := by
  show pbind pbyte _ b i = _
  exact pb_bad h
theorem pmagic_ok {c d : Int} {l b : List Int} {i k : Nat} (h : pbyte b i = .ok d k) : pmagic (c :: l) b i = if d ≠ c then .bad i 3 else pmagic l b k := by
  show pbind pbyte _ b i = _
  rw [pb_ok h]
  split <;> rfl
theorem byte_at {b : List Int} {i k : Nat} {c : Int} (h : pbyte b i = .ok c k) : k = i + 1 := by
  unfold pbyte at h
  split at h
  · cases h; rfl
  · cases h
set_option maxHeartbeats 4000000 in
theorem magic_loop (n : Nat) {ts fs tb : AV} {nf : Int} (hb : BB b) (hl : b.length ≤ 1048576) (D : DD m dc r ts fs tb nf) {X : PR Unit} {Q : AOut → AMem → Prop} {K : Kont} {env : AEnv} {w : AMem} (hI : MI m dc r id b ts fs tb nf X 0 env w)
    (hx : ∀ (env' : AEnv) (w' : AMem), X = .ok () 4 → MI m dc r id b ts fs tb nf X 4 env' w' → Wp (K (.exit 0) env' w') Q)
    (hp : ∀ (k : Nat) (e : Int) (env' : AEnv) (w' : AMem), X = .bad k e → Fr (fun x => x = r) m w' → Wp (K (.panic (W k e)) env' w') Q) :
    Wp (loopN LOOPK (aCode (callsN cfg (n + 3)) lb26_0) env w K) Q := by
  refine wp_loop (MI m dc r id b ts fs tb nf X) (fun i => 4 - i) (fun i env w K' hI hN hE => ?_) LOOPK 0 _ _ hI (by rw [LOOPK_eq]; decide)
  have hI' := hI
  obtain ⟨sl, sx, f, R, e0, e4⟩ := hI
  have n1 := D.ne
  have D1 := D.frame f n1
  unfold lb26_0
  rcases (by omega : i = 0 ∨ i = 1 ∨ i = 2 ∨ i = 3 ∨ i = 4) with h | h | h | h | h <;> subst h
  · have e4 : env 4 = avI 0 := e4
    have hi : ∀ q, idxsK q (.str [116, 105, 100, 1]) (avI 0) = some (.val (.int .u8 116) q) := fun _ => rfl
    have sx : pmagic (116 :: [105, 100, 1]) b 0 = X := sx
    repeat' (first | simp -implicitDefEqProofs (disch := first | exact soD | fail) only [go_sem, ↓reduceIte, Nat.reduceEqDiff, Nat.reduceAdd, Nat.reduceLT, Nat.reduceLeDiff, Nat.reduceBEq, reduceCtorEq, Int.reduceEq, Int.reduceLT, e0, e4, hi] | ((with_reducible first | refine g_dec ?_ ?_ | refine c_dec ?_ ?_ | refine s_dec ?_ ?_ | refine g_ndec ?_ ?_ | refine c_ndec ?_ ?_ | refine g_nbool ?_ ?_ | refine c_nbool ?_ ?_ | refine g_bool ?_ ?_ | refine c_bool ?_ ?_ | refine s_bool ?_ ?_) <;> intro h d <;> (try simp only [d]) <;> (try simp only [B1, B2, B3, B4, B5, B6, B7, B8] at h) <;> (try omega)))
    refine call_pr (sp_byte n (D1.grow frA) (R.grow frA) hl) (fun z k v m1 hx1 g1 hv R1 => ?_) (fun k e m1 hx1 g1 => ?_)
    · subst hv
      have G1 : Fr (fun x => x = r) m m1 := Fr.trans f (Fr.trans frA g1)
      have hk := byte_at hx1
      subst hk
      rw [pmagic_ok hx1] at sx
      by_cases hz : z = 116
      · rw [if_neg (fun h => h hz)] at sx
        have dz : decide (z = 116) = true := decide_eq_true hz
        repeat' (first | simp -implicitDefEqProofs (disch := first | exact soD | fail) only [go_sem, ↓reduceIte, Nat.reduceEqDiff, Nat.reduceAdd, Nat.reduceLT, Nat.reduceLeDiff, Nat.reduceBEq, reduceCtorEq, Int.reduceEq, Int.reduceAdd, e0, e4, dz] | ((with_reducible first | refine g_dec ?_ ?_ | refine c_dec ?_ ?_ | refine s_dec ?_ ?_ | refine g_ndec ?_ ?_ | refine c_ndec ?_ ?_ | refine g_nbool ?_ ?_ | refine c_nbool ?_ ?_ | refine g_bool ?_ ?_ | refine c_bool ?_ ?_ | refine s_bool ?_ ?_) <;> intro h d <;> (try simp only [d]) <;> (try simp only [B1, B2, B3, B4, B5, B6, B7, B8] at h) <;> (try omega)))
        exact hN 1 _ _ ⟨by decide, sx, frA, R1.grow frA, by simp -implicitDefEqProofs (disch := first | exact soD | fail) only [go_sem, ↓reduceIte, Nat.reduceEqDiff, Nat.reduceAdd, Nat.reduceLT, Nat.reduceLeDiff, Nat.reduceBEq, reduceCtorEq, e0], sxR⟩ (by decide)
      · rw [if_pos hz] at sx
        have dz : decide (z = 116) = false := decide_eq_false hz
        repeat' (first | simp -implicitDefEqProofs (disch := first | exact soD | fail) only [go_sem, ↓reduceIte, Nat.reduceEqDiff, Nat.reduceAdd, Nat.reduceLT, Nat.reduceLeDiff, Nat.reduceBEq, reduceCtorEq, Int.reduceEq, e0, e4, dz, ce43, x_body, cf43] | ((with_reducible first | refine g_dec ?_ ?_ | refine c_dec ?_ ?_ | refine s_dec ?_ ?_ | refine g_ndec ?_ ?_ | refine c_ndec ?_ ?_ | refine g_nbool ?_ ?_ | refine c_nbool ?_ ?_ | refine g_bool ?_ ?_ | refine c_bool ?_ ?_ | refine s_bool ?_ ?_) <;> intro h d <;> (try simp only [d]) <;> (try simp only [B1, B2, B3, B4, B5, B6, B7, B8] at h) <;> (try omega)))
        refine (hE _ _).2.2 _ ?_
        exact hp 0 _ _ _ sx.symm frA
    · rw [pmagic_bad hx1] at sx
      repeat' (first | simp -implicitDefEqProofs (disch := first | exact soD | fail) only [go_sem, ↓reduceIte, Nat.reduceEqDiff, Nat.reduceAdd, Nat.reduceLT, Nat.reduceLeDiff, Nat.reduceBEq, reduceCtorEq] | ((with_reducible first | refine g_dec ?_ ?_ | refine c_dec ?_ ?_ | refine s_dec ?_ ?_ | refine g_ndec ?_ ?_ | refine c_ndec ?_ ?_ | refine g_nbool ?_ ?_ | refine c_nbool ?_ ?_ | refine g_bool ?_ ?_ | refine c_bool ?_ ?_ | refine s_bool ?_ ?_) <;> intro h d <;> (try simp only [d]) <;> (try simp only [B1, B2, B3, B4, B5, B6, B7, B8] at h) <;> (try omega)))
      refine (hE _ _).2.2 _ ?_
      exact hp _ _ _ _ sx.symm (Fr.trans f (Fr.trans frA g1))
  · have e4 : env 4 = avI 1 := e4
    have hi : ∀ q, idxsK q (.str [116, 105, 100, 1]) (avI 1) = some (.val (.int .u8 105) q) := fun _ => rfl
    have sx : pmagic (105 :: [100, 1]) b 1 = X := sx
    repeat' (first | simp -implicitDefEqProofs (disch := first | exact soD | fail) only [go_sem, ↓reduceIte, Nat.reduceEqDiff, Nat.reduceAdd, Nat.reduceLT, Nat.reduceLeDiff, Nat.reduceBEq, reduceCtorEq, Int.reduceEq, Int.reduceLT, e0, e4, hi] | ((with_reducible first | refine g_dec ?_ ?_ | refine c_dec ?_ ?_ | refine s_dec ?_ ?_ | refine g_ndec ?_ ?_ | refine c_ndec ?_ ?_ | refine g_nbool ?_ ?_ | refine c_nbool ?_ ?_ | refine g_bool ?_ ?_ | refine c_bool ?_ ?_ | refine s_bool ?_ ?_) <;> intro h d <;> (try simp only [d]) <;> (try simp only [B1, B2, B3, B4, B5, B6, B7, B8] at h) <;> (try omega)))
    refine call_pr (sp_byte n (D1.grow frA) (R.grow frA) hl) (fun z k v m1 hx1 g1 hv R1 => ?_) (fun k e m1 hx1 g1 => ?_)
    · subst hv
      have G1 : Fr (fun x => x = r) m m1 := Fr.trans f (Fr.trans frA g1)
      have hk := byte_at hx1
      subst hk
      rw [pmagic_ok hx1] at sx
      by_cases hz : z = 105
      · rw [if_neg (fun h => h hz)] at sx
        have dz : decide (z = 105) = true := decide_eq_true hz
        repeat' (first | simp -implicitDefEqProofs (disch := first | exact soD | fail) only [go_sem, ↓reduceIte, Nat.reduceEqDiff, Nat.reduceAdd, Nat.reduceLT, Nat.reduceLeDiff, Nat.reduceBEq, reduceCtorEq, Int.reduceEq, Int.reduceAdd, e0, e4, dz] | ((with_reducible first | refine g_dec ?_ ?_ | refine c_dec ?_ ?_ | refine s_dec ?_ ?_ | refine g_ndec ?_ ?_ | refine c_ndec ?_ ?_ | refine g_nbool ?_ ?_ | refine c_nbool ?_ ?_ | refine g_bool ?_ ?_ | refine c_bool ?_ ?_ | refine s_bool ?_ ?_) <;> intro h d <;> (try simp only [d]) <;> (try simp only [B1, B2, B3, B4, B5, B6, B7, B8] at h) <;> (try omega)))
        exact hN 2 _ _ ⟨by decide, sx, frA, R1.grow frA, by simp -implicitDefEqProofs (disch := first | exact soD | fail) only [go_sem, ↓reduceIte, Nat.reduceEqDiff, Nat.reduceAdd, Nat.reduceLT, Nat.reduceLeDiff, Nat.reduceBEq, reduceCtorEq, e0], sxR⟩ (by decide)
      · rw [if_pos hz] at sx
        have dz : decide (z = 105) = false := decide_eq_false hz
        repeat' (first | simp -implicitDefEqProofs (disch := first | exact soD | fail) only [go_sem, ↓reduceIte, Nat.reduceEqDiff, Nat.reduceAdd, Nat.reduceLT, Nat.reduceLeDiff, Nat.reduceBEq, reduceCtorEq, Int.reduceEq, e0, e4, dz, ce43, x_body, cf43] | ((with_reducible first | refine g_dec ?_ ?_ | refine c_dec ?_ ?_ | refine s_dec ?_ ?_ | refine g_ndec ?_ ?_ | refine c_ndec ?_ ?_ | refine g_nbool ?_ ?_ | refine c_nbool ?_ ?_ | refine g_bool ?_ ?_ | refine c_bool ?_ ?_ | refine s_bool ?_ ?_) <;> intro h d <;> (try simp only [d]) <;> (try simp only [B1, B2, B3, B4, B5, B6, B7, B8] at h) <;> (try omega)))
        refine (hE _ _).2.2 _ ?_
        exact hp 1 _ _ _ sx.symm frA
    · rw [pmagic_bad hx1] at sx
      repeat' (first | simp -implicitDefEqProofs (disch := first | exact soD | fail) only [go_sem, ↓reduceIte, Nat.reduceEqDiff, Nat.reduceAdd, Nat.reduceLT, Nat.reduceLeDiff, Nat.reduceBEq, reduceCtorEq] | ((with_reducible first | refine g_dec ?_ ?_ | refine c_dec ?_ ?_ | refine s_dec ?_ ?_ | refine g_ndec ?_ ?_ | refine c_ndec ?_ ?_ | refine g_nbool ?_ ?_ | refine c_nbool ?_ ?_ | refine g_bool ?_ ?_ | refine c_bool ?_ ?_ | refine s_bool ?_ ?_) <;> intro h d <;> (try simp only [d]) <;> (try simp only [B1, B2, B3, B4, B5, B6, B7, B8] at h) <;> (try omega)))
      refine (hE _ _).2.2 _ ?_
      exact hp _ _ _ _ sx.symm (Fr.trans f (Fr.trans frA g1))
  · have e4 : env 4 = avI 2 := e4
    have hi : ∀ q, idxsK q (.str [116, 105, 100, 1]) (avI 2) = some (.val (.int .u8 100) q) := fun _ => rfl
    have sx : pmagic (100 :: [1]) b 2 = X := sx
    repeat' (first | simp -implicitDefEqProofs (disch := first | exact soD | fail) only [go_sem, ↓reduceIte, Nat.reduceEqDiff, Nat.reduceAdd, Nat.reduceLT, Nat.reduceLeDiff, Nat.reduceBEq, reduceCtorEq, Int.reduceEq, Int.reduceLT, e0, e4, hi] | ((with_reducible first | refine g_dec ?_ ?_ | refine c_dec ?_ ?_ | refine s_dec ?_ ?_ | refine g_ndec ?_ ?_ | refine c_ndec ?_ ?_ | refine g_nbool ?_ ?_ | refine c_nbool ?_ ?_ | refine g_bool ?_ ?_ | refine c_bool ?_ ?_ | refine s_bool ?_ ?_) <;> intro h d <;> (try simp only [d]) <;> (try simp only [B1, B2, B3, B4, B5, B6, B7, B8] at h) <;> (try omega)))
    refine call_pr (sp_byte n (D1.grow frA) (R.grow frA) hl) (fun z k v m1 hx1 g1 hv R1 => ?_) (fun k e m1 hx1 g1 => ?_)
    · subst hv
      have G1 : Fr (fun x => x = r) m m1 := Fr.trans f (Fr.trans frA g1)
      have hk := byte_at hx1
      subst hk
      rw [pmagic_ok hx1] at sx
      by_cases hz : z = 100
      · rw [if_neg (fun h => h hz)] at sx
        have dz : decide (z = 100) = true := decide_eq_true hz
        repeat' (first | simp -implicitDefEqProofs (disch := first | exact soD | fail) only [go_sem, ↓reduceIte, Nat.reduceEqDiff, Nat.reduceAdd, Nat.reduceLT, Nat.reduceLeDiff, Nat.reduceBEq, reduceCtorEq, Int.reduceEq, Int.reduceAdd, e0, e4, dz] | ((with_reducible first | refine g_dec ?_ ?_ | refine c_dec ?_ ?_ | refine s_dec ?_ ?_ | refine g_ndec ?_ ?_ | refine c_ndec ?_ ?_ | refine g_nbool ?_ ?_ | refine c_nbool ?_ ?_ | refine g_bool ?_ ?_ | refine c_bool ?_ ?_ | refine s_bool ?_ ?_) <;> intro h d <;> (try simp only [d]) <;> (try simp only [B1, B2, B3, B4, B5, B6, B7, B8] at h) <;> (try omega)))
        exact hN 3 _ _ ⟨by decide, sx, frA, R1.grow frA, by simp -implicitDefEqProofs (disch := first | exact soD | fail) only [go_sem, ↓reduceIte, Nat.reduceEqDiff, Nat.reduceAdd, Nat.reduceLT, Nat.reduceLeDiff, Nat.reduceBEq, reduceCtorEq, e0], sxR⟩ (by decide)
      · rw [if_pos hz] at sx
        have dz : decide (z = 100) = false := decide_eq_false hz
        repeat' (first | simp -implicitDefEqProofs (disch := first | exact soD | fail) only [go_sem, ↓reduceIte, Nat.reduceEqDiff, Nat.reduceAdd, Nat.reduceLT, Nat.reduceLeDiff, Nat.reduceBEq, reduceCtorEq, Int.reduceEq, e0, e4, dz, ce43, x_body, cf43] | ((with_reducible first | refine g_dec ?_ ?_ | refine c_dec ?_ ?_ | refine s_dec ?_ ?_ | refine g_ndec ?_ ?_ | refine c_ndec ?_ ?_ | refine g_nbool ?_ ?_ | refine c_nbool ?_ ?_ | refine g_bool ?_ ?_ | refine c_bool ?_ ?_ | refine s_bool ?_ ?_) <;> intro h d <;> (try simp only [d]) <;> (try simp only [B1, B2, B3, B4, B5, B6, B7, B8] at h) <;> (try omega)))
        refine (hE _ _).2.2 _ ?_
        exact hp 2 _ _ _ sx.symm frA
    · rw [pmagic_bad hx1] at sx
      repeat' (first | simp -implicitDefEqProofs (disch := first | exact soD | fail) only [go_sem, ↓reduceIte, Nat.reduceEqDiff, Nat.reduceAdd, Nat.reduceLT, Nat.reduceLeDiff, Nat.reduceBEq, reduceCtorEq] | ((with_reducible first | refine g_dec ?_ ?_ | refine c_dec ?_ ?_ | refine s_dec ?_ ?_ | refine g_ndec ?_ ?_ | refine c_ndec ?_ ?_ | refine g_nbool ?_ ?_ | refine c_nbool ?_ ?_ | refine g_bool ?_ ?_ | refine c_bool ?_ ?_ | refine s_bool ?_ ?_) <;> intro h d <;> (try simp only [d]) <;> (try simp only [B1, B2, B3, B4, B5, B6, B7, B8] at h) <;> (try omega)))
      refine (hE _ _).2.2 _ ?_
      exact hp _ _ _ _ sx.symm (Fr.trans f (Fr.trans frA g1))
  · have e4 : env 4 = avI 3 := e4
    have hi : ∀ q, idxsK q (.str [116, 105, 100, 1]) (avI 3) = some (.val (.int .u8 1) q) := fun _ => rfl
    have sx : pmagic (1 :: []) b 3 = X := sx
    repeat' (first | simp -implicitDefEqProofs (disch := first | exact soD | fail) only [go_sem, ↓reduceIte, Nat.reduceEqDiff, Nat.reduceAdd, Nat.reduceLT, Nat.reduceLeDiff, Nat.reduceBEq, reduceCtorEq, Int.reduceEq, Int.reduceLT, e0, e4, hi] | ((with_reducible first | refine g_dec ?_ ?_ | refine c_dec ?_ ?_ | refine s_dec ?_ ?_ | refine g_ndec ?_ ?_ | refine c_ndec ?_ ?_ | refine g_nbool ?_ ?_ | refine c_nbool ?_ ?_ | refine g_bool ?_ ?_ | refine c_bool ?_ ?_ | refine s_bool ?_ ?_) <;> intro h d <;> (try simp only [d]) <;> (try simp only [B1, B2, B3, B4, B5, B6, B7, B8] at h) <;> (try omega)))
    refine call_pr (sp_byte n (D1.grow frA) (R.grow frA) hl) (fun z k v m1 hx1 g1 hv R1 => ?_) (fun k e m1 hx1 g1 => ?_)
    · subst hv
      have G1 : Fr (fun x => x = r) m m1 := Fr.trans f (Fr.trans frA g1)
      have hk := byte_at hx1
      subst hk
      rw [pmagic_ok hx1] at sx
      by_cases hz : z = 1
      · rw [if_neg (fun h => h hz)] at sx
        have dz : decide (z = 1) = true := decide_eq_true hz
        repeat' (first | simp -implicitDefEqProofs (disch := first | exact soD | fail) only [go_sem, ↓reduceIte, Nat.reduceEqDiff, Nat.reduceAdd, Nat.reduceLT, Nat.reduceLeDiff, Nat.reduceBEq, reduceCtorEq, Int.reduceEq, Int.reduceAdd, e0, e4, dz] | ((with_reducible first | refine g_dec ?_ ?_ | refine c_dec ?_ ?_ | refine s_dec ?_ ?_ | refine g_ndec ?_ ?_ | refine c_ndec ?_ ?_ | refine g_nbool ?_ ?_ | refine c_nbool ?_ ?_ | refine g_bool ?_ ?_ | refine c_bool ?_ ?_ | refine s_bool ?_ ?_) <;> intro h d <;> (try simp only [d]) <;> (try simp only [B1, B2, B3, B4, B5, B6, B7, B8] at h) <;> (try omega)))
        exact hN 4 _ _ ⟨by decide, sx, frA, R1.grow frA, by simp -implicitDefEqProofs (disch := first | exact soD | fail) only [go_sem, ↓reduceIte, Nat.reduceEqDiff, Nat.reduceAdd, Nat.reduceLT, Nat.reduceLeDiff, Nat.reduceBEq, reduceCtorEq, e0], sxR⟩ (by decide)
      · rw [if_pos hz] at sx
        have dz : decide (z = 1) = false := decide_eq_false hz
        repeat' (first | simp -implicitDefEqProofs (disch := first | exact soD | fail) only [go_sem, ↓reduceIte, Nat.reduceEqDiff, Nat.reduceAdd, Nat.reduceLT, Nat.reduceLeDiff, Nat.reduceBEq, reduceCtorEq, Int.reduceEq, e0, e4, dz, ce43, x_body, cf43] | ((with_reducible first | refine g_dec ?_ ?_ | refine c_dec ?_ ?_ | refine s_dec ?_ ?_ | refine g_ndec ?_ ?_ | refine c_ndec ?_ ?_ | refine g_nbool ?_ ?_ | refine c_nbool ?_ ?_ | refine g_bool ?_ ?_ | refine c_bool ?_ ?_ | refine s_bool ?_ ?_) <;> intro h d <;> (try simp only [d]) <;> (try simp only [B1, B2, B3, B4, B5, B6, B7, B8] at h) <;> (try omega)))
        refine (hE _ _).2.2 _ ?_
        exact hp 3 _ _ _ sx.symm frA
    · rw [pmagic_bad hx1] at sx
      repeat' (first | simp -implicitDefEqProofs (disch := first | exact soD | fail) only [go_sem, ↓reduceIte, Nat.reduceEqDiff, Nat.reduceAdd, Nat.reduceLT, Nat.reduceLeDiff, Nat.reduceBEq, reduceCtorEq] | ((with_reducible first | refine g_dec ?_ ?_ | refine c_dec ?_ ?_ | refine s_dec ?_ ?_ | refine g_ndec ?_ ?_ | refine c_ndec ?_ ?_ | refine g_nbool ?_ ?_ | refine c_nbool ?_ ?_ | refine g_bool ?_ ?_ | refine c_bool ?_ ?_ | refine s_bool ?_ ?_) <;> intro h d <;> (try simp only [d]) <;> (try simp only [B1, B2, B3, B4, B5, B6, B7, B8] at h) <;> (try omega)))
      refine (hE _ _).2.2 _ ?_
      exact hp _ _ _ _ sx.symm (Fr.trans f (Fr.trans frA g1))
  · have e4 : env 4 = avI 4 := e4
    repeat' (first | simp -implicitDefEqProofs (disch := first | exact soD | fail) only [go_sem, ↓reduceIte, Nat.reduceEqDiff, Nat.reduceAdd, Nat.reduceLT, Nat.reduceLeDiff, Nat.reduceBEq, reduceCtorEq, Int.reduceEq, Int.reduceLT, e0, e4] | ((with_reducible first | refine g_dec ?_ ?_ | refine c_dec ?_ ?_ | refine s_dec ?_ ?_ | refine g_ndec ?_ ?_ | refine c_ndec ?_ ?_ | refine g_nbool ?_ ?_ | refine c_nbool ?_ ?_ | refine g_bool ?_ ?_ | refine c_bool ?_ ?_ | refine s_bool ?_ ?_) <;> intro h d <;> (try simp only [d]) <;> (try simp only [B1, B2, B3, B4, B5, B6, B7, B8] at h) <;> (try omega)))
    exact (hE _ _).1 _ (hx _ _ sx.symm ⟨by decide, sx, frA, R.grow frA, by simp -implicitDefEqProofs (disch := first | exact soD | fail) only [go_sem, ↓reduceIte, Nat.reduceEqDiff, Nat.reduceAdd, Nat.reduceLT, Nat.reduceLeDiff, Nat.reduceBEq, reduceCtorEq, e0], by simp -implicitDefEqProofs (disch := first | exact soD | fail) only [go_sem, ↓reduceIte, Nat.reduceEqDiff, Nat.reduceAdd, Nat.reduceLT, Nat.reduceLeDiff, Nat.reduceBEq, reduceCtorEq, e4] <;> rfl⟩)
end
end Go.Proofs.YtiijjopdhjpalaaDoor

/-! Reading an image, in the program: the functions, the program. Conditions: none. -/
namespace Go.Proofs.YtiijjopdhjpalaaDoor
open Go
set_option linter.unusedSimpArgs false
set_option linter.unusedVariables false
theorem pfuncs_bad {ts : List GT} {nf : Int} {b : List Int} {i k : Nat} {e : Int} (h : pfunc ts nf true b i = .bad k e) : pfuncs ts nf b i = .bad k e := by
  show pbind (pfunc ts nf true) _ b i = _
  exact pb_bad h
theorem pfuncs_ok {ts : List GT} {nf : Int} {b : List Int} {i k : Nat} {f : GF} (h : pfunc ts nf true b i = .ok f k) : pfuncs ts nf b i = pcat [f] (prep (pfunc ts nf false) (nf.toNat - 1) b k) := by
  show pbind (pfunc ts nf true) _ b i = _
  rw [pb_ok h]
  cases hr : prep (pfunc ts nf false) (nf.toNat - 1) b k with
  | bad k e => rw [pb_bad hr]; rfl
  | ok l j => rw [pb_ok hr]; rfl
def pb2 (ts : List GT) : Par GP := pat fun st => pbind (pnumber 51 5) fun nf => if nf = 0 then pfail st 8 else pbind (pfuncs ts nf) fun fs => ppure ⟨ts, fs⟩
theorem pb2_bad {ts : List GT} {b : List Int} {i k : Nat} {e : Int} (h : pnumber 51 5 b i = .bad k e) : pb2 ts b i = .bad k e := by
  show pbind (pnumber 51 5) _ b i = _
  exact pb_bad h
theorem pb2_ok {ts : List GT} {b : List Int} {i k : Nat} {nf : Int} (h : pnumber 51 5 b i = .ok nf k) : pb2 ts b i = (if nf = 0 then pfail i 8 else pbind (pfuncs ts nf) fun fs => ppure ⟨ts, fs⟩ : Par GP) b k := by
  show pbind (pnumber 51 5) _ b i = _
  exact pb_ok h
theorem pbody_bad {b : List Int} {k : Nat} {e : Int} (h : pmagic [116, 105, 100, 1] b 0 = .bad k e) : pbody b 0 = .bad k e := by
  show pbind (pmagic [116, 105, 100, 1]) _ b 0 = _
  exact pb_bad h
theorem pbody_ok {b : List Int} {k : Nat} {u : Unit} (h : pmagic [116, 105, 100, 1] b 0 = .ok u k) : pbody b 0 = pbind ptypes pb2 b k := by
  show pbind (pmagic [116, 105, 100, 1]) _ b 0 = _
  rw [pb_ok h]
  rfl
section
variable {m : AMem} {dc r id : Nat} {b : List Int}
/-- The loop over the functions. -/
structure FI (m : AMem) (dc r id : Nat) (b : List Int) (ts : List GT) (like : List Int) (N : Nat) (X : PR (List GF)) (s : List GF × Nat) (env : AEnv) (w : AMem) : Prop where
  len : s.1.length ≤ N
  par : (s.1 = [] ∧ pfuncs ts N b s.2 = X) ∨ (s.1 ≠ [] ∧ pcat s.1 (prep (pfunc ts N false) (N - s.1.length) b s.2) = X)
  fr : Fr (fun x => x = r ∨ x = dc) m w
  rd : RD w r id b s.2 0 0
  dd : ∃ tv fsv, DD w dc r tv fsv (TT (T0 ts) like) N ∧ TL w tv ts ∧ FL w fsv s.1 ∧ ∀ y, SId fsv y → m.next ≤ y
  e0 : env 0 = .ptr dc 0 0
  e39 : env 39 = avI N
  e40 : env 40 = avI s.1.length
set_option maxHeartbeats 4000000 in
theorem funcs_loop (n : Nat) {ts : List GT} {like : List Int} (hts : ts.length ≤ 60) (hpt : ∀ x ∈ T0 ts, x.parts.length ≤ 1000) {N : Nat} (hN1 : 1 ≤ N) (hN0 : N ≤ 50) (hb : BB b) (hl : b.length ≤ 1048576) {X : PR (List GF)} {Q : AOut → AMem → Prop} {K : Kont} {s0 : List GF × Nat} {env : AEnv} {w : AMem} (hI : FI m dc r id b ts like N X s0 env w)
    (hx : ∀ (fs : List GF) (i : Nat) (env' : AEnv) (w' : AMem), X = .ok fs i → FI m dc r id b ts like N X (fs, i) env' w' → Wp (K (.exit 2) env' w') Q)
    (hp : ∀ (k : Nat) (e : Int) (env' : AEnv) (w' : AMem), X = .bad k e → Fr (fun x => x = r ∨ x = dc) m w' → Wp (K (.panic (W k e)) env' w') Q) :
    Wp (loopN LOOPK (aCode (callsN cfg (n + 5)) lb26_1) env w K) Q := by
  refine wp_loop (FI m dc r id b ts like N X) (fun s => N - s.1.length) (fun s env w K' hI hN hE => ?_) LOOPK s0 _ _ hI (by rw [LOOPK_eq]; have := hI.len; omega)
  obtain ⟨l, i⟩ := s
  have hI' := hI
  obtain ⟨sl, sx, f, R, ⟨tv, fsv, D, T, L, py⟩, e0, e39, e40⟩ := hI
  simp only at sl sx R L e40 hN
  unfold lb26_1
  by_cases c : l.length < N
  · obtain ⟨es, O, el, ea⟩ := L.ov
    have fn := f.next
    repeat' (first | simp -implicitDefEqProofs (disch := first | exact soD | fail) only [go_sem, ↓reduceIte, Nat.reduceEqDiff, Nat.reduceAdd, Nat.reduceLT, Nat.reduceLeDiff, Nat.reduceBEq, reduceCtorEq, e0, e39, e40] | ((with_reducible first | refine g_dec ?_ ?_ | refine c_dec ?_ ?_ | refine s_dec ?_ ?_ | refine g_ndec ?_ ?_ | refine c_ndec ?_ ?_ | refine g_nbool ?_ ?_ | refine c_nbool ?_ ?_ | refine g_bool ?_ ?_ | refine c_bool ?_ ?_ | refine s_bool ?_ ?_) <;> intro h d <;> (try simp only [d]) <;> (try simp only [B1, B2, B3, B4, B5, B6, B7, B8] at h) <;> (try omega)))
    refine call_pr (sp_func n hts hpt hN0 (by omega) hb hl (D.grow frA) (L.frame (S := fun _ => False) frA off_none off_none off_none) (R.grow frA)) (fun g k v m1 hx1 g1 hv R1 => ?_) (fun k e m1 hx1 g1 => ?_)
    · obtain ⟨rfl, fsv', D1, L1, py1⟩ := hv
      have g1n := g1.next
      simp only [room_next, put_next] at g1n py1
      have GW : Fr (fun x => x = r ∨ x = dc ∨ SId fsv x) w m1 := Fr.trans frA g1
      have ow : ∀ {t : Nat}, t ≠ 93 → t ≠ 69 → t ≠ 48 → Off (fun x => x = r ∨ x = dc ∨ SId fsv x) w t := fun h1 h2 h3 => off_or (off_r R h1) (off_or (off_eq D.dd (fun e => h2 e.symm)) (O.off h3))
      repeat' (first | simp -implicitDefEqProofs (disch := first | exact soD | fail) only [go_sem, ↓reduceIte, Nat.reduceEqDiff, Nat.reduceAdd, Nat.reduceLT, Nat.reduceLeDiff, Nat.reduceBEq, reduceCtorEq, e0, e39, e40] | ((with_reducible first | refine g_dec ?_ ?_ | refine c_dec ?_ ?_ | refine s_dec ?_ ?_ | refine g_ndec ?_ ?_ | refine c_ndec ?_ ?_ | refine g_nbool ?_ ?_ | refine c_nbool ?_ ?_ | refine g_bool ?_ ?_ | refine c_bool ?_ ?_ | refine s_bool ?_ ?_) <;> intro h d <;> (try simp only [d]) <;> (try simp only [B1, B2, B3, B4, B5, B6, B7, B8] at h) <;> (try omega)))
      refine hN (l ++ [g], k) _ _ ⟨by simp; omega, .inr ⟨by simp, ?_⟩, ?_, R1.grow frA, ⟨tv, fsv', D1.grow frA, (T.frame GW (ow (by decide) (by decide) (by decide)) (ow (by decide) (by decide) (by decide))).frame (S := fun _ => False) frA off_none off_none, L1.frame (S := fun _ => False) frA off_none off_none off_none, fun y h => by have := py1 y h; omega⟩, by simp -implicitDefEqProofs (disch := first | exact soD | fail) only [go_sem, ↓reduceIte, Nat.reduceEqDiff, Nat.reduceAdd, Nat.reduceLT, Nat.reduceLeDiff, Nat.reduceBEq, reduceCtorEq, e0], by simp -implicitDefEqProofs (disch := first | exact soD | fail) only [go_sem, ↓reduceIte, Nat.reduceEqDiff, Nat.reduceAdd, Nat.reduceLT, Nat.reduceLeDiff, Nat.reduceBEq, reduceCtorEq, e39], ?_⟩ ?_
      · rcases sx with ⟨h, sx⟩ | ⟨h, sx⟩
        · subst h
          rw [pfuncs_ok (by simpa using hx1), Int.toNat_natCast] at sx
          exact sx
        · have hne : l.length ≠ 0 := fun e => h (List.length_eq_zero_iff.1 e)
          rw [decide_eq_false hne] at hx1
          rw [show N - l.length = (N - l.length - 1) + 1 by omega, pcat_ok hx1] at sx
          rw [List.length_append, ← Nat.sub_sub]
          exact sx
      · refine Fr.room (Fr.up f GW fun y h => ?_) _
        rcases h with h | h | h
        · exact .inr (.inl h)
        · exact .inr (.inr h)
        · exact .inl (py y h)
      · simp -implicitDefEqProofs (disch := first | exact soD | fail) only [go_sem, ↓reduceIte, Nat.reduceEqDiff, Nat.reduceAdd, Nat.reduceLT, Nat.reduceLeDiff, Nat.reduceBEq, reduceCtorEq, List.length_append]
        rfl
      · show N - (l ++ [g]).length < N - l.length
        rw [List.length_append, List.length_cons]
        omega
    · have sx' : X = .bad k e := by
        rcases sx with ⟨h, sx⟩ | ⟨h, sx⟩
        · subst h
          rw [pfuncs_bad (by simpa using hx1)] at sx
          exact sx.symm
        · have hne : l.length ≠ 0 := fun e => h (List.length_eq_zero_iff.1 e)
          rw [decide_eq_false hne] at hx1
          rw [show N - l.length = (N - l.length - 1) + 1 by omega, pcat_bad hx1] at sx
          exact sx.symm
      repeat' (first | simp -implicitDefEqProofs (disch := first | exact soD | fail) only [go_sem, ↓reduceIte, Nat.reduceEqDiff, Nat.reduceAdd, Nat.reduceLT, Nat.reduceLeDiff, Nat.reduceBEq, reduceCtorEq] | ((with_reducible first | refine g_dec ?_ ?_ | refine c_dec ?_ ?_ | refine s_dec ?_ ?_ | refine g_ndec ?_ ?_ | refine c_ndec ?_ ?_ | refine g_nbool ?_ ?_ | refine c_nbool ?_ ?_ | refine g_bool ?_ ?_ | refine c_bool ?_ ?_ | refine s_bool ?_ ?_) <;> intro h d <;> (try simp only [d]) <;> (try simp only [B1, B2, B3, B4, B5, B6, B7, B8] at h) <;> (try omega)))
      refine (hE _ _).2.2 _ ?_
      refine hp _ _ _ _ sx' (Fr.up f (Fr.trans (frA : Fr (fun x => x = r ∨ x = dc ∨ SId fsv x) w _) g1) fun y h => ?_)
      rcases h with h | h | h
      · exact .inr (.inl h)
      · exact .inr (.inr h)
      · exact .inl (py y h)
  · repeat' (first | simp -implicitDefEqProofs (disch := first | exact soD | fail) only [go_sem, ↓reduceIte, Nat.reduceEqDiff, Nat.reduceAdd, Nat.reduceLT, Nat.reduceLeDiff, Nat.reduceBEq, reduceCtorEq, e0, e39, e40] | ((with_reducible first | refine g_dec ?_ ?_ | refine c_dec ?_ ?_ | refine s_dec ?_ ?_ | refine g_ndec ?_ ?_ | refine c_ndec ?_ ?_ | refine g_nbool ?_ ?_ | refine c_nbool ?_ ?_ | refine g_bool ?_ ?_ | refine c_bool ?_ ?_ | refine s_bool ?_ ?_) <;> intro h d <;> (try simp only [d]) <;> (try simp only [B1, B2, B3, B4, B5, B6, B7, B8] at h) <;> (try omega)))
    refine (hE _ _).1 _ (hx l i _ _ ?_ ⟨sl, hI'.par, frA, R.grow frA, ⟨tv, fsv, D.grow frA, T.frame (S := fun _ => False) frA off_none off_none, L.frame (S := fun _ => False) frA off_none off_none off_none, py⟩, by simp -implicitDefEqProofs (disch := first | exact soD | fail) only [go_sem, ↓reduceIte, Nat.reduceEqDiff, Nat.reduceAdd, Nat.reduceLT, Nat.reduceLeDiff, Nat.reduceBEq, reduceCtorEq, e0], by simp -implicitDefEqProofs (disch := first | exact soD | fail) only [go_sem, ↓reduceIte, Nat.reduceEqDiff, Nat.reduceAdd, Nat.reduceLT, Nat.reduceLeDiff, Nat.reduceBEq, reduceCtorEq, e39], by simp -implicitDefEqProofs (disch := first | exact soD | fail) only [go_sem, ↓reduceIte, Nat.reduceEqDiff, Nat.reduceAdd, Nat.reduceLT, Nat.reduceLeDiff, Nat.reduceBEq, reduceCtorEq, e40]⟩)
    rcases sx with ⟨h, _⟩ | ⟨_, sx⟩
    · subst h
      simp at c
      omega
    · rw [show N - l.length = 0 by omega, pcat_done] at sx
      exact sx.symm
end
end Go.Proofs.YtiijjopdhjpalaaDoor

/-! Reading an image, in the program: the program. Conditions: none. -/
namespace Go.Proofs.YtiijjopdhjpalaaDoor
open Go
set_option linter.unusedSimpArgs false
set_option linter.unusedVariables false
/-- Nothing may stand behind. -/
def endX (b : List Int) : PR GP → PR GP
  | .ok p j => if j < b.length then .bad j 10 else .ok p j
  | .bad k e => .bad k e
theorem dec_eq (b : List Int) : dec b = if 1048576 < b.length then .bad 1048576 5 else endX b (pbody b 0) := by
  unfold dec
  split
  · rfl
  · cases pbody b 0 <;> rfl
def PE (dc r : Nat) (p : GP) (v : AV) (m' : AMem) : Prop := v = .tup [] ∧ ∃ tv fsv tb nf, DD m' dc r tv fsv tb nf ∧ TL m' tv p.types ∧ FL m' fsv p.funcs
section
variable {m : AMem} {dc r id : Nat} {b : List Int}
set_option maxHeartbeats 4000000 in
theorem sp_program (n : Nat) (hb : BB b) (hl : b.length ≤ 1048576) (D : DD m dc r .nils .nils .nilp 0) (R : RD m r id b 0 0 0) :
    Wp (callsN cfg (n + 8) 26 [.ptr dc 0 0] m) (PQ (fun x => x = r ∨ x = dc) m r id b (endX b (pbody b 0)) (PE dc r)) := by
  have n1 := D.ne
  have Sm : ∀ {p q : AMem}, Fr (fun x => x = r) p q → Fr (fun x => x = r ∨ x = dc) p q := fun h => h.mono fun _ _ h => .inl h
  rw [ce26]
  unfold aBody cf26
  repeat' (first | simp -implicitDefEqProofs (disch := first | exact soD | fail) only [go_sem, ↓reduceIte, Nat.reduceEqDiff, Nat.reduceAdd, Nat.reduceLT, Nat.reduceLeDiff, Nat.reduceBEq, reduceCtorEq] | ((with_reducible first | refine g_dec ?_ ?_ | refine c_dec ?_ ?_ | refine s_dec ?_ ?_ | refine g_ndec ?_ ?_ | refine c_ndec ?_ ?_ | refine g_nbool ?_ ?_ | refine c_nbool ?_ ?_ | refine g_bool ?_ ?_ | refine c_bool ?_ ?_ | refine s_bool ?_ ?_) <;> intro h d <;> (try simp only [d]) <;> (try simp only [B1, B2, B3, B4, B5, B6, B7, B8] at h) <;> (try omega)))
  refine magic_loop (m := m) (dc := dc) (r := r) (id := id) (b := b) (n + 4) hb hl D (X := pmagic [116, 105, 100, 1] b 0) ⟨by decide, rfl, frA, R.grow frA, sxA, sxR⟩ (fun env w hX I => ?_) (fun k e env w hX f => ?_)
  · obtain ⟨_, _, f, R1, e0, _⟩ := I
    rw [pbody_ok hX]
    have D1 := D.frame f n1
    have fn := f.next
    unfold ls26_1
    simp -implicitDefEqProofs (disch := first | exact soD | fail) only [go_sem, ↓reduceIte, Nat.reduceEqDiff, Nat.reduceAdd, Nat.reduceLT, Nat.reduceLeDiff, Nat.reduceBEq, reduceCtorEq]
    repeat' (first | simp -implicitDefEqProofs (disch := first | exact soD | fail) only [go_sem, ↓reduceIte, Nat.reduceEqDiff, Nat.reduceAdd, Nat.reduceLT, Nat.reduceLeDiff, Nat.reduceBEq, reduceCtorEq, e0] | ((with_reducible first | refine g_dec ?_ ?_ | refine c_dec ?_ ?_ | refine s_dec ?_ ?_ | refine g_ndec ?_ ?_ | refine c_ndec ?_ ?_ | refine g_nbool ?_ ?_ | refine c_nbool ?_ ?_ | refine g_bool ?_ ?_ | refine c_bool ?_ ?_ | refine s_bool ?_ ?_) <;> intro h d <;> (try simp only [d]) <;> (try simp only [B1, B2, B3, B4, B5, B6, B7, B8] at h) <;> (try omega)))
    refine call_pr (sp_list n hb hl (D1.grow frA) (R1.grow frA)) (fun ts k v m1 hx1 g1 hv R2 => ?_) (fun k e m1 hx1 g1 => ?_)
    · obtain ⟨rfl, tv, like, D2, T2, py⟩ := hv
      have g1n := g1.next
      simp only [room_next, put_next] at g1n py
      have G1 : Fr (fun x => x = r ∨ x = dc) m m1 := Fr.trans (Sm f) (Fr.trans frA g1)
      have ht := ((types_ok hb).1 hx1).1
      obtain ⟨hts, _⟩ := tyOk_of ht
      have hpt : ∀ x ∈ T0 ts, x.parts.length ≤ 1000 := fun x hx => by have := (T0_inside ht).2.1 x hx; omega
      rw [pb_ok hx1]
      have gd := D2.dd
      have ld := D2.ld
      have gr := R2.rd
      have gi := R2.bs
      have lr := R2.lr
      have lb := R2.lb
      have hA := @sp_At (n + 6) (r := r) (id := id) (b := b) (j := k) (k := ((0 : Nat) : Int)) (e := 0)
      repeat' (first | simp -implicitDefEqProofs (disch := first | exact soE | (simp -implicitDefEqProofs (disch := first | exact soE | fail) only [go_sem, ↓reduceIte, Nat.reduceEqDiff, Nat.reduceAdd, Nat.reduceLT, Nat.reduceLeDiff, Nat.reduceBEq, reduceCtorEq, e0, gd, gr, gi, hA]; done) | fail) only [go_sem, ↓reduceIte, Nat.reduceEqDiff, Nat.reduceAdd, Nat.reduceLT, Nat.reduceLeDiff, Nat.reduceBEq, reduceCtorEq, e0, gd, gr, gi, hA] | ((with_reducible first | refine g_dec ?_ ?_ | refine c_dec ?_ ?_ | refine s_dec ?_ ?_ | refine g_ndec ?_ ?_ | refine c_ndec ?_ ?_ | refine g_nbool ?_ ?_ | refine c_nbool ?_ ?_ | refine g_bool ?_ ?_ | refine c_bool ?_ ?_ | refine s_bool ?_ ?_) <;> intro h d <;> (try simp only [d]) <;> (try simp only [B1, B2, B3, B4, B5, B6, B7, B8] at h) <;> (try omega)))
      refine call_pr (sp_number (n + 4) (by omega) (by omega) (by decide) hb hl (D2.grow frA) (R2.grow frA)) (fun a k2 v m2 hx2 g2 hv R3 => ?_) (fun k2 e m2 hx2 g2 => ?_)
      · subst hv
        have g2n := g2.next
        simp only [room_next, put_next] at g2n
        obtain ⟨a0, a1⟩ := number_bd hb hx2
        obtain ⟨N, rfl⟩ : ∃ N : Nat, a = (N : Int) := ⟨a.toNat, by omega⟩
        have F2 : Fr (fun x => x = r) m1 m2 := Fr.trans frA g2
        have F2' : Fr (fun x => x = r ∨ x = dc) m m2 := Fr.trans G1 (Sm F2)
        have D3 := D2.frame F2 n1
        have gd3 := D3.dd
        have T3 := T2.frame F2 (off_r R2 (by decide)) (off_r R2 (by decide))
        rw [pb2_ok hx2]
        by_cases c : N = 0
        · subst c
          rw [if_pos (show ((0 : Nat) : Int) = 0 from rfl)]
          repeat' (first | simp -implicitDefEqProofs (disch := first | exact soD | fail) only [go_sem, ↓reduceIte, Nat.reduceEqDiff, Nat.reduceAdd, Nat.reduceLT, Nat.reduceLeDiff, Nat.reduceBEq, reduceCtorEq, Int.reduceEq, e0, gd3, show ((0 : Nat) : Int) = 0 from rfl, ce43, x_body, cf43] | ((with_reducible first | refine g_dec ?_ ?_ | refine c_dec ?_ ?_ | refine s_dec ?_ ?_ | refine g_ndec ?_ ?_ | refine c_ndec ?_ ?_ | refine g_nbool ?_ ?_ | refine c_nbool ?_ ?_ | refine g_bool ?_ ?_ | refine c_bool ?_ ?_ | refine s_bool ?_ ?_) <;> intro h d <;> (try simp only [d]) <;> (try simp only [B1, B2, B3, B4, B5, B6, B7, B8] at h) <;> (try omega)))
          exact PQ.bad frA
        · rw [if_neg (by omega)]
          have d0 : decide ((N : Int) = 0) = false := decide_eq_false (by omega)
          repeat' (first | simp -implicitDefEqProofs (disch := first | exact soD | fail) only [go_sem, ↓reduceIte, Nat.reduceEqDiff, Nat.reduceAdd, Nat.reduceLT, Nat.reduceLeDiff, Nat.reduceBEq, reduceCtorEq, Int.reduceEq, e0, gd3, d0] | ((with_reducible first | refine g_dec ?_ ?_ | refine c_dec ?_ ?_ | refine s_dec ?_ ?_ | refine g_ndec ?_ ?_ | refine c_ndec ?_ ?_ | refine g_nbool ?_ ?_ | refine c_nbool ?_ ?_ | refine g_bool ?_ ?_ | refine c_bool ?_ ?_ | refine s_bool ?_ ?_) <;> intro h d <;> (try simp only [d]) <;> (try simp only [B1, B2, B3, B4, B5, B6, B7, B8] at h) <;> (try omega)))
          refine funcs_loop (m := m) (dc := dc) (r := r) (id := id) (b := b) (n + 2) (like := like) hts hpt (N := N) (by omega) (by omega) hb hl (X := pfuncs ts N b k2) (s0 := ([], k2))
            ⟨by simp, .inl ⟨rfl, rfl⟩, frA, R3.frame (S := fun x => x = dc) frA (fun e => n1 e.symm) (D3.nid R3), ⟨tv, .nils, ⟨sxA, soA, n1⟩, T3.frame (S := fun x => x = dc) frA (off_eq gd3 (by decide)) (off_eq gd3 (by decide)), .inl ⟨rfl, rfl⟩, fun y ⟨_, _, _, h⟩ => by cases h⟩, by simp -implicitDefEqProofs (disch := first | exact soD | fail) only [go_sem, ↓reduceIte, Nat.reduceEqDiff, Nat.reduceAdd, Nat.reduceLT, Nat.reduceLeDiff, Nat.reduceBEq, reduceCtorEq, e0], sxA, sxR⟩ (fun fs i env' w' hX I => ?_) (fun k e env' w' hX hf => ?_)
          · obtain ⟨_, _, f4, R4, ⟨tv', fsv, D4, T4, L4, _⟩, e0', _, _⟩ := I
            simp only at R4 L4
            have gd4 := D4.dd
            have ld4 := D4.ld
            have gr4 := R4.rd
            have gi4 := R4.bs
            have lr4 := R4.lr
            have lb4 := R4.lb
            have hi := R4.at_
            have hA2 := @sp_At (n + 6) (r := r) (id := id) (b := b) (j := i) (k := ((0 : Nat) : Int)) (e := 0)
            have hLf := fun (q : AMem) => sp_Left (n + 6) (m := q) (r := r) (id := id) (b := b) (j := (i : Int)) (k := ((0 : Nat) : Int)) (e := 0) (by omega) (by omega) hl
            rw [pb_ok hX, show endX b ((ppure (⟨ts, fs⟩ : GP) : Par GP) b i) = if i < b.length then .bad i 10 else .ok ⟨ts, fs⟩ i from rfl]
            unfold ls26_0
            simp -implicitDefEqProofs (disch := first | exact soD | fail) only [go_sem, ↓reduceIte, Nat.reduceEqDiff, Nat.reduceAdd, Nat.reduceLT, Nat.reduceLeDiff, Nat.reduceBEq, reduceCtorEq]
            repeat' (first | simp -implicitDefEqProofs (disch := first | exact soE | (simp -implicitDefEqProofs (disch := first | exact soE | fail) only [go_sem, ↓reduceIte, Nat.reduceEqDiff, Nat.reduceAdd, Nat.reduceLT, Nat.reduceLeDiff, Nat.reduceBEq, reduceCtorEq, Int.reduceEq, e0', gd4, gr4, gi4, hA2, hLf, ce43, x_body, cf43]; done) | fail) only [go_sem, ↓reduceIte, Nat.reduceEqDiff, Nat.reduceAdd, Nat.reduceLT, Nat.reduceLeDiff, Nat.reduceBEq, reduceCtorEq, Int.reduceEq, e0', gd4, gr4, gi4, hA2, hLf, ce43, x_body, cf43] | ((with_reducible first | refine g_dec ?_ ?_ | refine c_dec ?_ ?_ | refine s_dec ?_ ?_ | refine g_ndec ?_ ?_ | refine c_ndec ?_ ?_ | refine g_nbool ?_ ?_ | refine c_nbool ?_ ?_ | refine g_bool ?_ ?_ | refine c_bool ?_ ?_ | refine s_bool ?_ ?_) <;> intro h d <;> (try simp only [d]) <;> (try simp only [B1, B2, B3, B4, B5, B6, B7, B8] at h) <;> (try omega)))
            · rw [if_pos (by omega)]
              exact PQ.bad frA
            · rw [if_neg (by omega)]
              exact PQ.ok frA ⟨rfl, tv', fsv, _, _, D4.grow frA, T4.frame (S := fun _ => False) frA off_none off_none, L4.frame (S := fun _ => False) frA off_none off_none off_none⟩ (R4.grow frA)
          · rw [pb_bad hX]
            simp -implicitDefEqProofs (disch := first | exact soD | fail) only [go_sem, ↓reduceIte, Nat.reduceEqDiff, Nat.reduceAdd, Nat.reduceLT, Nat.reduceLeDiff, Nat.reduceBEq, reduceCtorEq]
            exact PQ.bad hf
      · rw [pb2_bad hx2]
        repeat' (first | simp -implicitDefEqProofs (disch := first | exact soD | fail) only [go_sem, ↓reduceIte, Nat.reduceEqDiff, Nat.reduceAdd, Nat.reduceLT, Nat.reduceLeDiff, Nat.reduceBEq, reduceCtorEq] | ((with_reducible first | refine g_dec ?_ ?_ | refine c_dec ?_ ?_ | refine s_dec ?_ ?_ | refine g_ndec ?_ ?_ | refine c_ndec ?_ ?_ | refine g_nbool ?_ ?_ | refine c_nbool ?_ ?_ | refine g_bool ?_ ?_ | refine c_bool ?_ ?_ | refine s_bool ?_ ?_) <;> intro h d <;> (try simp only [d]) <;> (try simp only [B1, B2, B3, B4, B5, B6, B7, B8] at h) <;> (try omega)))
        exact PQ.bad (Fr.trans G1 (Sm (Fr.trans frA g2)))
    · rw [pb_bad hx1]
      repeat' (first | simp -implicitDefEqProofs (disch := first | exact soD | fail) only [go_sem, ↓reduceIte, Nat.reduceEqDiff, Nat.reduceAdd, Nat.reduceLT, Nat.reduceLeDiff, Nat.reduceBEq, reduceCtorEq] | ((with_reducible first | refine g_dec ?_ ?_ | refine c_dec ?_ ?_ | refine s_dec ?_ ?_ | refine g_ndec ?_ ?_ | refine c_ndec ?_ ?_ | refine g_nbool ?_ ?_ | refine c_nbool ?_ ?_ | refine g_bool ?_ ?_ | refine c_bool ?_ ?_ | refine s_bool ?_ ?_) <;> intro h d <;> (try simp only [d]) <;> (try simp only [B1, B2, B3, B4, B5, B6, B7, B8] at h) <;> (try omega)))
      exact PQ.bad (Fr.trans (Sm f) (Fr.trans frA g1))
  · rw [pbody_bad hX]
    simp -implicitDefEqProofs (disch := first | exact soD | fail) only [go_sem, ↓reduceIte, Nat.reduceEqDiff, Nat.reduceAdd, Nat.reduceLT, Nat.reduceLeDiff, Nat.reduceBEq, reduceCtorEq]
    exact PQ.bad (Sm f)
end
end Go.Proofs.YtiijjopdhjpalaaDoor

/-! What image.Decode answers. Conditions: none. -/
namespace Go.Proofs.YtiijjopdhjpalaaDoor
open Go
set_option linter.unusedSimpArgs false
set_option linter.unusedVariables false
@[go_sem] theorem d_k0 (calls : Nat → AF) (d : DecC) (env : AEnv) (m : AMem) : decK0 calls d .normal env m = aCode calls d.rx env m (decKX calls d) := rfl
@[go_sem] theorem d_kx (calls : Nat → AF) (d : DecC) (env : AEnv) (m : AMem) : decKX calls d .normal env m = aCode calls d.r3 env m (decK3 calls d) := rfl
@[go_sem] theorem d_kxr (calls : Nat → AF) (d : DecC) (env : AEnv) (m : AMem) : decKX calls d .ret env m = (aResL env m d.res).map fun vs => (.ret (retV vs), m) := rfl
@[go_sem] theorem d_k3 (calls : Nat → AF) (d : DecC) (env : AEnv) (m : AMem) : decK3 calls d .normal env m = decBody calls d env m := rfl
@[go_sem] theorem d_k6n (calls : Nat → AF) (d : DecC) (p q : AV) (env : AEnv) (m : AMem) : decK6 calls d p q .normal env m = aCode calls d.rc (envC p q .nili) m (resK d.res env) := rfl
@[go_sem] theorem d_k6r (calls : Nat → AF) (d : DecC) (p q : AV) (env : AEnv) (m : AMem) : decK6 calls d p q .ret env m = aCode calls d.rc (envC p q .nili) m (resK d.res env) := rfl
@[go_sem] theorem d_rn (res : List ARes) (env env' : AEnv) (m : AMem) : resK res env .normal env' m = (aResL env m res).map fun vs => (.ret (retV vs), m) := rfl
@[go_sem] theorem d_rr (res : List ARes) (env env' : AEnv) (m : AMem) : resK res env .ret env' m = (aResL env m res).map fun vs => (.ret (retV vs), m) := rfl
@[go_sem] theorem y_splice_nilp (v : AV) : splice .nilp 0 [v] = v := rfl
@[go_sem] theorem y_splice_nili (v : AV) : splice .nili 0 [v] = v := rfl
@[go_sem] theorem d_env (p q v : AV) : envC p q v = upd (upd (env0 [p, q]) (some 5) v) (some 2) v := rfl
theorem decBody_wp {calls : Nat → AF} {d : DecC} {env : AEnv} {m : AMem} {Q R : AOut → AMem → Prop} {v4 : AV} (h4 : env 4 = v4) (h : Wp (calls d.prog [v4] m) R)
    (hr : ∀ v m', R (.ret v) m' → Wp (aCode calls d.r6 (upd (upd (upd env (some 16) (.fn (.func d.clos) [] [env 2, env 3])) (some 17) (env 4)) (some 18) v) m' (decK6 calls d (env 2) (env 3))) Q)
    (hp : ∀ v m', R (.pan v) m' → Wp (aCode calls d.rc (envC (env 2) (env 3) v) m' (resK d.res (upd (upd env (some 16) (.fn (.func d.clos) [] [env 2, env 3])) (some 17) (env 4)))) Q) : Wp (decBody calls d env m) Q := by
  obtain ⟨o, m', h1, hR⟩ := h
  unfold decBody
  rw [h4] at hr hp ⊢
  simp only [h1]
  cases o with
  | ret v => exact hr v m' hR
  | pan v => exact hp v m' hR
/-- What an image is read as, as a tree. -/
def dV : PR GP → AV
  | .ok p _ => .tup [.agg [tsl 3 (p.types.map GT.av), tsl 4 (p.funcs.map GF.av)], .nili]
  | .bad k e => .tup [.agg [tsl 3 [], tsl 4 []], .ifc 62 (.tp (.agg [avI k, avI e]))]
theorem ce13 (n : Nat) : callsN cfg (n + 1) 13 = borrow (decF (callsN cfg n) decC) := by kernel_rfl
set_option maxHeartbeats 4000000 in
theorem sp_Decode (n : Nat) {b : List Int} (hb : BB b) {m : AMem} {v t : AV} (hv : rb m RBN v = some t) (ht : t = tsl 1 (b.map avB) ∨ t = .ts 1 (b.map avB)) (hlim : b.length ≤ 9223372036854775807) : callsN cfg (n + 9) 13 [v] m = some (.ret (dV (dec b)), m) := by
  rw [ce13]
  refine lend_wp (targs := [t]) (by rw [yrbL_cons, hv]; rfl) ?_
  have hk : lenK t = some (avI b.length) := by
    rcases ht with rfl | rfl
    · rw [lenK_tsl, List.length_map]
    · rw [lenK_ts, List.length_map]
  have he : ∀ q, elems q 1 t = some (b.map avB) := fun q => by
    rcases ht with rfl | rfl
    · rw [y_elems_tsl]
    · rw [y_elems_ts]
  have hdr0 : decC.r0 = dc_r0 := rfl
  have hdrx : decC.rx = dc_rx := rfl
  have hdr3 : decC.r3 = dc_r3 := rfl
  have hdr6 : decC.r6 = dc_r6 := rfl
  have hdrc : decC.rc = dc_rc := rfl
  have hdrs : decC.res = dc_res := rfl
  have hdpr : decC.prog = 26 := rfl
  rw [dec_eq]
  unfold decF
  rw [hdr0]
  unfold dc_r0
  by_cases c : 1048576 < b.length
  · rw [if_pos c]
    repeat' (first | simp -implicitDefEqProofs (disch := first | exact soD | fail) only [go_sem, ↓reduceIte, Nat.reduceEqDiff, Nat.reduceAdd, Nat.reduceLT, Nat.reduceLeDiff, Nat.reduceBEq, reduceCtorEq, hdrx, dc_rx, hk, hdrs, dc_res] | ((with_reducible first | refine g_dec ?_ ?_ | refine c_dec ?_ ?_ | refine s_dec ?_ ?_ | refine g_ndec ?_ ?_ | refine c_ndec ?_ ?_ | refine g_nbool ?_ ?_ | refine c_nbool ?_ ?_ | refine g_bool ?_ ?_ | refine c_bool ?_ ?_ | refine s_bool ?_ ?_) <;> intro h d <;> (try simp only [d]) <;> (try simp only [B1, B2, B3, B4, B5, B6, B7, B8] at h) <;> (try omega)))
    exact ⟨_, rfl, sxR⟩
  · rw [if_neg c]
    repeat' (first | simp -implicitDefEqProofs (disch := first | exact soD | fail) only [go_sem, ↓reduceIte, Nat.reduceEqDiff, Nat.reduceAdd, Nat.reduceLT, Nat.reduceLeDiff, Nat.reduceBEq, reduceCtorEq, hdrx, dc_rx, hk, hdr3, dc_r3, he, ce24, x_body, cf24] | ((with_reducible first | refine g_dec ?_ ?_ | refine c_dec ?_ ?_ | refine s_dec ?_ ?_ | refine g_ndec ?_ ?_ | refine c_ndec ?_ ?_ | refine g_nbool ?_ ?_ | refine c_nbool ?_ ?_ | refine g_bool ?_ ?_ | refine c_bool ?_ ?_ | refine s_bool ?_ ?_) <;> intro h d <;> (try simp only [d]) <;> (try simp only [B1, B2, B3, B4, B5, B6, B7, B8] at h) <;> (try omega)))
    refine decBody_wp (v4 := .ptr 8 0 0) sxA (sp_program (m := _) (dc := 8) (r := 14) (id := 12) n hb (by omega) ⟨sxA, soA, by decide⟩ ⟨sxR, sxA, soA, soA, Nat.zero_le _⟩) (fun u m' hR => ?_) (fun u m' hR => ?_)
    · obtain ⟨f, hR⟩ := hR
      have fn := f.next
      simp only [room_next, put_next, empty_next] at fn
      cases hX : endX b (pbody b 0) with
      | bad k e =>
        rw [hX] at hR
        cases hR
      | ok p j =>
        rw [hX] at hR
        obtain ⟨w, hw, ⟨rfl, tv, fsv, tb, nf, D, T, L⟩, R⟩ := hR
        cases hw
        have g0 := f.get (id := 0) (o := .arr 25 2 [.agg [.nils, .nils]]) sxA soA (by decide)
        have g1 := f.get (id := 1) (o := .arr 31 1 [.nili]) sxA soA (by decide)
        have gd := D.dd
        obtain ⟨_, OT, _⟩ := T.ov
        obtain ⟨o1, o2, o3, o4, o5⟩ := OT.flat
        obtain ⟨_, OF, _⟩ := L.ov
        obtain ⟨q1, q2, q3, q4, q5⟩ := OF.flat
        repeat' (first | simp -implicitDefEqProofs (disch := first | exact soD | fail) only [go_sem, ↓reduceIte, Nat.reduceEqDiff, Nat.reduceAdd, Nat.reduceLT, Nat.reduceLeDiff, Nat.reduceBEq, reduceCtorEq, hdr6, dc_r6, gd, g0, g1, o1, o2, o3, o4, q1, q2, q3, q4, hdrc, dc_rc, hdrs, dc_res] | ((with_reducible first | refine g_dec ?_ ?_ | refine c_dec ?_ ?_ | refine s_dec ?_ ?_ | refine g_ndec ?_ ?_ | refine c_ndec ?_ ?_ | refine g_nbool ?_ ?_ | refine c_nbool ?_ ?_ | refine g_bool ?_ ?_ | refine c_bool ?_ ?_ | refine s_bool ?_ ?_) <;> intro h d <;> (try simp only [d]) <;> (try simp only [B1, B2, B3, B4, B5, B6, B7, B8] at h) <;> (try omega)))
        have o01 : ∀ {t : Nat}, t ≠ 25 → t ≠ 31 → Off (fun x => x = 0 ∨ x = 1) m' t := fun h1 h2 => off_or (off_eq g0 (fun e => h1 e.symm)) (off_eq g1 (fun e => h2 e.symm))
        have h1 := fun M (F : Fr (fun x => x = 0 ∨ x = 1) m' M) => TL.read (T.frame F (o01 (by decide) (by decide)) (o01 (by decide) (by decide))) (isRb_rbN M) 6
        have h2 := fun M (F : Fr (fun x => x = 0 ∨ x = 1) m' M) => FL.read (L.frame F (o01 (by decide) (by decide)) (o01 (by decide) (by decide)) (o01 (by decide) (by decide))) (isRb_rbN M) 5
        refine ⟨_, rfl, ?_⟩
        rw [show (12 : Nat) = 11 + 1 from rfl, ynb_tup, yrbL_cons, show (11 : Nat) = 10 + 1 from rfl, ynb_agg, yrbL_cons, h1 _ frA, yrbL_cons, h2 _ frA]
        rfl
    · obtain ⟨f, hR⟩ := hR
      have fn := f.next
      simp only [room_next, put_next, empty_next] at fn
      cases hX : endX b (pbody b 0) with
      | ok p j =>
        rw [hX] at hR
        obtain ⟨w, hw, _⟩ := hR
        cases hw
      | bad k e =>
        rw [hX] at hR
        cases hR
        have g0 := f.get (id := 0) (o := .arr 25 2 [.agg [.nils, .nils]]) sxA soA (by decide)
        have g1 := f.get (id := 1) (o := .arr 31 1 [.nili]) sxA soA (by decide)
        repeat' (first | simp -implicitDefEqProofs (disch := first | exact soD | fail) only [go_sem, ↓reduceIte, Nat.reduceEqDiff, Nat.reduceAdd, Nat.reduceLT, Nat.reduceLeDiff, Nat.reduceBEq, reduceCtorEq, g0, g1, hdrc, dc_rc, hdrs, dc_res] | ((with_reducible first | refine g_dec ?_ ?_ | refine c_dec ?_ ?_ | refine s_dec ?_ ?_ | refine g_ndec ?_ ?_ | refine c_ndec ?_ ?_ | refine g_nbool ?_ ?_ | refine c_nbool ?_ ?_ | refine g_bool ?_ ?_ | refine c_bool ?_ ?_ | refine s_bool ?_ ?_) <;> intro h d <;> (try simp only [d]) <;> (try simp only [B1, B2, B3, B4, B5, B6, B7, B8] at h) <;> (try omega)))
        exact ⟨_, rfl, sxR⟩
end Go.Proofs.YtiijjopdhjpalaaDoor
