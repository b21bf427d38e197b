/- Reading an image, in the program: the types. Conditions: none. -/
import Derived.Test.YtiijjopdhjpalaaDoorMm
/-! Reading an image, in the program: what a call leaves. Conditions: none. -/
namespace Go.Proofs.YtiijjopdhjpalaaDoor
open Go
set_option linter.unusedSimpArgs false
set_option linter.unusedVariables false
/-- What reading gives up by. -/
@[reducible] def W (k : Nat) (e : Int) : AV := .ifc 71 (.agg [avI k, avI e])
def panK (m : AMem) : AV → Option AR
  | .ifc t v => some (.pan (.ifc t v) m)
  | _ => none
@[go_sem] theorem p_pan (calls : Nat → AF) (env : AEnv) (m : AMem) (new : Nat) (x : Opd) : aOp calls env m new (.pan x) = panK m (x.ev env) := by
  cases h : x.ev env <;> simp only [aOp, panK, h]
@[go_sem] theorem panK_i (m : AMem) (t : Nat) (v : AV) : panK m (.ifc t v) = some (.pan (.ifc t v) m) := rfl
def tasK (m : AMem) (t : Nat) (zero : AV) : AV → Option AR
  | .ifc t' v => if t' = t then some (.val (.tup [v, .bool true]) m) else some (.val (.tup [zero, .bool false]) m)
  | .nili => some (.val (.tup [zero, .bool false]) m)
  | _ => none
@[go_sem] theorem p_tas (calls : Nat → AF) (env : AEnv) (m : AMem) (new t : Nat) (zero : AV) (x : Opd) : aOp calls env m new (.tas t zero x) = tasK m t zero (x.ev env) := by
  cases h : x.ev env <;> simp only [aOp, tasK, h]
@[go_sem] theorem tasK_i (m : AMem) (t : Nat) (zero v : AV) : tasK m t zero (.ifc t v) = some (.val (.tup [v, .bool true]) m) := if_pos rfl
/-- What is no object of S is as it was. -/
structure Fr (S : Nat → Prop) (m m' : AMem) : Prop where
  next : m.next ≤ m'.next
  old : ∀ id, id < m.next → ¬ S id → m'.get id = m.get id
theorem Fr.refl {S : Nat → Prop} {m : AMem} : Fr S m m := ⟨Nat.le_refl _, fun _ _ _ => rfl⟩
theorem Fr.trans {S : Nat → Prop} {m p q : AMem} (h : Fr S m p) (g : Fr S p q) : Fr S m q :=
  ⟨Nat.le_trans h.next g.next, fun id a b => (g.old id (Nat.lt_of_lt_of_le a h.next) b).trans (h.old id a b)⟩
theorem Fr.mono {S T : Nat → Prop} {m p : AMem} (h : Fr S m p) (hs : ∀ id, id < m.next → S id → T id) : Fr T m p := ⟨h.next, fun id a b => h.old id a fun c => b (hs id a c)⟩
theorem Fr.get {S : Nat → Prop} {m p : AMem} (h : Fr S m p) {id : Nat} {o : AObj} (hg : m.get id = some o) (hl : id < m.next) (hn : ¬ S id) : p.get id = some o := (h.old id hl hn).trans hg
@[go_sem] theorem fr_refl (S : Nat → Prop) (m : AMem) : Fr S m m = True := eq_true Fr.refl
theorem Fr.room {S : Nat → Prop} {m q : AMem} (h : Fr S m q) (n : Nat) : Fr S m (q.room n) := ⟨Nat.le_trans h.next (Nat.le_add_right ..), h.old⟩
theorem Fr.put {S : Nat → Prop} {m q : AMem} (h : Fr S m q) {id : Nat} (o : AObj) (hs : m.next ≤ id ∨ S id) : Fr S m (q.put id o) :=
  ⟨h.next, fun j a b => by
    rw [put_ne _ _ _ _ (fun e => by subst e; exact hs.elim (fun x => by omega) b)]
    exact h.old j a b⟩
theorem Fr.kill {S : Nat → Prop} {m q : AMem} (h : Fr S m q) {id : Nat} (hs : m.next ≤ id ∨ S id) : Fr S m (q.kill id) :=
  ⟨h.next, fun j a b => by
    rw [kill_ne _ _ _ (fun e => by subst e; exact hs.elim (fun x => by omega) b)]
    exact h.old j a b⟩
theorem frA {S : Nat → Prop} {m q : AMem} (h : Fr S m q := by (repeat (first | exact Fr.refl | assumption | refine Fr.room ?_ _ | refine Fr.put ?_ _ (by first | exact .inr rfl | exact .inr (.inl rfl) | exact .inr (.inr rfl) | exact .inr (.inr (.inl rfl)) | exact .inr (.inr (.inr rfl)) | exact .inl (by (first | omega | (simp -implicitDefEqProofs (disch := first | exact soD | fail) only [go_sem, ↓reduceIte, Nat.reduceEqDiff, Nat.reduceAdd, Nat.reduceLT, Nat.reduceLeDiff, Nat.reduceBEq, reduceCtorEq] <;> omega))) | exact .inr (by show _ ≤ _; (first | omega | (simp -implicitDefEqProofs (disch := first | exact soD | fail) only [go_sem, ↓reduceIte, Nat.reduceEqDiff, Nat.reduceAdd, Nat.reduceLT, Nat.reduceLeDiff, Nat.reduceBEq, reduceCtorEq] <;> omega))) | exact .inr (.inl (by show _ ≤ _; (first | omega | (simp -implicitDefEqProofs (disch := first | exact soD | fail) only [go_sem, ↓reduceIte, Nat.reduceEqDiff, Nat.reduceAdd, Nat.reduceLT, Nat.reduceLeDiff, Nat.reduceBEq, reduceCtorEq] <;> omega))))) | refine Fr.kill ?_ (by first | exact .inr rfl | exact .inr (.inl rfl) | exact .inr (.inr rfl) | exact .inl (by (first | omega | (simp -implicitDefEqProofs (disch := first | exact soD | fail) only [go_sem, ↓reduceIte, Nat.reduceEqDiff, Nat.reduceAdd, Nat.reduceLT, Nat.reduceLeDiff, Nat.reduceBEq, reduceCtorEq] <;> omega))))))) : Fr S m q := h
/-- A reader of bytes b, at j, its fault (0: none). -/
def rdO (id n j k : Nat) (e : Int) : AObj := .arr 93 4 [.agg [.sl 1 id 0 n, avI j, avI k, avI e]]
structure RD (m : AMem) (r id : Nat) (b : List Int) (j k : Nat) (e : Int) : Prop where
  rd : m.get r = some (.arr 93 4 [.agg [.sl 1 id 0 b.length, avI j, avI k, avI e]])
  bs : m.get id = some (.arr 5 1 (b.map avB))
  lr : r < m.next
  lb : id < m.next
  at_ : j ≤ b.length
theorem RD.frame {S : Nat → Prop} {m p : AMem} {r id : Nat} {b : List Int} {j k : Nat} {e : Int} (h : RD m r id b j k e) (f : Fr S m p) (hr : ¬ S r) (hi : ¬ S id) : RD p r id b j k e :=
  ⟨f.get h.rd h.lr hr, f.get h.bs h.lb hi, Nat.lt_of_lt_of_le h.lr f.next, Nat.lt_of_lt_of_le h.lb f.next, h.at_⟩
theorem RD.grow {m p : AMem} {r id : Nat} {b : List Int} {j k : Nat} {e : Int} (h : RD m r id b j k e) (f : Fr (fun _ => False) m p) : RD p r id b j k e := h.frame f (fun h => h) (fun h => h)
theorem Fr.any {S : Nat → Prop} {m p : AMem} (h : Fr (fun _ => False) m p) : Fr S m p := h.mono fun _ _ h => h.elim
theorem RD.nb {m : AMem} {r id : Nat} {b : List Int} {j k : Nat} {e : Int} (h : RD m r id b j k e) : ¬ id = r := fun x => by
  have := h.rd
  rw [← x, h.bs] at this
  cases this
/-- A decoder on a reader. -/
structure DD (m : AMem) (d r : Nat) (ts fs tb : AV) (nf : Int) : Prop where
  dd : m.get d = some (.arr 69 5 [.agg [.ptr r 0 0, ts, fs, tb, avI nf]])
  ld : d < m.next
  ne : ¬ d = r
theorem DD.frame {S : Nat → Prop} {m p : AMem} {d r : Nat} {ts fs tb : AV} {nf : Int} (h : DD m d r ts fs tb nf) (f : Fr S m p) (hs : ¬ S d) : DD p d r ts fs tb nf := ⟨f.get h.dd h.ld hs, Nat.lt_of_lt_of_le h.ld f.next, h.ne⟩
theorem DD.grow {m p : AMem} {d r : Nat} {ts fs tb : AV} {nf : Int} (h : DD m d r ts fs tb nf) (f : Fr (fun _ => False) m p) : DD p d r ts fs tb nf := h.frame f fun h => h
/-- What a call leaves that reads. -/
def PQ {α : Type} (S : Nat → Prop) (m : AMem) (r id : Nat) (b : List Int) (x : PR α) (enc : α → AV → AMem → Prop) : AOut → AMem → Prop := fun o m' => Fr S m m' ∧ match x with
  | .ok a j => ∃ v, o = .ret v ∧ enc a v m' ∧ RD m' r id b j 0 0
  | .bad k e => o = .pan (W k e)
theorem PQ.bad {α : Type} {S : Nat → Prop} {m p : AMem} {r id : Nat} {b : List Int} {enc : α → AV → AMem → Prop} {k : Nat} {e : Int} (f : Fr S m p) : PQ S m r id b (.bad k e : PR α) enc (.pan (W k e)) p := ⟨f, rfl⟩
theorem PQ.ok {α : Type} {S : Nat → Prop} {m p : AMem} {r id j : Nat} {b : List Int} {enc : α → AV → AMem → Prop} {a : α} {v : AV} (f : Fr S m p) (hv : enc a v p) (hR : RD p r id b j 0 0) : PQ S m r id b (.ok a j : PR α) enc (.ret v) p := ⟨f, v, rfl, hv, hR⟩
section
variable {calls : Nat → AF} {base : Nat} {dst : Option Nat} {rest : List AOper} {env : AEnv} {m : AMem} {K : Kont} {Q : AOut → AMem → Prop} {res : Res}
/-- A call, by what it leaves. -/
theorem call_wp (R : AOut → AMem → Prop) (h : Wp res R) (hr : ∀ v m', R (.ret v) m' → Wp (aOps calls base rest (upd env dst v) m' K) Q) (hp : ∀ v m', R (.pan v) m' → Wp (K (.panic v) env m') Q) : Wp (opK calls base dst rest env K (call? res)) Q := by
  obtain ⟨o, m', rfl, hR⟩ := h
  cases o with
  | ret v => exact hr v m' hR
  | pan v => exact hp v m' hR
/-- A call that reads. -/
theorem call_pr {α : Type} {S : Nat → Prop} {r id : Nat} {b : List Int} {x : PR α} {enc : α → AV → AMem → Prop} (h : Wp res (PQ S m r id b x enc))
    (hr : ∀ a j v m', x = .ok a j → Fr S m m' → enc a v m' → RD m' r id b j 0 0 → Wp (aOps calls base rest (upd env dst v) m' K) Q)
    (hp : ∀ k e m', x = .bad k e → Fr S m m' → Wp (K (.panic (W k e)) env m') Q) : Wp (opK calls base dst rest env K (call? res)) Q := by
  refine call_wp _ h (fun v m' hR => ?_) fun v m' hR => ?_
  · cases x with
    | ok a j =>
      obtain ⟨f, w, hw, he, hd⟩ := hR
      cases hw
      exact hr a j _ m' rfl f he hd
    | bad k e => exact absurd hR.2 (by simp)
  · cases x with
    | ok a j =>
      obtain ⟨f, w, hw, he, hd⟩ := hR
      cases hw
    | bad k e =>
      obtain ⟨f, hw⟩ := hR
      cases hw
      exact hp k e m' rfl f
end
theorem pb_ok {α β : Type} {p : Par α} {f : α → Par β} {b : List Int} {i j : Nat} {a : α} (h : p b i = .ok a j) : pbind p f b i = f a b j := by
  unfold pbind; rw [h]
theorem pb_bad {α β : Type} {p : Par α} {f : α → Par β} {b : List Int} {i k : Nat} {e : Int} (h : p b i = .bad k e) : pbind p f b i = .bad k e := by
  unfold pbind; rw [h]
/-! ### bits -/
theorem and_127 (c : Int) (h0 : 0 ≤ c) (h1 : c < 256) : aBin .and (.int .u8 c) (.int .u8 127) = some (.int .u8 (c % 128)) := by
  show some (AV.int .u8 (IntKind.u8.wrap (((BitVec.ofInt 8 c &&& BitVec.ofInt 8 127).toNat : Nat) : Int))) = _
  have e : (BitVec.ofInt 8 c &&& BitVec.ofInt 8 127).toNat = c.toNat % 128 := by
    rw [BitVec.toNat_and, show (BitVec.ofInt 8 127).toNat = 2 ^ 7 - 1 from rfl, Nat.and_two_pow_sub_one_eq_mod]
    have : (BitVec.ofInt 8 c).toNat = c.toNat := by
      rw [BitVec.toNat_ofInt]
      congr 1
      show c % 256 = c
      omega
    rw [this]
  rw [e]
  congr 2
  unfold IntKind.wrap
  simp only [IntKind.bits, IntKind.signed, Bool.false_and, Bool.false_eq_true, if_false, show (2 : Int) ^ 8 = 256 from rfl]
  omega
theorem shl_7 (c : Int) (s : Nat) (k : IntKind) (h0 : 0 ≤ c) (h1 : c < 128) (hs : s ≤ 9) (h9 : s = 9 → c ≤ 1) : aBin .shl (.int .u64 c) (.int k (7 * (s : Int))) = some (.int .u64 (c * 128 ^ s)) := by
  show (if (7 * (s : Int)) < 0 then none else some (AV.int .u64 (IntKind.u64.wrap (c * 2 ^ (min (7 * (s : Int)).toNat IntKind.u64.bits))))) = _
  rw [if_neg (by omega)]
  have e : min (7 * (s : Int)).toNat IntKind.u64.bits = 7 * s := by
    show min (7 * (s : Int)).toNat 64 = _
    omega
  rw [e, Int.pow_mul, show (2 : Int) ^ 7 = 128 from rfl]
  congr 2
  have hc : c * 128 ^ s < 18446744073709551616 ∧ 0 ≤ c * 128 ^ s := by
    rcases (by omega : s = 0 ∨ s = 1 ∨ s = 2 ∨ s = 3 ∨ s = 4 ∨ s = 5 ∨ s = 6 ∨ s = 7 ∨ s = 8 ∨ s = 9) with h | h | h | h | h | h | h | h | h | h <;> subst h <;> simp only [Int.reducePow] <;> omega
  unfold IntKind.wrap
  simp only [IntKind.bits, IntKind.signed, Bool.false_and, Bool.false_eq_true, if_false, show (2 : Int) ^ 64 = 18446744073709551616 from rfl]
  omega
theorem or_add (n s : Nat) (c : Nat) (hn : n < 128 ^ s) (hc : c * 128 ^ s + n < 18446744073709551616) : aBin .or (.int .u64 (n : Int)) (.int .u64 ((c : Int) * 128 ^ s)) = some (.int .u64 ((n + c * 128 ^ s : Nat) : Int)) := by
  have e0 : (c : Int) * 128 ^ s = ((c * 128 ^ s : Nat) : Int) := by simp
  rw [e0]
  show some (AV.int .u64 (IntKind.u64.wrap (((BitVec.ofInt 64 (n : Int) ||| BitVec.ofInt 64 ((c * 128 ^ s : Nat) : Int)).toNat : Nat) : Int))) = _
  have e : (BitVec.ofInt 64 (n : Int) ||| BitVec.ofInt 64 ((c * 128 ^ s : Nat) : Int)).toNat = n + c * 128 ^ s := by
    rw [BitVec.toNat_or, ofInt_toNat _ (by omega) (by omega), ofInt_toNat _ (by omega) (by omega), Int.toNat_natCast, Int.toNat_natCast, Nat.or_comm]
    have e1 : c * 128 ^ s = c <<< (7 * s) := by rw [Nat.shiftLeft_eq, Nat.pow_mul]
    have e2 : (128 : Nat) ^ s = 2 ^ (7 * s) := by rw [Nat.pow_mul]
    rw [e1, ← Nat.shiftLeft_add_eq_or_of_lt (by rw [← e2]; exact hn), Nat.add_comm]
  rw [e, wrap_u64 _ (by omega) (by omega)]
end Go.Proofs.YtiijjopdhjpalaaDoor

/-! Reading an image, in the program: bytes and numbers. Conditions: none. -/
namespace Go.Proofs.YtiijjopdhjpalaaDoor
open Go
set_option linter.unusedSimpArgs false
set_option linter.unusedVariables false
theorem x_body (calls : Nat → AF) (f : AFun) (args : List AV) (m : AMem) : aBody calls f args m = aCode calls f.body (env0 args) m (fin f.res) := rfl
@[go_sem] theorem u_neg (k : IntKind) (n : Int) : aUn .neg (.int k n) = some (.int k (k.wrap (0 - n))) := rfl
section
variable {m : AMem} {d r id : Nat} {b : List Int} {j : Nat} {ts fs tb : AV} {nf : Int}
set_option maxHeartbeats 1000000 in
theorem sp_byte (n : Nat) (hd : DD m d r ts fs tb nf) (hR : RD m r id b j 0 0) (hl : b.length ≤ 1048576) : Wp (callsN cfg (n + 3) 42 [.ptr d 0 0] m) (PQ (fun x => x = r) m r id b (pbyte b j) fun c v _ => v = avB c) := by
  have n2 := hR.nb
  obtain ⟨hd, ld, n1⟩ := hd
  obtain ⟨hr, hi, lr, lb, hj⟩ := hR
  rw [ce42]
  unfold aBody cf42 pbyte
  by_cases c : j = b.length
  · subst c
    have e : b[b.length]? = none := List.getElem?_eq_none (by omega)
    rw [e]
    have dj : decide ((b.length : Int) = (b.length : Int)) = true := decide_eq_true (by omega)
    repeat' (first | simp -implicitDefEqProofs (disch := first | exact soD | fail) only [go_sem, ↓reduceIte, Nat.reduceEqDiff, Nat.reduceAdd, Nat.reduceLT, Nat.reduceLeDiff, Nat.reduceBEq, reduceCtorEq, Int.reduceEq, dj, ce71, ce72, ce84, ce85, ce43, x_body, cf71, cf72, cf84, cf85, cf43, hd, hr, hi, n1, n2] | ((with_reducible first | refine g_dec ?_ ?_ | refine c_dec ?_ ?_ | refine s_dec ?_ ?_ | refine g_ndec ?_ ?_ | refine c_ndec ?_ ?_ | refine g_nbool ?_ ?_ | refine c_nbool ?_ ?_ | refine g_bool ?_ ?_ | refine c_bool ?_ ?_ | refine s_bool ?_ ?_) <;> intro h d <;> (try simp only [d]) <;> (try simp only [B1, B2, B3, B4, B5, B6, B7, B8] at h) <;> (try omega)))
    exact PQ.bad frA
  · have hlt : j < b.length := by omega
    have e : b[j]? = some (nth b (j : Int)) := by
      have := nth_get? b (j : Int) (by omega) (by omega)
      simpa using this
    have e2 : (b.map avB)[j]? = some (avB (nth b (j : Int))) := by rw [List.getElem?_map, e]; rfl
    have e3 : ((j : Int) + 1 - 1).toNat = j := by omega
    rw [e]
    have dj : decide ((j : Int) = (b.length : Int)) = false := decide_eq_false (by omega)
    repeat' (first | simp -implicitDefEqProofs (disch := first | exact soD | fail) only [go_sem, ↓reduceIte, Nat.reduceEqDiff, Nat.reduceAdd, Nat.reduceLT, Nat.reduceLeDiff, Nat.reduceBEq, reduceCtorEq, Int.reduceEq, dj, ce71, ce72, ce84, ce85, ce43, x_body, cf71, cf72, cf84, cf85, cf43, hd, hr, hi, n1, n2, e2, e3] | ((with_reducible first | refine g_dec ?_ ?_ | refine c_dec ?_ ?_ | refine s_dec ?_ ?_ | refine g_ndec ?_ ?_ | refine c_ndec ?_ ?_ | refine g_nbool ?_ ?_ | refine c_nbool ?_ ?_ | refine g_bool ?_ ?_ | refine c_bool ?_ ?_ | refine s_bool ?_ ?_) <;> intro h d <;> (try simp only [d]) <;> (try simp only [B1, B2, B3, B4, B5, B6, B7, B8] at h) <;> (try omega)))
    exact PQ.ok frA rfl ⟨by simp -implicitDefEqProofs (disch := first | exact soD | fail) only [go_sem, ↓reduceIte, Nat.reduceEqDiff, Nat.reduceAdd, Nat.reduceLT, Nat.reduceLeDiff, Nat.reduceBEq, reduceCtorEq, hr, hi, show ((j + 1 : Nat) : Int) = (j : Int) + 1 by omega], by simp -implicitDefEqProofs (disch := first | exact soD | fail) only [go_sem, ↓reduceIte, Nat.reduceEqDiff, Nat.reduceAdd, Nat.reduceLT, Nat.reduceLeDiff, Nat.reduceBEq, reduceCtorEq, hr, hi, show ((j + 1 : Nat) : Int) = (j : Int) + 1 by omega], soA, soA, by omega⟩
/-- What reading a number leaves. -/
def UQ (m : AMem) (r id : Nat) (b : List Int) (j : Nat) (x : PR Nat) : AOut → AMem → Prop := fun o m' => Fr (fun x => x = r) m m' ∧ match x with
  | .ok v j' => o = .ret (.int .u64 v) ∧ RD m' r id b j' 0 0
  | .bad k e => o = .ret (.int .u64 0) ∧ RD m' r id b j k e
theorem pow_lt {k c s : Nat} (hs : s ≤ 9) (hk : k < 128 ^ s) (hc : c < 128) (h9 : s = 9 → c ≤ 1) : c * 128 ^ s + k < 18446744073709551616 ∧ k + c * 128 ^ s < 128 ^ (s + 1) := by
  rcases (by omega : s = 0 ∨ s = 1 ∨ s = 2 ∨ s = 3 ∨ s = 4 ∨ s = 5 ∨ s = 6 ∨ s = 7 ∨ s = 8 ∨ s = 9) with h | h | h | h | h | h | h | h | h | h <;> subst h <;> simp only [Nat.reducePow, Nat.reduceAdd] at hk ⊢ <;> omega
set_option maxHeartbeats 2000000 in
theorem sp_Uint (n : Nat) (most : Int) (h0 : 0 ≤ most) (hb : BB b) (hR : RD m r id b j 0 0) (hl : b.length ≤ 1048576) : Wp (callsN cfg (n + 2) 74 [.ptr r 0 0, .int .u64 most, avI 0] m) (UQ m r id b j (puint b j)) := by
  have n2 := hR.nb
  obtain ⟨hr, hi, lr, lb, hj⟩ := hR
  rw [ce74]
  unfold aBody cf74
  generalize hx : puint b j = x
  repeat' (first | simp -implicitDefEqProofs (disch := first | exact soD | fail) only [go_sem, ↓reduceIte, Nat.reduceEqDiff, Nat.reduceAdd, Nat.reduceLT, Nat.reduceLeDiff, Nat.reduceBEq, reduceCtorEq, hr] | ((with_reducible first | refine g_dec ?_ ?_ | refine c_dec ?_ ?_ | refine s_dec ?_ ?_ | refine g_ndec ?_ ?_ | refine c_ndec ?_ ?_ | refine g_nbool ?_ ?_ | refine c_nbool ?_ ?_ | refine g_bool ?_ ?_ | refine c_bool ?_ ?_ | refine s_bool ?_ ?_) <;> intro h d <;> (try simp only [d]) <;> (try simp only [B1, B2, B3, B4, B5, B6, B7, B8] at h) <;> (try omega)))
  refine wp_loop (fun (s : Nat × Nat) (env : AEnv) (w : AMem) => (s.2 ≤ 9 ∧ s.1 < 128 ^ s.2 ∧ j + s.2 ≤ b.length ∧ uintG j (10 - s.2) s.1 s.2 b (j + s.2) = x) ∧ Fr (fun _ => False) m w ∧ env 0 = .ptr r 0 0 ∧ env 1 = .int .u64 most ∧ env 2 = avI 0 ∧ env 7 = .int .u64 s.1 ∧ env 8 = avI s.2) (fun s => 10 - s.2)
    (fun s env w K' ⟨⟨s9, sk, sj, su⟩, f, e0, e1, e2, e7, e8⟩ hN hE => ?_) LOOPK (0, 0) _ _ ⟨⟨by decide, by decide, hj, hx⟩, ((Fr.refl.room _).room _).room _, sxA, sxA, sxA, sxR, sxR⟩ (by rw [LOOPK_eq]; decide)
  obtain ⟨k, s⟩ := s
  simp only at s9 sk sj su e7 e8 hN
  have gr := f.get hr lr (fun h => h)
  have gi := f.get hi lb (fun h => h)
  have lr' := Nat.lt_of_lt_of_le lr f.next
  have lb' := Nat.lt_of_lt_of_le lb f.next
  have hs : 10 - s = (9 - s) + 1 := by omega
  rw [hs] at su
  unfold uintG at su
  have f' : Fr (fun x => x = r) m w := f.any
  unfold lb74_0
  by_cases c : j + s = b.length
  · rw [List.getElem?_eq_none (by omega)] at su
    subst su
    repeat' (first | simp -implicitDefEqProofs (disch := first | exact soD | fail) only [go_sem, ↓reduceIte, Nat.reduceEqDiff, Nat.reduceAdd, Nat.reduceLT, Nat.reduceLeDiff, Nat.reduceBEq, reduceCtorEq, Int.reduceEq, e0, e1, e2, e7, e8, gr, gi, n2, ce84, x_body, cf84] | ((with_reducible first | refine g_dec ?_ ?_ | refine c_dec ?_ ?_ | refine s_dec ?_ ?_ | refine g_ndec ?_ ?_ | refine c_ndec ?_ ?_ | refine g_nbool ?_ ?_ | refine c_nbool ?_ ?_ | refine g_bool ?_ ?_ | refine c_bool ?_ ?_ | refine s_bool ?_ ?_) <;> intro h d <;> (try simp only [d]) <;> (try simp only [B1, B2, B3, B4, B5, B6, B7, B8] at h) <;> (try omega)))
    refine (hE _ _).2.1 ?_
    simp -implicitDefEqProofs (disch := first | exact soD | fail) only [go_sem, ↓reduceIte, Nat.reduceEqDiff, Nat.reduceAdd, Nat.reduceLT, Nat.reduceLeDiff, Nat.reduceBEq, reduceCtorEq]
    exact ⟨frA, rfl, ⟨by simp -implicitDefEqProofs (disch := first | exact soD | fail) only [go_sem, ↓reduceIte, Nat.reduceEqDiff, Nat.reduceAdd, Nat.reduceLT, Nat.reduceLeDiff, Nat.reduceBEq, reduceCtorEq, gr, gi], by simp -implicitDefEqProofs (disch := first | exact soD | fail) only [go_sem, ↓reduceIte, Nat.reduceEqDiff, Nat.reduceAdd, Nat.reduceLT, Nat.reduceLeDiff, Nat.reduceBEq, reduceCtorEq, gr, gi], soA, soA, by omega⟩⟩
  · have hlt : j + s < b.length := by omega
    have hg := nth_get? b ((j + s : Nat) : Int) (by omega) (by omega)
    rw [Int.toNat_natCast] at hg
    obtain ⟨c0, c1⟩ := hb _ (nth_mem b ((j + s : Nat) : Int) (by omega) (by omega))
    generalize nth b ((j + s : Nat) : Int) = z at hg c0 c1
    obtain ⟨y, rfl⟩ : ∃ y : Nat, z = (y : Int) := ⟨z.toNat, by omega⟩
    rw [hg] at su
    simp only [Int.toNat_natCast] at su
    have hget : (b.map avB)[((j : Int) + (s : Int)).toNat]? = some (avB (y : Int)) := by
      rw [show ((j : Int) + (s : Int)).toNat = j + s by omega, List.getElem?_map, hg]; rfl
    by_cases c9 : s = 9 ∧ 1 < (y : Int)
    · rw [if_pos c9] at su
      subst su
      repeat' (first | simp -implicitDefEqProofs (disch := first | exact soD | fail) only [go_sem, ↓reduceIte, Nat.reduceEqDiff, Nat.reduceAdd, Nat.reduceLT, Nat.reduceLeDiff, Nat.reduceBEq, reduceCtorEq, Int.reduceEq, e0, e1, e2, e7, e8, gr, gi, n2, hget, ce84, x_body, cf84] | ((with_reducible first | refine g_dec ?_ ?_ | refine c_dec ?_ ?_ | refine s_dec ?_ ?_ | refine g_ndec ?_ ?_ | refine c_ndec ?_ ?_ | refine g_nbool ?_ ?_ | refine c_nbool ?_ ?_ | refine g_bool ?_ ?_ | refine c_bool ?_ ?_ | refine s_bool ?_ ?_) <;> intro h d <;> (try simp only [d]) <;> (try simp only [B1, B2, B3, B4, B5, B6, B7, B8] at h) <;> (try omega)))
      refine (hE _ _).2.1 ?_
      simp -implicitDefEqProofs (disch := first | exact soD | fail) only [go_sem, ↓reduceIte, Nat.reduceEqDiff, Nat.reduceAdd, Nat.reduceLT, Nat.reduceLeDiff, Nat.reduceBEq, reduceCtorEq]
      exact ⟨frA, rfl, ⟨by simp -implicitDefEqProofs (disch := first | exact soD | fail) only [go_sem, ↓reduceIte, Nat.reduceEqDiff, Nat.reduceAdd, Nat.reduceLT, Nat.reduceLeDiff, Nat.reduceBEq, reduceCtorEq, gr, gi], by simp -implicitDefEqProofs (disch := first | exact soD | fail) only [go_sem, ↓reduceIte, Nat.reduceEqDiff, Nat.reduceAdd, Nat.reduceLT, Nat.reduceLeDiff, Nat.reduceBEq, reduceCtorEq, gr, gi], soA, soA, by omega⟩⟩
    · rw [if_neg c9] at su
      have hp := pow_lt (k := k) (c := y % 128) (s := s) s9 sk (Nat.mod_lt _ (by decide)) (fun h => by omega)
      have ha : aBin .and (.int .u8 (y : Int)) (.int .u8 127) = some (.int .u8 ((y % 128 : Nat) : Int)) := by
        rw [and_127 _ c0 c1]
        rfl
      have hh := shl_7 ((y % 128 : Nat) : Int) s .i64 (by omega) (by omega) s9 (fun h => by omega)
      have ho := or_add k s (y % 128) sk hp.1
      have hsx : ((s + 1 : Nat) : Int) = (s : Int) + 1 := by omega
      by_cases c128 : (y : Int) < 128
      · rw [if_pos c128] at su
        have hm : y % 128 = y := Nat.mod_eq_of_lt (by omega)
        rw [hm] at ha hh ho
        by_cases cz : (y : Int) = 0 ∧ 0 < s
        · rw [if_pos cz] at su
          subst su
          repeat' (first | simp -implicitDefEqProofs (disch := first | exact soD | fail) only [go_sem, ↓reduceIte, Nat.reduceEqDiff, Nat.reduceAdd, Nat.reduceLT, Nat.reduceLeDiff, Nat.reduceBEq, reduceCtorEq, Int.reduceEq, e0, e1, e2, e7, e8, gr, gi, n2, hget, ha, hh, ho, ce84, x_body, cf84] | ((with_reducible first | refine g_dec ?_ ?_ | refine c_dec ?_ ?_ | refine s_dec ?_ ?_ | refine g_ndec ?_ ?_ | refine c_ndec ?_ ?_ | refine g_nbool ?_ ?_ | refine c_nbool ?_ ?_ | refine g_bool ?_ ?_ | refine c_bool ?_ ?_ | refine s_bool ?_ ?_) <;> intro h d <;> (try simp only [d]) <;> (try simp only [B1, B2, B3, B4, B5, B6, B7, B8] at h) <;> (try omega)))
          all_goals refine (hE _ _).2.1 ?_
          all_goals simp -implicitDefEqProofs (disch := first | exact soD | fail) only [go_sem, ↓reduceIte, Nat.reduceEqDiff, Nat.reduceAdd, Nat.reduceLT, Nat.reduceLeDiff, Nat.reduceBEq, reduceCtorEq]
          all_goals exact ⟨frA, rfl, ⟨by simp -implicitDefEqProofs (disch := first | exact soD | fail) only [go_sem, ↓reduceIte, Nat.reduceEqDiff, Nat.reduceAdd, Nat.reduceLT, Nat.reduceLeDiff, Nat.reduceBEq, reduceCtorEq, gr, gi], by simp -implicitDefEqProofs (disch := first | exact soD | fail) only [go_sem, ↓reduceIte, Nat.reduceEqDiff, Nat.reduceAdd, Nat.reduceLT, Nat.reduceLeDiff, Nat.reduceBEq, reduceCtorEq, gr, gi], soA, soA, by omega⟩⟩
        · rw [if_neg cz] at su
          subst su
          repeat' (first | simp -implicitDefEqProofs (disch := first | exact soD | fail) only [go_sem, ↓reduceIte, Nat.reduceEqDiff, Nat.reduceAdd, Nat.reduceLT, Nat.reduceLeDiff, Nat.reduceBEq, reduceCtorEq, Int.reduceEq, e0, e1, e2, e7, e8, gr, gi, n2, hget, ha, hh, ho, ce84, x_body, cf84] | ((with_reducible first | refine g_dec ?_ ?_ | refine c_dec ?_ ?_ | refine s_dec ?_ ?_ | refine g_ndec ?_ ?_ | refine c_ndec ?_ ?_ | refine g_nbool ?_ ?_ | refine c_nbool ?_ ?_ | refine g_bool ?_ ?_ | refine c_bool ?_ ?_ | refine s_bool ?_ ?_) <;> intro h d <;> (try simp only [d]) <;> (try simp only [B1, B2, B3, B4, B5, B6, B7, B8] at h) <;> (try omega)))
          all_goals refine (hE _ _).1 _ ?_
          all_goals unfold ls74_0
          all_goals repeat' (first | simp -implicitDefEqProofs (disch := first | exact soD | fail) only [go_sem, ↓reduceIte, Nat.reduceEqDiff, Nat.reduceAdd, Nat.reduceLT, Nat.reduceLeDiff, Nat.reduceBEq, reduceCtorEq, Int.reduceEq, e0, e1, e2, gr, gi, n2] | ((with_reducible first | refine g_dec ?_ ?_ | refine c_dec ?_ ?_ | refine s_dec ?_ ?_ | refine g_ndec ?_ ?_ | refine c_ndec ?_ ?_ | refine g_nbool ?_ ?_ | refine c_nbool ?_ ?_ | refine g_bool ?_ ?_ | refine c_bool ?_ ?_ | refine s_bool ?_ ?_) <;> intro h d <;> (try simp only [d]) <;> (try simp only [B1, B2, B3, B4, B5, B6, B7, B8] at h) <;> (try omega)))
          all_goals exact ⟨frA, rfl, ⟨by simp -implicitDefEqProofs (disch := first | exact soD | fail) only [go_sem, ↓reduceIte, Nat.reduceEqDiff, Nat.reduceAdd, Nat.reduceLT, Nat.reduceLeDiff, Nat.reduceBEq, reduceCtorEq, gr, gi, show ((j + s + 1 : Nat) : Int) = (j : Int) + ((s : Int) + 1) by omega], by simp -implicitDefEqProofs (disch := first | exact soD | fail) only [go_sem, ↓reduceIte, Nat.reduceEqDiff, Nat.reduceAdd, Nat.reduceLT, Nat.reduceLeDiff, Nat.reduceBEq, reduceCtorEq, gr, gi, show ((j + s + 1 : Nat) : Int) = (j : Int) + ((s : Int) + 1) by omega], soA, soA, by omega⟩⟩
      · rw [if_neg c128] at su
        have hy : y % 128 = y - 128 := by omega
        repeat' (first | simp -implicitDefEqProofs (disch := first | exact soD | fail) only [go_sem, ↓reduceIte, Nat.reduceEqDiff, Nat.reduceAdd, Nat.reduceLT, Nat.reduceLeDiff, Nat.reduceBEq, reduceCtorEq, Int.reduceEq, e0, e1, e2, e7, e8, gr, gi, n2, hget, ha, hh, ho, ce84, x_body, cf84] | ((with_reducible first | refine g_dec ?_ ?_ | refine c_dec ?_ ?_ | refine s_dec ?_ ?_ | refine g_ndec ?_ ?_ | refine c_ndec ?_ ?_ | refine g_nbool ?_ ?_ | refine c_nbool ?_ ?_ | refine g_bool ?_ ?_ | refine c_bool ?_ ?_ | refine s_bool ?_ ?_) <;> intro h d <;> (try simp only [d]) <;> (try simp only [B1, B2, B3, B4, B5, B6, B7, B8] at h) <;> (try omega)))
        all_goals refine hN (k + (y - 128) * 128 ^ s, s + 1) _ _ ⟨⟨?_, ?_, ?_, ?_⟩, frA, by simp -implicitDefEqProofs (disch := first | exact soD | fail) only [go_sem, ↓reduceIte, Nat.reduceEqDiff, Nat.reduceAdd, Nat.reduceLT, Nat.reduceLeDiff, Nat.reduceBEq, reduceCtorEq, e0], by simp -implicitDefEqProofs (disch := first | exact soD | fail) only [go_sem, ↓reduceIte, Nat.reduceEqDiff, Nat.reduceAdd, Nat.reduceLT, Nat.reduceLeDiff, Nat.reduceBEq, reduceCtorEq, e1], by simp -implicitDefEqProofs (disch := first | exact soD | fail) only [go_sem, ↓reduceIte, Nat.reduceEqDiff, Nat.reduceAdd, Nat.reduceLT, Nat.reduceLeDiff, Nat.reduceBEq, reduceCtorEq, e2], by simp -implicitDefEqProofs (disch := first | exact soD | fail) only [go_sem, ↓reduceIte, Nat.reduceEqDiff, Nat.reduceAdd, Nat.reduceLT, Nat.reduceLeDiff, Nat.reduceBEq, reduceCtorEq, hy], by simp -implicitDefEqProofs (disch := first | exact soD | fail) only [go_sem, ↓reduceIte, Nat.reduceEqDiff, Nat.reduceAdd, Nat.reduceLT, Nat.reduceLeDiff, Nat.reduceBEq, reduceCtorEq, hsx]⟩ ?_
        · show s + 1 ≤ 9
          omega
        · have := hp.2
          rw [hy] at this
          exact this
        · show j + (s + 1) ≤ b.length
          omega
        · show uintG j (10 - (s + 1)) (k + (y - 128) * 128 ^ s) (s + 1) b (j + (s + 1)) = x
          rw [show 10 - (s + 1) = 9 - s by omega, show j + (s + 1) = j + s + 1 by omega]
          exact su
        · show 10 - (s + 1) < 10 - s
          omega
theorem shr_1 (v : Nat) (k : IntKind) : aBin .shr (.int .u64 (v : Int)) (.int k 1) = some (.int .u64 ((v / 2 : Nat) : Int)) := by
  show (if (1 : Int) < 0 then none else some (AV.int .u64 ((v : Int).fdiv (2 ^ (min (1 : Int).toNat IntKind.u64.bits))))) = _
  rw [if_neg (by decide)]
  congr 2
  show (v : Int).fdiv 2 = _
  rw [Int.fdiv_eq_ediv_of_nonneg _ (by decide)]
  omega
theorem and_1 (v : Nat) (hv : v < 18446744073709551616) : aBin .and (.int .u64 (v : Int)) (.int .u64 1) = some (.int .u64 ((v % 2 : Nat) : Int)) := by
  show some (AV.int .u64 (IntKind.u64.wrap (((BitVec.ofInt 64 (v : Int) &&& BitVec.ofInt 64 1).toNat : Nat) : Int))) = _
  rw [BitVec.toNat_and, show (BitVec.ofInt 64 1).toNat = 2 ^ 1 - 1 from rfl, Nat.and_two_pow_sub_one_eq_mod, ofInt_toNat _ (by omega) (by omega), Int.toNat_natCast, wrap_u64 _ (by omega) (by omega)]
theorem xor_s0 (a : Nat) (h : a < 9223372036854775808) : aBin .xor (.int .i64 (a : Int)) (.int .i64 0) = some (.int .i64 (a : Int)) := by
  show some (AV.int .i64 (IntKind.i64.wrap (((BitVec.ofInt 64 (a : Int) ^^^ BitVec.ofInt 64 0).toNat : Nat) : Int))) = _
  rw [show BitVec.ofInt 64 (a : Int) ^^^ BitVec.ofInt 64 0 = BitVec.ofInt 64 (a : Int) from BitVec.xor_zero, ofInt_toNat _ (by omega) (by omega), Int.toNat_natCast, wrap_i64 _ (by omega) (by omega)]
theorem xor_s1 (a : Nat) (h : a < 9223372036854775808) : aBin .xor (.int .i64 (a : Int)) (.int .i64 (-1)) = some (.int .i64 (-(a : Int) - 1)) := by
  show some (AV.int .i64 (IntKind.i64.wrap (((BitVec.ofInt 64 (a : Int) ^^^ BitVec.ofInt 64 (-1)).toNat : Nat) : Int))) = _
  have : BitVec.ofInt 64 (a : Int) ^^^ BitVec.ofInt 64 (-1) = ~~~ BitVec.ofInt 64 (a : Int) := by
    rw [show BitVec.ofInt 64 (-1) = BitVec.allOnes 64 from rfl, BitVec.xor_allOnes]
  rw [this, BitVec.toNat_not, ofInt_toNat _ (by omega) (by omega), Int.toNat_natCast]
  have e : ((2 ^ 64 - 1 - a : Nat) : Int) = 18446744073709551615 - a := by
    show ((18446744073709551615 - a : Nat) : Int) = _
    omega
  rw [e]
  congr 2
  unfold IntKind.wrap
  simp only [IntKind.bits, IntKind.signed, Bool.true_and, decide_eq_true_eq, show (2 : Int) ^ 64 = 18446744073709551616 from rfl, show (2 : Int) ^ (64 - 1) = 9223372036854775808 from rfl]
  split <;> omega
theorem puint_lt (hb : BB b) {v k : Nat} (h : puint b j = .ok v k) : v < 18446744073709551616 := ((uint_ok hb).1 h).1
theorem puint_bad (hj : j ≤ b.length) {k : Nat} {e : Int} (h : puint b j = .bad k e) : 1 ≤ e ∧ e ≤ 30 := by
  have g := good_uint (lo := 0) b j (Nat.zero_le _) hj
  rw [h] at g
  exact ⟨g.2.1, g.2.2.1⟩
theorem number_eq {below e : Int} : pnumber below e b j = match puint b j with
    | .ok n i => if (n : Int) < below then .ok (n : Int) i else .bad j e
    | .bad k e' => .bad k e' := by
  cases h : puint b j with
  | bad k e' => simp only [pnumber, pat, pbind, h]
  | ok n i =>
    simp only [pnumber, pat, pbind, h]
    split <;> rfl
theorem rb_intsK (m : AMem) (n : Nat) (k : IntKind) : ∀ l : List Int, rbL (rb m (n + 1)) (l.map fun z => AV.int k z) = some (l.map fun z => AV.int k z)
  | [] => rfl
  | x :: r => by rw [List.map_cons, yrbL_cons, rb_intsK m n k r]; rfl
theorem rb_bytes {m : AMem} {id : Nat} {b : List Int} (h : m.get id = some (.arr 5 1 (b.map avB))) (n : Nat) : rb m (n + 2) (.sl 1 id 0 b.length) = some (tsl 1 (b.map avB)) := by
  cases b with
  | nil => rfl
  | cons x r =>
    rw [yrb_sl m (n + 1) 1 id 0 _ (by simp), h, rslK_s m (n + 1) 0 _ _ 1 _ (by simp), List.drop_zero, List.take_of_length_le (by simp), rb_intsK]
    rfl
theorem rb_reader {m : AMem} {r id : Nat} {b : List Int} {j k e : Int} (h1 : m.get r = some (.arr 93 4 [.agg [.sl 1 id 0 b.length, avI j, avI k, avI e]])) (h2 : m.get id = some (.arr 5 1 (b.map avB))) : rbL (rb m RBN) [.ptr r 0 0] = some [.tp (.agg [tsl 1 (b.map avB), avI j, avI k, avI e])] := by
  rw [yrbL_cons, show RBN = 11 + 1 from rfl, yrb_ptr, h1, rptK_s]
  show (((rb m (10 + 1) (.agg [.sl 1 id 0 b.length, avI j, avI k, avI e])).map AV.tp).bind fun w => (rbL (rb m (11 + 1)) []).map (w :: ·)) = _
  rw [yrb_agg, yrbL_cons, show (10 : Nat) = 8 + 2 from rfl, rb_bytes h2 8]
  rfl
theorem sp_At (n : Nat) {m : AMem} {r id : Nat} {b : List Int} {j k e : Int} (h1 : m.get r = some (.arr 93 4 [.agg [.sl 1 id 0 b.length, avI j, avI k, avI e]])) (h2 : m.get id = some (.arr 5 1 (b.map avB))) : callsN cfg (n + 1) 45 [.ptr r 0 0] m = some (.ret (avI j), m) := by
  rw [ce45]
  refine borrow_wp (rb_reader h1 h2) ?_ rfl
  unfold aBody cf45
  repeat' (first | simp -implicitDefEqProofs (disch := first | exact soD | fail) only [go_sem, ↓reduceIte, Nat.reduceEqDiff, Nat.reduceAdd, Nat.reduceLT, Nat.reduceLeDiff, Nat.reduceBEq, reduceCtorEq, y_one_tsl] | ((with_reducible first | refine g_dec ?_ ?_ | refine c_dec ?_ ?_ | refine s_dec ?_ ?_ | refine g_ndec ?_ ?_ | refine c_ndec ?_ ?_ | refine g_nbool ?_ ?_ | refine c_nbool ?_ ?_ | refine g_bool ?_ ?_ | refine c_bool ?_ ?_ | refine s_bool ?_ ?_) <;> intro h d <;> (try simp only [d]) <;> (try simp only [B1, B2, B3, B4, B5, B6, B7, B8] at h) <;> (try omega)))
theorem sp_Left (n : Nat) {m : AMem} {r id : Nat} {b : List Int} {j k e : Int} (h0 : 0 ≤ j) (hj : j ≤ b.length) (hl : b.length ≤ 1048576) (h1 : m.get r = some (.arr 93 4 [.agg [.sl 1 id 0 b.length, avI j, avI k, avI e]])) (h2 : m.get id = some (.arr 5 1 (b.map avB))) : callsN cfg (n + 1) 48 [.ptr r 0 0] m = some (.ret (avI (b.length - j)), m) := by
  rw [ce48]
  refine borrow_wp (rb_reader h1 h2) ?_ rfl
  unfold aBody cf48
  repeat' (first | simp -implicitDefEqProofs (disch := first | exact soD | fail) only [go_sem, ↓reduceIte, Nat.reduceEqDiff, Nat.reduceAdd, Nat.reduceLT, Nat.reduceLeDiff, Nat.reduceBEq, reduceCtorEq, y_one_tsl] | ((with_reducible first | refine g_dec ?_ ?_ | refine c_dec ?_ ?_ | refine s_dec ?_ ?_ | refine g_ndec ?_ ?_ | refine c_ndec ?_ ?_ | refine g_nbool ?_ ?_ | refine c_nbool ?_ ?_ | refine g_bool ?_ ?_ | refine c_bool ?_ ?_ | refine s_bool ?_ ?_) <;> intro h d <;> (try simp only [d]) <;> (try simp only [B1, B2, B3, B4, B5, B6, B7, B8] at h) <;> (try omega)))
set_option maxHeartbeats 1000000 in
theorem sp_number (n : Nat) {below e : Int} (h0 : 0 ≤ below) (h1 : below ≤ 4294967296) (he : e ≠ 0) (hb : BB b) (hl : b.length ≤ 1048576) (hd : DD m d r ts fs tb nf) (hR : RD m r id b j 0 0) :
    Wp (callsN cfg (n + 3) 46 [.ptr d 0 0, avI below, avI e] m) (PQ (fun x => x = r) m r id b (pnumber below e b j) fun a v _ => v = avI a) := by
  have n2 := hR.nb
  have n1 := hd.ne
  have gd := hd.dd
  have ld := hd.ld
  have hr := hR.rd
  have lr := hR.lr
  have hi := hR.bs
  have hA := @sp_At (n + 1) (r := r) (id := id) (b := b) (j := j) (k := ((0 : Nat) : Int)) (e := 0)
  rw [ce46]
  unfold aBody cf46
  rw [number_eq]
  repeat' (first | simp -implicitDefEqProofs (disch := first | exact soE | (simp -implicitDefEqProofs (disch := first | exact soE | fail) only [go_sem, ↓reduceIte, Nat.reduceEqDiff, Nat.reduceAdd, Nat.reduceLT, Nat.reduceLeDiff, Nat.reduceBEq, reduceCtorEq, gd, hr, hi, hA, ce72, ce85, ce43, x_body, cf72, cf85, cf43]; done) | fail) only [go_sem, ↓reduceIte, Nat.reduceEqDiff, Nat.reduceAdd, Nat.reduceLT, Nat.reduceLeDiff, Nat.reduceBEq, reduceCtorEq, gd, hr, hi, hA, ce72, ce85, ce43, x_body, cf72, cf85, cf43] | ((with_reducible first | refine g_dec ?_ ?_ | refine c_dec ?_ ?_ | refine s_dec ?_ ?_ | refine g_ndec ?_ ?_ | refine c_ndec ?_ ?_ | refine g_nbool ?_ ?_ | refine c_nbool ?_ ?_ | refine g_bool ?_ ?_ | refine c_bool ?_ ?_ | refine s_bool ?_ ?_) <;> intro h d <;> (try simp only [d]) <;> (try simp only [B1, B2, B3, B4, B5, B6, B7, B8] at h) <;> (try omega)))
  refine call_wp _ (sp_Uint n 18446744073709551615 (by decide) hb (hR.grow frA) hl) (fun v m' hU => ?_) (fun v m' hU => ?_)
  · obtain ⟨f, hU⟩ := hU
    have F : Fr (fun x => x = r) m m' := Fr.trans frA f
    have gd' := (hd.frame F n1).dd
    cases hx : puint b j with
    | bad k e' =>
      rw [hx] at hU
      obtain ⟨hv, hR'⟩ := hU
      cases hv
      have gr' := hR'.rd
      have := puint_bad hR.at_ hx
      have dk : decide (e' = 0) = false := decide_eq_false (by omega)
      repeat' (first | simp -implicitDefEqProofs (disch := first | exact soD | fail) only [go_sem, ↓reduceIte, Nat.reduceEqDiff, Nat.reduceAdd, Nat.reduceLT, Nat.reduceLeDiff, Nat.reduceBEq, reduceCtorEq, gd', gr', dk, ce72, ce85, ce43, x_body, cf72, cf85, cf43] | ((with_reducible first | refine g_dec ?_ ?_ | refine c_dec ?_ ?_ | refine s_dec ?_ ?_ | refine g_ndec ?_ ?_ | refine c_ndec ?_ ?_ | refine g_nbool ?_ ?_ | refine c_nbool ?_ ?_ | refine g_bool ?_ ?_ | refine c_bool ?_ ?_ | refine s_bool ?_ ?_) <;> intro h d <;> (try simp only [d]) <;> (try simp only [B1, B2, B3, B4, B5, B6, B7, B8] at h) <;> (try omega)))
      exact PQ.bad frA
    | ok a i =>
      rw [hx] at hU
      obtain ⟨hv, hR'⟩ := hU
      cases hv
      have gr' := hR'.rd
      have := puint_lt hb hx
      repeat' (first | simp -implicitDefEqProofs (disch := first | exact soD | fail) only [go_sem, ↓reduceIte, Nat.reduceEqDiff, Nat.reduceAdd, Nat.reduceLT, Nat.reduceLeDiff, Nat.reduceBEq, reduceCtorEq, Int.reduceEq, gd', gr', ce72, ce85, ce43, x_body, cf72, cf85, cf43] | ((with_reducible first | refine g_dec ?_ ?_ | refine c_dec ?_ ?_ | refine s_dec ?_ ?_ | refine g_ndec ?_ ?_ | refine c_ndec ?_ ?_ | refine g_nbool ?_ ?_ | refine c_nbool ?_ ?_ | refine g_bool ?_ ?_ | refine c_bool ?_ ?_ | refine s_bool ?_ ?_) <;> intro h d <;> (try simp only [d]) <;> (try simp only [B1, B2, B3, B4, B5, B6, B7, B8] at h) <;> (try omega)))
      · rw [if_neg (by omega)]
        exact PQ.bad frA
      · rw [if_pos (by omega)]
        exact PQ.ok frA rfl (hR'.grow frA)
  · obtain ⟨f, hU⟩ := hU
    cases hx : puint b j <;> rw [hx] at hU <;> cases hU.1
def IQ (m : AMem) (r id : Nat) (b : List Int) (j : Nat) (x : PR Nat) : AOut → AMem → Prop := fun o m' => Fr (fun x => x = r) m m' ∧ ∃ v, o = .ret (avI v) ∧ match x with
  | .ok a i => v = unfoldZ a ∧ RD m' r id b i 0 0
  | .bad k e => RD m' r id b j k e
set_option maxHeartbeats 1000000 in
theorem sp_Int (n : Nat) (hb : BB b) (hl : b.length ≤ 1048576) (hR : RD m r id b j 0 0) :
    Wp (callsN cfg (n + 3) 86 [.ptr r 0 0] m) (IQ m r id b j (puint b j)) := by
  rw [ce86]
  unfold aBody cf86
  repeat' (first | simp -implicitDefEqProofs (disch := first | exact soD | fail) only [go_sem, ↓reduceIte, Nat.reduceEqDiff, Nat.reduceAdd, Nat.reduceLT, Nat.reduceLeDiff, Nat.reduceBEq, reduceCtorEq] | ((with_reducible first | refine g_dec ?_ ?_ | refine c_dec ?_ ?_ | refine s_dec ?_ ?_ | refine g_ndec ?_ ?_ | refine c_ndec ?_ ?_ | refine g_nbool ?_ ?_ | refine c_nbool ?_ ?_ | refine g_bool ?_ ?_ | refine c_bool ?_ ?_ | refine s_bool ?_ ?_) <;> intro h d <;> (try simp only [d]) <;> (try simp only [B1, B2, B3, B4, B5, B6, B7, B8] at h) <;> (try omega)))
  refine call_wp _ (sp_Uint n 0 (by decide) hb (hR.grow frA) hl) (fun v m' hU => ?_) (fun v m' hU => ?_)
  · obtain ⟨f, hU⟩ := hU
    have F : Fr (fun x => x = r) m m' := Fr.trans frA f
    cases hx : puint b j with
    | bad k e' =>
      rw [hx] at hU
      obtain ⟨hv, hR'⟩ := hU
      cases hv
      have s0 := shr_1 0 .u64
      have a0 := and_1 0 (by decide)
      have x0 := xor_s0 0 (by decide)
      simp only [Int.natCast_zero, Int.reduceToNat, Nat.reduceDiv, Nat.reduceMod, Int.ofNat_zero, show ((0 : Nat) : Int) = 0 from rfl] at s0 a0 x0
      repeat' (first | simp -implicitDefEqProofs (disch := first | exact soD | fail) only [go_sem, ↓reduceIte, Nat.reduceEqDiff, Nat.reduceAdd, Nat.reduceLT, Nat.reduceLeDiff, Nat.reduceBEq, reduceCtorEq, Int.reduceSub, Int.reduceNeg, s0, a0, x0] | ((with_reducible first | refine g_dec ?_ ?_ | refine c_dec ?_ ?_ | refine s_dec ?_ ?_ | refine g_ndec ?_ ?_ | refine c_ndec ?_ ?_ | refine g_nbool ?_ ?_ | refine c_nbool ?_ ?_ | refine g_bool ?_ ?_ | refine c_bool ?_ ?_ | refine s_bool ?_ ?_) <;> intro h d <;> (try simp only [d]) <;> (try simp only [B1, B2, B3, B4, B5, B6, B7, B8] at h) <;> (try omega)))
      exact ⟨frA, _, rfl, hR'.grow frA⟩
    | ok a i =>
      rw [hx] at hU
      obtain ⟨hv, hR'⟩ := hU
      cases hv
      have ha := puint_lt hb hx
      have s0 := shr_1 a .u64
      have a0 := and_1 a ha
      by_cases c : a % 2 = 0
      · rw [c] at a0
        have x0 := xor_s0 (a / 2) (by omega)
        have e : ((a / 2 : Nat) : Int) = unfoldZ a := by unfold unfoldZ; rw [if_pos c]
        repeat' (first | simp -implicitDefEqProofs (disch := first | exact soD | fail) only [go_sem, ↓reduceIte, Nat.reduceEqDiff, Nat.reduceAdd, Nat.reduceLT, Nat.reduceLeDiff, Nat.reduceBEq, reduceCtorEq, Int.reduceSub, Int.reduceNeg, s0, a0, x0, show ((0 : Nat) : Int) = 0 from rfl] | ((with_reducible first | refine g_dec ?_ ?_ | refine c_dec ?_ ?_ | refine s_dec ?_ ?_ | refine g_ndec ?_ ?_ | refine c_ndec ?_ ?_ | refine g_nbool ?_ ?_ | refine c_nbool ?_ ?_ | refine g_bool ?_ ?_ | refine c_bool ?_ ?_ | refine s_bool ?_ ?_) <;> intro h d <;> (try simp only [d]) <;> (try simp only [B1, B2, B3, B4, B5, B6, B7, B8] at h) <;> (try omega)))
        exact ⟨frA, _, rfl, e, hR'.grow frA⟩
      · rw [show a % 2 = 1 by omega] at a0
        have x0 := xor_s1 (a / 2) (by omega)
        have e : -((a / 2 : Nat) : Int) - 1 = unfoldZ a := by unfold unfoldZ; rw [if_neg c]
        repeat' (first | simp -implicitDefEqProofs (disch := first | exact soD | fail) only [go_sem, ↓reduceIte, Nat.reduceEqDiff, Nat.reduceAdd, Nat.reduceLT, Nat.reduceLeDiff, Nat.reduceBEq, reduceCtorEq, Int.reduceSub, Int.reduceNeg, s0, a0, x0, show ((1 : Nat) : Int) = 1 from rfl] | ((with_reducible first | refine g_dec ?_ ?_ | refine c_dec ?_ ?_ | refine s_dec ?_ ?_ | refine g_ndec ?_ ?_ | refine c_ndec ?_ ?_ | refine g_nbool ?_ ?_ | refine c_nbool ?_ ?_ | refine g_bool ?_ ?_ | refine c_bool ?_ ?_ | refine s_bool ?_ ?_) <;> intro h d <;> (try simp only [d]) <;> (try simp only [B1, B2, B3, B4, B5, B6, B7, B8] at h) <;> (try omega)))
        exact ⟨frA, _, rfl, e, hR'.grow frA⟩
  · obtain ⟨f, hU⟩ := hU
    cases hx : puint b j <;> rw [hx] at hU <;> cases hU.1
end
end Go.Proofs.YtiijjopdhjpalaaDoor

/-! Reading an image, in the program: what lies in memory, as trees; loops that read. Conditions: none. -/
namespace Go.Proofs.YtiijjopdhjpalaaDoor
open Go
set_option linter.unusedSimpArgs false
set_option linter.unusedVariables false
/-- A way of reading back. -/
structure IsRb (m : AMem) (g : Nat → AV → Option AV) : Prop where
  int : ∀ n k z, g (n + 1) (.int k z) = some (.int k z)
  nils : ∀ n, g (n + 1) .nils = some (.ts 0 [])
  sl0 : ∀ n z id i, g (n + 1) (.sl z id i 0) = some (.ts 0 [])
  sl : ∀ n z id k t s es, 0 < k → es.length = k → m.get id = some (.arr t s es) → g (n + 1) (.sl z id 0 k) = (rbL (g n) es).map (.ts s)
  agg : ∀ n cs, g (n + 1) (.agg cs) = (rbL (g n) cs).map .agg
theorem isRb_rb (m : AMem) : IsRb m (rb m) where
  int := fun _ _ _ => rfl
  nils := fun _ => rfl
  sl0 := fun _ _ _ _ => rfl
  sl := fun n z id k t s es h0 hk hg => by
    rw [yrb_sl m n z id 0 k h0, hg, rslK_s m n 0 k t s es (by omega), List.drop_zero, List.take_of_length_le (by omega)]
  agg := fun _ _ => rfl
theorem isRb_rbN (m : AMem) : IsRb m (rbN m) where
  int := fun _ _ _ => rfl
  nils := fun _ => rfl
  sl0 := fun _ _ _ _ => rfl
  sl := fun n z id k t s es h0 hk hg => by
    rw [ynb_sl m n z id 0 k h0, hg, nslK_s m n 0 k t s es (by omega), List.drop_zero, List.take_of_length_le (by omega)]
  agg := fun _ _ => rfl
/-- A slice of such things as R tells, in an object of its own, or none. -/
def SV {α : Type} (t sz : Nat) (R : AV → α → Prop) (m : AMem) (v : AV) (l : List α) : Prop :=
  (l = [] ∧ v = .nils) ∨ ∃ id es, v = .sl sz id 0 l.length ∧ id < m.next ∧ m.get id = some (.arr t sz es) ∧ es.length = l.length ∧ ∀ (j : Nat) a, l[j]? = some a → ∃ e, es[j]? = some e ∧ R e a
theorem rbL_all {α : Type} {g : AV → Option AV} {R : AV → α → Prop} {av : α → AV} : ∀ {l : List α} {es : List AV}, es.length = l.length → (∀ (j : Nat) a, l[j]? = some a → ∃ e, es[j]? = some e ∧ R e a) → (∀ e a, a ∈ l → R e a → g e = some (av a)) → rbL g es = some (l.map av)
  | [], [], _, _, _ => rfl
  | [], _ :: _, h, _, _ => by simp at h
  | _ :: _, [], h, _, _ => by simp at h
  | a :: l, e :: es, h, hr, hg => by
    obtain ⟨e', h1, h2⟩ := hr 0 a rfl
    cases h1
    rw [yrbL_cons, hg e a (List.mem_cons_self ..) h2, rbL_all (l := l) (es := es) (by simpa using h) (fun j x hx => by simpa using hr (j + 1) x (by simpa using hx)) fun e a ha hR => hg e a (List.mem_cons_of_mem _ ha) hR]
    rfl
theorem SV.read {α : Type} {t sz : Nat} {R : AV → α → Prop} {m : AMem} {v : AV} {l : List α} {g : Nat → AV → Option AV} {av : α → AV} {n : Nat} (h : SV t sz R m v l) (hg : IsRb m g) (hR : ∀ e a, a ∈ l → R e a → g n e = some (av a)) : g (n + 1) v = some (tsl sz (l.map av)) := by
  rcases h with ⟨rfl, rfl⟩ | ⟨id, es, rfl, _, hm, hl, ha⟩
  · exact hg.nils n
  · cases l with
    | nil => exact hg.sl0 n sz id 0
    | cons a r =>
      rw [hg.sl n sz id (a :: r).length t sz es (by simp) hl hm, rbL_all hl ha hR]
      rfl
/-- What S is, is no object of type t. -/
def Off (S : Nat → Prop) (m : AMem) (t : Nat) : Prop := ∀ id sz es, m.get id = some (.arr t sz es) → ¬ S id
theorem SV.frame {α : Type} {t sz : Nat} {R R' : AV → α → Prop} {S : Nat → Prop} {m p : AMem} {v : AV} {l : List α} (h : SV t sz R m v l) (f : Fr S m p) (ho : Off S m t) (hR : ∀ e a, R e a → R' e a) : SV t sz R' p v l := by
  rcases h with h | ⟨id, es, h1, h2, h3, h4, h5⟩
  · exact .inl h
  · exact .inr ⟨id, es, h1, Nat.lt_of_lt_of_le h2 f.next, f.get h3 h2 (ho _ _ _ h3), h4, fun j a hj => by
      obtain ⟨e, he, hr⟩ := h5 j a hj
      exact ⟨e, he, hR _ _ hr⟩⟩
/-- The object of a slice. -/
def SId (v : AV) (x : Nat) : Prop := ∃ z i k, v = .sl z x i k
theorem SV.frame2 {α : Type} {t sz : Nat} {R R' : AV → α → Prop} {S : Nat → Prop} {m p : AMem} {v : AV} {l : List α} (h : SV t sz R m v l) (f : Fr S m p) (ho : ∀ x es, SId v x → m.get x = some (.arr t sz es) → ¬ S x) (hR : ∀ e a, R e a → R' e a) : SV t sz R' p v l := by
  rcases h with h | ⟨id, es, h1, h2, h3, h4, h5⟩
  · exact .inl h
  · exact .inr ⟨id, es, h1, Nat.lt_of_lt_of_le h2 f.next, f.get h3 h2 (ho _ _ ⟨_, _, _, h1⟩ h3), h4, fun j a hj => by
      obtain ⟨e, he, hr⟩ := h5 j a hj
      exact ⟨e, he, hR _ _ hr⟩⟩
/-- Numbers. -/
@[reducible] def NV (m : AMem) (v : AV) (l : List Int) : Prop := SV 3 1 (fun e (z : Int) => e = avI z) m v l
theorem NV.read {m : AMem} {v : AV} {l : List Int} {g : Nat → AV → Option AV} (h : NV m v l) (hg : IsRb m g) (n : Nat) : g (n + 2) v = some (tsl 1 (l.map avI)) :=
  SV.read h hg fun e a _ he => by rw [he]; exact hg.int n _ _
theorem NV.mk {m : AMem} {id : Nat} {l : List Int} (h1 : id < m.next) (h2 : m.get id = some (.arr 3 1 (l.map avI))) : NV m (.sl 1 id 0 l.length) l :=
  .inr ⟨id, _, rfl, h1, h2, by simp, fun j a hj => ⟨avI a, by rw [List.getElem?_map, hj]; rfl, rfl⟩⟩
/-- A type. -/
def TV (m : AMem) (e : AV) (x : GT) : Prop := ∃ pv, e = .agg [avI x.kind, pv, avI x.of] ∧ NV m pv x.parts
theorem TV.read {m : AMem} {e : AV} {x : GT} {g : Nat → AV → Option AV} (h : TV m e x) (hg : IsRb m g) (n : Nat) : g (n + 3) e = some x.av := by
  obtain ⟨pv, rfl, hp⟩ := h
  rw [hg.agg, yrbL_cons, yrbL_cons, yrbL_cons, yrbL_nil, hg.int, hg.int, hp.read hg]
  rfl
@[reducible] def TL (m : AMem) (v : AV) (l : List GT) : Prop := SV 43 3 (TV m) m v l
theorem TL.read {m : AMem} {v : AV} {l : List GT} {g : Nat → AV → Option AV} (h : TL m v l) (hg : IsRb m g) (n : Nat) : g (n + 4) v = some (tsl 3 (l.map GT.av)) := SV.read h hg fun e a _ he => he.read hg n
/-- Instructions. -/
@[reducible] def CV (m : AMem) (v : AV) (l : List GI) : Prop := SV 45 3 (fun e (x : GI) => e = x.av) m v l
theorem CV.read {m : AMem} {v : AV} {l : List GI} {g : Nat → AV → Option AV} (h : CV m v l) (hg : IsRb m g) (n : Nat) : g (n + 3) v = some (tsl 3 (l.map GI.av)) :=
  SV.read h hg fun e a _ he => by rw [he, hg.agg, yrbL_cons, yrbL_cons, yrbL_cons, yrbL_nil, hg.int, hg.int, hg.int]; rfl
/-- A function. -/
def FV (m : AMem) (e : AV) (x : GF) : Prop := ∃ pv cv, e = .agg [pv, avI x.result, avI x.locals, cv] ∧ NV m pv x.params ∧ CV m cv x.code
theorem FV.read {m : AMem} {e : AV} {x : GF} {g : Nat → AV → Option AV} (h : FV m e x) (hg : IsRb m g) (n : Nat) : g (n + 4) e = some x.av := by
  obtain ⟨pv, cv, rfl, hp, hc⟩ := h
  rw [hg.agg, yrbL_cons, yrbL_cons, yrbL_cons, yrbL_cons, yrbL_nil, hg.int, hg.int, hp.read hg, hc.read hg]
  rfl
@[reducible] def FL (m : AMem) (v : AV) (l : List GF) : Prop := SV 48 4 (FV m) m v l
theorem FL.read {m : AMem} {v : AV} {l : List GF} {g : Nat → AV → Option AV} (h : FL m v l) (hg : IsRb m g) (n : Nat) : g (n + 5) v = some (tsl 4 (l.map GF.av)) := SV.read h hg fun e a _ he => he.read hg n
theorem NV.frame {S : Nat → Prop} {m p : AMem} {v : AV} {l : List Int} (h : NV m v l) (f : Fr S m p) (ho : Off S m 3) : NV p v l := SV.frame h f ho fun _ _ h => h
/-- The parts of a type lie elsewhere. -/
def AW (q : Nat) (e : AV) : Prop := ∀ k pv o, e = .agg [k, pv, o] → ¬ SId pv q
theorem TV.frameq {S : Nat → Prop} {m p : AMem} {e : AV} {x : GT} {q : Nat} (h : TV m e x) (hq : AW q e) (f : Fr (fun y => S y ∨ y = q) m p) (ho : Off S m 3) : TV p e x := by
  obtain ⟨pv, h1, h2⟩ := h
  refine ⟨pv, h1, SV.frame2 h2 f (fun y es hs hg c => c.elim (ho y 1 es hg) fun c => ?_) fun _ _ h => h⟩
  subst c
  exact hq _ _ _ h1 hs
theorem TV.frame {S : Nat → Prop} {m p : AMem} {e : AV} {x : GT} (h : TV m e x) (f : Fr S m p) (ho : Off S m 3) : TV p e x := by
  obtain ⟨pv, h1, h2⟩ := h
  exact ⟨pv, h1, h2.frame f ho⟩
theorem TL.frame {S : Nat → Prop} {m p : AMem} {v : AV} {l : List GT} (h : TL m v l) (f : Fr S m p) (ho : Off S m 3) (ht : Off S m 43) : TL p v l := SV.frame h f ht fun _ _ h => h.frame f ho
theorem CV.frame {S : Nat → Prop} {m p : AMem} {v : AV} {l : List GI} (h : CV m v l) (f : Fr S m p) (ho : Off S m 45) : CV p v l := SV.frame h f ho fun _ _ h => h
theorem FV.frame {S : Nat → Prop} {m p : AMem} {e : AV} {x : GF} (h : FV m e x) (f : Fr S m p) (ho : Off S m 3) (hi : Off S m 45) : FV p e x := by
  obtain ⟨pv, cv, h1, h2, h3⟩ := h
  exact ⟨pv, cv, h1, h2.frame f ho, h3.frame f hi⟩
theorem FL.frame {S : Nat → Prop} {m p : AMem} {v : AV} {l : List GF} (h : FL m v l) (f : Fr S m p) (ho : Off S m 3) (hi : Off S m 45) (hf : Off S m 48) : FL p v l := SV.frame h f hf fun _ _ h => h.frame f ho hi
/-- The reader, the decoder, are of other types. -/
theorem off_r {m : AMem} {r id : Nat} {b : List Int} {j k : Nat} {e : Int} (h : RD m r id b j k e) {t : Nat} (ht : t ≠ 93) : Off (fun x => x = r) m t := fun i sz es hg c => by
  rw [c, h.rd] at hg
  injection hg with hg
  injection hg with hg
  exact ht hg.symm
theorem off_rd {m : AMem} {d r id : Nat} {b : List Int} {j k : Nat} {e : Int} {ts fs tb : AV} {nf : Int} (h : RD m r id b j k e) (hd : DD m d r ts fs tb nf) {t : Nat} (ht : t ≠ 93) (ht2 : t ≠ 69) : Off (fun x => x = r ∨ x = d) m t := fun i sz es hg c => by
  rcases c with c | c
  · exact off_r h ht i sz es hg c
  · rw [c, hd.dd] at hg
    injection hg with hg
    injection hg with hg
    exact ht2 hg.symm
theorem off_none {m : AMem} {t : Nat} : Off (fun _ => False) m t := fun _ _ _ _ h => h
/-! ### loops that read -/
def pcat {α : Type} (xs : List α) : PR (List α) → PR (List α)
  | .ok l j => .ok (xs ++ l) j
  | .bad k e => .bad k e
theorem pcat_nil {α : Type} (x : PR (List α)) : pcat [] x = x := by cases x <;> rfl
theorem pcat_done {α : Type} (xs : List α) (p : Par α) (b : List Int) (j : Nat) : pcat xs (prep p 0 b j) = .ok xs j := by
  show PR.ok (xs ++ []) j = _
  rw [List.append_nil]
theorem pcat_ok {α : Type} {xs : List α} {p : Par α} {b : List Int} {i j : Nat} {a : α} {n : Nat} (h : p b i = .ok a j) : pcat xs (prep p (n + 1) b i) = pcat (xs ++ [a]) (prep p n b j) := by
  show pcat xs (pbind p (fun a => pbind (prep p n) fun l => ppure (a :: l)) b i) = _
  rw [pb_ok h]
  cases hr : prep p n b j with
  | bad k e => rw [pb_bad hr]; rfl
  | ok l k =>
    rw [pb_ok hr]
    show PR.ok (xs ++ (a :: l)) k = .ok ((xs ++ [a]) ++ l) k
    rw [List.append_assoc]
    rfl
theorem pcat_bad {α : Type} {xs : List α} {p : Par α} {b : List Int} {i k : Nat} {e : Int} {n : Nat} (h : p b i = .bad k e) : pcat xs (prep p (n + 1) b i) = .bad k e := by
  show pcat xs (pbind p (fun a => pbind (prep p n) fun l => ppure (a :: l)) b i) = _
  rw [pb_bad h]
  rfl
end Go.Proofs.YtiijjopdhjpalaaDoor

/-! Reading an image, in the program: lists of types. Conditions: none. -/
namespace Go.Proofs.YtiijjopdhjpalaaDoor
open Go
set_option linter.unusedSimpArgs false
set_option linter.unusedVariables false
theorem number_bd {b : List Int} (hb : BB b) {below e : Int} {j k : Nat} {a : Int} (h : pnumber below e b j = .ok a k) : 0 ≤ a ∧ a < below :=
  ⟨((number_ok hb).1 h).1, ((number_ok hb).1 h).2.1⟩
@[go_sem] theorem mksK_c (m : AMem) (new t sz bytes : Nat) (zero : AV) (k k' : IntKind) (n c : Int) (h0 : 0 ≤ n) (h1 : n ≤ c) (h2 : bytes * c ≤ 281474976710656) (h3 : c ≤ 9223372036854775807) :
    mksK m new t sz bytes zero (.int k n) (.int k' c) = some (.val (.sl sz new 0 n.toNat) (m.put new (.arr t sz (List.replicate n.toNat zero)))) := by
  simp only [mksK, decide_eq_true h0, decide_eq_true h1, decide_eq_true h2, decide_eq_true h3]
  rfl
theorem take_map {α : Type} (l : List α) (f : α → AV) : List.take l.length (l.map f) = l.map f := List.take_of_length_le (by simp)
theorem snoc_map {α : Type} (l : List α) (f : α → AV) (a : α) : l.map f ++ [f a] = (l ++ [a]).map f := by simp
section
variable {m : AMem} {d r id : Nat} {b : List Int} {j : Nat} {ts fs tb : AV} {nf : Int}
set_option maxHeartbeats 2000000 in
theorem sp_kinds (n : Nat) {most types : Int} (h0 : 0 ≤ most) (h1 : most ≤ 1000) (h2 : 0 ≤ types) (h3 : types ≤ 1000) (hb : BB b) (hl : b.length ≤ 1048576) (hd : DD m d r ts fs tb nf) (hR : RD m r id b j 0 0) :
    Wp (callsN cfg (n + 4) 73 [.ptr d 0 0, avI most, avI types] m) (PQ (fun x => x = r) m r id b (pkinds most types b j) fun l v m' => NV m' v l ∧ ∀ x, SId v x → m.next ≤ x) := by
  have n1 := hd.ne
  rw [ce73]
  unfold aBody cf73
  repeat' (first | simp -implicitDefEqProofs (disch := first | exact soD | fail) only [go_sem, ↓reduceIte, Nat.reduceEqDiff, Nat.reduceAdd, Nat.reduceLT, Nat.reduceLeDiff, Nat.reduceBEq, reduceCtorEq] | ((with_reducible first | refine g_dec ?_ ?_ | refine c_dec ?_ ?_ | refine s_dec ?_ ?_ | refine g_ndec ?_ ?_ | refine c_ndec ?_ ?_ | refine g_nbool ?_ ?_ | refine c_nbool ?_ ?_ | refine g_bool ?_ ?_ | refine c_bool ?_ ?_ | refine s_bool ?_ ?_) <;> intro h d <;> (try simp only [d]) <;> (try simp only [B1, B2, B3, B4, B5, B6, B7, B8] at h) <;> (try omega)))
  refine call_pr (sp_number n (by omega) (by omega) (by decide) hb hl (hd.grow frA) (hR.grow frA)) (fun a k v m' hx f hv hR' => ?_) (fun k e m' hx f => ?_)
  · subst hv
    have F : Fr (fun x => x = r) m m' := Fr.trans frA f
    have Fn := F.next
    have fn := f.next
    simp only [room_next, put_next] at fn
    have hd' := hd.frame F n1
    obtain ⟨a0, a1⟩ := number_bd hb hx
    rw [show pkinds most types b j = prep (pnumber types 7) a.toNat b k from pb_ok hx]
    generalize hX : prep (pnumber types 7) a.toNat b k = X
    repeat' (first | simp -implicitDefEqProofs (disch := first | exact soD | fail) only [go_sem, ↓reduceIte, Nat.reduceEqDiff, Nat.reduceAdd, Nat.reduceLT, Nat.reduceLeDiff, Nat.reduceBEq, reduceCtorEq] | ((with_reducible first | refine g_dec ?_ ?_ | refine c_dec ?_ ?_ | refine s_dec ?_ ?_ | refine g_ndec ?_ ?_ | refine c_ndec ?_ ?_ | refine g_nbool ?_ ?_ | refine c_nbool ?_ ?_ | refine g_bool ?_ ?_ | refine c_bool ?_ ?_ | refine s_bool ?_ ?_) <;> intro h d <;> (try simp only [d]) <;> (try simp only [B1, B2, B3, B4, B5, B6, B7, B8] at h) <;> (try omega)))
    refine wp_loop (fun (s : List Int × Nat) (env : AEnv) (w : AMem) => ((s.1.length : Int) ≤ a ∧ pcat s.1 (prep (pnumber types 7) (a.toNat - s.1.length) b s.2) = X) ∧ Fr (fun x => x = r) m w ∧ RD w r id b s.2 0 0 ∧
        (∃ q, env 8 = .sl 1 q 0 s.1.length ∧ m.next ≤ q ∧ q < w.next ∧ w.get q = some (.arr 3 1 (s.1.map avI))) ∧ env 0 = .ptr d 0 0 ∧ env 2 = avI types ∧ env 15 = avI a ∧ env 16 = avI s.1.length) (fun s => a.toNat - s.1.length)
      (fun s env w K' ⟨⟨sl, sx⟩, f2, R2, ⟨q, e8, q0, q1, gq⟩, e0, e2, e15, e16⟩ hN hE => ?_) LOOPK ([], k) _ _ ⟨⟨by simpa using a0, by rw [pcat_nil]; exact hX⟩, frA, hR'.grow frA, ⟨_, sxR, ?_, ?_, ?_⟩, sxA, sxA, sxA, sxR⟩ (by rw [LOOPK_eq]; show a.toNat - 0 < _; omega)
    · obtain ⟨xs, i⟩ := s
      simp only at sl sx R2 e8 gq e16 hN
      have hd2 := hd.frame f2 n1
      unfold lb73_0
      by_cases c : (xs.length : Int) < a
      · rw [show a.toNat - xs.length = (a.toNat - xs.length - 1) + 1 by omega] at sx
        repeat' (first | simp -implicitDefEqProofs (disch := first | exact soD | fail) only [go_sem, ↓reduceIte, Nat.reduceEqDiff, Nat.reduceAdd, Nat.reduceLT, Nat.reduceLeDiff, Nat.reduceBEq, reduceCtorEq, e0, e2, e8, e15, e16] | ((with_reducible first | refine g_dec ?_ ?_ | refine c_dec ?_ ?_ | refine s_dec ?_ ?_ | refine g_ndec ?_ ?_ | refine c_ndec ?_ ?_ | refine g_nbool ?_ ?_ | refine c_nbool ?_ ?_ | refine g_bool ?_ ?_ | refine c_bool ?_ ?_ | refine s_bool ?_ ?_) <;> intro h d <;> (try simp only [d]) <;> (try simp only [B1, B2, B3, B4, B5, B6, B7, B8] at h) <;> (try omega)))
        refine call_pr (sp_number n (by omega) (by omega) (by decide) hb hl (hd2.grow frA) (R2.grow frA)) (fun z k2 v m2 hx2 g hv hR2 => ?_) (fun k2 e m2 hx2 g => ?_)
        · subst hv
          rw [pcat_ok hx2] at sx
          have G : Fr (fun x => x = r) m m2 := Fr.trans f2 (Fr.trans frA g)
          have nq : ¬ q = r := fun e => by
            rw [e, R2.rd] at gq
            cases gq
          have gq2 : m2.get q = some (.arr 3 1 (xs.map avI)) := Fr.get (Fr.trans frA g : Fr (fun x => x = r) w m2) gq q1 nq
          have q2 : q < m2.next := Nat.lt_of_lt_of_le q1 (Fr.trans frA g : Fr (fun x => x = r) w m2).next
          have ht := take_map xs avI
          have gn := g.next
          have nqi : ¬ q = id := fun e => by
            rw [e, R2.bs] at gq
            cases gq
          have := f2.next
          have := R2.lr
          have := R2.lb
          have := R2.at_
          have := hR2.lr
          have := hR2.lb
          have := hR2.at_
          simp only [room_next, put_next] at gn
          repeat' (first | simp -implicitDefEqProofs (disch := first | exact soD | fail) only [go_sem, ↓reduceIte, Nat.reduceEqDiff, Nat.reduceAdd, Nat.reduceLT, Nat.reduceLeDiff, Nat.reduceBEq, reduceCtorEq, e0, e2, e8, e15, e16, gq2, ht] | ((with_reducible first | refine g_dec ?_ ?_ | refine c_dec ?_ ?_ | refine s_dec ?_ ?_ | refine g_ndec ?_ ?_ | refine c_ndec ?_ ?_ | refine g_nbool ?_ ?_ | refine c_nbool ?_ ?_ | refine g_bool ?_ ?_ | refine c_bool ?_ ?_ | refine s_bool ?_ ?_) <;> intro h d <;> (try simp only [d]) <;> (try simp only [B1, B2, B3, B4, B5, B6, B7, B8] at h) <;> (try omega)))
          refine hN (xs ++ [z], k2) _ _ ⟨⟨?_, ?_⟩, frA, ⟨by simp -implicitDefEqProofs (disch := first | exact soD | fail) only [go_sem, ↓reduceIte, Nat.reduceEqDiff, Nat.reduceAdd, Nat.reduceLT, Nat.reduceLeDiff, Nat.reduceBEq, reduceCtorEq, hR2.rd, hR2.bs], by simp -implicitDefEqProofs (disch := first | exact soD | fail) only [go_sem, ↓reduceIte, Nat.reduceEqDiff, Nat.reduceAdd, Nat.reduceLT, Nat.reduceLeDiff, Nat.reduceBEq, reduceCtorEq, hR2.rd, hR2.bs], soA, soA, by omega⟩, ⟨w.next + 1 + 5, by simp -implicitDefEqProofs (disch := first | exact soD | fail) only [go_sem, ↓reduceIte, Nat.reduceEqDiff, Nat.reduceAdd, Nat.reduceLT, Nat.reduceLeDiff, Nat.reduceBEq, reduceCtorEq, List.length_append], by omega, soA, ?_⟩, by simp -implicitDefEqProofs (disch := first | exact soD | fail) only [go_sem, ↓reduceIte, Nat.reduceEqDiff, Nat.reduceAdd, Nat.reduceLT, Nat.reduceLeDiff, Nat.reduceBEq, reduceCtorEq, e0], by simp -implicitDefEqProofs (disch := first | exact soD | fail) only [go_sem, ↓reduceIte, Nat.reduceEqDiff, Nat.reduceAdd, Nat.reduceLT, Nat.reduceLeDiff, Nat.reduceBEq, reduceCtorEq, e2], by simp -implicitDefEqProofs (disch := first | exact soD | fail) only [go_sem, ↓reduceIte, Nat.reduceEqDiff, Nat.reduceAdd, Nat.reduceLT, Nat.reduceLeDiff, Nat.reduceBEq, reduceCtorEq, e15], ?_⟩ ?_
          · show (((xs ++ [z]).length : Nat) : Int) ≤ a
            simp only [List.length_append, List.length_cons, List.length_nil]
            omega
          · show pcat (xs ++ [z]) (prep (pnumber types 7) (a.toNat - (xs ++ [z]).length) b k2) = X
            rw [List.length_append, ← Nat.sub_sub]
            exact sx
          · simp -implicitDefEqProofs (disch := first | exact soD | fail) only [go_sem, ↓reduceIte, Nat.reduceEqDiff, Nat.reduceAdd, Nat.reduceLT, Nat.reduceLeDiff, Nat.reduceBEq, reduceCtorEq]
            rw [snoc_map]
          · simp -implicitDefEqProofs (disch := first | exact soD | fail) only [go_sem, ↓reduceIte, Nat.reduceEqDiff, Nat.reduceAdd, Nat.reduceLT, Nat.reduceLeDiff, Nat.reduceBEq, reduceCtorEq, List.length_append]
            rfl
          · show a.toNat - (xs ++ [z]).length < a.toNat - xs.length
            rw [List.length_append, List.length_cons]
            omega
        · rw [pcat_bad hx2] at sx
          repeat' (first | simp -implicitDefEqProofs (disch := first | exact soD | fail) only [go_sem, ↓reduceIte, Nat.reduceEqDiff, Nat.reduceAdd, Nat.reduceLT, Nat.reduceLeDiff, Nat.reduceBEq, reduceCtorEq] | ((with_reducible first | refine g_dec ?_ ?_ | refine c_dec ?_ ?_ | refine s_dec ?_ ?_ | refine g_ndec ?_ ?_ | refine c_ndec ?_ ?_ | refine g_nbool ?_ ?_ | refine c_nbool ?_ ?_ | refine g_bool ?_ ?_ | refine c_bool ?_ ?_ | refine s_bool ?_ ?_) <;> intro h d <;> (try simp only [d]) <;> (try simp only [B1, B2, B3, B4, B5, B6, B7, B8] at h) <;> (try omega)))
          refine (hE _ _).2.2 _ ?_
          simp -implicitDefEqProofs (disch := first | exact soD | fail) only [go_sem, ↓reduceIte, Nat.reduceEqDiff, Nat.reduceAdd, Nat.reduceLT, Nat.reduceLeDiff, Nat.reduceBEq, reduceCtorEq]
          rw [← sx]
          exact PQ.bad (Fr.trans f2 (Fr.trans frA g))
      · repeat' (first | simp -implicitDefEqProofs (disch := first | exact soD | fail) only [go_sem, ↓reduceIte, Nat.reduceEqDiff, Nat.reduceAdd, Nat.reduceLT, Nat.reduceLeDiff, Nat.reduceBEq, reduceCtorEq, e0, e2, e8, e15, e16] | ((with_reducible first | refine g_dec ?_ ?_ | refine c_dec ?_ ?_ | refine s_dec ?_ ?_ | refine g_ndec ?_ ?_ | refine c_ndec ?_ ?_ | refine g_nbool ?_ ?_ | refine c_nbool ?_ ?_ | refine g_bool ?_ ?_ | refine c_bool ?_ ?_ | refine s_bool ?_ ?_) <;> intro h d <;> (try simp only [d]) <;> (try simp only [B1, B2, B3, B4, B5, B6, B7, B8] at h) <;> (try omega)))
        refine (hE _ _).1 _ ?_
        unfold ls73_0
        repeat' (first | simp -implicitDefEqProofs (disch := first | exact soD | fail) only [go_sem, ↓reduceIte, Nat.reduceEqDiff, Nat.reduceAdd, Nat.reduceLT, Nat.reduceLeDiff, Nat.reduceBEq, reduceCtorEq, e0, e2, e8, e15, e16] | ((with_reducible first | refine g_dec ?_ ?_ | refine c_dec ?_ ?_ | refine s_dec ?_ ?_ | refine g_ndec ?_ ?_ | refine c_ndec ?_ ?_ | refine g_nbool ?_ ?_ | refine c_nbool ?_ ?_ | refine g_bool ?_ ?_ | refine c_bool ?_ ?_ | refine s_bool ?_ ?_) <;> intro h d <;> (try simp only [d]) <;> (try simp only [B1, B2, B3, B4, B5, B6, B7, B8] at h) <;> (try omega)))
        rw [show a.toNat - xs.length = 0 by omega, pcat_done] at sx
        rw [← sx]
        exact PQ.ok frA ⟨NV.mk soA (by simp -implicitDefEqProofs (disch := first | exact soD | fail) only [go_sem, ↓reduceIte, Nat.reduceEqDiff, Nat.reduceAdd, Nat.reduceLT, Nat.reduceLeDiff, Nat.reduceBEq, reduceCtorEq, gq]), fun x ⟨_, _, _, h⟩ => by cases h; exact q0⟩ (R2.grow frA)
    · (first | omega | (simp -implicitDefEqProofs (disch := first | exact soD | fail) only [go_sem, ↓reduceIte, Nat.reduceEqDiff, Nat.reduceAdd, Nat.reduceLT, Nat.reduceLeDiff, Nat.reduceBEq, reduceCtorEq] <;> omega))
    · (first | omega | (simp -implicitDefEqProofs (disch := first | exact soD | fail) only [go_sem, ↓reduceIte, Nat.reduceEqDiff, Nat.reduceAdd, Nat.reduceLT, Nat.reduceLeDiff, Nat.reduceBEq, reduceCtorEq] <;> omega))
    · simp -implicitDefEqProofs (disch := first | exact soD | fail) only [go_sem, ↓reduceIte, Nat.reduceEqDiff, Nat.reduceAdd, Nat.reduceLT, Nat.reduceLeDiff, Nat.reduceBEq, reduceCtorEq]
      rfl
  · rw [show pkinds most types b j = .bad k e from pb_bad hx]
    repeat' (first | simp -implicitDefEqProofs (disch := first | exact soD | fail) only [go_sem, ↓reduceIte, Nat.reduceEqDiff, Nat.reduceAdd, Nat.reduceLT, Nat.reduceLeDiff, Nat.reduceBEq, reduceCtorEq] | ((with_reducible first | refine g_dec ?_ ?_ | refine c_dec ?_ ?_ | refine s_dec ?_ ?_ | refine g_ndec ?_ ?_ | refine c_ndec ?_ ?_ | refine g_nbool ?_ ?_ | refine c_nbool ?_ ?_ | refine g_bool ?_ ?_ | refine c_bool ?_ ?_ | refine s_bool ?_ ?_) <;> intro h d <;> (try simp only [d]) <;> (try simp only [B1, B2, B3, B4, B5, B6, B7, B8] at h) <;> (try omega)))
    exact PQ.bad (Fr.trans frA f)
end
end Go.Proofs.YtiijjopdhjpalaaDoor

/-! Reading an image, in the program: what is put behind a slice; the types. Conditions: none. -/
namespace Go.Proofs.YtiijjopdhjpalaaDoor
open Go
set_option linter.unusedSimpArgs false
set_option linter.unusedVariables false
def OV (m : AMem) (t sz : Nat) (v : AV) (es : List AV) : Prop := (v = .nils ∧ es = []) ∨ ∃ q, v = .sl sz q 0 es.length ∧ q < m.next ∧ m.get q = some (.arr t sz es)
theorem OV.frame {S : Nat → Prop} {m p : AMem} {t sz : Nat} {v : AV} {es : List AV} (h : OV m t sz v es) (f : Fr S m p) (ho : Off S m t) : OV p t sz v es := by
  rcases h with h | ⟨q, h1, h2, h3⟩
  · exact .inl h
  · exact .inr ⟨q, h1, Nat.lt_of_lt_of_le h2 f.next, f.get h3 h2 (ho _ _ _ h3)⟩
theorem OV.flat {m : AMem} {t sz : Nat} {v : AV} {es : List AV} (h : OV m t sz v es) : v.isAgg = false ∧ v.cells = [v] ∧ v.one = true ∧ fits false 1 v = true ∧ lenK v = some (avI es.length) := by
  rcases h with ⟨rfl, rfl⟩ | ⟨q, rfl, _, _⟩ <;> exact ⟨rfl, rfl, rfl, rfl, rfl⟩
theorem OV.off {m : AMem} {t sz : Nat} {v : AV} {es : List AV} (h : OV m t sz v es) {t' : Nat} (ht : t' ≠ t) : Off (SId v) m t' := fun i z e hg ⟨a, b, c, hv⟩ => by
  rcases h with ⟨rfl, _⟩ | ⟨q, rfl, _, h3⟩
  · cases hv
  · cases hv
    rw [hg] at h3
    injection h3 with h3
    injection h3 with h3
    exact ht h3
theorem OV.ne {m : AMem} {t sz : Nat} {v : AV} {es : List AV} (h : OV m t sz v es) {x t' s' : Nat} {e : List AV} (hg : m.get x = some (.arr t' s' e)) (ht : t' ≠ t) : ¬ SId v x := h.off ht x s' e hg
theorem OV.lt {m : AMem} {t sz : Nat} {v : AV} {es : List AV} (h : OV m t sz v es) {x : Nat} (hs : SId v x) : x < m.next := by
  obtain ⟨a, b, c, hv⟩ := hs
  rcases h with ⟨rfl, _⟩ | ⟨q, rfl, h2, h3⟩
  · cases hv
  · cases hv
    exact h2
theorem SV.ov {α : Type} {t sz : Nat} {R : AV → α → Prop} {m : AMem} {v : AV} {l : List α} (h : SV t sz R m v l) : ∃ es, OV m t sz v es ∧ es.length = l.length ∧ ∀ (j : Nat) a, l[j]? = some a → ∃ e, es[j]? = some e ∧ R e a := by
  rcases h with ⟨rfl, rfl⟩ | ⟨id, es, rfl, h2, h3, h4, h5⟩
  · exact ⟨[], .inl ⟨rfl, rfl⟩, rfl, fun j a h => by simp at h⟩
  · exact ⟨es, .inr ⟨id, by rw [h4], h2, h3⟩, h4, h5⟩
theorem SV.snoc {α : Type} {t sz : Nat} {R : AV → α → Prop} {p : AMem} {l : List α} {es : List AV} {X : AV} {x : α} {nid : Nat} (hl : es.length = l.length) (ha : ∀ (j : Nat) a, l[j]? = some a → ∃ e, es[j]? = some e ∧ R e a) (hx : R X x) (hn : nid < p.next) (hg : p.get nid = some (.arr t sz (es ++ [X]))) :
    SV t sz R p (.sl sz nid 0 (es.length + 1)) (l ++ [x]) := by
  refine .inr ⟨nid, es ++ [X], by simp [hl], hn, hg, by simp [hl], fun j a hj => ?_⟩
  by_cases c : j < l.length
  · rw [List.getElem?_append_left c] at hj
    obtain ⟨e, he, hr⟩ := ha j a hj
    exact ⟨e, by rw [List.getElem?_append_left (by omega)]; exact he, hr⟩
  · have hlt := (List.getElem?_eq_some_iff.1 hj).1
    simp only [List.length_append, List.length_cons, List.length_nil] at hlt
    have : j = l.length := by omega
    subst this
    rw [List.getElem?_append_right (Nat.le_refl _), Nat.sub_self] at hj
    cases hj
    exact ⟨X, by rw [List.getElem?_append_right (by omega), hl, Nat.sub_self]; rfl, hx⟩
theorem app_ov {M : AMem} {new t sz bytes : Nat} {v : AV} {es : List AV} {X : AV} (h : OV M t sz v es) (hn : new < M.next) (hb : (es.length + 1) * bytes ≤ 141836999983104) :
    ∃ p, aApp M new t sz bytes v [X] = some (.val (.sl sz new 0 (es.length + 1)) p) ∧ Fr (fun x => SId v x ∨ x = new) M p ∧ p.get new = some (.arr t sz (es ++ [X])) ∧ new < p.next := by
  rcases h with ⟨rfl, rfl⟩ | ⟨q, rfl, h2, h3⟩
  · exact ⟨_, app_nils M new t sz bytes [X] (by simpa using hb), ⟨Nat.le_refl _, fun i a b => put_ne M new i _ (fun e => b (.inr e))⟩, put_same M new _ hn, hn⟩
  · refine ⟨(M.kill q).put new (.arr t sz (es ++ [X])), ?_, ⟨Nat.le_refl _, fun i a b => ?_⟩, put_same _ new _ hn, hn⟩
    · rw [app_sl, h3, apK_s M new t sz bytes q 0 es.length [X] es (by omega) (by simpa using hb), List.drop_zero, List.take_of_length_le (Nat.le_refl _)]
      rfl
    · rw [put_ne _ new i _ (fun e => b (.inr e)), kill_ne M q i (fun e => b (.inl ⟨sz, 0, es.length, by rw [e]⟩))]
section
variable {calls : Nat → AF} {base : Nat} {dst : Option Nat} {rest done : List AOper} {o : AOper} {chk : List (Nat × Nat)} {env : AEnv} {m : AMem} {K : Kont} {Q : AOut → AMem → Prop} {res : Res}
theorem app_wp {M : AMem} {new t sz bytes : Nat} {v : AV} {es : List AV} {X : AV} (h : OV M t sz v es) (hn : new < M.next) (hb : (es.length + 1) * bytes ≤ 141836999983104)
    (hk : ∀ p, Fr (fun x => SId v x ∨ x = new) M p → p.get new = some (.arr t sz (es ++ [X])) → new < p.next → Wp (aOps calls base rest (upd env dst (.sl sz new 0 (es.length + 1))) p K) Q) : Wp (opK calls base dst rest env K (aApp M new t sz bytes v [X])) Q := by
  obtain ⟨p, h1, h2, h3, h4⟩ := app_ov (X := X) h hn hb
  rw [h1, opK_v]
  exact hk p h2 h3 h4
theorem app_sd {M : AMem} {new t sz bytes : Nat} {v : AV} {es : List AV} {X : AV} (h : OV M t sz v es) (hn : new < M.next) (hb : (es.length + 1) * bytes ≤ 141836999983104)
    (hk : ∀ p, Fr (fun x => SId v x ∨ x = new) M p → p.get new = some (.arr t sz (es ++ [X])) → new < p.next → Wp (sd2 calls base chk (o :: done) rest (upd env o.dst (.sl sz new 0 (es.length + 1))) p K (again calls base chk done o env p)) Q) : Wp (sdK calls base chk done o rest env K (aApp M new t sz bytes v [X])) Q := by
  obtain ⟨p, h1, h2, h3, h4⟩ := app_ov (X := X) h hn hb
  rw [h1, sdK_v]
  exact hk p h2 h3 h4
/-- A call that reads, in a drawn region. -/
theorem call_sd {α : Type} {S : Nat → Prop} {r id : Nat} {b : List Int} {x : PR α} {enc : α → AV → AMem → Prop} (h : Wp res (PQ S m r id b x enc))
    (hr : ∀ a j v m', x = .ok a j → Fr S m m' → enc a v m' → RD m' r id b j 0 0 → Wp (sd2 calls base chk (o :: done) rest (upd env o.dst v) m' K (again calls base chk done o env m')) Q)
    (hp : ∀ k e m', x = .bad k e → Fr S m m' → Wp (K (.panic (W k e)) env m') Q) : Wp (sdK calls base chk done o rest env K (call? res)) Q := by
  obtain ⟨u, m', rfl, hf, hR⟩ := h
  cases x with
  | ok a j =>
    obtain ⟨w, rfl, he, hd⟩ := hR
    exact hr a j _ m' rfl hf he hd
  | bad k e =>
    cases hR
    exact hp k e m' rfl hf
end
theorem ptype_bad {N : Int} {b : List Int} {i k : Nat} {e : Int} (h : pbyte b i = .bad k e) : ptype N b i = .bad k e := by
  show pbind pbyte _ b i = _
  exact pb_bad h
theorem ptype_ok {N : Int} {b : List Int} {i k : Nat} {c : Int} (h : pbyte b i = .ok c k) : ptype N b i = (if c = 2 then pbind (pkinds 12 (N + 2)) fun ps => ppure (⟨2, ps, 0⟩, 0)
  else if c = 4 then pbind (pkinds 6 (N + 2)) fun ps => pat fun pl => pbind (pnumber (N + 2) 7) fun o => ppure (⟨4, ps, o⟩, pl)
  else if c = 3 ∨ c = 5 then pat fun pl => pbind (pnumber (N + 2) 7) fun o => ppure (⟨c, [], o⟩, pl)
  else pfail i 6 : Par (GT × Nat)) b k := by
  show pbind pbyte _ b i = _
  exact pb_ok h
/-- Where the kinds stand. -/
def places (xs : List (GT × Nat)) (N : Nat) : List Int := xs.map (fun x => (x.2 : Int)) ++ List.replicate (N - xs.length) 0
theorem places_len {xs : List (GT × Nat)} {N : Nat} (h : xs.length ≤ N) : (places xs N).length = N := by simp [places]; omega
theorem places_zero {xs : List (GT × Nat)} {N : Nat} (h : xs.length < N) (x : GT) : places (xs ++ [(x, 0)]) N = places xs N := by
  unfold places
  rw [List.map_append, List.append_assoc, List.length_append, show N - xs.length = (N - (xs.length + [(x, 0)].length)) + 1 by simp; omega, List.replicate_succ]
  rfl
theorem places_set {xs : List (GT × Nat)} {N : Nat} (h : xs.length < N) (x : GT) (p : Nat) : (places xs N).set xs.length (p : Int) = places (xs ++ [(x, p)]) N := by
  unfold places
  rw [List.map_append, List.append_assoc, List.length_append, show N - xs.length = (N - (xs.length + [(x, p)].length)) + 1 by simp; omega, List.replicate_succ]
  rw [List.set_append_right _ _ (by simp)]
  simp
theorem places_at {xs : List (GT × Nat)} {N : Nat} (h : xs.length < N) : ((places xs N).map avI)[xs.length]? = some (avI 0) := by
  unfold places
  rw [List.getElem?_map, List.getElem?_append_right (by simp), List.length_map, Nat.sub_self, show N - xs.length = (N - xs.length - 1) + 1 by omega, List.replicate_succ]
  rfl
theorem places_nth {xs : List (GT × Nat)} (i : Int) (h0 : 0 ≤ i) (h1 : i < xs.length) : nth (places xs xs.length) i = ((nth xs i).2 : Int) := by
  unfold places nth
  rw [Nat.sub_self, List.replicate_zero, List.append_nil, List.getD_eq_getElem?_getD, List.getD_eq_getElem?_getD, List.getElem?_map]
  have : i.toNat < xs.length := by omega
  rw [List.getElem?_eq_getElem this]
  rfl
end Go.Proofs.YtiijjopdhjpalaaDoor

/-! Reading an image, in the program: the types. Conditions: none. -/
namespace Go.Proofs.YtiijjopdhjpalaaDoor
open Go
set_option linter.unusedSimpArgs false
set_option linter.unusedVariables false
section
variable {m : AMem} {dc r id : Nat} {b : List Int} {j : Nat} {fs tb : AV} {nf : Int}
/-- The loop over the types. -/
structure TI (m : AMem) (dc r id : Nat) (b : List Int) (fs tb : AV) (nf : Int) (N : Nat) (q : Nat) (X : PR (List (GT × Nat))) (s : List (GT × Nat) × Nat) (env : AEnv) (w : AMem) : Prop where
  len : s.1.length ≤ N
  par : pcat s.1 (prep (ptype N) (N - s.1.length) b s.2) = X
  fr : Fr (fun x => x = r ∨ x = dc) m w
  rd : RD w r id b s.2 0 0
  dd : ∃ tv, (∀ y, SId tv y → m.next ≤ y) ∧ DD w dc r tv fs tb nf ∧ SV 43 3 (fun e x => TV w e x ∧ AW q e) w tv (s.1.map (·.1))
  q0 : m.next ≤ q
  q1 : q < w.next
  pl : w.get q = some (.arr 3 1 ((places s.1 N).map avI))
  e0 : env 0 = .ptr dc 0 0
  e2 : env 2 = avI N
  e3 : env 3 = .sl 1 q 0 N
  e13 : env 13 = avI N
  e14 : env 14 = avI s.1.length
theorem off_eq {m : AMem} {x t t' s : Nat} {e : List AV} (h : m.get x = some (.arr t' s e)) (ht : t' ≠ t) : Off (fun y => y = x) m t := fun i z es hg c => by
  rw [c, h] at hg
  injection hg with hg
  injection hg with hg
  exact ht hg
theorem off_gone {m : AMem} {x t : Nat} (h : m.get x = none) : Off (fun y => y = x) m t := fun i z es hg c => by
  rw [c, h] at hg
  cases hg
theorem off_or {S T : Nat → Prop} {m : AMem} {t : Nat} (h : Off S m t) (g : Off T m t) : Off (fun y => S y ∨ T y) m t := fun i z es hg c => c.elim (h i z es hg) (g i z es hg)
theorem DD.nid {m : AMem} {dc r id : Nat} {b : List Int} {ts fs tb : AV} {nf : Int} {j k : Nat} {e : Int} (D : DD m dc r ts fs tb nf) (R : RD m r id b j k e) : ¬ id = dc := fun x => by
  have := R.bs
  rw [x, D.dd] at this
  cases this
theorem fr_q {m w M : AMem} {r dc q : Nat} (f : Fr (fun x => x = r ∨ x = dc) m w) (g : Fr (fun x => x = r ∨ x = q) w M) (h : m.next ≤ q) : Fr (fun x => x = r ∨ x = dc) m M :=
  ⟨Nat.le_trans f.next g.next, fun i a c => (g.old i (Nat.lt_of_lt_of_le a f.next) (fun e => e.elim (fun e => c (.inl e)) (fun e => by omega))).trans (f.old i a c)⟩
/-- A type more. -/
theorem ti_end {M p : AMem} {tv X : AV} {es : List AV} {xs : List (GT × Nat)} {x : GT} {pl k new N q z : Nat} {P : PR (List (GT × Nat))} {env' : AEnv} (hlen : xs.length < N) (hpar : pcat (xs ++ [(x, pl)]) (prep (ptype N) (N - xs.length - 1) b k) = P)
    (f : Fr (fun x => x = r ∨ x = dc) m M) (R : RD M r id b k 0 0) (hy : ∀ y, SId tv y → m.next ≤ y) (D : DD M dc r tv fs tb nf) (O : OV M 43 3 tv es) (el : es.length = (xs.map (·.1)).length)
    (ea : ∀ (j : Nat) a, (xs.map (·.1))[j]? = some a → ∃ e, es[j]? = some e ∧ TV M e a ∧ AW q e) (hX : TV M X x ∧ AW q X) (q0 : m.next ≤ q) (q1 : q < M.next) (gq : M.get q = some (.arr 3 1 ((places (xs ++ [(x, pl)]) N).map avI)))
    (hn0 : m.next ≤ new) (hnn : M.get new = none) (f4 : Fr (fun y => SId tv y ∨ y = new) M p) (gp : p.get new = some (.arr 43 3 (es ++ [X]))) (lp : new < p.next)
    (e0 : env' 0 = .ptr dc 0 0) (e2 : env' 2 = avI N) (e3 : env' 3 = .sl 1 q 0 N) (e13 : env' 13 = avI N) (e14 : env' 14 = avI ((xs.length : Int) + 1)) :
    TI m dc r id b fs tb nf N q P (xs ++ [(x, pl)], k) env' ((p.put dc (.arr 69 5 [.agg [.ptr r 0 0, .sl 3 new 0 (es.length + 1), fs, tb, avI nf]])).room z) := by
  have nn : ∀ {y : Nat} {o : AObj}, M.get y = some o → ¬ y = new := fun hg e => by
    rw [e, hnn] at hg
    cases hg
  have g : Fr (fun y => y = dc) p ((p.put dc (.arr 69 5 [.agg [.ptr r 0 0, .sl 3 new 0 (es.length + 1), fs, tb, avI nf]])).room z) := Fr.room (Fr.put (S := fun y => y = dc) Fr.refl _ (.inr rfl)) _
  have nd : ¬ (SId tv dc ∨ dc = new) := fun c => c.elim (O.ne D.dd (by decide)) (nn D.dd)
  have nr : ¬ (SId tv r ∨ r = new) := fun c => c.elim (O.ne R.rd (by decide)) (nn R.rd)
  have ni : ¬ (SId tv id ∨ id = new) := fun c => c.elim (O.ne R.bs (by decide)) (nn R.bs)
  have nq : ¬ (SId tv q ∨ q = new) := fun c => c.elim (O.ne gq (by decide)) (nn gq)
  have Dp := D.frame f4 nd
  have qd : ¬ q = dc := fun e => by
    rw [e, D.dd] at gq
    cases gq
  have ndn : ¬ new = dc := fun e => nd (.inr e.symm)
  have o4 : Off (fun y => SId tv y ∨ y = new) M 3 := off_or (O.off (by decide)) (off_gone hnn)
  have od : Off (fun y => y = dc) p 3 := off_eq Dp.dd (by decide)
  have fp : Fr (fun x => x = r ∨ x = dc) m p := ⟨Nat.le_trans f.next f4.next, fun i a c => (f4.old i (Nat.lt_of_lt_of_le a f.next) (fun h => by
    rcases h with h | h
    · have := hy i h; omega
    · omega)).trans (f.old i a c)⟩
  exact
    { len := by simp; omega
      par := by
        rw [List.length_append, ← Nat.sub_sub]
        exact hpar
      fr := fp.trans (g.mono fun _ _ h => .inr h)
      rd := (R.frame f4 nr ni).frame g (fun e => D.ne e.symm) (D.nid R)
      dd := ⟨_, fun y ⟨_, _, _, h⟩ => by cases h; exact hn0, ⟨put_same _ _ _ (by exact Dp.ld), Nat.lt_of_lt_of_le Dp.ld g.next, D.ne⟩, by
        rw [List.map_append]
        exact SV.snoc (R := fun e x => TV ((p.put dc (.arr 69 5 [.agg [.ptr r 0 0, .sl 3 new 0 (es.length + 1), fs, tb, avI nf]])).room z) e x ∧ AW q e) el (fun j a hj => by
          obtain ⟨e, h1, h2⟩ := ea j a hj
          exact ⟨e, h1, (h2.1.frame f4 o4).frame g od, h2.2⟩) ⟨(hX.1.frame f4 o4).frame g od, hX.2⟩ (Nat.lt_of_lt_of_le lp g.next) (g.get gp lp ndn)⟩
      q0 := q0
      q1 := Nat.lt_of_lt_of_le q1 (Nat.le_trans f4.next g.next)
      pl := g.get (f4.get gq q1 nq) (Nat.lt_of_lt_of_le q1 f4.next) qd
      e0 := e0
      e2 := e2
      e3 := e3
      e13 := e13
      e14 := by rw [e14, List.length_append]; rfl }
set_option maxHeartbeats 4000000 in
theorem list_loop (n : Nat) {N : Nat} (hN0 : N ≤ 60) (hb : BB b) (hl : b.length ≤ 1048576) {q : Nat} {X : PR (List (GT × Nat))} {Q : AOut → AMem → Prop} {K : Kont} {s0 : List (GT × Nat) × Nat} {env : AEnv} {w : AMem} (hI : TI m dc r id b fs tb nf N q X s0 env w)
    (hx : ∀ (xs : List (GT × Nat)) (i : Nat) (env' : AEnv) (w' : AMem), X = .ok xs i → xs.length = N → TI m dc r id b fs tb nf N q X (xs, i) env' w' → Wp (K (.exit 0) env' w') Q)
    (hp : ∀ (k : Nat) (e : Int) (env' : AEnv) (w' : AMem), X = .bad k e → Fr (fun x => x = r ∨ x = dc) m w' → Wp (K (.panic (W k e)) env' w') Q) :
    Wp (loopN LOOPK (aCode (callsN cfg (n + 6)) lb44_0) env w K) Q := by
  refine wp_loop (TI m dc r id b fs tb nf N q X) (fun s => N - s.1.length) (fun s env w K' hI hN hE => ?_) LOOPK s0 _ _ hI (by rw [LOOPK_eq]; omega)
  obtain ⟨xs, i⟩ := s
  have hI' := hI
  obtain ⟨sl, sx, f, R, ⟨tv, hy, D, T⟩, q0, q1, gq, e0, e2, e3, e13, e14⟩ := hI
  simp only at sl sx R T gq e14 hN
  unfold lb44_0
  by_cases c : xs.length < N
  · rw [show N - xs.length = (N - xs.length - 1) + 1 by omega] at sx
    have hA := @sp_At (n + 5) (r := r) (id := id) (b := b) (j := i) (k := ((0 : Nat) : Int)) (e := 0)
    obtain ⟨es, O, el, ea⟩ := T.ov
    obtain ⟨o1, o2, o3, o4, o5⟩ := O.flat
    have nqd : ¬ dc = q := fun e => by
      rw [← e, D.dd] at gq
      cases gq
    have nqr : ¬ r = q := fun e => by
      rw [← e, R.rd] at gq
      cases gq
    have nqi : ¬ id = q := fun e => by
      rw [← e, R.bs] at gq
      cases gq
    have oi := off_r R (t := 3) (by decide)
    have ot := off_r R (t := 43) (by decide)
    have gd := D.dd
    have ld := D.ld
    have n1 := D.ne
    have nsd : ¬ SId tv dc := O.ne gd (by decide)
    have gr := R.rd
    have gi := R.bs
    have lr := R.lr
    have lb := R.lb
    have fn := f.next
    repeat' (first | simp -implicitDefEqProofs (disch := first | exact soE | (simp -implicitDefEqProofs (disch := first | exact soE | fail) only [go_sem, ↓reduceIte, Nat.reduceEqDiff, Nat.reduceAdd, Nat.reduceLT, Nat.reduceLeDiff, Nat.reduceBEq, reduceCtorEq, e0, e2, e3, e13, e14, gd, gr, gi, hA]; done) | fail) only [go_sem, ↓reduceIte, Nat.reduceEqDiff, Nat.reduceAdd, Nat.reduceLT, Nat.reduceLeDiff, Nat.reduceBEq, reduceCtorEq, e0, e2, e3, e13, e14, gd, gr, gi, hA] | ((with_reducible first | refine g_dec ?_ ?_ | refine c_dec ?_ ?_ | refine s_dec ?_ ?_ | refine g_ndec ?_ ?_ | refine c_ndec ?_ ?_ | refine g_nbool ?_ ?_ | refine c_nbool ?_ ?_ | refine g_bool ?_ ?_ | refine c_bool ?_ ?_ | refine s_bool ?_ ?_) <;> intro h d <;> (try simp only [d]) <;> (try simp only [B1, B2, B3, B4, B5, B6, B7, B8] at h) <;> (try omega)))
    refine call_pr (sp_byte (n + 3) (D.grow frA) (R.grow frA) hl) (fun z k1 v m1 hx1 f1 hv R1 => ?_) (fun k1 e m1 hx1 f1 => ?_)
    · subst hv
      have f1n := f1.next
      simp only [room_next, put_next] at f1n
      have F1 : Fr (fun x => x = r) w m1 := Fr.trans frA f1
      have gd1 := (D.frame F1 n1).dd
      obtain ⟨z0, z1⟩ := hb.get (byte_ok.1 hx1 |> Enc_one.1 |>.1)
      have py := ptype_ok (N := N) hx1
      have lr1 := R1.lr
      have lb1 := R1.lb
      by_cases c2 : z = 2
      · subst c2
        rw [if_pos rfl] at py
        repeat' (first | simp -implicitDefEqProofs (disch := first | exact soD | fail) only [go_sem, ↓reduceIte, Nat.reduceEqDiff, Nat.reduceAdd, Nat.reduceLT, Nat.reduceLeDiff, Nat.reduceBEq, reduceCtorEq, Int.reduceEq, e0, e2, e3, e13, e14, gd1] | ((with_reducible first | refine g_dec ?_ ?_ | refine c_dec ?_ ?_ | refine s_dec ?_ ?_ | refine g_ndec ?_ ?_ | refine c_ndec ?_ ?_ | refine g_nbool ?_ ?_ | refine c_nbool ?_ ?_ | refine g_bool ?_ ?_ | refine c_bool ?_ ?_ | refine s_bool ?_ ?_) <;> intro h d <;> (try simp only [d]) <;> (try simp only [B1, B2, B3, B4, B5, B6, B7, B8] at h) <;> (try omega)))
        refine call_pr (sp_kinds (n + 2) (by omega) (by omega) (by omega) (by omega) hb hl ((D.frame F1 n1).frame (S := fun x => w.next ≤ x) frA (by omega)) (R1.frame (S := fun x => w.next ≤ x) frA (by omega) (by omega))) (fun ps k2 v m2 hx2 f2 hv R2 => ?_) (fun k2 e m2 hx2 f2 => ?_)
        · have py : ptype N b i = .ok (⟨2, ps, 0⟩, 0) k2 := py.trans (pb_ok hx2)
          obtain ⟨hv, hfresh⟩ := hv
          simp only [room_next, put_next] at hfresh
          have f2n := f2.next
          simp only [room_next, put_next] at f2n
          have F2 : Fr (fun x => x = r) w m2 := Fr.trans frA f2
          have g62 : m2.get (w.next + 1 + 2 + 6 + 4) = some (.arr 43 3 [.agg [avI 2, .nils, avI 0]]) := f2.get sxA soA (by show ¬ _ = _; omega)
          have gd2 := (D.frame F2 n1).dd
          obtain ⟨ps', P2, _⟩ := hv.ov
          obtain ⟨p1, p2, p3, p4, _⟩ := P2.flat
          repeat' (first | simp -implicitDefEqProofs (disch := first | exact soD | fail) only [go_sem, ↓reduceIte, Nat.reduceEqDiff, Nat.reduceAdd, Nat.reduceLT, Nat.reduceLeDiff, Nat.reduceBEq, reduceCtorEq, Int.reduceEq, e0, e2, e3, e13, e14, gd2, g62, o1, o2, o3, o4, p1, p2, p3, p4] | ((with_reducible first | refine g_dec ?_ ?_ | refine c_dec ?_ ?_ | refine s_dec ?_ ?_ | refine g_ndec ?_ ?_ | refine c_ndec ?_ ?_ | refine g_nbool ?_ ?_ | refine c_nbool ?_ ?_ | refine g_bool ?_ ?_ | refine c_bool ?_ ?_ | refine s_bool ?_ ?_) <;> intro h d <;> (try simp only [d]) <;> (try simp only [B1, B2, B3, B4, B5, B6, B7, B8] at h) <;> (try omega)))
          refine app_wp (O.frame (S := fun x => x = r) frA ot) soA (by rw [el, List.length_map]; omega) (fun p f4 gp lp => ?_)
          have gdp := f4.get (id := dc) (by simp -implicitDefEqProofs (disch := first | exact soD | fail) only [go_sem, ↓reduceIte, Nat.reduceEqDiff, Nat.reduceAdd, Nat.reduceLT, Nat.reduceLeDiff, Nat.reduceBEq, reduceCtorEq]; exact gd2) soA (fun c => c.elim nsd (fun e => by omega))
          repeat' (first | simp -implicitDefEqProofs (disch := first | exact soD | fail) only [go_sem, ↓reduceIte, Nat.reduceEqDiff, Nat.reduceAdd, Nat.reduceLT, Nat.reduceLeDiff, Nat.reduceBEq, reduceCtorEq, Int.reduceEq, e0, e2, e3, e13, e14, gdp, o1, o2, o3, o4] | ((with_reducible first | refine g_dec ?_ ?_ | refine c_dec ?_ ?_ | refine s_dec ?_ ?_ | refine g_ndec ?_ ?_ | refine c_ndec ?_ ?_ | refine g_nbool ?_ ?_ | refine c_nbool ?_ ?_ | refine g_bool ?_ ?_ | refine c_bool ?_ ?_ | refine s_bool ?_ ?_) <;> intro h d <;> (try simp only [d]) <;> (try simp only [B1, B2, B3, B4, B5, B6, B7, B8] at h) <;> (try omega)))
          refine hN (xs ++ [(⟨2, ps, 0⟩, 0)], k2) _ _ (ti_end (es := es) c (by rw [← sx, pcat_ok py]) (f.trans ((frA : Fr (fun x => x = r) w _).mono fun _ _ h => .inl h)) (R2.frame (S := fun x => w.next ≤ x) frA (by omega) (by omega)) hy ((D.frame F2 n1).frame (S := fun x => w.next ≤ x) frA (by omega)) (O.frame (S := fun x => x = r) frA ot) el
            (fun j a hj => by
              obtain ⟨e, h1, h2, h3⟩ := ea j a hj
              exact ⟨e, h1, h2.frame (S := fun x => x = r) frA oi, h3⟩) ⟨⟨v, rfl, hv.frame (S := fun x => x = w.next + 1 + 2 + 6 + 4) frA (off_eq g62 (by decide))⟩, fun _ _ _ h hs => by
              cases h
              have := hfresh _ hs
              omega⟩ q0 soA (by rw [places_zero c]; simp -implicitDefEqProofs (disch := first | exact soD | fail) only [go_sem, ↓reduceIte, Nat.reduceEqDiff, Nat.reduceAdd, Nat.reduceLT, Nat.reduceLeDiff, Nat.reduceBEq, reduceCtorEq]; exact F2.get gq q1 (oi _ _ _ gq)) (by omega) (by simp -implicitDefEqProofs (disch := first | exact soD | fail) only [go_sem, ↓reduceIte, Nat.reduceEqDiff, Nat.reduceAdd, Nat.reduceLT, Nat.reduceLeDiff, Nat.reduceBEq, reduceCtorEq]; exact m2.wf _ (by omega)) f4 gp lp (by simp -implicitDefEqProofs (disch := first | exact soD | fail) only [go_sem, ↓reduceIte, Nat.reduceEqDiff, Nat.reduceAdd, Nat.reduceLT, Nat.reduceLeDiff, Nat.reduceBEq, reduceCtorEq, e0]) (by simp -implicitDefEqProofs (disch := first | exact soD | fail) only [go_sem, ↓reduceIte, Nat.reduceEqDiff, Nat.reduceAdd, Nat.reduceLT, Nat.reduceLeDiff, Nat.reduceBEq, reduceCtorEq, e2]) (by simp -implicitDefEqProofs (disch := first | exact soD | fail) only [go_sem, ↓reduceIte, Nat.reduceEqDiff, Nat.reduceAdd, Nat.reduceLT, Nat.reduceLeDiff, Nat.reduceBEq, reduceCtorEq, e3]) (by simp -implicitDefEqProofs (disch := first | exact soD | fail) only [go_sem, ↓reduceIte, Nat.reduceEqDiff, Nat.reduceAdd, Nat.reduceLT, Nat.reduceLeDiff, Nat.reduceBEq, reduceCtorEq, e13]) sxA) ?_
          show N - (xs ++ [_]).length < N - xs.length
          rw [List.length_append, List.length_cons]
          omega
        · rw [pcat_bad (py.trans (pb_bad hx2))] at sx
          repeat' (first | simp -implicitDefEqProofs (disch := first | exact soD | fail) only [go_sem, ↓reduceIte, Nat.reduceEqDiff, Nat.reduceAdd, Nat.reduceLT, Nat.reduceLeDiff, Nat.reduceBEq, reduceCtorEq] | ((with_reducible first | refine g_dec ?_ ?_ | refine c_dec ?_ ?_ | refine s_dec ?_ ?_ | refine g_ndec ?_ ?_ | refine c_ndec ?_ ?_ | refine g_nbool ?_ ?_ | refine c_nbool ?_ ?_ | refine g_bool ?_ ?_ | refine c_bool ?_ ?_ | refine s_bool ?_ ?_) <;> intro h d <;> (try simp only [d]) <;> (try simp only [B1, B2, B3, B4, B5, B6, B7, B8] at h) <;> (try omega)))
          refine (hE _ _).2.2 _ ?_
          exact hp _ _ _ _ sx.symm (f.trans ((Fr.trans frA f2 : Fr (fun x => x = r) w m2).mono fun _ _ h => .inl h))
      · by_cases c4 : z = 4
        · subst c4
          rw [if_neg (by decide), if_pos rfl] at py
          repeat' (first | simp -implicitDefEqProofs (disch := first | exact soD | fail) only [go_sem, ↓reduceIte, Nat.reduceEqDiff, Nat.reduceAdd, Nat.reduceLT, Nat.reduceLeDiff, Nat.reduceBEq, reduceCtorEq, Int.reduceEq, e0, e2, e3, e13, e14, gd1] | ((with_reducible first | refine g_dec ?_ ?_ | refine c_dec ?_ ?_ | refine s_dec ?_ ?_ | refine g_ndec ?_ ?_ | refine c_ndec ?_ ?_ | refine g_nbool ?_ ?_ | refine c_nbool ?_ ?_ | refine g_bool ?_ ?_ | refine c_bool ?_ ?_ | refine s_bool ?_ ?_) <;> intro h d <;> (try simp only [d]) <;> (try simp only [B1, B2, B3, B4, B5, B6, B7, B8] at h) <;> (try omega)))
          refine call_pr (sp_kinds (n + 2) (by omega) (by omega) (by omega) (by omega) hb hl ((D.frame F1 n1).frame (S := fun x => w.next ≤ x) frA (by omega)) (R1.frame (S := fun x => w.next ≤ x) frA (by omega) (by omega))) (fun ps k2 v m2 hx2 f2 hv R2 => ?_) (fun k2 e m2 hx2 f2 => ?_)
          · have py : ptype N b i = (pat fun pl => pbind (pnumber (N + 2) 7) fun o => ppure (⟨4, ps, o⟩, pl) : Par (GT × Nat)) b k2 := py.trans (pb_ok hx2)
            obtain ⟨hv, hfresh⟩ := hv
            simp only [room_next, put_next] at hfresh
            have f2n := f2.next
            simp only [room_next, put_next] at f2n
            have F2 : Fr (fun x => x = r) w m2 := Fr.trans frA f2
            have g62 : m2.get (w.next + 1 + 2 + 6 + 4) = some (.arr 43 3 [.agg [avI 4, .nils, avI 0]]) := f2.get sxA soA (by show ¬ _ = _; omega)
            have gd2 := (D.frame F2 n1).dd
            obtain ⟨ps', P2, _⟩ := hv.ov
            obtain ⟨p1, p2, p3, p4, _⟩ := P2.flat
            have gr2 := R2.rd
            have gi2 := R2.bs
            have gq2 := F2.get gq q1 (oi _ _ _ gq)
            have hA2 := @sp_At (n + 5) (r := r) (id := id) (b := b) (j := k2) (k := ((0 : Nat) : Int)) (e := 0)
            have hpl := places_at c
            have F2' : Fr (fun x => x = r ∨ x = q) w m2 := F2.mono fun _ _ h => .inl h
            repeat' (first | simp -implicitDefEqProofs (disch := first | exact soE | (simp -implicitDefEqProofs (disch := first | exact soE | fail) only [go_sem, ↓reduceIte, Nat.reduceEqDiff, Nat.reduceAdd, Nat.reduceLT, Nat.reduceLeDiff, Nat.reduceBEq, reduceCtorEq, Int.reduceEq, e0, e2, e3, e13, e14, gd2, gr2, gi2, gq2, hA2, hpl, g62, o1, p1, p2, p3, p4]; done) | fail) only [go_sem, ↓reduceIte, Nat.reduceEqDiff, Nat.reduceAdd, Nat.reduceLT, Nat.reduceLeDiff, Nat.reduceBEq, reduceCtorEq, Int.reduceEq, e0, e2, e3, e13, e14, gd2, gr2, gi2, gq2, hA2, hpl, g62, o1, p1, p2, p3, p4] | ((with_reducible first | refine g_dec ?_ ?_ | refine c_dec ?_ ?_ | refine s_dec ?_ ?_ | refine g_ndec ?_ ?_ | refine c_ndec ?_ ?_ | refine g_nbool ?_ ?_ | refine c_nbool ?_ ?_ | refine g_bool ?_ ?_ | refine c_bool ?_ ?_ | refine s_bool ?_ ?_) <;> intro h d <;> (try simp only [d]) <;> (try simp only [B1, B2, B3, B4, B5, B6, B7, B8] at h) <;> (try omega)))
            refine call_pr (sp_number (n + 3) (by omega) (by omega) (by decide) hb hl ((D.frame F2 n1).frame (S := fun x => w.next ≤ x ∨ x = q) frA (fun c => c.elim (by omega) nqd)) (R2.frame (S := fun x => w.next ≤ x ∨ x = q) frA (fun c => c.elim (by omega) nqr) (fun c => c.elim (by omega) nqi))) (fun o k3 v3 m3 hx3 f3 hv3 R3 => ?_) (fun k3 e m3 hx3 f3 => ?_)
            · subst hv3
              have py : ptype N b i = .ok (⟨4, ps, o⟩, k2) k3 := py.trans (pb_ok hx3)
              have f3n := f3.next
              simp only [room_next, put_next] at f3n
              have F3 : Fr (fun x => x = r ∨ x = q) w m3 := Fr.trans frA (f3.mono fun _ _ h => .inl h)
              have g63 : m3.get (w.next + 1 + 2 + 6 + 4) = some (.arr 43 3 [.agg [avI 4, v, avI 0]]) := f3.get (by simp -implicitDefEqProofs (disch := first | exact soD | fail) only [go_sem, ↓reduceIte, Nat.reduceEqDiff, Nat.reduceAdd, Nat.reduceLT, Nat.reduceLeDiff, Nat.reduceBEq, reduceCtorEq, g62, p1, p2, p3, p4]) soA (by show ¬ _ = _; omega)
              have gq3 : m3.get q = some (.arr 3 1 ((places (xs ++ [(⟨4, ps, o⟩, k2)]) N).map avI)) := f3.get (by simp -implicitDefEqProofs (disch := first | exact soD | fail) only [go_sem, ↓reduceIte, Nat.reduceEqDiff, Nat.reduceAdd, Nat.reduceLT, Nat.reduceLeDiff, Nat.reduceBEq, reduceCtorEq]; rw [places_set c]) soA (fun e => nqr e.symm)
              have gd3 := (D.frame F3 (fun c => c.elim n1 nqd)).dd
              have FM : Fr (fun x => x = r ∨ x = q ∨ x = w.next + 1 + 2 + 6 + 4) m2 m3 := Fr.trans frA (f3.mono fun _ _ h => .inl h)
              repeat' (first | simp -implicitDefEqProofs (disch := first | exact soD | fail) only [go_sem, ↓reduceIte, Nat.reduceEqDiff, Nat.reduceAdd, Nat.reduceLT, Nat.reduceLeDiff, Nat.reduceBEq, reduceCtorEq, Int.reduceEq, e0, e2, e3, e13, e14, gd3, g63, o1, o2, o3, o4, p1, p2, p3, p4] | ((with_reducible first | refine g_dec ?_ ?_ | refine c_dec ?_ ?_ | refine s_dec ?_ ?_ | refine g_ndec ?_ ?_ | refine c_ndec ?_ ?_ | refine g_nbool ?_ ?_ | refine c_nbool ?_ ?_ | refine g_bool ?_ ?_ | refine c_bool ?_ ?_ | refine s_bool ?_ ?_) <;> intro h d <;> (try simp only [d]) <;> (try simp only [B1, B2, B3, B4, B5, B6, B7, B8] at h) <;> (try omega)))
              refine app_wp (O.frame (S := fun x => x = r ∨ x = q) frA (off_or ot (off_eq gq (by decide)))) soA (by rw [el, List.length_map]; omega) (fun p f4 gp lp => ?_)
              have gdp := f4.get (id := dc) (by simp -implicitDefEqProofs (disch := first | exact soD | fail) only [go_sem, ↓reduceIte, Nat.reduceEqDiff, Nat.reduceAdd, Nat.reduceLT, Nat.reduceLeDiff, Nat.reduceBEq, reduceCtorEq]; exact gd3) soA (fun c => c.elim nsd (fun e => by omega))
              repeat' (first | simp -implicitDefEqProofs (disch := first | exact soD | fail) only [go_sem, ↓reduceIte, Nat.reduceEqDiff, Nat.reduceAdd, Nat.reduceLT, Nat.reduceLeDiff, Nat.reduceBEq, reduceCtorEq, Int.reduceEq, e0, e2, e3, e13, e14, gdp, o1, o2, o3, o4] | ((with_reducible first | refine g_dec ?_ ?_ | refine c_dec ?_ ?_ | refine s_dec ?_ ?_ | refine g_ndec ?_ ?_ | refine c_ndec ?_ ?_ | refine g_nbool ?_ ?_ | refine c_nbool ?_ ?_ | refine g_bool ?_ ?_ | refine c_bool ?_ ?_ | refine s_bool ?_ ?_) <;> intro h d <;> (try simp only [d]) <;> (try simp only [B1, B2, B3, B4, B5, B6, B7, B8] at h) <;> (try omega)))
              refine hN (xs ++ [(⟨4, ps, o⟩, k2)], k3) _ _ (ti_end (es := es) c (by rw [← sx, pcat_ok py]) (fr_q f frA q0) (R3.frame (S := fun x => w.next ≤ x) frA (by omega) (by omega)) hy ((D.frame F3 (fun c => c.elim n1 nqd)).frame (S := fun x => w.next ≤ x) frA (by omega)) (O.frame (S := fun x => x = r ∨ x = q) frA (off_or ot (off_eq gq (by decide)))) el
                (fun j a hj => by
                  obtain ⟨e, h1, h2, h3⟩ := ea j a hj
                  exact ⟨e, h1, h2.frameq h3 (S := fun x => x = r) frA oi, h3⟩) ⟨⟨v, rfl, SV.frame2 hv (S := fun x => x = r ∨ x = q ∨ x = w.next + 1 + 2 + 6 + 4) frA (fun y es hs hg c => by
                  rcases c with c | c | c
                  · exact off_r R2 (by decide) y 1 es hg c
                  · have := hfresh _ hs
                    omega
                  · exact off_eq g62 (by decide) y 1 es hg c) fun _ _ h => h⟩, fun _ _ _ h hs => by
                  cases h
                  have := hfresh _ hs
                  omega⟩ q0 soA (by simp -implicitDefEqProofs (disch := first | exact soD | fail) only [go_sem, ↓reduceIte, Nat.reduceEqDiff, Nat.reduceAdd, Nat.reduceLT, Nat.reduceLeDiff, Nat.reduceBEq, reduceCtorEq]; exact gq3) (by omega) (by simp -implicitDefEqProofs (disch := first | exact soD | fail) only [go_sem, ↓reduceIte, Nat.reduceEqDiff, Nat.reduceAdd, Nat.reduceLT, Nat.reduceLeDiff, Nat.reduceBEq, reduceCtorEq]; exact m3.wf _ (by omega)) f4 gp lp (by simp -implicitDefEqProofs (disch := first | exact soD | fail) only [go_sem, ↓reduceIte, Nat.reduceEqDiff, Nat.reduceAdd, Nat.reduceLT, Nat.reduceLeDiff, Nat.reduceBEq, reduceCtorEq, e0]) (by simp -implicitDefEqProofs (disch := first | exact soD | fail) only [go_sem, ↓reduceIte, Nat.reduceEqDiff, Nat.reduceAdd, Nat.reduceLT, Nat.reduceLeDiff, Nat.reduceBEq, reduceCtorEq, e2]) (by simp -implicitDefEqProofs (disch := first | exact soD | fail) only [go_sem, ↓reduceIte, Nat.reduceEqDiff, Nat.reduceAdd, Nat.reduceLT, Nat.reduceLeDiff, Nat.reduceBEq, reduceCtorEq, e3]) (by simp -implicitDefEqProofs (disch := first | exact soD | fail) only [go_sem, ↓reduceIte, Nat.reduceEqDiff, Nat.reduceAdd, Nat.reduceLT, Nat.reduceLeDiff, Nat.reduceBEq, reduceCtorEq, e13]) sxA) ?_
              show N - (xs ++ [_]).length < N - xs.length
              rw [List.length_append, List.length_cons]
              omega
            · rw [pcat_bad (py.trans (pb_bad hx3))] at sx
              repeat' (first | simp -implicitDefEqProofs (disch := first | exact soD | fail) only [go_sem, ↓reduceIte, Nat.reduceEqDiff, Nat.reduceAdd, Nat.reduceLT, Nat.reduceLeDiff, Nat.reduceBEq, reduceCtorEq] | ((with_reducible first | refine g_dec ?_ ?_ | refine c_dec ?_ ?_ | refine s_dec ?_ ?_ | refine g_ndec ?_ ?_ | refine c_ndec ?_ ?_ | refine g_nbool ?_ ?_ | refine c_nbool ?_ ?_ | refine g_bool ?_ ?_ | refine c_bool ?_ ?_ | refine s_bool ?_ ?_) <;> intro h d <;> (try simp only [d]) <;> (try simp only [B1, B2, B3, B4, B5, B6, B7, B8] at h) <;> (try omega)))
              refine (hE _ _).2.2 _ ?_
              exact hp _ _ _ _ sx.symm (fr_q f (Fr.trans frA (f3.mono fun _ _ h => .inl h)) q0)
          · rw [pcat_bad (py.trans (pb_bad hx2))] at sx
            repeat' (first | simp -implicitDefEqProofs (disch := first | exact soD | fail) only [go_sem, ↓reduceIte, Nat.reduceEqDiff, Nat.reduceAdd, Nat.reduceLT, Nat.reduceLeDiff, Nat.reduceBEq, reduceCtorEq] | ((with_reducible first | refine g_dec ?_ ?_ | refine c_dec ?_ ?_ | refine s_dec ?_ ?_ | refine g_ndec ?_ ?_ | refine c_ndec ?_ ?_ | refine g_nbool ?_ ?_ | refine c_nbool ?_ ?_ | refine g_bool ?_ ?_ | refine c_bool ?_ ?_ | refine s_bool ?_ ?_) <;> intro h d <;> (try simp only [d]) <;> (try simp only [B1, B2, B3, B4, B5, B6, B7, B8] at h) <;> (try omega)))
            refine (hE _ _).2.2 _ ?_
            exact hp _ _ _ _ sx.symm (f.trans ((Fr.trans frA f2 : Fr (fun x => x = r) w m2).mono fun _ _ h => .inl h))
        · by_cases c3 : z = 3
          · subst c3
            rw [if_neg (by decide), if_neg (by decide), if_pos (by decide)] at py
            have gr2 := R1.rd
            have gi2 := R1.bs
            have gq2 := F1.get gq q1 (oi _ _ _ gq)
            have hA2 := @sp_At (n + 5) (r := r) (id := id) (b := b) (j := k1) (k := ((0 : Nat) : Int)) (e := 0)
            have hpl := places_at c
            have F2' : Fr (fun x => x = r ∨ x = q) w m1 := F1.mono fun _ _ h => .inl h
            repeat' (first | simp -implicitDefEqProofs (disch := first | exact soE | (simp -implicitDefEqProofs (disch := first | exact soE | fail) only [go_sem, ↓reduceIte, Nat.reduceEqDiff, Nat.reduceAdd, Nat.reduceLT, Nat.reduceLeDiff, Nat.reduceBEq, reduceCtorEq, Int.reduceEq, e0, e2, e3, e13, e14, gd1, gr2, gi2, gq2, hA2, hpl, o1]; done) | fail) only [go_sem, ↓reduceIte, Nat.reduceEqDiff, Nat.reduceAdd, Nat.reduceLT, Nat.reduceLeDiff, Nat.reduceBEq, reduceCtorEq, Int.reduceEq, e0, e2, e3, e13, e14, gd1, gr2, gi2, gq2, hA2, hpl, o1] | ((with_reducible first | refine g_dec ?_ ?_ | refine c_dec ?_ ?_ | refine s_dec ?_ ?_ | refine g_ndec ?_ ?_ | refine c_ndec ?_ ?_ | refine g_nbool ?_ ?_ | refine c_nbool ?_ ?_ | refine g_bool ?_ ?_ | refine c_bool ?_ ?_ | refine s_bool ?_ ?_) <;> intro h d <;> (try simp only [d]) <;> (try simp only [B1, B2, B3, B4, B5, B6, B7, B8] at h) <;> (try omega)))
            refine call_pr (sp_number (n + 3) (by omega) (by omega) (by decide) hb hl ((D.frame F1 n1).frame (S := fun x => w.next ≤ x ∨ x = q) frA (fun c => c.elim (by omega) nqd)) (R1.frame (S := fun x => w.next ≤ x ∨ x = q) frA (fun c => c.elim (by omega) nqr) (fun c => c.elim (by omega) nqi))) (fun o k3 v3 m3 hx3 f3 hv3 R3 => ?_) (fun k3 e m3 hx3 f3 => ?_)
            · subst hv3
              have py : ptype N b i = .ok (⟨3, [], o⟩, k1) k3 := py.trans (pb_ok hx3)
              have f3n := f3.next
              simp only [room_next, put_next] at f3n
              have F3 : Fr (fun x => x = r ∨ x = q) w m3 := Fr.trans frA (f3.mono fun _ _ h => .inl h)
              have g63 : m3.get (w.next + 1 + 2 + 6 + 4) = some (.arr 43 3 [.agg [avI 3, .nils, avI 0]]) := f3.get sxA soA (by show ¬ _ = _; omega)
              have gq3 : m3.get q = some (.arr 3 1 ((places (xs ++ [(⟨3, [], o⟩, k1)]) N).map avI)) := f3.get (by simp -implicitDefEqProofs (disch := first | exact soD | fail) only [go_sem, ↓reduceIte, Nat.reduceEqDiff, Nat.reduceAdd, Nat.reduceLT, Nat.reduceLeDiff, Nat.reduceBEq, reduceCtorEq]; rw [places_set c]) soA (fun e => nqr e.symm)
              have gd3 := (D.frame F3 (fun c => c.elim n1 nqd)).dd
              repeat' (first | simp -implicitDefEqProofs (disch := first | exact soD | fail) only [go_sem, ↓reduceIte, Nat.reduceEqDiff, Nat.reduceAdd, Nat.reduceLT, Nat.reduceLeDiff, Nat.reduceBEq, reduceCtorEq, Int.reduceEq, e0, e2, e3, e13, e14, gd3, g63, o1, o2, o3, o4] | ((with_reducible first | refine g_dec ?_ ?_ | refine c_dec ?_ ?_ | refine s_dec ?_ ?_ | refine g_ndec ?_ ?_ | refine c_ndec ?_ ?_ | refine g_nbool ?_ ?_ | refine c_nbool ?_ ?_ | refine g_bool ?_ ?_ | refine c_bool ?_ ?_ | refine s_bool ?_ ?_) <;> intro h d <;> (try simp only [d]) <;> (try simp only [B1, B2, B3, B4, B5, B6, B7, B8] at h) <;> (try omega)))
              refine app_wp (O.frame (S := fun x => x = r ∨ x = q) frA (off_or ot (off_eq gq (by decide)))) soA (by rw [el, List.length_map]; omega) (fun p f4 gp lp => ?_)
              have gdp := f4.get (id := dc) (by simp -implicitDefEqProofs (disch := first | exact soD | fail) only [go_sem, ↓reduceIte, Nat.reduceEqDiff, Nat.reduceAdd, Nat.reduceLT, Nat.reduceLeDiff, Nat.reduceBEq, reduceCtorEq]; exact gd3) soA (fun c => c.elim nsd (fun e => by omega))
              repeat' (first | simp -implicitDefEqProofs (disch := first | exact soD | fail) only [go_sem, ↓reduceIte, Nat.reduceEqDiff, Nat.reduceAdd, Nat.reduceLT, Nat.reduceLeDiff, Nat.reduceBEq, reduceCtorEq, Int.reduceEq, e0, e2, e3, e13, e14, gdp, o1, o2, o3, o4] | ((with_reducible first | refine g_dec ?_ ?_ | refine c_dec ?_ ?_ | refine s_dec ?_ ?_ | refine g_ndec ?_ ?_ | refine c_ndec ?_ ?_ | refine g_nbool ?_ ?_ | refine c_nbool ?_ ?_ | refine g_bool ?_ ?_ | refine c_bool ?_ ?_ | refine s_bool ?_ ?_) <;> intro h d <;> (try simp only [d]) <;> (try simp only [B1, B2, B3, B4, B5, B6, B7, B8] at h) <;> (try omega)))
              refine hN (xs ++ [(⟨3, [], o⟩, k1)], k3) _ _ (ti_end (es := es) c (by rw [← sx, pcat_ok py]) (fr_q f frA q0) (R3.frame (S := fun x => w.next ≤ x) frA (by omega) (by omega)) hy ((D.frame F3 (fun c => c.elim n1 nqd)).frame (S := fun x => w.next ≤ x) frA (by omega)) (O.frame (S := fun x => x = r ∨ x = q) frA (off_or ot (off_eq gq (by decide)))) el
                (fun j a hj => by
                  obtain ⟨e, h1, h2, h3⟩ := ea j a hj
                  exact ⟨e, h1, h2.frameq h3 (S := fun x => x = r) frA oi, h3⟩) ⟨⟨.nils, rfl, .inl ⟨rfl, rfl⟩⟩, fun _ _ _ h hs => by
                  cases h
                  obtain ⟨_, _, _, hs⟩ := hs
                  cases hs⟩ q0 soA (by simp -implicitDefEqProofs (disch := first | exact soD | fail) only [go_sem, ↓reduceIte, Nat.reduceEqDiff, Nat.reduceAdd, Nat.reduceLT, Nat.reduceLeDiff, Nat.reduceBEq, reduceCtorEq]; exact gq3) (by omega) (by simp -implicitDefEqProofs (disch := first | exact soD | fail) only [go_sem, ↓reduceIte, Nat.reduceEqDiff, Nat.reduceAdd, Nat.reduceLT, Nat.reduceLeDiff, Nat.reduceBEq, reduceCtorEq]; exact m3.wf _ (by omega)) f4 gp lp (by simp -implicitDefEqProofs (disch := first | exact soD | fail) only [go_sem, ↓reduceIte, Nat.reduceEqDiff, Nat.reduceAdd, Nat.reduceLT, Nat.reduceLeDiff, Nat.reduceBEq, reduceCtorEq, e0]) (by simp -implicitDefEqProofs (disch := first | exact soD | fail) only [go_sem, ↓reduceIte, Nat.reduceEqDiff, Nat.reduceAdd, Nat.reduceLT, Nat.reduceLeDiff, Nat.reduceBEq, reduceCtorEq, e2]) (by simp -implicitDefEqProofs (disch := first | exact soD | fail) only [go_sem, ↓reduceIte, Nat.reduceEqDiff, Nat.reduceAdd, Nat.reduceLT, Nat.reduceLeDiff, Nat.reduceBEq, reduceCtorEq, e3]) (by simp -implicitDefEqProofs (disch := first | exact soD | fail) only [go_sem, ↓reduceIte, Nat.reduceEqDiff, Nat.reduceAdd, Nat.reduceLT, Nat.reduceLeDiff, Nat.reduceBEq, reduceCtorEq, e13]) sxA) ?_
              show N - (xs ++ [_]).length < N - xs.length
              rw [List.length_append, List.length_cons]
              omega
            · rw [pcat_bad (py.trans (pb_bad hx3))] at sx
              repeat' (first | simp -implicitDefEqProofs (disch := first | exact soD | fail) only [go_sem, ↓reduceIte, Nat.reduceEqDiff, Nat.reduceAdd, Nat.reduceLT, Nat.reduceLeDiff, Nat.reduceBEq, reduceCtorEq] | ((with_reducible first | refine g_dec ?_ ?_ | refine c_dec ?_ ?_ | refine s_dec ?_ ?_ | refine g_ndec ?_ ?_ | refine c_ndec ?_ ?_ | refine g_nbool ?_ ?_ | refine c_nbool ?_ ?_ | refine g_bool ?_ ?_ | refine c_bool ?_ ?_ | refine s_bool ?_ ?_) <;> intro h d <;> (try simp only [d]) <;> (try simp only [B1, B2, B3, B4, B5, B6, B7, B8] at h) <;> (try omega)))
              refine (hE _ _).2.2 _ ?_
              exact hp _ _ _ _ sx.symm (fr_q f (Fr.trans frA (f3.mono fun _ _ h => .inl h)) q0)
          · by_cases c5 : z = 5
            · subst c5
              rw [if_neg (by decide), if_neg (by decide), if_pos (by decide)] at py
              have gr2 := R1.rd
              have gi2 := R1.bs
              have gq2 := F1.get gq q1 (oi _ _ _ gq)
              have hA2 := @sp_At (n + 5) (r := r) (id := id) (b := b) (j := k1) (k := ((0 : Nat) : Int)) (e := 0)
              have hpl := places_at c
              have F2' : Fr (fun x => x = r ∨ x = q) w m1 := F1.mono fun _ _ h => .inl h
              repeat' (first | simp -implicitDefEqProofs (disch := first | exact soE | (simp -implicitDefEqProofs (disch := first | exact soE | fail) only [go_sem, ↓reduceIte, Nat.reduceEqDiff, Nat.reduceAdd, Nat.reduceLT, Nat.reduceLeDiff, Nat.reduceBEq, reduceCtorEq, Int.reduceEq, e0, e2, e3, e13, e14, gd1, gr2, gi2, gq2, hA2, hpl, o1]; done) | fail) only [go_sem, ↓reduceIte, Nat.reduceEqDiff, Nat.reduceAdd, Nat.reduceLT, Nat.reduceLeDiff, Nat.reduceBEq, reduceCtorEq, Int.reduceEq, e0, e2, e3, e13, e14, gd1, gr2, gi2, gq2, hA2, hpl, o1] | ((with_reducible first | refine g_dec ?_ ?_ | refine c_dec ?_ ?_ | refine s_dec ?_ ?_ | refine g_ndec ?_ ?_ | refine c_ndec ?_ ?_ | refine g_nbool ?_ ?_ | refine c_nbool ?_ ?_ | refine g_bool ?_ ?_ | refine c_bool ?_ ?_ | refine s_bool ?_ ?_) <;> intro h d <;> (try simp only [d]) <;> (try simp only [B1, B2, B3, B4, B5, B6, B7, B8] at h) <;> (try omega)))
              refine call_pr (sp_number (n + 3) (by omega) (by omega) (by decide) hb hl ((D.frame F1 n1).frame (S := fun x => w.next ≤ x ∨ x = q) frA (fun c => c.elim (by omega) nqd)) (R1.frame (S := fun x => w.next ≤ x ∨ x = q) frA (fun c => c.elim (by omega) nqr) (fun c => c.elim (by omega) nqi))) (fun o k3 v3 m3 hx3 f3 hv3 R3 => ?_) (fun k3 e m3 hx3 f3 => ?_)
              · subst hv3
                have py : ptype N b i = .ok (⟨5, [], o⟩, k1) k3 := py.trans (pb_ok hx3)
                have f3n := f3.next
                simp only [room_next, put_next] at f3n
                have F3 : Fr (fun x => x = r ∨ x = q) w m3 := Fr.trans frA (f3.mono fun _ _ h => .inl h)
                have g63 : m3.get (w.next + 1 + 2 + 6 + 4) = some (.arr 43 3 [.agg [avI 5, .nils, avI 0]]) := f3.get sxA soA (by show ¬ _ = _; omega)
                have gq3 : m3.get q = some (.arr 3 1 ((places (xs ++ [(⟨5, [], o⟩, k1)]) N).map avI)) := f3.get (by simp -implicitDefEqProofs (disch := first | exact soD | fail) only [go_sem, ↓reduceIte, Nat.reduceEqDiff, Nat.reduceAdd, Nat.reduceLT, Nat.reduceLeDiff, Nat.reduceBEq, reduceCtorEq]; rw [places_set c]) soA (fun e => nqr e.symm)
                have gd3 := (D.frame F3 (fun c => c.elim n1 nqd)).dd
                repeat' (first | simp -implicitDefEqProofs (disch := first | exact soD | fail) only [go_sem, ↓reduceIte, Nat.reduceEqDiff, Nat.reduceAdd, Nat.reduceLT, Nat.reduceLeDiff, Nat.reduceBEq, reduceCtorEq, Int.reduceEq, e0, e2, e3, e13, e14, gd3, g63, o1, o2, o3, o4] | ((with_reducible first | refine g_dec ?_ ?_ | refine c_dec ?_ ?_ | refine s_dec ?_ ?_ | refine g_ndec ?_ ?_ | refine c_ndec ?_ ?_ | refine g_nbool ?_ ?_ | refine c_nbool ?_ ?_ | refine g_bool ?_ ?_ | refine c_bool ?_ ?_ | refine s_bool ?_ ?_) <;> intro h d <;> (try simp only [d]) <;> (try simp only [B1, B2, B3, B4, B5, B6, B7, B8] at h) <;> (try omega)))
                refine app_wp (O.frame (S := fun x => x = r ∨ x = q) frA (off_or ot (off_eq gq (by decide)))) soA (by rw [el, List.length_map]; omega) (fun p f4 gp lp => ?_)
                have gdp := f4.get (id := dc) (by simp -implicitDefEqProofs (disch := first | exact soD | fail) only [go_sem, ↓reduceIte, Nat.reduceEqDiff, Nat.reduceAdd, Nat.reduceLT, Nat.reduceLeDiff, Nat.reduceBEq, reduceCtorEq]; exact gd3) soA (fun c => c.elim nsd (fun e => by omega))
                repeat' (first | simp -implicitDefEqProofs (disch := first | exact soD | fail) only [go_sem, ↓reduceIte, Nat.reduceEqDiff, Nat.reduceAdd, Nat.reduceLT, Nat.reduceLeDiff, Nat.reduceBEq, reduceCtorEq, Int.reduceEq, e0, e2, e3, e13, e14, gdp, o1, o2, o3, o4] | ((with_reducible first | refine g_dec ?_ ?_ | refine c_dec ?_ ?_ | refine s_dec ?_ ?_ | refine g_ndec ?_ ?_ | refine c_ndec ?_ ?_ | refine g_nbool ?_ ?_ | refine c_nbool ?_ ?_ | refine g_bool ?_ ?_ | refine c_bool ?_ ?_ | refine s_bool ?_ ?_) <;> intro h d <;> (try simp only [d]) <;> (try simp only [B1, B2, B3, B4, B5, B6, B7, B8] at h) <;> (try omega)))
                refine hN (xs ++ [(⟨5, [], o⟩, k1)], k3) _ _ (ti_end (es := es) c (by rw [← sx, pcat_ok py]) (fr_q f frA q0) (R3.frame (S := fun x => w.next ≤ x) frA (by omega) (by omega)) hy ((D.frame F3 (fun c => c.elim n1 nqd)).frame (S := fun x => w.next ≤ x) frA (by omega)) (O.frame (S := fun x => x = r ∨ x = q) frA (off_or ot (off_eq gq (by decide)))) el
                  (fun j a hj => by
                    obtain ⟨e, h1, h2, h3⟩ := ea j a hj
                    exact ⟨e, h1, h2.frameq h3 (S := fun x => x = r) frA oi, h3⟩) ⟨⟨.nils, rfl, .inl ⟨rfl, rfl⟩⟩, fun _ _ _ h hs => by
                    cases h
                    obtain ⟨_, _, _, hs⟩ := hs
                    cases hs⟩ q0 soA (by simp -implicitDefEqProofs (disch := first | exact soD | fail) only [go_sem, ↓reduceIte, Nat.reduceEqDiff, Nat.reduceAdd, Nat.reduceLT, Nat.reduceLeDiff, Nat.reduceBEq, reduceCtorEq]; exact gq3) (by omega) (by simp -implicitDefEqProofs (disch := first | exact soD | fail) only [go_sem, ↓reduceIte, Nat.reduceEqDiff, Nat.reduceAdd, Nat.reduceLT, Nat.reduceLeDiff, Nat.reduceBEq, reduceCtorEq]; exact m3.wf _ (by omega)) f4 gp lp (by simp -implicitDefEqProofs (disch := first | exact soD | fail) only [go_sem, ↓reduceIte, Nat.reduceEqDiff, Nat.reduceAdd, Nat.reduceLT, Nat.reduceLeDiff, Nat.reduceBEq, reduceCtorEq, e0]) (by simp -implicitDefEqProofs (disch := first | exact soD | fail) only [go_sem, ↓reduceIte, Nat.reduceEqDiff, Nat.reduceAdd, Nat.reduceLT, Nat.reduceLeDiff, Nat.reduceBEq, reduceCtorEq, e2]) (by simp -implicitDefEqProofs (disch := first | exact soD | fail) only [go_sem, ↓reduceIte, Nat.reduceEqDiff, Nat.reduceAdd, Nat.reduceLT, Nat.reduceLeDiff, Nat.reduceBEq, reduceCtorEq, e3]) (by simp -implicitDefEqProofs (disch := first | exact soD | fail) only [go_sem, ↓reduceIte, Nat.reduceEqDiff, Nat.reduceAdd, Nat.reduceLT, Nat.reduceLeDiff, Nat.reduceBEq, reduceCtorEq, e13]) sxA) ?_
                show N - (xs ++ [_]).length < N - xs.length
                rw [List.length_append, List.length_cons]
                omega
              · rw [pcat_bad (py.trans (pb_bad hx3))] at sx
                repeat' (first | simp -implicitDefEqProofs (disch := first | exact soD | fail) only [go_sem, ↓reduceIte, Nat.reduceEqDiff, Nat.reduceAdd, Nat.reduceLT, Nat.reduceLeDiff, Nat.reduceBEq, reduceCtorEq] | ((with_reducible first | refine g_dec ?_ ?_ | refine c_dec ?_ ?_ | refine s_dec ?_ ?_ | refine g_ndec ?_ ?_ | refine c_ndec ?_ ?_ | refine g_nbool ?_ ?_ | refine c_nbool ?_ ?_ | refine g_bool ?_ ?_ | refine c_bool ?_ ?_ | refine s_bool ?_ ?_) <;> intro h d <;> (try simp only [d]) <;> (try simp only [B1, B2, B3, B4, B5, B6, B7, B8] at h) <;> (try omega)))
                refine (hE _ _).2.2 _ ?_
                exact hp _ _ _ _ sx.symm (fr_q f (Fr.trans frA (f3.mono fun _ _ h => .inl h)) q0)
            · rw [if_neg c2, if_neg c4, if_neg (by omega)] at py
              have d2 : decide (z = 2) = false := decide_eq_false c2
              have d4 : decide (z = 4) = false := decide_eq_false c4
              have d3 : decide (z = 3) = false := decide_eq_false c3
              have d5 : decide (z = 5) = false := decide_eq_false c5
              rw [pcat_bad (show ptype N b i = .bad i 6 from py)] at sx
              repeat' (first | simp -implicitDefEqProofs (disch := first | exact soD | fail) only [go_sem, ↓reduceIte, Nat.reduceEqDiff, Nat.reduceAdd, Nat.reduceLT, Nat.reduceLeDiff, Nat.reduceBEq, reduceCtorEq, Int.reduceEq, e0, e2, e3, e13, e14, gd1, d2, d3, d4, d5, ce43, x_body, cf43] | ((with_reducible first | refine g_dec ?_ ?_ | refine c_dec ?_ ?_ | refine s_dec ?_ ?_ | refine g_ndec ?_ ?_ | refine c_ndec ?_ ?_ | refine g_nbool ?_ ?_ | refine c_nbool ?_ ?_ | refine g_bool ?_ ?_ | refine c_bool ?_ ?_ | refine s_bool ?_ ?_) <;> intro h d <;> (try simp only [d]) <;> (try simp only [B1, B2, B3, B4, B5, B6, B7, B8] at h) <;> (try omega)))
              refine (hE _ _).2.2 _ ?_
              exact hp _ _ _ _ sx.symm (f.trans ((frA : Fr (fun x => x = r) w _).mono fun _ _ h => .inl h))
    · rw [pcat_bad (ptype_bad hx1)] at sx
      repeat' (first | simp -implicitDefEqProofs (disch := first | exact soD | fail) only [go_sem, ↓reduceIte, Nat.reduceEqDiff, Nat.reduceAdd, Nat.reduceLT, Nat.reduceLeDiff, Nat.reduceBEq, reduceCtorEq] | ((with_reducible first | refine g_dec ?_ ?_ | refine c_dec ?_ ?_ | refine s_dec ?_ ?_ | refine g_ndec ?_ ?_ | refine c_ndec ?_ ?_ | refine g_nbool ?_ ?_ | refine c_nbool ?_ ?_ | refine g_bool ?_ ?_ | refine c_bool ?_ ?_ | refine s_bool ?_ ?_) <;> intro h d <;> (try simp only [d]) <;> (try simp only [B1, B2, B3, B4, B5, B6, B7, B8] at h) <;> (try omega)))
      refine (hE _ _).2.2 _ ?_
      exact hp _ _ _ _ sx.symm (f.trans ((Fr.trans frA f1 : Fr (fun x => x = r) w m1).mono fun _ _ h => .inl h))
  · repeat' (first | simp -implicitDefEqProofs (disch := first | exact soD | fail) only [go_sem, ↓reduceIte, Nat.reduceEqDiff, Nat.reduceAdd, Nat.reduceLT, Nat.reduceLeDiff, Nat.reduceBEq, reduceCtorEq, e0, e2, e3, e13, e14] | ((with_reducible first | refine g_dec ?_ ?_ | refine c_dec ?_ ?_ | refine s_dec ?_ ?_ | refine g_ndec ?_ ?_ | refine c_ndec ?_ ?_ | refine g_nbool ?_ ?_ | refine c_nbool ?_ ?_ | refine g_bool ?_ ?_ | refine c_bool ?_ ?_ | refine s_bool ?_ ?_) <;> intro h d <;> (try simp only [d]) <;> (try simp only [B1, B2, B3, B4, B5, B6, B7, B8] at h) <;> (try omega)))
    refine (hE _ _).1 _ (hx xs i _ _ ?_ (by omega) ?_)
    · rw [show N - xs.length = 0 by omega, pcat_done] at sx
      exact sx.symm
    · exact { len := sl, par := hI'.par, fr := frA, rd := R.grow frA, dd := ⟨tv, hy, D.grow frA, SV.frame T (S := fun _ => False) frA off_none (fun e a h => ⟨h.1.frame (S := fun _ => False) frA off_none, h.2⟩)⟩,
              q0 := q0, q1 := soA, pl := by simp -implicitDefEqProofs (disch := first | exact soD | fail) only [go_sem, ↓reduceIte, Nat.reduceEqDiff, Nat.reduceAdd, Nat.reduceLT, Nat.reduceLeDiff, Nat.reduceBEq, reduceCtorEq, gq], e0 := by simp -implicitDefEqProofs (disch := first | exact soD | fail) only [go_sem, ↓reduceIte, Nat.reduceEqDiff, Nat.reduceAdd, Nat.reduceLT, Nat.reduceLeDiff, Nat.reduceBEq, reduceCtorEq, e0], e2 := by simp -implicitDefEqProofs (disch := first | exact soD | fail) only [go_sem, ↓reduceIte, Nat.reduceEqDiff, Nat.reduceAdd, Nat.reduceLT, Nat.reduceLeDiff, Nat.reduceBEq, reduceCtorEq, e2], e3 := by simp -implicitDefEqProofs (disch := first | exact soD | fail) only [go_sem, ↓reduceIte, Nat.reduceEqDiff, Nat.reduceAdd, Nat.reduceLT, Nat.reduceLeDiff, Nat.reduceBEq, reduceCtorEq, e3], e13 := by simp -implicitDefEqProofs (disch := first | exact soD | fail) only [go_sem, ↓reduceIte, Nat.reduceEqDiff, Nat.reduceAdd, Nat.reduceLT, Nat.reduceLeDiff, Nat.reduceBEq, reduceCtorEq, e13], e14 := by simp -implicitDefEqProofs (disch := first | exact soD | fail) only [go_sem, ↓reduceIte, Nat.reduceEqDiff, Nat.reduceAdd, Nat.reduceLT, Nat.reduceLeDiff, Nat.reduceBEq, reduceCtorEq, e14] }
end
end Go.Proofs.YtiijjopdhjpalaaDoor
