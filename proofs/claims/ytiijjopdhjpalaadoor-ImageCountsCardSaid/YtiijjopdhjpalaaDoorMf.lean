/- What callsN is at each compiled function. Conditions: none. -/
import Derived.Test.YtiijjopdhjpalaaDoorMb
import Derived.Attr
import GoSem.ClaimChange
import Derived.Deep.Slices
import Derived.Test.YtiijjopdhjpalaaDoorProg
import Derived.Test.YtiijjopdhjpalaaDoorMe
/-! Stepping through the evaluator by simp: each lemma leaves data, no open code. Conditions: none. -/
namespace Go.Proofs.YtiijjopdhjpalaaDoor
open Go
set_option linter.unusedVariables false
set_option linter.unusedSimpArgs false
def KSeq (calls : Nat → AF) (b : ACode) (K : Kont) : Kont := fun e env m => match e with
  | .normal => aCode calls b env m K
  | e => K e env m
def KBlk (id : Nat) (K : Kont) : Kont := fun e env m => match e with
  | .exit j => if j = id then K .normal env m else K (.exit j) env m
  | e => K e env m
def opK (calls : Nat → AF) (base : Nat) (dst : Option Nat) (r : List AOper) (env : AEnv) (K : Kont) : Option AR → Res
  | some (.val v m') => aOps calls base r (upd env dst v) m' K
  | some (.pan v m') => K (.panic v) env m'
  | none => none
def gK (calls : Nat → AF) (base k d : Nat) (want : Bool) (dst : Option Nat) (op : AOp) (r : List AOper) (env : AEnv) (m : AMem) (K : Kont) : AV → Res
  | .bool q => cond (q == want) (opK calls base dst r (upd env (some d) (.bool want)) K (aOp calls (upd env (some d) (.bool want)) m (base + k) op))
      (aOps calls base r (upd (upd env (some d) (.bool !want)) dst (.tup [])) m K)
  | .tup [] => aOps calls base r (upd env dst (.tup [])) m K
  | _ => none
def cK (calls : Nat → AF) (a b : ACode) (env : AEnv) (m : AMem) (K : Kont) : AV → Res
  | .bool q => cond q (aCode calls a env m K) (aCode calls b env m K)
  | _ => none
def pickK (m : AMem) (a b : AV) : AV → Option AR
  | .bool q => cond q (some (.val a m)) (some (.val b m))
  | _ => none
section
variable (calls : Nat → AF) (env : AEnv) (m : AMem) (K : Kont)
@[go_sem] theorem x_seq (a b : ACode) : aCode calls (.seq a b) env m K = aCode calls a env m (KSeq calls b K) := rfl
@[go_sem] theorem x_skip : aCode calls .skip env m K = K .normal env m := rfl
@[go_sem] theorem x_ret : aCode calls .ret env m K = K .ret env m := rfl
@[go_sem] theorem x_exit (i : Nat) : aCode calls (.exit i) env m K = K (.exit i) env m := rfl
@[go_sem] theorem x_reg (ops : List AOper) : aCode calls (.reg ops) env m K = aOps calls m.next ops env (m.room ops.length) K := rfl
@[go_sem] theorem x_blk (id : Nat) (a : ACode) : aCode calls (.blk id a) env m K = aCode calls a env m (KBlk id K) := rfl
@[go_sem] theorem x_loop (a : ACode) : aCode calls (.loop a) env m K = loopN LOOPK (aCode calls a) env m K := rfl
@[go_sem] theorem x_cond (c : Opd) (a b : ACode) : aCode calls (.cond c a b) env m K = cK calls a b env m K (c.ev env) := by
  cases h : c.ev env <;> simp only [aCode, cK, h]
@[go_sem] theorem c_t (a b : ACode) : cK calls a b env m K (.bool true) = aCode calls a env m K := rfl
@[go_sem] theorem c_f (a b : ACode) : cK calls a b env m K (.bool false) = aCode calls b env m K := rfl
@[go_sem] theorem k_seq_n (b : ACode) : KSeq calls b K .normal env m = aCode calls b env m K := rfl
@[go_sem] theorem k_seq_r (b : ACode) : KSeq calls b K .ret env m = K .ret env m := rfl
@[go_sem] theorem k_seq_e (b : ACode) (i : Nat) : KSeq calls b K (.exit i) env m = K (.exit i) env m := rfl
@[go_sem] theorem k_seq_p (b : ACode) (v : AV) : KSeq calls b K (.panic v) env m = K (.panic v) env m := rfl
@[go_sem] theorem k_blk_n (i : Nat) : KBlk i K .normal env m = K .normal env m := rfl
@[go_sem] theorem k_blk_r (i : Nat) : KBlk i K .ret env m = K .ret env m := rfl
@[go_sem] theorem k_blk_p (i : Nat) (v : AV) : KBlk i K (.panic v) env m = K (.panic v) env m := rfl
@[go_sem] theorem k_blk_e (i j : Nat) : KBlk i K (.exit j) env m = if j = i then K .normal env m else K (.exit j) env m := rfl
@[go_sem] theorem u_get (d : Nat) (v : AV) (t : Nat) : upd env (some d) v t = if t = d then v else env t := rfl
@[go_sem] theorem u_none (v : AV) : upd env none v = env := rfl
@[go_sem] theorem o_t (t : Nat) : Opd.ev env (.t t) = env t := rfl
@[go_sem] theorem o_c (v : AV) : Opd.ev env (.c v) = v := rfl
@[go_sem] theorem e_nil : evL env [] = [] := rfl
@[go_sem] theorem e_cons (x : Opd) (l : List Opd) : evL env (x :: l) = x.ev env :: evL env l := rfl
@[go_sem] theorem q_nil (base : Nat) : aOps calls base [] env m K = K .normal env m := rfl
@[go_sem] theorem q_cons (base k : Nat) (dst : Option Nat) (op : AOp) (r : List AOper) : aOps calls base (⟨k, dst, none, op⟩ :: r) env m K = opK calls base dst r env K (aOp calls env m (base + k) op) := by
  simp only [aOps]
  cases h : aOp calls env m (base + k) op with
  | none => rfl
  | some x => cases x <;> rfl
@[go_sem] theorem q_consg (base k d : Nat) (want : Bool) (dst : Option Nat) (op : AOp) (r : List AOper) : aOps calls base (⟨k, dst, some (some d, want), op⟩ :: r) env m K = gK calls base k d want dst op r env m K (env d) := by
  simp only [aOps]
  cases h : env d with
  | bool q =>
    simp only [gK]
    congr 1
  | tup l => cases l <;> rfl
  | _ => rfl
@[go_sem] theorem opK_v (base : Nat) (dst : Option Nat) (r : List AOper) (v : AV) : opK calls base dst r env K (some (.val v m)) = aOps calls base r (upd env dst v) m K := rfl
@[go_sem] theorem opK_p (base : Nat) (dst : Option Nat) (r : List AOper) (v : AV) : opK calls base dst r env K (some (.pan v m)) = K (.panic v) env m := rfl
@[go_sem] theorem gK_tt (base k d : Nat) (dst : Option Nat) (op : AOp) (r : List AOper) : gK calls base k d true dst op r env m K (.bool true) = opK calls base dst r (upd env (some d) (.bool true)) K (aOp calls (upd env (some d) (.bool true)) m (base + k) op) := rfl
@[go_sem] theorem gK_ff (base k d : Nat) (dst : Option Nat) (op : AOp) (r : List AOper) : gK calls base k d false dst op r env m K (.bool false) = opK calls base dst r (upd env (some d) (.bool false)) K (aOp calls (upd env (some d) (.bool false)) m (base + k) op) := rfl
@[go_sem] theorem gK_tf (base k d : Nat) (dst : Option Nat) (op : AOp) (r : List AOper) : gK calls base k d true dst op r env m K (.bool false) = aOps calls base r (upd (upd env (some d) (.bool false)) dst (.tup [])) m K := rfl
@[go_sem] theorem gK_ft (base k d : Nat) (dst : Option Nat) (op : AOp) (r : List AOper) : gK calls base k d false dst op r env m K (.bool true) = aOps calls base r (upd (upd env (some d) (.bool true)) dst (.tup [])) m K := rfl
@[go_sem] theorem gK_n (base k d : Nat) (dst : Option Nat) (op : AOp) (r : List AOper) (want : Bool) : gK calls base k d want dst op r env m K (.tup []) = aOps calls base r (upd env dst (.tup [])) m K := rfl
variable (new : Nat)
@[go_sem] theorem p_pick (c a b : Opd) : aOp calls env m new (.pick c a b) = pickK m (a.ev env) (b.ev env) (c.ev env) := by
  cases h : c.ev env <;> simp only [aOp, pickK, h]
@[go_sem] theorem pick_t (a b : AV) : pickK m a b (.bool true) = some (.val a m) := rfl
@[go_sem] theorem pick_f (a b : AV) : pickK m a b (.bool false) = some (.val b m) := rfl
@[go_sem] theorem pick_1 (q : Bool) (b : Bool) : pickK m (.bool true) (.bool b) (.bool q) = some (.val (.bool (q || b)) m) := by cases q <;> rfl
@[go_sem] theorem pick_2 (q : Bool) (b : Bool) : pickK m (.bool b) (.bool false) (.bool q) = some (.val (.bool (q && b)) m) := by cases q <;> cases b <;> rfl
@[go_sem] theorem p_mov (a : Opd) : aOp calls env m new (.mov a) = some (.val (a.ev env) m) := rfl
@[go_sem] theorem p_bin (op : BinOp) (a b : Opd) : aOp calls env m new (.bin op a b) = v? m (aBin op (a.ev env) (b.ev env)) := rfl
@[go_sem] theorem p_un (op : UnOp) (a : Opd) : aOp calls env m new (.un op a) = v? m (aUn op (a.ev env)) := rfl
def lenK : AV → Option AV
  | .nils => some (.int .i64 0)
  | .sl _ _ _ n => some (.int .i64 n)
  | .ts _ es => some (.int .i64 es.length)
  | _ => none
@[go_sem] theorem p_len (a : Opd) : aOp calls env m new (.len a) = v? m (lenK (a.ev env)) := by
  cases h : a.ev env <;> simp only [aOp, lenA, lenK, h] <;> rfl
@[go_sem] theorem lenK_nils : lenK .nils = some (.int .i64 0) := rfl
@[go_sem] theorem lenK_sl (s id i n : Nat) : lenK (.sl s id i n) = some (.int .i64 n) := rfl
@[go_sem] theorem lenK_ts (s : Nat) (es : List AV) : lenK (.ts s es) = some (.int .i64 es.length) := rfl
@[go_sem] theorem v_some (v : AV) : v? m (some v) = some (.val v m) := rfl
@[go_sem] theorem m_some : m? (some m) = some (.val (.tup []) m) := rfl
@[go_sem] theorem call_r (v : AV) : call? (some (.ret v, m)) = some (.val v m) := rfl
@[go_sem] theorem call_p (v : AV) : call? (some (.pan v, m)) = some (.pan v m) := rfl
@[go_sem] theorem p_new (t sz : Nat) (v : Opd) : aOp calls env m new (.new t sz v) = if fits (v.ev env).isAgg sz (v.ev env) then some (.val (.ptr new 0 0) (m.put new (.arr t sz [v.ev env]))) else none := rfl
@[go_sem] theorem p_load (agg : Bool) (sz : Nat) (p : Opd) : aOp calls env m new (.load agg sz p) = v? m (aLoad m agg sz (p.ev env)) := rfl
@[go_sem] theorem p_store (agg : Bool) (sz : Nat) (p v : Opd) : aOp calls env m new (.store agg sz p v) = m? (aStore m agg sz (p.ev env) (v.ev env)) := rfl
@[go_sem] theorem p_fad (agg : Bool) (off sz : Nat) (x : Opd) : aOp calls env m new (.fad agg off sz x) = v? m (aFad agg off sz (x.ev env)) := rfl
def fldK (agg : Bool) (off sz : Nat) : AV → Option AV
  | .agg cs => part agg off sz cs
  | _ => none
@[go_sem] theorem p_fld (agg : Bool) (off sz : Nat) (x : Opd) : aOp calls env m new (.fld agg off sz x) = v? m (fldK agg off sz (x.ev env)) := by
  cases h : x.ev env <;> simp only [aOp, fldK, h] <;> rfl
@[go_sem] theorem fldK_agg (agg : Bool) (off sz : Nat) (cs : List AV) : fldK agg off sz (.agg cs) = part agg off sz cs := rfl
def iadK (sz : Nat) (x : AV) : AV → Option AV
  | .int _ n => aIad sz x n
  | _ => none
@[go_sem] theorem p_iad (sz : Nat) (x i : Opd) : aOp calls env m new (.iad sz x i) = v? m (iadK sz (x.ev env) (i.ev env)) := by
  cases h : i.ev env <;> simp only [aOp, iadK, h] <;> rfl
@[go_sem] theorem iadK_i (sz : Nat) (x : AV) (k : IntKind) (n : Int) : iadK sz x (.int k n) = aIad sz x n := rfl
@[go_sem] theorem p_ifc (t : Nat) (x : Opd) : aOp calls env m new (.ifc t x) = some (.val (.ifc t (x.ev env)) m) := rfl
@[go_sem] theorem p_mkf (f : Fn) (a b : List Opd) : aOp calls env m new (.mkf f a b) = some (.val (.fn f (evL env a) (evL env b)) m) := rfl
def nchkK (m : AMem) : AV → Option AR
  | .ptr id i o => some (.val (.ptr id i o) m)
  | .tp v => some (.val (.tp v) m)
  | _ => none
@[go_sem] theorem p_nchk (x : Opd) : aOp calls env m new (.nchk x) = nchkK m (x.ev env) := by
  cases h : x.ev env <;> simp only [aOp, nchkK, h] <;> rfl
@[go_sem] theorem nchk_ptr (id i o : Nat) : nchkK m (.ptr id i o) = some (.val (.ptr id i o) m) := rfl
@[go_sem] theorem nchk_tp (v : AV) : nchkK m (.tp v) = some (.val (.tp v) m) := rfl
@[go_sem] theorem p_eqn (k : NK) (neg : Bool) (x : Opd) : aOp calls env m new (.eqn k neg x) = v? m ((isNil k (x.ev env)).map fun e => .bool (neg != e)) := rfl
def eqbK (neg : Bool) : AV → AV → Option AV
  | .bool a, .bool b => some (.bool (neg != (a == b)))
  | _, _ => none
@[go_sem] theorem p_eqb (neg : Bool) (x y : Opd) : aOp calls env m new (.eqb neg x y) = v? m (eqbK neg (x.ev env) (y.ev env)) := by
  cases h : x.ev env <;> cases h2 : y.ev env <;> simp only [aOp, eqbK, h, h2] <;> rfl
@[go_sem] theorem eqbK_b (neg a b : Bool) : eqbK neg (.bool a) (.bool b) = some (.bool (neg != (a == b))) := rfl
def eqsK (ks : List EK) (neg : Bool) : AV → AV → Option AV
  | .agg a, .agg b => (eqCells ks a b).map fun e => .bool (neg != e)
  | _, _ => none
@[go_sem] theorem p_eqs (ks : List EK) (neg : Bool) (x y : Opd) : aOp calls env m new (.eqs ks neg x y) = v? m (eqsK ks neg (x.ev env) (y.ev env)) := by
  cases h : x.ev env <;> cases h2 : y.ev env <;> simp only [aOp, eqsK, h, h2] <;> rfl
@[go_sem] theorem eqsK_a (ks : List EK) (neg : Bool) (a b : List AV) : eqsK ks neg (.agg a) (.agg b) = (eqCells ks a b).map fun e => .bool (neg != e) := rfl
def convK (k : IntKind) : AV → Option AV
  | .int _ n => some (.int k (k.wrap n))
  | _ => none
@[go_sem] theorem p_conv (k : IntKind) (x : Opd) : aOp calls env m new (.conv k x) = v? m (convK k (x.ev env)) := by
  cases h : x.ev env <;> simp only [aOp, convK, h] <;> rfl
@[go_sem] theorem convK_i (k k' : IntKind) (n : Int) : convK k (.int k' n) = some (.int k (k.wrap n)) := rfl
def convSBK : AV → Option AV
  | .str s => some (.ts 1 (s.map fun b => .int .u8 b.toNat))
  | _ => none
@[go_sem] theorem p_convSB (t : Nat) (x : Opd) : aOp calls env m new (.convSB t x) = v? m (convSBK (x.ev env)) := by
  cases h : x.ev env <;> simp only [aOp, convSBK, h] <;> rfl
@[go_sem] theorem convSBK_s (s : List UInt8) : convSBK (.str s) = some (.ts 1 (s.map fun b => .int .u8 b.toNat)) := rfl
def extK (i : Nat) : AV → Option AV
  | .tup vs => vs[i]?
  | _ => none
@[go_sem] theorem p_ext (x : Opd) (i : Nat) : aOp calls env m new (.ext x i) = v? m (extK i (x.ev env)) := by
  cases h : x.ev env <;> simp only [aOp, extK, h] <;> rfl
@[go_sem] theorem extK_t (i : Nat) (vs : List AV) : extK i (.tup vs) = vs[i]? := rfl
def lensK : AV → Option AV
  | .str s => some (.int .i64 s.length)
  | _ => none
@[go_sem] theorem p_lens (x : Opd) : aOp calls env m new (.lens x) = v? m (lensK (x.ev env)) := by
  cases h : x.ev env <;> simp only [aOp, lensK, h] <;> rfl
@[go_sem] theorem lensK_s (s : List UInt8) : lensK (.str s) = some (.int .i64 s.length) := rfl
@[go_sem] theorem p_build (zero : List AV) (parts : List (Nat × Nat × Opd)) : aOp calls env m new (.build zero parts) = v? m ((fillP zero (parts.map fun p => (p.1, p.2.1, p.2.2.ev env))).map .agg) := rfl
def mklK (m : AMem) (new t sz : Nat) : Option (List AV) → Option AR
  | some es => some (.val (.sl sz new 0 es.length) (m.put new (.arr t sz es)))
  | none => none
@[go_sem] theorem p_mkl (t sz : Nat) (zeros : List AV) (parts : List (Nat × Opd)) : aOp calls env m new (.mkl t sz zeros parts) = mklK m new t sz (fillE sz zeros (parts.map fun p => (p.1, p.2.ev env))) := by
  cases h : fillE sz zeros (parts.map fun p => (p.1, p.2.ev env)) <;> simp only [aOp, mklK, h]
@[go_sem] theorem mklK_s (t sz : Nat) (es : List AV) : mklK m new t sz (some es) = some (.val (.sl sz new 0 es.length) (m.put new (.arr t sz es))) := rfl
def appK (m : AMem) (new t sz bytes : Nat) (s : AV) : Option (List AV) → Option AR
  | some xs => aApp m new t sz bytes s xs
  | none => none
@[go_sem] theorem p_app (t sz bytes : Nat) (s x : Opd) : aOp calls env m new (.app t sz bytes s x) = appK m new t sz bytes (s.ev env) (elems m sz (x.ev env)) := by
  cases h : elems m sz (x.ev env) <;> simp only [aOp, appK, h]
@[go_sem] theorem appK_s (t sz bytes : Nat) (s : AV) (xs : List AV) : appK m new t sz bytes s (some xs) = aApp m new t sz bytes s xs := rfl
def copyK (m : AMem) (sz : Nat) (d : AV) : Option (List AV) → Option AR
  | some xs => aCopy m sz d xs
  | none => none
@[go_sem] theorem p_copy (sz : Nat) (d s : Opd) : aOp calls env m new (.copy sz d s) = copyK m sz (d.ev env) (elems m sz (s.ev env)) := by
  cases h : elems m sz (s.ev env) <;> simp only [aOp, copyK, h]
@[go_sem] theorem copyK_s (sz : Nat) (d : AV) (xs : List AV) : copyK m sz d (some xs) = aCopy m sz d xs := rfl
def mksK (m : AMem) (new t sz bytes : Nat) (zero : AV) : AV → AV → Option AR
  | .int _ n, .int _ k => cond (decide (0 ≤ n) && decide (n ≤ k) && decide (bytes * k ≤ 281474976710656) && decide (k ≤ 9223372036854775807))
        (some (.val (.sl sz new 0 n.toNat) (m.put new (.arr t sz (List.replicate n.toNat zero))))) none
  | _, _ => none
@[go_sem] theorem p_mks (t sz bytes : Nat) (zero : AV) (l c : Opd) : aOp calls env m new (.mks t sz bytes zero l c) = mksK m new t sz bytes zero (l.ev env) (c.ev env) := by
  cases h : l.ev env <;> cases h2 : c.ev env <;> simp only [aOp, mksK, h, h2] <;> rfl
@[go_sem] theorem mksK_i (t sz bytes : Nat) (zero : AV) (k k' : IntKind) (n : Int) (h0 : 0 ≤ n) (h1 : bytes * n ≤ 281474976710656) (h2 : n ≤ 9223372036854775807) :
    mksK m new t sz bytes zero (.int k n) (.int k' n) = some (.val (.sl sz new 0 n.toNat) (m.put new (.arr t sz (List.replicate n.toNat zero)))) := by
  simp only [mksK, decide_eq_true h0, decide_eq_true h1, decide_eq_true h2, decide_eq_true (Int.le_refl n)]
  rfl
def callK (calls : Nat → AF) (m : AMem) (args : List AV) : AV → Option AR
  | .fn (.func g) first cap => call? (calls g (first ++ args ++ cap) m)
  | _ => none
@[go_sem] theorem p_call (f : Opd) (args : List Opd) : aOp calls env m new (.call f args) = callK calls m (evL env args) (f.ev env) := by
  cases h : f.ev env with
  | fn f a b => cases f <;> simp only [aOp, callK, h] <;> rfl
  | _ => simp only [aOp, callK, h]
@[go_sem] theorem callK_f (g : Nat) (first cap args : List AV) : callK calls m args (.fn (.func g) first cap) = call? (calls g (first ++ args ++ cap) m) := rfl
def mxK : AV → AV → Option AV
  | .int k a, .int _ b => some (.int k (if b > a then b else a))
  | _, _ => none
@[go_sem] theorem p_mx (x y : Opd) : aOp calls env m new (.mx x y) = v? m (mxK (x.ev env) (y.ev env)) := by
  cases h : x.ev env <;> cases h2 : y.ev env <;> simp only [aOp, mxK, h, h2] <;> rfl
@[go_sem] theorem mxK_i (k k' : IntKind) (a b : Int) : mxK (.int k a) (.int k' b) = some (.int k (if b > a then b else a)) := rfl
def slcK (sz : Nat) (x : AV) : Option (Option Int) → Option (Option Int) → Option AV
  | none, none => aSlc sz x 0 none
  | some (some l), none => aSlc sz x l none
  | none, some (some h) => aSlc sz x 0 (some h)
  | some (some l), some (some h) => aSlc sz x l (some h)
  | _, _ => none
@[go_sem] theorem p_slc (sz : Nat) (x : Opd) (lo hi : Option Opd) : aOp calls env m new (.slc sz x lo hi) = v? m (slcK sz (x.ev env) (lo.map fun o => asI (o.ev env)) (hi.map fun o => asI (o.ev env))) := by
  cases h : lo.map fun o => asI (o.ev env) with
  | none => cases h2 : hi.map fun o => asI (o.ev env) with
    | none => simp only [aOp, slcK, h, h2]
    | some b => cases b <;> simp only [aOp, slcK, h, h2] <;> rfl
  | some a => cases h2 : hi.map fun o => asI (o.ev env) with
    | none => cases a <;> simp only [aOp, slcK, h, h2] <;> rfl
    | some b => cases a <;> cases b <;> simp only [aOp, slcK, h, h2] <;> rfl
@[go_sem] theorem slcK_00 (sz : Nat) (x : AV) : slcK sz x none none = aSlc sz x 0 none := rfl
@[go_sem] theorem slcK_10 (sz : Nat) (x : AV) (l : Int) : slcK sz x (some (some l)) none = aSlc sz x l none := rfl
@[go_sem] theorem slcK_01 (sz : Nat) (x : AV) (l : Int) : slcK sz x none (some (some l)) = aSlc sz x 0 (some l) := rfl
@[go_sem] theorem slcK_11 (sz : Nat) (x : AV) (l h : Int) : slcK sz x (some (some l)) (some (some h)) = aSlc sz x l (some h) := rfl
@[go_sem] theorem asI_i (k : IntKind) (n : Int) : asI (.int k n) = some n := rfl
/-! ### reckoning -/
@[go_sem] theorem b_add (k : IntKind) (a b : Int) : aBin .add (.int k a) (.int k b) = some (.int k (k.wrap (a + b))) := by simp [aBin, binI]
@[go_sem] theorem b_sub (k : IntKind) (a b : Int) : aBin .sub (.int k a) (.int k b) = some (.int k (k.wrap (a - b))) := by simp [aBin, binI]
@[go_sem] theorem b_mul (k : IntKind) (a b : Int) : aBin .mul (.int k a) (.int k b) = some (.int k (k.wrap (a * b))) := by simp [aBin, binI]
@[go_sem] theorem b_eql (k : IntKind) (a b : Int) : aBin .eql (.int k a) (.int k b) = some (.bool (decide (a = b))) := by simp [aBin, binI, Bool.beq_eq_decide_eq]
@[go_sem] theorem b_neq (k : IntKind) (a b : Int) : aBin .neq (.int k a) (.int k b) = some (.bool (!decide (a = b))) := by
  simp only [aBin, binI, if_true]
  by_cases h : a = b <;> simp [h, bne]
@[go_sem] theorem b_lss (k : IntKind) (a b : Int) : aBin .lss (.int k a) (.int k b) = some (.bool (decide (a < b))) := by simp [aBin, binI]
@[go_sem] theorem b_leq (k : IntKind) (a b : Int) : aBin .leq (.int k a) (.int k b) = some (.bool (decide (a ≤ b))) := by simp [aBin, binI]
@[go_sem] theorem b_gtr (k : IntKind) (a b : Int) : aBin .gtr (.int k a) (.int k b) = some (.bool (decide (b < a))) := by simp [aBin, binI]
@[go_sem] theorem b_geq (k : IntKind) (a b : Int) : aBin .geq (.int k a) (.int k b) = some (.bool (decide (b ≤ a))) := by simp [aBin, binI]
@[go_sem] theorem b_not (b : Bool) : aUn .not (.bool b) = some (.bool !b) := rfl
@[go_sem] theorem b_seql (a b : List UInt8) : aBin .eql (.str a) (.str b) = some (.bool (a == b)) := rfl
@[go_sem] theorem b_sneq (a b : List UInt8) : aBin .neq (.str a) (.str b) = some (.bool (!(a == b))) := rfl
/-! ### memory -/
@[go_sem] theorem room_next (n : Nat) : (m.room n).next = m.next + n := rfl
@[go_sem] theorem room_get (n id : Nat) : (m.room n).get id = m.get id := rfl
@[go_sem] theorem put_next (id : Nat) (o : AObj) : (m.put id o).next = m.next := rfl
@[go_sem] theorem kill_next (id : Nat) : (m.kill id).next = m.next := rfl
@[go_sem] theorem put_same (id : Nat) (o : AObj) (h : id < m.next) : (m.put id o).get id = some o := by simp [AMem.put, h]
@[go_sem] theorem put_ne (id j : Nat) (o : AObj) (h : j ≠ id) : (m.put id o).get j = m.get j := by simp [AMem.put, h]
@[go_sem] theorem kill_ne (id j : Nat) (h : j ≠ id) : (m.kill id).get j = m.get j := by simp [AMem.kill, h]
@[go_sem] theorem empty_next : AMem.empty.next = 0 := rfl
end
/-- A load off an object. -/
theorem load_ptr {m : AMem} {id i off t s : Nat} {es : List AV} {e : AV} {agg : Bool} {sz : Nat} (h : m.get id = some (.arr t s es)) (he : es[i]? = some e) : aLoad m agg sz (.ptr id i off) = part agg off sz e.cells := by
  simp only [aLoad, h, he]
@[go_sem] theorem load_tp (m : AMem) (agg : Bool) (sz : Nat) (v : AV) : aLoad m agg sz (.tp v) = if fits agg sz v then some v else none := rfl
@[go_sem] theorem fad_ptr (agg : Bool) (off sz id i o : Nat) : aFad agg off sz (.ptr id i o) = some (.ptr id i (o + off)) := rfl
@[go_sem] theorem fad_tp (agg : Bool) (off sz : Nat) (cs : List AV) : aFad agg off sz (.tp (.agg cs)) = (part agg off sz cs).map .tp := rfl
/-! ### a drawn region -/
def stK (calls : Nat → AF) (base k : Nat) (op : AOp) (want : Bool) (env : AEnv) (m : AMem) : AV → Option AR
  | .bool q => cond (q == want) (aOp calls env m (base + k) op) (some (.val (.tup []) m))
  | .tup [] => some (.val (.tup []) m)
  | _ => none
def sd2 (calls : Nat → AF) (base : Nat) (chk : List (Nat × Nat)) (done : List AOper) (r : List AOper) (env : AEnv) (m : AMem) (K : Kont) : Bool → Res
  | true => aSeqD calls base chk done r env m K
  | false => none
def sdK (calls : Nat → AF) (base : Nat) (chk : List (Nat × Nat)) (done : List AOper) (o : AOper) (r : List AOper) (env : AEnv) (K : Kont) : Option AR → Res
  | some (.val v m') => sd2 calls base chk (o :: done) r (upd env o.dst v) m' K (again calls base chk done o env m')
  | some (.pan v m') => K (.panic v) env m'
  | none => none
/-- The same value in a slot. -/
def sameK (env : AEnv) (dst : Option Nat) : Option AR → Bool
  | some (.val v _) => (match dst with | some d => AV.beq v (env d) | none => true)
  | _ => false
section
variable (calls : Nat → AF) (base : Nat) (chk : List (Nat × Nat)) (env : AEnv) (m : AMem) (K : Kont)
@[go_sem] theorem x_regd (ops : List AOper) : aCode calls (.regd chk ops) env m K = aSeqD calls m.next chk [] ops env (m.room ops.length) K := rfl
@[go_sem] theorem sd_nil (done : List AOper) : aSeqD calls base chk done [] env m K = K .normal env m := rfl
@[go_sem] theorem sd_cons (done r : List AOper) (o : AOper) : aSeqD calls base chk done (o :: r) env m K = sdK calls base chk done o r env K (aStep calls base o env m) := by
  simp only [aSeqD]
  cases h : aStep calls base o env m with
  | none => rfl
  | some x =>
    cases x with
    | val v m' => simp only [sdK, sd2]; cases again calls base chk done o env m' <;> rfl
    | pan v m' => rfl
@[go_sem] theorem st_none (k : Nat) (dst : Option Nat) (op : AOp) : aStep calls base ⟨k, dst, none, op⟩ env m = aOp calls env m (base + k) op := rfl
@[go_sem] theorem st_some (k d : Nat) (want : Bool) (dst : Option Nat) (op : AOp) : aStep calls base ⟨k, dst, some (some d, want), op⟩ env m = stK calls base k op want env m (env d) := by
  cases h : env d with
  | tup l => cases l <;> simp only [aStep, stK, h]
  | _ => simp only [aStep, stK, h]
@[go_sem] theorem st_tt (k : Nat) (op : AOp) : stK calls base k op true env m (.bool true) = aOp calls env m (base + k) op := rfl
@[go_sem] theorem st_ff (k : Nat) (op : AOp) : stK calls base k op false env m (.bool false) = aOp calls env m (base + k) op := rfl
@[go_sem] theorem st_tf (k : Nat) (op : AOp) : stK calls base k op true env m (.bool false) = some (.val (.tup []) m) := rfl
@[go_sem] theorem st_ft (k : Nat) (op : AOp) : stK calls base k op false env m (.bool true) = some (.val (.tup []) m) := rfl
@[go_sem] theorem st_n (k : Nat) (op : AOp) (want : Bool) : stK calls base k op want env m (.tup []) = some (.val (.tup []) m) := rfl
@[go_sem] theorem sdK_v (done r : List AOper) (o : AOper) (v : AV) : sdK calls base chk done o r env K (some (.val v m)) = sd2 calls base chk (o :: done) r (upd env o.dst v) m K (again calls base chk done o env m) := rfl
@[go_sem] theorem sdK_p (done r : List AOper) (o : AOper) (v : AV) : sdK calls base chk done o r env K (some (.pan v m)) = K (.panic v) env m := rfl
@[go_sem] theorem sd2_t (done r : List AOper) : sd2 calls base chk done r env m K true = aSeqD calls base chk done r env m K := rfl
@[go_sem] theorem again_nil (o : AOper) : again calls base chk [] o env m = true := rfl
@[go_sem] theorem again_cons (done : List AOper) (x o : AOper) : again calls base chk (x :: done) o env m = ((!chk.contains (x.k, o.k) || sameK env x.dst (aStep calls base x env m)) && again calls base chk done o env m) := by
  unfold again
  rw [List.all_cons]
  congr 2
@[go_sem] theorem again_chk0 (done : List AOper) (o : AOper) : again calls base [] done o env m = true := by
  unfold again
  simp
@[go_sem] theorem contains_nil2 (x : Nat × Nat) : List.contains [] x = false := rfl
@[go_sem] theorem contains_cons2 (a b c d : Nat) (l : List (Nat × Nat)) : List.contains ((a, b) :: l) (c, d) = ((c == a && d == b) || List.contains l (c, d)) := by
  rw [List.contains_cons]; rfl
@[go_sem] theorem same_s (d : Nat) (v : AV) : sameK env (some d) (some (.val v m)) = AV.beq v (env d) := rfl
@[go_sem] theorem same_n (v : AV) : sameK env none (some (.val v m)) = true := rfl
end
@[go_sem] theorem beq_int (k : IntKind) (n : Int) : AV.beq (.int k n) (.int k n) = true := by simp [AV.beq]
@[go_sem] theorem beq_bool (b : Bool) : AV.beq (.bool b) (.bool b) = true := by simp [AV.beq]
@[go_sem] theorem beq_str (b : List UInt8) : AV.beq (.str b) (.str b) = true := by simp [AV.beq]
@[go_sem] theorem beq_ptr (a b c : Nat) : AV.beq (.ptr a b c) (.ptr a b c) = true := by simp [AV.beq]
@[go_sem] theorem beq_sl (a b c d : Nat) : AV.beq (.sl a b c d) (.sl a b c d) = true := by simp [AV.beq]
@[go_sem] theorem beq_tup0 : AV.beq (.tup []) (.tup []) = true := by simp [AV.beq, AV.beqL]
/-! ### the end -/
@[go_sem] theorem fin_n (res : List ARes) (env : AEnv) (m : AMem) : fin res .normal env m = (aResL env m res).map fun vs => (.ret (retV vs), m) := rfl
@[go_sem] theorem fin_r (res : List ARes) (env : AEnv) (m : AMem) : fin res .ret env m = (aResL env m res).map fun vs => (.ret (retV vs), m) := rfl
@[go_sem] theorem fin_p (res : List ARes) (env : AEnv) (m : AMem) (v : AV) : fin res (.panic v) env m = some (.pan v, m) := rfl
@[go_sem] theorem resL_nil (env : AEnv) (m : AMem) : aResL env m [] = some [] := rfl
@[go_sem] theorem resL_slot (env : AEnv) (m : AMem) (t : Nat) (l : List ARes) : aResL env m (.slot t :: l) = (aResL env m l).map (env t :: ·) := rfl
@[go_sem] theorem resL_cell (env : AEnv) (m : AMem) (t : Nat) (agg : Bool) (sz : Nat) (l : List ARes) : aResL env m (.cell t agg sz :: l) = (aLoad m agg sz (env t)).bind fun v => (aResL env m l).map (v :: ·) := rfl
@[go_sem] theorem retV_1 (v : AV) : retV [v] = v := rfl
@[go_sem] theorem retV_0 : retV [] = .tup [] := rfl
@[go_sem] theorem retV_2 (a b : AV) (l : List AV) : retV (a :: b :: l) = .tup (a :: b :: l) := rfl
/-! ### what a run comes to -/
def Wp (r : Res) (Q : AOut → AMem → Prop) : Prop := ∃ o m', r = some (o, m') ∧ Q o m'
@[go_sem] theorem wp_some (o : AOut) (m : AMem) (Q : AOut → AMem → Prop) : Wp (some (o, m)) Q ↔ Q o m :=
  ⟨fun ⟨_, _, h, hq⟩ => by cases h; exact hq, fun h => ⟨_, _, rfl, h⟩⟩
theorem g_split {calls : Nat → AF} {base k d : Nat} {want q : Bool} {dst : Option Nat} {op : AOp} {r : List AOper} {env : AEnv} {m : AMem} {K : Kont} {Q : AOut → AMem → Prop}
    (ht : q = true → Wp (gK calls base k d want dst op r env m K (.bool true)) Q) (hf : q = false → Wp (gK calls base k d want dst op r env m K (.bool false)) Q) : Wp (gK calls base k d want dst op r env m K (.bool q)) Q := by
  cases q
  · exact hf rfl
  · exact ht rfl
theorem c_split {calls : Nat → AF} {q : Bool} {a b : ACode} {env : AEnv} {m : AMem} {K : Kont} {Q : AOut → AMem → Prop}
    (ht : q = true → Wp (aCode calls a env m K) Q) (hf : q = false → Wp (aCode calls b env m K) Q) : Wp (cK calls a b env m K (.bool q)) Q := by
  cases q
  · exact hf rfl
  · exact ht rfl
section
variable {calls : Nat → AF} {base k d : Nat} {want : Bool} {dst : Option Nat} {op : AOp} {r : List AOper} {env : AEnv} {m : AMem} {K : Kont} {Q : AOut → AMem → Prop} {p : Prop} [Decidable p] {q : Bool} {a b : ACode}
theorem g_dec (ht : p → decide p = true → Wp (gK calls base k d want dst op r env m K (.bool true)) Q) (hf : ¬ p → decide p = false → Wp (gK calls base k d want dst op r env m K (.bool false)) Q) :
    Wp (gK calls base k d want dst op r env m K (.bool (decide p))) Q :=
  g_split (fun h => ht (of_decide_eq_true h) h) (fun h => hf (of_decide_eq_false h) h)
theorem g_ndec (ht : ¬ p → decide p = false → Wp (gK calls base k d want dst op r env m K (.bool true)) Q) (hf : p → decide p = true → Wp (gK calls base k d want dst op r env m K (.bool false)) Q) :
    Wp (gK calls base k d want dst op r env m K (.bool (!decide p))) Q :=
  g_split (fun h => by have h : decide p = false := by simpa using h
                       exact ht (of_decide_eq_false h) h) (fun h => by have h : decide p = true := by simpa using h
                                                                       exact hf (of_decide_eq_true h) h)
theorem g_bool (ht : q = true → q = true → Wp (gK calls base k d want dst op r env m K (.bool true)) Q) (hf : q = false → q = false → Wp (gK calls base k d want dst op r env m K (.bool false)) Q) :
    Wp (gK calls base k d want dst op r env m K (.bool q)) Q := g_split (fun h => ht h h) (fun h => hf h h)
theorem g_nbool (ht : q = false → q = false → Wp (gK calls base k d want dst op r env m K (.bool true)) Q) (hf : q = true → q = true → Wp (gK calls base k d want dst op r env m K (.bool false)) Q) :
    Wp (gK calls base k d want dst op r env m K (.bool (!q))) Q := by
  cases q
  · exact ht rfl rfl
  · exact hf rfl rfl
theorem s_bool {chk : List (Nat × Nat)} {done : List AOper} {o : AOper} (ht : q = true → q = true → Wp (sdK calls base chk done o r env K (stK calls base k op want env m (.bool true))) Q) (hf : q = false → q = false → Wp (sdK calls base chk done o r env K (stK calls base k op want env m (.bool false))) Q) :
    Wp (sdK calls base chk done o r env K (stK calls base k op want env m (.bool q))) Q := by
  cases q
  · exact hf rfl rfl
  · exact ht rfl rfl
theorem s_dec {chk : List (Nat × Nat)} {done : List AOper} {o : AOper} (ht : p → decide p = true → Wp (sdK calls base chk done o r env K (stK calls base k op want env m (.bool true))) Q) (hf : ¬ p → decide p = false → Wp (sdK calls base chk done o r env K (stK calls base k op want env m (.bool false))) Q) :
    Wp (sdK calls base chk done o r env K (stK calls base k op want env m (.bool (decide p)))) Q :=
  s_bool (fun h _ => ht (of_decide_eq_true h) h) (fun h _ => hf (of_decide_eq_false h) h)
theorem c_dec (ht : p → decide p = true → Wp (aCode calls a env m K) Q) (hf : ¬ p → decide p = false → Wp (aCode calls b env m K) Q) : Wp (cK calls a b env m K (.bool (decide p))) Q :=
  c_split (fun h => ht (of_decide_eq_true h) h) (fun h => hf (of_decide_eq_false h) h)
theorem c_ndec (ht : ¬ p → decide p = false → Wp (aCode calls a env m K) Q) (hf : p → decide p = true → Wp (aCode calls b env m K) Q) : Wp (cK calls a b env m K (.bool (!decide p))) Q := by
  by_cases h : p
  · rw [decide_eq_true h]; exact hf h (decide_eq_true h)
  · rw [decide_eq_false h]; exact ht h (decide_eq_false h)
theorem c_bool (ht : q = true → q = true → Wp (aCode calls a env m K) Q) (hf : q = false → q = false → Wp (aCode calls b env m K) Q) : Wp (cK calls a b env m K (.bool q)) Q :=
  c_split (fun h => ht h h) (fun h => hf h h)
theorem c_nbool (ht : q = false → q = false → Wp (aCode calls a env m K) Q) (hf : q = true → q = true → Wp (aCode calls b env m K) Q) : Wp (cK calls a b env m K (.bool (!q))) Q := by
  cases q
  · exact ht rfl rfl
  · exact hf rfl rfl
end
/-- A loop. -/
theorem wp_loop {σ : Type} {body : AEnv → AMem → Kont → Res} {K : Kont} {Q : AOut → AMem → Prop} (I : σ → AEnv → AMem → Prop) (μ : σ → Nat)
    (h : ∀ s env m K', I s env m → (∀ s' env' m', I s' env' m' → μ s' < μ s → Wp (K' .normal env' m') Q) → (∀ env' m', (∀ i, Wp (K (.exit i) env' m') Q → Wp (K' (.exit i) env' m') Q) ∧ (Wp (K .ret env' m') Q → Wp (K' .ret env' m') Q) ∧ ∀ v, Wp (K (.panic v) env' m') Q → Wp (K' (.panic v) env' m') Q) → Wp (body env m K') Q) :
    ∀ (n : Nat) (s : σ) (env : AEnv) (m : AMem), I s env m → μ s < n → Wp (loopN n body env m K) Q
  | 0, _, _, _, _, hn => absurd hn (Nat.not_lt_zero _)
  | n + 1, s, env, m, hI, hn => by
    unfold loopN
    refine h s env m _ hI (fun s' env' m' hI' hm => ?_) (fun env' m' => ⟨fun i hw => hw, fun hw => hw, fun v hw => hw⟩)
    exact wp_loop I μ h n s' env' m' hI' (by omega)
theorem LOOPK_eq : LOOPK = 1152921504606846976 := rfl
/-- What is answered, read back. -/
def RetIs (m : AMem) (v : AV) : AOut → Prop
  | .ret u => rb m RBN u = some v
  | .pan _ => False
@[go_sem] theorem retIs_r (m : AMem) (v u : AV) : RetIs m v (.ret u) ↔ rb m RBN u = some v := Iff.rfl
/-- A pure function's run. -/
theorem borrow_wp {F : AF} {args targs : List AV} {m : AMem} {v : AV} (h1 : rbL (rb m RBN) args = some targs) (h2 : Wp (F targs .empty) fun o m' => RetIs m' v o) (h4 : flatV RBN v = true) :
    borrow F args m = some (.ret v, m) := by
  obtain ⟨o, m', hF, hu⟩ := h2
  cases o with
  | pan _ => exact hu.elim
  | ret u =>
    have hu : rb m' RBN u = some v := hu
    simp only [borrow, h1, hF, rbN_flat _ _ _ hu h4]
/-- What it answers may be what it has made. -/
theorem lend_wp {F : AF} {args targs : List AV} {m : AMem} {v : AV} (h1 : rbL (rb m RBN) args = some targs) (h2 : Wp (F targs .empty) fun o m' => ∃ u, o = .ret u ∧ rbN m' RBN u = some v) : borrow F args m = some (.ret v, m) := by
  obtain ⟨o, m', hF, u, rfl, hu⟩ := h2
  simp only [borrow, h1, hF, hu]
theorem lend_run {F : AF} {args targs : List AV} {m m' : AMem} {u v : AV} (h1 : rbL (rb m RBN) args = some targs) (h2 : F targs .empty = some (.ret u, m')) (h3 : rbN m' RBN u = some v) : borrow F args m = some (.ret v, m) := by
  simp only [borrow, h1, h2, h3]
@[go_sem] theorem wrap_i64 (n : Int) (h1 : -9223372036854775808 ≤ n) (h2 : n ≤ 9223372036854775807) : IntKind.wrap .i64 n = n := by
  unfold IntKind.wrap
  simp only [IntKind.bits, IntKind.signed, Bool.true_and, decide_eq_true_eq, show (2 : Int) ^ 64 = 18446744073709551616 from rfl, show (2 : Int) ^ (64 - 1) = 9223372036854775808 from rfl]
  split <;> omega
/-! ### long tactics, once -/
theorem B1 (a b : Bool) : ((a || b) = true) = (a = true ∨ b = true) := by cases a <;> cases b <;> simp
theorem B2 (a b : Bool) : ((a && b) = true) = (a = true ∧ b = true) := by cases a <;> cases b <;> simp
theorem B3 (a b : Bool) : ((a || b) = false) = (a = false ∧ b = false) := by cases a <;> cases b <;> simp
theorem B4 (a b : Bool) : ((a && b) = false) = (a = false ∨ b = false) := by cases a <;> cases b <;> simp
theorem B5 (p : Prop) [Decidable p] : (decide p = true) = p := by simp
theorem B6 (p : Prop) [Decidable p] : (decide p = false) = ¬ p := by simp
theorem B7 (b : Bool) : ((!b) = true) = (b = false) := by cases b <;> simp
theorem B8 (b : Bool) : ((!b) = false) = (b = true) := by cases b <;> simp
theorem soD {p : Prop} (h : p := by first | omega | (simp only [go_sem, List.length_append, Nat.zero_add, Nat.reduceAdd, Nat.reduceLT] <;> omega) | fail) : p := h
theorem soE {p : Prop} (h : p := by first | omega | (simp only [room_next, put_next, kill_next, empty_next, List.length_map, List.length_cons, List.length_nil, List.length_append, Nat.zero_add, Nat.reduceAdd, Nat.reduceLT] <;> omega) | fail) : p := h
theorem sxA {p : Prop} (h : p := by simp -implicitDefEqProofs (disch := first | exact soD | fail) only [go_sem, ↓reduceIte, Nat.reduceEqDiff, Nat.reduceAdd, Nat.reduceLT, Nat.reduceLeDiff, Nat.reduceBEq, reduceCtorEq]) : p := h
theorem sxR {p : Prop} (h : p := by (simp -implicitDefEqProofs (disch := first | exact soD | fail) only [go_sem, ↓reduceIte, Nat.reduceEqDiff, Nat.reduceAdd, Nat.reduceLT, Nat.reduceLeDiff, Nat.reduceBEq, reduceCtorEq] <;> rfl)) : p := h
theorem soA {p : Prop} (h : p := by (first | omega | (simp -implicitDefEqProofs (disch := first | exact soD | fail) only [go_sem, ↓reduceIte, Nat.reduceEqDiff, Nat.reduceAdd, Nat.reduceLT, Nat.reduceLeDiff, Nat.reduceBEq, reduceCtorEq] <;> omega))) : p := h
end Go.Proofs.YtiijjopdhjpalaaDoor

/-! Values of the program's package api as trees, and how the evaluator reads them. Conditions: none. -/
namespace Go.Proofs.YtiijjopdhjpalaaDoor
open Go
set_option linter.unusedVariables false
set_option linter.unusedSimpArgs false
/-- A slice in its one form: nothing is .ts 0 []. -/
def tsl (sz : Nat) (es : List AV) : AV := match es with
  | [] => .ts 0 []
  | e :: r => .ts sz (e :: r)
@[reducible] def avI (z : Int) : AV := .int .i64 z
structure GI where
  op : Int
  a : Int
  b : Int
  deriving Inhabited, DecidableEq
structure GF where
  params : List Int
  result : Int
  locals : Int
  code : List GI
  deriving Inhabited, DecidableEq
structure GT where
  kind : Int
  parts : List Int
  of : Int
  deriving Inhabited, DecidableEq
structure GP where
  types : List GT
  funcs : List GF
  deriving Inhabited, DecidableEq
@[reducible] def GI.av (i : GI) : AV := .agg [avI i.op, avI i.a, avI i.b]
@[reducible] def GF.av (f : GF) : AV := .agg [tsl 1 (f.params.map avI), avI f.result, avI f.locals, tsl 3 (f.code.map GI.av)]
@[reducible] def GT.av (t : GT) : AV := .agg [avI t.kind, tsl 1 (t.parts.map avI), avI t.of]
@[reducible] def GP.av (p : GP) : AV := .agg [tsl 3 (p.types.map GT.av), tsl 4 (p.funcs.map GF.av)]
/-- The element at a place. -/
def nth {α : Type} [Inhabited α] (l : List α) (i : Int) : α := l.getD i.toNat default
theorem nth_nat {α : Type} [Inhabited α] (l : List α) (i : Nat) : nth l i = l.getD i default := rfl
theorem nth_get? {α : Type} [Inhabited α] (l : List α) (i : Int) (h0 : 0 ≤ i) (h1 : i < l.length) : l[i.toNat]? = some (nth l i) := by
  unfold nth
  have : i.toNat < l.length := by omega
  rw [List.getD_eq_getElem?_getD, List.getElem?_eq_getElem this]
  rfl
theorem nth_mem {α : Type} [Inhabited α] (l : List α) (i : Int) (h0 : 0 ≤ i) (h1 : i < l.length) : nth l i ∈ l := List.mem_of_getElem? (nth_get? l i h0 h1)
section
variable (m : AMem)
theorem tsl_or (sz : Nat) (es : List AV) : (es = [] ∧ tsl sz es = .ts 0 []) ∨ (es ≠ [] ∧ tsl sz es = .ts sz es) := by
  cases es with
  | nil => exact .inl ⟨rfl, rfl⟩
  | cons e r => exact .inr ⟨by simp, rfl⟩
@[go_sem] theorem lenK_tsl (sz : Nat) (es : List AV) : lenK (tsl sz es) = some (.int .i64 es.length) := by
  rcases tsl_or sz es with ⟨rfl, h⟩ | ⟨_, h⟩ <;> rw [h] <;> rfl
@[go_sem] theorem y_lenA_tsl (sz : Nat) (es : List AV) : lenA (tsl sz es) = some es.length := by
  rcases tsl_or sz es with ⟨rfl, h⟩ | ⟨_, h⟩ <;> rw [h] <;> rfl
@[go_sem] theorem y_one_tsl (sz : Nat) (es : List AV) : (tsl sz es).one = true := by
  rcases tsl_or sz es with ⟨rfl, h⟩ | ⟨_, h⟩ <;> rw [h] <;> rfl
@[go_sem] theorem y_isAgg_tsl (sz : Nat) (es : List AV) : (tsl sz es).isAgg = false := by
  rcases tsl_or sz es with ⟨rfl, h⟩ | ⟨_, h⟩ <;> rw [h] <;> rfl
@[go_sem] theorem y_cells_tsl (sz : Nat) (es : List AV) : (tsl sz es).cells = [tsl sz es] := by
  rcases tsl_or sz es with ⟨rfl, h⟩ | ⟨_, h⟩ <;> rw [h] <;> rfl
@[go_sem] theorem yrb_tsl (n sz : Nat) (es : List AV) : rb m (n + 1) (tsl sz es) = some (tsl sz es) := by
  rcases tsl_or sz es with ⟨rfl, h⟩ | ⟨_, h⟩ <;> rw [h] <;> rfl
@[go_sem] theorem y_fits_tsl (sz : Nat) (es : List AV) : fits false 1 (tsl sz es) = true := by
  rcases tsl_or sz es with ⟨rfl, h⟩ | ⟨_, h⟩ <;> rw [h] <;> rfl
@[go_sem] theorem y_elems_tsl (sz : Nat) (es : List AV) : elems m sz (tsl sz es) = some es := by
  rcases tsl_or sz es with ⟨rfl, h⟩ | ⟨_, h⟩
  · rw [h]; simp [elems]
  · rw [h]; simp [elems]
@[go_sem] theorem iad_tsl {α : Type} [Inhabited α] (sz : Nat) (l : List α) (f : α → AV) (i : Int) (h0 : 0 ≤ i) (h1 : i < l.length) : aIad sz (tsl sz (l.map f)) i = some (.tp (f (nth l i))) := by
  have hne : l.map f ≠ [] := by
    intro h
    have : l.length = 0 := by simpa using congrArg List.length h
    omega
  rcases tsl_or sz (l.map f) with ⟨h, _⟩ | ⟨_, h⟩
  · exact absurd h hne
  · rw [h]
    simp only [aIad, if_true, inRange, List.length_map, decide_eq_true h0, decide_eq_true h1, Bool.true_and, cond_true, List.getElem?_map, nth_get? l i h0 h1, Option.map_some]
@[go_sem] theorem iad_ts {α : Type} [Inhabited α] (sz : Nat) (l : List α) (f : α → AV) (i : Int) (h0 : 0 ≤ i) (h1 : i < l.length) : aIad sz (.ts sz (l.map f)) i = some (.tp (f (nth l i))) := by
  simp only [aIad, if_true, inRange, List.length_map, decide_eq_true h0, decide_eq_true h1, Bool.true_and, cond_true, List.getElem?_map, nth_get? l i h0 h1, Option.map_some]
@[go_sem] theorem iad_sl (sz id j n : Nat) (i : Int) (h0 : 0 ≤ i) (h1 : i < n) : aIad sz (.sl sz id j n) i = some (.ptr id (j + i.toNat) 0) := by
  simp only [aIad, if_true, inRange, decide_eq_true h0, decide_eq_true h1, Bool.true_and, cond_true]
def loadK (agg : Bool) (sz i off : Nat) : Option AObj → Option AV
  | some (.arr _ _ es) => (es[i]?).bind fun e => part agg off sz e.cells
  | _ => none
@[go_sem] theorem y_load_id (agg : Bool) (sz id i off : Nat) : aLoad m agg sz (.ptr id i off) = loadK agg sz i off (m.get id) := by
  simp only [aLoad]
  cases h : m.get id with
  | none => rfl
  | some o =>
    cases o with
    | arr t s es => cases h2 : es[i]? <;> simp only [loadK, h2] <;> rfl
    | map es => rfl
@[go_sem] theorem loadK_s (agg : Bool) (sz i off t s : Nat) (es : List AV) : loadK agg sz i off (some (.arr t s es)) = (es[i]?).bind fun e => part agg off sz e.cells := rfl
def storeK (id : Nat) (agg : Bool) (sz i off : Nat) (v : AV) : Option AObj → Option AMem
  | some (.arr t s es) => (es[i]?).bind fun e => if (fits agg sz v && decide (off + sz ≤ e.cells.length) && decide (off + sz ≤ s)) = true then some (m.put id (.arr t s (es.set i (splice e off v.cells)))) else none
  | _ => none
@[go_sem] theorem y_store_id (agg : Bool) (sz id i off : Nat) (v : AV) : aStore m agg sz (.ptr id i off) v = storeK m id agg sz i off v (m.get id) := by
  simp only [aStore]
  cases h : m.get id with
  | none => rfl
  | some o =>
    cases o with
    | arr t s es => cases h2 : es[i]? <;> simp only [storeK, h2] <;> rfl
    | map es => rfl
@[go_sem] theorem storeK_s (agg : Bool) (sz id i off t s : Nat) (v : AV) (es : List AV) : storeK m id agg sz i off v (some (.arr t s es)) =
    (es[i]?).bind fun e => if (fits agg sz v && decide (off + sz ≤ e.cells.length) && decide (off + sz ≤ s)) = true then some (m.put id (.arr t s (es.set i (splice e off v.cells)))) else none := rfl
@[go_sem] theorem y_cells_agg (cs : List AV) : (AV.agg cs).cells = cs := rfl
@[go_sem] theorem y_cells_int (k : IntKind) (z : Int) : (AV.int k z).cells = [.int k z] := rfl
@[go_sem] theorem y_cells_bool (b : Bool) : (AV.bool b).cells = [.bool b] := rfl
@[go_sem] theorem y_cells_str (b : List UInt8) : (AV.str b).cells = [.str b] := rfl
@[go_sem] theorem y_cells_ptr (a b c : Nat) : (AV.ptr a b c).cells = [.ptr a b c] := rfl
@[go_sem] theorem y_cells_tp (v : AV) : (AV.tp v).cells = [.tp v] := rfl
@[go_sem] theorem y_cells_sl (a b c d : Nat) : (AV.sl a b c d).cells = [.sl a b c d] := rfl
@[go_sem] theorem y_cells_nils : AV.nils.cells = [.nils] := rfl
@[go_sem] theorem y_cells_nilp : AV.nilp.cells = [.nilp] := rfl
@[go_sem] theorem y_cells_nili : AV.nili.cells = [.nili] := rfl
@[go_sem] theorem y_cells_ifc (t : Nat) (v : AV) : (AV.ifc t v).cells = [.ifc t v] := rfl
@[go_sem] theorem y_isAgg_agg (cs : List AV) : (AV.agg cs).isAgg = true := rfl
@[go_sem] theorem y_isAgg_int (k : IntKind) (z : Int) : (AV.int k z).isAgg = false := rfl
@[go_sem] theorem y_isAgg_bool (b : Bool) : (AV.bool b).isAgg = false := rfl
@[go_sem] theorem y_isAgg_str (b : List UInt8) : (AV.str b).isAgg = false := rfl
@[go_sem] theorem y_isAgg_ptr (a b c : Nat) : (AV.ptr a b c).isAgg = false := rfl
@[go_sem] theorem y_isAgg_tp (v : AV) : (AV.tp v).isAgg = false := rfl
@[go_sem] theorem y_isAgg_sl (a b c d : Nat) : (AV.sl a b c d).isAgg = false := rfl
@[go_sem] theorem y_isAgg_nils : AV.nils.isAgg = false := rfl
@[go_sem] theorem y_isAgg_nilp : AV.nilp.isAgg = false := rfl
@[go_sem] theorem y_isAgg_nili : AV.nili.isAgg = false := rfl
@[go_sem] theorem y_isAgg_ifc (t : Nat) (v : AV) : (AV.ifc t v).isAgg = false := rfl
@[go_sem] theorem y_one_int (k : IntKind) (z : Int) : (AV.int k z).one = true := rfl
@[go_sem] theorem y_one_bool (b : Bool) : (AV.bool b).one = true := rfl
@[go_sem] theorem y_one_str (b : List UInt8) : (AV.str b).one = true := rfl
@[go_sem] theorem y_one_ptr (a b c : Nat) : (AV.ptr a b c).one = true := rfl
@[go_sem] theorem y_one_tp (v : AV) : (AV.tp v).one = true := rfl
@[go_sem] theorem y_one_sl (a b c d : Nat) : (AV.sl a b c d).one = true := rfl
@[go_sem] theorem y_one_nils : AV.nils.one = true := rfl
@[go_sem] theorem y_one_nilp : AV.nilp.one = true := rfl
@[go_sem] theorem y_one_nili : AV.nili.one = true := rfl
@[go_sem] theorem y_one_ifc (t : Nat) (v : AV) : (AV.ifc t v).one = true := rfl
@[go_sem] theorem y_fits_agg (b : Bool) (sz : Nat) (cs : List AV) : fits b sz (.agg cs) = (b && cs.length == sz && cs.all AV.one) := rfl
@[go_sem] theorem y_fits_int (k : IntKind) (z : Int) : fits false 1 (.int k z) = true := rfl
@[go_sem] theorem y_fits_bool (b : Bool) : fits false 1 (.bool b) = true := rfl
@[go_sem] theorem y_fits_str (b : List UInt8) : fits false 1 (.str b) = true := rfl
@[go_sem] theorem y_fits_ptr (a b c : Nat) : fits false 1 (.ptr a b c) = true := rfl
@[go_sem] theorem y_fits_tp (v : AV) : fits false 1 (.tp v) = true := rfl
@[go_sem] theorem y_fits_sl (a b c d : Nat) : fits false 1 (.sl a b c d) = true := rfl
@[go_sem] theorem y_fits_nils : fits false 1 .nils = true := rfl
@[go_sem] theorem y_fits_nilp : fits false 1 .nilp = true := rfl
@[go_sem] theorem y_fits_nili : fits false 1 .nili = true := rfl
@[go_sem] theorem y_fits_ifc (t : Nat) (v : AV) : fits false 1 (.ifc t v) = true := rfl
@[go_sem] theorem y_splice_agg (cs vs : List AV) (off : Nat) : splice (.agg cs) off vs = .agg (cs.take off ++ vs ++ cs.drop (off + vs.length)) := rfl
@[go_sem] theorem y_splice_int (k : IntKind) (z : Int) (v : AV) (off : Nat) : splice (.int k z) off [v] = v := rfl
@[go_sem] theorem y_part_f (off : Nat) (cs : List AV) : part false off 1 cs = (cs[off]?).bind fun v => if v.isAgg = true then none else some v := by
  simp only [part]
  cases h : cs[off]? <;> rfl
@[go_sem] theorem y_part_t (off sz : Nat) (cs : List AV) : part true off sz cs = if off + sz ≤ cs.length then some (.agg ((cs.drop off).take sz)) else none := rfl
@[go_sem] theorem yrb_int (n : Nat) (k : IntKind) (z : Int) : rb m (n + 1) (.int k z) = some (.int k z) := rfl
@[go_sem] theorem yrb_bool (n : Nat) (b : Bool) : rb m (n + 1) (.bool b) = some (.bool b) := rfl
@[go_sem] theorem yrb_str (n : Nat) (b : List UInt8) : rb m (n + 1) (.str b) = some (.str b) := rfl
@[go_sem] theorem yrb_tp (n : Nat) (v : AV) : rb m (n + 1) (.tp v) = some (.tp v) := rfl
@[go_sem] theorem yrb_ts (n s : Nat) (es : List AV) : rb m (n + 1) (.ts s es) = some (.ts s es) := rfl
@[go_sem] theorem yrb_nils (n : Nat) : rb m (n + 1) .nils = some (.ts 0 []) := rfl
@[go_sem] theorem yrb_nili (n : Nat) : rb m (n + 1) .nili = some .nili := rfl
@[go_sem] theorem yrb_nilp (n : Nat) : rb m (n + 1) .nilp = some .nilp := rfl
@[go_sem] theorem yrb_agg (n : Nat) (cs : List AV) : rb m (n + 1) (.agg cs) = (rbL (rb m n) cs).map .agg := rfl
@[go_sem] theorem yrb_tup (n : Nat) (cs : List AV) : rb m (n + 1) (.tup cs) = (rbL (rb m n) cs).map .tup := rfl
@[go_sem] theorem yrb_ifc (n t : Nat) (v : AV) : rb m (n + 1) (.ifc t v) = (rb m n v).map (.ifc t) := rfl
def rslK (m : AMem) (n i k : Nat) : Option AObj → Option AV
  | some (.arr _ s es) => if i + k ≤ es.length then (rbL (rb m n) ((es.drop i).take k)).map (.ts s) else none
  | _ => none
@[go_sem] theorem yrb_sl0 (n z id i : Nat) : rb m (n + 1) (.sl z id i 0) = some (.ts 0 []) := rfl
@[go_sem] theorem yrb_sl (n z id i k : Nat) (h : 0 < k) : rb m (n + 1) (.sl z id i k) = rslK m n i k (m.get id) := by
  show (if k = 0 then _ else _) = _
  rw [if_neg (by omega)]
  cases m.get id with
  | none => rfl
  | some o => cases o <;> rfl
@[go_sem] theorem rslK_s (n i k t s : Nat) (es : List AV) (h : i + k ≤ es.length) : rslK m n i k (some (.arr t s es)) = (rbL (rb m n) ((es.drop i).take k)).map (.ts s) := if_pos h
def rptK (m : AMem) (n i : Nat) : Option AObj → Option AV
  | some (.arr _ _ es) => (es[i]?).bind fun e => (rb m n e).map .tp
  | _ => none
@[go_sem] theorem yrb_ptr (n id i : Nat) : rb m (n + 1) (.ptr id i 0) = rptK m n i (m.get id) := by
  simp only [rb, if_true, rptK]
  cases m.get id with
  | none => rfl
  | some o =>
    cases o with
    | arr t s es => cases h : es[i]? <;> simp only [h] <;> rfl
    | map es => rfl
@[go_sem] theorem rptK_s (n i t s : Nat) (es : List AV) : rptK m n i (some (.arr t s es)) = (es[i]?).bind fun e => (rb m n e).map .tp := rfl
/-! What a call has made, read back. -/
@[go_sem] theorem ynb_int (n : Nat) (k : IntKind) (z : Int) : rbN m (n + 1) (.int k z) = some (.int k z) := rfl
@[go_sem] theorem ynb_bool (n : Nat) (b : Bool) : rbN m (n + 1) (.bool b) = some (.bool b) := rfl
@[go_sem] theorem ynb_str (n : Nat) (b : List UInt8) : rbN m (n + 1) (.str b) = some (.str b) := rfl
@[go_sem] theorem ynb_ts0 (n s : Nat) : rbN m (n + 1) (.ts s []) = some (.ts s []) := rfl
@[go_sem] theorem ynb_nils (n : Nat) : rbN m (n + 1) .nils = some (.ts 0 []) := rfl
@[go_sem] theorem ynb_nili (n : Nat) : rbN m (n + 1) .nili = some .nili := rfl
@[go_sem] theorem ynb_nilp (n : Nat) : rbN m (n + 1) .nilp = some .nilp := rfl
@[go_sem] theorem ynb_agg (n : Nat) (cs : List AV) : rbN m (n + 1) (.agg cs) = (rbL (rbN m n) cs).map .agg := rfl
@[go_sem] theorem ynb_tup (n : Nat) (cs : List AV) : rbN m (n + 1) (.tup cs) = (rbL (rbN m n) cs).map .tup := rfl
@[go_sem] theorem ynb_ifc (n t : Nat) (v : AV) : rbN m (n + 1) (.ifc t v) = (rbN m n v).map (.ifc t) := rfl
def nslK (m : AMem) (n i k : Nat) : Option AObj → Option AV
  | some (.arr _ s es) => if i + k ≤ es.length then (rbL (rbN m n) ((es.drop i).take k)).map (.ts s) else none
  | _ => none
@[go_sem] theorem ynb_sl0 (n z id i : Nat) : rbN m (n + 1) (.sl z id i 0) = some (.ts 0 []) := rfl
@[go_sem] theorem ynb_sl (n z id i k : Nat) (h : 0 < k) : rbN m (n + 1) (.sl z id i k) = nslK m n i k (m.get id) := by
  show (if k = 0 then _ else _) = _
  rw [if_neg (by omega)]
  cases m.get id with
  | none => rfl
  | some o => cases o <;> rfl
@[go_sem] theorem nslK_s (n i k t s : Nat) (es : List AV) (h : i + k ≤ es.length) : nslK m n i k (some (.arr t s es)) = (rbL (rbN m n) ((es.drop i).take k)).map (.ts s) := if_pos h
def nptK (m : AMem) (n i : Nat) : Option AObj → Option AV
  | some (.arr _ _ es) => (es[i]?).bind fun e => (rbN m n e).map .tp
  | _ => none
@[go_sem] theorem ynb_ptr (n id i : Nat) : rbN m (n + 1) (.ptr id i 0) = nptK m n i (m.get id) := by
  simp only [rbN, if_true, nptK]
  cases m.get id with
  | none => rfl
  | some o =>
    cases o with
    | arr t s es => cases h : es[i]? <;> simp only [h] <;> rfl
    | map es => rfl
@[go_sem] theorem nptK_s (n i t s : Nat) (es : List AV) : nptK m n i (some (.arr t s es)) = (es[i]?).bind fun e => (rbN m n e).map .tp := rfl
/-- A pure function, of what was read back. -/
def onTrees (F : AF) (m : AMem) : Option (List AV) → Res
  | some t => F t m
  | none => none
@[go_sem] theorem yrbL_nil (f : AV → Option AV) : rbL f [] = some [] := rfl
@[go_sem] theorem yrbL_cons (f : AV → Option AV) (v : AV) (l : List AV) : rbL f (v :: l) = (f v).bind fun w => (rbL f l).map (w :: ·) := rfl
@[go_sem] theorem RBN_eq : RBN = 12 := rfl
end
@[go_sem] theorem y_nil_ts (s : Nat) (e : AV) (r : List AV) : isNil .slice (.ts s (e :: r)) = some false := rfl
@[go_sem] theorem y_nil_nils : isNil .slice .nils = some true := rfl
@[go_sem] theorem y_nil_ifc (t : Nat) (v : AV) : isNil .iface (.ifc t v) = some false := rfl
@[go_sem] theorem y_nil_nili : isNil .iface .nili = some true := rfl
@[go_sem] theorem y_nil_ptr (a b c : Nat) : isNil .ptr (.ptr a b c) = some false := rfl
@[go_sem] theorem y_nil_tp (v : AV) : isNil .ptr (.tp v) = some false := rfl
@[go_sem] theorem y_nil_nilp : isNil .ptr .nilp = some true := rfl
@[go_sem] theorem false_bne' (b : Bool) : (false != b) = b := by cases b <;> rfl
@[go_sem] theorem true_bne' (b : Bool) : (true != b) = !b := by cases b <;> rfl
@[go_sem] theorem y_elems_ts (m : AMem) (s : Nat) (es : List AV) : elems m s (.ts s es) = some es := by simp [elems]
@[go_sem] theorem y_elems_ts0 (m : AMem) (s z : Nat) : elems m s (.ts z []) = some [] := by simp [elems]
@[go_sem] theorem y_elems_nils (m : AMem) (s : Nat) : elems m s .nils = some [] := rfl
def elK (sz i n : Nat) : Option AObj → Option (List AV)
  | some (.arr _ s es) => if s = sz ∧ i + n ≤ es.length then some ((es.drop i).take n) else if n = 0 then some [] else none
  | _ => if n = 0 then some [] else none
@[go_sem] theorem y_elems_sl (m : AMem) (sz id i n : Nat) : elems m sz (.sl sz id i n) = elK sz i n (m.get id) := by
  simp only [elems, if_true]
  cases m.get id with
  | none => rfl
  | some o => cases o <;> rfl
@[go_sem] theorem elK_s (sz i n t : Nat) (es : List AV) (h : i + n ≤ es.length) : elK sz i n (some (.arr t sz es)) = some ((es.drop i).take n) := by simp [elK, h]
def apK (m : AMem) (new t sz bytes id i n : Nat) (xs : List AV) : Option AObj → Option AR
  | some (.arr t0 s0 es) => if sz = sz ∧ t0 = t ∧ s0 = sz ∧ i + n ≤ es.length ∧ (n + xs.length) * bytes ≤ limBytes then
        some (.val (.sl sz new 0 (n + xs.length)) ((m.kill id).put new (.arr t sz ((es.drop i).take n ++ xs)))) else none
  | _ => none
@[go_sem] theorem app_nils (m : AMem) (new t sz bytes : Nat) (xs : List AV) (h : xs.length * bytes ≤ 141836999983104) : aApp m new t sz bytes .nils xs = some (.val (.sl sz new 0 xs.length) (m.put new (.arr t sz xs))) := by
  simp only [aApp]
  rw [if_pos (by unfold limBytes; omega)]
@[go_sem] theorem app_sl (m : AMem) (new t sz bytes id i n : Nat) (xs : List AV) : aApp m new t sz bytes (.sl sz id i n) xs = apK m new t sz bytes id i n xs (m.get id) := by
  unfold aApp apK
  rfl
@[go_sem] theorem apK_s (m : AMem) (new t sz bytes id i n : Nat) (xs es : List AV) (h1 : i + n ≤ es.length) (h2 : (n + xs.length) * bytes ≤ 141836999983104) :
    apK m new t sz bytes id i n xs (some (.arr t sz es)) = some (.val (.sl sz new 0 (n + xs.length)) ((m.kill id).put new (.arr t sz ((es.drop i).take n ++ xs)))) := by
  unfold apK
  exact if_pos ⟨rfl, rfl, rfl, h1, by unfold limBytes; omega⟩
@[go_sem] theorem fillP_nil (cs : List AV) : fillP cs [] = some cs := rfl
@[go_sem] theorem fillP_cons (cs : List AV) (off sz : Nat) (v : AV) (r : List (Nat × Nat × AV)) : fillP cs ((off, sz, v) :: r) = if v.cells.length = sz ∧ off + sz ≤ cs.length ∧ v.cells.all AV.one then fillP (cs.take off ++ v.cells ++ cs.drop (off + sz)) r else none := rfl
@[go_sem] theorem fillE_nil (sz : Nat) (cs : List AV) : fillE sz cs [] = some cs := rfl
@[go_sem] theorem fillE_cons (sz : Nat) (es : List AV) (i : Nat) (v : AV) (r : List (Nat × AV)) : fillE sz es ((i, v) :: r) = if v.cells.length = sz ∧ i < es.length ∧ v.cells.all AV.one then fillE sz (es.set i v) r else none := rfl
@[go_sem] theorem y_nil_beq (a : UInt8) (l : List UInt8) : (([] : List UInt8) == a :: l) = false := rfl
@[go_sem] theorem opt_bind {α β : Type} (a : α) (f : α → Option β) : (some a).bind f = f a := rfl
@[go_sem] theorem opt_map {α β : Type} (a : α) (f : α → β) : (some a).map f = some (f a) := rfl
theorem env0_0 (a : AV) (l : List AV) : env0 (a :: l) 0 = a := rfl
theorem env0_s (a : AV) (l : List AV) (i : Nat) : env0 (a :: l) (i + 1) = env0 l i := by
  simp [env0]
@[go_sem] theorem env0_a0 (a : AV) (l : List AV) : env0 (a :: l) 0 = a := rfl
@[go_sem] theorem env0_a1 (a b : AV) (l : List AV) : env0 (a :: b :: l) 1 = b := rfl
@[go_sem] theorem env0_a2 (a b c : AV) (l : List AV) : env0 (a :: b :: c :: l) 2 = c := rfl
@[go_sem] theorem env0_a3 (a b c d : AV) (l : List AV) : env0 (a :: b :: c :: d :: l) 3 = d := rfl
attribute [go_sem] List.length_map List.length_cons List.length_nil List.getElem?_cons_zero List.getElem?_cons_succ List.all_cons List.all_nil List.map_cons List.map_nil List.nil_append List.append_nil List.cons_append Int.toNat_natCast Option.some.injEq AV.int.injEq AV.bool.injEq AV.agg.injEq AV.tup.injEq AV.tp.injEq List.cons.injEq and_true true_and
  Nat.zero_add Nat.add_zero Bool.true_and Bool.and_true Bool.false_and Bool.and_false Bool.true_or Bool.or_true Bool.false_or Bool.or_false Bool.not_true Bool.not_false beq_self_eq_true if_true Option.getD_some decide_true decide_false
  List.take_zero List.drop_zero List.take_succ_cons List.drop_succ_cons List.take_nil List.drop_nil List.set_cons_zero List.set_cons_succ Option.map_none Option.map_some
end Go.Proofs.YtiijjopdhjpalaaDoor

/-! What is handed in: a reading as a tree of the evaluator. Conditions: none. -/
namespace Go.Proofs.YtiijjopdhjpalaaDoor
open Go
set_option linter.unusedVariables false
set_option linter.unusedSimpArgs false
/-- An element of a slice: one cell as it is, a row of cells of a struct or an array as one. -/
def packE (agg : Bool) (cs : List AV) : AV := match agg, cs with
  | false, [c] => c
  | _, cs => .agg cs
/-- Trees of a type without interfaces, maps, functions: its cells. -/
def Shape (P : Program) : Nat → TypeId → List AV → Prop
  | 0, _, _ => False
  | n + 1, t, vs => match P.underlying t with
    | some (.int k) => ∃ z, vs = [.int k z] ∧ (Lit.int k z).wf = true
    | some .bool => ∃ b, vs = [.bool b]
    | some .string => ∃ s : List UInt8, vs = [.str s] ∧ s.length ≤ maxLen
    | some (.slice e) => ∃ es : List (List AV), vs = [tsl (P.cellsOf e) (es.map (packE ((aggOf (P.underlying e)).getD true)))] ∧ es.length ≤ maxLen ∧ ∀ x ∈ es, Shape P n e x
    | some (.struct fs) => ∃ l : List (List AV), vs = l.flatten ∧ l.length = fs.size ∧ ∀ (i : Nat) (f : Field) (x : List AV), fs[i]? = some f → l[i]? = some x → Shape P n f.type x
    | _ => True
/-- The same, shut. -/
structure ShapeP (P : Program) (n : Nat) (t : TypeId) (vs : List AV) : Prop where
  out : Shape P n t vs
/-- The fields of a struct lie one behind the other. -/
def tiles (P : Program) : Nat → List Field → Nat → Bool
  | o, [], n => o == n
  | o, f :: fs, n => f.offset == o && tiles P (o + P.cellsOf f.type) fs n
/-- Types of numbers, truths, texts, slices, structs alone. -/
def plainT (P : Program) : Nat → TypeId → Bool
  | 0, _ => false
  | n + 1, t => match P.underlying t with
    | some (.int _) | some .bool | some .string => P.cellsOf t == 1
    | some (.slice e) => P.cellsOf t == 1 && decide (0 < P.cellsOf e) && plainT P n e && (match P.underlying e with
      | some (.struct _) => true
      | _ => P.cellsOf e == 1)
    | some (.struct fs) => tiles P 0 fs.toList (P.cellsOf t) && fs.toList.all fun f => plainT P n f.type
    | _ => false
section
variable {H : Type} {enc : TypeId × Value → H} {P : Program} {w : World} {spare : Nat → Bool} {held : Bool}
theorem RepTL.append {O : Nat → Prop} : ∀ {cs vs cs' vs'}, RepTL O w cs vs → RepTL O w cs' vs' → RepTL O w (cs ++ cs') (vs ++ vs')
  | _, _, _, _, .nil, h => h
  | _, _, _, _, .cons a t, h => .cons a (t.append h)
theorem cells_of_repTL {b : Nat} : ∀ {vs : List AV} {cs : List Value} {o : Nat}, RepTL noOwn w vs cs → (∀ v ∈ cs, oneV v = true) → (∀ i, i < cs.length → w.cell? ⟨b, o + i, none⟩ = cs[i]?) → CellsAt noOwn w vs b o
  | _, _, _, .nil, _, _ => .nil
  | _, _, o, .cons (v := v) (vs := r) h t, h1, h2 => by
    have h0 := h2 0 (by simp)
    simp only [Nat.add_zero, List.getElem?_cons_zero] at h0
    refine .cons (fun h => h) h0 (h1 v (List.mem_cons_self ..)) h (cells_of_repTL t (fun x hx => h1 x (List.mem_cons_of_mem _ hx)) fun i hi => ?_)
    have := h2 (i + 1) (by simpa using hi)
    rw [List.getElem?_cons_succ] at this
    rw [← this]
    congr 2
    omega
theorem packE_cells {agg : Bool} {vs : List AV} (h : agg = true ∨ (agg = false ∧ ∃ v, vs = [v] ∧ v.isAgg = false)) : (packE agg vs).cells = vs := by
  rcases h with rfl | ⟨rfl, v, rfl, hv⟩
  · cases vs <;> rfl
  · show v.cells = [v]
    cases v <;> first | rfl | cases hv
/-- The elements of a slice, one by one. -/
theorem els_of {b sz : Nat} (agg : Bool) (hz : 0 < sz) : ∀ (n o : Nat) (Q : List AV → Prop), (∀ i, i < n → ∃ vs, CellsAt noOwn w vs b (o + i * sz) ∧ vs.length = sz ∧ Q vs ∧ (packE agg vs).cells = vs) →
    ∃ es : List (List AV), es.length = n ∧ ElsAt noOwn w sz (es.map (packE agg)) b o ∧ ∀ x ∈ es, Q x
  | 0, o, Q, _ => ⟨[], rfl, .nil, by simp⟩
  | n + 1, o, Q, h => by
    obtain ⟨vs, h1, h2, h3, h4⟩ := h 0 (by omega)
    obtain ⟨es, e1, e2, e3⟩ := els_of agg hz n (o + sz) Q (fun i hi => by
      obtain ⟨vs, a⟩ := h (i + 1) (by omega)
      refine ⟨vs, ?_⟩
      rw [show o + sz + i * sz = o + (i + 1) * sz by rw [Nat.add_mul]; omega]
      exact a)
    refine ⟨vs :: es, by simp [e1], ?_, ?_⟩
    · rw [List.map_cons]
      refine .cons (by rw [h4, h2]) hz (by rw [h4]; simpa using h1) e2
    · intro x hx
      rcases List.mem_cons.1 hx with rfl | hx
      · exact h3
      · exact e3 x hx
/-- The fields of a struct, one by one. -/
theorem fields_of (Q : TypeId → List AV → Prop) (R : TypeId → List Value → Prop) (ih : ∀ (t : TypeId) (cs : List Value), R t cs →
      ∃ vs, RepTL noOwn w vs cs ∧ (∀ v ∈ cs, oneV v = true) ∧ cs.length = P.cellsOf t ∧ Q t vs) :
    ∀ (fs : List Field) (o m : Nat) (cs : List Value), tiles P o fs m = true → cs.length = m →
      (∀ f ∈ fs, R f.type ((cs.drop f.offset).take (P.cellsOf f.type))) →
      ∃ l : List (List AV), RepTL noOwn w l.flatten (cs.drop o) ∧ (∀ v ∈ cs.drop o, oneV v = true) ∧ l.length = fs.length ∧ ∀ (i : Nat) (f : Field) (x : List AV), fs[i]? = some f → l[i]? = some x → Q f.type x
  | [], o, m, cs, ht, hl, _ => by
    simp only [tiles, beq_iff_eq] at ht
    have : cs.drop o = [] := List.drop_of_length_le (by omega)
    rw [this]
    exact ⟨[], .nil, by simp, rfl, by simp⟩
  | f :: fs, o, m, cs, ht, hl, hx => by
    simp only [tiles, Bool.and_eq_true, beq_iff_eq] at ht
    obtain ⟨ho, ht⟩ := ht
    obtain ⟨vs, a1, a2, a3, a4⟩ := ih _ _ (hx f (List.mem_cons_self ..))
    obtain ⟨l, b1, b2, b3, b4⟩ := fields_of Q R ih fs (o + P.cellsOf f.type) m cs ht hl (fun g hg => hx g (List.mem_cons_of_mem _ hg))
    rw [ho] at a1 a2
    have hcut : cs.drop o = (cs.drop o).take (P.cellsOf f.type) ++ cs.drop (o + P.cellsOf f.type) := by
      rw [← List.drop_drop, List.take_append_drop]
    refine ⟨vs :: l, ?_, ?_, by simp [b3], ?_⟩
    · rw [List.flatten_cons, hcut]
      exact a1.append b1
    · rw [hcut]
      intro v hv
      rcases List.mem_append.1 hv with hv | hv
      · exact a2 v hv
      · exact b2 v hv
    · intro i g x hg hx
      cases i with
      | zero =>
        simp only [List.getElem?_cons_zero, Option.some.injEq] at hg hx
        subst hg hx
        exact a4
      | succ i =>
        simp only [List.getElem?_cons_succ] at hg hx
        exact b4 i g x hg hx
theorem spot_none {a : Addr} {v : Value} (h : w.cell? a = some v) : a = ⟨a.block, a.off, none⟩ := by
  cases a with
  | mk b o s =>
    cases s with
    | none => rfl
    | some s =>
      unfold World.cell? at h
      split at h
      · simp at h
      · cases h
theorem add_block (a : Addr) (n : Nat) : (a.add n).block = a.block := by unfold Addr.add; split <;> rfl
theorem add_off (a : Addr) (n : Nat) : (a.add n).off = a.off + n := by
  unfold Addr.add
  split
  · rename_i h; rw [h]; rfl
  · rfl
/-- **A reading is a tree.** -/
theorem tree_of : ∀ (n : Nat) (t : TypeId) (cs : List Value) (fuel : Nat) (x : DataW H × List MemPlace), plainT P n t = true → DataW.trod enc P w 0 spare held fuel t cs = some x →
    ∃ vs, RepTL noOwn w vs cs ∧ (∀ v ∈ cs, oneV v = true) ∧ cs.length = P.cellsOf t ∧ Shape P n t vs ∧ ((aggOf (P.underlying t)).getD true = true ∨ ((aggOf (P.underlying t)).getD true = false ∧ ∃ v, vs = [v] ∧ v.isAgg = false))
  | 0, _, _, _, _, h, _ => by cases h
  | n + 1, t, cs, fuel, x, hp, h => by
    unfold plainT at hp
    unfold Shape
    cases hu : P.underlying t with
    | none => rw [hu] at hp; cases hp
    | some d =>
      rw [hu] at hp
      cases d with
      | bool =>
        obtain ⟨b, rfl, _⟩ := DataW.trod_bool hu h
        exact ⟨[.bool b], .cons .bool .nil, by simp [oneV], by simpa using (beq_iff_eq.1 hp).symm, ⟨b, rfl⟩, .inr ⟨rfl, _, rfl, rfl⟩⟩
      | int k =>
        obtain ⟨z, rfl, _, hz⟩ := DataW.trod_int hu h
        exact ⟨[.int k z], .cons .int .nil, by simp [oneV], by simpa using (beq_iff_eq.1 hp).symm, ⟨z, rfl, hz⟩, .inr ⟨rfl, _, rfl, rfl⟩⟩
      | string =>
        obtain ⟨s, rfl, _, hz⟩ := DataW.trod_string hu h
        refine ⟨[.str s.data.toList], .cons ?_ .nil, by simp [oneV], by simpa using (beq_iff_eq.1 hp).symm, ⟨_, rfl, by simpa using hz⟩, .inr ⟨rfl, _, rfl, rfl⟩⟩
        have := RepT.str (O := noOwn) (w := w) (s := s.data.toList)
        simpa using this
      | slice e =>
        simp only [Bool.and_eq_true, beq_iff_eq, decide_eq_true_eq] at hp
        obtain ⟨⟨⟨h1, hz⟩, hpe⟩, hagg⟩ := hp
        rcases DataW.trod_slice hu h with ⟨rfl, _⟩ | ⟨a, len, cap, elems, rest, m, _, rfl, _, hb, hl, hm, hlen, hel, _, _⟩
        · exact ⟨[.ts 0 []], .cons .ts0 .nil, by simp [oneV], by simpa using h1.symm, ⟨[], rfl, Nat.zero_le _, by simp⟩, .inr ⟨rfl, _, rfl, rfl⟩⟩
        · obtain ⟨es, e1, e2, e3⟩ := els_of (w := w) (b := a.block) ((aggOf (P.underlying e)).getD true) hz len a.off (fun vs => Shape P n e vs) (fun i hi => by
            have hi' := hel i hi
            rw [List.getElem?_eq_getElem (by omega)] at hi'
            obtain ⟨cs', h2, h3⟩ := Option.bind_eq_some_iff.1 hi'
            obtain ⟨vs, a1, a2, a3, a4, a5⟩ := tree_of n e cs' m _ hpe h3
            obtain ⟨_, c2, c3⟩ := World.cells?_some h2
            refine ⟨vs, cells_of_repTL a1 a2 (fun j hj => ?_), by rw [a1.length, a3], a4, packE_cells a5⟩
            rw [← c3 j (by omega)]
            have hsome : ∃ v, w.cell? ((a.add (i * P.cellsOf e)).add j) = some v := by
              rw [c3 j (by omega), List.getElem?_eq_getElem hj]
              exact ⟨_, rfl⟩
            obtain ⟨v, hv⟩ := hsome
            have hs := spot_none hv
            rw [hs, add_block, add_block, add_off, add_off])
          refine ⟨[tsl (P.cellsOf e) (es.map (packE ((aggOf (P.underlying e)).getD true)))], .cons ?_ .nil, by simp [oneV], by simpa using h1.symm, ⟨es, rfl, by omega, e3⟩, .inr ⟨rfl, _, rfl, by unfold tsl; split <;> rfl⟩⟩
          cases es with
          | nil =>
            simp only [List.length_nil] at e1
            subst e1
            exact .ts0
          | cons y ys =>
            have hpos : 0 < len := by simp at e1; omega
            have hs : a = ⟨a.block, a.off, none⟩ := by
              have hi' := hel 0 hpos
              rw [List.getElem?_eq_getElem (by omega)] at hi'
              obtain ⟨cs', h2, h3⟩ := Option.bind_eq_some_iff.1 hi'
              obtain ⟨_, c2, c3⟩ := World.cells?_some h2
              have := c3 0 hz
              rw [List.getElem?_eq_getElem (by omega)] at this
              have := spot_none this
              simp [Addr.add] at this
              exact this
            have := RepT.ts (O := noOwn) (w := w) (cap := cap) e2 (by simp at e1 ⊢; omega)
            rw [List.length_map, e1, ← hs] at this
            exact this
      | struct fs =>
        simp only [Bool.and_eq_true, List.all_eq_true] at hp
        obtain ⟨ht, hp⟩ := hp
        obtain ⟨xs, m, _, _, hl, hxl, hx⟩ := DataW.trod_struct hu h
        obtain ⟨l, b1, b2, b3, b4⟩ := fields_of (w := w) (P := P) (fun t vs => Shape P n t vs) (fun t cs => plainT P n t = true ∧ ∃ x, DataW.trod enc P w 0 spare held m t cs = some x)
          (fun t cs ⟨c1, x, c2⟩ => by
            obtain ⟨vs, a1, a2, a3, a4, _⟩ := tree_of n t cs m x c1 c2
            exact ⟨vs, a1, a2, a3, a4⟩) fs.toList 0 (P.cellsOf t) cs ht hl (fun f hf => ⟨hp f hf, by
            obtain ⟨i, hi⟩ := List.getElem?_of_mem hf
            have hi' : fs[i]? = some f := by simpa using hi
            rw [hx i f hi']
            have := (Array.getElem?_eq_some_iff.1 hi').1
            exact ⟨_, List.getElem?_eq_getElem (by omega)⟩⟩)
        rw [List.drop_zero] at b1 b2
        exact ⟨l.flatten, b1, b2, hl, ⟨l, rfl, by simpa using b3, fun i f x hf => b4 i f x (by simpa using hf)⟩, .inl rfl⟩
      | _ => cases hp
end
end Go.Proofs.YtiijjopdhjpalaaDoor

/-! The plain types of the program's package api, as trees of the evaluator. Conditions: none. -/
namespace Go.Proofs.YtiijjopdhjpalaaDoor
open Go
set_option linter.unusedVariables false
set_option linter.unusedSimpArgs false
def i64 (z : Int) : Prop := (Lit.int .i64 z).wf = true
def GI.wf (i : GI) : Prop := i64 i.op ∧ i64 i.a ∧ i64 i.b
def GF.wf (f : GF) : Prop := f.params.length ≤ maxLen ∧ (∀ x ∈ f.params, i64 x) ∧ i64 f.result ∧ i64 f.locals ∧ f.code.length ≤ maxLen ∧ ∀ x ∈ f.code, x.wf
def GT.wf (t : GT) : Prop := i64 t.kind ∧ t.parts.length ≤ maxLen ∧ (∀ x ∈ t.parts, i64 x) ∧ i64 t.of
def GP.wf (p : GP) : Prop := p.types.length ≤ maxLen ∧ (∀ x ∈ p.types, x.wf) ∧ p.funcs.length ≤ maxLen ∧ ∀ x ∈ p.funcs, x.wf
section
variable {P : Program}
theorem shape_int {n : Nat} {t : TypeId} {k : IntKind} {vs : List AV} (ht : P.underlying t = some (.int k)) (h : ShapeP P (n + 1) t vs) : ∃ z, vs = [.int k z] ∧ (Lit.int k z).wf = true := by
  have h := h.out
  unfold Shape at h
  rw [ht] at h
  exact h
theorem shape_slice {α : Type} {n : Nat} {t e : TypeId} {vs : List AV} (av : α → AV) (wf : α → Prop) {sz : Nat} {agg : Bool} (ht : P.underlying t = some (.slice e)) (hz : P.cellsOf e = sz) (ha : (aggOf (P.underlying e)).getD true = agg)
    (f : ∀ x, ShapeP P n e x → ∃ a : α, packE agg x = av a ∧ wf a) (h : ShapeP P (n + 1) t vs) : ∃ l : List α, vs = [tsl sz (l.map av)] ∧ l.length ≤ maxLen ∧ ∀ a ∈ l, wf a := by
  have h := h.out
  unfold Shape at h
  rw [ht] at h
  obtain ⟨es, h1, h2, h3⟩ := h
  rw [ha, hz] at h1
  have key : ∀ es : List (List AV), (∀ x ∈ es, Shape P n e x) → ∃ l : List α, es.map (packE agg) = l.map av ∧ l.length = es.length ∧ ∀ a ∈ l, wf a := by
    intro es
    induction es with
    | nil => intro _; exact ⟨[], rfl, rfl, by simp⟩
    | cons x r ih =>
      intro h
      obtain ⟨l, a1, a2, a3⟩ := ih fun y hy => h y (List.mem_cons_of_mem _ hy)
      obtain ⟨a, b1, b2⟩ := f x ⟨h x (List.mem_cons_self ..)⟩
      refine ⟨a :: l, by simp [b1, a1], by simp [a2], fun y hy => ?_⟩
      rcases List.mem_cons.1 hy with rfl | hy
      · exact b2
      · exact a3 y hy
  obtain ⟨l, a1, a2, a3⟩ := key es h3
  exact ⟨l, by rw [h1, a1], by omega, a3⟩
theorem shape_ints {n : Nat} {t e : TypeId} {vs : List AV} (ht : P.underlying t = some (.slice e)) (he : P.underlying e = some (.int .i64)) (hz : P.cellsOf e = 1) (h : ShapeP P (n + 2) t vs) :
    ∃ l : List Int, vs = [tsl 1 (l.map avI)] ∧ l.length ≤ maxLen ∧ ∀ a ∈ l, i64 a :=
  shape_slice avI i64 (agg := false) ht hz (by rw [he]; rfl) (fun x hx => by
    obtain ⟨z, rfl, hz⟩ := shape_int he hx
    exact ⟨z, rfl, hz⟩) h
theorem shape_struct2 {n : Nat} {t : TypeId} {vs : List AV} {f0 f1 : Field} (ht : P.underlying t = some (.struct #[f0, f1])) (h : ShapeP P (n + 1) t vs) : ∃ x0 x1, vs = x0 ++ x1 ∧ ShapeP P n f0.type x0 ∧ ShapeP P n f1.type x1 := by
  have h := h.out
  unfold Shape at h
  rw [ht] at h
  obtain ⟨l, h1, h2, h3⟩ := h
  match l, h2 with
  | [x0, x1], _ => exact ⟨x0, x1, by simpa using h1, ⟨h3 0 f0 x0 rfl rfl⟩, ⟨h3 1 f1 x1 rfl rfl⟩⟩
theorem shape_struct3 {n : Nat} {t : TypeId} {vs : List AV} {f0 f1 f2 : Field} (ht : P.underlying t = some (.struct #[f0, f1, f2])) (h : ShapeP P (n + 1) t vs) :
    ∃ x0 x1 x2, vs = x0 ++ (x1 ++ x2) ∧ ShapeP P n f0.type x0 ∧ ShapeP P n f1.type x1 ∧ ShapeP P n f2.type x2 := by
  have h := h.out
  unfold Shape at h
  rw [ht] at h
  obtain ⟨l, h1, h2, h3⟩ := h
  match l, h2 with
  | [x0, x1, x2], _ => exact ⟨x0, x1, x2, by simpa using h1, ⟨h3 0 f0 x0 rfl rfl⟩, ⟨h3 1 f1 x1 rfl rfl⟩, ⟨h3 2 f2 x2 rfl rfl⟩⟩
theorem shape_struct4 {n : Nat} {t : TypeId} {vs : List AV} {f0 f1 f2 f3 : Field} (ht : P.underlying t = some (.struct #[f0, f1, f2, f3])) (h : ShapeP P (n + 1) t vs) :
    ∃ x0 x1 x2 x3, vs = x0 ++ (x1 ++ (x2 ++ x3)) ∧ ShapeP P n f0.type x0 ∧ ShapeP P n f1.type x1 ∧ ShapeP P n f2.type x2 ∧ ShapeP P n f3.type x3 := by
  have h := h.out
  unfold Shape at h
  rw [ht] at h
  obtain ⟨l, h1, h2, h3⟩ := h
  match l, h2 with
  | [x0, x1, x2, x3], _ => exact ⟨x0, x1, x2, x3, by simpa using h1, ⟨h3 0 f0 x0 rfl rfl⟩, ⟨h3 1 f1 x1 rfl rfl⟩, ⟨h3 2 f2 x2 rfl rfl⟩, ⟨h3 3 f3 x3 rfl rfl⟩⟩
end
theorem cells_int : Tryd.prog.cellsOf 3 = 1 := by kernel_rfl
theorem cells_Instr : Tryd.prog.cellsOf 45 = 3 := by kernel_rfl
theorem cells_Type : Tryd.prog.cellsOf 43 = 3 := by kernel_rfl
theorem cells_Func : Tryd.prog.cellsOf 48 = 4 := by kernel_rfl
theorem instr_of {n : Nat} {vs : List AV} (h : ShapeP Tryd.prog (n + 2) 45 vs) : ∃ i : GI, packE true vs = i.av ∧ i.wf := by
  obtain ⟨x0, x1, x2, rfl, h0, h1, h2⟩ := shape_struct3 Tryd.underlying45 h
  obtain ⟨a, rfl, wa⟩ := shape_int Tryd.underlying3 h0
  obtain ⟨b, rfl, wb⟩ := shape_int Tryd.underlying3 h1
  obtain ⟨c, rfl, wc⟩ := shape_int Tryd.underlying3 h2
  exact ⟨⟨a, b, c⟩, rfl, wa, wb, wc⟩
theorem type_of {n : Nat} {vs : List AV} (h : ShapeP Tryd.prog (n + 3) 43 vs) : ∃ i : GT, packE true vs = i.av ∧ i.wf := by
  obtain ⟨x0, x1, x2, rfl, h0, h1, h2⟩ := shape_struct3 Tryd.underlying43 h
  obtain ⟨a, rfl, wa⟩ := shape_int Tryd.underlying3 h0
  obtain ⟨b, rfl, wb, wb'⟩ := shape_ints Tryd.underlying41 Tryd.underlying3 cells_int h1
  obtain ⟨c, rfl, wc⟩ := shape_int Tryd.underlying3 h2
  exact ⟨⟨a, b, c⟩, rfl, wa, wb, wb', wc⟩
theorem func_of {n : Nat} {vs : List AV} (h : ShapeP Tryd.prog (n + 4) 48 vs) : ∃ i : GF, packE true vs = i.av ∧ i.wf := by
  obtain ⟨x0, x1, x2, x3, rfl, h0, h1, h2, h3⟩ := shape_struct4 Tryd.underlying48 h
  obtain ⟨a, rfl, wa, wa'⟩ := shape_ints Tryd.underlying41 Tryd.underlying3 cells_int h0
  obtain ⟨b, rfl, wb⟩ := shape_int Tryd.underlying3 h1
  obtain ⟨c, rfl, wc⟩ := shape_int Tryd.underlying3 h2
  obtain ⟨d, rfl, wd, wd'⟩ := shape_slice GI.av GI.wf (agg := true) Tryd.underlying46 cells_Instr (by rw [Tryd.underlying45]; rfl) (fun x hx => instr_of hx) h3
  exact ⟨⟨a, b, c, d⟩, rfl, wa, wa', wb, wc, wd, wd'⟩
theorem prog_of {n : Nat} {vs : List AV} (h : ShapeP Tryd.prog (n + 6) 25 vs) : ∃ p : GP, packE true vs = p.av ∧ p.wf := by
  obtain ⟨x0, x1, rfl, h0, h1⟩ := shape_struct2 Tryd.underlying25 h
  obtain ⟨a, rfl, wa, wa'⟩ := shape_slice GT.av GT.wf (agg := true) Tryd.underlying22 cells_Type (by rw [Tryd.underlying43]; rfl) (fun x hx => type_of hx) h0
  obtain ⟨b, rfl, wb, wb'⟩ := shape_slice GF.av GF.wf (agg := true) Tryd.underlying23 cells_Func (by rw [Tryd.underlying48]; rfl) (fun x hx => func_of hx) h1
  exact ⟨⟨a, b⟩, rfl, wa, wa', wb, wb'⟩
end Go.Proofs.YtiijjopdhjpalaaDoor

/-! What callsN is at each compiled function. Conditions: none. -/
namespace Go.Proofs.YtiijjopdhjpalaaDoor
open Go
theorem ce8 (n : Nat) : callsN cfg (n + 1) 8 = aBody (callsN cfg n) cf8 := by kernel_rfl
theorem ce9 (n : Nat) : callsN cfg (n + 1) 9 = borrow (aBody (callsN cfg n) cf9) := by kernel_rfl
theorem ce10 (n : Nat) : callsN cfg (n + 1) 10 = borrow (aBody (callsN cfg n) cf10) := by kernel_rfl
theorem ce12 (n : Nat) : callsN cfg (n + 1) 12 = borrow (aBody (callsN cfg n) cf12) := by kernel_rfl
theorem ce14 (n : Nat) : callsN cfg (n + 1) 14 = borrow (aBody (callsN cfg n) cf14) := by kernel_rfl
theorem ce15 (n : Nat) : callsN cfg (n + 1) 15 = borrow (aBody (callsN cfg n) cf15) := by kernel_rfl
theorem ce16 (n : Nat) : callsN cfg (n + 1) 16 = borrow (aBody (callsN cfg n) cf16) := by kernel_rfl
theorem ce17 (n : Nat) : callsN cfg (n + 1) 17 = borrow (aBody (callsN cfg n) cf17) := by kernel_rfl
theorem ce18 (n : Nat) : callsN cfg (n + 1) 18 = borrow (aBody (callsN cfg n) cf18) := by kernel_rfl
theorem ce21 (n : Nat) : callsN cfg (n + 1) 21 = aBody (callsN cfg n) cf21 := by kernel_rfl
theorem ce22 (n : Nat) : callsN cfg (n + 1) 22 = aBody (callsN cfg n) cf22 := by kernel_rfl
theorem ce23 (n : Nat) : callsN cfg (n + 1) 23 = aBody (callsN cfg n) cf23 := by kernel_rfl
theorem ce24 (n : Nat) : callsN cfg (n + 1) 24 = aBody (callsN cfg n) cf24 := by kernel_rfl
theorem ce26 (n : Nat) : callsN cfg (n + 1) 26 = aBody (callsN cfg n) cf26 := by kernel_rfl
theorem ce27 (n : Nat) : callsN cfg (n + 1) 27 = borrow (aBody (callsN cfg n) cf27) := by kernel_rfl
theorem ce29 (n : Nat) : callsN cfg (n + 1) 29 = borrow (aBody (callsN cfg n) cf29) := by kernel_rfl
theorem ce30 (n : Nat) : callsN cfg (n + 1) 30 = cloneF cf30 (callsN cfg n) := by kernel_rfl
theorem ce31 (n : Nat) : callsN cfg (n + 1) 31 = aBody (callsN cfg n) cf31 := by kernel_rfl
theorem ce32 (n : Nat) : callsN cfg (n + 1) 32 = borrow (aBody (callsN cfg n) cf32) := by kernel_rfl
theorem ce33 (n : Nat) : callsN cfg (n + 1) 33 = borrow (aBody (callsN cfg n) cf33) := by kernel_rfl
theorem ce34 (n : Nat) : callsN cfg (n + 1) 34 = borrow (aBody (callsN cfg n) cf34) := by kernel_rfl
theorem ce40 (n : Nat) : callsN cfg (n + 1) 40 = borrow (aBody (callsN cfg n) cf40) := by kernel_rfl
theorem ce41 (n : Nat) : callsN cfg (n + 1) 41 = aBody (callsN cfg n) cf41 := by kernel_rfl
theorem ce42 (n : Nat) : callsN cfg (n + 1) 42 = aBody (callsN cfg n) cf42 := by kernel_rfl
theorem ce43 (n : Nat) : callsN cfg (n + 1) 43 = aBody (callsN cfg n) cf43 := by kernel_rfl
theorem ce44 (n : Nat) : callsN cfg (n + 1) 44 = aBody (callsN cfg n) cf44 := by kernel_rfl
theorem ce45 (n : Nat) : callsN cfg (n + 1) 45 = borrow (aBody (callsN cfg n) cf45) := by kernel_rfl
theorem ce46 (n : Nat) : callsN cfg (n + 1) 46 = aBody (callsN cfg n) cf46 := by kernel_rfl
theorem ce47 (n : Nat) : callsN cfg (n + 1) 47 = aBody (callsN cfg n) cf47 := by kernel_rfl
theorem ce48 (n : Nat) : callsN cfg (n + 1) 48 = borrow (aBody (callsN cfg n) cf48) := by kernel_rfl
theorem ce53 (n : Nat) : callsN cfg (n + 1) 53 = borrow (aBody (callsN cfg n) cf53) := by kernel_rfl
theorem ce54 (n : Nat) : callsN cfg (n + 1) 54 = aBody (callsN cfg n) cf54 := by kernel_rfl
theorem ce55 (n : Nat) : callsN cfg (n + 1) 55 = aBody (callsN cfg n) cf55 := by kernel_rfl
theorem ce56 (n : Nat) : callsN cfg (n + 1) 56 = borrow (aBody (callsN cfg n) cf56) := by kernel_rfl
theorem ce57 (n : Nat) : callsN cfg (n + 1) 57 = borrow (aBody (callsN cfg n) cf57) := by kernel_rfl
theorem ce58 (n : Nat) : callsN cfg (n + 1) 58 = borrow (aBody (callsN cfg n) cf58) := by kernel_rfl
theorem ce59 (n : Nat) : callsN cfg (n + 1) 59 = borrow (aBody (callsN cfg n) cf59) := by kernel_rfl
theorem ce60 (n : Nat) : callsN cfg (n + 1) 60 = borrow (aBody (callsN cfg n) cf60) := by kernel_rfl
theorem ce61 (n : Nat) : callsN cfg (n + 1) 61 = borrow (aBody (callsN cfg n) cf61) := by kernel_rfl
theorem ce62 (n : Nat) : callsN cfg (n + 1) 62 = borrow (aBody (callsN cfg n) cf62) := by kernel_rfl
theorem ce63 (n : Nat) : callsN cfg (n + 1) 63 = aBody (callsN cfg n) cf63 := by kernel_rfl
theorem ce71 (n : Nat) : callsN cfg (n + 1) 71 = aBody (callsN cfg n) cf71 := by kernel_rfl
theorem ce72 (n : Nat) : callsN cfg (n + 1) 72 = aBody (callsN cfg n) cf72 := by kernel_rfl
theorem ce73 (n : Nat) : callsN cfg (n + 1) 73 = aBody (callsN cfg n) cf73 := by kernel_rfl
theorem ce74 (n : Nat) : callsN cfg (n + 1) 74 = aBody (callsN cfg n) cf74 := by kernel_rfl
theorem ce75 (n : Nat) : callsN cfg (n + 1) 75 = borrow (aBody (callsN cfg n) cf75) := by kernel_rfl
theorem ce76 (n : Nat) : callsN cfg (n + 1) 76 = aBody (callsN cfg n) cf76 := by kernel_rfl
theorem ce80 (n : Nat) : callsN cfg (n + 1) 80 = borrow (aBody (callsN cfg n) cf80) := by kernel_rfl
theorem ce81 (n : Nat) : callsN cfg (n + 1) 81 = borrow (aBody (callsN cfg n) cf81) := by kernel_rfl
theorem ce82 (n : Nat) : callsN cfg (n + 1) 82 = borrow (aBody (callsN cfg n) cf82) := by kernel_rfl
theorem ce84 (n : Nat) : callsN cfg (n + 1) 84 = aBody (callsN cfg n) cf84 := by kernel_rfl
theorem ce85 (n : Nat) : callsN cfg (n + 1) 85 = aBody (callsN cfg n) cf85 := by kernel_rfl
theorem ce86 (n : Nat) : callsN cfg (n + 1) 86 = aBody (callsN cfg n) cf86 := by kernel_rfl
theorem ce87 (n : Nat) : callsN cfg (n + 1) 87 = borrow (aBody (callsN cfg n) cf87) := by kernel_rfl
theorem ce108 (n : Nat) : callsN cfg (n + 1) 108 = aBody (callsN cfg n) cf108 := by kernel_rfl
end Go.Proofs.YtiijjopdhjpalaaDoor
