/- Copying, texts and bytes, structs held against each other. Conditions: none. -/
import GoSem.Step
import Derived.Below
import Derived.Calls
import Derived.Tactics2
import Derived.WalkKit
import Derived.Laws.CopyRow
import Derived.Laws.AppendOwn
import Derived.Laws.Entries
import Derived.Laws.Build
import Derived.Laws.Cover3
import Derived.Lib.Fold
import Derived.WideLaws
import Derived.Deep.AppendSrc
import Derived.Deep.DeepAppendWide
import Derived.Laws.IdiomCopy
import Derived.Laws.MakeOwn
import Derived.Laws.Tables
import Derived.Laws.StructEq
import Derived.Laws.BytesString
/-! The abstract evaluator: values, memory, code. Nothing of a program stands here. Conditions: none. -/
namespace Go.Proofs.YtiijjopdhjpalaaDoor
open Go
set_option linter.unusedVariables false
set_option linter.unusedSimpArgs false

/-- An abstract value: trees for memory that is only read, object numbers for memory that is owned. -/
inductive AV where
  | int (k : IntKind) (n : Int)
  | bool (b : Bool)
  | str (s : List UInt8)
  | nilp
  | ptr (id i off : Nat)
  | tp (v : AV)
  | nils
  | sl (sz id i len : Nat)
  | ts (sz : Nat) (es : List AV)
  | agg (cs : List AV)
  | tup (vs : List AV)
  | fn (f : Fn) (first cap : List AV)
  | nilf
  | ifc (t : Nat) (v : AV)
  | nili
  | mp (id : Nat)
  | nilm
  | junk
  deriving Inhabited

def AV.cells : AV → List AV
  | .agg cs => cs
  | v => [v]
def AV.isAgg : AV → Bool
  | .agg _ => true
  | _ => false
/-- May it lie in one cell? -/
def AV.one : AV → Bool
  | .agg _ | .tup _ | .junk => false
  | _ => true

inductive AObj where
  | arr (t sz : Nat) (es : List AV)
  | map (es : List (AV × AV))
  deriving Inhabited

structure AMem where
  next : Nat
  get : Nat → Option AObj
  wf : ∀ id, next ≤ id → get id = none

namespace AMem
def empty : AMem := ⟨0, fun _ => none, fun _ _ => rfl⟩
/-- Room for n objects. -/
def room (m : AMem) (n : Nat) : AMem := ⟨m.next + n, m.get, fun id h => m.wf id (by omega)⟩
/-- Object id is o from now on; nothing happens, if there is no such number. -/
def put (m : AMem) (id : Nat) (o : AObj) : AMem :=
  ⟨m.next, fun j => if j = id then (if id < m.next then some o else none) else m.get j, fun j h => by
    by_cases e : j = id
    · simp [e]; omega
    · simp [e, m.wf j h]⟩
def kill (m : AMem) (id : Nat) : AMem :=
  ⟨m.next, fun j => if j = id then none else m.get j, fun j h => by
    by_cases e : j = id
    · simp [e]
    · simp [e, m.wf j h]⟩
/-- The objects below n alone. -/
def only (m : AMem) (n : Nat) : AMem :=
  ⟨m.next, fun j => if j < n then m.get j else none, fun j h => by simp [m.wf j h]⟩
/-- The objects from n on alone. -/
def news (m : AMem) (n : Nat) : AMem := ⟨m.next, fun j => if n ≤ j then m.get j else none, fun j h => by simp [m.wf j h]⟩
end AMem

/-- How a call ends. -/
inductive AOut where
  | ret (v : AV)
  | pan (v : AV)
abbrev Res := Option (AOut × AMem)
abbrev AF := List AV → AMem → Res
abbrev AEnv := Nat → AV
def upd (env : AEnv) (d : Option Nat) (v : AV) : AEnv :=
  match d with
  | some d => fun i => if i = d then v else env i
  | none => env

inductive AExit where
  | normal
  | exit (id : Nat)
  | ret
  | panic (v : AV)
abbrev Kont := AExit → AEnv → AMem → Res

inductive Opd where
  | t (i : Nat)
  | c (v : AV)
  deriving Inhabited

def Opd.ev (env : AEnv) : Opd → AV
  | .t i => env i
  | .c v => v

/-- What lies in one cell and can be held against another. -/
inductive EK where
  | int
  | bool
  | str
  deriving Inhabited

/-- What can be nil. -/
inductive NK where
  | ptr
  | slice
  | map
  | func
  | iface
  deriving Inhabited

inductive AOp where
  | mov (x : Opd)
  | pick (c a b : Opd)
  | new (t sz : Nat) (v : Opd)
  | build (zero : List AV) (parts : List (Nat × Nat × Opd))
  | mkl (t sz : Nat) (zeros : List AV) (parts : List (Nat × Opd))
  | load (agg : Bool) (sz : Nat) (p : Opd)
  | store (agg : Bool) (sz : Nat) (p v : Opd)
  | nchk (x : Opd)
  | bin (op : BinOp) (x y : Opd)
  | eqs (ks : List EK) (neg : Bool) (x y : Opd)
  | eqb (neg : Bool) (x y : Opd)
  | eqn (k : NK) (neg : Bool) (x : Opd)
  | un (op : UnOp) (x : Opd)
  | conv (k : IntKind) (x : Opd)
  | convSB (t : Nat) (x : Opd)
  | convBS (x : Opd)
  | convBB (x : Opd)
  | ifc (t : Nat) (x : Opd)
  | mkf (f : Fn) (first cap : List Opd)
  | mks (t sz bytes : Nat) (zero : AV) (l c : Opd)
  | slc (sz : Nat) (x : Opd) (lo hi : Option Opd)
  | slcs (x : Opd) (lo hi : Option Opd)
  | fad (agg : Bool) (off sz : Nat) (x : Opd)
  | fld (agg : Bool) (off sz : Nat) (x : Opd)
  | iad (sz : Nat) (x i : Opd)
  | iada (n sz : Nat) (x i : Opd)
  | idx (agg : Bool) (n sz : Nat) (x i : Opd)
  | idxs (x i : Opd)
  | ext (x : Opd) (i : Nat)
  | len (x : Opd)
  | lens (x : Opd)
  | app (t sz bytes : Nat) (s x : Opd)
  | copy (sz : Nat) (d s : Opd)
  | mx (x y : Opd)
  | mn (x y : Opd)
  | call (f : Opd) (args : List Opd)
  | pan (x : Opd)
  | tas (t : Nat) (zero : AV) (x : Opd)
  | mkm
  | look (zero : AV) (ok : Bool) (m k : Opd)
  | mset (m k v : Opd)
  | del (m k : Opd)
  deriving Inhabited

structure AOper where
  k : Nat
  dst : Option Nat
  g : Option (Option Nat × Bool)
  op : AOp
  deriving Inhabited

inductive ACode where
  | skip
  | reg (ops : List AOper)
  | regd (chk : List (Nat × Nat)) (ops : List AOper)
  | seq (a b : ACode)
  | cond (c : Opd) (a b : ACode)
  | blk (id : Nat) (a : ACode)
  | loop (a : ACode)
  | exit (id : Nat)
  | ret
  | no
  deriving Inhabited

/-! ### Pure operations -/

def eqCell : EK → AV → AV → Option Bool
  | .int, .int k a, .int k' b => if k = k' then some (a == b) else none
  | .bool, .bool a, .bool b => some (a == b)
  | .str, .str a, .str b => some (a == b)
  | _, _, _ => none
def eqCells : List EK → List AV → List AV → Option Bool
  | [], [], [] => some true
  | k :: ks, a :: x, b :: y => (eqCell k a b).bind fun e => (eqCells ks x y).map fun r => e && r
  | _, _, _ => none

def binI (op : BinOp) (k : IntKind) (a b : Int) : Option AV :=
  match op with
  | .add => some (.int k (k.wrap (a + b)))
  | .sub => some (.int k (k.wrap (a - b)))
  | .mul => some (.int k (k.wrap (a * b)))
  | .quo => if b = 0 then none else some (.int k (k.wrap (a.tdiv b)))
  | .rem => if b = 0 then none else some (.int k (a.tmod b))
  | .and => some (.int k (k.wrap ((BitVec.ofInt k.bits a &&& BitVec.ofInt k.bits b).toNat : Nat)))
  | .or => some (.int k (k.wrap ((BitVec.ofInt k.bits a ||| BitVec.ofInt k.bits b).toNat : Nat)))
  | .xor => some (.int k (k.wrap ((BitVec.ofInt k.bits a ^^^ BitVec.ofInt k.bits b).toNat : Nat)))
  | .andNot => some (.int k (k.wrap ((BitVec.ofInt k.bits a &&& ~~~ BitVec.ofInt k.bits b).toNat : Nat)))
  | .eql => some (.bool (a == b))
  | .neq => some (.bool (a != b))
  | .lss => some (.bool (decide (a < b)))
  | .leq => some (.bool (decide (a ≤ b)))
  | .gtr => some (.bool (decide (a > b)))
  | .geq => some (.bool (decide (a ≥ b)))
  | _ => none
def binS (op : BinOp) (a b : List UInt8) : Option AV :=
  match op with
  | .eql => some (.bool (a == b))
  | .neq => some (.bool (!(a == b)))
  | _ => none
def aBin (op : BinOp) (x y : AV) : Option AV :=
  match x, y with
  | .int k a, .int k' b =>
    match op with
    | .shl => if b < 0 then none else some (.int k (k.wrap (a * 2 ^ (min b.toNat k.bits))))
    | .shr => if b < 0 then none else some (.int k (a.fdiv (2 ^ (min b.toNat k.bits))))
    | op => if k = k' then binI op k a b else none
  | .str a, .str b => binS op a b
  | _, _ => none
/-- Is it nil? -/
def isNil : NK → AV → Option Bool
  | .ptr, .nilp | .slice, .nils | .func, .nilf | .iface, .nili | .map, .nilm => some true
  | .ptr, .ptr .. | .ptr, .tp _ | .func, .fn .. | .iface, .ifc .. | .map, .mp _ => some false
  | .slice, .sl _ _ _ n => if n = 0 then none else some false
  | .slice, .ts _ es => match es with | [] => none | _ :: _ => some false
  | _, _ => none
def aUn (op : UnOp) (x : AV) : Option AV :=
  match op, x with
  | .neg, .int k n => some (.int k (k.wrap (0 - n)))
  | .xor, .int k n => some (.int k (k.wrap ((BitVec.ofInt k.bits (if k.signed then -1 else k.max) ^^^ BitVec.ofInt k.bits n).toNat : Nat)))
  | .not, .bool b => some (.bool !b)
  | _, _ => none

/-- Part of a row of cells. -/
def part (agg : Bool) (off sz : Nat) (cs : List AV) : Option AV :=
  if agg then (if off + sz ≤ cs.length then some (.agg ((cs.drop off).take sz)) else none)
  else match cs[off]? with
    | some v => if v.isAgg then none else some v
    | none => none
/-- An element with some of its cells turned. -/
def splice (e : AV) (off : Nat) (vs : List AV) : AV :=
  match e with
  | .agg cs => .agg (cs.take off ++ vs ++ cs.drop (off + vs.length))
  | _ => match vs with
    | [v] => v
    | _ => e
def fits (agg : Bool) (sz : Nat) (v : AV) : Bool :=
  match v with
  | .agg cs => agg && cs.length == sz && cs.all AV.one
  | v => !agg && sz == 1 && v.one

def aLoad (m : AMem) (agg : Bool) (sz : Nat) : AV → Option AV
  | .tp v => if fits agg sz v then some v else none
  | .ptr id i off => match m.get id with
    | some (.arr _ _ es) => match es[i]? with
      | some e => part agg off sz e.cells
      | none => none
    | _ => none
  | _ => none
def aStore (m : AMem) (agg : Bool) (sz : Nat) (p v : AV) : Option AMem :=
  match p with
  | .ptr id i off => match m.get id with
    | some (.arr t s es) => match es[i]? with
      | some e => if fits agg sz v && decide (off + sz ≤ e.cells.length) && decide (off + sz ≤ s) then some (m.put id (.arr t s (es.set i (splice e off v.cells)))) else none
      | none => none
    | _ => none
  | _ => none
def aFad (agg : Bool) (off sz : Nat) : AV → Option AV
  | .ptr id i o => some (.ptr id i (o + off))
  | .tp (.agg cs) => (part agg off sz cs).map .tp
  | _ => none
def inRange (i : Int) (n : Nat) : Bool := decide (0 ≤ i) && decide (i < n)
def aIad (sz : Nat) (x : AV) (i : Int) : Option AV :=
  match x with
  | .sl s id j n => if s = sz then (cond (inRange i n) (some (.ptr id (j + i.toNat) 0)) none) else none
  | .ts s es => if s = sz then (cond (inRange i es.length) ((es[i.toNat]?).map .tp) none) else none
  | _ => none
/-- The elements of a slice, as they stand. -/
def elems (m : AMem) (sz : Nat) : AV → Option (List AV)
  | .nils => some []
  | .sl sz' id i n => if sz' = sz then (match m.get id with
    | some (.arr _ s es) => if s = sz ∧ i + n ≤ es.length then some ((es.drop i).take n) else if n = 0 then some [] else none
    | _ => if n = 0 then some [] else none) else none
  | .ts s es => if s = sz ∨ es.isEmpty = true then some es else none
  | .str s => if sz = 1 then some (s.map fun b => .int .u8 b.toNat) else none
  | _ => none
def lenA : AV → Option Nat
  | .nils => some 0
  | .sl _ _ _ n => some n
  | .ts _ es => some es.length
  | _ => none
def limBytes : Nat := 140737488355328 + 1099511627776
def aSlc (sz : Nat) (x : AV) (lo : Int) (hi : Option Int) : Option AV :=
  match lenA x with
  | none => none
  | some n =>
    let h := hi.getD n
    cond (decide (0 ≤ lo) && decide (lo ≤ h) && decide (h ≤ n)) (match x with
      | .nils => some .nils
      | .sl s id i _ => if s = sz then some (.sl s id (i + lo.toNat) (h.toNat - lo.toNat)) else none
      | .ts s es => if s = sz ∨ es.isEmpty = true then some (.ts s ((es.drop lo.toNat).take (h.toNat - lo.toNat))) else none
      | _ => none) none
def aSlcS (s : List UInt8) (lo : Int) (hi : Option Int) : Option AV :=
  let h := hi.getD s.length
  cond (decide (0 ≤ lo) && decide (lo ≤ h) && decide (h ≤ s.length)) (some (.str ((s.drop lo.toNat).take (h.toNat - lo.toNat)))) none
def asI : AV → Option Int
  | .int _ n => some n
  | _ => none
def byteOf : AV → Option UInt8
  | .int .u8 n => some (UInt8.ofNat n.toNat)
  | _ => none
def keyEq (a b : AV) : Option Bool :=
  match a, b with
  | .agg [.int k a, .int k' a'], .agg [.int j b, .int j' b'] => if k = j ∧ k' = j' then some (a == b && a' == b') else none
  | .int k a, .int k' b => if k = k' then some (a == b) else none
  | _, _ => none
def mapFind (k : AV) : List (AV × AV) → Option (Option AV)
  | [] => some none
  | e :: es => (keyEq k e.1).bind fun b => cond b (some (some e.2)) (mapFind k es)
def mapSet (k v : AV) : List (AV × AV) → Option (List (AV × AV))
  | [] => some [(k, v)]
  | e :: es => (keyEq k e.1).bind fun b => cond b (some ((k, v) :: es)) ((mapSet k v es).map (e :: ·))
def mapDel (k : AV) : List (AV × AV) → Option (List (AV × AV))
  | [] => some []
  | e :: es => (keyEq k e.1).bind fun b => cond b (some es) ((mapDel k es).map (e :: ·))

/-- The same value? -/
def fnBeq : Fn → Fn → Bool
  | .func a, .func b => a == b
  | _, _ => false
mutual
def AV.beq : AV → AV → Bool
  | .int k n, .int k' n' => decide (k = k') && n == n'
  | .bool a, .bool b => a == b
  | .str a, .str b => a == b
  | .nilp, .nilp | .nils, .nils | .nilf, .nilf | .nili, .nili | .nilm, .nilm => true
  | .ptr a b c, .ptr a' b' c' => a == a' && b == b' && c == c'
  | .tp a, .tp b => AV.beq a b
  | .sl a b c d, .sl a' b' c' d' => a == a' && b == b' && c == c' && d == d'
  | .ts a es, .ts b es' => a == b && AV.beqL es es'
  | .agg a, .agg b => AV.beqL a b
  | .tup a, .tup b => AV.beqL a b
  | .fn f a b, .fn f' a' b' => fnBeq f f' && AV.beqL a a' && AV.beqL b b'
  | .ifc t v, .ifc t' v' => t == t' && AV.beq v v'
  | .mp a, .mp b => a == b
  | _, _ => false
def AV.beqL : List AV → List AV → Bool
  | [], [] => true
  | a :: l, b :: r => AV.beq a b && AV.beqL l r
  | _, _ => false
end
theorem fnBeq_eq : ∀ {f g : Fn}, fnBeq f g = true → f = g := by
  intro f g h
  cases f <;> cases g <;> simp_all [fnBeq]
mutual
theorem AV.beq_eq : ∀ {a b : AV}, AV.beq a b = true → a = b
  | .int .., b, h => by cases b <;> simp_all [AV.beq]
  | .bool _, b, h => by cases b <;> simp_all [AV.beq]
  | .str _, b, h => by cases b <;> simp_all [AV.beq]
  | .nilp, b, h => by cases b <;> simp_all [AV.beq]
  | .nils, b, h => by cases b <;> simp_all [AV.beq]
  | .nilf, b, h => by cases b <;> simp_all [AV.beq]
  | .nili, b, h => by cases b <;> simp_all [AV.beq]
  | .nilm, b, h => by cases b <;> simp_all [AV.beq]
  | .junk, b, h => by cases b <;> simp_all [AV.beq]
  | .ptr .., b, h => by cases b <;> simp_all [AV.beq]
  | .sl .., b, h => by cases b <;> simp_all [AV.beq]
  | .mp _, b, h => by cases b <;> simp_all [AV.beq]
  | .tp a, b, h => by
    cases b <;> simp only [AV.beq, Bool.false_eq_true] at h
    rw [AV.beq_eq h]
  | .ts s es, b, h => by
    cases b <;> simp only [AV.beq, Bool.false_eq_true, Bool.and_eq_true, beq_iff_eq] at h
    rw [h.1, AV.beqL_eq h.2]
  | .agg es, b, h => by
    cases b <;> simp only [AV.beq, Bool.false_eq_true] at h
    rw [AV.beqL_eq h]
  | .tup es, b, h => by
    cases b <;> simp only [AV.beq, Bool.false_eq_true] at h
    rw [AV.beqL_eq h]
  | .fn f x y, b, h => by
    cases b <;> simp only [AV.beq, Bool.false_eq_true, Bool.and_eq_true] at h
    rw [fnBeq_eq h.1.1, AV.beqL_eq h.1.2, AV.beqL_eq h.2]
  | .ifc t v, b, h => by
    cases b <;> simp only [AV.beq, Bool.false_eq_true, Bool.and_eq_true, beq_iff_eq] at h
    rw [h.1, AV.beq_eq h.2]
theorem AV.beqL_eq : ∀ {a b : List AV}, AV.beqL a b = true → a = b
  | [], [], _ => rfl
  | [], _ :: _, h => by simp [AV.beqL] at h
  | _ :: _, [], h => by simp [AV.beqL] at h
  | a :: l, b :: r, h => by
    simp only [AV.beqL, Bool.and_eq_true] at h
    rw [AV.beq_eq h.1, AV.beqL_eq h.2]
end
/-- What an operation comes to. -/
inductive AR where
  | val (v : AV) (m : AMem)
  | pan (v : AV) (m : AMem)
end Go.Proofs.YtiijjopdhjpalaaDoor

/-! The abstract evaluator, second part: operations, regions, code, calls. Conditions: none. -/
namespace Go.Proofs.YtiijjopdhjpalaaDoor
open Go
set_option linter.unusedVariables false
set_option linter.unusedSimpArgs false

def v? (m : AMem) : Option AV → Option AR
  | some v => some (.val v m)
  | none => none
def m? : Option AMem → Option AR
  | some m => some (.val (.tup []) m)
  | none => none
def call? : Res → Option AR
  | some (.ret v, m) => some (.val v m)
  | some (.pan v, m) => some (.pan v m)
  | none => none
def evL (env : AEnv) (l : List Opd) : List AV := l.map (Opd.ev env)
def fillP (cs : List AV) : List (Nat × Nat × AV) → Option (List AV)
  | [] => some cs
  | (off, sz, v) :: r => if v.cells.length = sz ∧ off + sz ≤ cs.length ∧ v.cells.all AV.one then fillP (cs.take off ++ v.cells ++ cs.drop (off + sz)) r else none
def fillE (sz : Nat) (es : List AV) : List (Nat × AV) → Option (List AV)
  | [] => some es
  | (i, v) :: r => if v.cells.length = sz ∧ i < es.length ∧ v.cells.all AV.one then fillE sz (es.set i v) r else none
def aApp (m : AMem) (new t sz bytes : Nat) (s : AV) (xs : List AV) : Option AR :=
  match s with
  | .nils => if xs.length * bytes ≤ limBytes then some (.val (.sl sz new 0 xs.length) (m.put new (.arr t sz xs))) else none
  | .sl s id i n => match m.get id with
    | some (.arr t0 s0 es) => if s = sz ∧ t0 = t ∧ s0 = sz ∧ i + n ≤ es.length ∧ (n + xs.length) * bytes ≤ limBytes then
        some (.val (.sl sz new 0 (n + xs.length)) ((m.kill id).put new (.arr t sz ((es.drop i).take n ++ xs)))) else none
    | _ => none
  | _ => none
def aCopy (m : AMem) (sz : Nat) (d : AV) (xs : List AV) : Option AR :=
  match d with
  | .nils => some (.val (.int .i64 0) m)
  | .sl s0 id i n =>
    if s0 ≠ sz then none else
    if n = 0 then some (.val (.int .i64 0) m) else
    match m.get id with
    | some (.arr t s es) => if s = sz ∧ i + n ≤ es.length then
        some (.val (.int .i64 ((min xs.length n : Nat) : Int)) (m.put id (.arr t s (es.take i ++ xs.take n ++ es.drop (i + min xs.length n))))) else none
    | _ => none
  | _ => none

def isInt : AV → Bool
  | .int _ _ => true
  | _ => false
def aOp (calls : Nat → AF) (env : AEnv) (m : AMem) (new : Nat) : AOp → Option AR
  | .mov x => some (.val (x.ev env) m)
  | .pick c a b => match c.ev env with
    | .bool q => cond q (some (.val (a.ev env) m)) (some (.val (b.ev env) m))
    | _ => none
  | .new t sz v => if fits (v.ev env).isAgg sz (v.ev env) then some (.val (.ptr new 0 0) (m.put new (.arr t sz [v.ev env]))) else none
  | .build zero parts => v? m ((fillP zero (parts.map fun p => (p.1, p.2.1, p.2.2.ev env))).map .agg)
  | .mkl t sz zeros parts => match fillE sz zeros (parts.map fun p => (p.1, p.2.ev env)) with
    | some es => some (.val (.sl sz new 0 es.length) (m.put new (.arr t sz es)))
    | none => none
  | .load agg sz p => v? m (aLoad m agg sz (p.ev env))
  | .store agg sz p v => m? (aStore m agg sz (p.ev env) (v.ev env))
  | .nchk x => match x.ev env with
    | .ptr id i o => some (.val (.ptr id i o) m)
    | .tp v => some (.val (.tp v) m)
    | _ => none
  | .bin op x y => v? m (aBin op (x.ev env) (y.ev env))
  | .eqs ks neg x y => match x.ev env, y.ev env with
    | .agg a, .agg b => v? m ((eqCells ks a b).map fun e => .bool (neg != e))
    | _, _ => none
  | .eqb neg x y => match x.ev env, y.ev env with
    | .bool a, .bool b => some (.val (.bool (neg != (a == b))) m)
    | _, _ => none
  | .eqn k neg x => v? m ((isNil k (x.ev env)).map fun e => .bool (neg != e))
  | .un op x => v? m (aUn op (x.ev env))
  | .conv k x => match x.ev env with
    | .int _ n => some (.val (.int k (k.wrap n)) m)
    | _ => none
  | .convSB t x => match x.ev env with
    | .str s => some (.val (.ts 1 (s.map fun b => .int .u8 b.toNat)) m)
    | _ => none
  | .convBS x => match elems m 1 (x.ev env) with
    | some es => match es.mapM byteOf with
      | some l => some (.val (.str l) m)
      | none => none
    | none => none
  | .convBB x => match x.ev env with
    | .sl sz id i n => match m.get id with
      | some (.arr _ s es) => if sz = 1 ∧ s = 1 ∧ 0 < n ∧ i + n ≤ es.length ∧ ((es.drop i).take n).all isInt = true then some (.val (.ts 1 ((es.drop i).take n)) (m.kill id)) else none
      | _ => none
    | _ => none
  | .ifc t x => some (.val (.ifc t (x.ev env)) m)
  | .mkf f first cap => some (.val (.fn f (evL env first) (evL env cap)) m)
  | .mks t sz bytes zero l c => match l.ev env, c.ev env with
    | .int _ n, .int _ k => cond (decide (0 ≤ n) && decide (n ≤ k) && decide (bytes * k ≤ 281474976710656) && decide (k ≤ 9223372036854775807))
        (some (.val (.sl sz new 0 n.toNat) (m.put new (.arr t sz (List.replicate n.toNat zero))))) none
    | _, _ => none
  | .slc sz x lo hi => match lo.map (fun o => asI (o.ev env)), hi.map (fun o => asI (o.ev env)) with
    | none, none => v? m (aSlc sz (x.ev env) 0 none)
    | some (some l), none => v? m (aSlc sz (x.ev env) l none)
    | none, some (some h) => v? m (aSlc sz (x.ev env) 0 (some h))
    | some (some l), some (some h) => v? m (aSlc sz (x.ev env) l (some h))
    | _, _ => none
  | .slcs x lo hi => match x.ev env, lo.map (fun o => asI (o.ev env)), hi.map (fun o => asI (o.ev env)) with
    | .str s, none, none => v? m (aSlcS s 0 none)
    | .str s, some (some l), none => v? m (aSlcS s l none)
    | .str s, none, some (some h) => v? m (aSlcS s 0 (some h))
    | .str s, some (some l), some (some h) => v? m (aSlcS s l (some h))
    | _, _, _ => none
  | .fad agg off sz x => v? m (aFad agg off sz (x.ev env))
  | .fld agg off sz x => match x.ev env with
    | .agg cs => v? m (part agg off sz cs)
    | _ => none
  | .iad sz x i => match i.ev env with
    | .int _ n => v? m (aIad sz (x.ev env) n)
    | _ => none
  | .iada n sz x i => match i.ev env, x.ev env with
    | .int _ k, .ptr id j o => cond (inRange k n) (some (.val (.ptr id j (o + k.toNat * sz)) m)) none
    | _, _ => none
  | .idx agg n sz x i => match x.ev env, i.ev env with
    | .agg cs, .int _ k => cond (inRange k n) (v? m (part agg (k.toNat * sz) sz cs)) none
    | _, _ => none
  | .idxs x i => match x.ev env, i.ev env with
    | .str s, .int _ k => cond (inRange k s.length) (v? m ((s[k.toNat]?).map fun b => .int .u8 b.toNat)) none
    | _, _ => none
  | .ext x i => match x.ev env with
    | .tup vs => v? m (vs[i]?)
    | _ => none
  | .len x => v? m ((lenA (x.ev env)).map fun n => .int .i64 n)
  | .lens x => match x.ev env with
    | .str s => some (.val (.int .i64 s.length) m)
    | _ => none
  | .app t sz bytes s x => match elems m sz (x.ev env) with
    | some xs => aApp m new t sz bytes (s.ev env) xs
    | none => none
  | .copy sz d s => match elems m sz (s.ev env) with
    | some xs => aCopy m sz (d.ev env) xs
    | none => none
  | .mx x y => match x.ev env, y.ev env with
    | .int k a, .int _ b => some (.val (.int k (if b > a then b else a)) m)
    | _, _ => none
  | .mn x y => match x.ev env, y.ev env with
    | .int k a, .int _ b => some (.val (.int k (if b < a then b else a)) m)
    | _, _ => none
  | .call f args => match f.ev env with
    | .fn (.func g) first cap => call? (calls g (first ++ evL env args ++ cap) m)
    | _ => none
  | .pan x => match x.ev env with
    | .ifc t v => some (.pan (.ifc t v) m)
    | _ => none
  | .tas t zero x => match x.ev env with
    | .nili => some (.val (.tup [zero, .bool false]) m)
    | .ifc t' v => if t' = t then some (.val (.tup [v, .bool true]) m) else some (.val (.tup [zero, .bool false]) m)
    | _ => none
  | .mkm => some (.val (.mp new) (m.put new (.map [])))
  | .look zero ok mp k => match mp.ev env with
    | .mp id => match m.get id with
      | some (.map es) => match mapFind (k.ev env) es with
        | some (some v) => some (.val (if ok then .tup [v, .bool true] else v) m)
        | some none => some (.val (if ok then .tup [zero, .bool false] else zero) m)
        | none => none
      | _ => none
    | .nilm => some (.val (if ok then .tup [zero, .bool false] else zero) m)
    | _ => none
  | .mset mp k v => match mp.ev env with
    | .mp id => match m.get id with
      | some (.map es) => m? ((mapSet (k.ev env) (v.ev env) es).map fun es => m.put id (.map es))
      | _ => none
    | _ => none
  | .del mp k => match mp.ev env with
    | .mp id => match m.get id with
      | some (.map es) => m? ((mapDel (k.ev env) es).map fun es => m.put id (.map es))
      | _ => none
    | .nilm => some (.val (.tup []) m)
    | _ => none

/-- The operations of a region, in their order; a guard that is looked at is written down. -/
def aOps (calls : Nat → AF) (base : Nat) : List AOper → AEnv → AMem → Kont → Res
  | [], env, m, K => K .normal env m
  | o :: r, env, m, K =>
    match o.g with
    | none => match aOp calls env m (base + o.k) o.op with
      | some (.val v m') => aOps calls base r (upd env o.dst v) m' K
      | some (.pan v m') => K (.panic v) env m'
      | none => none
    | some (none, _) => aOps calls base r (upd env o.dst (.tup [])) m K
    | some (some d, want) => match env d with
      | .bool q => cond (q == want)
          (match aOp calls (upd env (some d) (.bool want)) m (base + o.k) o.op with
            | some (.val v m') => aOps calls base r (upd (upd env (some d) (.bool want)) o.dst v) m' K
            | some (.pan v m') => K (.panic v) (upd env (some d) (.bool want)) m'
            | none => none)
          (aOps calls base r (upd (upd env (some d) (.bool !want)) o.dst (.tup [])) m K)
      | .tup [] => aOps calls base r (upd env o.dst (.tup [])) m K
      | _ => none

/-- One operation of a region. -/
def aStep (calls : Nat → AF) (base : Nat) (o : AOper) (env : AEnv) (m : AMem) : Option AR :=
  match o.g with
  | none => aOp calls env m (base + o.k) o.op
  | some (none, _) => some (.val (.tup []) m)
  | some (some d, want) => match env d with
    | .bool q => cond (q == want) (aOp calls env m (base + o.k) o.op) (some (.val (.tup []) m))
    | .tup [] => some (.val (.tup []) m)
    | _ => none
/-- What was read ahead of o, and might as well be read behind it, is the same behind it. -/
def again (calls : Nat → AF) (base : Nat) (chk : List (Nat × Nat)) (done : List AOper) (o : AOper) (env : AEnv) (m : AMem) : Bool :=
  done.all fun x => !chk.contains (x.k, o.k) || (match aStep calls base x env m with
    | some (.val v _) => (match x.dst with | some d => AV.beq v (env d) | none => true)
    | _ => false)
def aSeqD (calls : Nat → AF) (base : Nat) (chk : List (Nat × Nat)) : List AOper → List AOper → AEnv → AMem → Kont → Res
  | _, [], env, m, K => K .normal env m
  | done, o :: r, env, m, K => match aStep calls base o env m with
    | some (.val v m') => cond (again calls base chk done o env m') (aSeqD calls base chk (o :: done) r (upd env o.dst v) m' K) none
    | some (.pan v m') => K (.panic v) env m'
    | none => none

def loopN : Nat → (AEnv → AMem → Kont → Res) → AEnv → AMem → Kont → Res
  | 0, _, _, _, _ => none
  | n + 1, f, env, m, K => f env m fun e env m => match e with
    | .normal => loopN n f env m K
    | e => K e env m
def LOOPK : Nat := 1152921504606846976

def aCode (calls : Nat → AF) : ACode → AEnv → AMem → Kont → Res
  | .skip, env, m, K => K .normal env m
  | .reg ops, env, m, K => aOps calls m.next ops env (m.room ops.length) K
  | .regd chk ops, env, m, K => aSeqD calls m.next chk [] ops env (m.room ops.length) K
  | .seq a b, env, m, K => aCode calls a env m fun e env m => match e with
    | .normal => aCode calls b env m K
    | e => K e env m
  | .cond c a b, env, m, K => match c.ev env with
    | .bool q => cond q (aCode calls a env m K) (aCode calls b env m K)
    | _ => none
  | .blk id a, env, m, K => aCode calls a env m fun e env m => match e with
    | .exit j => if j = id then K .normal env m else K (.exit j) env m
    | e => K e env m
  | .loop a, env, m, K => loopN LOOPK (aCode calls a) env m K
  | .exit id, env, m, K => K (.exit id) env m
  | .ret, env, m, K => K .ret env m
  | .no, _, _, _ => none

/-- A result: a slot, or a variable in memory behind a slot. -/
inductive ARes where
  | slot (t : Nat)
  | cell (t : Nat) (agg : Bool) (sz : Nat)
  deriving Inhabited
structure AFun where
  res : List ARes
  body : ACode
  deriving Inhabited
def aRes (env : AEnv) (m : AMem) : ARes → Option AV
  | .slot t => some (env t)
  | .cell t agg sz => aLoad m agg sz (env t)
def aResL (env : AEnv) (m : AMem) : List ARes → Option (List AV)
  | [] => some []
  | r :: l => (aRes env m r).bind fun v => (aResL env m l).map (v :: ·)
def retV : List AV → AV
  | [v] => v
  | vs => .tup vs
def fin (res : List ARes) : Kont := fun e env m =>
  match e with
  | .normal | .ret => (aResL env m res).map fun vs => (.ret (retV vs), m)
  | .panic v => some (.pan v, m)
  | .exit _ => none
def env0 (args : List AV) : AEnv := fun i => (args[i]?).getD (.tup [])
def aBody (calls : Nat → AF) (f : AFun) : AF := fun args m => aCode calls f.body (env0 args) m (fin f.res)

/-! ### Reading back: what is owned becomes a tree -/
def rbL (f : AV → Option AV) : List AV → Option (List AV)
  | [] => some []
  | v :: l => (f v).bind fun w => (rbL f l).map (w :: ·)
def rb (m : AMem) : Nat → AV → Option AV
  | 0, _ => none
  | n + 1, v => match v with
    | .int k a => some (.int k a)
    | .bool b => some (.bool b)
    | .str s => some (.str s)
    | .nilp => some .nilp
    | .nils => some (.ts 0 [])
    | .nilf => some .nilf
    | .nili => some .nili
    | .nilm => some .nilm
    | .tp v => some (.tp v)
    | .ts s es => some (.ts s es)
    | .agg cs => (rbL (rb m n) cs).map .agg
    | .tup cs => (rbL (rb m n) cs).map .tup
    | .ifc t v => (rb m n v).map (.ifc t)
    | .fn f [] [] => some (.fn f [] [])
    | .ptr id i o => if o = 0 then (match m.get id with
      | some (.arr _ _ es) => match es[i]? with
        | some e => (rb m n e).map .tp
        | none => none
      | _ => none) else none
    | .sl _ id i k => if k = 0 then some (.ts 0 []) else match m.get id with
      | some (.arr _ s es) => if i + k ≤ es.length then (rbL (rb m n) ((es.drop i).take k)).map (.ts s) else none
      | _ => none
    | _ => none
/-- .. of what a call has made, and of nothing else. -/
def rbN (m : AMem) : Nat → AV → Option AV
  | 0, _ => none
  | n + 1, v => match v with
    | .int k a => some (.int k a)
    | .bool b => some (.bool b)
    | .str s => some (.str s)
    | .nilp => some .nilp
    | .nils => some (.ts 0 [])
    | .nilf => some .nilf
    | .nili => some .nili
    | .nilm => some .nilm
    | .ts s [] => some (.ts s [])
    | .agg cs => (rbL (rbN m n) cs).map .agg
    | .tup cs => (rbL (rbN m n) cs).map .tup
    | .ifc t v => (rbN m n v).map (.ifc t)
    | .fn f [] [] => some (.fn f [] [])
    | .ptr id i o => if o = 0 then (match m.get id with
      | some (.arr _ _ es) => match es[i]? with
        | some e => (rbN m n e).map .tp
        | none => none
      | _ => none) else none
    | .sl _ id i k => if k = 0 then some (.ts 0 []) else match m.get id with
      | some (.arr _ s es) => if i + k ≤ es.length then (rbL (rbN m n) ((es.drop i).take k)).map (.ts s) else none
      | _ => none
    | _ => none
def RBN : Nat := 12
inductive Pol where
  | keep
  | drop
  | pure
/-- Nothing of it lies in memory. -/
def flatL (f : AV → Bool) : List AV → Bool
  | [] => true
  | v :: l => f v && flatL f l
def flatV : Nat → AV → Bool
  | 0, _ => false
  | n + 1, v => match v with
    | .int .. | .bool _ | .str _ | .nilp | .nilf | .nili | .nilm => true
    | .ts _ [] => true
    | .agg cs | .tup cs => flatL (flatV n) cs
    | .ifc _ v => flatV n v
    | .fn _ [] [] => true
    | _ => false
/-- Run on trees, in a memory of its own; the result read back: it is made of what the call has made. -/
def borrow (F : AF) : AF := fun args m =>
  match rbL (rb m RBN) args with
  | none => none
  | some targs => match F targs .empty with
    | some (.ret v, m') => match rbN m' RBN v with
      | some v' => some (.ret v', m)
      | none => none
    | _ => none
/-- What the call has made is let go; the results are read back. -/
def dropped (F : AF) : AF := fun args m =>
  match F args m with
  | some (.ret v, m') => match rb (m'.news m.next) RBN v with
    | some v' => some (.ret v', m'.only m.next)
    | none => none
  | some (.pan v, m') => match rb (m'.news m.next) RBN v with
    | some v' => some (.pan v', m'.only m.next)
    | none => none
  | none => none
def Pol.wrap : Pol → AF → AF
  | .keep, F => F
  | .drop, F => dropped F
  | .pure, F => borrow F

structure Cfg where
  code : Nat → Option AFun
  plug : Nat → Option ((Nat → AF) → AF)
  pol : Nat → Pol
def callsN (c : Cfg) : Nat → Nat → AF
  | 0, _ => fun _ _ => none
  | n + 1, f => match c.plug f with
    | some F => F (callsN c n)
    | none => match c.code f with
      | some fn => (c.pol f).wrap (aBody (callsN c n) fn)
      | none => fun _ _ => none
end Go.Proofs.YtiijjopdhjpalaaDoor

/-! The abstract code of the model's code. Conditions: none. -/
namespace Go.Proofs.YtiijjopdhjpalaaDoor
open Go
set_option linter.unusedVariables false
set_option linter.unusedSimpArgs false

def aConst1 : Value → AV
  | .bool b => .bool b
  | .int k n => .int k n
  | .string s => .str s.data.toList
  | .pointer none => .nilp
  | .slice none 0 0 => .nils
  | .nilFunc => .nilf
  | .nilIface => .nili
  | .map none => .nilm
  | _ => .junk
def aConst : Value → AV
  | .agg cs => if (cs.toList.map aConst1).all AV.one then .agg (cs.toList.map aConst1) else .junk
  | .tuple cs => if cs.size = 0 then .tup [] else .junk
  | v => aConst1 v
def cOpd : Operand → Opd
  | .tmp t => .t t
  | .const v => .c (aConst v)
  | .global _ => .c .junk
  | .func f => .c (.fn (.func f) [] [])

/-- A type's kind, as far as it is asked. -/
inductive CK where
  | int
  | bool
  | str
  | nilable
  | agg
  | iface
  | other
  deriving DecidableEq
def ckOf : Option TypeDesc → CK
  | some (.int _) => .int
  | some .bool => .bool
  | some .string => .str
  | some (.slice _) | some (.map _ _) | some (.func _ _ _) | some (.pointer _) => .nilable
  | some (.interface _) => .iface
  | some (.struct _) | some (.array _ _) => .agg
  | _ => .other
def aggOf : Option TypeDesc → Option Bool
  | some (.struct _) | some (.array _ _) => some true
  | some _ => some false
  | none => none
def nkOf : Option TypeDesc → Option NK
  | some (.slice _) => some .slice
  | some (.map _ _) => some .map
  | some (.func _ _ _) => some .func
  | some (.pointer _) => some .ptr
  | some (.interface _) => some .iface
  | _ => none
def isNilC : NK → Operand → Bool
  | .iface, .const .nilIface | .ptr, .const (.pointer none) | .slice, .const (.slice none _ _) | .map, .const (.map none) | .func, .const .nilFunc => true
  | _, _ => false
/-- A struct of integers, truths and strings alone: its fields lie one behind the other, none is blank. -/
def ekOf : Option TypeDesc → Option EK
  | some (.int _) => some .int
  | some .bool => some .bool
  | some .string => some .str
  | _ => none
def flatFields (P : Program) : Nat → List Field → Option (List EK)
  | _, [] => some []
  | k, f :: r => if f.name ≠ "_" ∧ f.offset = k then
      (match ekOf (P.underlying f.type), flatFields P (k + 1) r with
        | some e, some l => some (e :: l)
        | _, _ => none) else none
def flatStruct (P : Program) (t : TypeId) : Option (List EK) :=
  match P.underlying t with
  | some (.struct fs) => if P.stoodInHeld t = false ∧ P.eqGuardType P.depth t = false then flatFields P 0 fs.toList else none
  | _ => none
def cParts (pl : List (Nat × Nat)) : List (Nat × Operand) → Option (List (Nat × Nat × Opd))
  | [] => some []
  | p :: r => match pl[p.1]?, cParts pl r with
    | some q, some l => some ((q.1, q.2, cOpd p.2) :: l)
    | _, _ => none
/-- The zero value of a type, if it is as large as the type says. -/
def zeroA (i : TypeInfo) : Option AV :=
  match i.zero with
  | some z => if fits (aConst z).isAgg i.size (aConst z) ∧ z.cells.size = i.size then some (aConst z) else none
  | none => none

def cOp (P : Program) : Op → Option AOp
  | .move x | .assign x => some (.mov (cOpd x))
  | .pick c a b => some (.pick (cOpd c) (cOpd a) (cOpd b))
  | .alloc e => match P.info? e with
    | some i => match zeroA i with
      | some z => if 0 < i.size then some (.new e i.size (.c z)) else none
      | none => none
    | none => none
  | .box e x => match P.info? e with
    | some i => if 0 < i.size then some (.new e i.size (cOpd x)) else none
    | none => none
  | .build t parts => match P.underlying t, P.info? t with
    | some (.struct fs), some i => match zeroA i, fs.toList.mapM (fun f => (P.info? f.type).map fun i => (f.offset, i.size)) with
      | some z, some pl => (cParts pl parts.toList).map (.build z.cells)
      | _, _ => none
    | some (.array _ e), some i => match zeroA i, P.info? e with
      | some z, some j => some (.build z.cells (parts.toList.map fun p => (p.1 * j.size, j.size, cOpd p.2)))
      | _, _ => none
    | _, _ => none
  | .buildSlice t n parts => match P.underlying t with
    | some (.slice e) => match P.info? e with
      | some j => match zeroA j with
        | some z => if n * j.size ≤ 1000 ∧ 0 < j.size then some (.mkl e j.size (List.replicate n z) (parts.toList.map fun p => (p.1, cOpd p.2))) else none
        | none => none
      | none => none
    | _ => none
  | .load t p => match aggOf (P.underlying t), P.info? t with
    | some g, some i => if g || i.size == 1 then some (.load g i.size (cOpd p)) else none
    | _, _ => none
  | .store t p v => match aggOf (P.underlying t), P.info? t with
    | some g, some i => if g || i.size == 1 then some (.store g i.size (cOpd p) (cOpd v)) else none
    | _, _ => none
  | .nilCheck x => some (.nchk (cOpd x))
  | .binOp op t x y _ =>
    if op = .eql ∨ op = .neq then
      match ckOf (P.underlying t) with
      | .int | .str => some (.bin op (cOpd x) (cOpd y))
      | .bool => some (.eqb (op = .neq) (cOpd x) (cOpd y))
      | .nilable | .iface => match nkOf (P.underlying t) with
        | some k => if isNilC k y then some (.eqn k (op = .neq) (cOpd x)) else if isNilC k x then some (.eqn k (op = .neq) (cOpd y)) else none
        | none => none
      | .agg => (flatStruct P t).map fun ks => .eqs ks (op = .neq) (cOpd x) (cOpd y)
      | .other => none
    else some (.bin op (cOpd x) (cOpd y))
  | .unOp op _ x => some (.un op (cOpd x))
  | .convert s d x => match P.underlying s, P.underlying d with
    | some (.int _), some (.int k) => some (.conv k (cOpd x))
    | some .string, some .string => some (.slcs (cOpd x) none none)
    | some (.slice e), some .string => if P.underlying e matches some (.int .u8) then some (.convBS (cOpd x)) else none
    | some (.slice e), some (.slice _) => if s = d then (if P.underlying e matches some (.int .u8) then some (.convBB (cOpd x)) else none) else none
    | some .string, some (.slice e) => if P.underlying e matches some (.int .u8) then some (.convSB e (cOpd x)) else none
    | _, _ => none
  | .makeInterface t x => if ckOf (P.underlying t) = .iface ∨ (P.underlying t).isNone then none else some (.ifc t (cOpd x))
  | .makeFunc f first cap => some (.mkf f (first.toList.map cOpd) (cap.toList.map cOpd))
  | .makeSlice t l c => match P.underlying t with
    | some (.slice e) => match P.info? e with
      | some j => match zeroA j with
        | some z => if 0 < j.size then some (.mks e j.size j.bytes z (cOpd l) (cOpd c)) else none
        | none => none
      | none => none
    | _ => none
  | .slice t x lo hi none => match P.underlying t with
    | some (.slice e) => (P.info? e).map fun j => .slc j.size (cOpd x) (lo.map cOpd) (hi.map cOpd)
    | some .string => some (.slcs (cOpd x) (lo.map cOpd) (hi.map cOpd))
    | _ => none
  | .fieldAddr s x k => match P.underlying s with
    | some (.struct fs) => match fs[k]? with
      | some f => match aggOf (P.underlying f.type), P.info? f.type with
        | some g, some i => if (g || i.size == 1) && i.size != 0 then some (.fad g f.offset i.size (cOpd x)) else none
        | _, _ => none
      | none => none
    | _ => none
  | .field s x k => match P.underlying s with
    | some (.struct fs) => match fs[k]? with
      | some f => match aggOf (P.underlying f.type), P.info? f.type with
        | some g, some i => if g || i.size == 1 then some (.fld g f.offset i.size (cOpd x)) else none
        | _, _ => none
      | none => none
    | _ => none
  | .indexAddr t x i => match P.underlying t with
    | some (.slice e) => (P.info? e).map fun j => .iad j.size (cOpd x) (cOpd i)
    | some (.array n e) => match P.info? e with
      | some j => if 1 < n then some (.iada n j.size (cOpd x) (cOpd i)) else none
      | none => none
    | _ => none
  | .index t x i => match P.underlying t with
    | some (.array n e) => match aggOf (P.underlying e), P.info? e with
      | some g, some j => if g || j.size == 1 then some (.idx g n j.size (cOpd x) (cOpd i)) else none
      | _, _ => none
    | some .string => some (.idxs (cOpd x) (cOpd i))
    | _ => none
  | .extract x i => some (.ext (cOpd x) i)
  | .typeAssert x _ t true => match P.info? t with
    | some i => match i.zero with
      | some z => if ckOf (P.underlying t) = .iface ∨ (P.underlying t).isNone then none else some (.tas t (aConst z) (cOpd x))
      | none => none
    | none => none
  | .panic x => some (.pan (cOpd x))
  | .call { callee := .value f, args, .. } => some (.call (cOpd f) (args.toList.map cOpd))
  | .call { callee := .builtin b, args, argTypes } => match b, args.toList, argTypes.toList with
    | .len, [x], [t] => match P.underlying t with
      | some (.slice _) => some (.len (cOpd x))
      | some .string => some (.lens (cOpd x))
      | _ => none
    | .append, [s, x], [t, u] => match P.underlying t with
      | some (.slice e) => match P.info? e with
        | some j => match zeroA j, P.underlying u with
          | some _, some (.slice _) | some _, some .string => if 0 < j.size ∧ j.bytes ≤ 1048576 ∧ 0 < j.bytes then some (.app e j.size j.bytes (cOpd s) (cOpd x)) else none
          | _, _ => none
        | none => none
      | _ => none
    | .copy, [d, s], [t, _] => match P.underlying t with
      | some (.slice e) => match P.info? e with
        | some j => if 0 < j.size then some (.copy j.size (cOpd d) (cOpd s)) else none
        | none => none
      | _ => none
    | .max, [x, y], _ => some (.mx (cOpd x) (cOpd y))
    | .min, [x, y], _ => some (.mn (cOpd x) (cOpd y))
    | _, _, _ => none
  | _ => none

/-! ### Regions that draw their order -/

/-- What an operation does to memory: nothing, it reads, it makes, it writes. -/
inductive Eff where
  | pure
  | read
  | make
  | write
  deriving DecidableEq
def callEff (pureFn : Nat → Bool) : Opd → Eff
  | .c (.fn (.func g) [] []) => if pureFn g then .read else .write
  | _ => .write
def effOf (pureFn : Nat → Bool) : AOp → Eff
  | .mov _ | .pick .. | .build .. | .nchk _ | .bin .. | .eqs .. | .eqb .. | .eqn .. | .un .. | .conv .. | .ifc .. | .mkf .. | .slc .. | .slcs .. | .fad .. | .fld ..
  | .iad .. | .iada .. | .idx .. | .idxs .. | .ext .. | .mx .. | .mn .. | .tas .. => .pure
  | .load .. | .convBS _ => .read
  | .len _ | .lens _ | .convSB .. => .pure
  | .new .. | .mkl .. | .mks .. => .make
  | .call f _ => callEff pureFn f
  | _ => .write
/-- May the earlier of two operations that nothing orders be a, the later one b? -/
def mayMix (a b : Eff) : Bool :=
  match a, b with
  | .pure, _ => true
  | .read, .pure | .read, .read | .read, .make => true
  | .make, .pure | .make, .make => true
  | _, _ => false
def opdTs : List Opd → List Nat
  | [] => []
  | .t i :: r => i :: opdTs r
  | .c _ :: r => opdTs r
def opds : AOp → List Opd
  | .mov x | .new _ _ x | .load _ _ x | .nchk x | .eqn _ _ x | .un _ x | .conv _ x | .convSB _ x | .convBS x | .convBB x | .ifc _ x | .fad _ _ _ x | .fld _ _ _ x | .ext x _ | .len x | .lens x | .pan x | .tas _ _ x => [x]
  | .pick a b c => [a, b, c]
  | .build _ ps => ps.map fun p => p.2.2
  | .mkl _ _ _ ps => ps.map fun p => p.2
  | .store _ _ a b | .bin _ a b | .eqs _ _ a b | .eqb _ a b | .mks _ _ _ _ a b | .iad _ a b | .iada _ _ a b | .idx _ _ _ a b | .idxs a b | .app _ _ _ a b | .copy _ a b | .mx a b | .mn a b | .look _ _ a b | .del a b => [a, b]
  | .mkf _ a b => a ++ b
  | .slc _ x lo hi | .slcs x lo hi => [x] ++ lo.toList ++ hi.toList
  | .call f as => f :: as
  | .mkm => []
  | .mset a b c => [a, b, c]
def looks (o : AOper) : List Nat :=
  (match o.g with | some (some d, _) => [d] | _ => []) ++ opdTs (opds o.op)
def apartA (x y : AOper) : Bool :=
  (match x.dst with | some d => !(looks y).contains d && y.dst != some d | none => true) &&
  (match y.dst with | some d => !(looks x).contains d | none => true)

def dstOK (nt : Nat) : Option Nat → Bool
  | some d => decide (d < nt)
  | none => true
def cOper (P : Program) (ops : Array Oper) (nt k : Nat) (o : Oper) : Option AOper :=
  if dstOK nt o.dst = true then
    match cOp P o.op, o.guard with
    | some op, none => some ⟨k, o.dst, none, op⟩
    | some op, some (j, want) => match (ops[j]?).bind (·.dst) with
      | some d => if d < nt then some ⟨k, o.dst, some (some d, want), op⟩ else none
      | none => some ⟨k, o.dst, some (none, want), op⟩
    | none, _ => none
  else none
def cOpers (P : Program) (ops : Array Oper) (nt : Nat) : Nat → List Oper → Option (List AOper)
  | _, [] => some []
  | k, o :: r => match cOper P ops nt k o, cOpers P ops nt (k + 1) r with
    | some a, some l => some (a :: l)
    | _, _ => none
def un (l s : List Nat) : List Nat := l.foldr (fun x s => if s.contains x then s else x :: s) s
def depsOf (o : Oper) : List Nat := (o.after.toList.filter (Region.binds .any)).map (·.on)
def upOf (acc : List (List Nat)) : List Nat → List Nat
  | [] => []
  | d :: r => un (d :: (acc[d]?).getD []) (upOf acc r)
/-- Of each operation the earlier ones that it must stand behind. -/
def befores : List Oper → List (List Nat) → List (List Nat)
  | [], acc => acc
  | o :: r, acc => befores r (acc ++ [upOf acc (depsOf o)])
def rankOf : Eff → Nat
  | .pure => 0
  | .read => 1
  | .make => 2
  | .write => 3
/-- The one of least rank, the earliest among these. -/
def pickMin (f : AOper → Nat) : List AOper → Option AOper
  | [] => none
  | x :: r => match pickMin f r with
    | some y => if f y < f x then some y else some x
    | none => some x
/-- An order: of those that may be next, what does least. -/
def canon (f : AOper → Nat) (deps : List (List Nat)) : Nat → List AOper → List AOper
  | 0, _ => []
  | n + 1, rest => match pickMin f (rest.filter fun o => ((deps[o.k]?).getD []).all fun d => !(rest.any fun x => x.k == d)) with
    | some o => o :: canon f deps n (rest.filter fun x => x.k != o.k)
    | none => []
def pairsB (R : AOper → AOper → Bool) : List AOper → Bool
  | [] => true
  | x :: r => r.all (R x) && pairsB R r
/-- No slot is written that was looked at, or written, ahead of it. -/
def ssaB (x y : AOper) : Bool := match y.dst with
  | some d => !(looks x).contains d && x.dst != some d
  | none => true
def selfB (x : AOper) : Bool := match x.dst with
  | some d => !(looks x).contains d
  | none => false
/-- What is read ahead of something that writes, though nothing orders the two. -/
def chkOf (pureFn : Nat → Bool) (b : List (List Nat)) : List AOper → List (Nat × Nat)
  | [] => []
  | x :: r => (r.filter fun y => !((b[y.k]?).getD []).contains x.k && decide (effOf pureFn x.op = .read) && decide (effOf pureFn y.op = .write)).map (fun y => (x.k, y.k)) ++ chkOf pureFn b r
/-- Where the tape picks the order: each two operations are ordered, or the later one may go ahead. -/
def drawOK (pureFn : Nat → Bool) (ops : List Oper) (chk : List (Nat × Nat)) (cl : List AOper) : Bool :=
  let b := befores ops []
  (List.range ops.length).all (fun i => cl.any fun x => x.k == i) &&
  chk.all (fun p => cl.all fun x => x.k != p.2 || decide (effOf pureFn x.op = .write)) &&
  cl.all (fun x => !(chk.any fun p => p.1 == x.k) || selfB x) && pairsB (fun x y => !(chk.any fun p => p.1 == x.k) || ssaB x y) cl &&
  pairsB (fun x y => x.k != y.k && (((b[y.k]?).getD []).contains x.k || ((mayMix (effOf pureFn x.op) (effOf pureFn y.op) || decide (effOf pureFn x.op = .read) && chk.contains (x.k, y.k)) && apartA x y))) cl
def mkReg (chk : List (Nat × Nat)) (cl : List AOper) : ACode := match chk with
  | [] => .reg cl
  | _ => .regd chk cl
def edgesOK : Nat → List Oper → Bool
  | _, [] => true
  | k, o :: r => (depsOf o).all (fun d => decide (d < k)) && edgesOK (k + 1) r
def subB (l : List AOper) (ord : List AOper) : Option (List AOper) :=
  match ord with
  | [] => some []
  | o :: r => match l[o.k]?, subB l r with
    | some x, some t => some (x :: t)
    | _, _ => none

def cCode (P : Program) (pureFn : Nat → Bool) (nt : Nat) : Code → Option ACode
  | .skip => some .skip
  | .region _ ops draw => match cOpers P ops nt 0 ops.toList with
    | some l => if draw then
        (match subB l (canon (fun o => rankOf (effOf pureFn o.op)) (ops.toList.map depsOf) l.length l) with
          | some cl => if cl.length = l.length ∧ drawOK pureFn ops.toList (chkOf pureFn (befores ops.toList []) cl) cl = true ∧ edgesOK 0 ops.toList = true then some (mkReg (chkOf pureFn (befores ops.toList []) cl) cl) else none
          | none => none)
        else some (.reg l)
    | none => none
  | .seq a b => match cCode P pureFn nt a, cCode P pureFn nt b with
    | some x, some y => some (.seq x y)
    | _, _ => none
  | .cond c a b => match cCode P pureFn nt a, cCode P pureFn nt b with
    | some x, some y => some (.cond (cOpd c) x y)
    | _, _ => none
  | .block id a => (cCode P pureFn nt a).map (.blk id)
  | .loop a => (cCode P pureFn nt a).map .loop
  | .exit id => some (.exit id)
  | .ret => some .ret
  | _ => none
def cRes (P : Program) : ResultVar → Option ARes
  | .tmp t => some (.slot t)
  | .cell a t => match aggOf (P.underlying t), P.info? t with
    | some g, some i => if g || i.size == 1 then some (.cell a g i.size) else none
    | _, _ => none
def cResL (P : Program) : List ResultVar → Option (List ARes)
  | [] => some []
  | r :: l => match cRes P r, cResL P l with
    | some a, some b => some (a :: b)
    | _, _ => none
def cFun (P : Program) (pureFn : Nat → Bool) (f : Func) : Option AFun :=
  match f.body with
  | some c => match cCode P pureFn f.ntmps c, cResL P f.results.toList with
    | some b, some r => some ⟨r, b⟩
    | _, _ => none
  | none => none
end Go.Proofs.YtiijjopdhjpalaaDoor

/-! How an abstract value stands for a value in a world. Conditions: none. -/
namespace Go.Proofs.YtiijjopdhjpalaaDoor
open Go
set_option linter.unusedVariables false
set_option linter.unusedSimpArgs false

/-- Where an object lies: a block, its first cell there, room for so many elements of so many cells. -/
structure Blk where
  b : Nat
  base : Nat
  cap : Nat
  sz : Nat

def oneV : Value → Bool
  | .agg _ | .tuple _ => false
  | _ => true

/- Trees: what they stand for lies outside of 'O', which alone is written. -/
mutual
inductive RepT (O : Nat → Prop) (w : World) : AV → Value → Prop
  | int {k n} : RepT O w (.int k n) (.int k n)
  | bool {b} : RepT O w (.bool b) (.bool b)
  | str {s} : RepT O w (.str s) (.string ⟨s.toArray⟩)
  | nilp : RepT O w .nilp (.pointer none)
  | tp {v b o} : CellsAt O w v.cells b o → v.cells ≠ [] → RepT O w (.tp v) (.pointer (some ⟨b, o, none⟩))
  | nils : RepT O w .nils (.slice none 0 0)
  | ts {sz es b o cap} : ElsAt O w sz es b o → es.length ≤ cap → RepT O w (.ts sz es) (.slice (some ⟨b, o, none⟩) es.length cap)
  | ts0 {sz a cap} : RepT O w (.ts sz []) (.slice a 0 cap)
  | agg {cs vs} : RepTL O w cs vs → (∀ v ∈ vs, oneV v = true) → RepT O w (.agg cs) (.agg vs.toArray)
  | tup {cs vs} : RepTL O w cs vs → RepT O w (.tup cs) (.tuple vs.toArray)
  | fn {f a b x y} : RepTL O w a x → RepTL O w b y → RepT O w (.fn f a b) (.func f x.toArray y.toArray)
  | nilf : RepT O w .nilf .nilFunc
  | ifc {t v u} : RepT O w v u → RepT O w (.ifc t v) (.iface t u)
  | nili : RepT O w .nili .nilIface
  | nilm : RepT O w .nilm (.map none)
inductive RepTL (O : Nat → Prop) (w : World) : List AV → List Value → Prop
  | nil : RepTL O w [] []
  | cons {c cs v vs} : RepT O w c v → RepTL O w cs vs → RepTL O w (c :: cs) (v :: vs)
inductive CellsAt (O : Nat → Prop) (w : World) : List AV → Nat → Nat → Prop
  | nil {b o} : CellsAt O w [] b o
  | cons {c cs b o v} : ¬ O b → w.cell? ⟨b, o, none⟩ = some v → oneV v = true → RepT O w c v → CellsAt O w cs b (o + 1) → CellsAt O w (c :: cs) b o
inductive ElsAt (O : Nat → Prop) (w : World) : Nat → List AV → Nat → Nat → Prop
  | nil {sz b o} : ElsAt O w sz [] b o
  | cons {sz e es b o} : e.cells.length = sz → 0 < sz → CellsAt O w e.cells b o → ElsAt O w sz es b (o + sz) → ElsAt O w sz (e :: es) b o
end

/- Values of slots and of owned cells. -/
mutual
inductive Rep (β : Nat → Option Blk) (O : Nat → Prop) (w : World) : AV → Value → Prop
  | tree {v u} : RepT O w v u → Rep β O w v u
  | ptr {id i off bl} : β id = some bl → Rep β O w (.ptr id i off) (.pointer (some ⟨bl.b, bl.base + i * bl.sz + off, none⟩))
  | sl {sz id i n cap bl} : β id = some bl → bl.sz = sz → n ≤ cap → i + cap ≤ bl.cap → Rep β O w (.sl sz id i n) (.slice (some ⟨bl.b, bl.base + i * bl.sz, none⟩) n cap)
  | sl0 {sz id i a} : Rep β O w (.sl sz id i 0) (.slice a 0 0)
  | agg {cs vs} : RepL β O w cs vs → (∀ v ∈ vs, oneV v = true) → Rep β O w (.agg cs) (.agg vs.toArray)
  | tup {cs vs} : RepL β O w cs vs → Rep β O w (.tup cs) (.tuple vs.toArray)
  | fn {f a b x y} : RepL β O w a x → RepL β O w b y → Rep β O w (.fn f a b) (.func f x.toArray y.toArray)
  | ifc {t v u} : Rep β O w v u → Rep β O w (.ifc t v) (.iface t u)
  | mp {id bl} : β id = some bl → Rep β O w (.mp id) (.map (some bl.b))
  | junk {u} : Rep β O w .junk u
inductive RepL (β : Nat → Option Blk) (O : Nat → Prop) (w : World) : List AV → List Value → Prop
  | nil : RepL β O w [] []
  | cons {c cs v vs} : Rep β O w c v → RepL β O w cs vs → RepL β O w (c :: cs) (v :: vs)
end

/-- What is not owned stays, and stays not owned. -/
def Keeps (O : Nat → Prop) (w : World) (O' : Nat → Prop) (w' : World) : Prop :=
  (w.heap.size ≤ w'.heap.size ∧ w'.os = w.os ∧ w'.output = w.output) ∧ ∀ b, b < w.heap.size → ¬ O b → ¬ O' b ∧ w'.heap[b]? = w.heap[b]?
theorem Keeps.refl (O : Nat → Prop) (w : World) : Keeps O w O w := ⟨⟨Nat.le_refl _, rfl, rfl⟩, fun _ _ h => ⟨h, rfl⟩⟩
theorem Keeps.trans {O O' O'' w w' w''} (h : Keeps O w O' w') (h' : Keeps O' w' O'' w'') : Keeps O w O'' w'' :=
  ⟨⟨Nat.le_trans h.1.1 h'.1.1, h'.1.2.1.trans h.1.2.1, h'.1.2.2.trans h.1.2.2⟩, fun b hb ho => by
    obtain ⟨h1, h2⟩ := h.2 b hb ho
    obtain ⟨h3, h4⟩ := h'.2 b (by have := h.1.1; omega) h1
    exact ⟨h3, h4.trans h2⟩⟩
theorem cell_lt {w : World} {b o : Nat} {v : Value} (h : w.cell? ⟨b, o, none⟩ = some v) : b < w.heap.size := by
  rcases Nat.lt_or_ge b w.heap.size with h' | h'
  · exact h'
  · simp [World.cell?, Array.getElem?_eq_none h'] at h
theorem Keeps.cell {O w O' w'} (h : Keeps O w O' w') {b o : Nat} {v : Value} (ho : ¬ O b) (hc : w.cell? ⟨b, o, none⟩ = some v) :
    ¬ O' b ∧ w'.cell? ⟨b, o, none⟩ = some v := by
  obtain ⟨h1, h2⟩ := h.2 b (cell_lt hc) ho
  refine ⟨h1, ?_⟩
  rw [← hc]
  simp [World.cell?, h2]

mutual
theorem RepT.keep {O O' : Nat → Prop} {w w' : World} (k : Keeps O w O' w') : ∀ {v u}, RepT O w v u → RepT O' w' v u
  | _, _, .int => .int
  | _, _, .bool => .bool
  | _, _, .str => .str
  | _, _, .nilp => .nilp
  | _, _, .tp h e => .tp (h.keep k) e
  | _, _, .nils => .nils
  | _, _, .ts h l => .ts (h.keep k) l
  | _, _, .ts0 => .ts0
  | _, _, .agg h e => .agg (h.keep k) e
  | _, _, .tup h => .tup (h.keep k)
  | _, _, .fn h g => .fn (h.keep k) (g.keep k)
  | _, _, .nilf => .nilf
  | _, _, .ifc h => .ifc (h.keep k)
  | _, _, .nili => .nili
  | _, _, .nilm => .nilm
theorem RepTL.keep {O O' : Nat → Prop} {w w' : World} (k : Keeps O w O' w') : ∀ {v u}, RepTL O w v u → RepTL O' w' v u
  | _, _, .nil => .nil
  | _, _, .cons h t => .cons (h.keep k) (t.keep k)
theorem CellsAt.keep {O O' : Nat → Prop} {w w' : World} (k : Keeps O w O' w') : ∀ {v b o}, CellsAt O w v b o → CellsAt O' w' v b o
  | _, _, _, .nil => .nil
  | _, _, _, .cons h c e r t => .cons (k.cell h c).1 (k.cell h c).2 e (r.keep k) (t.keep k)
theorem ElsAt.keep {O O' : Nat → Prop} {w w' : World} (k : Keeps O w O' w') : ∀ {s v b o}, ElsAt O w s v b o → ElsAt O' w' s v b o
  | _, _, _, _, .nil => .nil
  | _, _, _, _, .cons h z c t => .cons h z (c.keep k) (t.keep k)
end
/-- One map of objects goes on as another. -/
def Goes (β β' : Nat → Option Blk) : Prop := ∀ id bl, β id = some bl → β' id = some bl
theorem Goes.refl (β) : Goes β β := fun _ _ h => h
theorem Goes.trans {β β' β''} (h : Goes β β') (h' : Goes β' β'') : Goes β β'' := fun _ _ e => h' _ _ (h _ _ e)
mutual
theorem Rep.keep {β β' O O' w w'} (g : Goes β β') (k : Keeps O w O' w') : ∀ {v u}, Rep β O w v u → Rep β' O' w' v u
  | _, _, .tree h => .tree (h.keep k)
  | _, _, .ptr h => .ptr (g _ _ h)
  | _, _, .sl h z a b => .sl (g _ _ h) z a b
  | _, _, .sl0 => .sl0
  | _, _, .agg h e => .agg (h.keep g k) e
  | _, _, .tup h => .tup (h.keep g k)
  | _, _, .fn h h' => .fn (h.keep g k) (h'.keep g k)
  | _, _, .ifc h => .ifc (h.keep g k)
  | _, _, .mp h => .mp (g _ _ h)
  | _, _, .junk => .junk
theorem RepL.keep {β β' O O' w w'} (g : Goes β β') (k : Keeps O w O' w') : ∀ {v u}, RepL β O w v u → RepL β' O' w' v u
  | _, _, .nil => .nil
  | _, _, .cons h t => .cons (h.keep g k) (t.keep g k)
end
end Go.Proofs.YtiijjopdhjpalaaDoor

/-! Abstract memory and a world; what a step may do. Conditions: none. -/
namespace Go.Proofs.YtiijjopdhjpalaaDoor
open Go
set_option linter.unusedVariables false
set_option linter.unusedSimpArgs false

section inv
variable {β : Nat → Option Blk} {O : Nat → Prop} {w : World}
theorem RepTL.toL : ∀ {cs vs}, RepTL O w cs vs → RepL β O w cs vs
  | _, _, .nil => .nil
  | _, _, .cons h t => .cons (.tree h) t.toL
theorem rep_int {k n u} (h : Rep β O w (.int k n) u) : u = .int k n := by cases h with | tree h => cases h; rfl
theorem rep_bool {b u} (h : Rep β O w (.bool b) u) : u = .bool b := by cases h with | tree h => cases h; rfl
theorem rep_str {s u} (h : Rep β O w (.str s) u) : u = .string ⟨s.toArray⟩ := by cases h with | tree h => cases h; rfl
theorem rep_nilp {u} (h : Rep β O w .nilp u) : u = .pointer none := by cases h with | tree h => cases h; rfl
theorem rep_nils {u} (h : Rep β O w .nils u) : u = .slice none 0 0 := by cases h with | tree h => cases h; rfl
theorem rep_nilf {u} (h : Rep β O w .nilf u) : u = .nilFunc := by cases h with | tree h => cases h; rfl
theorem rep_nili {u} (h : Rep β O w .nili u) : u = .nilIface := by cases h with | tree h => cases h; rfl
theorem rep_nilm {u} (h : Rep β O w .nilm u) : u = .map none := by cases h with | tree h => cases h; rfl
theorem rep_ptr {id i off u} (h : Rep β O w (.ptr id i off) u) : ∃ bl, β id = some bl ∧ u = .pointer (some ⟨bl.b, bl.base + i * bl.sz + off, none⟩) := by
  cases h with
  | tree h => cases h
  | ptr h => exact ⟨_, h, rfl⟩
theorem rep_mp {id u} (h : Rep β O w (.mp id) u) : ∃ bl, β id = some bl ∧ u = .map (some bl.b) := by
  cases h with
  | tree h => cases h
  | mp h => exact ⟨_, h, rfl⟩
theorem rep_tp {v u} (h : Rep β O w (.tp v) u) : ∃ b o, u = .pointer (some ⟨b, o, none⟩) ∧ CellsAt O w v.cells b o ∧ v.cells ≠ [] := by
  cases h with | tree h => cases h with | tp h e => exact ⟨_, _, rfl, h, e⟩
theorem rep_sl {sz id i n u} (h : Rep β O w (.sl sz id i n) u) :
    (∃ bl cap, β id = some bl ∧ bl.sz = sz ∧ n ≤ cap ∧ i + cap ≤ bl.cap ∧ u = .slice (some ⟨bl.b, bl.base + i * bl.sz, none⟩) n cap) ∨ (n = 0 ∧ ∃ a, u = .slice a 0 0) := by
  cases h with
  | tree h => cases h
  | sl h z a b => exact .inl ⟨_, _, h, z, a, b, rfl⟩
  | sl0 => exact .inr ⟨rfl, _, rfl⟩
theorem rep_ts {sz es u} (h : Rep β O w (.ts sz es) u) :
    (∃ b o cap, es.length ≤ cap ∧ ElsAt O w sz es b o ∧ u = .slice (some ⟨b, o, none⟩) es.length cap) ∨ (es = [] ∧ ∃ a cap, u = .slice a 0 cap) := by
  cases h with | tree h => cases h with
  | ts h l => exact .inl ⟨_, _, _, l, h, rfl⟩
  | ts0 => exact .inr ⟨rfl, _, _, rfl⟩
theorem rep_agg {cs u} (h : Rep β O w (.agg cs) u) : ∃ vs, u = .agg vs.toArray ∧ RepL β O w cs vs ∧ ∀ v ∈ vs, oneV v = true := by
  cases h with
  | tree h => cases h with | agg h e => exact ⟨_, rfl, h.toL, e⟩
  | agg h e => exact ⟨_, rfl, h, e⟩
theorem rep_tup {cs u} (h : Rep β O w (.tup cs) u) : ∃ vs, u = .tuple vs.toArray ∧ RepL β O w cs vs := by
  cases h with
  | tree h => cases h with | tup h => exact ⟨_, rfl, h.toL⟩
  | tup h => exact ⟨_, rfl, h⟩
theorem rep_fn {f a b u} (h : Rep β O w (.fn f a b) u) : ∃ x y, u = .func f x.toArray y.toArray ∧ RepL β O w a x ∧ RepL β O w b y := by
  cases h with
  | tree h => cases h with | fn h g => exact ⟨_, _, rfl, h.toL, g.toL⟩
  | fn h g => exact ⟨_, _, rfl, h, g⟩
theorem rep_ifc {t v u} (h : Rep β O w (.ifc t v) u) : ∃ x, u = .iface t x ∧ Rep β O w v x := by
  cases h with
  | tree h => cases h with | ifc h => exact ⟨_, rfl, .tree h⟩
  | ifc h => exact ⟨_, rfl, h⟩
theorem RepL.length : ∀ {cs vs}, RepL β O w cs vs → cs.length = vs.length
  | _, _, .nil => rfl
  | _, _, .cons _ t => by simp [t.length]
theorem RepL.get : ∀ {cs vs}, RepL β O w cs vs → ∀ (i : Nat) {c}, cs[i]? = some c → ∃ v, vs[i]? = some v ∧ Rep β O w c v
  | _, _, .nil, i, c, h => by simp at h
  | _, _, .cons (v := v) a t, 0, c, h => by simp at h; subst h; exact ⟨v, by simp, a⟩
  | _, _, .cons a t, i + 1, c, h => by simpa using t.get i (by simpa using h)
theorem RepL.get' : ∀ {cs vs}, RepL β O w cs vs → ∀ (i : Nat) {v}, vs[i]? = some v → ∃ c, cs[i]? = some c ∧ Rep β O w c v
  | _, _, .nil, i, c, h => by simp at h
  | _, _, .cons (c := c) a t, 0, v, h => by simp at h; subst h; exact ⟨c, by simp, a⟩
  | _, _, .cons a t, i + 1, c, h => by simpa using t.get' i (by simpa using h)
theorem RepL.append : ∀ {cs vs cs' vs'}, RepL β O w cs vs → RepL β O w cs' vs' → RepL β O w (cs ++ cs') (vs ++ vs')
  | _, _, _, _, .nil, h => h
  | _, _, _, _, .cons a t, h => .cons a (t.append h)
theorem RepL.drop : ∀ (n : Nat) {cs vs}, RepL β O w cs vs → RepL β O w (cs.drop n) (vs.drop n)
  | 0, _, _, h => h
  | n + 1, _, _, .nil => .nil
  | n + 1, _, _, .cons _ t => t.drop n
theorem RepL.take : ∀ (n : Nat) {cs vs}, RepL β O w cs vs → RepL β O w (cs.take n) (vs.take n)
  | 0, _, _, _ => .nil
  | n + 1, _, _, .nil => .nil
  | n + 1, _, _, .cons a t => .cons a (t.take n)
/-- What may lie in one cell stands for what may. -/
theorem rep_one {c u} (h : Rep β O w c u) (h1 : c.one = true) : oneV u = true := by
  cases h with
  | tree h => cases h <;> first | rfl | simp [AV.one] at h1
  | _ => first | rfl | simp [AV.one] at h1
theorem rep_cells {v u} (h : Rep β O w v u) (hn : v.isAgg = false) (h1 : v.one = true) : u.cells = #[u] := by
  have := rep_one h h1
  cases u <;> simp_all [oneV, Value.cells]
end inv

/-- An object and its block. -/
def BlkOk (β : Nat → Option Blk) (O : Nat → Prop) (w : World) (bl : Blk) (t sz : Nat) (es : List AV) : Prop :=
  bl.sz = sz ∧ O bl.b ∧ es.length ≤ bl.cap ∧ ∃ cs, w.heap[bl.b]? = some (.cells cs t (0, 0)) ∧ bl.base + bl.cap * sz ≤ cs.size ∧
    ∀ i e, es[i]? = some e → ∀ j c, e.cells[j]? = some c → ∃ u, cs[bl.base + i * sz + j]? = some u ∧ oneV u = true ∧ Rep β O w c u
def ObjOk (β : Nat → Option Blk) (O : Nat → Prop) (w : World) (id : Nat) : AObj → Prop
  | .arr t sz es => 0 < sz ∧ (∀ e ∈ es, e.cells.length = sz) ∧ (es ≠ [] → ∃ bl, β id = some bl) ∧ ∀ bl, β id = some bl → BlkOk β O w bl t sz es
  | .map _ => False
/-- Package-level variables that are laid, and stay: block, cell, what lies there. -/
def globs : List (Nat × Nat × Value) := [
  (0, 0, .iface 125 (.agg #[.pointer (some ⟨1, 31, none⟩)]))
  ]
def GlobOk (O : Nat → Prop) (w : World) : Prop := ∀ p, p ∈ globs → ¬ O p.1 ∧ w.cell? ⟨p.1, p.2.1, none⟩ = some p.2.2
theorem GlobOk.keep {O O' : Nat → Prop} {w w' : World} (h : GlobOk O w) (k : Keeps O w O' w') : GlobOk O' w' := fun p hp => k.cell (h p hp).1 (h p hp).2
structure Sim (β : Nat → Option Blk) (O : Nat → Prop) (w : World) (m : AMem) : Prop where
  objs : ∀ id o, m.get id = some o → ObjOk β O w id o
  inj : ∀ i j oi oj bi bj, m.get i = some oi → m.get j = some oj → β i = some bi → β j = some bj → bi.b = bj.b → i = j
  fresh : ∀ id, m.next ≤ id → β id = none
  bound : ∀ b, O b → b < w.heap.size
  glob : GlobOk O w

/-- A step of the abstract machine, and of the world's. 'new': the one number of an object that it may take. -/
structure Stp (β : Nat → Option Blk) (O : Nat → Prop) (w : World) (m : AMem) (new : Nat) (β' : Nat → Option Blk) (O' : Nat → Prop) (w' : World) (m' : AMem) : Prop where
  goes : Goes β β'
  keeps : Keeps O w O' w'
  next : m.next ≤ m'.next
  old : ∀ id, id < m.next → id ≠ new → β' id = β id
theorem Stp.refl (β O w m new) : Stp β O w m new β O w m := ⟨.refl _, .refl _ _, Nat.le_refl _, fun _ _ _ => rfl⟩

/-- What is owned is not what a tree stands on. -/
theorem Sim.cellsNe {β O w m} (h : Sim β O w m) {id o bl} (hm : m.get id = some o) (hb : β id = some bl) : O bl.b := by
  have := h.objs id o hm
  cases o with
  | arr t sz es => exact (this.2.2.2 bl hb).2.1
  | map es => exact this.elim

/-- A slot, a constant, a function: the operand as it stands. -/
def EnvOk (β : Nat → Option Blk) (O : Nat → Prop) (w : World) (env : AEnv) (nt : Nat) (tmps : Array Value) : Prop :=
  nt ≤ tmps.size ∧ ∀ t, Rep β O w (env t) (tmps.getD t undef)
theorem EnvOk.keep {β β' O O' w w' env nt tmps} (g : Goes β β') (k : Keeps O w O' w') (h : EnvOk β O w env nt tmps) : EnvOk β' O' w' env nt tmps :=
  ⟨h.1, fun t => (h.2 t).keep g k⟩
theorem EnvOk.put {β O w env nt tmps} (h : EnvOk β O w env nt tmps) {d : Option Nat} (hd : ∀ x, d = some x → x < nt) {v u} (hv : Rep β O w v u) (a : Act) (ha : a.tmps = tmps) :
    EnvOk β O w (upd env d v) nt (a.put d u).tmps := by
  cases d with
  | none => simpa [upd, Act.put, ha] using h
  | some x =>
    have hx := hd x rfl
    refine ⟨by simpa [Act.put, ha] using h.1, fun t => ?_⟩
    simp only [upd, Act.put, ha]
    by_cases e : t = x
    · subst e
      have : t < tmps.size := Nat.lt_of_lt_of_le hx h.1
      simp [this, hv]
    · have := h.2 t
      simp only [if_neg e]
      simpa [Array.getElem?_setIfInBounds_ne (Ne.symm e)] using this
theorem rep_const1 (β O w) (v : Value) : Rep β O w (aConst1 v) v := by
  unfold aConst1
  split <;> first
    | exact .tree .int | exact .tree .bool | exact .tree .nilp | exact .tree .nils | exact .tree .nilf | exact .tree .nili | exact .tree .nilm | exact .junk
    | (rename_i s; have := RepT.str (O := O) (w := w) (s := s.data.toList); exact .tree (by simpa using this))
theorem repL_const1 (β O w) : ∀ (l : List Value), RepL β O w (l.map aConst1) l
  | [] => .nil
  | v :: l => .cons (rep_const1 β O w v) (repL_const1 β O w l)
theorem rep_const (β O w) (v : Value) : Rep β O w (aConst v) v := by
  unfold aConst
  split
  · rename_i cs
    split
    · rename_i h
      have hl := repL_const1 β O w cs.toList
      have : Rep β O w (.agg (cs.toList.map aConst1)) (.agg cs.toList.toArray) := .agg hl (fun v hv => by
        obtain ⟨i, hi⟩ := List.getElem?_of_mem hv
        obtain ⟨c, hc, hr⟩ := hl.get' i hi
        exact rep_one hr (by rw [List.all_eq_true] at h; exact h c (List.mem_of_getElem? hc)))
      simpa using this
    · exact .junk
  · rename_i cs
    split
    · rename_i h
      have h0 : cs = #[] := by simpa using h
      subst h0
      exact .tup (vs := []) .nil
    · exact .junk
  · exact rep_const1 β O w _
theorem ev_ok {β O w env nt} {a : Act} (h : EnvOk β O w env nt a.tmps) (x : Operand) : Rep β O w ((cOpd x).ev env) (a.eval x) := by
  cases x with
  | tmp t => exact h.2 t
  | const v => exact rep_const β O w v
  | global g => exact .junk
  | func f => exact .fn (x := []) (y := []) .nil .nil
theorem evL_ok {β O w env nt} {a : Act} (h : EnvOk β O w env nt a.tmps) : ∀ (l : List Operand), RepL β O w (evL env (l.map cOpd)) (l.map a.eval)
  | [] => .nil
  | x :: l => .cons (ev_ok h x) (evL_ok h l)
end Go.Proofs.YtiijjopdhjpalaaDoor

/-! Operations that leave memory alone: what they come to, and what the abstract ones do. Conditions: none. -/
namespace Go.Proofs.YtiijjopdhjpalaaDoor
open Go
set_option linter.unusedVariables false
set_option linter.unusedSimpArgs false

section
variable {P : Program} {β : Nat → Option Blk} {O : Nat → Prop} {w : World}

theorem run_exec_value {s : Sem Value} {u : Value} {w w' : World} (h : s.run P w = .ok u w') : (do pure (Next.value (← s)) : Sem Next).run P w = .ok (.value u) w' := by
  simp only [Sem.run_bind, h, Result.andThen_ok, Sem.run_pure]

theorem binS_ok {op : BinOp} {a b : List UInt8} {v : AV} (h : binS op a b = some v) (t : TypeId) :
    ∃ u, (binOp op t (.string ⟨a.toArray⟩) (.string ⟨b.toArray⟩)).run P w = .ok u w ∧ Rep β O w v u := by
  have e : ((⟨a.toArray⟩ : ByteArray).toList == (⟨b.toArray⟩ : ByteArray).toList) = (a == b) := by
    simp [ByteArray.toList_eq]
  cases op <;> simp only [binS, Option.some.injEq, reduceCtorEq] at h <;> subst h <;>
    exact ⟨_, by simp [binOp, Op.stringOp, e, pure, Sem.run], .tree .bool⟩
theorem binI_ok {op : BinOp} {k : IntKind} {a b : Int} {v : AV} (h : binI op k a b = some v) (hs : op ≠ .shl ∧ op ≠ .shr) (t : TypeId) :
    ∃ u, (binOp op t (.int k a) (.int k b)).run P w = .ok u w ∧ Rep β O w v u := by
  cases op <;> simp only [binI, Option.some.injEq, reduceCtorEq] at h
  case quo | rem =>
    split at h
    · cases h
    · rename_i hb
      injection h with h
      subst h
      exact ⟨_, by simp [binOp, Op.intDiv, hb, pure, Sem.run], .tree .int⟩
  all_goals subst h
  case add | sub | mul => exact ⟨_, by simp [binOp, Op.intArith, pure, Sem.run], .tree .int⟩
  case and | or | xor | andNot => exact ⟨_, by simp [binOp, Op.intBits, pure, Sem.run], .tree .int⟩
  all_goals exact ⟨_, by simp [binOp, Op.intCmp, pure, Sem.run], .tree .bool⟩
theorem eqGuard_int (op : BinOp) (t : TypeId) (x y : Operand) (k : IntKind) (a : Int) (v : Value) : eqGuard op t x y (.int k a) v = pure () := by cases op <;> rfl
theorem eqGuard_str (op : BinOp) (t : TypeId) (x y : Operand) (s : ByteArray) (v : Value) : eqGuard op t x y (.string s) v = pure () := by cases op <;> rfl
theorem aBin_ok {op : BinOp} {x y : AV} {v : AV} (h : aBin op x y = some v) (t : TypeId) (xo yo : Operand) {ux uy : Value} (hx : Rep β O w x ux) (hy : Rep β O w y uy) :
    ∃ u, (do eqGuard op t xo yo ux uy; binOp op t ux uy : Sem Value).run P w = .ok u w ∧ Rep β O w v u := by
  unfold aBin at h
  split at h
  · rename_i k a k' b
    rw [rep_int hx, rep_int hy, eqGuard_int]
    simp only [Sem.run_bind, Sem.run_pure, Result.andThen_ok]
    split at h
    · split at h
      · cases h
      · rename_i hb
        injection h with h
        subst h
        exact ⟨_, by simp [binOp, Op.shift, hb, pure, Sem.run], .tree .int⟩
    · split at h
      · cases h
      · rename_i hb
        injection h with h
        subst h
        exact ⟨_, by simp [binOp, Op.shift, hb, pure, Sem.run], .tree .int⟩
    · rename_i h1 h2
      split at h
      · rename_i hk
        subst hk
        exact binI_ok h ⟨h1, h2⟩ t
      · cases h
  · rename_i a b
    rw [rep_str hx, rep_str hy, eqGuard_str]
    simp only [Sem.run_bind, Sem.run_pure, Result.andThen_ok]
    exact binS_ok h t
  · cases h
theorem aUn_ok {op : UnOp} {x v : AV} (h : aUn op x = some v) {u : Value} (hx : Rep β O w x u) : ∃ r, (Op.unary op u).run P w = .ok r w ∧ Rep β O w v r := by
  unfold aUn at h
  split at h
  · injection h with h; subst h; rw [rep_int hx]; exact ⟨_, by simp [Op.unary, Op.intArith, pure, Sem.run], .tree .int⟩
  · injection h with h; subst h; rw [rep_int hx]; exact ⟨_, by simp [Op.unary, Op.intBits, pure, Sem.run], .tree .int⟩
  · injection h with h; subst h; rw [rep_bool hx]; exact ⟨_, by simp [Op.unary, pure, Sem.run], .tree .bool⟩
  · cases h
theorem eqb_ok (neg a b : Bool) (op : BinOp) (hop : op = if neg then .neq else .eql) (t : TypeId) (ht : P.underlying t = some .bool) (xo yo : Operand) :
    (do eqGuard op t xo yo (.bool a) (.bool b); binOp op t (.bool a) (.bool b) : Sem Value).run P w = .ok (.bool (neg != (a == b))) w := by
  have e : (Op.equal t (.bool a) (.bool b)).run P w = .ok (a == b) w := by
    have e0 : Op.equal t (.bool a) (.bool b) = Op.equalIn (9999 + 1) t (.bool a) (.bool b) := rfl
    rw [e0, Op.equalIn]
    simp only [Sem.run_bind, run_underlying ht, Result.andThen_ok, Sem.run_pure]
  cases neg <;> subst hop <;> simp [eqGuard_at_bool, Sem.run_bind, Sem.run_pure, binOp, e]

/-- '==' and '!=' by what Op.equal says. -/
theorem run_eq_of {op : BinOp} {neg e : Bool} (hop : op = if neg then .neq else .eql) {t : TypeId} {x y : Value} {xo yo : Operand}
    (hg : (eqGuard op t xo yo x y).run P w = .ok () w) (hb : binOp .eql t x y = (do pure (.bool (← Op.equal t x y)))) (hb' : binOp .neq t x y = (do pure (.bool (!(← Op.equal t x y)))))
    (he : (Op.equal t x y).run P w = .ok e w) : (do eqGuard op t xo yo x y; binOp op t x y : Sem Value).run P w = .ok (.bool (neg != e)) w := by
  cases neg
  · simp only [Bool.false_eq_true, if_false] at hop
    subst hop
    simp only [Sem.run_bind, hg, Result.andThen_ok, hb, he, Sem.run_pure, Bool.bne_false, Bool.false_bne]
  · simp only [if_true] at hop
    subst hop
    simp only [Sem.run_bind, hg, Result.andThen_ok, hb', he, Sem.run_pure, Bool.true_bne]
def NilC (c : Value) : NK → Prop
  | .iface => c = .nilIface
  | .ptr => c = .pointer none
  | .slice => ∃ a b, c = .slice none a b
  | .map => c = .map none
  | .func => c = .nilFunc
theorem isNilC_iff {k : NK} {o : Operand} (h : isNilC k o = true) : ∃ c, o = .const c ∧ NilC c k := by
  unfold isNilC at h
  split at h <;> first | exact ⟨_, rfl, rfl⟩ | exact ⟨_, rfl, _, _, rfl⟩ | cases h
theorem equal_succ (t : TypeId) (x y : Value) : Op.equal t x y = Op.equalIn (9999 + 1) t x y := rfl
theorem nil_slice {v : AV} {u : Value} {e : Bool} (hn : isNil .slice v = some e) (hv : Rep β O w v u) : ∃ a n c, u = .slice a n c ∧ e = a.isNone := by
  cases v <;> simp only [isNil, reduceCtorEq, Option.some.injEq] at hn
  case nils => subst hn; rw [rep_nils hv]; exact ⟨_, _, _, rfl, rfl⟩
  case sl sz id i n =>
    split at hn
    · cases hn
    · rename_i h0
      injection hn with hn
      subst hn
      rcases rep_sl hv with ⟨bl, cap, _, _, _, _, rfl⟩ | ⟨h, _⟩
      · exact ⟨_, _, _, rfl, rfl⟩
      · exact absurd h h0
  case ts sz es =>
    split at hn
    · cases hn
    · injection hn with hn
      subst hn
      rcases rep_ts hv with ⟨b, o, cap, _, _, rfl⟩ | ⟨h, _⟩
      · exact ⟨_, _, _, rfl, rfl⟩
      · cases h
theorem nil_ptr {v : AV} {u : Value} {e : Bool} (hn : isNil .ptr v = some e) (hv : Rep β O w v u) : ∃ a, u = .pointer a ∧ e = a.isNone := by
  cases v <;> simp only [isNil, reduceCtorEq, Option.some.injEq] at hn <;> subst hn
  case nilp => rw [rep_nilp hv]; exact ⟨_, rfl, rfl⟩
  case ptr => obtain ⟨bl, _, rfl⟩ := rep_ptr hv; exact ⟨_, rfl, rfl⟩
  case tp => obtain ⟨b, o, rfl, _⟩ := rep_tp hv; exact ⟨_, rfl, rfl⟩
theorem nil_map {v : AV} {u : Value} {e : Bool} (hn : isNil .map v = some e) (hv : Rep β O w v u) : ∃ a, u = .map a ∧ e = a.isNone := by
  cases v <;> simp only [isNil, reduceCtorEq, Option.some.injEq] at hn <;> subst hn
  case nilm => rw [rep_nilm hv]; exact ⟨_, rfl, rfl⟩
  case mp => obtain ⟨bl, _, rfl⟩ := rep_mp hv; exact ⟨_, rfl, rfl⟩
theorem nil_func {v : AV} {u : Value} {e : Bool} (hn : isNil .func v = some e) (hv : Rep β O w v u) : (u = .nilFunc ∧ e = true) ∨ ∃ f x y, u = .func f x y ∧ e = false := by
  cases v <;> simp only [isNil, reduceCtorEq, Option.some.injEq] at hn <;> subst hn
  case nilf => exact .inl ⟨rep_nilf hv, rfl⟩
  case fn => obtain ⟨x, y, rfl, _⟩ := rep_fn hv; exact .inr ⟨_, _, _, rfl, rfl⟩
theorem nil_iface {v : AV} {u : Value} {e : Bool} (hn : isNil .iface v = some e) (hv : Rep β O w v u) : (u = .nilIface ∧ e = true) ∨ ∃ t x, u = .iface t x ∧ e = false := by
  cases v <;> simp only [isNil, reduceCtorEq, Option.some.injEq] at hn <;> subst hn
  case nili => exact .inl ⟨rep_nili hv, rfl⟩
  case ifc => obtain ⟨x, rfl, _⟩ := rep_ifc hv; exact .inr ⟨_, _, rfl, rfl⟩
theorem eqn_ok {k : NK} {t : TypeId} {v : AV} {u c : Value} {e neg : Bool} {op : BinOp} (hop : op = if neg then .neq else .eql) (hk : nkOf (P.underlying t) = some k)
    (hn : isNil k v = some e) (hv : Rep β O w v u)
    (hc : NilC c k) (xo : Operand) :
    (do eqGuard op t xo (.const c) u c; binOp op t u c : Sem Value).run P w = .ok (.bool (neg != e)) w ∧
    (do eqGuard op t (.const c) xo c u; binOp op t c u : Sem Value).run P w = .ok (.bool (neg != e)) w := by
  unfold nkOf at hk
  split at hk <;> cases hk <;> rename_i hu
  · obtain ⟨a, n, l, rfl, rfl⟩ := nil_slice hn hv
    obtain ⟨x, y, rfl⟩ : ∃ a b, c = .slice none a b := hc
    constructor
    · refine run_eq_of hop ?_ rfl rfl ?_
      · cases op <;> rfl
      · rw [equal_succ, Op.equalIn]; simp only [Sem.run_bind, run_underlying hu, Result.andThen_ok]; cases a <;> rfl
    · refine run_eq_of hop ?_ rfl rfl ?_
      · cases op <;> rfl
      · rw [equal_succ, Op.equalIn]; simp only [Sem.run_bind, run_underlying hu, Result.andThen_ok]; cases a <;> rfl
  · obtain ⟨a, rfl, rfl⟩ := nil_map hn hv
    have hc : c = .map none := hc
    subst hc
    constructor
    · refine run_eq_of hop ?_ rfl rfl ?_
      · cases op <;> rfl
      · rw [equal_succ, Op.equalIn]; simp only [Sem.run_bind, run_underlying hu, Result.andThen_ok]; cases a <;> rfl
    · refine run_eq_of hop ?_ rfl rfl ?_
      · cases op <;> rfl
      · rw [equal_succ, Op.equalIn]; simp only [Sem.run_bind, run_underlying hu, Result.andThen_ok]; cases a <;> rfl
  · have hc : c = .nilFunc := hc
    subst hc
    rcases nil_func hn hv with ⟨rfl, rfl⟩ | ⟨f, x, y, rfl, rfl⟩ <;> constructor <;> refine run_eq_of hop ?_ rfl rfl ?_
    all_goals first
      | (cases op <;> rfl)
      | (rw [equal_succ, Op.equalIn]; simp only [Sem.run_bind, run_underlying hu, Result.andThen_ok]; rfl)
  · obtain ⟨a, rfl, rfl⟩ := nil_ptr hn hv
    have hc : c = .pointer none := hc
    subst hc
    constructor
    · refine run_eq_of hop ?_ rfl rfl ?_
      · cases op <;> rfl
      · rw [equal_succ, Op.equalIn]; simp only [Sem.run_bind, run_underlying hu, Result.andThen_ok]; cases a <;> rfl
    · refine run_eq_of hop ?_ rfl rfl ?_
      · cases op <;> rfl
      · rw [equal_succ, Op.equalIn]; simp only [Sem.run_bind, run_underlying hu, Result.andThen_ok]; cases a <;> rfl
  · have hc : c = .nilIface := hc
    subst hc
    rcases nil_iface hn hv with ⟨rfl, rfl⟩ | ⟨f, x, rfl, rfl⟩ <;> constructor <;> refine run_eq_of hop ?_ rfl rfl ?_
    all_goals first
      | (cases op <;> simp [eqGuard, Sem.run_pure] <;> rfl)
      | (rw [equal_succ, Op.equalIn]; simp only [Sem.run_bind, run_underlying hu, Result.andThen_ok]; rfl)
end
end Go.Proofs.YtiijjopdhjpalaaDoor

/-! Reading: fields, elements, loads. Conditions: none. -/
namespace Go.Proofs.YtiijjopdhjpalaaDoor
open Go
set_option linter.unusedVariables false
set_option linter.unusedSimpArgs false

theorem CellsAt.get {O w} : ∀ {cs : List AV} {b o}, CellsAt O w cs b o → ∀ (i : Nat) {c}, cs[i]? = some c → ¬ O b ∧ ∃ v, w.cell? ⟨b, o + i, none⟩ = some v ∧ oneV v = true ∧ RepT O w c v
  | _, _, _, .nil, i, c, h => by simp at h
  | _, _, _, .cons (v := v) a hc h1 hr t, 0, c, h => by simp at h; subst h; exact ⟨a, v, hc, h1, hr⟩
  | _, _, _, .cons a hc h1 hr t, i + 1, c, h => by
    obtain ⟨x, y, z⟩ := t.get i (by simpa using h)
    exact ⟨x, y, by rw [show ∀ o : Nat, o + (i + 1) = o + 1 + i from fun o => by omega]; exact z⟩
theorem CellsAt.drop {O w} : ∀ (n : Nat) {cs : List AV} {b o}, CellsAt O w cs b o → CellsAt O w (cs.drop n) b (o + n)
  | 0, _, _, _, h => h
  | n + 1, _, _, _, .nil => .nil
  | n + 1, _, _, _, .cons a hc h1 hr t => by
    have := t.drop n
    rw [show ∀ o : Nat, o + (n + 1) = o + 1 + n from fun o => by omega]
    simpa using this
theorem CellsAt.take {O w} : ∀ (n : Nat) {cs : List AV} {b o}, CellsAt O w cs b o → CellsAt O w (cs.take n) b o
  | 0, _, _, _, _ => .nil
  | n + 1, _, _, _, .nil => .nil
  | n + 1, _, _, _, .cons a hc h1 hr t => .cons a hc h1 hr (t.take n)
theorem ElsAt.get {O w} : ∀ {sz} {es : List AV} {b o}, ElsAt O w sz es b o → ∀ (i : Nat) {e}, es[i]? = some e → e.cells.length = sz ∧ 0 < sz ∧ CellsAt O w e.cells b (o + i * sz)
  | _, _, _, _, .nil, i, e, h => by simp at h
  | _, _, _, _, .cons a z c t, 0, e, h => by simp at h; subst h; exact ⟨a, z, by simpa using c⟩
  | sz, _, _, _, .cons a z c t, i + 1, e, h => by
    obtain ⟨x, y, z⟩ := t.get i (by simpa using h)
    exact ⟨x, y, by rw [show ∀ o : Nat, o + (i + 1) * sz = o + sz + i * sz from fun o => by rw [Nat.add_mul]; omega]; exact z⟩
theorem ElsAt.drop {O w} : ∀ (n : Nat) {sz} {es : List AV} {b o}, ElsAt O w sz es b o → ElsAt O w sz (es.drop n) b (o + n * sz)
  | 0, _, _, _, _, h => by simpa using h
  | n + 1, _, _, _, _, .nil => .nil
  | n + 1, sz, _, _, _, .cons a z c t => by
    have := t.drop n
    rw [show ∀ o : Nat, o + (n + 1) * sz = o + sz + n * sz from fun o => by rw [Nat.add_mul]; omega]
    simpa using this
theorem ElsAt.take {O w} : ∀ (n : Nat) {sz} {es : List AV} {b o}, ElsAt O w sz es b o → ElsAt O w sz (es.take n) b o
  | 0, _, _, _, _, _ => .nil
  | n + 1, _, _, _, _, .nil => .nil
  | n + 1, _, _, _, _, .cons a z c t => .cons a z c (t.take n)
/-- The cells of a tree as values. -/
theorem CellsAt.vals {O w} : ∀ {cs : List AV} {b o}, CellsAt O w cs b o → ∃ vs, vs.length = cs.length ∧ RepTL O w cs vs ∧ (∀ v ∈ vs, oneV v = true) ∧ ∀ j v, vs[j]? = some v → w.cell? ⟨b, o + j, none⟩ = some v
  | _, _, _, .nil => ⟨[], rfl, .nil, by simp, by simp⟩
  | _, _, _, .cons (v := v) a hc h1 hr t => by
    obtain ⟨vs, hl, hrep, hone, hat⟩ := t.vals
    refine ⟨v :: vs, by simp [hl], .cons hr hrep, by simpa using ⟨h1, hone⟩, fun j u hj => ?_⟩
    cases j with
    | zero => simp at hj; subst hj; exact hc
    | succ j => rw [show ∀ o : Nat, o + (j + 1) = o + 1 + j from fun o => by omega]; exact hat j u (by simpa using hj)

section
variable {P : Program} {β : Nat → Option Blk} {O : Nat → Prop} {w : World}
theorem run_isAgg {t : TypeId} {g : Bool} (h : aggOf (P.underlying t) = some g) : (isAgg t).run P w = .ok g w := by
  unfold aggOf at h
  split at h
  · rename_i hu; injection h with h; subst h; simp [isAgg, Sem.run_bind, run_underlying hu]
  · rename_i hu; injection h with h; subst h; simp [isAgg, Sem.run_bind, run_underlying hu]
  · rename_i d h1 h2 hu
    injection h with h; subst h
    simp only [isAgg, Sem.run_bind, run_underlying hu, Result.andThen_ok]
    rfl
  · cases h
theorem run_sizeOf' {t : TypeId} {i : TypeInfo} (h : P.info? t = some i) : (sizeOf t).run P w = .ok i.size w := by
  simp [sizeOf, typeInfo, h]
theorem addr_add (b o n : Nat) : (⟨b, o, none⟩ : Addr).add n = ⟨b, o + n, none⟩ := Addr.add_lit b o n
/-- A variable that lies in cells which are known. -/
theorem run_loadVar_at {t : TypeId} {g : Bool} {i : TypeInfo} (hg : aggOf (P.underlying t) = some g) (hi : P.info? t = some i) {b o : Nat} {vs : List Value}
    (hl : vs.length = i.size) (hat : ∀ j v, vs[j]? = some v → w.cell? ⟨b, o + j, none⟩ = some v) :
    (loadVar t ⟨b, o, none⟩).run P w = if g then .ok (.agg vs.toArray) w else (match w.cell? ⟨b, o, none⟩ with | some v => .ok v w | none => (load ⟨b, o, none⟩).run P w) := by
  have hc := run_loadCells_list (P := P) w ⟨b, o, none⟩ vs (fun j v hj => by rw [addr_add]; exact hat j v hj)
  cases g
  · simp only [loadVar, Sem.run_bind, run_isAgg hg, Result.andThen_ok, Bool.false_eq_true, if_false]
    cases h : w.cell? ⟨b, o, none⟩ with
    | none => rfl
    | some v => simp [run_load, h]
  · simp only [loadVar, Sem.run_bind, run_isAgg hg, Result.andThen_ok, if_true, run_sizeOf' hi, ← hl, hc, Sem.run_pure]
theorem part_ok {agg : Bool} {off sz : Nat} {cs : List AV} {v : AV} (h : Go.Proofs.YtiijjopdhjpalaaDoor.part agg off sz cs = some v) {t : TypeId} {i : TypeInfo} (hg : aggOf (P.underlying t) = some agg) (hi : P.info? t = some i)
    (hs : i.size = sz) {vs : List Value} (hr : RepL β O w cs vs) (h1 : ∀ v ∈ vs, oneV v = true) : ∃ u, (Go.part t vs.toArray off).run P w = .ok u w ∧ Rep β O w v u := by
  unfold Go.Proofs.YtiijjopdhjpalaaDoor.part at h
  cases agg
  · simp only [Bool.false_eq_true, if_false] at h
    split at h
    · rename_i x hx
      split at h
      · cases h
      · injection h with h
        subst h
        obtain ⟨u, hu, hru⟩ := hr.get off hx
        refine ⟨u, ?_, hru⟩
        simp [Go.part, Sem.run_bind, run_isAgg hg, hu]
    · cases h
  · simp only [if_true] at h
    split at h
    · rename_i hle
      injection h with h
      subst h
      refine ⟨.agg ((vs.drop off).take sz).toArray, ?_, .agg ((hr.drop off).take sz) (fun v hv => h1 v (List.mem_of_mem_drop (List.mem_of_mem_take hv)))⟩
      simp [Go.part, Sem.run_bind, run_isAgg hg, run_sizeOf' hi, hs, List.extract_toArray, List.extract_eq_take_drop]
    · cases h

theorem cells_one {v : AV} {c : AV} (h : v.isAgg = false) : v.cells = [v] := by cases v <;> simp_all [AV.isAgg, AV.cells]
theorem load_tree {agg : Bool} {sz : Nat} {v : AV} (hf : fits agg sz v = true) {t : TypeId} {i : TypeInfo} (hg : aggOf (P.underlying t) = some agg) (hi : P.info? t = some i) (hs : i.size = sz)
    {b o : Nat} (hc : CellsAt O w v.cells b o) : ∃ u, (loadVar t ⟨b, o, none⟩).run P w = .ok u w ∧ Rep β O w v u := by
  obtain ⟨vs, hl, hrep, h1, hat⟩ := hc.vals
  cases v with
  | agg cs =>
    simp only [fits, Bool.and_eq_true, beq_iff_eq] at hf
    obtain ⟨⟨ha, hlen⟩, _⟩ := hf
    subst ha
    simp only [AV.cells] at hl hrep
    refine ⟨.agg vs.toArray, ?_, .tree (.agg hrep h1)⟩
    rw [run_loadVar_at hg hi (by rw [hl, hlen, hs]) hat]
    rfl
  | _ =>
    simp only [fits, Bool.and_eq_true, beq_iff_eq, Bool.not_eq_true'] at hf
    obtain ⟨⟨ha, hlen⟩, _⟩ := hf
    subst ha
    simp only [AV.cells] at hl hrep
    match vs, hl with
    | [x], _ =>
      have h0 := hat 0 x rfl
      simp only [Nat.add_zero] at h0
      refine ⟨x, ?_, .tree (by cases hrep; assumption)⟩
      rw [run_loadVar_at hg hi (by rw [hs, hlen]; rfl) hat, h0]
      rfl
/-- The cells of an object's element, from one on. -/
theorem BlkOk.cellAt {bl : Blk} {t sz : Nat} {es : List AV} (h : BlkOk β O w bl t sz es) {i : Nat} {e : AV} (he : es[i]? = some e) {j : Nat} {c : AV} (hc : e.cells[j]? = some c) :
    ∃ u, w.cell? ⟨bl.b, bl.base + i * bl.sz + j, none⟩ = some u ∧ oneV u = true ∧ Rep β O w c u := by
  obtain ⟨hz, _, _, cs, hh, _, hat⟩ := h
  obtain ⟨u, hu, h1, hr⟩ := hat i e he j c hc
  exact ⟨u, by simp [World.cell?, hh, hz, hu], h1, hr⟩
theorem BlkOk.valsFrom {bl : Blk} {t sz : Nat} {es : List AV} (h : BlkOk β O w bl t sz es) {i : Nat} {e : AV} (he : es[i]? = some e) :
    ∀ (n j : Nat), j + n ≤ e.cells.length → ∃ vs, vs.length = n ∧ RepL β O w ((e.cells.drop j).take n) vs ∧ (∀ v ∈ vs, oneV v = true) ∧
      ∀ k v, vs[k]? = some v → w.cell? ⟨bl.b, bl.base + i * bl.sz + j + k, none⟩ = some v
  | 0, j, _ => ⟨[], rfl, by simpa using .nil, by simp, by simp⟩
  | n + 1, j, hl => by
    have hj : j < e.cells.length := by omega
    obtain ⟨u, hu, h1, hr⟩ := h.cellAt he (List.getElem?_eq_getElem hj)
    obtain ⟨vs, hvl, hrep, hone, hat⟩ := h.valsFrom he n (j + 1) (by omega)
    refine ⟨u :: vs, by simp [hvl], ?_, by simpa using ⟨h1, hone⟩, fun k v hk => ?_⟩
    · rw [List.drop_eq_getElem_cons hj, List.take_succ_cons]
      exact .cons hr hrep
    · cases k with
      | zero => simp at hk; subst hk; exact hu
      | succ k => rw [show ∀ o : Nat, o + j + (k + 1) = o + (j + 1) + k from fun o => by omega]; exact hat k v (by simpa using hk)
theorem load_obj {agg : Bool} {off sz : Nat} {es : List AV} {i0 : Nat} {e v : AV} (hp : Go.Proofs.YtiijjopdhjpalaaDoor.part agg off sz e.cells = some v) {bl : Blk} {ty s : Nat} (hb : BlkOk β O w bl ty s es) (he : es[i0]? = some e)
    {t : TypeId} {i : TypeInfo} (hg : aggOf (P.underlying t) = some agg) (hi : P.info? t = some i) (hs : i.size = sz) (h1 : agg = true ∨ sz = 1) :
    ∃ u, (loadVar t ⟨bl.b, bl.base + i0 * bl.sz + off, none⟩).run P w = .ok u w ∧ Rep β O w v u := by
  unfold Go.Proofs.YtiijjopdhjpalaaDoor.part at hp
  cases agg
  · simp only [Bool.false_eq_true, if_false] at hp
    split at hp
    · rename_i x hx
      split at hp
      · cases hp
      · injection hp with hp
        subst hp
        obtain ⟨u, hu, _, hr⟩ := hb.cellAt he hx
        refine ⟨u, ?_, hr⟩
        have h1 : sz = 1 := by simpa using h1
        rw [run_loadVar_at (vs := [u]) hg hi (by simp [hs, h1]) (fun j v hj => by
          cases j with
          | zero => simp at hj; subst hj; exact hu
          | succ j => simp at hj), hu]
        rfl
    · cases hp
  · simp only [if_true] at hp
    split at hp
    · rename_i hle
      injection hp with hp
      subst hp
      obtain ⟨vs, hvl, hrep, hone, hat⟩ := hb.valsFrom he sz off hle
      refine ⟨.agg vs.toArray, ?_, .agg hrep hone⟩
      rw [run_loadVar_at hg hi (by rw [hvl, hs]) hat]
      rfl
    · cases hp
theorem aLoad_ok {m : AMem} (hs : Sim β O w m) {agg : Bool} {sz : Nat} {p v : AV} (h : aLoad m agg sz p = some v) {u : Value} (hp : Rep β O w p u)
    {t : TypeId} {i : TypeInfo} (hg : aggOf (P.underlying t) = some agg) (hi : P.info? t = some i) (hz : i.size = sz) (h1 : agg = true ∨ sz = 1) :
    ∃ r, (Instr.loadAt t u).run P w = .ok r w ∧ Rep β O w v r := by
  unfold aLoad at h
  split at h
  · split at h
    · rename_i hf
      injection h with h
      subst h
      obtain ⟨b, o, rfl, hc, _⟩ := rep_tp hp
      obtain ⟨r, hr, hv⟩ := load_tree (β := β) hf hg hi hz hc
      exact ⟨r, by simp [Instr.loadAt, Instr.sureAddr, Sem.run_bind, hr], hv⟩
    · cases h
  · split at h
    · rename_i ty s es hget
      split at h
      · rename_i e he
        obtain ⟨bl, hb, rfl⟩ := rep_ptr hp
        have hb' := (hs.objs _ _ hget).2.2.2 bl hb
        obtain ⟨r, hr, hv⟩ := load_obj h hb' he hg hi hz h1
        exact ⟨r, by simp [Instr.loadAt, Instr.sureAddr, Sem.run_bind, hr], hv⟩
      · cases h
    · cases h
  · cases h
end
end Go.Proofs.YtiijjopdhjpalaaDoor

/-! Addresses, elements, pieces. Conditions: none. -/
namespace Go.Proofs.YtiijjopdhjpalaaDoor
open Go
set_option linter.unusedVariables false
set_option linter.unusedSimpArgs false
section
variable {P : Program} {β : Nat → Option Blk} {O : Nat → Prop} {w : World}

theorem cells_ne {agg : Bool} {off sz : Nat} {cs : List AV} {v : AV} (h : Go.Proofs.YtiijjopdhjpalaaDoor.part agg off sz cs = some v) (hz : sz ≠ 0) : v.cells ≠ [] := by
  unfold Go.Proofs.YtiijjopdhjpalaaDoor.part at h
  cases agg
  · simp only [Bool.false_eq_true, if_false] at h
    split at h
    · rename_i x hx
      split at h
      · cases h
      · rename_i ha
        injection h with h
        subst h
        rw [cells_one (c := .junk) (by simpa using ha)]
        simp
    · cases h
  · simp only [if_true] at h
    split at h
    · rename_i hle
      injection h with h
      subst h
      simp only [AV.cells, ne_eq, List.take_eq_nil_iff, List.drop_eq_nil_iff, not_or]
      omega
    · cases h
theorem part_cells {agg : Bool} {off sz : Nat} {cs : List AV} {v : AV} (h : Go.Proofs.YtiijjopdhjpalaaDoor.part agg off sz cs = some v) {b o : Nat} (hc : CellsAt O w cs b o) :
    CellsAt O w v.cells b (o + off) := by
  unfold Go.Proofs.YtiijjopdhjpalaaDoor.part at h
  cases agg
  · simp only [Bool.false_eq_true, if_false] at h
    split at h
    · rename_i x hx
      split at h
      · cases h
      · rename_i ha
        injection h with h
        subst h
        obtain ⟨h1, u, h2, h3, h4⟩ := hc.get off hx
        rw [cells_one (c := .junk) (by simpa using ha)]
        exact .cons h1 h2 h3 h4 .nil
    · cases h
  · simp only [if_true] at h
    split at h
    · injection h with h
      subst h
      exact (hc.drop off).take sz
    · cases h
theorem aFad_ok {agg : Bool} {off sz : Nat} {x v : AV} (h : aFad agg off sz x = some v) {u : Value} (hx : Rep β O w x u) {s k : Nat} {fs : Array Field} {f : Field} {i : TypeInfo}
    (hu : P.underlying s = some (.struct fs)) (hf : fs[k]? = some f) (hi : P.info? f.type = some i) (ho : f.offset = off) (hs : i.size = sz) (hz : sz ≠ 0) :
    ∃ r, (Instr.fieldAt s u k).run P w = .ok r w ∧ Rep β O w v r := by
  have run : ∀ b o, (Instr.fieldAt s (.pointer (some ⟨b, o, none⟩)) k).run P w = .ok (.pointer (some ⟨b, o + off, none⟩)) w := by
    intro b o
    have hz' : ¬ i.size = 0 := by rw [hs]; exact hz
    simp only [Instr.fieldAt, Sem.run_bind, run_underlying hu, Result.andThen_ok, hf, Instr.sureAddr, Sem.run_pure, fieldPlace, run_sizeOf' hi, hz', if_false, addr_add, ho]
  unfold aFad at h
  split at h
  · rename_i id j o
    injection h with h
    subst h
    obtain ⟨bl, hb, rfl⟩ := rep_ptr hx
    refine ⟨_, run _ _, ?_⟩
    rw [Nat.add_assoc]
    exact .ptr hb
  · rename_i cs
    cases hp : Go.Proofs.YtiijjopdhjpalaaDoor.part agg off sz cs with
    | none => rw [hp] at h; cases h
    | some p =>
      rw [hp] at h
      simp only [Option.map_some, Option.some.injEq] at h
      subst h
      obtain ⟨b, o, rfl, hc, hne⟩ := rep_tp hx
      exact ⟨_, run _ _, .tree (.tp (part_cells hp hc) (cells_ne hp hz))⟩
  · cases h
theorem inRange_iff {i : Int} {n : Nat} : inRange i n = true ↔ 0 ≤ i ∧ i < n := by simp [inRange]
theorem cond_some {α : Type} {b : Bool} {x y : Option α} {v : α} (h : cond b x y = some v) : (b = true ∧ x = some v) ∨ (b = false ∧ y = some v) := by cases b <;> simp_all
theorem aIad_ok {sz : Nat} {x v : AV} {n : Int} (h : aIad sz x n = some v) {u : Value} (hx : Rep β O w x u) {t e : Nat} {j : TypeInfo} (hu : P.underlying t = some (.slice e)) (hi : P.info? e = some j) (hs : j.size = sz) (k : IntKind) :
    ∃ r, (Instr.indexAt t u (.int k n)).run P w = .ok r w ∧ Rep β O w v r := by
  have run : ∀ b o (l c : Nat), 0 ≤ n → n < l → (Instr.indexAt t (.slice (some ⟨b, o, none⟩) l c) (.int k n)).run P w = .ok (.pointer (some ⟨b, o + n.toNat * sz, none⟩)) w := by
    intro b o l c h0 h1
    simp only [Instr.indexAt, asIntOf, Sem.run_bind, Sem.run_pure, Result.andThen_ok, run_underlying hu, h0, h1, and_self, if_true, run_sizeOf' hi, addr_add, hs]
  unfold aIad at h
  split at h
  · rename_i s id i l
    split at h
    · rename_i hsz
      rcases cond_some h with ⟨hr, h⟩ | ⟨_, h⟩
      · injection h with h
        subst h
        obtain ⟨h0, h1⟩ := inRange_iff.1 hr
        rcases rep_sl hx with ⟨bl, cap, hb, hz, _, _, rfl⟩ | ⟨hl, _⟩
        · refine ⟨_, run _ _ _ _ h0 h1, ?_⟩
          have e : bl.base + i * bl.sz + n.toNat * sz = bl.base + (i + n.toNat) * bl.sz + 0 := by
            rw [hz, hsz, Nat.add_mul]; omega
          rw [e]
          exact .ptr hb
        · subst hl; omega
      · cases h
    · cases h
  · rename_i s es
    split at h
    · rename_i hsz
      rcases cond_some h with ⟨hr, h⟩ | ⟨_, h⟩
      · obtain ⟨h0, h1⟩ := inRange_iff.1 hr
        cases he : es[n.toNat]? with
        | none => rw [he] at h; cases h
        | some p =>
          rw [he] at h
          simp only [Option.map_some, Option.some.injEq] at h
          subst h
          rcases rep_ts hx with ⟨b, o, cap, _, hel, rfl⟩ | ⟨hl, _⟩
          · obtain ⟨hlen, hpos, hc⟩ := hel.get _ he
            refine ⟨_, run _ _ _ _ h0 h1, ?_⟩
            rw [← hsz]
            exact .tree (.tp hc (fun hn => by rw [hn] at hlen; simp at hlen; omega))
          · subst hl; simp at h1; omega
      · cases h
    · cases h
  · cases h
theorem iada_ok {n sz : Nat} {id i o : Nat} {z : Int} (hr : inRange z n = true) {u : Value} (hx : Rep β O w (.ptr id i o) u) {t e : Nat} {j : TypeInfo} (hu : P.underlying t = some (.array n e)) (hi : P.info? e = some j) (hs : j.size = sz) (k : IntKind) :
    ∃ r, (Instr.indexAt t u (.int k z)).run P w = .ok r w ∧ Rep β O w (.ptr id i (o + z.toNat * sz)) r := by
  obtain ⟨h0, h1⟩ := inRange_iff.1 hr
  obtain ⟨bl, hb, rfl⟩ := rep_ptr hx
  refine ⟨.pointer (some ⟨bl.b, bl.base + i * bl.sz + o + z.toNat * sz, none⟩), ?_, by rw [Nat.add_assoc]; exact .ptr hb⟩
  simp only [Instr.indexAt, asIntOf, Sem.run_bind, Sem.run_pure, Result.andThen_ok, run_underlying hu, Instr.sureAddr, h0, h1, and_self, if_true, run_sizeOf' hi, addr_add, hs]
theorem idx_ok {agg : Bool} {n sz : Nat} {cs : List AV} {v : AV} {z : Int} (hr : inRange z n = true) (h : Go.Proofs.YtiijjopdhjpalaaDoor.part agg (z.toNat * sz) sz cs = some v) {u : Value} (hx : Rep β O w (.agg cs) u)
    {t e : Nat} {j : TypeInfo} (hu : P.underlying t = some (.array n e)) (hg : aggOf (P.underlying e) = some agg) (hi : P.info? e = some j) (hs : j.size = sz) (k : IntKind) :
    ∃ r, (Instr.index t u (.int k z)).run P w = .ok r w ∧ Rep β O w v r := by
  obtain ⟨h0, h1⟩ := inRange_iff.1 hr
  obtain ⟨vs, rfl, hrep, hone⟩ := rep_agg hx
  obtain ⟨r, hr, hv⟩ := part_ok h hg hi hs hrep hone
  refine ⟨r, ?_, hv⟩
  simp only [Instr.index, asIntOf, Sem.run_bind, Sem.run_pure, Result.andThen_ok, run_underlying hu, h0, h1, and_self, if_true, run_sizeOf' hi, hs, hr]
theorem size_str (s : List UInt8) : (⟨s.toArray⟩ : ByteArray).size = s.length := rfl
theorem idxs_ok {s : List UInt8} {z : Int} {b : UInt8} (hr : inRange z s.length = true) (h : s[z.toNat]? = some b) {t : Nat} (hu : P.underlying t = some .string) (k : IntKind) :
    (Instr.index t (.string ⟨s.toArray⟩) (.int k z)).run P w = .ok (.int .u8 b.toNat) w := by
  obtain ⟨h0, h1⟩ := inRange_iff.1 hr
  have hlt : z.toNat < s.length := by omega
  have hb : (⟨s.toArray⟩ : ByteArray)[z.toNat]? = some b := by
    have h2 : z.toNat < (⟨s.toArray⟩ : ByteArray).size := by rw [size_str]; exact hlt
    rw [getElem?_pos (⟨s.toArray⟩ : ByteArray) z.toNat h2]
    rw [List.getElem?_eq_getElem hlt] at h
    injection h with h
    subst h
    rfl
  simp only [Instr.index, asIntOf, Sem.run_bind, Sem.run_pure, Result.andThen_ok, run_underlying hu, h0, if_true, hb]
theorem lenA_ok {x : AV} {n : Nat} (h : lenA x = some n) {u : Value} (hx : Rep β O w x u) : ∃ a c, u = .slice a n c ∧ n ≤ c := by
  cases x <;> simp only [lenA, Option.some.injEq, reduceCtorEq] at h
  case nils => subst h; rw [rep_nils hx]; exact ⟨_, _, rfl, Nat.le_refl _⟩
  case sl sz id i l =>
    subst h
    rcases rep_sl hx with ⟨bl, cap, _, _, hn, _, rfl⟩ | ⟨rfl, a, rfl⟩
    · exact ⟨_, _, rfl, hn⟩
    · exact ⟨_, _, rfl, Nat.le_refl _⟩
  case ts sz es =>
    subst h
    rcases rep_ts hx with ⟨b, o, cap, hn, _, rfl⟩ | ⟨rfl, a, c, rfl⟩
    · exact ⟨_, _, rfl, hn⟩
    · exact ⟨_, _, rfl, Nat.zero_le _⟩
theorem len_ok {x : AV} {n : Nat} (h : lenA x = some n) {u : Value} (hx : Rep β O w x u) {t ty e : Nat} (hu : P.underlying t = some (.slice e)) : (Builtin.len_ #[t] ty #[u]).run P w = .ok (.int .i64 n) w := by
  obtain ⟨a, c, rfl, _⟩ := lenA_ok h hx
  simp only [Builtin.len_, List.getElem?_toArray, List.getElem?_cons_zero, Sem.run_bind, run_underlying hu, Result.andThen_ok, Sem.run_pure, goInt]
theorem lens_ok {s : List UInt8} {t ty : Nat} (hu : P.underlying t = some .string) : (Builtin.len_ #[t] ty #[.string ⟨s.toArray⟩]).run P w = .ok (.int .i64 s.length) w := by
  simp only [Builtin.len_, List.getElem?_toArray, List.getElem?_cons_zero, Sem.run_bind, run_underlying hu, Result.andThen_ok, Sem.run_pure, goInt, size_str]
/-- The bounds of a piece, in range. -/
theorem run_bounds (isS : Bool) (len cap : Nat) (lo hi : Option Value) (l h : Int) (hl : (lo = none ∧ l = 0) ∨ ∃ k, lo = some (.int k l)) (hh : (hi = none ∧ h = len) ∨ ∃ k, hi = some (.int k h))
    (h0 : 0 ≤ l) (h1 : l ≤ h) (h2 : h ≤ cap) : (Instr.sliceBounds isS len cap lo hi none).run P w = .ok (l.toNat, h.toNat, cap) w := by
  have hcap : (0 : Int) ≤ h := by omega
  have hlh : ¬ max h 0 < l := by omega
  rcases hl with ⟨rfl, rfl⟩ | ⟨k, rfl⟩ <;> rcases hh with ⟨rfl, rfl⟩ | ⟨k', rfl⟩ <;>
    simp [Instr.sliceBounds, Instr.sliceBound, asIntOf, Sem.run_bind, Sem.run_pure, h0, h1, h2, hcap, hlh]
theorem aSlc_ok {sz : Nat} {x v : AV} {l : Int} {hi : Option Int} (h : aSlc sz x l hi = some v) {u : Value} (hx : Rep β O w x u) {t e : Nat} {j : TypeInfo} (hu : P.underlying t = some (.slice e)) (hi' : P.info? e = some j) (hs : j.size = sz)
    {lo hiV : Option Value} (hl : (lo = none ∧ l = 0) ∨ ∃ k, lo = some (.int k l)) (hh : (hiV = none ∧ hi = none) ∨ ∃ k y, hiV = some (.int k y) ∧ hi = some y) :
    ∃ r, (Instr.sliceAt t u lo hiV none).run P w = .ok r w ∧ Rep β O w v r := by
  unfold aSlc at h
  split at h
  · cases h
  · rename_i n hn
    obtain ⟨a, cap, rfl, hcap⟩ := lenA_ok hn hx
    simp only at h
    have hcs := cond_some h
    clear h
    rcases hcs with ⟨hc, h⟩ | ⟨_, h⟩
    · simp only [Bool.and_eq_true, decide_eq_true_eq] at hc
      obtain ⟨⟨h0, h1⟩, h2⟩ := hc
      have hb := run_bounds (P := P) (w := w) true n cap lo hiV l (hi.getD n) hl (by
        rcases hh with ⟨rfl, rfl⟩ | ⟨k, y, rfl, rfl⟩
        · exact .inl ⟨rfl, rfl⟩
        · exact .inr ⟨k, rfl⟩) h0 h1 (by omega)
      have run : (Instr.sliceAt t (.slice a n cap) lo hiV none).run P w = .ok (.slice (if cap = l.toNat then a else a.map (·.add (l.toNat * sz))) ((hi.getD n).toNat - l.toNat) (cap - l.toNat)) w := by
        simp only [Instr.sliceAt, Instr.slice, Sem.run_bind, run_underlying hu, Result.andThen_ok, hb, run_sizeOf' hi', hs, Sem.run_pure]
      refine ⟨_, run, ?_⟩
      generalize hi.getD n = hv at *
      have hln : l.toNat ≤ hv.toNat := by omega
      have hvn : hv.toNat ≤ n := by omega
      split at h
      · injection h with h
        subst h
        have e := rep_nils hx
        injection e with e1 e2 e3
        subst e1 e2 e3
        have : l.toNat = 0 := by omega
        have h3 : hv.toNat = 0 := by omega
        simp only [this, h3]
        exact .tree .nils
      · rename_i s id i n1
        simp only [lenA, Option.some.injEq] at hn
        subst hn
        split at h
        · rename_i hsz
          injection h with h
          subst h
          rcases rep_sl hx with ⟨bl, cap', hb', hz, hn', hic, he⟩ | ⟨rfl, a', he⟩
          · injection he with e1 e2 e3
            subst e1 e3
            by_cases hc : cap = l.toNat
            · have e4 : hv.toNat - l.toNat = 0 := by omega
              have e5 : cap - l.toNat = 0 := by omega
              rw [if_pos hc, e4, e5]
              exact .sl0
            · rw [if_neg hc]
              simp only [Option.map_some, addr_add]
              have e4 : bl.base + i * bl.sz + l.toNat * sz = bl.base + (i + l.toNat) * bl.sz := by rw [hz, hsz, Nat.add_mul]; omega
              rw [e4]
              exact .sl hb' hz (by omega) (by omega)
          · injection he with e1 e2 e3
            subst e1 e3
            have e4 : hv.toNat - l.toNat = 0 := by omega
            have e5 : 0 = l.toNat := by omega
            rw [if_pos e5, e4, Nat.zero_sub]
            exact .sl0
        · cases h
      · rename_i s es
        simp only [lenA, Option.some.injEq] at hn
        subst hn
        split at h
        · rename_i hsz
          injection h with h
          subst h
          have elen : ((es.drop l.toNat).take (hv.toNat - l.toNat)).length = hv.toNat - l.toNat := by simp; omega
          rcases rep_ts hx with ⟨b, o, cap', hn', hel, he⟩ | ⟨rfl, a', c', he⟩
          · injection he with e1 e2 e3
            subst e1 e3
            by_cases hc : cap = l.toNat
            · have e6 : (es.drop l.toNat).take (hv.toNat - l.toNat) = [] := List.eq_nil_of_length_eq_zero (by rw [elen]; omega)
              have e7 : hv.toNat - l.toNat = 0 := by omega
              rw [e6, e7]
              exact .tree .ts0
            · rw [if_neg hc]
              simp only [Option.map_some, addr_add]
              rcases hsz with hsz | hsz
              · have := RepT.ts (cap := cap - l.toNat) ((hel.drop l.toNat).take (hv.toNat - l.toNat)) (by rw [elen]; omega)
                rw [elen, hsz] at this
                rw [hsz]
                exact .tree this
              · have : es = [] := by simpa using hsz
                subst this
                have e7 : hv.toNat - l.toNat = 0 := by simp at elen; omega
                rw [e7]
                simp only [List.drop_nil, List.take_nil]
                exact .tree .ts0
          · injection he with e1 e2 e3
            subst e1 e3
            have e7 : hv.toNat - l.toNat = 0 := by simp at hvn; omega
            rw [e7]
            simp only [List.drop_nil, List.take_nil]
            exact .tree .ts0
        · cases h
      · cases h
    · cases h
theorem aSlcS_ok {s : List UInt8} {v : AV} {l : Int} {hi : Option Int} (h : aSlcS s l hi = some v) {t : Nat} (hu : P.underlying t = some .string)
    {lo hiV : Option Value} (hl : (lo = none ∧ l = 0) ∨ ∃ k, lo = some (.int k l)) (hh : (hiV = none ∧ hi = none) ∨ ∃ k y, hiV = some (.int k y) ∧ hi = some y) :
    ∃ r, (Instr.sliceAt t (.string ⟨s.toArray⟩) lo hiV none).run P w = .ok r w ∧ Rep β O w v r := by
  unfold aSlcS at h
  simp only at h
  rcases cond_some h with ⟨hc, h⟩ | ⟨_, h⟩
  · simp only [Bool.and_eq_true, decide_eq_true_eq] at hc
    obtain ⟨⟨h0, h1⟩, h2⟩ := hc
    injection h with h
    subst h
    have hb := run_bounds (P := P) (w := w) false s.length s.length lo hiV l (hi.getD s.length) hl (by
      rcases hh with ⟨rfl, rfl⟩ | ⟨k, y, rfl, rfl⟩
      · exact .inl ⟨rfl, rfl⟩
      · exact .inr ⟨k, rfl⟩) h0 h1 h2
    refine ⟨.string ((⟨s.toArray⟩ : ByteArray).extract l.toNat (hi.getD s.length).toNat), ?_, ?_⟩
    · simp [Instr.sliceAt, Instr.slice, Sem.run_bind, run_underlying hu, size_str, hb]
    · have e : (⟨s.toArray⟩ : ByteArray).extract l.toNat (hi.getD s.length).toNat = ⟨((s.drop l.toNat).take ((hi.getD s.length).toNat - l.toNat)).toArray⟩ := by
        apply ByteArray.ext
        simp [ByteArray.data_extract, List.extract_toArray, List.extract_eq_take_drop]
      rw [e]
      exact .tree .str
  · cases h
end
end Go.Proofs.YtiijjopdhjpalaaDoor

/-! Memory: a new object, an object that is turned. Conditions: none. -/
namespace Go.Proofs.YtiijjopdhjpalaaDoor
open Go
set_option linter.unusedVariables false
set_option linter.unusedSimpArgs false
section
variable {β : Nat → Option Blk} {O : Nat → Prop} {w : World} {m : AMem}

theorem oneV_cell {u : Value} : u.oneCell' = oneV u := by cases u <;> rfl
theorem BlkOk.step {β' O' w'} {bl : Blk} {t sz : Nat} {es : List AV} (h : BlkOk β O w bl t sz es) (g : Goes β β') (k : Keeps O w O' w') (ho : O' bl.b) (hh : w'.heap[bl.b]? = w.heap[bl.b]?) : BlkOk β' O' w' bl t sz es := by
  obtain ⟨h1, h2, h3, cs, h4, h5, h6⟩ := h
  refine ⟨h1, ho, h3, cs, by rw [hh]; exact h4, h5, fun i e he j c hc => ?_⟩
  obtain ⟨u, hu, hone, hr⟩ := h6 i e he j c hc
  exact ⟨u, hu, hone, hr.keep g k⟩
def bset (β : Nat → Option Blk) (id : Nat) (bl : Option Blk) : Nat → Option Blk := fun j => if j = id then bl else β j
theorem bset_goes {id : Nat} {bl : Option Blk} (h : β id = none) : Goes β (bset β id bl) := by
  intro j b hj
  unfold bset
  split
  · rename_i e; subst e; rw [h] at hj; cases hj
  · exact hj
theorem AMem.get_put {m : AMem} {id j : Nat} {o : AObj} : (m.put id o).get j = if j = id then (if id < m.next then some o else none) else m.get j := rfl
theorem AMem.get_kill {m : AMem} {id j : Nat} : (m.kill id).get j = if j = id then none else m.get j := rfl
theorem AMem.get_put_some {m : AMem} {id j : Nat} {o x : AObj} (h : (m.put id o).get j = some x) : (j = id ∧ x = o) ∨ (j ≠ id ∧ m.get j = some x) := by
  rw [AMem.get_put] at h
  by_cases e : j = id
  · rw [if_pos e] at h
    by_cases e' : id < m.next
    · rw [if_pos e'] at h
      injection h with h
      exact .inl ⟨e, h.symm⟩
    · rw [if_neg e'] at h; cases h
  · rw [if_neg e] at h
    exact .inr ⟨e, h⟩
theorem AMem.get_room {m : AMem} {n j : Nat} : (m.room n).get j = m.get j := rfl

theorem Sim.kill (h : Sim β O w m) (id : Nat) : Sim β O w (m.kill id) := by
  have sub : ∀ j o, (m.kill id).get j = some o → m.get j = some o := fun j o hj => by
    rw [AMem.get_kill] at hj
    split at hj
    · cases hj
    · exact hj
  exact ⟨fun j o hj => h.objs j o (sub j o hj), fun i j oi oj bi bj a b c d e => h.inj i j oi oj bi bj (sub _ _ a) (sub _ _ b) c d e, h.fresh, h.bound, h.glob⟩
theorem Sim.room (h : Sim β O w m) (n : Nat) : Sim β O w (m.room n) :=
  ⟨h.objs, h.inj, fun id hid => h.fresh id (by simp [AMem.room] at hid; omega), h.bound, h.glob⟩
/-- A world's draws and the like are not looked at. -/
theorem Keeps.heap {w' : World} (h : w'.heap = w.heap) (ho : w'.os = w.os ∧ w'.output = w.output := by exact ⟨rfl, rfl⟩) : Keeps O w O w' := ⟨⟨by rw [h]; exact Nat.le_refl _, ho⟩, fun b _ ho => ⟨ho, by rw [h]⟩⟩
theorem Sim.heap {w' : World} (h : Sim β O w m) (e : w'.heap = w.heap) (hout : w'.os = w.os ∧ w'.output = w.output := by exact ⟨rfl, rfl⟩) : Sim β O w' m := by
  refine ⟨fun id o ho => ?_, h.inj, h.fresh, fun b hb => by rw [e]; exact h.bound b hb, h.glob.keep (Keeps.heap e hout)⟩
  have := h.objs id o ho
  cases o with
  | arr t sz es =>
    refine ⟨this.1, this.2.1, this.2.2.1, fun bl hb => ?_⟩
    exact (this.2.2.2 bl hb).step (.refl _) (.heap e hout) (this.2.2.2 bl hb).2.1 (by rw [e])
  | map es => exact this.elim

/-- **A new object, in a new block.** -/
theorem Sim.make (h : Sim β O w m) {new : Nat} (hn : m.get new = none) (hl : new < m.next) (hb : β new = none) {w' : World} {cs : Array Value} {t sz : Nat} (hw : w'.heap = w.heap.push (.cells cs t (0, 0)))
    {es : List AV} {cap : Nat} (hz : 0 < sz) (hsz : ∀ e ∈ es, e.cells.length = sz) (hcap : es.length ≤ cap) (hcs : cap * sz ≤ cs.size)
    (hat : ∀ i e, es[i]? = some e → ∀ j c, e.cells[j]? = some c → ∃ u, cs[i * sz + j]? = some u ∧ oneV u = true ∧ Rep β O w c u) (hout : w'.os = w.os ∧ w'.output = w.output := by exact ⟨rfl, rfl⟩) :
    ∃ β' O', Stp β O w m new β' O' w' (m.put new (.arr t sz es)) ∧ Sim β' O' w' (m.put new (.arr t sz es)) ∧ β' new = some ⟨w.heap.size, 0, cap, sz⟩ := by
  have hsize : w'.heap.size = w.heap.size + 1 := by rw [hw]; simp
  have hold : ∀ k, k < w.heap.size → w'.heap[k]? = w.heap[k]? := fun k hk => by rw [hw, Array.getElem?_push, if_neg (Nat.ne_of_lt hk)]
  have hnew : w'.heap[w.heap.size]? = some (.cells cs t (0, 0)) := by rw [hw]; simp
  let β' := bset β new (some ⟨w.heap.size, 0, cap, sz⟩)
  let O' : Nat → Prop := fun b => O b ∨ b = w.heap.size
  have g : Goes β β' := bset_goes hb
  have k : Keeps O w O' w' := ⟨⟨by omega, hout⟩, fun b hbs ho => ⟨fun h => h.elim ho (fun e => by omega), hold b hbs⟩⟩
  have hβ : β' new = some ⟨w.heap.size, 0, cap, sz⟩ := by simp [β', bset]
  have hβo : ∀ id, id ≠ new → β' id = β id := fun id hid => by simp [β', bset, hid]
  have hget : ∀ id o, (m.put new (.arr t sz es)).get id = some o → (id = new ∧ o = .arr t sz es) ∨ (id ≠ new ∧ m.get id = some o) := fun id o ho => AMem.get_put_some ho
  refine ⟨β', O', ⟨g, k, Nat.le_refl _, fun id _ hid => hβo id hid⟩, ⟨?_, ?_, ?_, ?_, h.glob.keep k⟩, hβ⟩
  · intro id o ho
    rcases hget id o ho with ⟨rfl, rfl⟩ | ⟨hid, ho⟩
    · refine ⟨hz, hsz, fun _ => ⟨_, hβ⟩, fun bl hbl => ?_⟩
      rw [hβ] at hbl
      injection hbl with hbl
      subst hbl
      refine ⟨rfl, .inr rfl, hcap, cs, hnew, by simpa using hcs, fun i e he j c hc => ?_⟩
      obtain ⟨u, hu, h1, hr⟩ := hat i e he j c hc
      exact ⟨u, by simpa using hu, h1, hr.keep g k⟩
    · have ho' := h.objs id o ho
      cases o with
      | map es => exact ho'.elim
      | arr t' sz' es' =>
        refine ⟨ho'.1, ho'.2.1, fun hne => by rw [hβo id hid]; exact ho'.2.2.1 hne, fun bl hbl => ?_⟩
        rw [hβo id hid] at hbl
        have hb' := ho'.2.2.2 bl hbl
        exact hb'.step g k (.inl hb'.2.1) (hold _ (h.bound _ hb'.2.1))
  · intro i j oi oj bi bj hi hj hbi hbj hbb
    rcases hget i oi hi with ⟨ei, _⟩ | ⟨hid, hi'⟩ <;> rcases hget j oj hj with ⟨ej, _⟩ | ⟨hjd, hj'⟩
    · rw [ei, ej]
    · rw [ei, hβ] at hbi
      injection hbi with hbi
      rw [hβo j hjd] at hbj
      have := h.bound _ (h.cellsNe hj' hbj)
      rw [← hbb, ← hbi] at this
      simp at this
    · rw [ej, hβ] at hbj
      injection hbj with hbj
      rw [hβo i hid] at hbi
      have := h.bound _ (h.cellsNe hi' hbi)
      rw [hbb, ← hbj] at this
      simp at this
    · rw [hβo i hid] at hbi
      rw [hβo j hjd] at hbj
      exact h.inj i j oi oj bi bj hi' hj' hbi hbj hbb
  · intro id hid
    have : id ≠ new := by have : (m.put new (.arr t sz es)).next = m.next := rfl; omega
    rw [hβo id this]
    exact h.fresh id hid
  · intro b hb
    rcases hb with hb | rfl
    · have := h.bound b hb; omega
    · omega
/-- A new object of nothing, without a block. -/
theorem Sim.makeNil (h : Sim β O w m) {new : Nat} (hn : m.get new = none) (hl : new < m.next) (hb : β new = none) {t sz : Nat} (hz : 0 < sz) :
    Stp β O w m new β O w (m.put new (.arr t sz [])) ∧ Sim β O w (m.put new (.arr t sz [])) := by
  have hget : ∀ id o, (m.put new (.arr t sz [])).get id = some o → (id = new ∧ o = .arr t sz []) ∨ (id ≠ new ∧ m.get id = some o) := fun id o ho => AMem.get_put_some ho
  refine ⟨⟨.refl _, .refl _ _, Nat.le_refl _, fun _ _ _ => rfl⟩, ⟨fun id o ho => ?_, fun i j oi oj bi bj hi hj hbi hbj hbb => ?_, h.fresh, h.bound, h.glob⟩⟩
  · rcases hget id o ho with ⟨rfl, rfl⟩ | ⟨hid, ho⟩
    · exact ⟨hz, by simp, fun h => absurd rfl h, fun bl hbl => by rw [hb] at hbl; cases hbl⟩
    · exact h.objs id o ho
  · rcases hget i oi hi with ⟨e, _⟩ | ⟨hid, hi'⟩
    · rw [e, hb] at hbi; cases hbi
    · rcases hget j oj hj with ⟨e, _⟩ | ⟨hjd, hj'⟩
      · rw [e, hb] at hbj; cases hbj
      · exact h.inj i j oi oj bi bj hi' hj' hbi hbj hbb
/-- **An object's block is written**: the object goes on under the number 'new' (its own, or a free one). -/
theorem Sim.write (h : Sim β O w m) {id new : Nat} {t sz : Nat} {es : List AV} {bl bl' : Blk} (hget : m.get id = some (.arr t sz es)) (hbl : β id = some bl)
    (hnew : (new = id ∧ bl' = bl) ∨ (m.get new = none ∧ β new = none)) (hl : new < m.next) (hbb : bl'.b = bl.b) {w' : World} {cs : Array Value}
    (hsize : w'.heap.size = w.heap.size) (hold : ∀ k, k ≠ bl.b → w'.heap[k]? = w.heap[k]?) (hhere : w'.heap[bl.b]? = some (.cells cs t (0, 0)))
    {es' : List AV} (hsz : ∀ e ∈ es', e.cells.length = sz) (hbs : bl'.sz = sz) (hcap : es'.length ≤ bl'.cap) (hcs : bl'.base + bl'.cap * sz ≤ cs.size)
    (hat : ∀ i e, es'[i]? = some e → ∀ j c, e.cells[j]? = some c → ∃ u, cs[bl'.base + i * sz + j]? = some u ∧ oneV u = true ∧ Rep β O w c u) (hout : w'.os = w.os ∧ w'.output = w.output := by exact ⟨rfl, rfl⟩) :
    ∃ β', Stp β O w m new β' O w' ((m.kill id).put new (.arr t sz es')) ∧ Sim β' O w' ((m.kill id).put new (.arr t sz es')) ∧ β' new = some bl' := by
  have hO : O bl.b := h.cellsNe hget hbl
  have hz := (h.objs id _ hget).1
  let β' := bset β new (some bl')
  have hβ : β' new = some bl' := by simp [β', bset]
  have hβo : ∀ i, i ≠ new → β' i = β i := fun i hi => by simp [β', bset, hi]
  have g : Goes β β' := by
    rcases hnew with ⟨rfl, rfl⟩ | ⟨_, hn⟩
    · intro j b hj
      by_cases e : j = new
      · subst e; rw [hβ, ← hbl]; exact hj
      · rw [hβo j e]; exact hj
    · exact bset_goes hn
  have k : Keeps O w O w' := ⟨⟨by omega, hout⟩, fun b hb ho => ⟨ho, hold b (fun e => by subst e; exact ho hO)⟩⟩
  have hg : ∀ i o, ((m.kill id).put new (.arr t sz es')).get i = some o → (i = new ∧ o = .arr t sz es') ∨ (i ≠ new ∧ i ≠ id ∧ m.get i = some o) := fun i o ho => by
    rcases AMem.get_put_some ho with h | ⟨h, h'⟩
    · exact .inl h
    · rw [AMem.get_kill] at h'
      by_cases e : i = id
      · rw [if_pos e] at h'; cases h'
      · rw [if_neg e] at h'; exact .inr ⟨h, e, h'⟩
  refine ⟨β', ⟨g, k, Nat.le_refl _, fun i _ hi => hβo i hi⟩, ⟨?_, ?_, ?_, ?_, h.glob.keep k⟩, hβ⟩
  · intro i o ho
    rcases hg i o ho with ⟨rfl, rfl⟩ | ⟨hi, hid, ho⟩
    · refine ⟨hz, hsz, fun _ => ⟨_, hβ⟩, fun b hb => ?_⟩
      rw [hβ] at hb
      injection hb with hb
      subst hb
      refine ⟨hbs, by rw [hbb]; exact hO, hcap, cs, by rw [hbb]; exact hhere, hcs, fun i e he j c hc => ?_⟩
      obtain ⟨u, hu, h1, hr⟩ := hat i e he j c hc
      exact ⟨u, hu, h1, hr.keep g k⟩
    · have ho' := h.objs i o ho
      cases o with
      | map es => exact ho'.elim
      | arr t' sz' es'' =>
        refine ⟨ho'.1, ho'.2.1, fun hne => by rw [hβo i hi]; exact ho'.2.2.1 hne, fun b hb => ?_⟩
        rw [hβo i hi] at hb
        have hb' := ho'.2.2.2 b hb
        exact hb'.step g k hb'.2.1 (hold _ (fun e => hid (h.inj i id _ _ b bl ho hget hb hbl e)))
  · intro i j oi oj bi bj hi hj hbi hbj hb2
    rcases hg i oi hi with ⟨ei, _⟩ | ⟨hin, hid, hi'⟩ <;> rcases hg j oj hj with ⟨ej, _⟩ | ⟨hjn, hjd, hj'⟩
    · rw [ei, ej]
    · rw [ei, hβ] at hbi
      injection hbi with hbi
      rw [hβo j hjn] at hbj
      exact absurd (h.inj j id _ _ bj bl hj' hget hbj hbl (by rw [← hb2, ← hbi, hbb])) hjd
    · rw [ej, hβ] at hbj
      injection hbj with hbj
      rw [hβo i hin] at hbi
      exact absurd (h.inj i id _ _ bi bl hi' hget hbi hbl (by rw [hb2, ← hbj, hbb])) hid
    · rw [hβo i hin] at hbi
      rw [hβo j hjn] at hbj
      exact h.inj i j oi oj bi bj hi' hj' hbi hbj hb2
  · intro i hi
    have : i ≠ new := by have : ((m.kill id).put new (.arr t sz es')).next = m.next := rfl; omega
    rw [hβo i this]
    exact h.fresh i hi
  · intro b hb
    rw [hsize]
    exact h.bound b hb
theorem AMem.kill_put (m : AMem) (id : Nat) (o : AObj) : (m.kill id).put id o = m.put id o := by
  have : ((m.kill id).put id o).get = (m.put id o).get := by
    funext j
    simp only [AMem.get_put, AMem.get_kill]
    split
    · rfl
    · rfl
  cases h1 : (m.kill id).put id o
  cases h2 : m.put id o
  rw [h1, h2] at this
  have hn : ((m.kill id).put id o).next = (m.put id o).next := rfl
  rw [h1, h2] at hn
  simp only at this hn
  subst this hn
  rfl
end
end Go.Proofs.YtiijjopdhjpalaaDoor

/-! Operations that make, write, append. Conditions: none. -/
namespace Go.Proofs.YtiijjopdhjpalaaDoor
open Go
set_option linter.unusedVariables false
set_option linter.unusedSimpArgs false
section
variable {P : Program} {β : Nat → Option Blk} {O : Nat → Prop} {w : World} {m : AMem}

theorem rep_cellsL {v : AV} {u : Value} {agg : Bool} {sz : Nat} (hf : fits agg sz v = true) (h : Rep β O w v u) :
    v.cells.length = sz ∧ agg = v.isAgg ∧ RepL β O w v.cells u.cells.toList ∧ (∀ x ∈ u.cells.toList, oneV x = true) ∧ u.cells.size = sz := by
  cases v with
  | agg cs =>
    simp only [fits, Bool.and_eq_true, beq_iff_eq] at hf
    obtain ⟨⟨ha, hlen⟩, _⟩ := hf
    obtain ⟨vs, rfl, hr, h1⟩ := rep_agg h
    exact ⟨hlen, ha, by simpa [AV.cells, Value.cells] using hr, by simpa [Value.cells] using h1, by simp [Value.cells, ← hr.length, hlen]⟩
  | _ =>
    simp only [fits, Bool.and_eq_true, beq_iff_eq, Bool.not_eq_true'] at hf
    obtain ⟨⟨ha, hlen⟩, h1⟩ := hf
    have hc := rep_cells h rfl h1
    rw [hc]
    exact ⟨hlen.symm, ha, .cons h .nil, by simpa using rep_one h h1, hlen.symm⟩
/-- The elements of an object one behind the other. -/
theorem BlkOk.flat {bl : Blk} {t sz : Nat} {es : List AV} (h : BlkOk β O w bl t sz es) (hsz : ∀ e ∈ es, e.cells.length = sz) : ∀ (n i : Nat), i + n ≤ es.length →
    ∃ vs, RepL β O w (((es.drop i).take n).flatMap AV.cells) vs ∧ (∀ v ∈ vs, oneV v = true) ∧ vs.length = n * sz ∧ ∀ k v, vs[k]? = some v → w.cell? ⟨bl.b, bl.base + i * bl.sz + k, none⟩ = some v
  | 0, i, _ => ⟨[], by simpa using .nil, by simp, by simp, by simp⟩
  | n + 1, i, hl => by
    have hi : i < es.length := by omega
    have he := List.getElem?_eq_getElem hi
    have hlen := hsz _ (List.getElem_mem hi)
    obtain ⟨vs, hv1, hv2, hv3, hv4⟩ := h.valsFrom he sz 0 (by omega)
    obtain ⟨us, hu1, hu2, hu3, hu4⟩ := h.flat hsz n (i + 1) (by omega)
    have hb := h.1
    refine ⟨vs ++ us, ?_, ?_, by rw [List.length_append, hv1, hu3, Nat.add_mul]; omega, fun k v hk => ?_⟩
    · rw [List.drop_eq_getElem_cons hi, List.take_succ_cons, List.flatMap_cons]
      refine RepL.append ?_ hu1
      have : (es[i].cells.drop 0).take sz = es[i].cells := by simp [← hlen]
      rwa [this] at hv2
    · intro v hv
      rcases List.mem_append.1 hv with hv | hv
      · exact hv3 v hv
      · exact hu2 v hv
    · by_cases hkl : k < vs.length
      · rw [List.getElem?_append_left hkl] at hk
        simpa using hv4 k v hk
      · rw [List.getElem?_append_right (by omega)] at hk
        have := hu4 (k - vs.length) v hk
        rw [show bl.base + i * bl.sz + k = bl.base + (i + 1) * bl.sz + (k - vs.length) from by rw [Nat.add_mul, hv1, ← hb]; rw [hv1, ← hb] at hkl; omega]
        exact this
theorem ElsAt.flat : ∀ {sz : Nat} {es : List AV} {b o : Nat}, ElsAt O w sz es b o →
    (∀ e ∈ es, e.cells.length = sz) ∧ ∃ vs, RepL β O w (es.flatMap AV.cells) vs ∧ (∀ v ∈ vs, oneV v = true) ∧ vs.length = es.length * sz ∧ ∀ k v, vs[k]? = some v → w.cell? ⟨b, o + k, none⟩ = some v
  | _, _, _, _, .nil => ⟨by simp, [], .nil, by simp, by simp, by simp⟩
  | sz, _, _, _, .cons a z c t => by
    obtain ⟨vs, hl, hr, h1, hat⟩ := c.vals
    obtain ⟨hs, us, hu1, hu2, hu3, hu4⟩ := t.flat
    refine ⟨by simpa using ⟨a, hs⟩, vs ++ us, ?_, ?_, ?_, fun k v hk => ?_⟩
    · rw [List.flatMap_cons]; exact RepL.append hr.toL hu1
    · intro v hv
      rcases List.mem_append.1 hv with hv | hv
      · exact h1 v hv
      · exact hu2 v hv
    · rw [List.length_append, hl, hu3, List.length_cons, Nat.add_mul, a]; omega
    · by_cases hkl : k < vs.length
      · rw [List.getElem?_append_left hkl] at hk
        exact hat k v hk
      · rw [List.getElem?_append_right (by omega)] at hk
        have := hu4 (k - vs.length) v hk
        rw [hl, a] at hkl
        rw [hl, a] at this
        rw [show ∀ o : Nat, o + k = o + sz + (k - sz) from fun o => by omega]
        exact this
/-- What a list of elements is as values. -/
structure Els (β : Nat → Option Blk) (O : Nat → Prop) (w : World) (sz : Nat) (es : List AV) (vs : List Value) : Prop where
  size : ∀ e ∈ es, e.cells.length = sz
  rep : RepL β O w (es.flatMap AV.cells) vs
  one : ∀ v ∈ vs, oneV v = true
  len : vs.length = es.length * sz
theorem Els.keep {β' O' w' sz es vs} (h : Els β O w sz es vs) (g : Goes β β') (k : Keeps O w O' w') : Els β' O' w' sz es vs := ⟨h.size, h.rep.keep g k, h.one, h.len⟩
theorem Els.nil {sz : Nat} : Els β O w sz [] [] := ⟨by simp, .nil, by simp, by simp⟩
theorem Els.append {sz es vs es' vs'} (h : Els β O w sz es vs) (h' : Els β O w sz es' vs') : Els β O w sz (es ++ es') (vs ++ vs') :=
  ⟨fun e he => (List.mem_append.1 he).elim (h.size e) (h'.size e), by rw [List.flatMap_append]; exact h.rep.append h'.rep,
   fun v hv => (List.mem_append.1 hv).elim (h.one v) (h'.one v), by simp [h.len, h'.len, Nat.add_mul]⟩
theorem flat_get {sz : Nat} : ∀ {es : List AV}, (∀ e ∈ es, e.cells.length = sz) → ∀ {i : Nat} {e : AV}, es[i]? = some e → ∀ {j : Nat} {c : AV}, e.cells[j]? = some c → (es.flatMap AV.cells)[i * sz + j]? = some c
  | [], _, i, e, he, _, _, _ => by simp at he
  | x :: es, hs, 0, e, he, j, c, hc => by
    simp at he
    subst he
    have hj : j < x.cells.length := (List.getElem?_eq_some_iff.1 hc).1
    rw [List.flatMap_cons, Nat.zero_mul, Nat.zero_add, List.getElem?_append_left hj]
    exact hc
  | x :: es, hs, i + 1, e, he, j, c, hc => by
    have hx := hs x (by simp)
    rw [List.flatMap_cons, List.getElem?_append_right (by rw [hx, Nat.add_mul]; omega), hx, show (i + 1) * sz + j - sz = i * sz + j from by rw [Nat.add_mul]; omega]
    exact flat_get (fun e he => hs e (by simp [he])) (by simpa using he) hc
theorem Els.at_ {sz es vs} (h : Els β O w sz es vs) {i : Nat} {e : AV} (he : es[i]? = some e) {j : Nat} {c : AV} (hc : e.cells[j]? = some c) :
    ∃ u, vs[i * sz + j]? = some u ∧ oneV u = true ∧ Rep β O w c u := by
  obtain ⟨u, hu, hr⟩ := h.rep.get _ (flat_get h.size he hc)
  exact ⟨u, hu, h.one u (List.mem_of_getElem? hu), hr⟩
theorem flat_take {sz : Nat} : ∀ {es : List AV}, (∀ e ∈ es, e.cells.length = sz) → ∀ (n : Nat), (es.take n).flatMap AV.cells = (es.flatMap AV.cells).take (n * sz)
  | [], _, n => by simp
  | x :: es, _, 0 => by simp
  | x :: es, hs, n + 1 => by
    have hx := hs x (by simp)
    rw [List.take_succ_cons, List.flatMap_cons, List.flatMap_cons, flat_take (fun e he => hs e (by simp [he])) n, List.take_append, hx]
    have h1 : (n + 1) * sz - sz = n * sz := by rw [Nat.add_mul]; omega
    rw [h1, List.take_of_length_le (l := x.cells) (by rw [hx, Nat.add_mul]; omega)]
theorem Els.take {sz es vs} (h : Els β O w sz es vs) (n : Nat) : Els β O w sz (es.take n) (vs.take (n * sz)) := by
  refine ⟨fun e he => h.size e (List.mem_of_mem_take he), by rw [flat_take h.size]; exact h.rep.take _, fun v hv => h.one v (List.mem_of_mem_take hv), ?_⟩
  rw [List.length_take, List.length_take, h.len, Nat.mul_min_mul_right]
/-- Elements that are read. -/
theorem elems_ok (hs : Sim β O w m) {sz : Nat} {x : AV} {es : List AV} (h : elems m sz x = some es) {u : Value} (hx : Rep β O w x u) :
    ∃ vs, Els β O w sz es vs ∧ ((∃ a c, u = .slice a es.length c ∧ es.length ≤ c ∧ (es = [] ∨ ∃ b o, a = some ⟨b, o, none⟩ ∧ ∀ j v, vs[j]? = some v → w.cell? ⟨b, o + j, none⟩ = some v)) ∨
      (sz = 1 ∧ ∃ s : List UInt8, x = .str s ∧ u = .string ⟨s.toArray⟩ ∧ vs = byteCells ⟨s.toArray⟩)) := by
  unfold elems at h
  split at h
  · injection h with h
    subst h
    rw [rep_nils hx]
    exact ⟨[], .nil, .inl ⟨_, _, rfl, Nat.le_refl _, .inl rfl⟩⟩
  · rename_i sz' id i n
    split at h
    · rename_i hsz
      have zero : n = 0 → es = [] → ∃ vs, Els β O w sz es vs ∧ ((∃ a c, u = .slice a es.length c ∧ es.length ≤ c ∧ (es = [] ∨ ∃ b o, a = some ⟨b, o, none⟩ ∧ ∀ j v, vs[j]? = some v → w.cell? ⟨b, o + j, none⟩ = some v)) ∨
          (sz = 1 ∧ ∃ s : List UInt8, AV.sl sz' id i n = .str s ∧ u = .string ⟨s.toArray⟩ ∧ vs = byteCells ⟨s.toArray⟩)) := by
        intro hn he
        subst hn he
        rcases rep_sl hx with ⟨bl, cap, _, _, hc, _, rfl⟩ | ⟨_, a, rfl⟩
        · exact ⟨[], .nil, .inl ⟨_, _, rfl, hc, .inl rfl⟩⟩
        · exact ⟨[], .nil, .inl ⟨_, _, rfl, Nat.le_refl _, .inl rfl⟩⟩
      split at h
      · rename_i t s os hget
        split at h
        · rename_i hc
          injection h with h
          obtain ⟨hs1, hl⟩ := hc
          have hobj := hs.objs _ _ hget
          have elen : es.length = n := by rw [← h]; simp; omega
          rcases rep_sl hx with ⟨bl, cap, hb, hz, hn, _, rfl⟩ | ⟨hn, a, rfl⟩
          · obtain ⟨vs, h1, h2, h3, h4⟩ := (hobj.2.2.2 bl hb).flat hobj.2.1 n i hl
            rw [h] at h1
            refine ⟨vs, ⟨fun e he => by rw [← h] at he; rw [← hs1]; exact hobj.2.1 e (List.mem_of_mem_drop (List.mem_of_mem_take he)), h1, h2, by rw [elen, h3, hs1]⟩, .inl ⟨_, _, by rw [elen], by omega, .inr ⟨_, _, rfl, h4⟩⟩⟩
          · exact zero hn (List.eq_nil_of_length_eq_zero (by omega))
        · split at h
          · injection h with h; exact zero (by assumption) h.symm
          · cases h
      · split at h
        · injection h with h; exact zero (by assumption) h.symm
        · cases h
    · cases h
  · rename_i s os
    split at h
    · rename_i hc
      injection h with h
      subst h
      rcases rep_ts hx with ⟨b, o, cap, hl, hel, rfl⟩ | ⟨rfl, a, cap, rfl⟩
      · obtain ⟨h0, vs, h1, h2, h3, h4⟩ := hel.flat (β := β)
        rcases hc with rfl | he
        · exact ⟨vs, ⟨h0, h1, h2, h3⟩, .inl ⟨_, _, rfl, hl, .inr ⟨_, _, rfl, h4⟩⟩⟩
        · have : os = [] := by simpa using he
          subst this
          exact ⟨[], .nil, .inl ⟨_, _, rfl, Nat.zero_le _, .inl rfl⟩⟩
      · exact ⟨[], .nil, .inl ⟨_, _, rfl, Nat.zero_le _, .inl rfl⟩⟩
    · cases h
  · rename_i s
    split at h
    · rename_i hsz
      injection h with h
      subst h hsz
      have hl : ∀ l : List UInt8, RepL β O w ((l.map fun b => AV.int .u8 b.toNat).flatMap AV.cells) (l.map fun b => Value.int .u8 b.toNat) := by
        intro l
        induction l with
        | nil => exact .nil
        | cons b l ih => exact .cons (.tree .int) ih
      refine ⟨byteCells ⟨s.toArray⟩, ⟨by simp [AV.cells], by simpa [byteCells] using hl s, ?_, by simp [byteCells]⟩, .inr ⟨rfl, s, rfl, rep_str hx, rfl⟩⟩
      intro v hv
      simp only [byteCells, List.mem_map] at hv
      obtain ⟨_, _, rfl⟩ := hv
      rfl
    · cases h
  · cases h

theorem one_cell {vs : List Value} (h : ∀ v ∈ vs, oneV v = true) : ∀ v ∈ vs, v.oneCell' = true := fun v hv => by rw [oneV_cell]; exact h v hv
/-- What an append takes. -/
theorem src_ok (hs : Sim β O w m) {sz : Nat} {x : AV} {es : List AV} (h : elems m sz x = some es) {u : Value} (hx : Rep β O w x u) {tx : Nat} (ht : (∃ e, P.underlying tx = some (.slice e)) ∨ P.underlying tx = some .string) :
    ∃ vs, Els β O w sz es vs ∧ Src P sz tx u es.length vs w := by
  obtain ⟨vs, hel, hu⟩ := elems_ok hs h hx
  refine ⟨vs, hel, ?_⟩
  rcases hu with ⟨a, c, rfl, _, hn⟩ | ⟨rfl, s, rfl, rfl, rfl⟩
  · rcases hn with rfl | ⟨b, o, rfl, hat⟩
    · have : vs = [] := List.eq_nil_of_length_eq_zero (by simpa using hel.len)
      subst this
      refine ⟨ht, fun _ => rfl, ?_, ?_, by simp, by simp⟩
      · cases a <;> simp [Builtin.firstCells, loadCells, loadCellsFrom]
      · cases a <;> simp [Builtin.firstCells, loadCells, loadCellsFrom]
    · exact ⟨ht, fun _ => rfl, run_firstCells_some w sz es.length ⟨b, o, none⟩ es.length c vs hel.len (fun j v hj => by rw [addr_add]; exact hat j v hj),
        run_firstCells_some w.drew sz es.length ⟨b, o, none⟩ es.length c vs hel.len (fun j v hj => by rw [addr_add]; exact hat j v hj), hel.len, one_cell hel.one⟩
  · have hlen : es.length = s.length := by
      have := hel.len
      simp [byteCells] at this
      omega
    rw [hlen]
    refine ⟨ht, fun _ => rfl, firstCells_string ⟨s.toArray⟩ w, firstCells_string ⟨s.toArray⟩ w.drew, by simp [byteCells], one_cell hel.one⟩
theorem run_newVar {w : World} {t : Nat} {v : Value} : (newVar t v).run P w = .ok ⟨w.heap.size, 0, none⟩ (w.alloc (.cells v.cells t)) := by
  simp [newVar, newRow, Sem.run_bind]
/-- A variable that is made. -/
theorem new_ok (hs : Sim β O w m) {new : Nat} (hn : m.get new = none) (hl : new < m.next) (hb : β new = none) {v : AV} {u : Value} {sz t : Nat} (hf : fits v.isAgg sz v = true) (hz : 0 < sz) (hv : Rep β O w v u) :
    ∃ β' O', Stp β O w m new β' O' (w.alloc (.cells u.cells t)) (m.put new (.arr t sz [v])) ∧ Sim β' O' (w.alloc (.cells u.cells t)) (m.put new (.arr t sz [v])) ∧
      Rep β' O' (w.alloc (.cells u.cells t)) (.ptr new 0 0) (.pointer (some ⟨w.heap.size, 0, none⟩)) := by
  obtain ⟨h1, _, h3, h4, h5⟩ := rep_cellsL hf hv
  obtain ⟨β', O', hst, hsim, hnew⟩ := hs.make hn hl hb (w' := w.alloc (.cells u.cells t)) (t := t) (cs := u.cells) (es := [v]) (cap := 1) rfl hz (by simpa using h1) (by simp) (by omega) (fun i e he j c hc => by
    cases i with
    | succ i => simp at he
    | zero =>
      simp at he
      subst he
      obtain ⟨x, hx, hr⟩ := h3.get j hc
      exact ⟨x, by simpa using hx, h4 x (List.mem_of_getElem? hx), hr⟩)
  exact ⟨β', O', hst, hsim, by simpa using Rep.ptr (w := w.alloc (.cells u.cells t)) (O := O') (i := 0) (off := 0) hnew⟩
/-- A slice that is made of known elements. -/
theorem newRow_ok (hs : Sim β O w m) {new : Nat} (hn : m.get new = none) (hl : new < m.next) (hb : β new = none) {sz t cap : Nat} {es : List AV} {vs : List Value} (hz : 0 < sz) (hel : Els β O w sz es vs)
    {cs : Array Value} {w' : World} (hw : w'.heap = w.heap.push (.cells cs t (0, 0))) (hcap : es.length ≤ cap) (hcs : cs.size = cap * sz) (htake : cs.toList.take vs.length = vs) (hout : w'.os = w.os ∧ w'.output = w.output := by exact ⟨rfl, rfl⟩) :
    ∃ β' O', Stp β O w m new β' O' w' (m.put new (.arr t sz es)) ∧ Sim β' O' w' (m.put new (.arr t sz es)) ∧
      Rep β' O' w' (.sl sz new 0 es.length) (.slice (some ⟨w.heap.size, 0, none⟩) es.length cap) := by
  obtain ⟨β', O', hst, hsim, hnew⟩ := hs.make hn hl hb (w' := w') (t := t) (cs := cs) (es := es) (cap := cap) hw hz hel.size hcap (by omega) (fun i e he j c hc => by
    obtain ⟨u, hu, h1, hr⟩ := hel.at_ he hc
    refine ⟨u, ?_, h1, hr⟩
    have hlt := (List.getElem?_eq_some_iff.1 hu).1
    rw [← htake, List.getElem?_take, if_pos hlt] at hu
    simpa using hu) hout
  have := Rep.sl (O := O') (w := w') (i := 0) (n := es.length) (cap := cap) hnew rfl hcap (by simp)
  exact ⟨β', O', hst, hsim, by simpa using this⟩
end
end Go.Proofs.YtiijjopdhjpalaaDoor

/-! Appending, storing, making. Conditions: none. -/
namespace Go.Proofs.YtiijjopdhjpalaaDoor
open Go
set_option linter.unusedVariables false
set_option linter.unusedSimpArgs false
theorem setCell_size (w : World) (a : Addr) (v : Value) : (w.setCell a v).heap.size = w.heap.size := by simp [World.setCell]
theorem setCell_other (w : World) (a : Addr) (v : Value) {k : Nat} (h : k ≠ a.block) : (w.setCell a v).heap[k]? = w.heap[k]? := by
  simp [World.setCell, Array.getElem?_modify, Ne.symm h]
theorem setCell_here {w : World} {b o t : Nat} {cs : Array Value} (h : w.heap[b]? = some (.cells cs t (0, 0))) (v : Value) :
    (w.setCell ⟨b, o, none⟩ v).heap[b]? = some (.cells (cs.setIfInBounds o v) t (0, 0)) := by
  simp [World.setCell, Array.getElem?_modify, h]
theorem setCells_size (b : Nat) : ∀ (vs : List Value) (o : Nat) (w : World), (w.setCells b o vs).heap.size = w.heap.size
  | [], _, _ => rfl
  | v :: r, o, w => by rw [World.setCells, setCells_size b r, setCell_size]
theorem setCells_out (b : Nat) : ∀ (vs : List Value) (o : Nat) (w : World), (w.setCells b o vs).os = w.os ∧ (w.setCells b o vs).output = w.output
  | [], _, _ => ⟨rfl, rfl⟩
  | v :: r, o, w => setCells_out b r (o + 1) (w.setCell ⟨b, o, none⟩ v)
theorem setCells_other {b k : Nat} (h : k ≠ b) : ∀ (vs : List Value) (o : Nat) (w : World), (w.setCells b o vs).heap[k]? = w.heap[k]?
  | [], _, _ => rfl
  | v :: r, o, w => by rw [World.setCells, setCells_other h r, setCell_other _ _ _ h]
theorem setCells_here {b t : Nat} : ∀ (vs : List Value) (o : Nat) (w : World) (cs : Array Value), w.heap[b]? = some (.cells cs t (0, 0)) → o + vs.length ≤ cs.size →
    ∃ cs', (w.setCells b o vs).heap[b]? = some (.cells cs' t (0, 0)) ∧ cs'.size = cs.size ∧ (∀ k, k < o ∨ o + vs.length ≤ k → cs'[k]? = cs[k]?) ∧ ∀ j v, vs[j]? = some v → cs'[o + j]? = some v
  | [], o, w, cs, h, _ => ⟨cs, h, rfl, fun _ _ => rfl, by simp⟩
  | v :: r, o, w, cs, h, hl => by
    obtain ⟨cs', h1, h2, h3, h4⟩ := setCells_here r (o + 1) (w.setCell ⟨b, o, none⟩ v) (cs.setIfInBounds o v) (setCell_here h v) (by simp at hl ⊢; omega)
    refine ⟨cs', h1, by simpa using h2, fun k hk => ?_, fun j u hj => ?_⟩
    · rw [h3 k (by simp at hk; omega), Array.getElem?_setIfInBounds_ne (by simp at hk; omega)]
    · cases j with
      | zero =>
        simp at hj
        subst hj
        have hlt : o < cs.size := by simp at hl; omega
        rw [h3 (o + 0) (by omega)]
        simp [hlt]
      | succ j =>
        rw [show o + (j + 1) = o + 1 + j from by omega]
        exact h4 j u (by simpa using hj)
section
variable {P : Program} {β : Nat → Option Blk} {O : Nat → Prop} {w : World} {m : AMem}
theorem get_none_kill {id new : Nat} (h : m.get new = none) : (m.kill id).get new = none := by rw [AMem.get_kill]; split <;> simp [h]
theorem lim_fits {need old bytes : Nat} (h : old < need) (hb : need * bytes ≤ limBytes) (h1 : bytes ≤ 1048576) : Builtin.nextslicecap need old * bytes ≤ 281474976710656 := by
  refine growslice_fits_wide h ?_
  have h2 : (need + need / 4 + 192) * bytes = need * bytes + need / 4 * bytes + 192 * bytes := by rw [Nat.add_mul, Nat.add_mul]
  have h3 : need / 4 * bytes * 4 ≤ need * bytes := by
    rw [Nat.mul_right_comm]
    exact Nat.mul_le_mul_right _ (Nat.div_mul_le_self need 4)
  unfold limBytes at hb
  omega
theorem lim_63 {need bytes : Nat} (hb : need * bytes ≤ limBytes) (h1 : 0 < bytes) : need ≤ 9223372036854775807 := by
  have : need ≤ need * bytes := Nat.le_mul_of_pos_right _ h1
  unfold limBytes at hb
  omega
/-- An append onto nothing. -/
theorem run_append_none {t tx ty e : Nat} {i : TypeInfo} {x : Value} (ht : P.underlying t = some (.slice e)) (hi : P.info? e = some i) {a : Option Addr} {n c : Nat} (hs : Src P i.size tx x 0 [] w) (hn : n ≤ c) : (Builtin.append_ #[t, tx] ty #[.slice a n c, x]).run P w = .ok (.slice a n c) w := by
  rcases hs.kind with ⟨e', hk⟩ | hk <;> cases a <;>
    simp [Builtin.append_, run_underlying ht, run_underlying hk, sizeOf, typeInfo, hi, hs.len, hn, hs.cells, storeCells]
theorem app_ok (hs : Sim β O w m) {new : Nat} (hn : m.get new = none) (hl : new < m.next) (hb : β new = none) {t tx ty e sz bytes : Nat} {i : TypeInfo} {z : Value}
    (ht : P.underlying t = some (.slice e)) (hi : P.info? e = some i) (hz : i.zero = some z) (hzs : z.cells.size = sz) (hsize : i.size = sz) (hby : i.bytes = bytes) (hpos : 0 < sz) (hbm : bytes ≤ 1048576) (hb0 : 0 < bytes)
    {s v : AV} {us ux : Value} {xs : List AV} {vs : List Value} {m' : AMem} (hrs : Rep β O w s us) (hel : Els β O w sz xs vs) (src : Src P sz tx ux xs.length vs w) (h : aApp m new e sz bytes s xs = some (.val v m')) :
    ∃ r w' β' O', (Builtin.append_ #[t, tx] ty #[us, ux]).run P w = .ok r w' ∧ Stp β O w m new β' O' w' m' ∧ Sim β' O' w' m' ∧ Rep β' O' w' v r := by
  subst hsize hby
  -- a new row
  have grow : ∀ (m0 : AMem) (hs0 : Sim β O w m0) (hn0 : m0.get new = none) (hl0 : new < m0.next) (es : List AV) (olds : List Value) (ho : Els β O w i.size es olds) (base : Option Addr) (sCap : Nat)
      (hold : (Builtin.firstCells i.size es.length (.slice base es.length sCap)).run P w.drew = .ok olds.toArray w.drew) (hg : sCap < es.length + xs.length) (hlim : (es.length + xs.length) * i.bytes ≤ limBytes),
      ∃ r w' β' O', (Builtin.append_ #[t, tx] ty #[.slice base es.length sCap, ux]).run P w = .ok r w' ∧ Stp β O w m0 new β' O' w' (m0.put new (.arr e i.size (es ++ xs))) ∧
        Sim β' O' w' (m0.put new (.arr e i.size (es ++ xs))) ∧ Rep β' O' w' (.sl i.size new 0 (es.length + xs.length)) r := by
    intro m0 hs0 hn0 hl0 es olds ho base sCap hold hg hlim
    have h63 := lim_63 hlim hb0
    have hr := run_append_grow_src (P := P) w t tx ty e i z ht hi hz base es.length sCap olds hold ux xs.length vs src hg (by omega) (lim_fits hg hlim hbm)
    have hge := grownCap_ge w (es.length + xs.length) sCap e
    obtain ⟨β', O', h1, h2, h3⟩ := newRow_ok hs0 hn0 hl0 hb (sz := i.size) (t := e) (cap := grownCap w (es.length + xs.length) sCap e) hpos (ho.append hel)
      (cs := (olds ++ vs).toArray ++ Builtin.zeroCells z.cells (grownCap w (es.length + xs.length) sCap e - (es.length + xs.length))) (w' := w.drew.alloc (.cells ((olds ++ vs).toArray ++ Builtin.zeroCells z.cells (grownCap w (es.length + xs.length) sCap e - (es.length + xs.length))) e))
      rfl (by simpa using hge) (by simp only [Array.size_append, List.size_toArray, size_zeroCells, hzs, (ho.append hel).len, List.length_append, ← Nat.add_mul]; congr 1; omega) (by simp only [Array.toList_append]; exact List.take_left' rfl)
    rw [List.length_append] at h3
    exact ⟨_, _, β', O', hr, h1, h2, h3⟩
  unfold aApp at h
  split at h
  · -- onto nil
    split at h
    · rename_i hlim
      injection h with h
      injection h with h1 h2
      subst h1 h2
      rw [rep_nils hrs]
      by_cases h0 : xs.length = 0
      · have hx : xs = [] := List.eq_nil_of_length_eq_zero h0
        subst hx
        have hv : vs = [] := List.eq_nil_of_length_eq_zero (by simpa using hel.len)
        subst hv
        obtain ⟨a1, a2⟩ := hs.makeNil hn hl hb (t := e) (sz := i.size) hpos
        exact ⟨_, _, _, _, run_append_none ht hi src (Nat.le_refl _), a1, a2, .sl0⟩
      · have := grow m hs hn hl [] [] .nil none 0 (by simp [Builtin.firstCells]) (by simp; omega) (by simpa using hlim)
        simpa using this
    · cases h
  · rename_i s0 id j n
    split at h
    · rename_i t0 s1 es0 hget
      split at h
      · rename_i hc
        obtain ⟨hs0, ht0, hs1, hjn, hlim⟩ := hc
        subst hs0 ht0 hs1
        injection h with h
        injection h with h1 h2
        subst h1 h2
        have hkn : (m.kill id).get new = none := get_none_kill hn
        have hobj := hs.objs _ _ hget
        have elen : ((es0.drop j).take n).length = n := by simp; omega
        have hes : elems m i.size (.sl i.size id j n) = some ((es0.drop j).take n) := by simp [elems, hget, hjn]
        obtain ⟨olds, ho, hu⟩ := elems_ok hs hes hrs
        generalize hes0 : (es0.drop j).take n = es at *
        rcases hu with ⟨a, c, rfl, hc, ha⟩ | ⟨_, s', h', _⟩
        rotate_left
        · cases h'
        rw [← elen] at hlim ⊢
        by_cases hroom : es.length + xs.length ≤ c
        · rcases rep_sl hrs with ⟨bl, cap, hbl, hbz, hnc, hjc, he⟩ | ⟨hn0, a', he⟩
          · injection he with e1 e2 e3
            subst e1 e3
            obtain ⟨_, hbo, hbcap, cs, hh, hcs, hat⟩ := hobj.2.2.2 bl hbl
            have hfit : bl.base + j * bl.sz + es.length * i.size + vs.length ≤ cs.size := by
              have : (j + es.length + xs.length) * i.size ≤ bl.cap * i.size := Nat.mul_le_mul_right _ (by omega)
              rw [Nat.add_mul, Nat.add_mul] at this
              rw [hel.len, hbz]
              omega
            obtain ⟨cs', hc1, hc2, hc3, hc4⟩ := setCells_here vs (bl.base + j * bl.sz + es.length * i.size) w cs hh hfit
            have hr := run_append_room_src (P := P) w t tx ty t0 i ht hi bl.b (bl.base + j * bl.sz) es.length c ux xs.length vs src hroom
              (fun k hk => by simp [World.cell?, hh]; omega) (fun k hk => by simp [World.frozen?, hh])
            obtain ⟨β', a1, a2, a3⟩ := hs.write (new := new) (bl' := ⟨bl.b, bl.base + j * bl.sz, bl.cap - j, bl.sz⟩) hget hbl (.inr ⟨hn, hb⟩) hl rfl
              (w' := w.setCells bl.b (bl.base + j * bl.sz + es.length * i.size) vs) (cs := cs') (setCells_size _ _ _ _) (fun k hk => setCells_other hk _ _ _) hc1
              (es' := es ++ xs) (ho.append hel).size hbz (by simp; omega) (by
                rw [hc2, hbz]
                have : (j + (bl.cap - j)) * i.size = bl.cap * i.size := by congr 1; omega
                rw [Nat.add_mul] at this
                simp only
                omega) (fun k x hk q y hq => by
                have hqs : q < i.size := by
                  have h1 := (ho.append hel).size x (List.mem_of_getElem? hk)
                  have h2 := (List.getElem?_eq_some_iff.1 hq).1
                  omega
                simp only
                by_cases hkl : k < es.length
                · rw [List.getElem?_append_left hkl] at hk
                  rw [← hes0, List.getElem?_take, List.getElem?_drop] at hk
                  have hkn' : k < n := by omega
                  rw [if_pos hkn'] at hk
                  obtain ⟨u, hu1, hu2, hu3⟩ := hat (j + k) x hk q y hq
                  refine ⟨u, ?_, hu2, hu3⟩
                  have hle : (k + 1) * i.size ≤ es.length * i.size := Nat.mul_le_mul_right _ hkl
                  rw [Nat.add_mul] at hle
                  rw [hc3 _ (.inl (by omega)), ← hu1, hbz, Nat.add_mul]
                  congr 1
                  omega
                · rw [List.getElem?_append_right (by omega)] at hk
                  obtain ⟨u, hu1, hu2, hu3⟩ := hel.at_ hk hq
                  refine ⟨u, ?_, hu2, hu3⟩
                  have := hc4 _ u hu1
                  rw [← this]
                  congr 1
                  have e9 : k * i.size = es.length * i.size + (k - es.length) * i.size := by rw [← Nat.add_mul]; congr 1; omega
                  omega) (setCells_out _ _ _ _)
            refine ⟨_, _, β', O, hr, a1, a2, ?_⟩
            have := Rep.sl (O := O) (w := w.setCells bl.b (bl.base + j * bl.sz + es.length * i.size) vs) (i := 0) (n := es.length + xs.length) (cap := c) a3 hbz hroom (by simp; omega)
            simpa using this
          · injection he with e1 e2 e3
            subst e1 e3
            have hx : xs = [] := List.eq_nil_of_length_eq_zero (by omega)
            have he0 : es = [] := List.eq_nil_of_length_eq_zero (by omega)
            subst hx he0
            have hv : vs = [] := List.eq_nil_of_length_eq_zero (by simpa using hel.len)
            subst hv
            obtain ⟨a1, a2⟩ := (hs.kill id).makeNil hkn hl hb (t := t0) (sz := i.size) hpos
            exact ⟨_, _, _, _, run_append_none ht hi src (Nat.le_refl _), ⟨a1.goes, a1.keeps, a1.next, a1.old⟩, a2, .sl0⟩
        · have := grow (m.kill id) (hs.kill id) hkn hl es olds ho a c (by
            rcases ha with he0 | ⟨b, o, rfl, hat⟩
            · subst he0
              have hv : olds = [] := List.eq_nil_of_length_eq_zero (by simpa using ho.len)
              subst hv
              cases a <;> simp [Builtin.firstCells, loadCells, loadCellsFrom]
            · exact run_firstCells_some w.drew i.size es.length ⟨b, o, none⟩ es.length c olds ho.len (fun k v hk => by rw [addr_add]; exact hat k v hk)) (by omega) hlim
          obtain ⟨r, w', β', O', h1, h2, h3, h4⟩ := this
          exact ⟨r, w', β', O', h1, ⟨h2.goes, h2.keeps, h2.next, h2.old⟩, h3, h4⟩
      · cases h
    · cases h
  · cases h
end
end Go.Proofs.YtiijjopdhjpalaaDoor

/-! Storing, making, building, converting. Conditions: none. -/
namespace Go.Proofs.YtiijjopdhjpalaaDoor
open Go
set_option linter.unusedVariables false
set_option linter.unusedSimpArgs false
section
variable {P : Program} {β : Nat → Option Blk} {O : Nat → Prop} {w : World} {m : AMem}
theorem splice_cells {e : AV} {off : Nat} {vs : List AV} (hl : off + vs.length ≤ e.cells.length) (hv : ∀ v ∈ vs, v.isAgg = false) :
    (splice e off vs).cells = e.cells.take off ++ vs ++ e.cells.drop (off + vs.length) := by
  cases e with
  | agg cs => rfl
  | _ =>
    simp only [AV.cells, List.length_cons, List.length_nil, Nat.zero_add] at hl
    match vs, hl with
    | [], hl => simp [splice, AV.cells]
    | [v], hl =>
      have h0 : off = 0 := by simp at hl; omega
      subst h0
      simp only [splice]
      rw [cells_one (c := .junk) (hv v (by simp))]
      simp [AV.cells]
    | v :: v' :: r, hl => exact absurd hl (by simp; omega)
theorem splice_get {e : AV} {off : Nat} {vs : List AV} (hl : off + vs.length ≤ e.cells.length) (hv : ∀ v ∈ vs, v.isAgg = false) {j : Nat} {c : AV} (h : (splice e off vs).cells[j]? = some c) :
    (off ≤ j ∧ j < off + vs.length ∧ vs[j - off]? = some c) ∨ ((j < off ∨ off + vs.length ≤ j) ∧ e.cells[j]? = some c) := by
  rw [splice_cells hl hv] at h
  have h1 : (e.cells.take off).length = off := by simp; omega
  by_cases a : j < off
  · right
    refine ⟨.inl a, ?_⟩
    rw [List.append_assoc, List.getElem?_append_left (by omega), List.getElem?_take, if_pos a] at h
    exact h
  · by_cases b : j < off + vs.length
    · left
      refine ⟨by omega, b, ?_⟩
      rw [List.append_assoc, List.getElem?_append_right (by omega), h1, List.getElem?_append_left (by omega)] at h
      exact h
    · right
      refine ⟨.inr (by omega), ?_⟩
      rw [List.getElem?_append_right (by simp; omega)] at h
      simp only [List.length_append, h1, List.getElem?_drop] at h
      rw [← h]
      congr 1
      omega
theorem run_storeVar {t : Nat} {i : TypeInfo} (hi : P.info? t = some i) {b o : Nat} {u : Value} {bt : Nat} {cs : Array Value} (hh : w.heap[b]? = some (.cells cs bt (0, 0))) (hsz : u.cells.size = i.size) (hfit : o + i.size ≤ cs.size)
    (h1 : ∀ x ∈ u.cells.toList, oneV x = true) : (storeVar t ⟨b, o, none⟩ u).run P w = .ok () (w.setRow b (cs.toList.take o ++ u.cells.toList ++ cs.toList.drop (o + i.size)).toArray) := by
  have := run_storeCells_at P b o bt u.cells.toList 0 cs w hh (by simpa [hsz] using hfit) (one_cell h1)
  simp only [Nat.add_zero, Array.length_toList, hsz] at this
  simp only [storeVar, Sem.run_bind, run_sizeOf' hi, Result.andThen_ok, hsz, ne_eq, not_true_eq_false, if_false, this, Sem.run_pure]
theorem fits_cells {agg : Bool} {sz : Nat} {v : AV} (h : fits agg sz v = true) : ∀ c ∈ v.cells, c.isAgg = false := by
  have one : ∀ c : AV, c.one = true → c.isAgg = false := fun c hc => by cases c <;> simp_all [AV.one, AV.isAgg]
  cases v with
  | agg cs =>
    simp only [fits, Bool.and_eq_true] at h
    intro c hc
    exact one c (List.all_eq_true.1 h.2 c hc)
  | _ =>
    simp only [fits, Bool.and_eq_true] at h
    intro c hc
    simp only [AV.cells, List.mem_singleton] at hc
    subst hc
    rfl
theorem aStore_ok (hs : Sim β O w m) {agg : Bool} {sz : Nat} {p v : AV} {m' : AMem} (h : aStore m agg sz p v = some m') {up u : Value} (hp : Rep β O w p up) (hv : Rep β O w v u)
    {t : Nat} {i : TypeInfo} (hi : P.info? t = some i) (hz : i.size = sz) (new : Nat) :
    ∃ w' β' O', (Instr.storeAt t up u).run P w = .ok () w' ∧ Stp β O w m new β' O' w' m' ∧ Sim β' O' w' m' := by
  unfold aStore at h
  split at h
  · rename_i id j off
    split at h
    · rename_i ty s es hget
      split at h
      · rename_i e he
        split at h
        · rename_i hc
          injection h with h
          simp only [Bool.and_eq_true, decide_eq_true_eq] at hc
          obtain ⟨⟨hf, hl⟩, hl2⟩ := hc
          obtain ⟨bl, hbl, rfl⟩ := rep_ptr hp
          obtain ⟨h1, _, h3, h4, h5⟩ := rep_cellsL hf hv
          have hobj := hs.objs _ _ hget
          obtain ⟨hbz, hbo, hbc, cs, hh, hcs, hat⟩ := hobj.2.2.2 bl hbl
          have hj : j < es.length := (List.getElem?_eq_some_iff.1 he).1
          have helen : e.cells.length = s := hobj.2.1 e (List.mem_of_getElem? he)
          have hle : (j + 1) * s ≤ bl.cap * s := Nat.mul_le_mul_right _ (by omega)
          rw [Nat.add_mul] at hle
          have hfit : bl.base + j * bl.sz + off + i.size ≤ cs.size := by rw [hbz, hz]; omega
          have hrun := run_storeVar (P := P) hi hh (by rw [h5, hz]) hfit h4
          have hfc := fits_cells hf
          have hlv : off + v.cells.length ≤ e.cells.length := by omega
          -- what the cells are behind it
          have hnew : ∀ k, (bl.base + j * bl.sz + off ≤ k ∧ k < bl.base + j * bl.sz + off + i.size → (cs.toList.take (bl.base + j * bl.sz + off) ++ u.cells.toList ++ cs.toList.drop (bl.base + j * bl.sz + off + i.size))[k]? = u.cells.toList[k - (bl.base + j * bl.sz + off)]?) ∧
              (k < bl.base + j * bl.sz + off ∨ bl.base + j * bl.sz + off + i.size ≤ k → (cs.toList.take (bl.base + j * bl.sz + off) ++ u.cells.toList ++ cs.toList.drop (bl.base + j * bl.sz + off + i.size))[k]? = cs[k]?) := by
            intro k
            have hul : u.cells.toList.length = i.size := by simp [h5, hz]
            generalize bl.base + j * bl.sz + off = o at *
            have ht : (cs.toList.take o).length = o := by simp; omega
            constructor
            · rintro ⟨a, b⟩
              rw [List.append_assoc, List.getElem?_append_right (by omega), ht, List.getElem?_append_left (by omega)]
            · rintro (a | a)
              · rw [List.append_assoc, List.getElem?_append_left (by omega), List.getElem?_take, if_pos a]; simp
              · rw [List.getElem?_append_right (by simp; omega)]
                simp only [List.length_append, ht, hul, List.getElem?_drop]
                rw [Array.getElem?_toList]
                congr 1
                omega
          obtain ⟨β', a1, a2, a3⟩ := hs.write (new := id) (bl' := bl) hget hbl (.inl ⟨rfl, rfl⟩) (by
              rcases Nat.lt_or_ge id m.next with h' | h'
              · exact h'
              · rw [m.wf id h'] at hget; cases hget) rfl
            (w' := w.setRow bl.b (cs.toList.take (bl.base + j * bl.sz + off) ++ u.cells.toList ++ cs.toList.drop (bl.base + j * bl.sz + off + i.size)).toArray)
            (by simp [World.setRow]) (fun k hk => setRow_other w bl.b k _ (fun e => hk e)) (setRow_heap w bl.b cs _ ty _ hh)
            (es' := es.set j (splice e off v.cells)) (fun x hx => by
              rcases List.mem_or_eq_of_mem_set hx with hx | rfl
              · exact hobj.2.1 x hx
              · rw [splice_cells hlv hfc]; simp; omega) hbz (by simpa using hbc) (by simp [h5, hz]; omega) (fun k x hk q y hq => by
              rw [List.getElem?_set] at hk
              have hq' : q < s := by
                have h2 := (List.getElem?_eq_some_iff.1 hq).1
                by_cases hjk : j = k
                · rw [if_pos hjk, if_pos hj] at hk
                  injection hk with hk
                  subst hk
                  rw [splice_cells hlv hfc] at h2
                  simp at h2
                  omega
                · rw [if_neg hjk] at hk
                  have := hobj.2.1 x (List.mem_of_getElem? hk)
                  omega
              by_cases hjk : j = k
              · subst hjk
                rw [if_pos rfl, if_pos hj] at hk
                injection hk with hk
                subst hk
                rcases splice_get hlv hfc hq with ⟨b1, b2, b3⟩ | ⟨b1, b2⟩
                · obtain ⟨r, hr, hrr⟩ := h3.get _ b3
                  refine ⟨r, ?_, h4 r (List.mem_of_getElem? hr), hrr⟩
                  have := (hnew (bl.base + j * s + q)).1 (by rw [hbz]; omega)
                  simp only [List.getElem?_toArray]
                  rw [this, ← hr, hbz]
                  congr 1
                  omega
                · obtain ⟨r, hr1, hr2, hr3⟩ := hat j e he q y b2
                  refine ⟨r, ?_, hr2, hr3⟩
                  have := (hnew (bl.base + j * s + q)).2 (by rw [hbz]; omega)
                  simp only [List.getElem?_toArray]
                  rw [this, hr1]
              · rw [if_neg hjk] at hk
                obtain ⟨r, hr1, hr2, hr3⟩ := hat k x hk q y hq
                refine ⟨r, ?_, hr2, hr3⟩
                have : bl.base + k * s + q < bl.base + j * bl.sz + off ∨ bl.base + j * bl.sz + off + i.size ≤ bl.base + k * s + q := by
                  rw [hbz, hz]
                  rcases Nat.lt_or_gt_of_ne hjk with hlt | hgt
                  · right
                    have : (j + 1) * s ≤ k * s := Nat.mul_le_mul_right _ hlt
                    rw [Nat.add_mul] at this
                    omega
                  · left
                    have : (k + 1) * s ≤ j * s := Nat.mul_le_mul_right _ hgt
                    rw [Nat.add_mul] at this
                    omega
                have := (hnew (bl.base + k * s + q)).2 this
                simp only [List.getElem?_toArray]
                rw [this, hr1])
          rw [AMem.kill_put, h] at a1 a2
          refine ⟨_, β', O, ?_, ⟨a1.goes, a1.keeps, a1.next, fun k hk hkn => ?_⟩, a2⟩
          · simp only [Instr.storeAt, Instr.sureAddr, Sem.run_bind, Sem.run_pure, Result.andThen_ok, hrun]
          · by_cases hki : k = id
            · subst hki; rw [a3, hbl]
            · exact a1.old k hk hki
        · cases h
      · cases h
    · cases h
  · cases h
end
end Go.Proofs.YtiijjopdhjpalaaDoor

/-! Copying, making slices, building, converting, structs held against each other. Conditions: none. -/
namespace Go.Proofs.YtiijjopdhjpalaaDoor
open Go
set_option linter.unusedVariables false
set_option linter.unusedSimpArgs false
section
variable {P : Program} {β : Nat → Option Blk} {O : Nat → Prop} {w : World} {m : AMem}
theorem zeroA_ok {i : TypeInfo} {z : AV} (h : zeroA i = some z) : ∃ zv, i.zero = some zv ∧ z = aConst zv ∧ fits z.isAgg i.size z = true ∧ zv.cells.size = i.size ∧ ∀ β O w, Rep β O w z zv := by
  unfold zeroA at h
  split at h
  · rename_i zv hz
    split at h
    · rename_i hc
      injection h with h
      subst h
      exact ⟨zv, hz, rfl, hc.1, hc.2, fun β O w => rep_const β O w zv⟩
    · cases h
  · cases h
theorem fits_of {sz : Nat} {v : AV} (hl : v.cells.length = sz) (h1 : v.cells.all AV.one = true) : fits v.isAgg sz v = true := by
  cases v with
  | agg cs => simp only [AV.cells] at hl h1; simp [fits, AV.isAgg, hl, h1]
  | _ =>
    simp only [AV.cells, List.all_cons, List.all_nil, Bool.and_true] at h1
    simp only [AV.cells, List.length_cons, List.length_nil] at hl
    simp [fits, AV.isAgg, ← hl, h1]
theorem foldl_sets : ∀ (l : List Value) (k off : Nat) (cs : Array Value), off + k + l.length ≤ cs.size →
    ((l.zipIdx k).foldl (fun cs (p : Value × Nat) => cs.setIfInBounds (off + p.2) p.1) cs).toList = cs.toList.take (off + k) ++ l ++ cs.toList.drop (off + k + l.length)
  | [], k, off, cs, _ => by simp
  | v :: l, k, off, cs, h => by
    have hk : off + k < cs.size := by simp at h; omega
    rw [List.zipIdx_cons, List.foldl_cons, foldl_sets l (k + 1) off _ (by simp at h ⊢; omega)]
    simp only [Array.toList_setIfInBounds]
    rw [show off + (k + 1) = off + k + 1 from by omega]
    have e := list_seg_step cs.toList (off + k) v l (by simp at h ⊢; omega)
    simpa [Nat.add_assoc] using e
theorem run_make_els {t e : Nat} {i : TypeInfo} (hs : Sim β O w m) {new : Nat} (hn : m.get new = none) (hl : new < m.next) (hb : β new = none) (ht : P.underlying t = some (.slice e)) (hi : P.info? e = some i) {z : AV} (hz : zeroA i = some z) (hpos : 0 < i.size)
    {n c : Int} (h0 : 0 ≤ n) (h1 : n ≤ c) (h2 : (i.bytes : Int) * c ≤ 281474976710656) (h3 : c ≤ 9223372036854775807) (kl kc : IntKind) :
    ∃ r w' β' O', (Instr.makeSlice t (.int kl n) (.int kc c)).run P w = .ok r w' ∧ Stp β O w m new β' O' w' (m.put new (.arr e i.size (List.replicate n.toNat z))) ∧
      Sim β' O' w' (m.put new (.arr e i.size (List.replicate n.toNat z))) ∧ Rep β' O' w' (.sl i.size new 0 n.toNat) r := by
  obtain ⟨zv, hzv, _, hf, hzs, hzr⟩ := zeroA_ok hz
  have hr := run_make (P := P) w t e i zv ht hi hzv kl kc n c h0 h1 h2 h3
  obtain ⟨hlen, _, hrl, hone, _⟩ := rep_cellsL hf (hzr β O w)
  obtain ⟨β', O', a1, a2, a3⟩ := hs.make hn hl hb (w' := w.alloc (.cells (madeCells zv.cells (c.toNat * i.size)) e)) (t := e) (sz := i.size) (cs := madeCells zv.cells (c.toNat * i.size)) (es := List.replicate n.toNat z) (cap := c.toNat) rfl hpos
    (fun x hx => by rw [List.eq_of_mem_replicate hx]; exact hlen) (by simp; omega) (by simp [size_madeCells]) (fun k x hk j y hj => by
      have hx : x = z := by
        have := List.mem_of_getElem? hk
        exact List.eq_of_mem_replicate this
      subst hx
      have hkn : k < n.toNat := by
        have := (List.getElem?_eq_some_iff.1 hk).1
        simpa using this
      have hjs : j < i.size := by
        have := (List.getElem?_eq_some_iff.1 hj).1
        omega
      obtain ⟨u, hu, hru⟩ := hrl.get j hj
      refine ⟨u, ?_, hone u (List.mem_of_getElem? hu), hru⟩
      have hlt : k * i.size + j < c.toNat * i.size := by
        have : (k + 1) * i.size ≤ c.toNat * i.size := Nat.mul_le_mul_right _ (by omega)
        rw [Nat.add_mul] at this
        omega
      have hm : (k * i.size + j) % zv.cells.size = j := by rw [hzs, Nat.mul_comm, Nat.mul_add_mod, Nat.mod_eq_of_lt hjs]
      simp only [madeCells, Array.getElem?_map, Array.getElem?_range, if_pos hlt, Option.map_some, hm]
      rw [Array.getElem?_toList] at hu
      congr 1
      rw [getElem!_def, hu])
  refine ⟨_, _, β', O', hr, a1, a2, ?_⟩
  have := Rep.sl (O := O') (w := w.alloc (.cells (madeCells zv.cells (c.toNat * i.size)) e)) (i := 0) (n := n.toNat) (cap := c.toNat) a3 rfl (by omega) (by simp)
  simpa using this
end
end Go.Proofs.YtiijjopdhjpalaaDoor

/-! Building, literals, copying, texts and bytes, structs held against each other. Conditions: none. -/
namespace Go.Proofs.YtiijjopdhjpalaaDoor
open Go
set_option linter.unusedVariables false
set_option linter.unusedSimpArgs false
section
variable {P : Program} {β : Nat → Option Blk} {O : Nat → Prop} {w : World} {m : AMem}
theorem fill_step {place : Nat → Option (Nat × Nat)} {cells : Array Value} {i off sz : Nat} {u : Value} {rest : List (Nat × Value)} (hp : place i = some (off, sz)) (hs : u.cells.size = sz) (hl : off + sz ≤ cells.size) :
    Instr.fill place cells ((i, u) :: rest) = Instr.fill place (cells.toList.take off ++ u.cells.toList ++ cells.toList.drop (off + sz)).toArray rest := by
  have e := foldl_sets u.cells.toList 0 off cells (by simp [hs]; omega)
  have : u.cells.zipIdx.foldl (fun cs (p : Value × Nat) => cs.setIfInBounds (off + p.2) p.1) cells = (cells.toList.take off ++ u.cells.toList ++ cells.toList.drop (off + sz)).toArray := by
    apply Array.ext'
    rw [← Array.foldl_toList, Array.toList_zipIdx, e]
    simp [hs]
  simp only [Instr.fill, hp, hs]
  rw [if_neg (by simp; omega)]
  exact congrArg (fun x => Instr.fill place x rest) this
/-- Parts that stand for parts. -/
inductive PartsOk (β : Nat → Option Blk) (O : Nat → Prop) (w : World) (place : Nat → Option (Nat × Nat)) : List (Nat × Nat × AV) → List (Nat × Value) → Prop
  | nil : PartsOk β O w place [] []
  | cons {off sz v i u r r'} : place i = some (off, sz) → Rep β O w v u → PartsOk β O w place r r' → PartsOk β O w place ((off, sz, v) :: r) ((i, u) :: r')
theorem fillP_ok {place : Nat → Option (Nat × Nat)} : ∀ {ps : List (Nat × Nat × AV)} {qs : List (Nat × Value)} (h : PartsOk β O w place ps qs) {cs cs' : List AV} {cells : Array Value}, fillP cs ps = some cs' → RepL β O w cs cells.toList → (∀ v ∈ cells.toList, oneV v = true) →
    ∃ cells', Instr.fill place cells qs = some cells' ∧ RepL β O w cs' cells'.toList ∧ ∀ v ∈ cells'.toList, oneV v = true
  | _, _, .nil, cs, cs', cells, hf, hr, h1 => by
    simp only [fillP, Option.some.injEq] at hf
    subst hf
    exact ⟨cells, rfl, hr, h1⟩
  | _, _, .cons (off := off) (sz := sz) (v := v) (u := u) hp hv h, cs, cs', cells, hf, hr, h1 => by
    simp only [fillP] at hf
    split at hf
    · rename_i hc
      obtain ⟨hl, hle, hone⟩ := hc
      obtain ⟨_, _, h3, h4, h5⟩ := rep_cellsL (fits_of hl hone) hv
      have hlen := hr.length
      rw [fill_step hp h5 (by simp at hlen; omega)]
      refine fillP_ok h hf ?_ ?_
      · simp only
        exact ((hr.take off).append h3).append (hr.drop (off + sz))
      · intro x hx
        simp only [List.mem_append] at hx
        rcases hx with (hx | hx) | hx
        · exact h1 x (List.mem_of_mem_take hx)
        · exact h4 x hx
        · exact h1 x (List.mem_of_mem_drop hx)
    · cases hf
theorem build_ok {t : Nat} {i : TypeInfo} {z : AV} {place : Nat → Option (Nat × Nat)} {ps : List (Nat × Nat × AV)} {qs : List (Nat × Value)} (hz : zeroA i = some z) (hqs : PartsOk β O w place ps qs) {cs' : List AV} (hf : fillP z.cells ps = some cs')
    (hb : ∀ zv cells, i.zero = some zv → Instr.fill place zv.cells qs = some cells → P.built t qs = some cells) :
    ∃ u, (Instr.build t qs.toArray).run P w = .ok u w ∧ Rep β O w (.agg cs') u := by
  obtain ⟨zv, hzv, _, hfit, hzs, hzr⟩ := zeroA_ok hz
  obtain ⟨_, _, h3, h4, _⟩ := rep_cellsL hfit (hzr β O w)
  obtain ⟨cells, hc1, hc2, hc3⟩ := fillP_ok hqs hf h3 h4
  refine ⟨.agg cells, run_build w t qs.toArray cells (by simpa using hb zv cells hzv hc1), ?_⟩
  have := Rep.agg hc2 hc3
  simpa using this
theorem els_set {sz : Nat} {es : List AV} {vs : List Value} (h : Els β O w sz es vs) {i : Nat} (hi : i < es.length) {v : AV} {u : Value} (hl : v.cells.length = sz) (hr : RepL β O w v.cells u.cells.toList) (h1 : ∀ x ∈ u.cells.toList, oneV x = true) (hs : u.cells.size = sz) :
    Els β O w sz (es.set i v) (vs.take (i * sz) ++ u.cells.toList ++ vs.drop (i * sz + sz)) := by
  have e1 : (es.set i v) = es.take i ++ [v] ++ es.drop (i + 1) := by
    rw [List.set_eq_take_append_cons_drop, if_pos hi]; simp
  have a1 := h.take i
  have hv : Els β O w sz [v] u.cells.toList := ⟨by simpa using hl, by simpa using hr, h1, by simp [hs]⟩
  have hle : (i + 1) * sz ≤ es.length * sz := Nat.mul_le_mul_right _ hi
  have edrop : (es.drop (i + 1)).flatMap AV.cells = (es.flatMap AV.cells).drop (i * sz + sz) := by
    have := flat_take h.size (i + 1)
    have h2 : es.flatMap AV.cells = (es.take (i + 1)).flatMap AV.cells ++ (es.drop (i + 1)).flatMap AV.cells := by rw [← List.flatMap_append, List.take_append_drop]
    have h3 : ((es.take (i + 1)).flatMap AV.cells).length = i * sz + sz := by
      rw [this, List.length_take]
      have := h.rep.length
      rw [h.len] at this
      rw [this, Nat.add_mul] at *
      omega
    rw [h2, List.drop_append, h3]
    simp [← h3]
  have a3 : Els β O w sz (es.drop (i + 1)) (vs.drop (i * sz + sz)) := by
    refine ⟨fun e he => h.size e (List.mem_of_mem_drop he), by rw [edrop]; exact h.rep.drop _, fun x hx => h.one x (List.mem_of_mem_drop hx), ?_⟩
    rw [List.length_drop, List.length_drop, h.len, Nat.sub_mul, Nat.add_mul]
    omega
  rw [e1]
  exact (a1.append hv).append a3
inductive PartsE (β : Nat → Option Blk) (O : Nat → Prop) (w : World) : List (Nat × AV) → List (Nat × Value) → Prop
  | nil : PartsE β O w [] []
  | cons {i v u r r'} : Rep β O w v u → PartsE β O w r r' → PartsE β O w ((i, v) :: r) ((i, u) :: r')
theorem fillE_ok {sz : Nat} : ∀ {ps : List (Nat × AV)} {qs : List (Nat × Value)} (h : PartsE β O w ps qs) {es es' : List AV} {cells : Array Value},
    fillE sz es ps = some es' → Els β O w sz es cells.toList → es'.length = es.length ∧ ∃ cells', Instr.fill (fun i => some (i * sz, sz)) cells qs = some cells' ∧ Els β O w sz es' cells'.toList
  | _, _, .nil, es, es', cells, hf, hr => by
    simp only [fillE, Option.some.injEq] at hf
    subst hf
    exact ⟨rfl, cells, rfl, hr⟩
  | _, _, .cons (i := i) (v := v) (u := u) hv h, es, es', cells, hf, hr => by
    simp only [fillE] at hf
    split at hf
    · rename_i hc
      obtain ⟨hl, hi, hone⟩ := hc
      obtain ⟨_, _, h3, h4, h5⟩ := rep_cellsL (fits_of hl hone) hv
      have hle : (i + 1) * sz ≤ es.length * sz := Nat.mul_le_mul_right _ hi
      rw [Nat.add_mul] at hle
      have hcl := hr.len
      simp only [Array.length_toList] at hcl
      rw [fill_step rfl h5 (by omega)]
      have hset := els_set hr hi hl h3 h4 h5
      obtain ⟨a, b⟩ := fillE_ok h hf hset
      exact ⟨by simpa using a, b⟩
    · cases hf
theorem mkl_ok (hs : Sim β O w m) {new : Nat} (hn : m.get new = none) (hl : new < m.next) (hb : β new = none) {t e : Nat} {i : TypeInfo} {z : AV} (ht : P.underlying t = some (.slice e)) (hi : P.info? e = some i) (hz : zeroA i = some z) (hpos : 0 < i.size)
    {n : Nat} (hn1 : n * i.size ≤ 1000) {ps : List (Nat × AV)} {qs : List (Nat × Value)} (hqs : PartsE β O w ps qs) {es : List AV} (hf : fillE i.size (List.replicate n z) ps = some es) :
    ∃ r w' β' O', (Instr.buildSlice t n qs.toArray).run P w = .ok r w' ∧ Stp β O w m new β' O' w' (m.put new (.arr e i.size es)) ∧ Sim β' O' w' (m.put new (.arr e i.size es)) ∧ Rep β' O' w' (.sl i.size new 0 es.length) r := by
  obtain ⟨zv, hzv, _, hfit, hzs, hzr⟩ := zeroA_ok hz
  obtain ⟨hlen, _, h3, h4, _⟩ := rep_cellsL hfit (hzr β O w)
  -- the zeros
  have hrow : ∀ n, Els β O w i.size (List.replicate n z) (madeCells zv.cells (n * i.size)).toList := by
    intro n
    have hflat : ∀ n, (madeCells zv.cells (n * i.size)).toList = (List.replicate n zv.cells.toList).flatten := by
      intro n
      have hz0 : 0 < zv.cells.size := by omega
      apply List.ext_getElem?
      intro k
      simp only [madeCells, Array.toList_map, Array.toList_range, List.getElem?_map]
      by_cases hk : k < n * i.size
      · rw [List.getElem?_range hk]
        simp only [Option.map_some]
        have hq : k / i.size < n := Nat.div_lt_of_lt_mul (by rw [Nat.mul_comm]; exact hk)
        have : ∀ (n k : Nat), k < n * i.size → (List.replicate n zv.cells.toList).flatten[k]? = zv.cells.toList[k % i.size]? := by
          intro n
          induction n with
          | zero => intro k hk; simp at hk
          | succ n ih =>
            intro k hk
            rw [List.replicate_succ, List.flatten_cons]
            by_cases hlt : k < i.size
            · rw [List.getElem?_append_left (by simpa [hzs] using hlt), Nat.mod_eq_of_lt hlt]
            · rw [List.getElem?_append_right (by simp [hzs]; omega)]
              simp only [Array.length_toList, hzs]
              rw [ih (k - i.size) (by rw [Nat.add_mul] at hk; omega)]
              congr 1
              rw [← Nat.mod_eq_sub_mod (by omega)]
        rw [this n k hk, hzs]
        have hm : k % i.size < zv.cells.size := by rw [hzs]; exact Nat.mod_lt _ hpos
        rw [getElem!_pos zv.cells _ hm]
        simp [hm]
      · rw [List.getElem?_eq_none (by simpa using Nat.le_of_not_lt hk), List.getElem?_eq_none (by simp [hzs]; omega)]
        rfl
    rw [hflat]
    induction n with
    | zero => simpa using Els.nil
    | succ n ih =>
      rw [List.replicate_succ, List.replicate_succ, List.flatten_cons]
      have h1 : Els β O w i.size [z] zv.cells.toList := ⟨by simpa using hlen, by simpa using h3, h4, by simp [hzs]⟩
      exact h1.append ih
  obtain ⟨hlen', cells, hc1, hc2⟩ := fillE_ok hqs hf (hrow n)
  have run : (Instr.buildSlice t n qs.toArray).run P w = .ok (.slice (some ⟨w.heap.size, 0, none⟩) n n) (w.alloc (.cells cells e)) := by
    have hm0 : ∀ z0 : Array Value, n * i.size = 0 → (Array.range (n * i.size)).map (z0[· % z0.size]!) = madeCells zv.cells (n * i.size) := by
      intro z0 h0
      simp [h0, madeCells, Array.range_zero']
    by_cases h0 : n * i.size = 0
    · have := hm0 #[] h0
      simp only [Instr.buildSlice, Sem.run_bind, run_underlying ht, Result.andThen_ok, run_sizeOf' hi, if_neg (show ¬ n * i.size > 2 ^ 24 by omega), if_pos h0, Sem.run_pure, this, hc1, newRow, run_newObj_alloc]
    · have hz1 : (zeroValue e).run P w = .ok zv w := by simp [zeroValue, typeInfo, hi, hzv]
      have : (Array.range (n * i.size)).map (zv.cells[· % zv.cells.size]!) = madeCells zv.cells (n * i.size) := rfl
      simp only [Instr.buildSlice, Sem.run_bind, run_underlying ht, Result.andThen_ok, run_sizeOf' hi, if_neg (show ¬ n * i.size > 2 ^ 24 by omega), if_neg h0, hz1, Sem.run_pure, this, hc1, newRow, run_newObj_alloc]
  obtain ⟨β', O', a1, a2, a3⟩ := newRow_ok hs hn hl hb (sz := i.size) (t := e) (cap := n) hpos hc2 (cs := cells) (w' := w.alloc (.cells cells e)) rfl (by rw [hlen']; simp) (by
      have := hc2.len
      simp only [Array.length_toList] at this
      rw [this, hlen']; simp) (List.take_of_length_le (Nat.le_refl _))
  refine ⟨_, _, β', O', run, a1, a2, ?_⟩
  have e9 : es.length = n := by rw [hlen']; simp
  rw [e9] at a3 ⊢
  exact a3
end
end Go.Proofs.YtiijjopdhjpalaaDoor

/-! Copying, texts and bytes, structs held against each other. Conditions: none. -/
namespace Go.Proofs.YtiijjopdhjpalaaDoor
open Go
set_option linter.unusedVariables false
set_option linter.unusedSimpArgs false
section
variable {P : Program} {β : Nat → Option Blk} {O : Nat → Prop} {w : World} {m : AMem}
theorem eqCell_ok {k : EK} {a b : AV} {e : Bool} (h : eqCell k a b = some e) {ua ub : Value} (ha : Rep β O w a ua) (hb : Rep β O w b ub) {t : Nat} (ht : ekOf (P.underlying t) = some k) (d : Nat) :
    (Op.equalIn (d + 1) t ua ub).run P w = .ok e w := by
  unfold ekOf at ht
  split at ht <;> cases ht <;> rename_i hu
  · cases a <;> cases b <;> simp only [eqCell, reduceCtorEq] at h
    rename_i k1 x k2 y
    split at h
    · rename_i hk
      subst hk
      injection h with h
      subst h
      rw [rep_int ha, rep_int hb]
      exact run_equalIn_int w d t _ _ _ _ hu
    · cases h
  · cases a <;> cases b <;> simp only [eqCell, reduceCtorEq, Option.some.injEq] at h
    subst h
    rw [rep_bool ha, rep_bool hb]
    exact run_equalIn_bool' w d t _ _ hu
  · cases a <;> cases b <;> simp only [eqCell, reduceCtorEq, Option.some.injEq] at h
    subst h
    rw [rep_str ha, rep_str hb, run_equalIn_string w d t _ _ hu, ByteArray.toList_eq, ByteArray.toList_eq]
theorem ekOf_agg {d : Option TypeDesc} {e : EK} (h : ekOf d = some e) : aggOf d = some false := by
  unfold ekOf at h
  split at h <;> cases h <;> rfl
theorem eqCells_ok (d : Nat) (X Y : List Value) : ∀ {ks : List EK} {a b : List AV} {x y : List Value} {e : Bool} (k : Nat) (fs : List Field), eqCells ks a b = some e → flatFields P k fs = some ks → RepL β O w a x → RepL β O w b y →
    X.drop k = x → Y.drop k = y → (Op.eqFields (d + 1) X.toArray Y.toArray fs).run P w = .ok e w
  | [], [], [], _, _, e, k, fs, h, hf, _, _, _, _ => by
    simp only [eqCells, Option.some.injEq] at h
    subst h
    cases fs with
    | nil => rfl
    | cons f fs =>
      simp only [flatFields] at hf
      split at hf
      · split at hf <;> cases hf
      · cases hf
  | ek :: ks, a :: as, b :: bs, _, _, e, k, fs, h, hf, .cons (v := vx) ha hra, .cons (v := vy) hb hrb, hx, hy => by
    cases fs with
    | nil => cases hf
    | cons f fs =>
      simp only [flatFields] at hf
      split at hf
      · rename_i hc
        split at hf
        · rename_i e' l he' hl
          injection hf with hf
          injection hf with hf1 hf2
          subst hf1 hf2
          simp only [eqCells] at h
          cases h1 : eqCell e' a b with
          | none => rw [h1] at h; cases h
          | some r =>
            cases h2 : eqCells l as bs with
            | none => rw [h1, h2] at h; cases h
            | some r' =>
              rw [h1, h2] at h
              simp only [Option.bind_some, Option.map_some, Option.some.injEq] at h
              subst h
              have hga := ekOf_agg he'
              have px : X[k]? = some vx := by
                have := congrArg (fun l => l[0]?) hx
                simpa using this
              have py : Y[k]? = some vy := by
                have := congrArg (fun l => l[0]?) hy
                simpa using this
              have pp : ∀ (Z : List Value) v, Z[k]? = some v → (Go.part f.type Z.toArray f.offset).run P w = .ok v w := fun Z v hv => by
                simp [Go.part, Sem.run_bind, run_isAgg hga, hc.2, hv]
              have ih := eqCells_ok d X Y (k + 1) fs h2 hl hra hrb (by rw [← List.drop_drop, hx]; rfl) (by rw [← List.drop_drop, hy]; rfl)
              simp only [Op.eqFields, ne_eq, hc.1, not_false_eq_true, if_true, Sem.run_bind, pp X _ px, pp Y _ py, Result.andThen_ok, eqCell_ok h1 ha hb he' d]
              cases r
              · rfl
              · simpa using ih
        · cases hf
      · cases hf
  | [], _ :: _, _, _, _, _, _, _, h, _, _, _, _, _ => by simp [eqCells] at h
  | [], [], _ :: _, _, _, _, _, _, h, _, _, _, _, _ => by simp [eqCells] at h
  | _ :: _, [], _, _, _, _, _, _, h, _, _, _, _, _ => by simp [eqCells] at h
  | _ :: _, _ :: _, [], _, _, _, _, _, h, _, _, _, _, _ => by simp [eqCells] at h
theorem eqs_ok {ks : List EK} {a b : List AV} {e neg : Bool} (h : eqCells ks a b = some e) {ua ub : Value} (ha : Rep β O w (.agg a) ua) (hb : Rep β O w (.agg b) ub) {t : Nat} (ht : flatStruct P t = some ks) {op : BinOp} (hop : op = if neg then .neq else .eql) (xo yo : Operand) :
    (do eqGuard op t xo yo ua ub; binOp op t ua ub : Sem Value).run P w = .ok (.bool (neg != e)) w := by
  obtain ⟨x, rfl, hx, _⟩ := rep_agg ha
  obtain ⟨y, rfl, hy, _⟩ := rep_agg hb
  unfold flatStruct at ht
  split at ht
  · rename_i fs hu
    split at ht
    · rename_i hc
      have hu' : P.underlying t = some (.struct (P.fieldsOf t)) := by simp [Program.fieldsOf, hu]
      have hfs : P.fieldsOf t = fs := by simp [Program.fieldsOf, hu]
      refine run_eq_of hop ?_ rfl rfl ?_
      · cases neg <;> subst hop <;> simp [eqGuard, Sem.run_bind, hc.2]
      · rw [equal_succ, run_equalIn_struct w 9999 t _ _ hu' hc.1, hfs]
        exact eqCells_ok 9998 x y 0 fs.toList h ht hx hy rfl rfl
    · cases ht
  · cases ht
theorem byteOf_ok : ∀ {es : List AV} {l : List UInt8} {vs : List Value}, es.mapM byteOf = some l → RepL β O w es vs → ∃ ns : List Int, vs = ns.map (Value.int .u8) ∧ l = ns.map fun n => UInt8.ofNat n.toNat
  | [], l, _, h, .nil => by
    simp at h
    subst h
    exact ⟨[], rfl, rfl⟩
  | e :: es, l, _, h, .cons (v := v) hv hr => by
    simp only [List.mapM_cons, Option.bind_eq_bind, Option.pure_def, Option.bind_eq_some_iff, Option.some.injEq] at h
    obtain ⟨b, hb, l', hl, rfl⟩ := h
    obtain ⟨ns, rfl, rfl⟩ := byteOf_ok hl hr
    unfold Go.Proofs.YtiijjopdhjpalaaDoor.byteOf at hb
    split at hb
    · rename_i n
      injection hb with hb
      subst hb
      rw [rep_int hv]
      exact ⟨n :: ns, rfl, rfl⟩
    · cases hb
theorem push_all : ∀ (ns : List Int) (s : ByteArray), (ns.foldl (fun r n => r.push (UInt8.ofNat n.toNat)) s).data.toList = s.data.toList ++ ns.map fun n => UInt8.ofNat n.toNat
  | [], s => by simp
  | n :: ns, s => by
    rw [List.foldl_cons, push_all ns]
    simp [ByteArray.push]
theorem convBS_ok (hs : Sim β O w m) {x : AV} {es : List AV} {l : List UInt8} (h : elems m 1 x = some es) (hl : es.mapM byteOf = some l) {u : Value} (hx : Rep β O w x u) {s d e : Nat} (hsl : P.underlying s = some (.slice e)) (he : P.underlying e = some (.int .u8)) (hd : P.underlying d = some .string)
    (hns : ∀ z, x ≠ .str z) : ∃ r, (convert s d u).run P w = .ok r w ∧ Rep β O w (.str l) r := by
  obtain ⟨vs, hel, hu⟩ := elems_ok hs h hx
  rcases hu with ⟨a, c, rfl, _, hn⟩ | ⟨_, z, rfl, _⟩
  · have hflat : ∀ {es : List AV}, (∀ e ∈ es, e.cells.length = 1) → es.mapM byteOf = some l → es.flatMap AV.cells = es := by
      intro es
      clear hel h hl
      induction es generalizing l with
      | nil => intro _ _; rfl
      | cons e es ih =>
        intro h1 h2
        simp only [List.mapM_cons, Option.bind_eq_bind, Option.pure_def, Option.bind_eq_some_iff, Option.some.injEq] at h2
        obtain ⟨b, hb, l', hl, rfl⟩ := h2
        rw [List.flatMap_cons, ih (fun e he => h1 e (by simp [he])) hl]
        have : e.cells = [e] := by
          unfold Go.Proofs.YtiijjopdhjpalaaDoor.byteOf at hb
          split at hb
          · rfl
          · cases hb
        rw [this]
        rfl
    have hrep := hel.rep
    rw [hflat hel.size hl] at hrep
    obtain ⟨ns, rfl, rfl⟩ := byteOf_ok hl hrep
    rw [run_convert_bytes_string w s d e a _ c hsl he hd]
    have hlen : es.length = (ns.map (Value.int .u8)).length := hrep.length
    have str : ∀ a', (loadCells a' es.length).run P w = .ok (ns.map (Value.int .u8)).toArray w → ∃ r, (Conv.bytesToString (.slice (some a') es.length c)).run P w = .ok r w ∧ Rep β O w (.str (ns.map fun n => UInt8.ofNat n.toNat)) r := by
      intro a' hlc
      refine ⟨_, run_bytesToString w a' es.length c ns hlc, ?_⟩
      have e1 : (ns.foldl (fun r n => r.push (UInt8.ofNat n.toNat)) ByteArray.empty) = ⟨(ns.map fun n => UInt8.ofNat n.toNat).toArray⟩ := by
        apply ByteArray.ext
        apply Array.ext'
        rw [push_all]
        simp
      rw [e1]
      exact .tree .str
    rcases hn with hn | ⟨b, o, rfl, hat⟩
    · have hns0 : ns = [] := by
        have := hlen
        rw [hn] at this
        simpa using this.symm
      subst hns0 hn
      cases a with
      | none => exact ⟨.string .empty, by simp [Conv.bytesToString], .tree (RepT.str (s := []))⟩
      | some a' => exact str a' (by simp [loadCells, loadCellsFrom])
    · refine str _ ?_
      rw [hlen]
      exact run_loadCells_list w _ _ (fun j v hj => by rw [addr_add]; exact hat j v hj)
  · exact absurd rfl (hns z)
/-- The first cells of what is read. -/
theorem firstCells_ok {sz : Nat} (hz : 0 < sz) {es : List AV} {vs : List Value} (hel : Els β O w sz es vs) {u : Value} {x : AV}
    (hu : (∃ a c, u = .slice a es.length c ∧ es.length ≤ c ∧ (es = [] ∨ ∃ b o, a = some ⟨b, o, none⟩ ∧ ∀ j v, vs[j]? = some v → w.cell? ⟨b, o + j, none⟩ = some v)) ∨
      (sz = 1 ∧ ∃ s : List UInt8, x = .str s ∧ u = .string ⟨s.toArray⟩ ∧ vs = byteCells ⟨s.toArray⟩)) (k : Nat) (hk : k ≤ es.length) :
    (Builtin.firstCells sz k u).run P w = .ok (vs.take (k * sz)).toArray w ∧ (Builtin.lenOf u).run P w = .ok es.length w := by
  have hkl : (vs.take (k * sz)).length = k * sz := by
    rw [List.length_take, hel.len]
    exact Nat.min_eq_left (Nat.mul_le_mul_right _ hk)
  rcases hu with ⟨a, c, rfl, _, hn⟩ | ⟨rfl, s, rfl, rfl, rfl⟩
  · refine ⟨?_, rfl⟩
    rcases hn with rfl | ⟨b, o, rfl, hat⟩
    · have hk0 : k = 0 := by simpa using hk
      subst hk0
      cases a <;> simp [Builtin.firstCells, loadCells, loadCellsFrom]
    · have := run_loadCells_list (P := P) w ⟨b, o, none⟩ (vs.take (k * sz)) (fun j v hj => by
        rw [addr_add]
        rw [List.getElem?_take] at hj
        split at hj
        · exact hat j v hj
        · cases hj)
      rw [hkl] at this
      simpa [Builtin.firstCells] using this
  · have hlen : es.length = s.length := by
      have := hel.len
      simp [byteCells] at this
      omega
    refine ⟨?_, by rw [hlen]; rfl⟩
    simp only [Builtin.firstCells, Sem.run_pure, byteCells, Nat.mul_one]
    congr 1
    apply Array.ext'
    simp [ByteArray.data_extract, List.map_take]
theorem aCopy_ok (hs : Sim β O w m) {sz : Nat} (hz : 0 < sz) {d v : AV} {xs : List AV} {m' : AMem} (h : aCopy m sz d xs = some (.val v m')) {ud ux : Value} (hd : Rep β O w d ud) {x : AV} (hx : elems m sz x = some xs) (hrx : Rep β O w x ux)
    {t tx ty e : Nat} {i : TypeInfo} (ht : P.underlying t = some (.slice e)) (hi : P.info? e = some i) (hsz : i.size = sz) (new : Nat) :
    ∃ r w' β' O', (Builtin.copy_ #[t, tx] ty #[ud, ux]).run P w = .ok r w' ∧ Stp β O w m new β' O' w' m' ∧ Sim β' O' w' m' ∧ Rep β' O' w' v r := by
  subst hsz
  obtain ⟨vs, hel, hu⟩ := elems_ok hs hx hrx
  have run0 : ∀ a c, (Builtin.copy_ #[t, tx] ty #[.slice a 0 c, ux]).run P w = .ok (.int .i64 0) w := by
    intro a c
    obtain ⟨h1, h2⟩ := firstCells_ok (P := P) hz hel hu 0 (Nat.zero_le _)
    cases a <;> simp [Builtin.copy_, run_underlying ht, sizeOf, typeInfo, hi, h2, h1, storeCells, goInt]
  unfold aCopy at h
  split at h
  · injection h with h
    injection h with h1 h2
    subst h1 h2
    rw [rep_nils hd]
    exact ⟨_, _, β, O, run0 _ _, .refl _ _ _ _ _, hs, .tree .int⟩
  · rename_i s0 id j n
    split at h
    · cases h
    · rename_i hs0
      have hs0 : s0 = i.size := by simpa using hs0
      subst hs0
      split at h
      · rename_i hn0
        subst hn0
        injection h with h
        injection h with h1 h2
        subst h1 h2
        rcases rep_sl hd with ⟨bl, cap, _, _, _, _, rfl⟩ | ⟨_, a, rfl⟩
        · exact ⟨_, _, β, O, run0 _ _, .refl _ _ _ _ _, hs, .tree .int⟩
        · exact ⟨_, _, β, O, run0 _ _, .refl _ _ _ _ _, hs, .tree .int⟩
      · rename_i hn0
        split at h
        · rename_i t0 s1 es0 hget
          split at h
          · rename_i hc
            obtain ⟨hs1, hjn⟩ := hc
            subst hs1
            injection h with h
            injection h with h1 h2
            subst h1
            rcases rep_sl hd with ⟨bl, cap, hbl, hbz, hnc, hjc, rfl⟩ | ⟨hn, _⟩
            · have hobj := hs.objs _ _ hget
              obtain ⟨_, hbo, hbcap, cs, hh, hcs, hat⟩ := hobj.2.2.2 bl hbl
              have hk : min xs.length n ≤ xs.length := Nat.min_le_left _ _
              obtain ⟨hf1, hf2⟩ := firstCells_ok (P := P) hz hel hu (min xs.length n) hk
              have hkl : (vs.take (min xs.length n * i.size)).length = min xs.length n * i.size := by
                rw [List.length_take, hel.len]; exact Nat.min_eq_left (Nat.mul_le_mul_right _ hk)
              have hkn : min xs.length n ≤ n := Nat.min_le_right _ _
              generalize hkk : min xs.length n = k at *
              have hfit : bl.base + j * bl.sz + k * i.size ≤ cs.size := by
                have : (j + k) * i.size ≤ bl.cap * i.size := Nat.mul_le_mul_right _ (by omega)
                rw [Nat.add_mul] at this
                rw [hbz]; omega
              have hst := run_storeCells_at P bl.b (bl.base + j * bl.sz) t0 (vs.take (k * i.size)) 0 cs w hh (by rw [hkl]; simpa using hfit) (one_cell (fun v hv => hel.one v (List.mem_of_mem_take hv)))
              simp only [Nat.add_zero, hkl] at hst
              have hrun : (Builtin.copy_ #[t, tx] ty #[.slice (some ⟨bl.b, bl.base + j * bl.sz, none⟩) n cap, ux]).run P w = .ok (.int .i64 k) (w.setRow bl.b (cs.toList.take (bl.base + j * bl.sz) ++ vs.take (k * i.size) ++ cs.toList.drop (bl.base + j * bl.sz + k * i.size)).toArray) := by
                have hmin : Nat.min xs.length n = k := hkk
                simp only [Builtin.copy_, List.getElem?_toArray, List.getElem?_cons_zero, List.getElem?_cons_succ, Sem.run_bind, run_underlying ht, Result.andThen_ok, hf2, hmin, run_sizeOf' hi, hf1, hst, Sem.run_pure, goInt]
              have hnew : ∀ q, (bl.base + j * bl.sz ≤ q ∧ q < bl.base + j * bl.sz + k * i.size → (cs.toList.take (bl.base + j * bl.sz) ++ vs.take (k * i.size) ++ cs.toList.drop (bl.base + j * bl.sz + k * i.size))[q]? = vs[q - (bl.base + j * bl.sz)]?) ∧
                  (q < bl.base + j * bl.sz ∨ bl.base + j * bl.sz + k * i.size ≤ q → (cs.toList.take (bl.base + j * bl.sz) ++ vs.take (k * i.size) ++ cs.toList.drop (bl.base + j * bl.sz + k * i.size))[q]? = cs[q]?) := by
                intro q
                generalize bl.base + j * bl.sz = o at *
                have ht : (cs.toList.take o).length = o := by simp; omega
                constructor
                · rintro ⟨a, b⟩
                  rw [List.append_assoc, List.getElem?_append_right (by omega), ht, List.getElem?_append_left (by omega), List.getElem?_take, if_pos (by omega)]
                · rintro (a | a)
                  · rw [List.append_assoc, List.getElem?_append_left (by omega), List.getElem?_take, if_pos a]; simp
                  · rw [List.getElem?_append_right (by simp only [List.length_append]; omega)]
                    simp only [List.length_append, ht, hkl, List.getElem?_drop]
                    rw [Array.getElem?_toList]
                    congr 1
                    omega
              have hlen' : (es0.take j ++ xs.take n ++ es0.drop (j + k)).length = es0.length := by
                simp only [List.length_append, List.length_take, List.length_drop]; omega
              obtain ⟨β', a1, a2, a3⟩ := hs.write (new := id) (bl' := bl) hget hbl (.inl ⟨rfl, rfl⟩) (by
                  rcases Nat.lt_or_ge id m.next with h' | h'
                  · exact h'
                  · rw [m.wf id h'] at hget; cases hget) rfl
                (w' := w.setRow bl.b (cs.toList.take (bl.base + j * bl.sz) ++ vs.take (k * i.size) ++ cs.toList.drop (bl.base + j * bl.sz + k * i.size)).toArray)
                (by simp [World.setRow]) (fun q hq => setRow_other w bl.b q _ (fun e => hq e)) (setRow_heap w bl.b cs _ t0 _ hh)
                (es' := es0.take j ++ xs.take n ++ es0.drop (j + k)) (fun y hy => by
                  simp only [List.mem_append] at hy
                  rcases hy with (hy | hy) | hy
                  · exact hobj.2.1 y (List.mem_of_mem_take hy)
                  · exact hel.size y (List.mem_of_mem_take hy)
                  · exact hobj.2.1 y (List.mem_of_mem_drop hy)) hbz (by omega) (by simp [hkl]; omega) (fun a y ha q c hc => by
                  have hq : q < i.size := by
                    have h2 := (List.getElem?_eq_some_iff.1 hc).1
                    have : y.cells.length = i.size := by
                      have hy := List.mem_of_getElem? ha
                      simp only [List.mem_append] at hy
                      rcases hy with (hy | hy) | hy
                      · exact hobj.2.1 y (List.mem_of_mem_take hy)
                      · exact hel.size y (List.mem_of_mem_take hy)
                      · exact hobj.2.1 y (List.mem_of_mem_drop hy)
                    omega
                  simp only [List.getElem?_toArray]
                  by_cases h1 : a < j
                  · have ha' : es0[a]? = some y := by
                      rw [List.append_assoc, List.getElem?_append_left (by simp; omega), List.getElem?_take, if_pos h1] at ha
                      exact ha
                    obtain ⟨r, hr1, hr2, hr3⟩ := hat a y ha' q c hc
                    have hle : (a + 1) * i.size ≤ j * i.size := Nat.mul_le_mul_right _ h1
                    rw [Nat.add_mul] at hle
                    exact ⟨r, by rw [(hnew _).2 (.inl (by rw [hbz]; omega))]; exact hr1, hr2, hr3⟩
                  · by_cases h2 : a < j + k
                    · have ha' : xs[a - j]? = some y := by
                        have hjl : (es0.take j).length = j := by simp; omega
                        rw [List.append_assoc, List.getElem?_append_right (by omega), hjl, List.getElem?_append_left (by simp; omega), List.getElem?_take, if_pos (by omega)] at ha
                        exact ha
                      obtain ⟨r, hr1, hr2, hr3⟩ := hel.at_ ha' hc
                      have e1 : a * i.size = j * i.size + (a - j) * i.size := by rw [← Nat.add_mul]; congr 1; omega
                      have hle : (a - j + 1) * i.size ≤ k * i.size := Nat.mul_le_mul_right _ (by omega)
                      rw [Nat.add_mul] at hle
                      refine ⟨r, ?_, hr2, hr3⟩
                      rw [(hnew _).1 (by rw [hbz]; omega), ← hr1, hbz]
                      congr 1
                      omega
                    · have ha' : es0[a]? = some y := by
                        rw [List.getElem?_append_right (by simp; omega)] at ha
                        rw [← ha, List.getElem?_drop]
                        congr 1
                        simp only [List.length_append, List.length_take]
                        omega
                      obtain ⟨r, hr1, hr2, hr3⟩ := hat a y ha' q c hc
                      have hle : (j + k) * i.size ≤ a * i.size := Nat.mul_le_mul_right _ (by omega)
                      rw [Nat.add_mul] at hle
                      exact ⟨r, by rw [(hnew _).2 (.inr (by rw [hbz]; omega))]; exact hr1, hr2, hr3⟩)
              rw [AMem.kill_put] at a1 a2
              rw [← h2]
              refine ⟨_, _, β', O, hrun, ⟨a1.goes, a1.keeps, a1.next, fun q hq hqn => ?_⟩, a2, .tree .int⟩
              by_cases hqi : q = id
              · subst hqi; rw [a3, hbl]
              · exact a1.old q hq hqi
            · exact absurd hn hn0
          · cases h
        · cases h
  · cases h
end
end Go.Proofs.YtiijjopdhjpalaaDoor
