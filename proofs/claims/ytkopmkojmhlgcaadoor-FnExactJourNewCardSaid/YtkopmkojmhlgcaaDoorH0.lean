/- The abstract level: values without block numbers, a heap of arrays and maps without capacities, local variables outside of the heap; what an instruction asks so that a statement holds behind it. Definitions alone; plain simp lemmas. Conditions: none. -/
import Derived.Calls
import Derived.Laws.Sem
import Derived.Laws.AppendOwn
import Derived.Laws.MakeOwn
import Derived.Laws.Cells
import Derived.Laws.CopyRow
import Derived.Laws.StructEq
import Derived.Laws.Rows
import Derived.Laws.Tables
namespace Go.HL

inductive HV where
  | int (k : IntKind) (n : Int)
  | bool (b : Bool)
  | str (s : List UInt8)
  | slice (id off len room : Nat) (ex : Bool)
  | nils
  | ptr (id i f : Nat)
  | nilp
  | map (id : Nat)
  | nilm
  | iter (id : Nat)
  | fn (f : FuncId) (first caps : List HV)
  | nilf
  | agg (l : List HV)
  | tup (l : List HV)
  deriving Inhabited

/-- the plain int -/
@[reducible] def HV.i (n : Int) : HV := .int .i64 n

def HV.cells : HV → List HV
  | .agg l => l
  | .tup _ => []
  | v => [v]

def HV.one : HV → Bool
  | .agg _ | .tup _ => false
  | _ => true

inductive HObj where
  | arr (ro : Bool) (sz : Nat) (es : List (List HV))
  | map (es : List (HV × HV))
  | iter (m : Option Nat) (seen : List Nat)

structure HH where
  next : Nat
  get : Nat → Option HObj

def HH.put (h : HH) (id : Nat) (o : HObj) : HH := { h with get := fun i => if i = id then some o else h.get i }
def HH.kill (h : HH) (id : Nat) : HH := { h with get := fun i => if i = id then none else h.get i }
def HH.new (h : HH) (o : HObj) : HH := { next := h.next + 1, get := fun i => if i = h.next then some o else h.get i }

@[simp] theorem HH.put_next (h : HH) (id : Nat) (o : HObj) : (h.put id o).next = h.next := rfl
@[simp] theorem HH.kill_next (h : HH) (id : Nat) : (h.kill id).next = h.next := rfl
@[simp] theorem HH.new_next (h : HH) (o : HObj) : (h.new o).next = h.next + 1 := rfl
@[simp] theorem HH.put_get (h : HH) (id : Nat) (o : HObj) (i : Nat) : (h.put id o).get i = if i = id then some o else h.get i := rfl
@[simp] theorem HH.kill_get (h : HH) (id : Nat) (i : Nat) : (h.kill id).get i = if i = id then none else h.get i := rfl
@[simp] theorem HH.new_get (h : HH) (o : HObj) (i : Nat) : (h.new o).get i = if i = h.next then some o else h.get i := rfl

inductive TV where
  | val (v : HV)
  | loc (l f : Nat)
  | bad
  deriving Inhabited

def TV.clear (d : Nat) : TV → TV
  | .loc l f => if l = d then .bad else .loc l f
  | x => x
@[simp] theorem TV.clear_val (d : Nat) (v : HV) : (TV.val v).clear d = .val v := rfl
@[simp] theorem TV.clear_bad (d : Nat) : TV.bad.clear d = .bad := rfl
@[simp] theorem TV.clear_loc (d l f : Nat) : (TV.loc l f).clear d = if l = d then .bad else .loc l f := rfl

structure Env where
  t : Nat → TV
  l : Nat → Option (List HV)

def Env.set (e : Env) (d : Nat) (v : TV) : Env :=
  { t := fun n => if n = d then v.clear d else (e.t n).clear d, l := fun n => if n = d then none else e.l n }
def Env.setL (e : Env) (d : Nat) (cs : List HV) : Env := { e with l := fun n => if n = d then some cs else e.l n }
@[simp] theorem Env.set_t (e : Env) (d : Nat) (v : TV) (n : Nat) : (e.set d v).t n = if n = d then v.clear d else (e.t n).clear d := rfl
@[simp] theorem Env.set_l (e : Env) (d : Nat) (v : TV) (n : Nat) : (e.set d v).l n = if n = d then none else e.l n := rfl
/-- a new local variable -/
def Env.al (e : Env) (d : Nat) (cs : List HV) : Env :=
  { t := fun n => if n = d then .loc d 0 else (e.t n).clear d, l := fun n => if n = d then some cs else e.l n }
@[simp] theorem Env.al_t (e : Env) (d : Nat) (cs : List HV) (n : Nat) : (e.al d cs).t n = if n = d then .loc d 0 else (e.t n).clear d := rfl
@[simp] theorem Env.al_l (e : Env) (d : Nat) (cs : List HV) (n : Nat) : (e.al d cs).l n = if n = d then some cs else e.l n := rfl
@[simp] theorem Env.setL_t (e : Env) (d : Nat) (cs : List HV) (n : Nat) : (e.setL d cs).t n = e.t n := rfl
@[simp] theorem Env.setL_l (e : Env) (d : Nat) (cs : List HV) (n : Nat) : (e.setL d cs).l n = if n = d then some cs else e.l n := rfl

/-- An operand: a temporary or a constant. -/
inductive O where
  | t (n : Nat)
  | c (v : HV)

def Env.ev (e : Env) : O → TV
  | .t n => e.t n
  | .c v => .val v
@[simp] theorem Env.ev_t (e : Env) (n : Nat) : e.ev (.t n) = e.t n := rfl
@[simp] theorem Env.ev_c (e : Env) (v : HV) : e.ev (.c v) = .val v := rfl

def TV.hv : TV → Option HV
  | .val v => some v
  | _ => none
@[simp] theorem TV.hv_val (v : HV) : (TV.val v).hv = some v := rfl
@[simp] theorem TV.hv_loc (l f : Nat) : (TV.loc l f).hv = none := rfl
@[simp] theorem TV.hv_bad : TV.bad.hv = none := rfl

def Env.v (e : Env) (o : O) : Option HV := (e.ev o).hv
@[simp] theorem Env.v_t (e : Env) (n : Nat) : e.v (.t n) = (e.t n).hv := rfl
@[simp] theorem Env.v_c (e : Env) (v : HV) : e.v (.c v) = some v := rfl

def Env.vs (e : Env) : List O → Option (List HV)
  | [] => some []
  | o :: r => (e.v o).bind fun x => (e.vs r).map (x :: ·)
@[simp] theorem Env.vs_nil (e : Env) : e.vs [] = some [] := rfl
@[simp] theorem Env.vs_cons (e : Env) (o : O) (r : List O) : e.vs (o :: r) = (e.v o).bind fun x => (e.vs r).map (x :: ·) := rfl

/-- some value, and the rest -/
def oK {α : Type} (o : Option α) (K : α → Prop) : Prop := ∃ x, o = some x ∧ K x
@[simp] theorem oK_some {α : Type} (x : α) (K : α → Prop) : oK (some x) K ↔ K x := ⟨fun ⟨_, h, k⟩ => by cases h; exact k, fun k => ⟨x, rfl, k⟩⟩
@[simp] theorem oK_none {α : Type} (K : α → Prop) : oK none K ↔ False := ⟨fun ⟨_, h, _⟩ => (by cases h), False.elim⟩
@[simp] theorem oK_guard {α : Type} (c : Prop) [Decidable c] (a : Option α) (K : α → Prop) : oK (if c then a else none) K ↔ c ∧ oK a K := by
  by_cases h : c <;> simp [h]

/-- the cells of a variable, as a value -/
def getCells (agg : Bool) (n f : Nat) (cs : List HV) : Option HV :=
  if agg then (if f + n ≤ cs.length then some (.agg ((cs.drop f).take n)) else none) else cs[f]?
def splice (cs : List HV) (f : Nat) (vs : List HV) : List HV := cs.take f ++ vs ++ cs.drop (f + vs.length)

/-- the elements that a slice holds -/
def HH.elems (h : HH) (sz : Nat) : HV → Option (List (List HV))
  | .nils => some []
  | .slice id off len _ _ =>
    match h.get id with
    | some (.arr _ s es) => if s = sz ∧ off + len ≤ es.length then some ((es.drop off).take len) else none
    | _ => none
  | _ => none

def i64max : Int := 9223372036854775807

/-- the kinds of a comparable value's cells -/
inductive Leaf where
  | i | b | s
  deriving DecidableEq

def eqS : Leaf → HV → HV → Option Bool
  | .i, .int k a, .int k' b => if k = k' then some (a == b) else none
  | .b, .bool a, .bool b => some (a == b)
  | .s, .str a, .str b => some (a == b)
  | _, _, _ => none
def eqL : List Leaf → List HV → List HV → Option Bool
  | [], [], [] => some true
  | k :: ks, a :: x, b :: y => (eqS k a b).bind fun r => (eqL ks x y).map (r && ·)
  | _, _, _ => none
/-- of structs (agg) cell by cell; of other values -/
def eqV : Bool → List Leaf → HV → HV → Option Bool
  | true, ks, .agg a, .agg b => eqL ks a b
  | true, _, _, _ => none
  | false, ks, x, y => eqL ks [x] [y]
@[simp] theorem eqV_false (ks : List Leaf) (x y : HV) : eqV false ks x y = eqL ks [x] [y] := rfl
@[simp] theorem eqV_true (ks : List Leaf) (x y : List HV) : eqV true ks (.agg x) (.agg y) = eqL ks x y := rfl
def nilV : HV → Option Bool
  | .nils => some true
  | .slice .. => some false
  | _ => none
/-- a key of the right form -/
def keyOk : Bool → List Leaf → HV → Bool
  | true, ks, .agg l => l.length == ks.length
  | true, _, _ => false
  | false, ks, v => v.one && ks.length == 1
@[simp] theorem keyOk_false (ks : List Leaf) (x : HV) : keyOk false ks x = (x.one && ks.length == 1) := rfl
@[simp] theorem keyOk_true (ks : List Leaf) (x : List HV) : keyOk true ks (.agg x) = (x.length == ks.length) := rfl

def ltB : List UInt8 → List UInt8 → Bool := Op.bytesLess

def binV (op : BinOp) (x y : HV) : Option HV :=
  match x, y with
  | .int k a, .int k' b =>
    match op with
    | .shl => if 0 ≤ b then some (.int k (k.wrap (a * 2 ^ (min b.toNat k.bits)))) else none
    | .shr => if 0 ≤ b then some (.int k (a.fdiv (2 ^ (min b.toNat k.bits)))) else none
    | .add => if k = k' then some (.int k (k.wrap (a + b))) else none
    | .sub => if k = k' then some (.int k (k.wrap (a - b))) else none
    | .mul => if k = k' then some (.int k (k.wrap (a * b))) else none
    | .quo => if k = k' ∧ b ≠ 0 then some (.int k (k.wrap (a.tdiv b))) else none
    | .rem => if k = k' ∧ b ≠ 0 then some (.int k (a.tmod b)) else none
    | .and => if k = k' then some (.int k (k.wrap (BitVec.ofInt k.bits a &&& BitVec.ofInt k.bits b).toNat)) else none
    | .or => if k = k' then some (.int k (k.wrap (BitVec.ofInt k.bits a ||| BitVec.ofInt k.bits b).toNat)) else none
    | .xor => if k = k' then some (.int k (k.wrap (BitVec.ofInt k.bits a ^^^ BitVec.ofInt k.bits b).toNat)) else none
    | .eql => if k = k' then some (.bool (a == b)) else none
    | .neq => if k = k' then some (.bool (a != b)) else none
    | .lss => if k = k' then some (.bool (a < b)) else none
    | .leq => if k = k' then some (.bool (a ≤ b)) else none
    | .gtr => if k = k' then some (.bool (a > b)) else none
    | .geq => if k = k' then some (.bool (a ≥ b)) else none
    | _ => none
  | .str a, .str b =>
    match op with
    | .add => if ((a.length + b.length : Nat) : Int) ≤ i64max then some (.str (a ++ b)) else none
    | .eql => some (.bool (a == b))
    | .neq => some (.bool !(a == b))
    | .lss => some (.bool (ltB a b))
    | .geq => some (.bool !(ltB a b))
    | _ => none
  | _, _ => none

def unV (op : UnOp) (x : HV) : Option HV :=
  match op, x with
  | .not, .bool b => some (.bool !b)
  | .neg, .int k n => some (.int k (k.wrap (0 - n)))
  | _, _ => none

/-- conversions: to a number of a kind; from bytes to a string; nothing to do -/
inductive CK where
  | int (k : IntKind)
  | str
  | same

def bytesOf : List (List HV) → Option (List UInt8)
  | [] => some []
  | [.int .u8 n] :: r => (bytesOf r).map (UInt8.ofNat n.toNat :: ·)
  | _ => none

inductive PO where
  | mv (x : O)
  | pick (c a b : O)
  | mk (zero : List HV) (parts : List (Nat × Nat × O))
  | load (agg : Bool) (n : Nat) (p : O)
  | faddr (p : O) (off : Nat)
  | iaddr (sz : Nat) (x i : O)
  | iaddrA (len sz : Nat) (p i : O)
  | idxS (x i : O)
  | idxA (agg : Bool) (len n : Nat) (x i : O)
  | field (agg : Bool) (n off : Nat) (x : O)
  | extract (x : O) (i : Nat)
  | un (op : UnOp) (x : O)
  | bin (op : BinOp) (x y : O)
  | eq (neg ag : Bool) (ks : List Leaf) (x y : O)
  | eqnil (neg : Bool) (x : O)
  | conv (k : CK) (x : O)
  | len (k : Nat) (x : O)
  | cutS (x : O) (lo hi : Option O)
  | slice (sz : Nat) (x : O) (lo hi mx : Option O)
  | nilchk (x : O)
  | lookup (ok : Bool) (zero : HV) (ag : Bool) (ks : List Leaf) (m k : O)
  | mxmn (isMax : Bool) (x : O) (xs : List O)
  | mkfn (f : FuncId) (first caps : List O)

def mkParts (e : Env) : List HV → List (Nat × Nat × O) → Option (List HV)
  | cs, [] => some cs
  | cs, (off, n, o) :: r => (e.v o).bind fun v => if v.cells.length = n ∧ off + n ≤ cs.length then mkParts e (splice cs off v.cells) r else none

def oInt (e : Env) : Option O → Option (Option Int)
  | none => some none
  | some o => match e.v o with
    | some (.int _ n) => some (some n)
    | _ => none

def mxV (isMax : Bool) : HV → HV → Option HV
  | .int k a, .int k' b => if k = k' then some (.int k (if isMax then (if b > a then b else a) else (if b < a then b else a))) else none
  | _, _ => none
def mxL (isMax : Bool) : HV → List HV → Option HV
  | a, [] => some a
  | a, b :: r => (mxV isMax a b).bind fun c => mxL isMax c r

def findE (ag : Bool) (ks : List Leaf) (k : HV) : List (HV × HV) → Option (Option HV)
  | [] => some none
  | (k', v) :: r => (eqV ag ks k k').bind fun b => if b then some (some v) else findE ag ks k r

def lookV (h : HH) (ok : Bool) (zero : HV) (ag : Bool) (ks : List Leaf) (m k : HV) : Option HV :=
  match m with
  | .nilm => some (if ok then .tup [zero, .bool false] else zero)
  | .map id => match h.get id with
    | some (.map es) => (findE ag ks k es).map fun r => match r with
      | some v => if ok then .tup [v, .bool true] else v
      | none => if ok then .tup [zero, .bool false] else zero
    | _ => none
  | _ => none

def sliceV (x : HV) (lo hi mx : Option Int) : Option HV :=
  let l := lo.getD 0
  match x with
  | .str s =>
    let h := hi.getD s.length
    if mx = none ∧ 0 ≤ l ∧ l ≤ h ∧ h ≤ s.length then some (.str ((s.take h.toNat).drop l.toNat)) else none
  | .nils => if l = 0 ∧ hi.getD 0 = 0 ∧ mx.getD 0 = 0 then some .nils else none
  | .slice id off len room ex =>
    let h := hi.getD len
    match mx with
    | none => if 0 ≤ l ∧ l ≤ h ∧ h ≤ room then some (.slice id (off + l.toNat) (h.toNat - l.toNat) (room - l.toNat) ex) else none
    | some m => if 0 ≤ l ∧ l ≤ h ∧ h ≤ m ∧ m ≤ room ∧ hi ≠ none then some (.slice id (off + l.toNat) (h.toNat - l.toNat) (m.toNat - l.toNat) true) else none
  | _ => none

def HH.loadP (h : HH) (e : Env) (agg : Bool) (n : Nat) : TV → Option HV
  | .loc l f => (e.l l).bind fun cs => getCells agg n f cs
  | .val (.ptr id i f) =>
    match h.get id with
    | some (.arr _ _ es) => (es[i]?).bind fun cs => getCells agg n f cs
    | _ => none
  | _ => none

def faddrV (off : Nat) : TV → Option TV
  | .loc l f => some (.loc l (f + off))
  | .val (.ptr id i f) => some (.val (.ptr id i (f + off)))
  | _ => none
def iaddrV (h : HH) (sz : Nat) (x i : Option HV) : Option TV :=
  match x, i with
  | some (.slice id off ln _ _), some (.int _ n) => match h.get id with
    | some (.arr _ s _) => if s = sz ∧ 0 ≤ n ∧ n < ln then some (.val (.ptr id (off + n.toNat) 0)) else none
    | _ => none
  | _, _ => none
def iaddrAV (ln sz : Nat) (p : TV) (i : Option HV) : Option TV :=
  match p, i with
  | .loc l f, some (.int _ n) => if 0 ≤ n ∧ n < ln then some (.loc l (f + n.toNat * sz)) else none
  | .val (.ptr id j f), some (.int _ n) => if 0 ≤ n ∧ n < ln then some (.val (.ptr id j (f + n.toNat * sz))) else none
  | _, _ => none

def PO.ev (e : Env) (h : HH) : PO → Option TV
  | .mv x => some (e.ev x)
  | .pick c a b => match e.v c with
    | some (.bool r) => some (if r then e.ev a else e.ev b)
    | _ => none
  | .mk zero parts => (mkParts e zero parts).map fun l => .val (.agg l)
  | .load agg n p => (h.loadP e agg n (e.ev p)).map .val
  | .faddr p off => faddrV off (e.ev p)
  | .iaddr sz x i => iaddrV h sz (e.v x) (e.v i)
  | .iaddrA ln sz p i => iaddrAV ln sz (e.ev p) (e.v i)
  | .idxS x i => match e.v x, e.v i with
    | some (.str s), some (.int _ n) => if 0 ≤ n then (s[n.toNat]?).map fun b => .val (.int .u8 b.toNat) else none
    | _, _ => none
  | .idxA agg ln n x i => match e.v x, e.v i with
    | some (.agg l), some (.int _ m) => if 0 ≤ m ∧ m < ln then (getCells agg n (m.toNat * n) l).map .val else none
    | _, _ => none
  | .field agg n off x => match e.v x with
    | some (.agg l) => (getCells agg n off l).map .val
    | _ => none
  | .extract x i => match e.v x with
    | some (.tup l) => (l[i]?).map .val
    | _ => none
  | .un op x => (e.v x).bind fun a => (unV op a).map .val
  | .bin op x y => (e.v x).bind fun a => (e.v y).bind fun b => (binV op a b).map .val
  | .conv (.int k) x => match e.v x with
    | some (.int _ n) => some (.val (.int k (k.wrap n)))
    | _ => none
  | .conv .str x => (e.v x).bind fun a => (h.elems 1 a).bind fun es => (bytesOf es).map fun s => .val (.str s)
  | .conv .same x => match e.v x with
    | some (.str s) => some (.val (.str s))
    | _ => none
  | .len k x => match k, e.v x with
    | 0, some (.str s) => some (.val (.i s.length))
    | 1, some .nils => some (.val (.i 0))
    | 1, some (.slice _ _ ln _ _) => some (.val (.i ln))
    | 2, some .nilm => some (.val (.i 0))
    | 2, some (.map id) => match h.get id with
      | some (.map es) => some (.val (.i es.length))
      | _ => none
    | _, _ => none
  | .cutS x lo hi => match e.v x with
    | some (.str s) => (oInt e lo).bind fun l => (oInt e hi).bind fun u => (sliceV (.str s) l u none).map .val
    | _ => none
  | .slice sz x lo hi mx => match e.v x with
    | some .nils => (oInt e lo).bind fun l => (oInt e hi).bind fun u => (oInt e mx).bind fun m => if m ≠ none → u ≠ none then (sliceV .nils l u m).map .val else none
    | some (.slice id off ln room ex) => match h.get id with
      | some (.arr _ s _) => if s = sz then (oInt e lo).bind fun l => (oInt e hi).bind fun u => (oInt e mx).bind fun m => (sliceV (.slice id off ln room ex) l u m).map .val else none
      | _ => none
    | _ => none
  | .nilchk x => match e.ev x with
    | .val (.ptr id i f) => some (.val (.ptr id i f))
    | .loc l f => some (.loc l f)
    | .val (.fn f a b) => some (.val (.fn f a b))
    | _ => none
  | .lookup ok zero ag ks m k => (e.v m).bind fun a => (e.v k).bind fun b => if keyOk ag ks b then (lookV h ok zero ag ks a b).map .val else none
  | .eq neg ag ks x y => (e.v x).bind fun a => (e.v y).bind fun b => (eqV ag ks a b).map fun r => .val (.bool (r != neg))
  | .eqnil neg x => (e.v x).bind fun a => (nilV a).map fun r => .val (.bool (r != neg))
  | .mxmn isMax x xs => (e.v x).bind fun a => (e.vs xs).bind fun l => (mxL isMax a l).map .val
  | .mkfn f first caps => (e.vs first).bind fun a => (e.vs caps).map fun b => .val (.fn f a b)

/-- what makes a new object -/
inductive NO where
  | mkSlice (sz : Nat) (zero : List HV) (len : Nat) (parts : List (Nat × O))
  | make (sz bytes : Nat) (zero : List HV) (len cap : O)
  | var (sz : Nat) (cells : List HV)
  | box (sz : Nat) (x : O)
  | map
  | bytes (x : O)
  | range (x : O)

def mkElems (e : Env) (sz : Nat) : List (List HV) → List (Nat × O) → Option (List (List HV))
  | es, [] => some es
  | es, (i, o) :: r => (e.v o).bind fun v => if v.cells.length = sz ∧ i < es.length then mkElems e sz (es.set i v.cells) r else none

def NO.ev (e : Env) (id : Nat) : NO → Option (HObj × HV)
  | .mkSlice sz zero ln parts => (mkElems e sz (List.replicate ln zero) parts).map fun es => (.arr false sz es, .slice id 0 ln ln true)
  | .make sz nb zero ln cp => match e.v ln, e.v cp with
    | some (.int _ l), some (.int _ c) =>
      if 0 ≤ l ∧ l ≤ c ∧ (nb : Int) * c ≤ 281474976710656 ∧ c ≤ i64max then some (.arr false sz (List.replicate l.toNat zero), .slice id 0 l.toNat c.toNat true) else none
    | _, _ => none
  | .var sz cells => some (.arr false sz [cells], .ptr id 0 0)
  | .box sz x => (e.v x).bind fun v => if v.cells.length = sz then some (.arr false sz [v.cells], .ptr id 0 0) else none
  | .map => some (.map [], .map id)
  | .bytes x => match e.v x with
    | some (.str s) => if s.length ≤ 1099511627776 then some (.arr true 1 (s.map fun b => [.int .u8 b.toNat]), .slice id 0 s.length s.length false) else none
    | _ => none
  | .range x => match e.v x with
    | some .nilm => some (.iter none [], .iter id)
    | some (.map m) => some (.iter (some m) [], .iter id)
    | _ => none

def smallB (n bytes : Nat) : Prop := n * bytes ≤ 1099511627776 ∧ n ≤ 1099511627776
instance (n bytes : Nat) : Decidable (smallB n bytes) := by unfold smallB; infer_instance

/-- append: the new header, and the heap -/
def appV (h : HH) (sz bytes : Nat) (s : HV) (news : List (List HV)) : Option (HV × HH) :=
  match s with
  | .nils =>
    if news = [] then some (.nils, h)
    else if smallB news.length bytes then some (.slice h.next 0 news.length news.length false, h.new (.arr false sz news)) else none
  | .slice id off len room ex =>
    match h.get id with
    | some (.arr ro s es) =>
      if s = sz ∧ off + len ≤ es.length then
        if news = [] then some (.slice id off len room ex, h)
        else if len + news.length ≤ room then
          if ro = false ∧ off = 0 then some (.slice id off (len + news.length) room ex, h.put id (.arr false sz (es.take (off + len) ++ news ++ es.drop (off + len + news.length)))) else none
        else if smallB (len + news.length) bytes then
          if ex then some (.slice h.next 0 (len + news.length) (len + news.length) false, h.new (.arr false sz ((es.drop off).take len ++ news)))
          else if ro = false ∧ off = 0 ∧ len = es.length then some (.slice h.next 0 (len + news.length) (len + news.length) false, (h.kill id).new (.arr false sz (es ++ news)))
          else none
        else none
      else none
    | _ => none
  | _ => none

def setE (ag : Bool) (ks : List Leaf) (k v : HV) : List (HV × HV) → Option (List (HV × HV))
  | [] => some [(k, v)]
  | (k', u) :: r => (eqV ag ks k k').bind fun b => if b then some ((k, v) :: r) else (setE ag ks k v r).map ((k', u) :: ·)

inductive HI where
  | pur (d : Nat) (op : PO)
  | alloc (d : Nat) (cells : List HV)
  | box (d n : Nat) (x : O)
  | new (d : Nat) (op : NO)
  | store (n : Nat) (p x : O)
  | app (d sz bytes : Nat) (s x : O)
  | call (d : Option Nat) (f : FuncId) (args : List O)
  | callv (d : Option Nat) (fs : List FuncId) (x : O) (args : List O)
  | mapupd (ag : Bool) (ks : List Leaf) (m k x : O)
  | next (d : Nat) (it : O)

def Env.setO (e : Env) (d : Option Nat) (v : TV) : Env := match d with
  | some d => e.set d v
  | none => e
@[simp] theorem Env.setO_some (e : Env) (d : Nat) (v : TV) : e.setO (some d) v = e.set d v := rfl
@[simp] theorem Env.setO_none (e : Env) (v : TV) : e.setO none v = e := rfl

abbrev Spec := List HV → HH → (HV → HH → Prop) → Prop

def hstore (e : Env) (h : HH) (n : Nat) (p : TV) (v : HV) : Option (Env × HH) :=
  if v.cells.length = n then
    match p with
    | .loc l f => (e.l l).bind fun cs => if f + n ≤ cs.length then some (e.setL l (splice cs f v.cells), h) else none
    | .val (.ptr id i f) =>
      match h.get id with
      | some (.arr false sz es) => (es[i]?).bind fun cs => if f + n ≤ cs.length then some (e, h.put id (.arr false sz (es.set i (splice cs f v.cells)))) else none
      | _ => none
    | _ => none
  else none

def hI (T : FuncId → Spec) (i : HI) (K : Env → HH → Prop) (e : Env) (h : HH) : Prop :=
  match i with
  | .pur d op => oK (op.ev e h) fun v => K (e.set d v) h
  | .alloc d cells => K (e.al d cells) h
  | .box d n x => oK (e.v x) fun v => v.cells.length = n ∧ K (e.al d v.cells) h
  | .new d op => oK (op.ev e h.next) fun r => K (e.set d (.val r.2)) (h.new r.1)
  | .store n p x => oK (e.v x) fun v => oK (hstore e h n (e.ev p) v) fun r => K r.1 r.2
  | .app d sz bytes s x => oK (e.v s) fun a => oK (e.v x) fun b => oK (h.elems sz b) fun news => oK (appV h sz bytes a news) fun r => K (e.set d (.val r.1)) r.2
  | .call d f args => oK (e.vs args) fun vs => T f vs h fun r h' => K (e.setO d (.val r)) h'
  | .callv d fs x args => oK (e.vs args) fun vs => ∃ f first caps, e.v x = some (.fn f first caps) ∧ f ∈ fs ∧ T f (first ++ vs ++ caps) h fun r h' => K (e.setO d (.val r)) h'
  | .mapupd ag ks m k x => oK (e.v k) fun kk => oK (e.v x) fun v => keyOk ag ks kk = true ∧ ∃ id es, e.v m = some (.map id) ∧ h.get id = some (.map es) ∧ oK (setE ag ks kk v es) fun es' => K e (h.put id (.map es'))
  | .next d it => ∃ id m seen, e.v it = some (.iter id) ∧ h.get id = some (.iter m seen) ∧
      match m with
      | none => K (e.set d (.val (.tup [.bool false]))) h
      | some m => ∃ es, h.get m = some (.map es) ∧
          ((∀ i, i < es.length → i ∈ seen) → K (e.set d (.val (.tup [.bool false]))) h) ∧
          ∀ i k v, es[i]? = some (k, v) → i ∉ seen → K (e.set d (.val (.tup [.bool true, k, v]))) (h.put id (.iter (some m) (seen ++ [i])))

/-- an instruction, perhaps guarded by a bool in a temporary -/
structure HG where
  g : Option (Nat × Bool)
  d : Option Nat
  i : HI

/-- a row whose order is drawn: what may be taken first; what has to be gone through whichever comes first -/
inductive DT where
  | done
  | take (i : HG) (r : DT)
  | takeL (p : O) (i : HG) (r : DT)
  | alt (i : HG) (r o : DT)
  | stop

/-- local variables that a row is about to make anew are forgotten ahead of it -/
def TV.forget (ws : List Nat) : TV → TV
  | .loc l f => if l ∈ ws then .bad else .loc l f
  | x => x
@[simp] theorem TV.forget_val (ws : List Nat) (v : HV) : (TV.val v).forget ws = .val v := rfl
@[simp] theorem TV.forget_bad (ws : List Nat) : TV.bad.forget ws = .bad := rfl
@[simp] theorem TV.forget_loc (ws : List Nat) (l f : Nat) : (TV.loc l f).forget ws = if l ∈ ws then .bad else .loc l f := rfl
def Env.forget (ws : List Nat) (e : Env) : Env := { t := fun n => (e.t n).forget ws, l := fun n => if n ∈ ws then none else e.l n }
@[simp] theorem Env.forget_t (ws : List Nat) (e : Env) (n : Nat) : (e.forget ws).t n = (e.t n).forget ws := rfl
@[simp] theorem Env.forget_l (ws : List Nat) (e : Env) (n : Nat) : (e.forget ws).l n = if n ∈ ws then none else e.l n := rfl

inductive HX where
  | normal
  | exit (id : Nat)
  | ret

inductive HC where
  | skip
  | reg (is : List HG)
  | dt (ws : List Nat) (t : DT)
  | bad
  | seq (a b : HC)
  | cond (c : O) (a b : HC)
  | block (id : Nat) (b : HC)
  | loop (b : HC)
  | exit (id : Nat)
  | ret
  | scope (b : HC)

def hG (T : FuncId → Spec) (i : HG) (K : Env → HH → Prop) (e : Env) (h : HH) : Prop :=
  match i.g with
  | none => hI T i.i K e h
  | some (g, want) => ∃ b, e.t g = .val (.bool b) ∧ ((b = want → hI T i.i K e h) ∧ (b ≠ want → K (e.setO i.d .bad) h))

def hreg (T : FuncId → Spec) : List HG → (Env → HH → Prop) → Env → HH → Prop
  | [], K, e, h => K e h
  | i :: r, K, e, h => hG T i (hreg T r K) e h

def hDT (T : FuncId → Spec) : DT → (Env → HH → Prop) → Env → HH → Prop
  | .done, K, e, h => K e h
  | .take i r, K, e, h => hG T i (hDT T r K) e h
  | .takeL p i r, K, e, h => (∃ l f, e.ev p = .loc l f) ∧ hG T i (hDT T r K) e h
  | .alt i r o, K, e, h => hG T i (hDT T r K) e h ∧ hDT T o K e h
  | .stop, _, _, _ => True

def hwp (T : FuncId → Spec) : HC → (HX → Env → HH → Prop) → Env → HH → Prop
  | .skip, Q, e, h => Q .normal e h
  | .reg is, Q, e, h => hreg T is (Q .normal) e h
  | .dt ws t, Q, e, h => hDT T t (Q .normal) (e.forget ws) h
  | .bad, _, _, _ => False
  | .seq a b, Q, e, h => hwp T a (fun x e h => match x with | .normal => hwp T b Q e h | x => Q x e h) e h
  | .cond c a b, Q, e, h => oK (e.v c) fun v => match v with
    | .bool r => if r then hwp T a Q e h else hwp T b Q e h
    | _ => False
  | .block id b, Q, e, h => hwp T b (fun x e h => match x with | .exit j => if j = id then Q .normal e h else Q (.exit j) e h | x => Q x e h) e h
  | .loop b, Q, e, h => ∃ I : Nat → Env → HH → Prop, (∃ n, I n e h) ∧ ∀ n e h, I n e h → hwp T b (fun x e h => match x with | .normal => ∃ m, m < n ∧ I m e h | x => Q x e h) e h
  | .exit id, Q, e, h => Q (.exit id) e h
  | .ret, Q, e, h => Q .ret e h
  | .scope b, Q, e, h => hwp T b Q e h

/-- a result variable: a temporary, or a local variable -/
inductive RV where
  | t (n : Nat)
  | l (agg : Bool) (n : Nat) (x : Nat)

def rvV (e : Env) : RV → Option HV
  | .t n => (e.t n).hv
  | .l agg n x => match e.t x with
    | .loc l 0 => (e.l l).bind fun cs => getCells agg n 0 cs
    | _ => none
def rvs (e : Env) : List RV → Option (List HV)
  | [] => some []
  | r :: rs => (rvV e r).bind fun x => (rvs e rs).map (x :: ·)
def resV (l : List HV) : HV := match l with
  | [x] => x
  | l => .tup l

structure HF where
  ntmps : Nat
  nargs : Nat
  results : List RV
  body : HC

def env0 (args : List HV) : Env := { t := fun n => match args[n]? with | some v => .val v | none => .bad, l := fun _ => none }

/-- what a function asks, so that Q holds of its result and the heap behind it -/
def HF.wp (T : FuncId → Spec) (f : HF) : Spec := fun args h Q =>
  args.length = f.nargs ∧ hwp T f.body (fun x e h => match x with
    | .normal | .ret => oK (rvs e f.results) fun l => Q (resV l) h
    | _ => False) (env0 args) h
end Go.HL
