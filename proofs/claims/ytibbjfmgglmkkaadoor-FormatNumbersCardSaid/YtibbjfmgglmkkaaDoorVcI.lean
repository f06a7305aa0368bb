/- Own texts of the proof, put together: VcI. -/
import Derived.Tactics
import Derived.KernelRfl
import Derived.Laws.IdiomCopy
import Derived.Laws.Cells
import Derived.Laws.Entries
import Derived.Lib.Builder
import Derived.Lib.UnsafeStr
import Derived.Lib.MakeNoZero
import Derived.Laws.Strings
/- VcA -/
namespace Go.Vc

/-- Values without a place of their own: a slice is the list of its cells. -/
inductive PV where
  | bool (b : Bool)
  | int (k : IntKind) (n : Int)
  | str (s : List Nat)
  | nilp
  | nils
  | nili
  | nilf
  | nilm
  | glob (g off : Nat)
  | lst (n : Nat) (cells : List PV)
  | elem (cells : List PV) (off : Nat)
  | agg (cells : List PV)
  | iface (t : TypeId) (v : PV)
  | func (fn : Fn)
  deriving Inhabited

/-- Values that may name a block of the run's own heap. -/
inductive EV where
  | p (x : PV)
  | kb (b : Bool)
  | ptr (i off : Nat)
  | sl (i off len esz : Nat)
  | agg (cells : List EV)
  | tup (vs : List EV)
  | iface (t : TypeId) (v : EV)
  | clo (fn : Fn) (first captured : List EV)
  | it (i : Nat)
  | nsl (i len esz : Nat)
  | nptr (i : Nat)
  | mptr (i off : Nat)
  | raw (i n : Nat)
  | und
  deriving Inhabited

/-- What is known of a block beside its cells: an object of a type; a row whose first cells may be frozen. -/
inductive Kd where
  | any
  | obj (t : TypeId)
  | ice (t : TypeId)
  | row (t : TypeId)
  deriving Inhabited

def byteEV (b : Nat) : EV := .p (.int .u8 (b : Int))

def Kd.soft : Kd → Bool
  | .ice _ => false
  | _ => true

inductive Blk where
  | cells (cs : List EV) (ty : Kd)
  | bytes (s : List Nat) (t : TypeId)
  | iter (s : List Nat) (pos : Nat)
  deriving Inhabited

abbrev Heap := List (Option Blk)
abbrev Fr := List (Nat × EV)

def bytesOf (s : ByteArray) : List Nat := s.data.toList.map (·.toNat)

def fget : Fr → Nat → EV
  | [], _ => .und
  | (k, v) :: r, t => match Nat.beq k t with
    | true => v
    | false => fget r t

/-! ### constants -/

def constPV : Value → Option PV
  | .bool b => some (.bool b)
  | .int k n => some (.int k n)
  | .string s => some (.str (bytesOf s))
  | .pointer none => some .nilp
  | .slice none 0 0 => some .nils
  | .nilIface => some .nili
  | .nilFunc => some .nilf
  | .map none => some .nilm
  | _ => none

def constPVs : List Value → Option (List PV)
  | [] => some []
  | v :: r => match constPV v, constPVs r with
    | some x, some xs => some (x :: xs)
    | _, _ => none

def constEV (v : Value) : EV :=
  match v with
  | .bool b => .kb b
  | .agg cs => match constPVs cs.toList with
    | some ps => .p (.agg ps)
    | none => .und
  | v => match constPV v with
    | some x => .p x
    | none => .und

def opnd (fr : Fr) : Operand → EV
  | .tmp t => fget fr t
  | .const v => constEV v
  | .global g => .p (.glob g 0)
  | .func f => .p (.func (.func f))

/-! ### operations that touch no memory: a value, and what must hold -/

abbrev VO := Option (EV × Option Bool)

def fitsK (k : IntKind) (n : Int) : Bool := decide (k.min ≤ n) && decide (n ≤ k.max)

def arith (wr : Bool) (k : IntKind) (n : Int) : EV × Option Bool :=
  match wr with
  | true => (.p (.int k (k.wrap n)), none)
  | false => (.p (.int k n), some (fitsK k n))

def asB : EV → Option Bool
  | .kb b => some b
  | .p (.bool b) => some b
  | _ => none

def ibit (op : BinOp) (k : IntKind) (x y : Int) : Int :=
  let a := BitVec.ofInt k.bits x
  let b := BitVec.ofInt k.bits y
  match op with
  | .and => k.wrap (a &&& b).toNat
  | .or => k.wrap (a ||| b).toNat
  | .xor => k.wrap (a ^^^ b).toNat
  | _ => k.wrap (a &&& ~~~b).toNat

def intOpE (wr : Bool) (op : BinOp) (k : IntKind) (a b : Int) : VO :=
  match op with
  | .add => some (arith wr k (a + b))
  | .sub => some (arith wr k (a - b))
  | .mul => some (arith wr k (a * b))
  | .quo => match wr with
    | true => some (.p (.int k (k.wrap (a.tdiv b))), some (!decide (b = 0)))
    | false => some (.p (.int k (a.tdiv b)), some (!decide (b = 0) && fitsK k (a.tdiv b)))
  | .rem => some (.p (.int k (a.tmod b)), some (!decide (b = 0)))
  | .and => some (.p (.int k (ibit .and k a b)), none)
  | .or => some (.p (.int k (ibit .or k a b)), none)
  | .xor => some (.p (.int k (ibit .xor k a b)), none)
  | .andNot => some (.p (.int k (ibit .andNot k a b)), none)
  | .eql => some (.p (.bool (a == b)), none)
  | .neq => some (.p (.bool (a != b)), none)
  | .lss => some (.p (.bool (decide (a < b))), none)
  | .leq => some (.p (.bool (decide (a ≤ b))), none)
  | .gtr => some (.p (.bool (decide (a > b))), none)
  | .geq => some (.p (.bool (decide (a ≥ b))), none)
  | _ => none

def natLess : List Nat → List Nat → Bool
  | _, [] => false
  | [], _ :: _ => true
  | a :: x, b :: y => decide (a < b) || (a == b && natLess x y)

def strOpE (op : BinOp) (a b : List Nat) : VO :=
  match op with
  | .add => some (.p (.str (a ++ b)), some (decide (a.length + b.length ≤ 4611686018427387904)))
  | .eql => some (.p (.bool (a == b)), none)
  | .neq => some (.p (.bool (!(a == b))), none)
  | .lss => some (.p (.bool (natLess a b)), none)
  | .leq => some (.p (.bool (natLess a b || a == b)), none)
  | .gtr => some (.p (.bool (!(natLess a b || a == b))), none)
  | .geq => some (.p (.bool (!(natLess a b))), none)
  | _ => none

/-- Whether a value is nil, of the kinds that can be compared with nil. -/
def isNil : TypeDesc → EV → Option (Bool × Option Bool)
  | .pointer _, .p .nilp => some (true, none)
  | .pointer _, .p (.glob _ _) => some (false, none)
  | .pointer _, .p (.elem _ _) => some (false, none)
  | .pointer _, .ptr _ _ => some (false, none)
  | .slice _, .p .nils => some (true, none)
  | .slice _, .p (.lst n _) => some (false, some (decide (0 < n)))
  | .slice _, .sl _ _ _ _ => some (false, none)
  | .interface _, .p .nili => some (true, none)
  | .interface _, .p (.iface _ _) => some (false, none)
  | .interface _, .iface _ _ => some (false, none)
  | .func _ _ _, .p .nilf => some (true, none)
  | .func _ _ _, .p (.func _) => some (false, none)
  | .func _ _ _, .clo _ _ _ => some (false, none)
  | _, _ => none

def isNilConst : TypeDesc → Operand → Bool
  | .pointer _, .const (.pointer none) => true
  | .slice _, .const (.slice none 0 0) => true
  | .interface _, .const .nilIface => true
  | .func _ _ _, .const .nilFunc => true
  | _, _ => false

def eqE (P : Program) (d : TypeDesc) (xo yo : Operand) (x y : EV) : Option (Bool × Option Bool) :=
  match isNilConst d yo with
  | true => isNil d x
  | false => match isNilConst d xo with
    | true => isNil d y
    | false => match d with
      | .bool => match asB x, asB y with
        | some a, some b => some (a == b, none)
        | _, _ => none
      | .pointer e => match x, y with
        | .ptr i a, .ptr j b => match Nat.beq i j, Nat.beq a b, (P.info? e).isSome with
          | true, true, true => some (true, none)
          | _, _, _ => none
        | _, _ => none
      | .interface _ => match x, y with
        | .p (.iface t p), .p (.iface u q) => match Nat.beq t u with
          | false => some (false, none)
          | true => match P.underlying t, (P.info? t).map (·.comparable), p, q with
            | some (.int _), some true, .int k a, .int k' b => match decide (k = k') with
              | true => some (a == b, none)
              | false => none
            | _, _, _, _ => none
        | .p .nili, .p (.iface _ _) => some (false, none)
        | .p (.iface _ _), .p .nili => some (false, none)
        | .p .nili, .iface _ _ => some (false, none)
        | .iface _ _, .p .nili => some (false, none)
        | _, _ => none
      | _ => none

/-- Whether a comparison's result is known as it stands. -/
def eqKn (d : TypeDesc) (xo yo : Operand) : Bool :=
  match isNilConst d yo with
  | true => true
  | false => match isNilConst d xo with
    | true => true
    | false => match d with
      | .pointer _ => true
      | _ => false

def mkb (kn b : Bool) : EV :=
  match kn with
  | true => .kb b
  | false => .p (.bool b)

def binE (P : Program) (wr : Bool) (op : BinOp) (t : TypeId) (xo yo : Operand) (x y : EV) : VO :=
  match x, y with
  | .p (.int k a), .p (.int k' b) => match op with
    | .shl => some (.p (.int k (k.wrap (a * 2 ^ (min b.toNat k.bits)))), some (decide (0 ≤ b)))
    | .shr => some (.p (.int k (a.fdiv (2 ^ (min b.toNat k.bits)))), some (decide (0 ≤ b)))
    | op => if k = k' then intOpE wr op k a b else none
  | .p (.str a), .p (.str b) => strOpE op a b
  | x, y => match op, P.underlying t with
    | .eql, some d => (eqE P d xo yo x y).map fun (b, o) => (mkb (eqKn d xo yo) b, o)
    | .neq, some d => (eqE P d xo yo x y).map fun (b, o) => (mkb (eqKn d xo yo) (!b), o)
    | _, _ => none

def unE (wr : Bool) (op : UnOp) (x : EV) : VO :=
  match op, x with
  | .not, .kb b => some (.kb (!b), none)
  | .not, .p (.bool b) => some (.p (.bool (!b)), none)
  | .neg, .p (.int k n) => some (arith wr k (0 - n))
  | .xor, .p (.int k n) => some (.p (.int k (ibit .xor k (if k.signed then -1 else k.max) n)), none)
  | _, _ => none

def pickE (c a b : EV) : VO :=
  match c with
  | .kb true => some (a, none)
  | .kb false => some (b, none)
  | .p (.bool t) => match asB a, asB b with
    | some x, some y => some (.p (.bool (match t with | true => x | false => y)), none)
    | _, _ => none
  | _ => none

def allP : List EV → Option (List PV)
  | [] => some []
  | .p x :: r => match allP r with
    | some xs => some (x :: xs)
    | none => none
  | .kb b :: r => match allP r with
    | some xs => some (.bool b :: xs)
    | none => none
  | _ :: _ => none

def mkAgg (es : List EV) : EV :=
  match allP es with
  | some ps => .p (.agg ps)
  | none => .agg es

/-- The cells of a value. -/
def ecells : EV → List EV
  | .p (.agg ps) => ps.map .p
  | .agg es => es
  | v => [v]

/-- A value of one cell. -/
def isCell : EV → Bool
  | .p (.agg _) => false
  | .agg _ => false
  | .tup _ => false
  | .und => false
  | _ => true

def aggT (P : Program) (t : TypeId) : Option Bool :=
  match P.underlying t with
  | some (.struct _) => some true
  | some (.array _ _) => some true
  | some _ => some false
  | none => none

def sizeT (P : Program) (t : TypeId) : Option Nat := (P.info? t).map (·.size)

/-- A part of an aggregate's cells. -/
def partE (P : Program) (t : TypeId) (cs : EV) (off : Nat) : VO :=
  match aggT P t, sizeT P t, cs with
  | some true, some n, .p (.agg ps) => some (.p (.agg ((ps.drop off).take n)), none)
  | some true, some n, .agg es => some (mkAgg ((es.drop off).take n), none)
  | some false, _, .p (.agg ps) => match ps[off]? with
    | some x => some (.p x, none)
    | none => none
  | some false, _, .agg es => match es[off]? with
    | some x => some (x, none)
    | none => none
  | _, _, _ => none

def fieldE (P : Program) (t : TypeId) (x : EV) (f : Nat) : VO :=
  match P.underlying t with
  | some (.struct fs) => match fs[f]? with
    | some fd => partE P fd.type x fd.offset
    | none => none
  | _ => none

def subStr (s : List Nat) (lo hi : Option Int) : List Nat :=
  match lo, hi with
  | none, none => s
  | some l, none => s.drop l.toNat
  | none, some h => s.take h.toNat
  | some l, some h => (s.take h.toNat).drop l.toNat

def boundsOk (n : Nat) (lo hi : Option Int) : Option Bool :=
  match lo, hi with
  | none, none => none
  | some l, none => some (decide (0 ≤ l) && decide (l ≤ (n : Int)))
  | none, some h => some (decide (0 ≤ h) && decide (h ≤ (n : Int)))
  | some l, some h => some (decide (0 ≤ l) && decide (l ≤ h) && decide (h ≤ (n : Int)))

/-- The upper bound of a slice expression. -/
def hiOf (h : Option Int) (n : Nat) : Nat :=
  match h with
  | some h => h.toNat
  | none => n

def optInt : Option EV → Option (Option Int)
  | none => some none
  | some (.p (.int _ n)) => some (some n)
  | some _ => none

/-- A slice expression: of a string; of a slice that has a list's cells; of a block. -/
def sliceE (P : Program) (t : TypeId) (x : EV) (lo hi mx : Option EV) : VO :=
  match mx, optInt lo, optInt hi with
  | none, some l, some h => match P.underlying t, x with
    | some .string, .p (.str s) => some (.p (.str (subStr s l h)), boundsOk s.length l h)
    | some (.slice e), .p .nils => match sizeT P e with
      | some _ => some (.p .nils, boundsOk 0 l h)
      | none => none
    | some (.slice e), .p (.lst n ps) => match sizeT P e with
      | some z =>
        let l' := (l.getD 0).toNat
        let h' := hiOf h n
        some (.p (.lst (h' - l') ((ps.take (h' * z)).drop (l' * z))), boundsOk n l h)
      | none => none
    | some (.slice e), .sl i off n z => match sizeT P e with
      | some z' =>
        let l' := (l.getD 0).toNat
        let h' := hiOf h n
        if z = z' then some (.sl i (off + l' * z) (h' - l') z, boundsOk n l h) else none
      | none => none
    | some (.slice e), .raw i n => match sizeT P e, l, h with
      | some 1, none, some hh => some (.nsl i 0 1, some (decide (0 < n) && decide (hh = 0)))
      | _, _, _ => none
    | _, _ => none
  | _, _, _ => none

def convE (P : Program) (wr : Bool) (src dst : TypeId) (x : EV) : VO :=
  match P.underlying src, P.underlying dst, x with
  | some _, some (.int k), .p (.int _ n) => some (arith wr k n)
  | some _, some .string, .p (.str s) => some (.p (.str s), none)
  | _, _, _ => none

def ifaceE (P : Program) (t : TypeId) (x : EV) : VO :=
  match P.underlying t with
  | some (.interface _) => none
  | some _ => match x with
    | .p v => some (.p (.iface t v), none)
    | v => some (.iface t v, none)
  | none => none

def nilCheckE (x : EV) : VO :=
  match x with
  | .ptr i off => some (.ptr i off, none)
  | .p (.glob g off) => some (.p (.glob g off), none)
  | .p (.elem ps off) => some (.p (.elem ps off), none)
  | .p (.iface t v) => some (.p (.iface t v), none)
  | .iface t v => some (.iface t v, none)
  | .p (.func (.func f)) => some (.p (.func (.func f)), none)
  | .clo (.func f) a b => some (.clo (.func f) a b, none)
  | _ => none

def fieldAddrE (P : Program) (t : TypeId) (x : EV) (f : Nat) : VO :=
  match P.underlying t with
  | some (.struct fs) => match fs[f]? with
    | some fd => match sizeT P fd.type with
      | some (_ + 1) => match x with
        | .ptr i off => some (.ptr i (off + fd.offset), none)
        | .p (.glob g off) => some (.p (.glob g (off + fd.offset)), none)
        | .p (.elem ps off) => some (.p (.elem ps (off + fd.offset)), none)
        | _ => none
      | _ => none
    | none => none
  | _ => none

def idxOk (i : Int) (n : Nat) : Option Bool := some (decide (0 ≤ i) && decide (i < (n : Int)))

def indexAddrE (P : Program) (t : TypeId) (x ix : EV) : VO :=
  match ix with
  | .p (.int _ i) => match P.underlying t, x with
    | some (.array n e), .ptr b off => match sizeT P e with
      | some z => some (.ptr b (off + i.toNat * z), idxOk i n)
      | none => none
    | some (.array n e), .p (.glob g off) => match sizeT P e with
      | some z => some (.p (.glob g (off + i.toNat * z)), idxOk i n)
      | none => none
    | some (.slice e), .p (.lst n ps) => match sizeT P e with
      | some z => some (.p (.elem ps (i.toNat * z)), idxOk i n)
      | none => none
    | some (.slice e), .sl b off n z => match sizeT P e with
      | some z' => if z = z' then some (.ptr b (off + i.toNat * z), idxOk i n) else none
      | none => none
    | _, _ => none
  | _ => none

def indexE (P : Program) (t : TypeId) (x ix : EV) : VO :=
  match ix with
  | .p (.int _ i) => match P.underlying t, x with
    | some .string, .p (.str s) => some (.p (.int .u8 ((s.getD i.toNat 0 : Nat) : Int)), idxOk i s.length)
    | some (.array n e), cs => match sizeT P e, partE P e cs (i.toNat * (sizeT P e).getD 0) with
      | some _, some (v, none) => some (v, idxOk i n)
      | _, _ => none
    | _, _ => none
  | _ => none

def extractE (x : EV) (i : Nat) : VO :=
  match x with
  | .tup vs => match vs[i]? with
    | some v => some (v, none)
    | none => none
  | _ => none

def lenE (P : Program) (t : TypeId) (x : EV) : VO :=
  match P.underlying t, x with
  | some .string, .p (.str s) => some (.p (.int .i64 ((s.length : Nat) : Int)), none)
  | some (.array n _), _ => some (.p (.int .i64 ((n : Nat) : Int)), none)
  | some (.slice _), .p .nils => some (.p (.int .i64 0), none)
  | some (.slice _), .p (.lst n _) => some (.p (.int .i64 ((n : Nat) : Int)), none)
  | some (.slice _), .sl _ _ n _ => some (.p (.int .i64 ((n : Nat) : Int)), none)
  | some (.slice _), .nsl _ n _ => some (.p (.int .i64 ((n : Nat) : Int)), none)
  | _, _ => none

/-- cap: of nil alone. -/
def capE (P : Program) (t : TypeId) (x : EV) : VO :=
  match P.underlying t, x with
  | some (.slice _), .p .nils => some (.p (.int .i64 0), none)
  | _, _ => none

def minmaxE (big : Bool) : List EV → VO
  | [.p (.int k a), .p (.int _ b)] => match big with
    | true => some (.p (.int k (if b > a then b else a)), none)
    | false => some (.p (.int k (if b < a then b else a)), none)
  | [.p (.int k a), .p (.int _ b), .p (.int _ c)] => match big with
    | true => some (.p (.int k (if c > (if b > a then b else a) then c else (if b > a then b else a))), none)
    | false => some (.p (.int k (if c < (if b < a then b else a) then c else (if b < a then b else a))), none)
  | _ => none

/-- The operations that touch no memory. -/
def pureE (P : Program) (wr : Bool) (fr : Fr) (o : Oper) : VO :=
  match o.op with
  | .move x => some (opnd fr x, none)
  | .assign x => some (opnd fr x, none)
  | .pick c a b => pickE (opnd fr c) (opnd fr a) (opnd fr b)
  | .nilCheck x => nilCheckE (opnd fr x)
  | .binOp op t x y _ => binE P wr op t x y (opnd fr x) (opnd fr y)
  | .unOp op _ x => unE wr op (opnd fr x)
  | .convert s d x => convE P wr s d (opnd fr x)
  | .makeInterface t x => ifaceE P t (opnd fr x)
  | .slice t x lo hi mx => sliceE P t (opnd fr x) (lo.map (opnd fr)) (hi.map (opnd fr)) (mx.map (opnd fr))
  | .fieldAddr t x f => fieldAddrE P t (opnd fr x) f
  | .field t x f => fieldE P t (opnd fr x) f
  | .indexAddr t x i => indexAddrE P t (opnd fr x) (opnd fr i)
  | .index t x i => indexE P t (opnd fr x) (opnd fr i)
  | .extract x i => extractE (opnd fr x) i
  | .call { callee := .builtin .len, args := as_, argTypes := ts } => match as_.toList, ts.toList with
    | [x], [t] => lenE P t (opnd fr x)
    | _, _ => none
  | .call { callee := .builtin .cap, args := as_, argTypes := ts } => match as_.toList, ts.toList with
    | [x], [t] => capE P t (opnd fr x)
    | _, _ => none
  | .call { callee := .builtin .min, args := as_, .. } => minmaxE false (as_.toList.map (opnd fr))
  | .call { callee := .builtin .max, args := as_, .. } => minmaxE true (as_.toList.map (opnd fr))
  | .makeFunc fn first captured => match (first.toList ++ captured.toList) with
    | [] => some (.p (.func fn), none)
    | _ => some (.clo fn (first.toList.map (opnd fr)) (captured.toList.map (opnd fr)), none)
  | _ => none

end Go.Vc

/- VcB -/
namespace Go.Vc
set_option linter.unusedVariables false
set_option linter.unusedSimpArgs false

abbrev Own := Nat → Nat → Prop

mutual
inductive VP (own : Own) (w : World) : PV → Value → Prop
  | bool (b : Bool) : VP own w (.bool b) (.bool b)
  | int (k : IntKind) (n : Int) : VP own w (.int k n) (.int k n)
  | str (l : List Nat) (s : ByteArray) (h : bytesOf s = l) : VP own w (.str l) (.string s)
  | nilp : VP own w .nilp (.pointer none)
  | nils : VP own w .nils (.slice none 0 0)
  | nili : VP own w .nili .nilIface
  | nilf : VP own w .nilf .nilFunc
  | nilm : VP own w .nilm (.map none)
  | glob (g off : Nat) : VP own w (.glob g off) (.pointer (some ⟨g, off, none⟩))
  | lst (n : Nat) (ps : List PV) (a : Option Addr) (c : Nat) (us : List Value) (hs : VPs own w ps us) (hc : n ≤ c)
      (h0 : n = 0 → ps = []) (ha : 0 < n → ∃ r x, a = some ⟨r, x, none⟩ ∧ r < w.heap.size ∧ ∀ j u, us[j]? = some u → w.cell? ⟨r, x + j, none⟩ = some u ∧ ¬ own r (x + j)) :
      VP own w (.lst n ps) (.slice a n c)
  | elem (ps : List PV) (off : Nat) (us : List Value) (r x : Nat) (hs : VPs own w ps us) (hr : r < w.heap.size)
      (ha : ∀ j u, us[j]? = some u → w.cell? ⟨r, x + j, none⟩ = some u ∧ ¬ own r (x + j)) :
      VP own w (.elem ps off) (.pointer (some ⟨r, x + off, none⟩))
  | agg (ps : List PV) (us : List Value) (hs : VPs own w ps us) : VP own w (.agg ps) (.agg us.toArray)
  | iface (t : TypeId) (x : PV) (u : Value) (h : VP own w x u) : VP own w (.iface t x) (.iface t u)
  | func (fn : Fn) : VP own w (.func fn) (.func fn #[] #[])
inductive VPs (own : Own) (w : World) : List PV → List Value → Prop
  | nil : VPs own w [] []
  | cons (x : PV) (u : Value) (ps : List PV) (us : List Value) (h : VP own w x u) (hs : VPs own w ps us) : VPs own w (x :: ps) (u :: us)
end

/-- Where a block of the run's heap lies: block, offset, and whether all cells behind it are its own too. -/
structure Reg where
  blk : Nat
  off : Nat
  tail : Bool
  deriving Inhabited

mutual
inductive VE (own : Own) (w : World) (regs : List Reg) : EV → Value → Prop
  | p (x : PV) (v : Value) (h : VP own w x v) : VE own w regs (.p x) v
  | kb (b : Bool) : VE own w regs (.kb b) (.bool b)
  | ptr (i off : Nat) (g : Reg) (hg : regs[i]? = some g) : VE own w regs (.ptr i off) (.pointer (some ⟨g.blk, g.off + off, none⟩))
  | sl (i off len esz : Nat) (g : Reg) (a : Addr) (c : Nat) (hg : regs[i]? = some g) (ht : g.tail = true) (hc : len ≤ c)
      (ha : off = 0 ∨ 0 < len → a = ⟨g.blk, g.off + off, none⟩) (hf : ∃ e n, w.shape? g.blk = some (e, n) ∧ g.off + off + c * esz ≤ n) :
      VE own w regs (.sl i off len esz) (.slice (some a) len c)
  | agg (es : List EV) (us : List Value) (hs : VEs own w regs es us) : VE own w regs (.agg es) (.agg us.toArray)
  | tup (es : List EV) (us : List Value) (hs : VEs own w regs es us) : VE own w regs (.tup es) (.tuple us.toArray)
  | iface (t : TypeId) (x : EV) (u : Value) (h : VE own w regs x u) : VE own w regs (.iface t x) (.iface t u)
  | clo (fn : Fn) (fs cs : List EV) (us vs : List Value) (hf : VEs own w regs fs us) (hc : VEs own w regs cs vs) :
      VE own w regs (.clo fn fs cs) (.func fn us.toArray vs.toArray)
  | it (i : Nat) (g : Reg) (hg : regs[i]? = some g) : VE own w regs (.it i) (.pointer (some ⟨g.blk, 0, none⟩))
  | nsln (i z : Nat) (g : Reg) (hg : regs[i]? = some g) (ht : g.tail = false) : VE own w regs (.nsl i 0 z) (.slice none 0 0)
  | nsl (i len z : Nat) (g : Reg) (c : Nat) (hg : regs[i]? = some g) (ht : g.tail = true) (hc : len ≤ c) (h0 : 0 < c) (hf : ∃ e n, w.shape? g.blk = some (e, n) ∧ g.off + c * z ≤ n) :
      VE own w regs (.nsl i len z) (.slice (some ⟨g.blk, g.off, none⟩) len c)
  | nptrn (i : Nat) (g : Reg) (hg : regs[i]? = some g) (ht : g.tail = false) : VE own w regs (.nptr i) (.pointer none)
  | nptr (i : Nat) (g : Reg) (hg : regs[i]? = some g) (ht : g.tail = true) : VE own w regs (.nptr i) (.pointer (some ⟨g.blk, g.off, none⟩))
  | mptrn (i off : Nat) : VE own w regs (.mptr i off) (.pointer none)
  | mptr (i off : Nat) (g : Reg) (hg : regs[i]? = some g) : VE own w regs (.mptr i off) (.pointer (some ⟨g.blk, g.off + off, none⟩))
  | raw (i n : Nat) (g : Reg) (c : Nat) (hg : regs[i]? = some g) (ht : g.tail = true) (hc : n ≤ c) (hf : ∃ e N, w.shape? g.blk = some (e, N) ∧ g.off + c ≤ N) :
      VE own w regs (.raw i n) (.slice (some ⟨g.blk, g.off, none⟩) n c)
  | und (v : Value) : VE own w regs .und v
inductive VEs (own : Own) (w : World) (regs : List Reg) : List EV → List Value → Prop
  | nil : VEs own w regs [] []
  | cons (x : EV) (u : Value) (es : List EV) (us : List Value) (h : VE own w regs x u) (hs : VEs own w regs es us) : VEs own w regs (x :: es) (u :: us)
end

/-! ### lists -/
section
variable {own : Own} {w : World} {regs : List Reg}

theorem VPs.len {ps us} (h : VPs own w ps us) : ps.length = us.length := by
  induction ps generalizing us with
  | nil => cases h; rfl
  | cons x ps ih => cases h with | cons _ _ _ _ _ hs => simp [ih hs]

theorem VPs.get {ps us} (h : VPs own w ps us) {j : Nat} {x} (hj : ps[j]? = some x) : ∃ u, us[j]? = some u ∧ VP own w x u := by
  induction ps generalizing us j with
  | nil => simp at hj
  | cons y ps ih =>
    cases h with
    | cons _ u _ us h hs =>
      cases j with
      | zero => simp at hj; subst hj; exact ⟨u, by simp, h⟩
      | succ j => simp at hj; simpa using ih hs hj

theorem VPs.drop {ps us} (h : VPs own w ps us) (n : Nat) : VPs own w (ps.drop n) (us.drop n) := by
  induction n generalizing ps us with
  | zero => simpa using h
  | succ n ih => cases h with
    | nil => simpa using VPs.nil
    | cons _ _ _ _ _ hs => simpa using ih hs

theorem VPs.take {ps us} (h : VPs own w ps us) (n : Nat) : VPs own w (ps.take n) (us.take n) := by
  induction n generalizing ps us with
  | zero => simpa using VPs.nil
  | succ n ih => cases h with
    | nil => simpa using VPs.nil
    | cons _ _ _ _ h hs => simpa using VPs.cons _ _ _ _ h (ih hs)

theorem VPs.append {ps us qs vs} (h : VPs own w ps us) (h' : VPs own w qs vs) : VPs own w (ps ++ qs) (us ++ vs) := by
  induction ps generalizing us with
  | nil => cases h; simpa using h'
  | cons x ps ih => cases h with | cons _ _ _ _ h hs => simpa using VPs.cons _ _ _ _ h (ih hs)

theorem VEs.len {ps us} (h : VEs own w regs ps us) : ps.length = us.length := by
  induction ps generalizing us with
  | nil => cases h; rfl
  | cons x ps ih => cases h with | cons _ _ _ _ _ hs => simp [ih hs]

theorem VEs.get {ps us} (h : VEs own w regs ps us) {j : Nat} {x} (hj : ps[j]? = some x) : ∃ u, us[j]? = some u ∧ VE own w regs x u := by
  induction ps generalizing us j with
  | nil => simp at hj
  | cons y ps ih =>
    cases h with
    | cons _ u _ us h hs =>
      cases j with
      | zero => simp at hj; subst hj; exact ⟨u, by simp, h⟩
      | succ j => simp at hj; simpa using ih hs hj

theorem VEs.get' {ps us} (h : VEs own w regs ps us) {j : Nat} {u} (hj : us[j]? = some u) : ∃ x, ps[j]? = some x ∧ VE own w regs x u := by
  induction ps generalizing us j with
  | nil => cases h; simp at hj
  | cons y ps ih =>
    cases h with
    | cons _ u _ us h hs =>
      cases j with
      | zero => simp at hj; subst hj; exact ⟨_, by simp, h⟩
      | succ j => simp at hj; simpa using ih hs hj

theorem VEs.drop {ps us} (h : VEs own w regs ps us) (n : Nat) : VEs own w regs (ps.drop n) (us.drop n) := by
  induction n generalizing ps us with
  | zero => simpa using h
  | succ n ih => cases h with
    | nil => simpa using VEs.nil
    | cons _ _ _ _ _ hs => simpa using ih hs

theorem VEs.take {ps us} (h : VEs own w regs ps us) (n : Nat) : VEs own w regs (ps.take n) (us.take n) := by
  induction n generalizing ps us with
  | zero => simpa using VEs.nil
  | succ n ih => cases h with
    | nil => simpa using VEs.nil
    | cons _ _ _ _ h hs => simpa using VEs.cons _ _ _ _ h (ih hs)

theorem VEs.append {ps us qs vs} (h : VEs own w regs ps us) (h' : VEs own w regs qs vs) : VEs own w regs (ps ++ qs) (us ++ vs) := by
  induction ps generalizing us with
  | nil => cases h; simpa using h'
  | cons x ps ih => cases h with | cons _ _ _ _ h hs => simpa using VEs.cons _ _ _ _ h (ih hs)

theorem VEs.of_p {ps us} (h : VPs own w ps us) : VEs own w regs (ps.map .p) us := by
  induction ps generalizing us with
  | nil => cases h; exact .nil
  | cons x ps ih => cases h with | cons _ _ _ _ h hs => exact .cons _ _ _ _ (.p _ _ h) (ih hs)

theorem allP_sound {es : List EV} {ps : List PV} {us} (he : allP es = some ps) (h : VEs own w regs es us) : VPs own w ps us := by
  induction es generalizing ps us with
  | nil => simp [allP] at he; subst he; cases h; exact .nil
  | cons e es ih =>
    cases h with
    | cons _ u _ us h hs =>
      cases e with
      | p x =>
        simp only [allP] at he
        cases h1 : allP es with
        | none => simp [h1] at he
        | some xs =>
          simp [h1] at he; subst he
          cases h with | p _ _ h => exact .cons _ _ _ _ h (ih h1 hs)
      | kb b =>
        simp only [allP] at he
        cases h1 : allP es with
        | none => simp [h1] at he
        | some xs =>
          simp [h1] at he; subst he
          cases h with | kb => exact .cons _ _ _ _ (.bool b) (ih h1 hs)
      | _ => simp [allP] at he

theorem mkAgg_sound {es us} (h : VEs own w regs es us) : VE own w regs (mkAgg es) (.agg us.toArray) := by
  unfold mkAgg
  cases he : allP es with
  | none => exact .agg _ _ h
  | some ps => exact .p _ _ (.agg _ _ (allP_sound he h))

/-! ### constants and operands -/

theorem constPV_sound {v : Value} {x : PV} (h : constPV v = some x) : VP own w x v := by
  unfold constPV at h
  split at h <;> first
    | (cases h; exact .str _ _ rfl)
    | (cases h; constructor)
    | cases h

theorem constPVs_sound {vs : List Value} {xs : List PV} (h : constPVs vs = some xs) : VPs own w xs vs := by
  induction vs generalizing xs with
  | nil => simp [constPVs] at h; subst h; exact .nil
  | cons v vs ih =>
    simp only [constPVs] at h
    split at h
    · rename_i x xs' h1 h2
      cases h
      exact .cons _ _ _ _ (constPV_sound h1) (ih h2)
    · cases h

theorem constEV_sound (v : Value) : VE own w regs (constEV v) v := by
  unfold constEV
  split
  · exact .kb _
  · rename_i cs
    split
    · rename_i ps h
      have := constPVs_sound (own := own) (w := w) h
      simpa using VE.p (regs := regs) _ _ (.agg _ _ this)
    · exact .und _
  · split
    · rename_i x h; exact .p _ _ (constPV_sound h)
    · exact .und _

/-- The frame's values are those of the activation. -/
def FrOk (own : Own) (w : World) (regs : List Reg) (fr : Fr) (a : Act) : Prop := ∀ t, VE own w regs (fget fr t) (a.tmps.getD t undef)

theorem opnd_sound {fr : Fr} {a : Act} (h : FrOk own w regs fr a) (x : Operand) : VE own w regs (opnd fr x) (a.eval x) := by
  cases x with
  | tmp t => exact h t
  | const v => exact constEV_sound v
  | global g => exact .p _ _ (.glob g 0)
  | func f => exact .p _ _ (.func _)

end
end Go.Vc

/- VcC -/
namespace Go.Vc
set_option linter.unusedVariables false
set_option linter.unusedSimpArgs false

theorem bt_get (s : ByteArray) (i : Nat) (h : i < s.size) : (bytesOf s).getD i 0 = (s[i]'h).toNat := by
  have h' : i < s.data.toList.length := by simpa using h
  unfold bytesOf
  rw [List.getD_eq_getElem?_getD, List.getElem?_map, List.getElem?_eq_getElem h']
  simp
  rfl

@[simp] theorem bytesOf_len (s : ByteArray) : (bytesOf s).length = s.size := by simp [bytesOf]

theorem bytesOf_inj {a b : ByteArray} (h : bytesOf a = bytesOf b) : a = b := by
  have : a.data.toList = b.data.toList := by
    unfold bytesOf at h
    exact (List.map_inj_right (fun x y e => UInt8.toNat_inj.1 e)).1 h
  have h2 : a.data = b.data := Array.toList_inj.1 this
  cases a; cases b; simp at h2; subst h2; rfl

theorem bytesOf_append (a b : ByteArray) : bytesOf (a ++ b) = bytesOf a ++ bytesOf b := by
  unfold bytesOf
  have : (a ++ b).data = a.data ++ b.data := ByteArray.data_append
  rw [this]; simp

theorem bytesOf_extract (s : ByteArray) (i j : Nat) : bytesOf (s.extract i j) = ((bytesOf s).take j).drop i := by
  unfold bytesOf
  have : (s.extract i j).data = s.data.extract i j := ByteArray.data_extract
  rw [this]
  simp [Array.toList_extract, List.extract_eq_take_drop, List.map_take, List.map_drop, List.drop_take]

theorem bytesOf_eq (a b : ByteArray) : (a.toList == b.toList) = (bytesOf a == bytesOf b) := by
  rw [Bool.eq_iff_iff, beq_iff_eq, beq_iff_eq, ByteArray.toList_eq, ByteArray.toList_eq]
  unfold bytesOf
  exact ⟨fun h => by rw [h], fun h => (List.map_inj_right (fun x y e => UInt8.toNat_inj.1 e)).1 h⟩

theorem natLess_eq (a b : List UInt8) : Op.bytesLess a b = natLess (a.map (·.toNat)) (b.map (·.toNat)) := by
  induction a generalizing b with
  | nil => cases b <;> simp [Op.bytesLess, natLess]
  | cons x a ih =>
    cases b with
    | nil => simp [Op.bytesLess, natLess]
    | cons y b =>
      simp only [Op.bytesLess, natLess, List.map_cons, ih]
      congr 1
      congr 1
      rw [Bool.eq_iff_iff]; simp [UInt8.toNat_inj]

theorem bytesOf_less (a b : ByteArray) : Op.bytesLess a.toList b.toList = natLess (bytesOf a) (bytesOf b) := by
  rw [ByteArray.toList_eq, ByteArray.toList_eq, natLess_eq]; rfl

section
variable {P : Program} {own : Own} {w : World} {regs : List Reg}

/-- An obligation that holds. -/
def Met (o : Option Bool) : Prop := o = none ∨ o = some true

theorem Met.some {b : Bool} (h : Met (some b)) : b = true := by rcases h with h | h <;> simp_all
@[simp] theorem met_none : Met none := .inl rfl
@[simp] theorem met_some (b : Bool) : Met (some b) ↔ b = true := ⟨Met.some, fun h => .inr (by rw [h])⟩

theorem max_i64 : IntKind.i64.max = 9223372036854775807 := by decide
theorem min_i64 : IntKind.i64.min = -9223372036854775808 := by decide

theorem wrap_fits {k : IntKind} {n : Int} (h : fitsK k n = true) : k.wrap n = n := by
  unfold fitsK at h
  simp only [Bool.and_eq_true, decide_eq_true_eq] at h
  obtain ⟨h1, h2⟩ := h
  cases k <;> simp only [IntKind.min, IntKind.max, IntKind.wrap, IntKind.signed, IntKind.bits] at * <;> simp at * <;> omega

theorem arith_sound {wr : Bool} {k : IntKind} {n : Int} {v : EV} {o : Option Bool} (h : arith wr k n = (v, o)) (hm : Met o) :
    VE own w regs v (.int k (k.wrap n)) := by
  unfold arith at h
  cases wr with
  | true => cases h; exact .p _ _ (.int _ _)
  | false =>
    cases h
    rw [wrap_fits hm.some]
    exact .p _ _ (.int _ _)

theorem asB_sound {x : EV} {v : Value} {b : Bool} (h : asB x = some b) (hv : VE own w regs x v) : v = .bool b := by
  cases x with
  | kb c => simp [asB] at h; subst h; cases hv; rfl
  | p y =>
    cases y <;> simp [asB] at h
    subst h
    cases hv with | p _ _ h => cases h; rfl
  | _ => simp [asB] at h

/-- What an operation without memory does. -/
def Does (P : Program) (w : World) (s : Sem Value) (u : Value) : Prop := s.run P w = .ok u w

theorem und_of {t : TypeId} {d : TypeDesc} (h : P.underlying t = some d) : (underlying t).run P w = .ok d w := by
  simp [underlying, h]

theorem size_of {t : TypeId} {n : Nat} (h : sizeT P t = some n) : (sizeOf t).run P w = .ok n w := by
  unfold sizeT at h
  cases hi : P.info? t with
  | none => simp [hi] at h
  | some i => simp [hi] at h; simp [sizeOf, typeInfo, hi, h]

theorem agg_of {t : TypeId} {b : Bool} (h : aggT P t = some b) : (isAgg t).run P w = .ok b w := by
  unfold aggT at h
  unfold isAgg
  cases hu : P.underlying t with
  | none => simp [hu] at h
  | some d =>
    rw [hu] at h
    simp only [Sem.run_bind, und_of hu, Result.andThen_ok]
    cases d <;> simp at h <;> subst h <;> rfl

theorem intOp_sound {wr : Bool} {op : BinOp} {k : IntKind} {a b : Int} {v : EV} {o : Option Bool} {t : TypeId} (h : intOpE wr op k a b = some (v, o)) (hm : Met o) :
    ∃ u, (binOp op t (.int k a) (.int k b)).run P w = .ok u w ∧ VE own w regs v u := by
  cases op <;> simp only [intOpE] at h
  case add => exact ⟨_, by simp [binOp, Op.intArith], arith_sound (Option.some.inj h) hm⟩
  case sub => exact ⟨_, by simp [binOp, Op.intArith], arith_sound (Option.some.inj h) hm⟩
  case mul => exact ⟨_, by simp [binOp, Op.intArith], arith_sound (Option.some.inj h) hm⟩
  case quo =>
    cases wr with
    | true =>
      cases h
      have := hm.some
      simp at this
      exact ⟨_, by simp [binOp, Op.intDiv, this], .p _ _ (.int _ _)⟩
    | false =>
      cases h
      have := hm.some
      simp at this
      refine ⟨.int k (k.wrap (a.tdiv b)), by simp [binOp, Op.intDiv, this], ?_⟩
      rw [wrap_fits this.2]
      exact .p _ _ (.int _ _)
  case rem =>
    cases h
    have := hm.some
    simp at this
    exact ⟨_, by simp [binOp, Op.intDiv, this], .p _ _ (.int _ _)⟩
  case and => cases h; exact ⟨_, by simp [binOp, Op.intBits]; rfl, .p _ _ (by simpa [ibit] using VP.int _ _)⟩
  case or => cases h; exact ⟨_, by simp [binOp, Op.intBits]; rfl, .p _ _ (by simpa [ibit] using VP.int _ _)⟩
  case xor => cases h; exact ⟨_, by simp [binOp, Op.intBits]; rfl, .p _ _ (by simpa [ibit] using VP.int _ _)⟩
  case andNot => cases h; exact ⟨_, by simp [binOp, Op.intBits]; rfl, .p _ _ (by simpa [ibit] using VP.int _ _)⟩
  case eql => cases h; exact ⟨_, by simp [binOp, Op.intCmp]; rfl, .p _ _ (by simpa using VP.bool _)⟩
  case neq => cases h; exact ⟨_, by simp [binOp, Op.intCmp]; rfl, .p _ _ (by simpa using VP.bool _)⟩
  case lss => cases h; exact ⟨_, by simp [binOp, Op.intCmp]; rfl, .p _ _ (by simpa using VP.bool _)⟩
  case leq => cases h; exact ⟨_, by simp [binOp, Op.intCmp]; rfl, .p _ _ (by simpa using VP.bool _)⟩
  case gtr => cases h; exact ⟨_, by simp [binOp, Op.intCmp]; rfl, .p _ _ (by simpa using VP.bool _)⟩
  case geq => cases h; exact ⟨_, by simp [binOp, Op.intCmp]; rfl, .p _ _ (by simpa using VP.bool _)⟩
  all_goals cases h

theorem strOp_sound {op : BinOp} {a b : ByteArray} {v : EV} {o : Option Bool} {t : TypeId} (h : strOpE op (bytesOf a) (bytesOf b) = some (v, o)) (hm : Met o) :
    ∃ u, (binOp op t (.string a) (.string b)).run P w = .ok u w ∧ VE own w regs v u := by
  cases op <;> simp only [strOpE] at h <;> cases h
  case add =>
    have h1 := hm.some
    simp at h1
    refine ⟨.string (a ++ b), ?_, .p _ _ (.str _ _ (bytesOf_append a b))⟩
    simp only [binOp, Op.stringOp, max_i64]
    rw [if_neg (by omega)]
    rfl
  all_goals
    refine ⟨_, by simp only [binOp, Op.stringOp]; rfl, .p _ _ ?_⟩
    try rw [bytesOf_eq]
    try simp only [bytesOf_less]
    exact VP.bool _

end
end Go.Vc

/- VcD -/
namespace Go.Vc
set_option linter.unusedVariables false
set_option linter.unusedSimpArgs false

section
variable {P : Program} {own : Own} {w : World} {regs : List Reg}

def nilOf : TypeDesc → Value
  | .pointer _ => .pointer none
  | .slice _ => .slice none 0 0
  | .interface _ => .nilIface
  | _ => .nilFunc

theorem isNilConst_val {d : TypeDesc} {x : Operand} {a : Act} (h : isNilConst d x = true) : (∃ v, x = .const v) ∧ a.eval x = nilOf d := by
  unfold isNilConst at h
  split at h <;> simp_all [Act.eval, nilOf]

theorem eq_ptr {t e : TypeId} (m : Nat) (hd : P.underlying t = some (.pointer e)) (a : Option Addr) :
    (Op.equalIn (m + 1) t (.pointer a) (.pointer none)).run P w = .ok a.isNone w ∧ (Op.equalIn (m + 1) t (.pointer none) (.pointer a)).run P w = .ok a.isNone w := by
  cases a <;> constructor <;> simp only [Op.equalIn, Sem.run_bind, und_of hd, Result.andThen_ok, Sem.run_pure, Option.isNone]
theorem eq_slice {t e : TypeId} (m : Nat) (hd : P.underlying t = some (.slice e)) (a : Option Addr) (n c : Nat) :
    (Op.equalIn (m + 1) t (.slice a n c) (.slice none 0 0)).run P w = .ok a.isNone w ∧ (Op.equalIn (m + 1) t (.slice none 0 0) (.slice a n c)).run P w = .ok a.isNone w := by
  cases a <;> constructor <;> simp only [Op.equalIn, Sem.run_bind, und_of hd, Result.andThen_ok, Sem.run_pure, Option.isNone]
theorem eq_nili {t : TypeId} {e : Array (String × TypeId)} (m : Nat) (hd : P.underlying t = some (.interface e)) : (Op.equalIn (m + 1) t .nilIface .nilIface).run P w = .ok true w := by
  simp only [Op.equalIn, Sem.run_bind, und_of hd, Result.andThen_ok, Sem.run_pure]
theorem eq_iface {t : TypeId} {e : Array (String × TypeId)} (m : Nat) (hd : P.underlying t = some (.interface e)) (u : TypeId) (x : Value) :
    (Op.equalIn (m + 1) t (.iface u x) .nilIface).run P w = .ok false w ∧ (Op.equalIn (m + 1) t .nilIface (.iface u x)).run P w = .ok false w := by
  constructor <;> simp only [Op.equalIn, Sem.run_bind, und_of hd, Result.andThen_ok, Sem.run_pure]
theorem eq_nilf {t : TypeId} {a b : Array TypeId} {c : Bool} (m : Nat) (hd : P.underlying t = some (.func a b c)) : (Op.equalIn (m + 1) t .nilFunc .nilFunc).run P w = .ok true w := by
  simp only [Op.equalIn, Sem.run_bind, und_of hd, Result.andThen_ok, Sem.run_pure]
theorem eq_func {t : TypeId} {a b : Array TypeId} {c : Bool} (m : Nat) (hd : P.underlying t = some (.func a b c)) (fn : Fn) (x y : Array Value) :
    (Op.equalIn (m + 1) t (.func fn x y) .nilFunc).run P w = .ok false w ∧ (Op.equalIn (m + 1) t .nilFunc (.func fn x y)).run P w = .ok false w := by
  constructor <;> simp only [Op.equalIn, Sem.run_bind, und_of hd, Result.andThen_ok, Sem.run_pure]

/-- A comparison with nil, on whichever side nil stands. -/
theorem isNil_eq {d : TypeDesc} {t : TypeId} {x : EV} {v : Value} {b : Bool} {o : Option Bool} (m : Nat) (hd : P.underlying t = some d) (h : isNil d x = some (b, o)) (hm : Met o)
    (hv : VE own w regs x v) :
    (Op.equalIn (m + 1) t v (nilOf d)).run P w = .ok b w ∧ (Op.equalIn (m + 1) t (nilOf d) v).run P w = .ok b w := by
  unfold isNil at h
  split at h
  · cases h; cases hv with | p _ _ h => cases h; exact eq_ptr m hd _
  · cases h; cases hv with | p _ _ h => cases h; exact eq_ptr m hd _
  · cases h; cases hv with | p _ _ h => cases h; exact eq_ptr m hd _
  · cases h; cases hv; exact eq_ptr m hd _
  · cases h; cases hv with | p _ _ h => cases h; exact eq_slice m hd _ _ _
  · cases h
    cases hv with | p _ _ h => cases h with | lst _ _ _ _ _ _ _ _ ha =>
      obtain ⟨r, x, rfl, _⟩ := ha (by simpa using hm.some)
      exact eq_slice m hd _ _ _
  · cases h; cases hv; exact eq_slice m hd _ _ _
  · cases h; cases hv with | p _ _ h => cases h; exact ⟨eq_nili m hd, eq_nili m hd⟩
  · cases h; cases hv with | p _ _ h => cases h; exact eq_iface m hd _ _
  · cases h; cases hv; exact eq_iface m hd _ _
  · cases h; cases hv with | p _ _ h => cases h; exact ⟨eq_nilf m hd, eq_nilf m hd⟩
  · cases h; cases hv with | p _ _ h => cases h; exact eq_func m hd _ _ _
  · cases h; cases hv; exact eq_func m hd _ _ _
  · cases h

theorem isNil_kind {d : TypeDesc} {x : EV} {v : Value} {b : Bool} {o : Option Bool} (h : isNil d x = some (b, o)) (hv : VE own w regs x v) :
    (∃ a, v = .pointer a) ∨ (∃ a n c, v = .slice a n c) ∨ v = .nilIface ∨ (∃ t u, v = .iface t u) ∨ v = .nilFunc ∨ ∃ f a c, v = .func f a c := by
  unfold isNil at h
  split at h <;> first
    | (cases h; done)
    | (cases hv with | p _ _ h => cases h <;> simp)
    | (cases hv <;> simp)

theorem nilOf_kind {d : TypeDesc} : nilOf d = .pointer none ∨ nilOf d = .slice none 0 0 ∨ nilOf d = .nilIface ∨ nilOf d = .nilFunc := by
  cases d <;> simp [nilOf]

/-- '==' with nil as the operation does it: the guard, then the comparison. -/
theorem binOp_nil {d : TypeDesc} {t : TypeId} {x : EV} {v : Value} {b : Bool} {o : Option Bool} {xo yo : Operand} (neq : Bool) (swap : Bool) (hd : P.underlying t = some d) (h : isNil d x = some (b, o)) (hm : Met o)
    (hv : VE own w regs x v) (hc : (∃ c, xo = .const c) ∨ ∃ c, yo = .const c) :
    (do eqGuard (if neq then .neq else .eql) t xo yo (if swap then nilOf d else v) (if swap then v else nilOf d)
        binOp (if neq then .neq else .eql) t (if swap then nilOf d else v) (if swap then v else nilOf d)).run P w = .ok (.bool (if neq then !b else b)) w := by
  have he := isNil_eq 9999 hd h hm hv
  have hk := isNil_kind h hv
  have hn := nilOf_kind (d := d)
  have hg : ∀ op a c, (a = v ∧ c = nilOf d ∨ a = nilOf d ∧ c = v) → (eqGuard op t xo yo a c).run P w = .ok () w := by
    intro op a c hac
    unfold eqGuard
    rcases hac with ⟨rfl, rfl⟩ | ⟨rfl, rfl⟩ <;>
    rcases hk with ⟨a, rfl⟩ | ⟨a, n, c, rfl⟩ | rfl | ⟨_, _, rfl⟩ | rfl | ⟨_, _, _, rfl⟩ <;> rcases hn with e | e | e | e <;> rw [e] <;>
    cases op <;> first | rfl | (simp; rcases hc with ⟨c, rfl⟩ | ⟨c, rfl⟩ <;> simp)
  cases swap with
  | false =>
    simp only [Bool.false_eq_true, if_false]
    rw [Sem.run_bind, hg _ _ _ (.inl ⟨rfl, rfl⟩), Result.andThen_ok]
    cases neq with
    | false =>
      simp only [Bool.false_eq_true, if_false]
      have : binOp .eql t v (nilOf d) = (do pure (.bool (← Op.equal t v (nilOf d)))) := by
        rcases hk with ⟨a, rfl⟩ | ⟨a, n, c, rfl⟩ | rfl | ⟨_, _, rfl⟩ | rfl | ⟨_, _, _, rfl⟩ <;> rcases hn with e | e | e | e <;> rw [e] <;> rfl
      rw [this]
      simp only [Sem.run_bind, Op.equal]
      have e1 : (Op.equalIn Op.maxDepth t v (nilOf d)).run P w = .ok b w := he.1
      rw [e1]; rfl
    | true =>
      simp only [if_true]
      have : binOp .neq t v (nilOf d) = (do pure (.bool (!(← Op.equal t v (nilOf d))))) := by
        rcases hk with ⟨a, rfl⟩ | ⟨a, n, c, rfl⟩ | rfl | ⟨_, _, rfl⟩ | rfl | ⟨_, _, _, rfl⟩ <;> rcases hn with e | e | e | e <;> rw [e] <;> rfl
      rw [this]
      simp only [Sem.run_bind, Op.equal]
      have e1 : (Op.equalIn Op.maxDepth t v (nilOf d)).run P w = .ok b w := he.1
      rw [e1]; rfl
  | true =>
    simp only [if_true]
    rw [Sem.run_bind, hg _ _ _ (.inr ⟨rfl, rfl⟩), Result.andThen_ok]
    cases neq with
    | false =>
      simp only [Bool.false_eq_true, if_false]
      have : binOp .eql t (nilOf d) v = (do pure (.bool (← Op.equal t (nilOf d) v))) := by
        rcases hk with ⟨a, rfl⟩ | ⟨a, n, c, rfl⟩ | rfl | ⟨_, _, rfl⟩ | rfl | ⟨_, _, _, rfl⟩ <;> rcases hn with e | e | e | e <;> rw [e] <;> rfl
      rw [this]
      simp only [Sem.run_bind, Op.equal]
      have e1 : (Op.equalIn Op.maxDepth t (nilOf d) v).run P w = .ok b w := he.2
      rw [e1]; rfl
    | true =>
      simp only [if_true]
      have : binOp .neq t (nilOf d) v = (do pure (.bool (!(← Op.equal t (nilOf d) v)))) := by
        rcases hk with ⟨a, rfl⟩ | ⟨a, n, c, rfl⟩ | rfl | ⟨_, _, rfl⟩ | rfl | ⟨_, _, _, rfl⟩ <;> rcases hn with e | e | e | e <;> rw [e] <;> rfl
      rw [this]
      simp only [Sem.run_bind, Op.equal]
      have e1 : (Op.equalIn Op.maxDepth t (nilOf d) v).run P w = .ok b w := he.2
      rw [e1]; rfl

end
end Go.Vc

/- VcE -/
namespace Go.Vc
set_option linter.unusedVariables false
set_option linter.unusedSimpArgs false

section
variable {P : Program} {own : Own} {w : World} {regs : List Reg}

/-- A semantic computation that answers a value that the run's value stands for, and leaves the world alone. -/
def Gives (P : Program) (own : Own) (w : World) (regs : List Reg) (s : Sem Value) (v : EV) : Prop := ∃ u, s.run P w = .ok u w ∧ VE own w regs v u

theorem eqGuard_easy (op : BinOp) (t : TypeId) (x y : Operand) (a b : Value) (h : (∀ cs, a ≠ .agg cs) ) (h' : a ≠ .nilIface) : (eqGuard op t x y a b).run P w = .ok () w := by
  unfold eqGuard
  cases op <;> first | rfl | (cases a <;> first | rfl | exact absurd rfl h' | exact absurd rfl (h _))

theorem binOp_bool {d : TypeDesc} {t : TypeId} (hd : P.underlying t = some d) (hb : d = .bool) (a b : Bool) :
    (binOp .eql t (.bool a) (.bool b)).run P w = .ok (.bool (a == b)) w ∧ (binOp .neq t (.bool a) (.bool b)).run P w = .ok (.bool (!(a == b))) w := by
  subst hb
  have he : (Op.equal t (.bool a) (.bool b)).run P w = .ok (a == b) w := by
    show (Op.equalIn (9999 + 1) t (.bool a) (.bool b)).run P w = _
    generalize 9999 = m
    simp only [Op.equalIn, Sem.run_bind, und_of hd, Result.andThen_ok, Sem.run_pure]
  constructor
  · show (do pure (Value.bool (← Op.equal t (.bool a) (.bool b)))).run P w = _
    rw [Sem.run_bind, he]; rfl
  · show (do pure (Value.bool (!(← Op.equal t (.bool a) (.bool b))))).run P w = _
    rw [Sem.run_bind, he]; rfl

theorem eqIn_iface_ne {ms : Array (String × TypeId)} {t t1 t2 : TypeId} {u1 u2 : Value} (hd : P.underlying t = some (.interface ms)) (hne : t1 ≠ t2) (m : Nat) :
    (Op.equalIn (m + 1) t (.iface t1 u1) (.iface t2 u2)).run P w = .ok false w := by
  simp only [Op.equalIn, Sem.run_bind, und_of hd, Result.andThen_ok, ne_eq, hne, not_false_eq_true, if_true, Sem.run_pure]

theorem eqIn_iface_int {ms : Array (String × TypeId)} {kk : IntKind} {inf : TypeInfo} {t t1 : TypeId} {k : IntKind} {n1 n2 : Int} (hd : P.underlying t = some (.interface ms)) (hu : P.underlying t1 = some (.int kk)) (hi : P.info? t1 = some inf) (hc : inf.comparable = true) (m : Nat) :
    (Op.equalIn (m + 2) t (.iface t1 (.int k n1)) (.iface t1 (.int k n2))).run P w = .ok (n1 == n2) w := by
  have h1 : (Op.equalIn (m + 1) t1 (.int k n1) (.int k n2)).run P w = .ok (n1 == n2) w := by
    simp only [Op.equalIn, Sem.run_bind, und_of hu, Result.andThen_ok, if_true, Sem.run_pure]
  generalize hm : m + 1 = m' at h1
  rw [show m + 2 = m' + 1 by omega]
  have hti : (typeInfo t1).run P w = .ok inf w := by simp [typeInfo, hi]
  simp only [Op.equalIn, Sem.run_bind, und_of hd, Result.andThen_ok, ne_eq, not_true_eq_false, if_false, hti, hc, Bool.not_true, Bool.false_eq_true, h1]

theorem eqIn_nil_iface {ms : Array (String × TypeId)} {t t1 : TypeId} {u1 : Value} (hd : P.underlying t = some (.interface ms)) (m : Nat) :
    (Op.equalIn (m + 1) t .nilIface (.iface t1 u1)).run P w = .ok false w ∧ (Op.equalIn (m + 1) t (.iface t1 u1) .nilIface).run P w = .ok false w := by
  constructor <;> simp only [Op.equalIn, Sem.run_bind, und_of hd, Result.andThen_ok, Sem.run_pure]

theorem eqE_sound {d : TypeDesc} {t : TypeId} {xo yo : Operand} {x y : EV} {a : Act} {b : Bool} {o : Option Bool} (neq : Bool) (hd : P.underlying t = some d)
    (h : eqE P d xo yo x y = some (b, o)) (hm : Met o) (hx : VE own w regs x (a.eval xo)) (hy : VE own w regs y (a.eval yo)) :
    (do eqGuard (if neq then .neq else .eql) t xo yo (a.eval xo) (a.eval yo)
        binOp (if neq then .neq else .eql) t (a.eval xo) (a.eval yo)).run P w = .ok (.bool (if neq then !b else b)) w := by
  unfold eqE at h
  split at h
  · rename_i hn
    obtain ⟨hc, hv⟩ := isNilConst_val (a := a) hn
    have := binOp_nil neq false hd h hm hx (xo := xo) (yo := yo) (.inr hc)
    simp only [Bool.false_eq_true, if_false] at this
    rw [hv]; exact this
  · split at h
    · rename_i hn
      obtain ⟨hc, hv⟩ := isNilConst_val (a := a) hn
      have := binOp_nil neq true hd h hm hy (xo := xo) (yo := yo) (.inl hc)
      simp only [if_true] at this
      rw [hv]; exact this
    · split at h
      · split at h
        · rename_i p q h1 h2
          cases h
          rw [asB_sound h1 hx, asB_sound h2 hy]
          rw [Sem.run_bind, eqGuard_easy _ _ _ _ _ _ (by simp) (by simp), Result.andThen_ok]
          have := binOp_bool (w := w) hd rfl p q
          cases neq
          · exact this.1
          · exact this.2
        · cases h
      · rename_i e
        split at h
        · rename_i i p j q
          split at h
          · rename_i h1 h2 h3
            cases h
            have e1 : i = j := Nat.eq_of_beq_eq_true h1
            have e2 : p = q := Nat.eq_of_beq_eq_true h2
            subst e1; subst e2
            obtain ⟨inf, hinf⟩ := Option.isSome_iff_exists.1 h3
            generalize a.eval xo = ux at hx ⊢
            generalize a.eval yo = uy at hy ⊢
            cases hx with | ptr _ _ g hg =>
            cases hy with | ptr _ _ g' hg' =>
            rw [hg] at hg'; cases hg'
            rw [Sem.run_bind, eqGuard_easy _ _ _ _ _ _ (by simp) (by simp), Result.andThen_ok]
            have he : ∀ d : Nat, (Op.equalIn (d + 1) t (.pointer (some ⟨g.blk, g.off + p, none⟩)) (.pointer (some ⟨g.blk, g.off + p, none⟩))).run P w = .ok true w := fun d => by
              simp [Op.equalIn, und_of hd, sizeOf, typeInfo, hinf, run_sameAddr_same]
            cases neq
            · show (do pure (Value.bool (← Op.equal t _ _))).run P w = _
              rw [Sem.run_bind]
              simp [Op.equal, Op.maxDepth, he 9999]
            · show (do pure (Value.bool (!(← Op.equal t _ _)))).run P w = _
              rw [Sem.run_bind]
              simp [Op.equal, Op.maxDepth, he 9999]
          · cases h
        · cases h
      · rename_i ms
        have fin2 : ∀ (ux uy : Value) (r : Bool), (ux = .nilIface ∨ ∃ t v, ux = .iface t v) → (ux ≠ .nilIface ∨ uy ≠ .nilIface) → (∀ d : Nat, (Op.equalIn (d + 2) t ux uy).run P w = .ok r w) →
            (do eqGuard (if neq then .neq else .eql) t xo yo ux uy
                binOp (if neq then .neq else .eql) t ux uy).run P w = .ok (.bool (if neq then !r else r)) w := by
          intro ux uy r h1 h2 h3
          have hg : (eqGuard (if neq then .neq else .eql) t xo yo ux uy).run P w = .ok () w := by
            unfold eqGuard
            rcases h1 with rfl | ⟨t', v', rfl⟩
            · cases neq <;> cases uy <;> first | rfl | (rcases h2 with h2 | h2 <;> exact absurd rfl h2)
            · cases neq <;> rfl
          have he := h3 9998
          rw [Sem.run_bind, hg, Result.andThen_ok]
          cases neq
          · have e : binOp .eql t ux uy = (do pure (Value.bool (← Op.equal t ux uy))) := by
              rcases h1 with rfl | ⟨t', v', rfl⟩ <;> rfl
            simp only [Bool.false_eq_true, if_false]
            rw [e, Sem.run_bind]
            simp only [Op.equal, Op.maxDepth, he, Result.andThen_ok, Sem.run_pure]
          · have e : binOp .neq t ux uy = (do pure (Value.bool (!(← Op.equal t ux uy)))) := by
              rcases h1 with rfl | ⟨t', v', rfl⟩ <;> rfl
            simp only [if_true]
            rw [e, Sem.run_bind]
            simp only [Op.equal, Op.maxDepth, he, Result.andThen_ok, Sem.run_pure]
        generalize a.eval xo = ux at hx ⊢
        generalize a.eval yo = uy at hy ⊢
        split at h
        · rename_i t1 p t2 q
          cases hx with | p _ _ hx => cases hy with | p _ _ hy =>
          cases hx with | iface _ _ u1 hx => cases hy with | iface _ _ u2 hy =>
          split at h
          · rename_i hne
            cases h
            have hne' : t1 ≠ t2 := fun e => by subst e; simp at hne
            exact fin2 _ _ false (.inr ⟨_, _, rfl⟩) (.inl (by simp)) (fun d => eqIn_iface_ne hd hne' _)
          · rename_i heq
            have heq' : t1 = t2 := Nat.eq_of_beq_eq_true heq
            subst heq'
            split at h
            · rename_i kk k1 n1 k2 n2 hu hc
              split at h
              · rename_i hk
                cases h
                have hk' : k1 = k2 := of_decide_eq_true hk
                subst hk'
                cases hx; cases hy
                rw [Option.map_eq_some_iff] at hc
                obtain ⟨inf, hi1, hi2⟩ := hc
                exact fin2 _ _ _ (.inr ⟨_, _, rfl⟩) (.inl (by simp)) (fun d => eqIn_iface_int hd hu hi1 hi2 d)
              · cases h
            · cases h
        · cases h
          cases hx with | p _ _ hx => cases hy with | p _ _ hy =>
          cases hx; cases hy
          exact fin2 _ _ false (.inl rfl) (.inr (by simp)) (fun d => (eqIn_nil_iface hd _).1)
        · cases h
          cases hx with | p _ _ hx => cases hy with | p _ _ hy =>
          cases hx; cases hy
          exact fin2 _ _ false (.inr ⟨_, _, rfl⟩) (.inl (by simp)) (fun d => (eqIn_nil_iface hd _).2)
        · cases h
          cases hx with | p _ _ hx =>
          cases hx; cases hy
          exact fin2 _ _ false (.inl rfl) (.inr (by simp)) (fun d => (eqIn_nil_iface hd _).1)
        · cases h
          cases hy with | p _ _ hy =>
          cases hx; cases hy
          exact fin2 _ _ false (.inr ⟨_, _, rfl⟩) (.inl (by simp)) (fun d => (eqIn_nil_iface hd _).2)
        · cases h
      · cases h

theorem mkb_sound (kn b : Bool) : VE own w regs (mkb kn b) (.bool b) := by
  cases kn
  · exact .p _ _ (.bool b)
  · exact .kb b

theorem binE_sound {wr : Bool} {op : BinOp} {t : TypeId} {xo yo : Operand} {x y : EV} {a : Act} {v : EV} {o : Option Bool}
    (h : binE P wr op t xo yo x y = some (v, o)) (hm : Met o) (hx : VE own w regs x (a.eval xo)) (hy : VE own w regs y (a.eval yo)) :
    Gives P own w regs (do eqGuard op t xo yo (a.eval xo) (a.eval yo); binOp op t (a.eval xo) (a.eval yo)) v := by
  unfold binE at h
  split at h
  · rename_i k p k' q
    cases hx with | p _ _ hx => cases hy with | p _ _ hy =>
    generalize hax : a.eval xo = ax at *
    generalize hay : a.eval yo = ay at *
    cases hx; cases hy
    have hg : (eqGuard op t xo yo (.int k p) (.int k' q)).run P w = .ok () w := eqGuard_easy _ _ _ _ _ _ (by simp) (by simp)
    unfold Gives
    rw [Sem.run_bind, hg, Result.andThen_ok]
    split at h
    · cases h
      have := hm.some
      simp at this
      exact ⟨_, by simp [binOp, Op.shift, Int.not_lt.2 this], .p _ _ (.int _ _)⟩
    · cases h
      have := hm.some
      simp at this
      exact ⟨_, by simp [binOp, Op.shift, Int.not_lt.2 this], .p _ _ (.int _ _)⟩
    · split at h
      · rename_i hk
        subst hk
        exact intOp_sound h hm
      · cases h
  · rename_i p q
    cases hx with | p _ _ hx => cases hy with | p _ _ hy =>
    generalize hax : a.eval xo = ax at *
    generalize hay : a.eval yo = ay at *
    cases hx with | str _ s hs => cases hy with | str _ s' hs' =>
    subst hs; subst hs'
    have hg : (eqGuard op t xo yo (.string s) (.string s')).run P w = .ok () w := eqGuard_easy _ _ _ _ _ _ (by simp) (by simp)
    unfold Gives
    rw [Sem.run_bind, hg, Result.andThen_ok]
    exact strOp_sound h hm
  · split at h
    · rename_i d hd
      cases he : eqE P d xo yo x y with
      | none => simp [he] at h
      | some r =>
        obtain ⟨b, o'⟩ := r
        simp [he] at h
        obtain ⟨rfl, rfl⟩ := h
        exact ⟨_, by simpa using eqE_sound false hd he hm hx hy, mkb_sound _ _⟩
    · rename_i d hd
      cases he : eqE P d xo yo x y with
      | none => simp [he] at h
      | some r =>
        obtain ⟨b, o'⟩ := r
        simp [he] at h
        obtain ⟨rfl, rfl⟩ := h
        exact ⟨_, by simpa using eqE_sound true hd he hm hx hy, mkb_sound _ _⟩
    · cases h

theorem unE_sound {wr : Bool} {op : UnOp} {x : EV} {u : Value} {v : EV} {o : Option Bool} (h : unE wr op x = some (v, o)) (hm : Met o) (hx : VE own w regs x u) :
    Gives P own w regs (Op.unary op u) v := by
  unfold unE at h
  split at h
  · cases h; cases hx; exact ⟨_, by simp [Op.unary], .kb _⟩
  · cases h; cases hx with | p _ _ hx => cases hx; exact ⟨_, by simp [Op.unary], .p _ _ (.bool _)⟩
  · cases hx with | p _ _ hx => cases hx; exact ⟨_, by simp [Op.unary, Op.intArith], arith_sound (Option.some.inj h) hm⟩
  · cases h; cases hx with | p _ _ hx => cases hx; exact ⟨_, by simp [Op.unary, Op.intBits]; rfl, .p _ _ (by simpa [ibit] using VP.int _ _)⟩
  · cases h

theorem pickE_sound {c x y : EV} {uc ux uy : Value} {v : EV} {o : Option Bool} (h : pickE c x y = some (v, o)) (hc : VE own w regs c uc) (hx : VE own w regs x ux)
    (hy : VE own w regs y uy) : Gives P own w regs (do pure (if ← asBool uc then ux else uy)) v := by
  unfold pickE at h
  split at h
  · cases h; cases hc; exact ⟨ux, by simp [asBool], hx⟩
  · cases h; cases hc; exact ⟨uy, by simp [asBool], hy⟩
  · rename_i t
    split at h
    · rename_i p q h1 h2
      cases h
      cases hc with | p _ _ hc =>
      cases hc
      obtain rfl := asB_sound h1 hx
      obtain rfl := asB_sound h2 hy
      cases t
      · exact ⟨.bool q, by simp [asBool], .p _ _ (.bool _)⟩
      · exact ⟨.bool p, by simp [asBool], .p _ _ (.bool _)⟩
    · cases h
  · cases h

theorem partE_sound {t : TypeId} {cs : EV} {off : Nat} {us : Array Value} {v : EV} {o : Option Bool} (h : partE P t cs off = some (v, o))
    (hc : VE own w regs cs (.agg us)) : Gives P own w regs (part t us off) v := by
  unfold partE at h
  split at h
  · rename_i n ps h1 h2
    cases h
    cases hc with | p _ _ hc => cases hc with | agg _ us hs =>
    refine ⟨.agg ((us.drop off).take n).toArray, ?_, .p _ _ (.agg _ _ ((hs.drop _).take _))⟩
    unfold part
    simp only [Sem.run_bind, agg_of h1, size_of h2, Result.andThen_ok, if_true, Sem.run_pure]
    congr 2
    apply Array.toList_inj.1
    simp [List.extract_eq_take_drop]
  · rename_i n es h1 h2
    cases h
    cases hc with | agg _ us hs =>
    refine ⟨.agg ((us.drop off).take n).toArray, ?_, mkAgg_sound ((hs.drop _).take _)⟩
    unfold part
    simp only [Sem.run_bind, agg_of h1, size_of h2, Result.andThen_ok, if_true, Sem.run_pure]
    congr 2
    apply Array.toList_inj.1
    simp [List.extract_eq_take_drop]
  · rename_i z ps h1
    split at h
    · rename_i x hx
      cases h
      cases hc with | p _ _ hc => cases hc with | agg _ us hs =>
      obtain ⟨u, hu, hv⟩ := hs.get hx
      exact ⟨u, by simp [part, agg_of h1, hu], .p _ _ hv⟩
    · cases h
  · rename_i z es h1
    split at h
    · rename_i x hx
      cases h
      cases hc with | agg _ us hs =>
      obtain ⟨u, hu, hv⟩ := hs.get hx
      exact ⟨u, by simp [part, agg_of h1, hu], hv⟩
    · cases h
  · cases h

theorem partE_agg {t : TypeId} {cs : EV} {off : Nat} {u : Value} {r : EV × Option Bool} (h : partE P t cs off = some r) (hc : VE own w regs cs u) : ∃ us, u = .agg us := by
  unfold partE at h
  split at h <;> first
    | (cases h; done)
    | (cases hc with | p _ _ hc => cases hc; exact ⟨_, rfl⟩)
    | (cases hc; exact ⟨_, rfl⟩)

theorem fieldE_sound {t : TypeId} {x : EV} {f : Nat} {u : Value} {v : EV} {o : Option Bool} (h : fieldE P t x f = some (v, o)) (hx : VE own w regs x u) :
    Gives P own w regs (Instr.field t u f) v := by
  unfold fieldE at h
  split at h
  · rename_i fs hd
    split at h
    · rename_i fd hf
      obtain ⟨us, rfl⟩ := partE_agg h hx
      obtain ⟨r, hr, hv⟩ := partE_sound h hx
      exact ⟨r, by simp [Instr.field, und_of hd, hf, asAgg, hr], hv⟩
    · cases h
  · cases h

theorem optInt_sound {x : Option EV} {u : Option Value} {r : Option Int} (h : optInt x = some r)
    (hx : ∀ e, x = some e → ∃ v, u = some v ∧ VE own w regs e v) (hn : x = none → u = none) :
    (r = none ∧ u = none) ∨ ∃ k i, r = some i ∧ u = some (.int k i) := by
  unfold optInt at h
  split at h
  · cases h; exact .inl ⟨rfl, hn rfl⟩
  · cases h
    obtain ⟨v, rfl, hv⟩ := hx _ rfl
    cases hv with | p _ _ hv => cases hv; exact .inr ⟨_, _, rfl, rfl⟩
  · cases h

theorem sliceBound_ok (k : IntKind) (i : Int) (y : Nat) (c : BoundsCode) (h0 : 0 ≤ i) (h1 : i ≤ y) : (Instr.sliceBound (.int k i) y c).run P w = .ok i.toNat w := by
  simp [Instr.sliceBound, asIntOf, h0, h1]

/-- The bounds of a slice expression whose two bounds lie within the length. -/
theorem sliceBounds_ok (isS : Bool) (n cap : Nat) (hn : n ≤ cap) {lo hi : Option Value} {l h : Option Int} (hl : (l = none ∧ lo = none) ∨ ∃ k i, l = some i ∧ lo = some (.int k i))
    (hh : (h = none ∧ hi = none) ∨ ∃ k i, h = some i ∧ hi = some (.int k i)) (hb : Met (boundsOk n l h)) :
    (Instr.sliceBounds isS n cap lo hi none).run P w = .ok ((l.getD 0).toNat, hiOf h n, cap) w ∧
    (l.getD 0).toNat ≤ hiOf h n ∧ hiOf h n ≤ n := by
  unfold hiOf
  rcases hl with ⟨rfl, rfl⟩ | ⟨k, i, rfl, rfl⟩ <;> rcases hh with ⟨rfl, rfl⟩ | ⟨k', j, rfl, rfl⟩ <;> simp only [boundsOk, met_some, Bool.and_eq_true, decide_eq_true_eq] at hb
  · refine ⟨?_, by simp, by simp⟩
    simp only [Instr.sliceBounds, Sem.run_bind, Sem.run_pure, Result.andThen_ok]; rfl
  · refine ⟨?_, by simp, by simp; omega⟩
    cases isS
    · simp only [Instr.sliceBounds, Sem.run_bind, Sem.run_pure, Result.andThen_ok]
      simp only [Bool.false_eq_true, if_false]
      rw [sliceBound_ok _ _ _ _ hb.1 (by omega)]; rfl
    · simp only [Instr.sliceBounds, Sem.run_bind, Sem.run_pure, Result.andThen_ok]
      simp only [if_true]
      rw [sliceBound_ok _ _ _ _ hb.1 (by omega)]; rfl
  · refine ⟨?_, by simp; omega, by simp⟩
    simp only [Instr.sliceBounds, Sem.run_bind, Sem.run_pure, Result.andThen_ok, Option.isSome]
    simp only [Bool.false_eq_true, if_false]
    rw [sliceBound_ok _ _ _ _ hb.1 (by omega)]; rfl
  · refine ⟨?_, by simp; omega, by simp; omega⟩
    cases isS
    · simp only [Instr.sliceBounds, Sem.run_bind, Sem.run_pure, Result.andThen_ok, Option.isSome]
      simp only [Bool.false_eq_true, if_false]
      rw [sliceBound_ok _ _ _ _ (by omega) (by omega)]
      simp only [Result.andThen_ok]
      rw [sliceBound_ok _ _ _ _ hb.1.1 (by omega)]; rfl
    · simp only [Instr.sliceBounds, Sem.run_bind, Sem.run_pure, Result.andThen_ok, Option.isSome]
      simp only [if_true, Bool.false_eq_true, if_false]
      rw [sliceBound_ok _ _ _ _ (by omega) (by omega)]
      simp only [Result.andThen_ok]
      rw [sliceBound_ok _ _ _ _ hb.1.1 (by omega)]; rfl

end
end Go.Vc

/- VcF -/
namespace Go.Vc
set_option linter.unusedVariables false
set_option linter.unusedSimpArgs false

section
variable {P : Program} {own : Own} {w : World} {regs : List Reg}

theorem addr_add (r x n : Nat) : (⟨r, x, none⟩ : Addr).add n = ⟨r, x + n, none⟩ := by unfold Addr.add; split <;> simp_all

theorem VP.sub_lst {n : Nat} {ps : List PV} {a : Option Addr} {c z l h : Nat} (hv : VP own w (.lst n ps) (.slice a n c)) (hl : l ≤ h) (hh : h ≤ n) :
    VP own w (.lst (h - l) ((ps.take (h * z)).drop (l * z))) (.slice (if c = l then a else a.map (·.add (l * z))) (h - l) (c - l)) := by
  cases hv with | lst _ _ _ _ us hs hc h0 ha =>
  refine .lst _ _ _ _ ((us.take (h * z)).drop (l * z)) ((hs.take _).drop _) (by omega) (fun e => ?_) (fun hp => ?_)
  · have : h * z ≤ l * z := Nat.mul_le_mul_right z (by omega)
    exact List.drop_eq_nil_of_le (by simp; omega)
  · obtain ⟨r, x, rfl, hr, hcell⟩ := ha (by omega)
    rw [if_neg (by omega)]
    refine ⟨r, x + l * z, by simp [addr_add], hr, fun j u hj => ?_⟩
    rw [List.getElem?_drop] at hj
    have hj' : us[l * z + j]? = some u := by
      rw [List.getElem?_take] at hj
      split at hj
      · exact hj
      · cases hj
    have := hcell _ _ hj'
    rwa [← Nat.add_assoc] at this

theorem sliceE_sound {t : TypeId} {x : EV} {lo hi mx : Option EV} {u : Value} {ul uh um : Option Value} {v : EV} {o : Option Bool} (h : sliceE P t x lo hi mx = some (v, o)) (hm : Met o)
    (hx : VE own w regs x u) (hlo : ∀ e, lo = some e → ∃ v, ul = some v ∧ VE own w regs e v) (hlo' : lo = none → ul = none)
    (hhi : ∀ e, hi = some e → ∃ v, uh = some v ∧ VE own w regs e v) (hhi' : hi = none → uh = none) (hmx : mx = none → um = none) :
    Gives P own w regs (Instr.sliceAt t u ul uh um) v := by
  unfold sliceE at h
  split at h
  · rename_i l hh e1 e2
    obtain rfl := hmx rfl
    have hl := optInt_sound e1 hlo hlo'
    have hh' := optInt_sound e2 hhi hhi'
    split at h
    · rename_i s hd
      cases h
      cases hx with | p _ _ hx => cases hx with | str _ b hb =>
      subst hb
      rw [bytesOf_len] at hm
      obtain ⟨hr, hb1, hb2⟩ := sliceBounds_ok (P := P) (w := w) false b.size b.size (Nat.le_refl _) hl hh' hm
      refine ⟨.string (b.extract (l.getD 0).toNat (hiOf hh b.size)), ?_, .p _ _ (.str _ _ ?_)⟩
      · simp only [Instr.sliceAt, Instr.slice, Sem.run_bind, und_of hd, Result.andThen_ok, Option.isSome, Bool.false_eq_true, if_false, hr]
        rfl
      · rw [bytesOf_extract]
        have ht : (bytesOf b).take b.size = bytesOf b := List.take_of_length_le (by simp)
        cases l <;> cases hh <;> simp only [subStr, hiOf, Option.getD, ht, Int.toNat_zero, List.drop_zero]
    · rename_i e hd
      split at h
      · rename_i z hz
        cases h
        cases hx with | p _ _ hx =>
        cases hx
        obtain ⟨hr, hb1, hb2⟩ := sliceBounds_ok (P := P) (w := w) true 0 0 (Nat.le_refl _) hl hh' hm
        refine ⟨.slice none 0 0, ?_, .p _ _ .nils⟩
        have e0 : hiOf hh 0 = 0 := by omega
        have e3 : (l.getD 0).toNat = 0 := by omega
        rw [e0, e3] at hr
        simp only [Instr.sliceAt, Instr.slice, Sem.run_bind, und_of hd, Result.andThen_ok, hr, size_of hz]
        rfl
      · cases h
    · rename_i e n ps hd
      split at h
      · rename_i z hz
        cases h
        cases hx with | p _ _ hx =>
        have hx' := hx
        cases hx with | lst _ _ a c us hs hc h0 ha =>
        obtain ⟨hr, hb1, hb2⟩ := sliceBounds_ok (P := P) (w := w) true n c hc hl hh' hm
        refine ⟨_, ?_, .p _ _ (VP.sub_lst (z := z) hx' hb1 hb2)⟩
        simp only [Instr.sliceAt, Instr.slice, Sem.run_bind, und_of hd, Result.andThen_ok, hr, size_of hz]
        rfl
      · cases h
    · rename_i e i off n z hd
      split at h
      · rename_i z' hz
        split at h
        · rename_i hzz
          subst hzz
          cases h
          cases hx with | sl _ _ _ _ g a c hg ht hc ha hf =>
          obtain ⟨hr, hb1, hb2⟩ := sliceBounds_ok (P := P) (w := w) true n c hc hl hh' hm
          refine ⟨.slice (some (if c = (l.getD 0).toNat then a else a.add ((l.getD 0).toNat * z))) (hiOf hh n - (l.getD 0).toNat) (c - (l.getD 0).toNat), ?_, ?_⟩
          · simp only [Instr.sliceAt, Instr.slice, Sem.run_bind, und_of hd, Result.andThen_ok, hr, size_of hz]
            by_cases hcl : c = (l.getD 0).toNat <;> simp [hcl]
          · obtain ⟨e', N, hsh, hN⟩ := hf
            generalize hL : (l.getD 0).toNat = L at *
            generalize hH : hiOf hh n = H at *
            refine .sl _ _ _ _ g _ _ hg ht (by omega) (fun hor => ?_) ⟨e', N, hsh, ?_⟩
            · by_cases hcl : c = L
              · rw [if_pos hcl]
                rcases hor with h0 | h0
                · have hoff : off = 0 := by omega
                  subst hoff
                  rw [ha (.inl rfl)]
                  simp at h0 ⊢; omega
                · omega
              · rw [if_neg hcl]
                by_cases hL0 : L = 0
                · subst hL0
                  simp only [Nat.zero_mul, Nat.add_zero] at hor ⊢
                  rw [ha (by omega)]
                  simp [Addr.add]
                · rcases Nat.eq_zero_or_pos n with hn | hn
                  · omega
                  · rw [ha (.inr hn), addr_add, Nat.add_assoc]
            · have : L * z + (c - L) * z = c * z := by rw [← Nat.add_mul]; congr 1; omega
              omega
        · cases h
      · cases h
    · rename_i e i n hd
      split at h
      · rename_i hh hz
        cases h
        have hb := hm.some
        simp only [Bool.and_eq_true, decide_eq_true_eq] at hb
        obtain ⟨hn, rfl⟩ := hb
        cases hx with | raw _ _ g c hg ht hc hf =>
        obtain ⟨hr, hb1, hb2⟩ := sliceBounds_ok (P := P) (w := w) true n c hc hl hh' (by simp [boundsOk])
        refine ⟨.slice (some ⟨g.blk, g.off, none⟩) 0 c, ?_, .nsl _ _ _ g c hg ht (by omega) (by omega) (by simpa using hf)⟩
        simp only [Instr.sliceAt, Instr.slice, Sem.run_bind, und_of hd, Result.andThen_ok, hr, size_of hz]
        by_cases hc0 : c = 0
        · omega
        · simp [hiOf, Addr.add]
      · cases h
    · cases h
  · cases h

theorem convE_sound {wr : Bool} {s t : TypeId} {x : EV} {u : Value} {v : EV} {o : Option Bool} (h : convE P wr s t x = some (v, o)) (hm : Met o) (hx : VE own w regs x u) :
    Gives P own w regs (convert s t u) v := by
  unfold convE at h
  split at h
  · rename_i d k k' n h1 h2
    cases hx with | p _ _ hx =>
    cases hx
    refine ⟨.int k (k.wrap n), ?_, arith_sound (Option.some.inj h) hm⟩
    simp only [convert, Sem.run_bind, und_of h1, und_of h2, Result.andThen_ok]
    rfl
  · rename_i d b h1 h2
    cases h
    cases hx with | p _ _ hx => cases hx with | str _ b hb =>
    refine ⟨.string b, ?_, .p _ _ (.str _ _ hb)⟩
    simp only [convert, Sem.run_bind, und_of h1, und_of h2, Result.andThen_ok]
    rfl
  · cases h

theorem ifaceE_sound {t : TypeId} {x : EV} {u : Value} {v : EV} {o : Option Bool} (h : ifaceE P t x = some (v, o)) (hx : VE own w regs x u) :
    Gives P own w regs (Instr.makeInterface t u) v := by
  unfold ifaceE at h
  split at h
  · cases h
  · rename_i d hni hd
    have hrun : (Instr.makeInterface t u).run P w = .ok (.iface t u) w := by
      simp only [Instr.makeInterface, Sem.run_bind, und_of hd, Result.andThen_ok]
      cases d <;> first | rfl | exact (hni _ hd).elim
    split at h
    · cases h; cases hx with | p _ _ hx => exact ⟨_, hrun, .p _ _ (.iface _ _ _ hx)⟩
    · cases h; exact ⟨_, hrun, .iface _ _ _ hx⟩
  · cases h

theorem extractE_sound {x : EV} {i : Nat} {u : Value} {v : EV} {o : Option Bool} (h : extractE x i = some (v, o)) (hx : VE own w regs x u) :
    Gives P own w regs (Instr.extract u i) v := by
  unfold extractE at h
  split at h
  · split at h
    · rename_i e he
      cases h
      cases hx with | tup _ us hs =>
      obtain ⟨r, hr, hv⟩ := hs.get he
      exact ⟨r, by simp [Instr.extract, hr], hv⟩
    · cases h
  · cases h

end
end Go.Vc

/- VcG -/
namespace Go.Vc
set_option linter.unusedVariables false
set_option linter.unusedSimpArgs false

section
variable {P : Program} {own : Own} {w : World} {regs : List Reg}

theorem fieldAddrE_sound {t : TypeId} {x : EV} {f : Nat} {u : Value} {v : EV} {o : Option Bool} (h : fieldAddrE P t x f = some (v, o)) (hx : VE own w regs x u) :
    Gives P own w regs (Instr.fieldAt t u f) v := by
  unfold fieldAddrE at h
  split at h
  · rename_i fs hd
    split at h
    · rename_i fd hf
      split at h
      · rename_i z hz
        have key : ∀ r y, (Instr.fieldAt t (.pointer (some ⟨r, y, none⟩)) f).run P w = .ok (.pointer (some ⟨r, y + fd.offset, none⟩)) w := by
          intro r y
          simp only [Instr.fieldAt, Sem.run_bind, und_of hd, Result.andThen_ok, hf, Instr.sureAddr, Sem.run_pure, fieldPlace, size_of hz]
          simp [addr_add]
        split at h
        · cases h
          cases hx with | ptr _ _ g hg => exact ⟨_, key _ _, by rw [Nat.add_assoc]; exact .ptr _ _ g hg⟩
        · cases h
          cases hx with | p _ _ hx =>
          cases hx
          exact ⟨_, key _ _, .p _ _ (.glob _ _)⟩
        · cases h
          cases hx with | p _ _ hx =>
          cases hx with | elem _ _ us r y hs hr ha =>
          exact ⟨_, key _ _, by rw [Nat.add_assoc]; exact .p _ _ (.elem _ _ us r y hs hr ha)⟩
        · cases h
      · cases h
    · cases h
  · cases h

theorem indexAt_arr {t e : TypeId} {n z : Nat} (hd : P.underlying t = some (.array n e)) (hz : sizeT P e = some z) (r y : Nat) (k : IntKind) (i : Int) (h0 : 0 ≤ i) (h1 : i < n) :
    (Instr.indexAt t (.pointer (some ⟨r, y, none⟩)) (.int k i)).run P w = .ok (.pointer (some ⟨r, y + i.toNat * z, none⟩)) w := by
  simp only [Instr.indexAt, asIntOf, Sem.run_bind, Sem.run_pure, Result.andThen_ok, und_of hd, Instr.sureAddr]
  rw [if_pos ⟨h0, h1⟩]
  simp [size_of hz, addr_add]

theorem indexAt_sl {t e : TypeId} {n c z : Nat} {a : Addr} (hd : P.underlying t = some (.slice e)) (hz : sizeT P e = some z) (k : IntKind) (i : Int) (h0 : 0 ≤ i) (h1 : i < n) :
    (Instr.indexAt t (.slice (some a) n c) (.int k i)).run P w = .ok (.pointer (some (a.add (i.toNat * z)))) w := by
  simp only [Instr.indexAt, asIntOf, Sem.run_bind, Sem.run_pure, Result.andThen_ok, und_of hd]
  rw [if_pos ⟨h0, h1⟩]
  simp [size_of hz]

theorem indexAddrE_sound {t : TypeId} {x ix : EV} {u ui : Value} {v : EV} {o : Option Bool} (h : indexAddrE P t x ix = some (v, o)) (hm : Met o) (hx : VE own w regs x u)
    (hi : VE own w regs ix ui) : Gives P own w regs (Instr.indexAt t u ui) v := by
  unfold indexAddrE at h
  split at h
  · rename_i k i
    cases hi with | p _ _ hi =>
    cases hi
    split at h
    · rename_i n e b off hd
      split at h
      · rename_i z hz
        cases h
        have hb := hm.some
        simp only [Bool.and_eq_true, decide_eq_true_eq] at hb
        cases hx with | ptr _ _ g hg =>
        exact ⟨_, indexAt_arr hd hz _ _ _ _ hb.1 hb.2, by rw [Nat.add_assoc]; exact .ptr _ _ g hg⟩
      · cases h
    · rename_i n e g off hd
      split at h
      · rename_i z hz
        cases h
        have hb := hm.some
        simp only [Bool.and_eq_true, decide_eq_true_eq] at hb
        cases hx with | p _ _ hx =>
        cases hx
        exact ⟨_, indexAt_arr hd hz _ _ _ _ hb.1 hb.2, .p _ _ (.glob _ _)⟩
      · cases h
    · rename_i e n ps hd
      split at h
      · rename_i z hz
        cases h
        have hb := hm.some
        simp only [Bool.and_eq_true, decide_eq_true_eq] at hb
        cases hx with | p _ _ hx =>
        cases hx with | lst _ _ a c us hs hc h0 ha =>
        obtain ⟨r, y, rfl, hr, hcell⟩ := ha (by omega)
        refine ⟨_, indexAt_sl hd hz _ _ hb.1 hb.2, ?_⟩
        rw [addr_add]
        exact .p _ _ (.elem _ _ us r y hs hr hcell)
      · cases h
    · rename_i e b off n z hd
      split at h
      · rename_i z' hz
        split at h
        · rename_i hzz
          subst hzz
          cases h
          have hb := hm.some
          simp only [Bool.and_eq_true, decide_eq_true_eq] at hb
          cases hx with | sl _ _ _ _ g a c hg ht hc ha hf =>
          refine ⟨_, indexAt_sl hd hz _ _ hb.1 hb.2, ?_⟩
          rw [ha (.inr (by omega)), addr_add, Nat.add_assoc]
          exact .ptr _ _ g hg
        · cases h
      · cases h
    · cases h
  · cases h

theorem indexE_sound {t : TypeId} {x ix : EV} {u ui : Value} {v : EV} {o : Option Bool} (h : indexE P t x ix = some (v, o)) (hm : Met o) (hx : VE own w regs x u)
    (hi : VE own w regs ix ui) : Gives P own w regs (Instr.index t u ui) v := by
  unfold indexE at h
  split at h
  · rename_i k i
    cases hi with | p _ _ hi =>
    cases hi
    split at h
    · rename_i s hd
      cases h
      have hb := hm.some
      simp only [Bool.and_eq_true, decide_eq_true_eq] at hb
      cases hx with | p _ _ hx =>
      cases hx with | str _ b hb' =>
      subst hb'
      rw [bytesOf_len] at hb
      have hlt : i.toNat < b.size := by omega
      refine ⟨.int .u8 (b[i.toNat]'hlt).toNat, ?_, ?_⟩
      · simp only [Instr.index, asIntOf, Sem.run_bind, Sem.run_pure, Result.andThen_ok, und_of hd]
        rw [if_pos hb.1]
        simp [hlt]
      · rw [bt_get b _ hlt]
        exact .p _ _ (.int _ _)
    · rename_i n e hd
      split at h
      · rename_i z v' hz hp
        cases h
        have hb := hm.some
        simp only [Bool.and_eq_true, decide_eq_true_eq] at hb
        obtain ⟨us, rfl⟩ := partE_agg hp hx
        obtain ⟨r, hr, hv⟩ := partE_sound hp hx
        refine ⟨r, ?_, hv⟩
        simp only [Instr.index, asIntOf, Sem.run_bind, Sem.run_pure, Result.andThen_ok, und_of hd]
        rw [if_pos ⟨hb.1, hb.2⟩]
        rw [hz] at hr
        simp only [Sem.run_bind, size_of hz, Result.andThen_ok]
        exact hr
      · cases h
    · cases h
  · cases h

theorem lenE_sound {t ty : TypeId} {x : EV} {u : Value} {v : EV} {o : Option Bool} (h : lenE P t x = some (v, o)) (hx : VE own w regs x u) :
    Gives P own w regs (Builtin.len_ #[t] ty #[u]) v := by
  unfold lenE at h
  split at h
  · rename_i s hd
    cases h
    cases hx with | p _ _ hx =>
    cases hx with | str _ b hb =>
    subst hb
    rw [bytesOf_len]
    exact ⟨_, by simp [Builtin.len_, und_of hd, goInt], .p _ _ (.int _ _)⟩
  · rename_i n e hd
    cases h
    exact ⟨_, by simp [Builtin.len_, und_of hd, goInt], .p _ _ (.int _ _)⟩
  · rename_i e hd
    cases h
    cases hx with | p _ _ hx =>
    cases hx
    exact ⟨_, by simp [Builtin.len_, und_of hd, goInt], .p _ _ (.int _ _)⟩
  · rename_i e n ps hd
    cases h
    cases hx with | p _ _ hx =>
    cases hx
    exact ⟨_, by simp [Builtin.len_, und_of hd, goInt], .p _ _ (.int _ _)⟩
  · rename_i e i off n z hd
    cases h
    cases hx
    exact ⟨_, by simp [Builtin.len_, und_of hd, goInt], .p _ _ (.int _ _)⟩
  · rename_i e i n z hd
    cases h
    cases hx
    · exact ⟨_, by simp [Builtin.len_, und_of hd, goInt], .p _ _ (.int _ _)⟩
    · exact ⟨_, by simp [Builtin.len_, und_of hd, goInt], .p _ _ (.int _ _)⟩
  · cases h

theorem capE_sound {t ty : TypeId} {x : EV} {u : Value} {v : EV} {o : Option Bool} (h : capE P t x = some (v, o)) (hx : VE own w regs x u) :
    Gives P own w regs (Builtin.cap_ #[t] ty #[u]) v := by
  unfold capE at h
  split at h
  · rename_i e hd
    cases h
    cases hx with | p _ _ hx =>
    cases hx
    exact ⟨_, by simp [Builtin.cap_, und_of hd, goInt], .p _ _ (.int _ _)⟩
  · cases h

theorem minmaxE_sound {big : Bool} {xs : List EV} {us : List Value} {ts : Array TypeId} {ty : TypeId} {v : EV} {o : Option Bool} (h : minmaxE big xs = some (v, o)) (hx : VEs own w regs xs us) :
    Gives P own w regs (if big then Builtin.max_ ts ty us.toArray else Builtin.min_ ts ty us.toArray) v := by
  unfold minmaxE at h
  split at h
  · rename_i k a k' b
    cases hx with | cons _ _ _ _ hx hs =>
    cases hs with | cons _ _ _ _ hy hs =>
    cases hs
    cases hx with | p _ _ hx =>
    cases hx
    cases hy with | p _ _ hy =>
    cases hy
    split at h
    · cases h
      exact ⟨_, by simp [Builtin.max_, Builtin.max2], .p _ _ (.int _ _)⟩
    · cases h
      exact ⟨_, by simp [Builtin.min_, Builtin.min2], .p _ _ (.int _ _)⟩
  · rename_i k a k' b k'' c
    cases hx with | cons _ _ _ _ hx hs =>
    cases hs with | cons _ _ _ _ hy hs =>
    cases hs with | cons _ _ _ _ hz hs =>
    cases hs
    cases hx with | p _ _ hx =>
    cases hx
    cases hy with | p _ _ hy =>
    cases hy
    cases hz with | p _ _ hz =>
    cases hz
    split at h
    · cases h
      exact ⟨_, by simp [Builtin.max_, Builtin.max2], .p _ _ (.int _ _)⟩
    · cases h
      exact ⟨_, by simp [Builtin.min_, Builtin.min2], .p _ _ (.int _ _)⟩
  · cases h

theorem VEs.map_opnd {fr : Fr} {a : Act} (hf : FrOk own w regs fr a) (xs : List Operand) : VEs own w regs (xs.map (opnd fr)) (xs.map a.eval) := by
  induction xs with
  | nil => exact .nil
  | cons x xs ih => exact .cons _ _ _ _ (opnd_sound hf x) ih

/-- What an operation answers in the model: a value that the run's value stands for, the world as it was. -/
theorem pureE_sound {wr : Bool} {fr : Fr} {a : Act} {o : Oper} {v : EV} {ob : Option Bool} (h : pureE P wr fr o = some (v, ob)) (hm : Met ob) (hf : FrOk own w regs fr a) :
    ∃ u, (execOp a.eval o).run P w = .ok (.value u) w ∧ VE own w regs v u := by
  have S := fun x => opnd_sound hf x
  have lift : ∀ {s : Sem Value} {v : EV}, Gives P own w regs s v → ∃ u, (do pure (Next.value (← s)) : Sem Next).run P w = .ok (.value u) w ∧ VE own w regs v u := by
    rintro s v ⟨u, hr, hv⟩
    exact ⟨u, by rw [Sem.run_bind, hr]; rfl, hv⟩
  unfold pureE at h
  unfold execOp
  split at h <;> rename_i hop <;> simp only [hop]
  · cases h; exact ⟨_, rfl, S _⟩
  · cases h; exact ⟨_, rfl, S _⟩
  · obtain ⟨u, hr, hv⟩ := pickE_sound (P := P) h (S _) (S _) (S _)
    refine ⟨u, ?_, hv⟩
    simp only [Sem.run_bind] at hr ⊢
    generalize hs : (asBool (a.eval _)).run P w = s at *
    cases s with
    | ok b w' => simp only [Result.andThen_ok, Sem.run_pure] at hr ⊢; injection hr with h1 h2; subst h1; subst h2; rfl
    | halt e w' => simp at hr
  · rename_i x
    unfold nilCheckE at h
    have hx := S x
    generalize a.eval x = ux at *
    split at h <;> rename_i hxe <;> (try rw [hxe] at hx)
    · cases h; cases hx with | ptr _ _ g hg => exact ⟨_, rfl, .ptr _ _ _ hg⟩
    · cases h; cases hx with | p _ _ hx =>
      cases hx
      exact ⟨_, rfl, .p _ _ (.glob _ _)⟩
    · cases h; cases hx with | p _ _ hx =>
      cases hx with | elem _ _ us r y hs hr ha =>
      exact ⟨_, rfl, .p _ _ (.elem _ _ us r y hs hr ha)⟩
    · cases h; cases hx with | p _ _ hx =>
      cases hx with | iface _ _ _ hx =>
      exact ⟨_, rfl, .p _ _ (.iface _ _ _ hx)⟩
    · cases h; cases hx with | iface _ _ _ hx =>
      exact ⟨_, rfl, .iface _ _ _ hx⟩
    · cases h; cases hx with | p _ _ hx =>
      cases hx
      exact ⟨_, rfl, .p _ _ (.func _)⟩
    · cases h; cases hx with | clo _ _ _ _ _ h1 h2 =>
      exact ⟨_, rfl, .clo _ _ _ _ _ h1 h2⟩
    · cases h
  · exact lift (binE_sound h hm (S _) (S _))
  · exact lift (unE_sound h hm (S _))
  · exact lift (convE_sound h hm (S _))
  · exact lift (ifaceE_sound h (S _))
  · refine lift (sliceE_sound h hm (S _) ?_ ?_ ?_ ?_ ?_) <;> rename_i t x lo hi mx
    · intro e he; cases lo with
      | none => simp at he
      | some l => simp at he; subst he; exact ⟨_, rfl, S l⟩
    · intro he; cases lo <;> simp_all
    · intro e he; cases hi with
      | none => simp at he
      | some l => simp at he; subst he; exact ⟨_, rfl, S l⟩
    · intro he; cases hi <;> simp_all
    · intro he; cases mx <;> simp_all
  · exact lift (fieldAddrE_sound h (S _))
  · exact lift (fieldE_sound h (S _))
  · exact lift (indexAddrE_sound h hm (S _) (S _))
  · exact lift (indexE_sound h hm (S _) (S _))
  · exact lift (extractE_sound h (S _))
  · rename_i as_ ts
    split at h
    · rename_i x t hxs hts
      have e1 : as_ = #[x] := by apply Array.toList_inj.1; simpa using hxs
      have e2 : ts = #[t] := by apply Array.toList_inj.1; simpa using hts
      subst e1; subst e2
      obtain ⟨u, hr, hv⟩ := lenE_sound (ty := o.type) h (S x)
      refine ⟨u, ?_, hv⟩
      simp only [resolve, Sem.run_bind, Sem.run_pure, Result.andThen_ok, invoke, builtin]
      simp only [Array.map_singleton] at *
      rw [hr]; rfl
    · cases h
  · rename_i as_ ts
    split at h
    · rename_i x t hxs hts
      have e1 : as_ = #[x] := by apply Array.toList_inj.1; simpa using hxs
      have e2 : ts = #[t] := by apply Array.toList_inj.1; simpa using hts
      subst e1; subst e2
      obtain ⟨u, hr, hv⟩ := capE_sound (ty := o.type) h (S x)
      refine ⟨u, ?_, hv⟩
      simp only [resolve, Sem.run_bind, Sem.run_pure, Result.andThen_ok, invoke, builtin]
      simp only [Array.map_singleton] at *
      rw [hr]; rfl
    · cases h
  · rename_i as_ ts
    obtain ⟨u, hr, hv⟩ := minmaxE_sound (P := P) (ts := ts) (ty := o.type) h (VEs.map_opnd hf as_.toList)
    refine ⟨u, ?_, hv⟩
    simp only [resolve, Sem.run_bind, Sem.run_pure, Result.andThen_ok, invoke, builtin]
    simp only [Bool.false_eq_true, if_false] at hr
    have e : (List.map a.eval as_.toList).toArray = as_.map a.eval := by apply Array.toList_inj.1; simp
    rw [e] at hr
    rw [hr]; rfl
  · rename_i as_ ts
    obtain ⟨u, hr, hv⟩ := minmaxE_sound (P := P) (ts := ts) (ty := o.type) h (VEs.map_opnd hf as_.toList)
    refine ⟨u, ?_, hv⟩
    simp only [resolve, Sem.run_bind, Sem.run_pure, Result.andThen_ok, invoke, builtin]
    simp only [if_true] at hr
    have e : (List.map a.eval as_.toList).toArray = as_.map a.eval := by apply Array.toList_inj.1; simp
    rw [e] at hr
    rw [hr]; rfl
  · rename_i fn first captured
    have hfi := VEs.map_opnd hf first.toList
    have hca := VEs.map_opnd hf captured.toList
    have e1 : first.map a.eval = (List.map a.eval first.toList).toArray := by apply Array.toList_inj.1; simp
    have e2 : captured.map a.eval = (List.map a.eval captured.toList).toArray := by apply Array.toList_inj.1; simp
    split at h
    · rename_i hnil
      cases h
      have h1 : first.toList = [] := (List.append_eq_nil_iff.1 hnil).1
      have h2 : captured.toList = [] := (List.append_eq_nil_iff.1 hnil).2
      rw [e1, e2, h1, h2]
      exact ⟨_, rfl, .p _ _ (.func _)⟩
    · cases h
      rw [e1, e2]
      exact ⟨_, rfl, .clo _ _ _ _ _ hfi hca⟩
  · cases h

end
end Go.Vc

/- VcH -/
namespace Go.Vc
set_option linter.unusedVariables false
set_option linter.unusedSimpArgs false

def Blk.size : Blk → Nat
  | .cells cs _ => cs.length
  | .bytes s _ => s.length
  | .iter _ _ => 1

def Blk.kd : Blk → Kd
  | .cells _ k => k
  | .bytes _ t => .ice t
  | .iter _ _ => .any

/-- Where frozen cells end, at most. -/
def Kd.lo : Kd → Nat → Nat
  | .ice _, n => n
  | _, _ => 0

/-- The cells of a block of the run's heap. -/
def InReg (g : Reg) (b : Blk) (r x : Nat) : Prop := g.blk = r ∧ g.off ≤ x ∧ (g.tail = true ∨ x < g.off + b.size)

def owned (regs : List Reg) (h : Heap) : Own := fun r x => ∃ (i : Nat) (g : Reg) (b : Blk), regs[i]? = some g ∧ h[i]? = some (some b) ∧ InReg g b r x

/-- What the run's heap owns, and what others do. -/
def tot (F : Own) (regs : List Reg) (h : Heap) : Own := fun r x => F r x ∨ owned regs h r x

def CellsOk (own : Own) (w : World) (regs : List Reg) (g : Reg) (cs : List EV) (k : Kd) : Prop :=
    (∃ e n, w.shape? g.blk = some (e, n) ∧ g.off + cs.length ≤ n ∧ ∀ x, g.off + k.lo cs.length ≤ x → x < n → (g.tail = true ∨ x < g.off + cs.length) → w.frozen? ⟨g.blk, x, none⟩ = false) ∧
      ∃ us, VEs own w regs cs us ∧ ∀ (j : Nat) u, us[j]? = some u → w.cell? ⟨g.blk, g.off + j, none⟩ = some u

def BlkOk (own : Own) (w : World) (regs : List Reg) (g : Reg) : Blk → Prop
  | .cells cs k => CellsOk own w regs g cs k
  | .bytes s t => CellsOk own w regs g (s.map byteEV) (.ice t) ∧ (∀ x ∈ s, x < 256) ∧ (g.tail = false → s = [])
  | .iter s pos => g.off = 0 ∧ g.tail = true ∧ ∃ b, w.heap[g.blk]? = some (.stringIter b pos) ∧ bytesOf b = s

/-- What a block's kind says. -/
def KdOk (w : World) (g : Reg) (len : Nat) : Kd → Prop
  | .any => True
  | .obj t => w.shape? g.blk = some (t, len) ∧ g.off = 0 ∧ g.tail = true
  | .row t => g.off = 0 ∧ g.tail = true ∧ ∃ n, w.shape? g.blk = some (t, n)
  | .ice t => g.tail = true → g.off = 0 ∧ ∃ C lo hi, w.heap[g.blk]? = some (.cells C t (lo, hi)) ∧ (lo = hi ∨ hi ≤ len)

structure HpOk (F : Own) (w : World) (regs : List Reg) (h : Heap) : Prop where
  len : regs.length = h.length
  blk : ∀ (i : Nat) (g : Reg) (b : Blk), regs[i]? = some g → h[i]? = some (some b) → BlkOk (tot F regs h) w regs g b
  dj : ∀ (i j : Nat) (g g' : Reg) (b b' : Blk), i ≠ j → regs[i]? = some g → regs[j]? = some g' → h[i]? = some (some b) → h[j]? = some (some b') → ∀ r x, InReg g b r x → ¬ InReg g' b' r x
  fr : ∀ (i : Nat) (g : Reg) (b : Blk), regs[i]? = some g → h[i]? = some (some b) → ∀ r x, InReg g b r x → ¬ F r x
  lt : ∀ r x, F r x → r < w.heap.size
  ty : ∀ (i : Nat) (g : Reg) (b : Blk), regs[i]? = some g → h[i]? = some (some b) → KdOk w g b.size b.kd

/-- The world is as it was, but for what is owned. -/
structure Keeps (own : Own) (w w' : World) : Prop where
  size : w.heap.size ≤ w'.heap.size
  cell : ∀ r x, r < w.heap.size → ¬ own r x → w'.cell? ⟨r, x, none⟩ = w.cell? ⟨r, x, none⟩
  frz : ∀ r x, r < w.heap.size → ¬ own r x → w'.frozen? ⟨r, x, none⟩ = w.frozen? ⟨r, x, none⟩
  shape : ∀ r, r < w.heap.size → w'.shape? r = w.shape? r
  obj : ∀ r, r < w.heap.size → (∀ x, ¬ own r x) → w'.heap[r]? = w.heap[r]?
  env : w'.os = w.os ∧ w'.output = w.output

/-- Ownership grows by what is new alone. -/
def Grow (w : World) (own own' : Own) : Prop := ∀ r x, own' r x → own r x ∨ w.heap.size ≤ r

theorem Keeps.refl (own : Own) (w : World) : Keeps own w w := ⟨Nat.le_refl _, fun _ _ _ _ => rfl, fun _ _ _ _ => rfl, fun _ _ => rfl, fun _ _ _ => rfl, rfl, rfl⟩
theorem Grow.refl (w : World) (own : Own) : Grow w own own := fun _ _ h => .inl h

theorem Keeps.trans {own own' : Own} {w w' w'' : World} (h : Keeps own w w') (g : Grow w own own') (h' : Keeps own' w' w'') : Keeps own w w'' := by
  have hs := h.size
  have no : ∀ r x, r < w.heap.size → ¬ own r x → ¬ own' r x := fun r x hr hn ho => by
    rcases g r x ho with h1 | h1
    · exact hn h1
    · omega
  exact ⟨Nat.le_trans h.size h'.size, fun r x hr hn => (h'.cell r x (by omega) (no r x hr hn)).trans (h.cell r x hr hn),
    fun r x hr hn => (h'.frz r x (by omega) (no r x hr hn)).trans (h.frz r x hr hn),
    fun r hr => (h'.shape r (by omega)).trans (h.shape r hr),
    fun r hr hn => (h'.obj r (by omega) (fun x => no r x hr (hn x))).trans (h.obj r hr hn), h'.env.1.trans h.env.1, h'.env.2.trans h.env.2⟩

theorem Grow.trans {own own' own'' : Own} {w w' : World} (hs : w.heap.size ≤ w'.heap.size) (g : Grow w own own') (g' : Grow w' own' own'') : Grow w own own'' := by
  intro r x h
  rcases g' r x h with h1 | h1
  · exact g r x h1
  · exact .inr (by omega)

theorem shape_lt {w : World} {r : Nat} {e n} (h : w.shape? r = some (e, n)) : r < w.heap.size := by
  unfold World.shape? at h
  rcases Nat.lt_or_ge r w.heap.size with h1 | h1
  · exact h1
  · rw [Array.getElem?_eq_none h1] at h; simp at h

theorem shape_cell {w : World} {r x : Nat} {e n} (h : w.shape? r = some (e, n)) (hx : x < n) : (w.cell? ⟨r, x, none⟩).isSome = true := by
  unfold World.shape? at h
  unfold World.cell?
  split at h
  · rename_i c e' f hb
    simp at h
    simp [hb, h.2, hx]
  · cases h

theorem cell_shape {w : World} {r x : Nat} {u} (h : w.cell? ⟨r, x, none⟩ = some u) : ∃ e n, w.shape? r = some (e, n) ∧ x < n := by
  unfold World.cell? at h
  unfold World.shape?
  split at h
  · rename_i c e' f hb
    simp at hb h
    obtain ⟨hx, _⟩ := Array.getElem?_eq_some_iff.1 h
    exact ⟨e', c.size, by simp [hb], hx⟩
  · cases h

theorem cell_lt {w : World} {r x : Nat} {u} (h : w.cell? ⟨r, x, none⟩ = some u) : r < w.heap.size := by
  obtain ⟨e, n, h, _⟩ := cell_shape h
  exact shape_lt h

/-- What a value's meaning needs of a change of the world. -/
structure Moves (own : Own) (w : World) (regs : List Reg) (own' : Own) (w' : World) (regs' : List Reg) : Prop where
  cell : ∀ r x u, ¬ own r x → w.cell? ⟨r, x, none⟩ = some u → w'.cell? ⟨r, x, none⟩ = some u ∧ ¬ own' r x
  size : w.heap.size ≤ w'.heap.size
  shape : ∀ r e n, w.shape? r = some (e, n) → w'.shape? r = some (e, n)
  regs : ∀ (i : Nat) g, regs[i]? = some g → regs'[i]? = some g

section
variable {own own' : Own} {w w' : World} {regs regs' : List Reg}

mutual
theorem VP.moves (m : Moves own w regs own' w' regs') {x : PV} {v : Value} (h : VP own w x v) : VP own' w' x v := by
  cases h with
  | bool => exact .bool _
  | int => exact .int _ _
  | str _ _ h => exact .str _ _ h
  | nilp => exact .nilp
  | nils => exact .nils
  | nili => exact .nili
  | nilf => exact .nilf
  | nilm => exact .nilm
  | glob => exact .glob _ _
  | lst n ps a c us hs hc h0 ha =>
    refine .lst n ps a c us (VPs.moves m hs) hc h0 (fun hn => ?_)
    obtain ⟨r, x, e, hr, hcell⟩ := ha hn
    exact ⟨r, x, e, Nat.lt_of_lt_of_le hr m.size, fun j u hu => m.cell _ _ _ (hcell j u hu).2 (hcell j u hu).1⟩
  | elem ps off us r x hs hr ha => exact .elem ps off us r x (VPs.moves m hs) (Nat.lt_of_lt_of_le hr m.size) (fun j u hu => m.cell _ _ _ (ha j u hu).2 (ha j u hu).1)
  | agg ps us hs => exact .agg ps us (VPs.moves m hs)
  | iface t x u h => exact .iface t x u (VP.moves m h)
  | func => exact .func _
theorem VPs.moves (m : Moves own w regs own' w' regs') {xs : List PV} {vs : List Value} (h : VPs own w xs vs) : VPs own' w' xs vs := by
  cases h with
  | nil => exact .nil
  | cons x u ps us h hs => exact .cons x u ps us (VP.moves m h) (VPs.moves m hs)
end

mutual
theorem VE.moves (m : Moves own w regs own' w' regs') {x : EV} {v : Value} (h : VE own w regs x v) : VE own' w' regs' x v := by
  cases h with
  | p x v h => exact .p x v (h.moves m)
  | kb => exact .kb _
  | ptr i off g hg => exact .ptr i off g (m.regs _ _ hg)
  | sl i off len esz g a c hg ht hc ha hf =>
    obtain ⟨e, n, h1, h2⟩ := hf
    exact .sl i off len esz g a c (m.regs _ _ hg) ht hc ha ⟨e, n, m.shape _ _ _ h1, h2⟩
  | agg es us hs => exact .agg es us (VEs.moves m hs)
  | tup es us hs => exact .tup es us (VEs.moves m hs)
  | iface t x u h => exact .iface t x u (VE.moves m h)
  | clo fn fs cs us vs hf hc => exact .clo fn fs cs us vs (VEs.moves m hf) (VEs.moves m hc)
  | it i g hg => exact .it i g (m.regs _ _ hg)
  | nsln i z g hg ht => exact .nsln i z g (m.regs _ _ hg) ht
  | nsl i len z g c hg ht hc h0 hf =>
    obtain ⟨e, n, h1, h2⟩ := hf
    exact .nsl i len z g c (m.regs _ _ hg) ht hc h0 ⟨e, n, m.shape _ _ _ h1, h2⟩
  | nptrn i g hg ht => exact .nptrn i g (m.regs _ _ hg) ht
  | nptr i g hg ht => exact .nptr i g (m.regs _ _ hg) ht
  | mptrn i off => exact .mptrn i off
  | mptr i off g hg => exact .mptr i off g (m.regs _ _ hg)
  | raw i n g c hg ht hc hf =>
    obtain ⟨e, N, h1, h2⟩ := hf
    exact .raw i n g c (m.regs _ _ hg) ht hc ⟨e, N, m.shape _ _ _ h1, h2⟩
  | und => exact .und _
theorem VEs.moves (m : Moves own w regs own' w' regs') {xs : List EV} {vs : List Value} (h : VEs own w regs xs vs) : VEs own' w' regs' xs vs := by
  cases h with
  | nil => exact .nil
  | cons x u ps us h hs => exact .cons x u ps us (VE.moves m h) (VEs.moves m hs)
end

theorem FrOk.moves (m : Moves own w regs own' w' regs') {fr : Fr} {a : Act} (h : FrOk own w regs fr a) : FrOk own' w' regs' fr a := fun t => (h t).moves m

theorem KdOk.keep (m : Moves own w regs own' w' regs') {g : Reg} {n : Nat} {k : Kd} (h : KdOk w g n k) (ho : g.off = 0 → g.tail = true → w'.heap[g.blk]? = w.heap[g.blk]?) : KdOk w' g n k := by
  cases k with
  | any => trivial
  | obj t => exact ⟨m.shape _ _ _ h.1, h.2⟩
  | row t =>
    obtain ⟨h0, h1, n, hn⟩ := h
    exact ⟨h0, h1, n, m.shape _ _ _ hn⟩
  | ice t =>
    intro ht
    obtain ⟨h0, C, lo, hi, hb, hl⟩ := h ht
    exact ⟨h0, C, lo, hi, by rw [ho h0 ht]; exact hb, hl⟩

/-- A change that keeps all but what is owned, with ownership that grows by new blocks alone. -/
theorem Moves.of_keeps {F : Own} {h h' : Heap} (k : Keeps (owned regs h) w w') (g : Grow w (owned regs h) (owned regs' h'))
    (hr : ∀ (i : Nat) g, regs[i]? = some g → regs'[i]? = some g) : Moves (tot F regs h) w regs (tot F regs' h') w' regs' where
  cell := fun r x u hn hc => by
    have hlt := cell_lt hc
    have hn1 : ¬ owned regs h r x := fun ho => hn (.inr ho)
    refine ⟨(k.cell r x hlt hn1).trans hc, fun ht => ?_⟩
    rcases ht with hF | ho
    · exact hn (.inl hF)
    · rcases g r x ho with h1 | h1
      · exact hn1 h1
      · omega
  size := k.size
  shape := fun r e n hs => (k.shape r (shape_lt hs)).trans hs
  regs := hr

end
end Go.Vc

/- VcI -/
namespace Go.Vc
set_option linter.unusedVariables false
set_option linter.unusedSimpArgs false

section
variable {F own own' : Own} {w w' : World} {regs regs' : List Reg} {H : Heap}

theorem BlkOk.lt {g : Reg} {b : Blk} (h : BlkOk own w regs g b) : g.blk < w.heap.size := by
  cases b with
  | cells cs ty => obtain ⟨⟨e, n, hs, _⟩, _⟩ := h; exact shape_lt hs
  | bytes s t => obtain ⟨⟨⟨e, n, hs, _⟩, _⟩, _⟩ := h; exact shape_lt hs
  | iter s p =>
    obtain ⟨_, _, b, hb, _⟩ := h
    rcases Nat.lt_or_ge g.blk w.heap.size with h1 | h1
    · exact h1
    · rw [Array.getElem?_eq_none h1] at hb; cases hb

theorem CellsOk.keep (m : Moves own w regs own' w' regs') {g : Reg} {cs : List EV} {ty : Kd} (h : CellsOk own w regs g cs ty)
    (hc : ∀ x, InReg g (.cells cs ty) g.blk x → w'.cell? ⟨g.blk, x, none⟩ = w.cell? ⟨g.blk, x, none⟩) (hf : ∀ x, InReg g (.cells cs ty) g.blk x → w'.frozen? ⟨g.blk, x, none⟩ = w.frozen? ⟨g.blk, x, none⟩) :
    CellsOk own' w' regs' g cs ty := by
  obtain ⟨⟨e, n, hs, hn, hz⟩, us, hus, hcell⟩ := h
  refine ⟨⟨e, n, m.shape _ _ _ hs, hn, fun x h1 h2 h3 => ?_⟩, us, hus.moves m, fun j u hj => ?_⟩
  · rw [hf x ⟨rfl, by omega, h3⟩]; exact hz x h1 h2 h3
  · have hl : j < cs.length := by
      rw [hus.len]
      rcases Nat.lt_or_ge j us.length with h1 | h1
      · exact h1
      · rw [List.getElem?_eq_none h1] at hj; cases hj
    rw [hc _ ⟨rfl, by omega, .inr (by show g.off + j < g.off + cs.length; omega)⟩]
    exact hcell j u hj

theorem BlkOk.keep (m : Moves own w regs own' w' regs') {g : Reg} {b : Blk} (h : BlkOk own w regs g b)
    (hc : ∀ x, InReg g b g.blk x → w'.cell? ⟨g.blk, x, none⟩ = w.cell? ⟨g.blk, x, none⟩) (hf : ∀ x, InReg g b g.blk x → w'.frozen? ⟨g.blk, x, none⟩ = w.frozen? ⟨g.blk, x, none⟩)
    (ho : g.off = 0 → g.tail = true → w'.heap[g.blk]? = w.heap[g.blk]?) : BlkOk own' w' regs' g b := by
  cases b with
  | cells cs ty => exact CellsOk.keep m h hc hf
  | bytes s t =>
    have e : ∀ x, InReg g (.cells (s.map byteEV) (.ice t)) g.blk x → InReg g (.bytes s t) g.blk x := fun x hx => ⟨hx.1, hx.2.1, by simpa [Blk.size] using hx.2.2⟩
    exact ⟨CellsOk.keep m h.1 (fun x hx => hc x (e x hx)) (fun x hx => hf x (e x hx)), h.2⟩
  | iter s p =>
    obtain ⟨h1, h2, b, hb, hs⟩ := h
    exact ⟨h1, h2, b, by rw [ho h1 h2]; exact hb, hs⟩

theorem get_append_old {α : Type} {l m : List α} {i : Nat} {x : α} (h : l[i]? = some x) : (l ++ m)[i]? = some x := by
  have : i < l.length := by
    rcases Nat.lt_or_ge i l.length with h1 | h1
    · exact h1
    · rw [List.getElem?_eq_none h1] at h; cases h
  rw [List.getElem?_append_left this]; exact h

theorem get_snoc {α : Type} {l : List α} {a : α} {i : Nat} {x : α} (h : (l ++ [a])[i]? = some x) : l[i]? = some x ∨ (i = l.length ∧ x = a) := by
  rcases Nat.lt_or_ge i l.length with h1 | h1
  · rw [List.getElem?_append_left h1] at h; exact .inl h
  · rw [List.getElem?_append_right h1] at h
    cases hi : i - l.length with
    | zero => rw [hi] at h; simp at h; exact .inr ⟨by omega, h.symm⟩
    | succ k => rw [hi] at h; simp at h

theorem push_old {w w' : World} {o : Obj} (hw : w'.heap = w.heap.push o) {r : Nat} (hr : r < w.heap.size) : w'.heap[r]? = w.heap[r]? := by
  rw [hw, Array.getElem?_push]; simp [Nat.ne_of_lt hr]

theorem Keeps.push {w w' : World} {o : Obj} (hw : w'.heap = w.heap.push o) (he : w'.os = w.os ∧ w'.output = w.output) (own : Own) : Keeps own w w' where
  size := by rw [hw]; simp
  cell := fun r x hr _ => by unfold World.cell?; simp only [push_old hw hr]
  frz := fun r x hr _ => by unfold World.frozen?; simp only [push_old hw hr]
  shape := fun r hr => by unfold World.shape?; simp only [push_old hw hr]
  obj := fun r hr _ => push_old hw hr
  env := he

theorem owned_push {b : Option Blk} {g : Reg} (hl : regs.length = H.length) (r x : Nat) : owned (regs ++ [g]) (H ++ [b]) r x ↔ owned regs H r x ∨ ∃ c, b = some c ∧ InReg g c r x := by
  constructor
  · rintro ⟨i, g', c, h1, h2, h3⟩
    rcases get_snoc h1 with h1 | ⟨h1, e1⟩
    · rcases get_snoc h2 with h2 | ⟨h2, e2⟩
      · exact .inl ⟨i, g', c, h1, h2, h3⟩
      · have : i < regs.length := by
          rcases Nat.lt_or_ge i regs.length with h4 | h4
          · exact h4
          · rw [List.getElem?_eq_none h4] at h1; cases h1
        omega
    · rcases get_snoc h2 with h2 | ⟨h2, e2⟩
      · have : i < H.length := by
          rcases Nat.lt_or_ge i H.length with h4 | h4
          · exact h4
          · rw [List.getElem?_eq_none h4] at h2; cases h2
        omega
      · subst e1; exact .inr ⟨c, e2.symm, h3⟩
  · rintro (⟨i, g', c, h1, h2, h3⟩ | ⟨c, rfl, h3⟩)
    · exact ⟨i, g', c, get_append_old h1, get_append_old h2, h3⟩
    · exact ⟨regs.length, g, c, by simp, by simp [hl], h3⟩

/-- A new block. -/
theorem HpOk.push (h : HpOk F w regs H) {o : Obj} (hw : w'.heap = w.heap.push o) {b : Blk}
    (hb : Moves (tot F regs H) w regs (tot F (regs ++ [⟨w.heap.size, 0, true⟩]) (H ++ [some b])) w' (regs ++ [⟨w.heap.size, 0, true⟩]) →
      BlkOk (tot F (regs ++ [⟨w.heap.size, 0, true⟩]) (H ++ [some b])) w' (regs ++ [⟨w.heap.size, 0, true⟩]) ⟨w.heap.size, 0, true⟩ b)
    (hty : KdOk w' ⟨w.heap.size, 0, true⟩ b.size b.kd) (he : w'.os = w.os ∧ w'.output = w.output := by exact ⟨rfl, rfl⟩) :
    HpOk F w' (regs ++ [⟨w.heap.size, 0, true⟩]) (H ++ [some b]) ∧ Keeps (owned regs H) w w' ∧
    Grow w (owned regs H) (owned (regs ++ [⟨w.heap.size, 0, true⟩]) (H ++ [some b])) ∧
    Moves (tot F regs H) w regs (tot F (regs ++ [⟨w.heap.size, 0, true⟩]) (H ++ [some b])) w' (regs ++ [⟨w.heap.size, 0, true⟩]) := by
  have hk := Keeps.push hw he (owned regs H)
  have hg : Grow w (owned regs H) (owned (regs ++ [⟨w.heap.size, 0, true⟩]) (H ++ [some b])) := by
    intro r x ho
    rcases (owned_push h.len r x).1 ho with h1 | ⟨c, _, h1⟩
    · exact .inl h1
    · exact .inr (by rw [← h1.1]; exact Nat.le_refl _)
  have hm := Moves.of_keeps (F := F) hk hg (fun i g hi => get_append_old hi)
  refine ⟨⟨by simp [h.len], fun i g c h1 h2 => ?_, fun i j g g' c c' hij h1 h2 h3 h4 r x hr hr' => ?_, fun i g c h1 h2 r x hr hF => ?_, fun r x hF => ?_, fun i g c h1 h2 => ?_⟩, hk, hg, hm⟩
  · rcases get_snoc h1 with h1 | ⟨h1, rfl⟩
    · rcases get_snoc h2 with h2 | ⟨h2, e2⟩
      · have hok := h.blk i g c h1 h2
        have hlt := hok.lt
        exact hok.keep hm (fun x hx => by unfold World.cell?; simp only [push_old hw hlt]) (fun x hx => by unfold World.frozen?; simp only [push_old hw hlt]) (fun _ _ => push_old hw hlt)
      · have : i < regs.length := (List.getElem?_eq_some_iff.1 h1).1
        have := h.len
        omega
    · rcases get_snoc h2 with h2 | ⟨h2, e2⟩
      · have : i < H.length := (List.getElem?_eq_some_iff.1 h2).1
        have := h.len
        omega
      · cases e2; exact hb hm
  · have old : ∀ i g c, regs[i]? = some g → H[i]? = some (some c) → InReg g c r x → r < w.heap.size := fun i g c h1 h2 h3 => by
      have := (h.blk i g c h1 h2).lt; rw [← h3.1]; exact this
    rcases get_snoc h1 with h1 | ⟨e1, rfl⟩ <;> rcases get_snoc h2 with h2 | ⟨e2, rfl⟩ <;> rcases get_snoc h3 with h3 | ⟨e3, h3'⟩ <;> rcases get_snoc h4 with h4 | ⟨e4, h4'⟩
    · exact h.dj i j g g' c c' hij h1 h2 h3 h4 r x hr hr'
    · have := (List.getElem?_eq_some_iff.1 h2).1; have := h.len; omega
    · have := (List.getElem?_eq_some_iff.1 h1).1; have := h.len; omega
    · have := (List.getElem?_eq_some_iff.1 h1).1; have := h.len; omega
    · have := (List.getElem?_eq_some_iff.1 h4).1; have := h.len; omega
    · have := old i g c h1 h3 hr; have e := hr'.1; simp at e; omega
    · have := (List.getElem?_eq_some_iff.1 h1).1; have := h.len; omega
    · have := (List.getElem?_eq_some_iff.1 h1).1; have := h.len; omega
    · have := (List.getElem?_eq_some_iff.1 h3).1; have := h.len; omega
    · have := (List.getElem?_eq_some_iff.1 h2).1; have := h.len; omega
    · have := old j g' c' h2 h4 hr'; have e := hr.1; simp at e; omega
    · have := (List.getElem?_eq_some_iff.1 h2).1; have := h.len; omega
    · omega
    · omega
    · omega
    · omega
  · rcases get_snoc h1 with h1 | ⟨e1, rfl⟩
    · rcases get_snoc h2 with h2 | ⟨e2, e2'⟩
      · exact h.fr i g c h1 h2 r x hr hF
      · have := (List.getElem?_eq_some_iff.1 h1).1; have := h.len; omega
    · have := h.lt r x hF; have e := hr.1; simp at e; omega
  · have := h.lt r x hF; rw [hw]; simp; omega
  · rcases get_snoc h1 with h1 | ⟨e1, rfl⟩
    · rcases get_snoc h2 with h2 | ⟨h2, e2⟩
      · exact (h.ty i g c h1 h2).keep hm (fun _ _ => push_old hw (h.blk i g _ h1 h2).lt)
      · have := (List.getElem?_eq_some_iff.1 h1).1; have := h.len; omega
    · rcases get_snoc h2 with h2 | ⟨h2, e2⟩
      · have := (List.getElem?_eq_some_iff.1 h2).1; have := h.len; omega
      · cases e2; exact hty

/-- A block given up. -/
theorem owned_kill {i : Nat} {r x : Nat} (h : owned regs (H.set i none) r x) : owned regs H r x := by
  obtain ⟨j, g, b, h1, h2, h3⟩ := h
  refine ⟨j, g, b, h1, ?_, h3⟩
  rw [List.getElem?_set] at h2
  split at h2
  · split at h2 <;> simp at h2
  · exact h2

theorem set_none_get {i j : Nat} {b : Blk} (h : (H.set i none)[j]? = some (some b)) : H[j]? = some (some b) ∧ j ≠ i := by
  rw [List.getElem?_set] at h
  split at h
  · split at h <;> simp at h
  · rename_i hne; exact ⟨h, fun e => hne e.symm⟩

theorem Moves.shrink {own own' : Own} (h : ∀ r x, own' r x → own r x) : Moves own w regs own' w regs :=
  ⟨fun r x _ hn hc => ⟨hc, fun ho => hn (h r x ho)⟩, Nat.le_refl _, fun _ _ _ h => h, fun _ _ h => h⟩

theorem Moves.kill (i : Nat) : Moves (tot F regs H) w regs (tot F regs (H.set i none)) w regs :=
  Moves.shrink fun _ _ h => h.imp id owned_kill

theorem HpOk.kill (h : HpOk F w regs H) (i : Nat) : HpOk F w regs (H.set i none) where
  len := by simp [h.len]
  blk := fun j g b h1 h2 => ((h.blk j g b h1 (set_none_get h2).1).keep (Moves.kill i) (fun _ _ => rfl) (fun _ _ => rfl) (fun _ _ => rfl))
  dj := fun j k g g' b b' hjk h1 h2 h3 h4 => h.dj j k g g' b b' hjk h1 h2 (set_none_get h3).1 (set_none_get h4).1
  fr := fun j g b h1 h2 => h.fr j g b h1 (set_none_get h2).1
  lt := h.lt
  ty := fun j g b h1 h2 => h.ty j g b h1 (set_none_get h2).1

theorem Moves.trans {o1 o2 o3 : Own} {w1 w2 w3 : World} {r1 r2 r3 : List Reg} (m : Moves o1 w1 r1 o2 w2 r2) (m' : Moves o2 w2 r2 o3 w3 r3) : Moves o1 w1 r1 o3 w3 r3 :=
  ⟨fun r x u hn hc => let ⟨h1, h2⟩ := m.cell r x u hn hc; m'.cell r x u h2 h1, Nat.le_trans m.size m'.size, fun r e n h => m'.shape r e n (m.shape r e n h), fun i g h => m'.regs i g (m.regs i g h)⟩

end
end Go.Vc
