/- Own texts of the proof, put together: VcQ. -/
import Derived.Test.YtibbjfmgglmkkaaDoorVcI
import Derived.Laws.AppendOwn
/- VcJ -/
namespace Go.Vc
set_option linter.unusedVariables false
set_option linter.unusedSimpArgs false

/-- A value known to be a constant keeps its truth in sight. -/
def pe : PV → EV
  | .bool b => .kb b
  | x => .p x

def zeroE (P : Program) (t : TypeId) : Option (List PV) :=
  match P.info? t with
  | some i => match i.zero with
    | some (.agg cs) => constPVs cs.toList
    | some v => (constPV v).map fun x => [x]
    | none => none
  | none => none

def setAll : List EV → Nat → List EV → List EV
  | cs, _, [] => cs
  | cs, off, v :: vs => setAll (cs.set off v) (off + 1) vs

def allCells : List EV → Bool
  | [] => true
  | v :: vs => isCell v && allCells vs

/-- The contents of global variables. -/
abbrev Glob := Nat → Option (List PV)

def cutP (ps : List PV) (off n : Nat) : List PV := (ps.drop off).take n

def loadE (P : Program) (G : Glob) (H : Heap) (t : TypeId) (x : EV) : VO :=
  match aggT P t, sizeT P t, x with
  | some false, _, .ptr i off => match H[i]? with
    | some (some (.cells cs _)) => match cs[off]? with
      | some v => some (v, none)
      | none => none
    | _ => none
  | some true, some n, .ptr i off => match H[i]? with
    | some (some (.cells cs _)) => some (mkAgg ((cs.drop off).take n), some (decide (off + n ≤ cs.length)))
    | _ => none
  | some false, _, .p (.elem ps off) => match ps[off]? with
    | some v => some (pe v, none)
    | none => none
  | some true, some n, .p (.elem ps off) => some (.p (.agg (cutP ps off n)), some (decide (off + n ≤ ps.length)))
  | some false, _, .p (.glob g off) => match G g with
    | some ps => match ps[off]? with
      | some v => some (pe v, none)
      | none => none
    | none => none
  | some true, some n, .p (.glob g off) => match G g with
    | some ps => some (.p (.agg (cutP ps off n)), some (decide (off + n ≤ ps.length)))
    | none => none
  | _, _, _ => none

def storeE (P : Program) (H : Heap) (t : TypeId) (x v : EV) : Option (Heap × Option Bool) :=
  match x, sizeT P t with
  | .ptr i off, some n => match H[i]? with
    | some (some (.cells cs ty)) =>
      match allCells (ecells v), Nat.beq (ecells v).length n, ty.soft with
      | true, true, true => some (H.set i (some (.cells (setAll cs off (ecells v)) ty)), some (decide (off + n ≤ cs.length)))
      | _, _, _ => none
    | _ => none
  | _, _ => none

/-- Parts laid over zero cells. -/
def fillE (place : Nat → Option (Nat × Nat)) (cs : List EV) : List (Nat × EV) → Option (List EV)
  | [] => some cs
  | (i, v) :: rest => match place i with
    | none => none
    | some (off, size) => match Nat.beq (ecells v).length size, Nat.ble (off + size) cs.length, allCells (ecells v) with
      | true, true, true => fillE place (setAll cs off (ecells v)) rest
      | _, _, _ => none

def placesE (P : Program) : List Field → Option (List (Nat × Nat))
  | [] => some []
  | f :: fs => match sizeT P f.type, placesE P fs with
    | some n, some r => some ((f.offset, n) :: r)
    | _, _ => none

def buildE (P : Program) (t : TypeId) (parts : List (Nat × EV)) : VO :=
  match zeroE P t, P.underlying t with
  | some z, some (.struct fs) => match placesE P fs.toList with
    | some pl => match fillE (pl[·]?) (z.map pe) parts with
      | some cs => some (mkAgg cs, none)
      | none => none
    | none => none
  | some z, some (.array _ e) => match sizeT P e with
    | some n => match fillE (fun i => some (i * n, n)) (z.map pe) parts with
      | some cs => some (mkAgg cs, none)
      | none => none
    | none => none
  | _, _ => none

def repE : Nat → List EV → List EV
  | 0, _ => []
  | n + 1, z => z ++ repE n z

def natList : List EV → Option (List Nat)
  | [] => some []
  | .p (.int .u8 n) :: r => match natList r with
    | some l => some (n.toNat % 256 :: l)
    | none => none
  | _ :: _ => none

def natListP : List PV → Option (List Nat)
  | [] => some []
  | .int .u8 n :: r => match natListP r with
    | some l => some (n.toNat % 256 :: l)
    | none => none
  | _ :: _ => none

/-- The cells that a slice shows, as far as it has a block or a list. -/
def sliceCells (H : Heap) (z : Nat) : EV → Option (List EV × Nat)
  | .p .nils => some ([], 0)
  | .p (.lst n ps) => some (ps.map .p, n)
  | .p (.str s) => match z with
    | 1 => some (s.map byteEV, s.length)
    | _ => none
  | .sl i off n z' => match Nat.beq z z', H[i]? with
    | true, some (some (.cells cs _)) => some ((cs.drop off).take (n * z), n)
    | _, _ => none
  | _ => none

def isSl : EV → Bool
  | .p .nils => true
  | .p (.lst _ _) => true
  | .sl _ _ _ _ => true
  | _ => false

/-- The kind of a row behind an append. -/
def rowKd (k : Kd) (e : TypeId) : Kd :=
  match k with
  | .row t => match Nat.beq t e with
    | true => .row t
    | false => .any
  | _ => .any

/-- append: the source is given up, a new block takes its place. -/
def appendE (P : Program) (H : Heap) (t : TypeId) (s x : EV) : Option (EV × Heap × Option Bool) :=
  match P.underlying t with
  | some (.slice e) => match P.info? e with
    | some info => match sliceCells H info.size x with
      | some (xs, n) => match Nat.ble 1 info.size, (zeroE P e).map fun z => Nat.beq z.length info.size with
        | true, some true => match s with
          | .p .nils => some (.sl H.length 0 n info.size, H ++ [some (.cells xs (.row e))],
              some (allCells xs && (decide (0 < n) && decide (xs.length = n * info.size)) && (decide ((n : Nat) * info.bytes ≤ 1099511627776) && decide (0 < info.bytes))))
          | .sl i 0 len z => match Nat.beq z info.size, H[i]? with
            | true, some (some (.cells cs k)) => match k.soft with
              | true => some (.sl H.length 0 (len + n) z, H.set i none ++ [some (.cells (cs ++ xs) (rowKd k e))],
                some (allCells xs && decide (xs.length = n * info.size) && decide (cs.length = len * z) && (decide ((len + n : Nat) * info.bytes ≤ 1099511627776) && decide (0 < info.bytes))))
              | false => none
            | _, _ => none
          | .nsl i len z => match Nat.beq z info.size, H[i]? with
            | true, some (some (.cells cs (.ice t'))) => match Nat.beq t' e with
              | true => some (.nsl H.length (len + n) z, H.set i none ++ [some (.cells (cs ++ xs) (.ice t'))],
                some (allCells xs && decide (xs.length = n * info.size) && decide (cs.length = len * z) && (decide ((len + n : Nat) * info.bytes ≤ 1099511627776) && decide (0 < info.bytes))))
              | false => none
            | _, _ => none
          | _ => none
        | _, _ => none
      | none => none
    | none => none
  | _ => none

/-- append of nothing. -/
def appendN (P : Program) (H : Heap) (t : TypeId) (s x : EV) : Option (EV × Heap × Option Bool) :=
  match P.underlying t with
  | some (.slice e) => match P.info? e with
    | some info => match sliceCells H info.size x with
      | some (xs, n) => match s with
        | .p .nils => some (.p .nils, H, some (decide (n = 0) && decide (xs.length = 0)))
        | .sl i off len z => some (.sl i off len z, H, some (decide (n = 0) && decide (xs.length = 0)))
        | _ => none
      | none => none
    | none => none
  | _ => none

def byteList : List EV → Option (List Nat × Bool)
  | [] => some ([], true)
  | .p (.int .u8 n) :: r => match byteList r with
    | some (l, b) => some (n.toNat :: l, decide (0 ≤ n) && decide (n < 256) && b)
    | none => none
  | _ :: _ => none

/-- The bytes that a string, or a short row of bytes, has. -/
def bytesE (H : Heap) : EV → Option (List Nat × Bool)
  | .p (.str s) => some (s, true)
  | .p .nils => some ([], true)
  | .sl i off n 1 => match H[i]? with
    | some (some (.cells cs _)) => match byteList ((cs.drop off).take n) with
      | some (l, b) => some (l, b && decide (l.length = n))
      | none => none
    | _ => none
  | _ => none

/-- append onto a row of bytes. -/
def appendB (P : Program) (H : Heap) (t : TypeId) (s x : EV) : Option (EV × Heap × Option Bool) :=
  match P.underlying t, s with
  | some (.slice e), .nsl i len 1 => match P.info? e, H[i]?, bytesE H x with
    | some info, some (some (.bytes l t')), some (m, b) => match Nat.beq info.size 1, Nat.beq info.bytes 1, Nat.beq t' e, (zeroE P e).map fun z => Nat.beq z.length 1 with
      | true, true, true, some true => some (.nsl H.length (l ++ m).length 1, H.set i none ++ [some (.bytes (l ++ m) t')],
          some (b && decide (len = l.length) && decide (l.length + m.length ≤ 1099511627776)))
      | _, _, _, _ => none
    | _, _, _ => none
  | _, _ => none

/-- A pointer as unsafe.Pointer, and back. -/
def unsafeE (P : Program) (H : Heap) (s d : TypeId) (x : EV) : Option (EV × Option Bool) :=
  match P.underlying s, P.underlying d, x with
  | some (.pointer t), some .unsafePointer, .ptr i off => match H[i]?, P.info? t with
    | some (some (.cells cs (.obj _))), some info => match Nat.blt 0 info.size with
      | true => some (.ptr i off, some (decide (off < cs.length)))
      | false => none
    | _, _ => none
  | some .unsafePointer, some (.pointer u), .ptr i off => match H[i]?, P.info? u with
    | some (some (.cells cs (.obj t))), some _ => some (.ptr i off, some (liesAt P P.depth t (cs.length / P.cellsOf t) off u 1))
    | _, _ => none
  | _, _, _ => none

/-- The string that a row of bytes is. -/
def ustrE (P : Program) (H : Heap) (pt : TypeId) (p n : EV) : Option (EV × Option Bool) :=
  match p, n, P.underlying pt with
  | .nptr i, .p (.int .i64 m), some (.pointer e) => match H[i]? with
    | some (some (.bytes s t)) => match Nat.beq t e, Nat.beq (P.cellsOf e) 1 with
      | true, true => some (.p (.str s), some (decide (m = (s.length : Nat)) && decide (s.length ≤ 1099511627776)))
      | _, _ => none
    | _ => none
  | _, _, _ => none

def contE (s : List Nat) (i k : Nat) : Bool := decide (i + k < s.length) && (s.getD (i + k) 0 / 64 == 2)

/-- The rune at an offset of a string, and how many bytes it has. -/
def decodeL (s : List Nat) (i : Nat) : Nat × Nat :=
  let b0 := s.getD i 0
  if b0 < 0x80 then (b0, 1)
  else if b0 / 32 == 6 && contE s i 1 then
    let c := (b0 % 32) * 64 + s.getD (i + 1) 0 % 64
    if c ≥ 0x80 then (c, 2) else (Utf8.runeError, 1)
  else if b0 / 16 == 14 && contE s i 1 && contE s i 2 then
    let c := (b0 % 16) * 4096 + (s.getD (i + 1) 0 % 64) * 64 + s.getD (i + 2) 0 % 64
    if c ≥ 0x800 && Utf8.valid c then (c, 3) else (Utf8.runeError, 1)
  else if b0 / 8 == 30 && contE s i 1 && contE s i 2 && contE s i 3 then
    let c := (b0 % 8) * 262144 + (s.getD (i + 1) 0 % 64) * 4096 + (s.getD (i + 2) 0 % 64) * 64 + s.getD (i + 3) 0 % 64
    if c ≥ 0x10000 && Utf8.valid c then (c, 4) else (Utf8.runeError, 1)
  else (Utf8.runeError, 1)

/-- The kind of a new row: an object where its length is its capacity. -/
def makeKd (l c : Operand) (e : TypeId) : Kd :=
  match l, c with
  | .tmp a, .tmp b => match Nat.beq a b with
    | true => .obj e
    | false => .any
  | _, _ => .any

/-- A part of an array behind a pointer. -/
def sliceA (P : Program) (H : Heap) (t : TypeId) (x : EV) (lo hi mx : Option EV) : Option (EV × Option Bool) :=
  match P.underlying t, x, mx, optInt lo, optInt hi with
  | some (.array n e), .ptr i off, none, some l, some h => match sizeT P e, H[i]? with
    | some z, some (some (.cells cs (.obj _))) =>
      some (.sl i (off + (l.getD 0).toNat * z) (hiOf h n - (l.getD 0).toNat) z, some ((match boundsOk n l h with | some b => b | none => true) && decide (off + n * z ≤ cs.length)))
    | _, _ => none
  | _, _, _, _, _ => none

def cellNat : EV → Nat
  | .p (.int _ n) => n.toNat
  | _ => 0

/-- The bytes of cells, where they are bytes. -/
def cellNats (cs : List EV) : List Nat := cs.map cellNat

def cellByte : EV → Bool
  | .p (.int .u8 n) => decide (0 ≤ n) && decide (n < 256)
  | _ => false

def isRow (k : Kd) (e : TypeId) : Bool :=
  match k with
  | .row t => Nat.beq t e
  | .obj t => Nat.beq t e
  | _ => false

/-- A row of cells as a string: the row is given up. -/
def ustrC (P : Program) (H : Heap) (pt : TypeId) (p n : EV) : Option (EV × Heap × Option Bool) :=
  match p, n, P.underlying pt with
  | .ptr i 0, .p (.int .i64 m), some (.pointer e) => match H[i]? with
    | some (some (.cells cs k)) => match isRow k e, Nat.beq (P.cellsOf e) 1 with
      | true, true => some (.p (.str (cellNats cs)), H.set i none, some (decide (m = (cs.length : Nat)) && decide (cs.length ≤ 1099511627776) && cs.all cellByte))
      | _, _ => none
    | _ => none
  | _, _, _ => none

/-- The operations that read, write or make memory. -/
def memE (P : Program) (G : Glob) (fr : Fr) (H : Heap) (o : Oper) (dec : Bool) : Option (EV × Heap × Option Bool) :=
  match o.op with
  | .load t x => match loadE P G H t (opnd fr x) with
    | some (v, ob) => some (v, H, ob)
    | none => none
  | .store t x v => match storeE P H t (opnd fr x) (opnd fr v) with
    | some (H', ob) => some (.und, H', ob)
    | none => none
  | .alloc t => match zeroE P t with
    | some z => some (.ptr H.length 0, H ++ [some (.cells (z.map pe) (.obj t))], none)
    | none => none
  | .box t x => match allCells (ecells (opnd fr x)) with
    | true => some (.ptr H.length 0, H ++ [some (.cells (ecells (opnd fr x)) (.obj t))], none)
    | false => none
  | .build t parts => match buildE P t (parts.toList.map fun (i, x) => (i, opnd fr x)) with
    | some (v, ob) => some (v, H, ob)
    | none => none
  | .buildSlice t len parts => match P.underlying t with
    | some (.slice e) => match sizeT P e, zeroE P e with
      | some n, some z => match fillE (fun i => some (i * n, n)) (repE len (z.map pe)) (parts.toList.map fun (i, x) => (i, opnd fr x)) with
        | some cs => match Nat.beq z.length n, Nat.ble (len * n) 16777216 with
          | true, true => some (.sl H.length 0 len n, H ++ [some (.cells cs .any)], none)
          | _, _ => none
        | none => none
      | _, _ => none
    | _ => none
  | .makeSlice t l c => match P.underlying t, opnd fr l, opnd fr c with
    | some (.slice e), .p (.int _ len), .p (.int _ cap) => match P.info? e, zeroE P e with
      | some info, some z => match Nat.beq z.length info.size with
        | true => some (.sl H.length 0 len.toNat info.size, H ++ [some (.cells (repE len.toNat (z.map pe)) (makeKd l c e))],
            some (decide (0 ≤ len) && decide (len ≤ cap) && decide (cap ≤ 1099511627776) && decide (cap * (info.bytes : Int) ≤ 1099511627776)))
        | false => none
      | _, _ => none
    | _, _, _ => none
  | .convert s d x => match P.underlying s, P.underlying d, opnd fr x with
    | some .string, some (.slice e), .p (.str b) => match P.underlying e with
      | some (.int .u8) => some (.sl H.length 0 b.length 1, H ++ [some (.cells (b.map byteEV) .any)], some (decide (b.length ≤ 1099511627776)))
      | _ => none
    | some (.slice e), some .string, x => match P.underlying e, (match isSl x with | true => sliceCells H 1 x | false => none) with
      | some (.int .u8), some (cs, n) => match natList cs with
        | some l => some (.p (.str l), H, some (decide (cs.length = n)))
        | none => none
      | _, _ => none
    | _, _, x => match unsafeE P H s d x with
      | some (v, ob) => some (v, H, ob)
      | none => none
  | .slice t x lo hi mx => match sliceA P H t (opnd fr x) (lo.map (opnd fr)) (hi.map (opnd fr)) (mx.map (opnd fr)) with
    | some (v, ob) => some (v, H, ob)
    | none => none
  | .range t x => match P.underlying t, opnd fr x with
    | some .string, .p (.str s) => some (.it H.length, H ++ [some (.iter s 0)], none)
    | _, _ => none
  | .next x true => match opnd fr x with
    | .it i => match H[i]? with
      | some (some (.iter s pos)) => match dec with
        | true => some (.tup [.kb true, .p (.int .i64 (pos : Int)), .p (.int .i32 ((decodeL s pos).1 : Int))], H.set i (some (.iter s (pos + (decodeL s pos).2))), some (decide (pos < s.length)))
        | false => some (.tup [.kb false], H, some (decide (s.length ≤ pos)))
      | _ => none
    | _ => none
  | .call { callee := .builtin .append, args := as_, argTypes := ts } => match as_.toList, ts.toList with
    | [s, x], [t, t2] => match dec with
      | true => match P.underlying t2, opnd fr s with
        | some (.slice _), .nsl i n z => appendB P H t (.nsl i n z) (opnd fr x)
        | some .string, .nsl i n z => appendB P H t (.nsl i n z) (opnd fr x)
        | some (.slice _), s => appendE P H t s (opnd fr x)
        | some .string, s => appendE P H t s (opnd fr x)
        | _, _ => none
      | false => match P.underlying t2 with
        | some (.slice _) => appendN P H t (opnd fr s) (opnd fr x)
        | some .string => appendN P H t (opnd fr s) (opnd fr x)
        | _ => none
    | _, _ => none
  | .call { callee := .builtin .unsafeSliceData, args := as_, argTypes := _ } => match as_.toList with
    | [x] => match opnd fr x with
      | .nsl i _ _ => some (.nptr i, H, none)
      | .sl i 0 n _ => some (.ptr i 0, H, some (decide (0 < n)))
      | _ => none
    | _ => none
  | .call { callee := .builtin .unsafeString, args := as_, argTypes := ts } => match as_.toList, ts.toList with
    | [p, n], [pt, _] => match ustrE P H pt (opnd fr p) (opnd fr n) with
      | some (v, ob) => some (v, H, ob)
      | none => ustrC P H pt (opnd fr p) (opnd fr n)
    | _, _ => none
  | .call { callee := .builtin .copy, args := as_, argTypes := ts } => match as_.toList, ts.toList with
    | [d, x], t :: _ => match P.underlying t, opnd fr d with
      | some (.slice e), .nsl i n z => match sizeT P e, opnd fr x with
        | some _, .p .nils => some (.p (.int .i64 0), H, none)
        | _, _ => none
      | some (.slice e), .sl i off n z => match sizeT P e, sliceCells H z (opnd fr x), H[i]? with
        | some z', some (xs, m), some (some (.cells cs ty)) => match Nat.beq z z', allCells xs, ty.soft with
          | true, true, true => some (.p (.int .i64 ((min m n : Nat) : Int)), H.set i (some (.cells (setAll cs off (xs.take ((min m n) * z))) ty)),
              some (decide (xs.length = m * z) && decide (off + n * z ≤ cs.length)))
          | _, _, _ => none
        | _, _, _ => none
      | _, _ => none
    | _, _ => none
  | _ => none

end Go.Vc

/- VcK -/
namespace Go.Vc
set_option linter.unusedVariables false
set_option linter.unusedSimpArgs false

section
variable {P : Program} {G : Glob} {F own : Own} {w w' : World} {regs : List Reg} {H : Heap}

theorem constPV_pe {x : PV} {v : Value} (h : VP own w x v) : VE own w regs (pe x) v := by
  cases x <;> try exact .p _ _ h
  cases h
  exact .kb _

theorem VEs.of_pe {ps us} (h : VPs own w ps us) : VEs own w regs (ps.map pe) us := by
  induction ps generalizing us with
  | nil => cases h; exact .nil
  | cons x ps ih => cases h with | cons _ _ _ _ h hs => exact .cons _ _ _ _ (constPV_pe h) (ih hs)

theorem isCell_one {v : EV} {u : Value} (h : isCell v = true) (hv : VE own w regs v u) : u.oneCell' = true := by
  cases hv with
  | p x v hv =>
    cases hv with
    | agg => simp [isCell] at h
    | _ => rfl
  | agg => simp [isCell] at h
  | tup => simp [isCell] at h
  | und => simp [isCell] at h
  | _ => rfl

theorem allCells_mem {vs : List EV} {us : List Value} (h : allCells vs = true) (hv : VEs own w regs vs us) : ∀ u ∈ us, u.oneCell' = true := by
  induction vs generalizing us with
  | nil => cases hv; simp
  | cons v vs ih =>
    cases hv with | cons _ u _ us hu hs =>
    simp only [allCells, Bool.and_eq_true] at h
    intro x hx
    rcases List.mem_cons.1 hx with rfl | hx
    · exact isCell_one h.1 hu
    · exact ih h.2 hs x hx

theorem one_cells {v : EV} {u : Value} (h : isCell v = true) (hv : VE own w regs v u) : u.cells.toList = [u] := by
  have := isCell_one h hv
  cases u <;> first | rfl | simp [Value.oneCell'] at this

/-- The cells of a value that can be stored. -/
theorem ecells_sound {v : EV} {u : Value} (h : allCells (ecells v) = true) (hv : VE own w regs v u) : VEs own w regs (ecells v) u.cells.toList := by
  cases hv with
  | p x v hv =>
    cases hv with
    | agg ps us hs => simpa [ecells, Value.cells] using VEs.of_p hs
    | _ => exact .cons _ _ _ _ (.p _ _ (by constructor <;> assumption)) .nil
  | agg es us hs => simpa [ecells, Value.cells] using hs
  | und => simp [ecells, allCells, isCell] at h
  | tup => simp [ecells, allCells, isCell] at h
  | kb => exact .cons _ _ _ _ (.kb _) .nil
  | ptr i off g hg => exact .cons _ _ _ _ (.ptr _ _ g hg) .nil
  | sl i off len esz g a c hg ht hc ha hf => exact .cons _ _ _ _ (.sl i off len esz g a c hg ht hc ha hf) .nil
  | iface t x u hx => exact .cons _ _ _ _ (.iface _ _ _ hx) .nil
  | clo fn fs cs us vs hf hc => exact .cons _ _ _ _ (.clo _ _ _ _ _ hf hc) .nil
  | it i g hg => exact .cons _ _ _ _ (.it _ g hg) .nil
  | nsln i z g hg ht => exact .cons _ _ _ _ (.nsln i z g hg ht) .nil
  | nsl i len z g c hg ht hc h0 hf => exact .cons _ _ _ _ (.nsl i len z g c hg ht hc h0 hf) .nil
  | nptrn i g hg ht => exact .cons _ _ _ _ (.nptrn i g hg ht) .nil
  | nptr i g hg ht => exact .cons _ _ _ _ (.nptr i g hg ht) .nil
  | mptrn i off => exact .cons _ _ _ _ (.mptrn i off) .nil
  | mptr i off g hg => exact .cons _ _ _ _ (.mptr i off g hg) .nil
  | raw i n g c hg ht hc hf => exact .cons _ _ _ _ (.raw i n g c hg ht hc hf) .nil

/-! ### one cell written -/

theorem setCell_other_block {a : Addr} {v : Value} {r : Nat} (h : r ≠ a.block) : (w.setCell a v).heap[r]? = w.heap[r]? := by
  unfold World.setCell
  simp only [Array.getElem?_modify]
  rw [if_neg (fun e => h e.symm)]

theorem setCell_shape {a : Addr} {v : Value} {r : Nat} : (w.setCell a v).shape? r = w.shape? r := by
  unfold World.shape? World.setCell
  simp only [Array.getElem?_modify]
  by_cases h : a.block = r
  · rw [if_pos h]
    cases hb : w.heap[r]? with
    | none => rfl
    | some o => cases o <;> simp <;> split <;> simp
  · rw [if_neg h]

theorem owned_set {i : Nat} {cs cs' : List EV} {ty : Kd} (hi : H[i]? = some (some (.cells cs ty))) (hl : cs'.length = cs.length) (r x : Nat) :
    owned regs (H.set i (some (.cells cs' ty))) r x ↔ owned regs H r x := by
  constructor
  · rintro ⟨j, g, b, h1, h2, h3⟩
    rw [List.getElem?_set] at h2
    split at h2
    · rename_i hij
      subst hij
      split at h2
      · cases h2
        exact ⟨i, g, _, h1, hi, h3.1, h3.2.1, by simpa [Blk.size, hl] using h3.2.2⟩
      · cases h2
    · exact ⟨j, g, b, h1, h2, h3⟩
  · rintro ⟨j, g, b, h1, h2, h3⟩
    by_cases hij : i = j
    · subst hij
      rw [hi] at h2
      cases h2
      refine ⟨i, g, .cells cs' ty, h1, ?_, h3.1, h3.2.1, by simpa [Blk.size, hl] using h3.2.2⟩
      rw [List.getElem?_set_self (List.getElem?_eq_some_iff.1 hi).1]
    · exact ⟨j, g, b, h1, by rw [List.getElem?_set_ne hij]; exact h2, h3⟩

theorem KdOk.setCell {a : Addr} {v : Value} {g : Reg} {n : Nat} {k : Kd} (h : KdOk w g n k) : KdOk (w.setCell a v) g n k := by
  cases k with
  | any => trivial
  | obj t => exact ⟨by rw [setCell_shape]; exact h.1, h.2⟩
  | row t =>
    obtain ⟨h0, h1, n, hn⟩ := h
    exact ⟨h0, h1, n, by rw [setCell_shape]; exact hn⟩
  | ice t =>
    intro ht
    obtain ⟨h0, C, lo, hi, hb, hl⟩ := h ht
    by_cases e : a.block = g.blk
    · refine ⟨h0, if a.spot.isSome then C else C.setIfInBounds a.off v, lo, hi, ?_, hl⟩
      unfold World.setCell
      simp only [Array.getElem?_modify, if_pos e, hb]
      rfl
    · exact ⟨h0, C, lo, hi, by rw [setCell_other_block (fun e' => e e'.symm)]; exact hb, hl⟩

/-- One cell of a block is written. -/
theorem HpOk.write1 (h : HpOk F w regs H) {i off : Nat} {g : Reg} {cs : List EV} {ty : Kd} {v : EV} {u : Value} (hi : H[i]? = some (some (.cells cs ty))) (hg : regs[i]? = some g) (ho : off < cs.length)
    (hv : VE (tot F regs H) w regs v u) :
    HpOk F (w.setCell ⟨g.blk, g.off + off, none⟩ u) regs (H.set i (some (.cells (cs.set off v) ty))) ∧ Keeps (owned regs H) w (w.setCell ⟨g.blk, g.off + off, none⟩ u) ∧
    Grow w (owned regs H) (owned regs (H.set i (some (.cells (cs.set off v) ty)))) ∧
    Moves (tot F regs H) w regs (tot F regs (H.set i (some (.cells (cs.set off v) ty)))) (w.setCell ⟨g.blk, g.off + off, none⟩ u) regs := by
  have how := fun r x => owned_set (regs := regs) (cs' := cs.set off v) hi (by simp) r x
  have hin : InReg g (.cells cs ty) g.blk (g.off + off) := ⟨rfl, by omega, .inr (by show g.off + off < g.off + cs.length; omega)⟩
  have hown : owned regs H g.blk (g.off + off) := ⟨i, g, _, hg, hi, hin⟩
  have hk : Keeps (owned regs H) w (w.setCell ⟨g.blk, g.off + off, none⟩ u) := by
    refine ⟨by simp, fun r x hr hn => World.cell?_setCell_other _ _ _ _ (fun e => ?_), fun r x hr hn => World.frozen?_setCell .., fun r hr => setCell_shape, fun r hr hn => ?_, rfl, rfl⟩
    · cases e; exact hn hown
    · exact setCell_other_block (fun e => by subst e; exact hn _ hown)
  have hgr : Grow w (owned regs H) (owned regs (H.set i (some (.cells (cs.set off v) ty)))) := fun r x hx => .inl ((how r x).1 hx)
  have hm := Moves.of_keeps (F := F) hk hgr (fun _ _ e => e)
  refine ⟨⟨by simp [h.len], fun j g' b h1 h2 => ?_, fun j k g1 g2 b1 b2 hjk h1 h2 h3 h4 r x hr1 hr2 => ?_, fun j g' b h1 h2 r x hr => ?_, fun r x hF => by simpa using h.lt r x hF, fun j g' b h1 h2 => ?_⟩, hk, hgr, hm⟩
  · by_cases hij : i = j
    · subst hij
      rw [hg] at h1
      cases h1
      rw [List.getElem?_set_self (List.getElem?_eq_some_iff.1 hi).1] at h2
      cases h2
      have hb := h.blk i g _ hg hi
      obtain ⟨⟨e, n, hs, hn, hz⟩, us, hus, hcell⟩ := hb
      refine ⟨⟨e, n, by rw [setCell_shape]; exact hs, by simpa using hn, fun x h1 h2 h3 => ?_⟩, us.set off u, ?_, fun j u' hj => ?_⟩
      · rw [World.frozen?_setCell]; exact hz x (by simpa using h1) h2 (by simpa using h3)
      · have h1 := hus.moves hm
        have h2 := hv.moves hm
        clear hcell hm hk hgr how hin hown ho
        generalize tot F regs (H.set i (some (.cells (cs.set off v) ty))) = own' at *
        generalize hw' : w.setCell ⟨g.blk, g.off + off, none⟩ u = w' at *
        clear hn hz hs
        have key : ∀ {cs us} (n : Nat), VEs own' w' regs cs us → VEs own' w' regs (cs.set n v) (us.set n u) := by
          intro cs us n hc
          induction n generalizing cs us with
          | zero => cases hc with
            | nil => exact .nil
            | cons _ _ _ _ hx hs => exact .cons _ _ _ _ h2 hs
          | succ n ih => cases hc with
            | nil => exact .nil
            | cons _ _ _ _ hx hs => exact .cons _ _ _ _ hx (ih hs)
        exact key off h1
      · rw [List.getElem?_set] at hj
        split at hj
        · rename_i hoj
          subst hoj
          split at hj
          · cases hj
            obtain ⟨u0, hu0⟩ := hus.get (List.getElem?_eq_getElem ho)
            exact World.cell?_setCell_same _ _ _ (hcell off u0 hu0.1)
          · cases hj
        · rename_i hne
          rw [World.cell?_setCell_other _ _ _ _ (by simp; omega)]
          exact hcell j u' hj
    · rw [List.getElem?_set_ne hij] at h2
      have hb := h.blk j g' b h1 h2
      have hnot : ∀ x, InReg g' b g'.blk x → (⟨g.blk, g.off + off, none⟩ : Addr) ≠ ⟨g'.blk, x, none⟩ := by
        intro x hx e
        have e1 : g.blk = g'.blk := congrArg Addr.block e
        have e2 : g.off + off = x := congrArg Addr.off e
        refine h.dj i j g g' _ b hij hg h1 hi h2 g.blk (g.off + off) hin ?_
        rw [e2, e1]; exact hx
      refine hb.keep hm (fun x hx => World.cell?_setCell_other _ _ _ _ (hnot x hx)) (fun x hx => World.frozen?_setCell ..) (fun h5 h6 => ?_)
      refine setCell_other_block (fun e => ?_)
      have e' : g'.blk = g.blk := e
      exact hnot (g.off + off) ⟨rfl, by omega, .inl h6⟩ (by rw [e'])
  · have old : ∀ (j : Nat) (g' : Reg) (b : Blk) (x : Nat), regs[j]? = some g' → (H.set i (some (.cells (cs.set off v) ty)))[j]? = some (some b) → InReg g' b r x → ∃ b', H[j]? = some (some b') ∧ InReg g' b' r x := by
      intro j g' b x h1 h2 h3
      rw [List.getElem?_set] at h2
      split at h2
      · rename_i e; subst e
        split at h2
        · cases h2; exact ⟨_, hi, h3.1, h3.2.1, by simpa [Blk.size] using h3.2.2⟩
        · cases h2
      · exact ⟨b, h2, h3⟩
    obtain ⟨c1, e1, r1⟩ := old j g1 b1 x h1 h3 hr1
    obtain ⟨c2, e2, r2⟩ := old k g2 b2 x h2 h4 hr2
    exact h.dj j k g1 g2 c1 c2 hjk h1 h2 e1 e2 r x r1 r2
  · rw [List.getElem?_set] at h2
    split at h2
    · rename_i e; subst e
      split at h2
      · cases h2; exact h.fr _ g' _ h1 hi r x ⟨hr.1, hr.2.1, by simpa [Blk.size] using hr.2.2⟩
      · cases h2
    · exact h.fr j g' b h1 h2 r x hr
  · rw [List.getElem?_set] at h2
    split at h2
    · rename_i e; subst e
      split at h2
      · cases h2
        have q := h.ty _ g' _ h1 hi
        simpa [Blk.size, Blk.kd] using q.setCell
      · cases h2
    · exact (h.ty j g' _ h1 h2).setCell

@[simp] theorem setAll_len (vs : List EV) : ∀ (cs : List EV) (off : Nat), (setAll cs off vs).length = cs.length := by
  induction vs with
  | nil => intro cs off; rfl
  | cons v vs ih => intro cs off; simp [setAll, ih]

/-- Cells of a block are written, one by one. -/
theorem HpOk.write (vs : List EV) : ∀ (us : List Value) (w : World) (H : Heap) (cs : List EV) (ty : Kd) (off i : Nat) (g : Reg), HpOk F w regs H → H[i]? = some (some (.cells cs ty)) → regs[i]? = some g →
    off + vs.length ≤ cs.length → VEs (tot F regs H) w regs vs us →
    HpOk F (w.setCells g.blk (g.off + off) us) regs (H.set i (some (.cells (setAll cs off vs) ty))) ∧ Keeps (owned regs H) w (w.setCells g.blk (g.off + off) us) ∧
    Grow w (owned regs H) (owned regs (H.set i (some (.cells (setAll cs off vs) ty)))) ∧
    Moves (tot F regs H) w regs (tot F regs (H.set i (some (.cells (setAll cs off vs) ty)))) (w.setCells g.blk (g.off + off) us) regs := by
  induction vs with
  | nil =>
    intro us w H cs ty off i g h hi hg ho hv
    cases hv
    have e : H.set i (some (.cells (setAll cs off []) ty)) = H := by
      apply List.ext_getElem?
      intro j
      rw [List.getElem?_set]
      split
      · rename_i e; subst e; rw [hi]; simp [setAll, (List.getElem?_eq_some_iff.1 hi).1]
      · rfl
    rw [e]
    exact ⟨h, .refl _ _, .refl _ _, Moves.shrink fun _ _ h => h⟩
  | cons v vs ih =>
    intro us w H cs ty off i g h hi hg ho hv
    cases hv with | cons _ u _ us hu hs =>
    simp only [List.length_cons] at ho
    obtain ⟨a1, a2, a3, a4⟩ := h.write1 hi hg (off := off) (by omega) hu
    have hi' : (H.set i (some (Blk.cells (cs.set off v) ty)))[i]? = some (some (.cells (cs.set off v) ty)) := List.getElem?_set_self (List.getElem?_eq_some_iff.1 hi).1
    obtain ⟨b1, b2, b3, b4⟩ := ih us _ _ (cs.set off v) ty (off + 1) i g a1 hi' hg (by simp; omega) (hs.moves a4)
    rw [List.set_set] at b1 b3 b4
    simp only [setAll, World.setCells]
    rw [← Nat.add_assoc] at b1 b2 b4
    exact ⟨b1, a2.trans a3 b2, a3.trans a2.size b3, a4.trans b4⟩

end
end Go.Vc

/- VcL -/
namespace Go.Vc
set_option linter.unusedVariables false
set_option linter.unusedSimpArgs false

/-- The contents of global variables, in a world. -/
def GlOk (G : Glob) (own : Own) (w : World) : Prop :=
  ∀ g ps, G g = some ps → g < w.heap.size ∧ ∃ us, VPs own w ps us ∧ (∀ (j : Nat) u, us[j]? = some u → w.cell? ⟨g, j, none⟩ = some u ∧ ¬ own g j) ∧ ∃ e, w.shape? g = some (e, us.length)

section
variable {P : Program} {G : Glob} {F own : Own} {w w' : World} {regs : List Reg} {H : Heap}

theorem GlOk.moves {own' : Own} {regs' : List Reg} (m : Moves own w regs own' w' regs') (h : GlOk G own w) : GlOk G own' w' := by
  intro g ps hg
  obtain ⟨hl, us, hs, hc, e, he⟩ := h g ps hg
  exact ⟨Nat.lt_of_lt_of_le hl m.size, us, hs.moves m, fun j u hj => m.cell _ _ _ (hc j u hj).2 (hc j u hj).1, e, m.shape _ _ _ he⟩

theorem load_one {r x : Nat} {u : Value} (h : w.cell? ⟨r, x, none⟩ = some u) : (load ⟨r, x, none⟩).run P w = .ok u w := by simp [h]

theorem load_agg {t : TypeId} {r x n : Nat} {us : List Value} (ha : aggT P t = some true) (hz : sizeT P t = some n) (hl : us.length = n)
    (h : ∀ (j : Nat) u, us[j]? = some u → w.cell? ⟨r, x + j, none⟩ = some u) : (Instr.loadAt t (.pointer (some ⟨r, x, none⟩))).run P w = .ok (.agg us.toArray) w := by
  subst hl
  have := run_loadCells_list (P := P) w ⟨r, x, none⟩ us (fun j v hj => by rw [addr_add]; exact h j v hj)
  simp only [Instr.loadAt, Instr.sureAddr, Sem.run_bind, Sem.run_pure, Result.andThen_ok, loadVar, agg_of ha, if_true, size_of hz, this]

theorem load_plain {t : TypeId} {r x : Nat} {u : Value} (ha : aggT P t = some false) (h : w.cell? ⟨r, x, none⟩ = some u) :
    (Instr.loadAt t (.pointer (some ⟨r, x, none⟩))).run P w = .ok u w := by
  have h1 := load_one (P := P) h
  simp only [Instr.loadAt, Instr.sureAddr, Sem.run_bind, Sem.run_pure, Result.andThen_ok, loadVar, agg_of ha, Bool.false_eq_true, if_false]
  exact h1

theorem VPs.cut {ps : List PV} {us : List Value} (h : VPs own w ps us) (off n : Nat) : VPs own w (cutP ps off n) ((us.drop off).take n) := (h.drop off).take n

theorem getElem?_cut {us : List Value} {off n j : Nat} {u : Value} (h : ((us.drop off).take n)[j]? = some u) : us[off + j]? = some u := by
  rw [List.getElem?_take] at h
  split at h
  · rw [List.getElem?_drop] at h; exact h
  · cases h

theorem loadE_sound {t : TypeId} {x : EV} {ux : Value} {v : EV} {ob : Option Bool} (h : loadE P G H t x = some (v, ob)) (hm : Met ob) (hh : HpOk F w regs H) (hG : GlOk G (tot F regs H) w)
    (hx : VE (tot F regs H) w regs x ux) : Gives P (tot F regs H) w regs (Instr.loadAt t ux) v := by
  unfold loadE at h
  split at h
  · rename_i z i off ha
    split at h
    · rename_i cs ty hi
      split at h
      · rename_i v' hv
        cases h
        cases hx with | ptr _ _ g hg =>
        obtain ⟨_, us, hus, hc⟩ := hh.blk i g _ hg hi
        obtain ⟨u, hu, hvu⟩ := hus.get hv
        refine ⟨u, load_plain ha (hc off u hu), hvu⟩
      · cases h
    · cases h
  · rename_i n i off ha hz
    split at h
    · rename_i cs ty hi
      cases h
      have hlen := hm.some
      simp only [decide_eq_true_eq] at hlen
      cases hx with | ptr _ _ g hg =>
      obtain ⟨_, us, hus, hc⟩ := hh.blk i g _ hg hi
      have hl := hus.len
      refine ⟨_, load_agg ha hz (us := (us.drop off).take n) (by simp; omega) (fun j u hj => ?_), mkAgg_sound ((hus.drop off).take n)⟩
      have := hc _ _ (getElem?_cut hj)
      rwa [← Nat.add_assoc] at this
    · cases h
  · rename_i z ps off ha
    split at h
    · rename_i v' hv
      cases h
      cases hx with | p _ _ hx => cases hx with | elem _ _ us r y hs hr hc =>
      obtain ⟨u, hu, hvu⟩ := hs.get hv
      exact ⟨u, load_plain ha (hc off u hu).1, constPV_pe hvu⟩
    · cases h
  · rename_i n ps off ha hz
    cases h
    have hlen := hm.some
    simp only [decide_eq_true_eq] at hlen
    cases hx with | p _ _ hx => cases hx with | elem _ _ us r y hs hr hc =>
    have hl := hs.len
    refine ⟨_, load_agg ha hz (us := (us.drop off).take n) (by simp; omega) (fun j u hj => ?_), .p _ _ (.agg _ _ (hs.cut off n))⟩
    have := (hc _ _ (getElem?_cut hj)).1
    rwa [← Nat.add_assoc] at this
  · rename_i z g off ha
    split at h
    · rename_i ps hg
      split at h
      · rename_i v' hv
        cases h
        cases hx with | p _ _ hx =>
        cases hx
        obtain ⟨_, us, hs, hc, _⟩ := hG g ps hg
        obtain ⟨u, hu, hvu⟩ := hs.get hv
        exact ⟨u, load_plain ha (hc off u hu).1, constPV_pe hvu⟩
      · cases h
    · cases h
  · rename_i n g off ha hz
    split at h
    · rename_i ps hg
      cases h
      have hlen := hm.some
      simp only [decide_eq_true_eq] at hlen
      cases hx with | p _ _ hx =>
      cases hx
      obtain ⟨_, us, hs, hc, _⟩ := hG g ps hg
      have hl := hs.len
      exact ⟨_, load_agg ha hz (us := (us.drop off).take n) (by simp; omega) (fun j u hj => (hc _ _ (getElem?_cut hj)).1), .p _ _ (.agg _ _ (hs.cut off n))⟩
    · cases h
  · cases h

/-- What a step that may change memory does. -/
structure StepOk (F : Own) (w : World) (regs : List Reg) (H : Heap) (v : EV) (H' : Heap) (u : Value) (w' : World) (regs' : List Reg) : Prop where
  hp : HpOk F w' regs' H'
  ext : ∃ more, regs' = regs ++ more
  val : VE (tot F regs' H') w' regs' v u
  mv : Moves (tot F regs H) w regs (tot F regs' H') w' regs'
  kp : Keeps (owned regs H) w w'
  gr : Grow w (owned regs H) (owned regs' H')

theorem StepOk.same {v : EV} {u : Value} (h : HpOk F w regs H) (hv : VE (tot F regs H) w regs v u) : StepOk F w regs H v H u w regs :=
  ⟨h, ⟨[], by simp⟩, hv, Moves.shrink fun _ _ h => h, .refl _ _, .refl _ _⟩

theorem setCells_frozen_ok {i : Nat} {g : Reg} {cs : List EV} {ty : Kd} {off n : Nat} (h : HpOk F w regs H) (hi : H[i]? = some (some (.cells cs ty))) (hg : regs[i]? = some g) (hl : off + n ≤ cs.length) (hk : ty.soft = true) :
    (∀ j, j < n → (w.cell? ⟨g.blk, g.off + off + j, none⟩).isSome = true) ∧ (∀ j, j < n → w.frozen? ⟨g.blk, g.off + off + j, none⟩ = false) := by
  obtain ⟨⟨e, N, hs, hn, hz⟩, _⟩ := h.blk i g _ hg hi
  have h0 : ty.lo cs.length = 0 := by cases ty <;> first | rfl | cases hk
  exact ⟨fun j hj => shape_cell hs (by omega), fun j hj => hz _ (by omega) (by omega) (.inr (by omega))⟩

theorem storeE_sound {t : TypeId} {x v : EV} {ux uv : Value} {H' : Heap} {ob : Option Bool} (h : storeE P H t x v = some (H', ob)) (hm : Met ob) (hh : HpOk F w regs H)
    (hx : VE (tot F regs H) w regs x ux) (hv : VE (tot F regs H) w regs v uv) :
    ∃ w', (Instr.storeAt t ux uv).run P w = .ok () w' ∧ StepOk F w regs H .und H' undef w' regs := by
  unfold storeE at h
  split at h
  · rename_i i off n hz
    split at h
    · rename_i cs ty hi
      split at h
      · rename_i hall hlen hsoft
        cases h
        have hl := hm.some
        simp only [decide_eq_true_eq] at hl
        have hlen' : (ecells v).length = n := Nat.eq_of_beq_eq_true hlen
        cases hx with | ptr _ _ g hg =>
        have hvs := ecells_sound hall hv
        have hul : uv.cells.toList.length = n := by rw [← hvs.len]; exact hlen'
        obtain ⟨hc, hf⟩ := setCells_frozen_ok hh hi hg hl hsoft
        obtain ⟨b1, b2, b3, b4⟩ := HpOk.write (ecells v) uv.cells.toList w H cs ty off i g hh hi hg (by omega) hvs
        refine ⟨_, ?_, b1, ⟨[], by simp⟩, .und _, b4, b2, b3⟩
        have hst := run_storeCells_cells (P := P) g.blk (g.off + off) uv.cells.toList 0 w (fun j hj => by simpa using hc j (by omega)) (fun j hj => by simpa using hf j (by omega)) (allCells_mem hall hvs)
        have hne : ¬ (uv.cells.size ≠ n) := by simp; simpa using hul
        simp only [Instr.storeAt, Instr.sureAddr, Sem.run_bind, Sem.run_pure, Result.andThen_ok, storeVar, size_of hz]
        rw [if_neg hne]
        simpa using hst
      · cases h
    · cases h
  · cases h

end
end Go.Vc

/- VcM -/
namespace Go.Vc
set_option linter.unusedVariables false
set_option linter.unusedSimpArgs false

section
variable {P : Program} {G : Glob} {F own : Own} {w w' : World} {regs : List Reg} {H : Heap}

theorem zeroE_sound {t : TypeId} {z : List PV} (h : zeroE P t = some z) : ∃ v, (zeroValue t).run P w = .ok v w ∧ VPs own w z v.cells.toList ∧ (∃ i, P.info? t = some i ∧ i.zero = some v) := by
  unfold zeroE at h
  split at h
  · rename_i i hi
    have hrun : ∀ v, i.zero = some v → (zeroValue t).run P w = .ok v w := fun v hv => by simp [zeroValue, typeInfo, hi, hv]
    split at h
    · rename_i cs hz
      exact ⟨_, hrun _ hz, constPVs_sound h, i, hi, hz⟩
    · rename_i v hna hz
      cases hc : constPV v with
      | none => simp [hc] at h
      | some x =>
        simp [hc] at h; subst h
        have hcell : v.cells = #[v] := by
          cases v <;> first | rfl | (rename_i cs; exact (hna cs rfl).elim)
        exact ⟨v, hrun _ hz, by rw [hcell]; exact .cons _ _ _ _ (constPV_sound hc) .nil, i, hi, hz⟩
    · cases h
  · cases h

theorem shape_push {w w' : World} {C : Array Value} {e : TypeId} {fz : Nat × Nat} (hw : w'.heap = w.heap.push (.cells C e fz)) : w'.shape? w.heap.size = some (e, C.size) := by
  unfold World.shape?; rw [hw]; simp

/-- A new row of cells, of which the run sees the first. -/
theorem HpOk.cells (h : HpOk F w regs H) (ty : Kd) {C : Array Value} {e : TypeId} {fz : Nat × Nat} {cs : List EV} {us : List Value} (hw : w'.heap = w.heap.push (.cells C e fz))
    (hfz : fz = (0, 0) ∨ C.size ≤ fz.1) (hus : VEs (tot F regs H) w regs cs us) (hC : ∀ (j : Nat) u, us[j]? = some u → C[j]? = some u) (hl : cs.length ≤ C.size) (hty : KdOk w' ⟨w.heap.size, 0, true⟩ cs.length ty) (he : w'.os = w.os ∧ w'.output = w.output := by exact ⟨rfl, rfl⟩) :
    HpOk F w' (regs ++ [⟨w.heap.size, 0, true⟩]) (H ++ [some (.cells cs ty)]) ∧ Keeps (owned regs H) w w' ∧
    Grow w (owned regs H) (owned (regs ++ [⟨w.heap.size, 0, true⟩]) (H ++ [some (.cells cs ty)])) ∧
    Moves (tot F regs H) w regs (tot F (regs ++ [⟨w.heap.size, 0, true⟩]) (H ++ [some (.cells cs ty)])) w' (regs ++ [⟨w.heap.size, 0, true⟩]) := by
  refine h.push hw (fun hm => ⟨⟨e, C.size, shape_push hw, by simpa using hl, fun x _ hx _ => ?_⟩, us, hus.moves hm, fun j u hj => ?_⟩) hty he
  · unfold World.frozen?
    rw [hw]
    simp
    rcases hfz with rfl | h1
    · simp
    · intro h2; omega
  · unfold World.cell?
    rw [hw]
    simp [hC j u hj]

theorem get_last {g : Reg} (h : regs.length = H.length) : (regs ++ [g])[H.length]? = some g := by simp [← h]

/-- A pointer to a new variable. -/
theorem StepOk.newVar (h : HpOk F w regs H) {C : Array Value} {e : TypeId} {cs : List EV} (hw : w'.heap = w.heap.push (.cells C e)) (hus : VEs (tot F regs H) w regs cs C.toList) (he : w'.os = w.os ∧ w'.output = w.output := by exact ⟨rfl, rfl⟩) :
    StepOk F w regs H (.ptr H.length 0) (H ++ [some (.cells cs (.obj e))]) (.pointer (some ⟨w.heap.size, 0, none⟩)) w' (regs ++ [⟨w.heap.size, 0, true⟩]) := by
  obtain ⟨a, b, c, d⟩ := h.cells (.obj e) hw (.inl rfl) hus (fun j u hj => by simpa using hj) (by have := hus.len; simp at this; omega) ⟨by rw [shape_push hw]; have := hus.len; simp at this; rw [this], rfl, rfl⟩ he
  exact ⟨a, ⟨_, rfl⟩, .ptr _ 0 _ (get_last h.len), d, b, c⟩

/-- A slice over a new row. -/
theorem StepOk.newSliceK (h : HpOk F w regs H) (kd : Kd) {C : Array Value} {e : TypeId} {fz : Nat × Nat} {cs : List EV} {us : List Value} {n c z : Nat} (hw : w'.heap = w.heap.push (.cells C e fz))
    (hfz : fz = (0, 0) ∨ C.size ≤ fz.1) (hus : VEs (tot F regs H) w regs cs us) (hC : ∀ (j : Nat) u, us[j]? = some u → C[j]? = some u) (hl : cs.length ≤ C.size) (hn : n ≤ c) (hc : c * z ≤ C.size) (hkd : KdOk w' ⟨w.heap.size, 0, true⟩ cs.length kd) (he : w'.os = w.os ∧ w'.output = w.output := by exact ⟨rfl, rfl⟩) :
    StepOk F w regs H (.sl H.length 0 n z) (H ++ [some (.cells cs kd)]) (.slice (some ⟨w.heap.size, 0, none⟩) n c) w' (regs ++ [⟨w.heap.size, 0, true⟩]) := by
  obtain ⟨a, b, d, m⟩ := h.cells kd hw hfz hus hC hl hkd he
  exact ⟨a, ⟨_, rfl⟩, .sl _ 0 _ _ _ _ _ (get_last h.len) rfl hn (fun _ => rfl) ⟨e, C.size, shape_push hw, by simpa using hc⟩, m, b, d⟩

theorem StepOk.newSlice (h : HpOk F w regs H) {C : Array Value} {e : TypeId} {fz : Nat × Nat} {cs : List EV} {us : List Value} {n c z : Nat} (hw : w'.heap = w.heap.push (.cells C e fz))
    (hfz : fz = (0, 0) ∨ C.size ≤ fz.1) (hus : VEs (tot F regs H) w regs cs us) (hC : ∀ (j : Nat) u, us[j]? = some u → C[j]? = some u) (hl : cs.length ≤ C.size) (hn : n ≤ c) (hc : c * z ≤ C.size) (he : w'.os = w.os ∧ w'.output = w.output := by exact ⟨rfl, rfl⟩) :
    StepOk F w regs H (.sl H.length 0 n z) (H ++ [some (.cells cs .any)]) (.slice (some ⟨w.heap.size, 0, none⟩) n c) w' (regs ++ [⟨w.heap.size, 0, true⟩]) :=
  StepOk.newSliceK h .any hw hfz hus hC hl hn hc trivial he

/-- A slice over a new row, that may come to hold frozen cells. -/
theorem StepOk.newNsl (h : HpOk F w regs H) {C : Array Value} {e : TypeId} {cs : List EV} {us : List Value} {n c z : Nat} (hw : w'.heap = w.heap.push (.cells C e (0, 0)))
    (hus : VEs (tot F regs H) w regs cs us) (hC : ∀ (j : Nat) u, us[j]? = some u → C[j]? = some u) (hl : cs.length ≤ C.size) (hn : n ≤ c) (h0 : 0 < c) (hc : c * z ≤ C.size) (he : w'.os = w.os ∧ w'.output = w.output := by exact ⟨rfl, rfl⟩) :
    StepOk F w regs H (.nsl H.length n z) (H ++ [some (.cells cs (.ice e))]) (.slice (some ⟨w.heap.size, 0, none⟩) n c) w' (regs ++ [⟨w.heap.size, 0, true⟩]) := by
  obtain ⟨a, b, d, m⟩ := h.cells (.ice e) hw (.inl rfl) hus hC hl (fun _ => ⟨rfl, C, 0, 0, by rw [hw]; simp, .inl rfl⟩) he
  exact ⟨a, ⟨_, rfl⟩, .nsl _ _ _ ⟨w.heap.size, 0, true⟩ _ (get_last h.len) rfl hn h0 ⟨e, C.size, shape_push hw, by simpa using hc⟩, m, b, d⟩

/-! ### parts laid over zeros -/

def setAllV : List Value → Nat → List Value → List Value
  | cs, _, [] => cs
  | cs, off, v :: vs => setAllV (cs.set off v) (off + 1) vs

theorem VEs.set {cs us} (h : VEs own w regs cs us) {v u} (hv : VE own w regs v u) (n : Nat) : VEs own w regs (cs.set n v) (us.set n u) := by
  induction n generalizing cs us with
  | zero => cases h with
    | nil => exact .nil
    | cons _ _ _ _ hx hs => exact .cons _ _ _ _ hv hs
  | succ n ih => cases h with
    | nil => exact .nil
    | cons _ _ _ _ hx hs => exact .cons _ _ _ _ hx (ih hs)

theorem VEs.setAll {vs vus} (hv : VEs own w regs vs vus) : ∀ {cs us} (off : Nat), VEs own w regs cs us → VEs own w regs (setAll cs off vs) (setAllV us off vus) := by
  induction vs generalizing vus with
  | nil => intro cs us off h; cases hv; exact h
  | cons v vs ih =>
    intro cs us off h
    cases hv with | cons _ _ _ _ hx hs => exact ih hs (off + 1) (h.set hx off)

theorem foldl_set (vs : List Value) : ∀ (k off : Nat) (cs : Array Value), ((vs.zipIdx k).foldl (fun cs (p : Value × Nat) => cs.setIfInBounds (off + p.2) p.1) cs).toList = setAllV cs.toList (off + k) vs := by
  induction vs with
  | nil => intro k off cs; rfl
  | cons v vs ih =>
    intro k off cs
    simp only [List.zipIdx_cons, List.foldl_cons, setAllV]
    rw [ih (k + 1) off _]
    simp [Nat.add_assoc]

theorem fill_sound {place : Nat → Option (Nat × Nat)} {parts : List (Nat × EV)} {uparts : List (Nat × Value)} : ∀ {cs r : List EV} {C : Array Value}, fillE place cs parts = some r →
    VEs own w regs cs C.toList → (parts.length = uparts.length ∧ ∀ (j : Nat) i v, parts[j]? = some (i, v) → ∃ u, uparts[j]? = some (i, u) ∧ VE own w regs v u) →
    ∃ R, Instr.fill place C uparts = some R ∧ VEs own w regs r R.toList := by
  induction parts generalizing uparts with
  | nil =>
    intro cs r C h hc hp
    have : uparts = [] := List.eq_nil_of_length_eq_zero (by simpa using hp.1.symm)
    subst this
    cases h
    exact ⟨C, rfl, hc⟩
  | cons p parts ih =>
    intro cs r C h hc hp
    obtain ⟨i, v⟩ := p
    cases uparts with
    | nil => simp at hp
    | cons q uparts =>
      obtain ⟨u, hu, hv⟩ := hp.2 0 i v rfl
      simp at hu
      subst hu
      simp only [fillE] at h
      cases hpl : place i with
      | none => simp [hpl] at h
      | some os =>
        obtain ⟨off, size⟩ := os
        simp only [hpl] at h
        split at h
        · rename_i h1 h2 h3
          have e1 : (ecells v).length = size := Nat.eq_of_beq_eq_true h1
          have e2 : off + size ≤ cs.length := Nat.le_of_ble_eq_true h2
          have hvs := ecells_sound h3 hv
          have hul : u.cells.toList.length = size := by rw [← hvs.len]; exact e1
          have hCl : cs.length = C.size := by simpa using hc.len
          have hcond : ¬ ((u.cells.size ≠ size || off + u.cells.size > C.size) = true) := by
            have : u.cells.size = size := by simpa using hul
            simp [this]; omega
          have hset : ((u.cells.zipIdx.foldl (fun cs (p : Value × Nat) => cs.setIfInBounds (off + p.2) p.1) C)).toList = setAllV C.toList off u.cells.toList := by
            rw [← Array.foldl_toList, Array.toList_zipIdx]
            exact foldl_set _ 0 off C
          obtain ⟨R, hR, hRs⟩ := ih (uparts := uparts) (C := u.cells.zipIdx.foldl (fun cs (p : Value × Nat) => cs.setIfInBounds (off + p.2) p.1) C) h
            (by rw [hset]; exact hvs.setAll off hc) ⟨by simpa using hp.1, fun j i' v' hj => by simpa using hp.2 (j + 1) i' v' (by simpa using hj)⟩
          refine ⟨R, ?_, hRs⟩
          simp only [Instr.fill, hpl]
          rw [if_neg hcond]
          exact hR
        · cases h

end
end Go.Vc

/- VcN -/
namespace Go.Vc
set_option linter.unusedVariables false
set_option linter.unusedSimpArgs false

section
variable {P : Program} {G : Glob} {F own : Own} {w w' : World} {regs : List Reg} {H : Heap}

theorem places_run {fs : List Field} {pl : List (Nat × Nat)} (h : placesE P fs = some pl) :
    (fs.mapM (fun f => do pure (f.offset, ← sizeOf f.type) : Field → Sem (Nat × Nat))).run P w = .ok pl w := by
  induction fs generalizing pl with
  | nil => simp [placesE] at h; subst h; rfl
  | cons f fs ih =>
    simp only [placesE] at h
    split at h
    · rename_i n r h1 h2
      cases h
      simp only [List.mapM_cons, Sem.run_bind, size_of h1, Result.andThen_ok, Sem.run_pure, ih h2]
    · cases h

theorem parts_ok {fr : Fr} {a : Act} (hf : FrOk own w regs fr a) (l : List (Nat × Operand)) :
    ((l.map fun (i, x) => (i, opnd fr x)).length = (l.map fun (i, x) => (i, a.eval x)).length) ∧
    ∀ (j : Nat) i v, (l.map fun (i, x) => (i, opnd fr x))[j]? = some (i, v) → ∃ u, (l.map fun (i, x) => (i, a.eval x))[j]? = some (i, u) ∧ VE own w regs v u := by
  refine ⟨by simp, fun j i v hj => ?_⟩
  rw [List.getElem?_map] at hj
  cases hl : l[j]? with
  | none => simp [hl] at hj
  | some p =>
    obtain ⟨i', x⟩ := p
    simp [hl] at hj
    obtain ⟨rfl, rfl⟩ := hj
    exact ⟨a.eval x, by simp [hl], opnd_sound hf x⟩

theorem buildE_sound {t : TypeId} {parts : List (Nat × EV)} {uparts : List (Nat × Value)} {v : EV} {ob : Option Bool} (h : buildE P t parts = some (v, ob))
    (hp : parts.length = uparts.length ∧ ∀ (j : Nat) i v, parts[j]? = some (i, v) → ∃ u, uparts[j]? = some (i, u) ∧ VE own w regs v u) :
    Gives P own w regs (Instr.build t uparts.toArray) v := by
  unfold buildE at h
  split at h
  · rename_i z fs hz hd
    split at h
    · rename_i pl hpl
      split at h
      · rename_i cs hfill
        cases h
        obtain ⟨zv, hzr, hzs, _⟩ := zeroE_sound (P := P) (own := own) (w := w) hz
        obtain ⟨R, hR, hRs⟩ := fill_sound hfill (VEs.of_pe hzs) hp
        refine ⟨.agg R, ?_, by simpa using mkAgg_sound hRs⟩
        have hmap : (fs.mapM (fun f => do pure (f.offset, ← sizeOf f.type) : Field → Sem (Nat × Nat))).run P w = .ok pl.toArray w := by
          rw [Array.mapM_eq_mapM_toList, Sem.run_map, places_run hpl]; rfl
        have hfun : (fun i => (pl.toArray)[i]?) = (fun (i : Nat) => pl[i]?) := by funext i; simp
        simp only [Instr.build, Sem.run_bind, hzr, und_of hd, Result.andThen_ok, hmap]
        rw [hfun, hR]
        rfl
      · cases h
    · cases h
  · rename_i z n e hz hd
    split at h
    · rename_i k hk
      split at h
      · rename_i cs hfill
        cases h
        obtain ⟨zv, hzr, hzs, _⟩ := zeroE_sound (P := P) (own := own) (w := w) hz
        obtain ⟨R, hR, hRs⟩ := fill_sound hfill (VEs.of_pe hzs) hp
        refine ⟨.agg R, ?_, by simpa using mkAgg_sound hRs⟩
        simp only [Instr.build, Sem.run_bind, hzr, und_of hd, Result.andThen_ok, size_of hk]
        rw [hR]
        rfl
      · cases h
    · cases h
  · cases h

/-- Zero cells, again and again. -/
theorem rep_sound {z : List EV} {zu : List Value} (hz : VEs own w regs z zu) (n : Nat) :
    VEs own w regs (repE n z) ((List.replicate n zu).flatten) := by
  induction n with
  | zero => exact .nil
  | succ n ih => simpa [repE, List.replicate_succ] using hz.append ih

theorem rep_len (z : List EV) (n : Nat) : (repE n z).length = n * z.length := by
  induction n with
  | zero => simp [repE]
  | succ n ih => simp [repE, ih, Nat.succ_mul, Nat.add_comm]

theorem flat_get (zu : List Value) (n j : Nat) (hj : j < n * zu.length) : ((List.replicate n zu).flatten)[j]? = zu[j % zu.length]? := by
  induction n generalizing j with
  | zero => simp at hj
  | succ n ih =>
    rw [List.replicate_succ, List.flatten_cons]
    rcases Nat.lt_or_ge j zu.length with h | h
    · rw [List.getElem?_append_left h, Nat.mod_eq_of_lt h]
    · rw [List.getElem?_append_right h, ih _ (by rw [Nat.succ_mul] at hj; omega), Nat.mod_eq_sub_mod h]

theorem zero_cells (zu : Array Value) (n : Nat) : ((Array.range (n * zu.size)).map (zu[· % zu.size]!)).toList = (List.replicate n zu.toList).flatten := by
  apply List.ext_getElem?
  intro j
  rcases Nat.lt_or_ge j (n * zu.size) with h | h
  · rw [flat_get _ _ _ (by simpa using h)]
    have hz : 0 < zu.size := by
      rcases Nat.eq_zero_or_pos zu.size with h0 | h0
      · rw [h0] at h; simp at h
      · exact h0
    have hlt : j % zu.size < zu.size := Nat.mod_lt _ hz
    simp [h, hlt]
  · have h1 : ((List.replicate n zu.toList).flatten).length ≤ j := by simp; simpa using h
    rw [List.getElem?_eq_none h1]
    simp
    omega

theorem runObj (o : Obj) : (newObj o).run P w = .ok w.heap.size { w with heap := w.heap.push o } := rfl

end
end Go.Vc

/- VcO -/
namespace Go.Vc
set_option linter.unusedVariables false
set_option linter.unusedSimpArgs false

section
variable {P : Program} {G : Glob} {F own : Own} {w w' : World} {regs : List Reg} {H : Heap}

theorem buildSlice_sound {t e : TypeId} {len n : Nat} {z : List PV} {parts : List (Nat × EV)} {uparts : List (Nat × Value)} {cs : List EV} (hd : P.underlying t = some (.slice e))
    (hn : sizeT P e = some n) (hz : zeroE P e = some z) (hfill : fillE (fun i => some (i * n, n)) (repE len (z.map pe)) parts = some cs) (hzl : z.length = n) (hle : len * n ≤ 16777216)
    (hh : HpOk F w regs H)
    (hp : parts.length = uparts.length ∧ ∀ (j : Nat) i v, parts[j]? = some (i, v) → ∃ u, uparts[j]? = some (i, u) ∧ VE (tot F regs H) w regs v u) :
    ∃ u w' regs', (Instr.buildSlice t len uparts.toArray).run P w = .ok u w' ∧ StepOk F w regs H (.sl H.length 0 len n) (H ++ [some (.cells cs .any)]) u w' regs' := by
  obtain ⟨zv, hzr, hzs, _⟩ := zeroE_sound (P := P) (own := tot F regs H) (w := w) hz
  have hzu : zv.cells.size = n := by have := hzs.len; simp at this; omega
  have h0 : VEs (tot F regs H) w regs (repE len (z.map pe)) (((Array.range (len * n)).map (zv.cells[· % zv.cells.size]!)).toList) := by
    rw [← hzu, zero_cells]; exact rep_sound (VEs.of_pe hzs) len
  obtain ⟨R, hR, hRs⟩ := fill_sound hfill h0 hp
  have hRl : R.size = len * n := by
    have h1 := hRs.len
    have h2 : cs.length = (repE len (z.map pe)).length := by
      clear hRs h1 hR h0
      have : ∀ (parts : List (Nat × EV)) (c r : List EV), fillE (fun i => some (i * n, n)) c parts = some r → r.length = c.length := by
        intro parts
        induction parts with
        | nil => intro c r h; simp [fillE] at h; rw [h]
        | cons p ps ih =>
          intro c r h
          obtain ⟨i, v⟩ := p
          simp only [fillE] at h
          split at h
          · rw [ih _ _ h]; simp
          · cases h
      exact this _ _ _ hfill
    rw [rep_len] at h2
    simp at h1 h2
    rw [hzl] at h2
    omega
  refine ⟨_, _, _, ?_, StepOk.newSlice hh (C := R) (e := e) (fz := (0, 0)) (c := len) (w' := { w with heap := w.heap.push (.cells R e) }) rfl (.inl rfl) hRs (fun j u hj => by simpa using hj)
    (by have := hRs.len; simp at this; omega) (Nat.le_refl _) (by omega)⟩
  have hgt : ¬ (len * n > 2 ^ 24) := by simp; exact hle
  simp only [Instr.buildSlice, Sem.run_bind, und_of hd, Result.andThen_ok, size_of hn]
  rw [if_neg hgt]
  have r0 : Array.range 0 = #[] := rfl
  by_cases h00 : len * n = 0
  · rw [if_pos h00]
    rw [h00, r0] at hR
    simp only [List.map_toArray, List.map_nil] at hR
    simp only [Sem.run_pure, Result.andThen_ok, h00, r0, List.map_toArray, List.map_nil, hR]
    simp [newRow]
  · rw [if_neg h00]
    simp only [Sem.run_bind, hzr, Result.andThen_ok, Sem.run_pure]
    rw [hR]
    simp [newRow]

theorem fits_small {n : Int} (h0 : 0 ≤ n) (h1 : n ≤ 1099511627776) : IntKind.i64.wrap n = n := wrap_fits (by
  unfold fitsK; rw [max_i64, min_i64]; simp; omega)

theorem makeSlice_sound {t e : TypeId} {k k' : IntKind} {len cap : Int} {info : TypeInfo} {z : List PV} (hd : P.underlying t = some (.slice e)) (hi : P.info? e = some info)
    (hz : zeroE P e = some z) (hzl : z.length = info.size) (h0 : 0 ≤ len) (h1 : len ≤ cap) (h2 : cap ≤ 1099511627776) (h3 : cap * (info.bytes : Int) ≤ 1099511627776)
    (hh : HpOk F w regs H) {kd : Kd} (hkd : kd = .any ∨ (kd = .obj e ∧ len = cap)) :
    ∃ u w' regs', (Instr.makeSlice t (.int k len) (.int k' cap)).run P w = .ok u w' ∧
      StepOk F w regs H (.sl H.length 0 len.toNat info.size) (H ++ [some (.cells (repE len.toNat (z.map pe)) kd)]) u w' regs' := by
  obtain ⟨zv, hzr, hzs, i', hi', hzv⟩ := zeroE_sound (P := P) (own := tot F regs H) (w := w) hz
  rw [hi] at hi'; cases hi'
  have hzu : zv.cells.size = info.size := by have := hzs.len; simp at this; omega
  have hC : ((Array.range (cap.toNat * info.size)).map (zv.cells[· % zv.cells.size]!)).toList = (List.replicate cap.toNat zv.cells.toList).flatten := by rw [← hzu, zero_cells]
  have hus := rep_sound (VEs.of_pe (regs := regs) hzs) len.toNat
  refine ⟨_, _, _, ?_, StepOk.newSliceK hh kd (C := (Array.range (cap.toNat * info.size)).map (zv.cells[· % zv.cells.size]!)) (e := e) (fz := (0, 0)) (c := cap.toNat)
    (w' := { w with heap := w.heap.push (.cells ((Array.range (cap.toNat * info.size)).map (zv.cells[· % zv.cells.size]!)) e) }) rfl (.inl rfl) hus ?_ ?_ (by omega) (by simp) ?_⟩
  · have hw1 := fits_small h0 (by omega)
    have hw2 := fits_small (n := cap) (by omega) h2
    have hto : ¬ (cap < 0 ∨ 2 ^ 48 < (info.bytes : Int) * cap) := by
      rw [Int.mul_comm]
      have : (2 : Int) ^ 48 = 281474976710656 := by decide
      omega
    simp only [Instr.makeSlice, Sem.run_bind, und_of hd, Result.andThen_ok, asInt, asIntOf, Sem.run_pure, typeInfo, run_program, hi, hw1, hw2]
    rw [if_neg (by
      simp only [Bool.or_eq_true, decide_eq_true_eq, not_or]
      exact ⟨⟨⟨by omega, fun h => hto (.inr h)⟩, by omega⟩, by omega⟩)]
    simp only [Sem.run_bind, run_askRoom, Result.andThen_ok, sizeOf, typeInfo, run_program, hi, Sem.run_pure]
    have r0 : Array.range 0 = #[] := rfl
    by_cases h00 : cap.toNat * info.size = 0
    · simp only [h00, r0, List.map_toArray, List.map_nil]
      simp [newRow]
    · rw [if_neg h00]
      simp only [Sem.run_bind, hzr, Result.andThen_ok, Sem.run_pure]
      simp [newRow]
  · intro j u hj
    have hlt : j < len.toNat * zv.cells.toList.length := by
      have := (List.getElem?_eq_some_iff.1 hj).1
      simpa using this
    have hlt2 : j < cap.toNat * zv.cells.toList.length := Nat.lt_of_lt_of_le hlt (Nat.mul_le_mul_right _ (by omega))
    rw [← Array.getElem?_toList, hC, flat_get _ _ _ hlt2, ← flat_get _ _ _ hlt]
    exact hj
  · rw [rep_len]
    simp
    rw [hzl]
    exact Nat.mul_le_mul_right _ (by omega)
  · rcases hkd with rfl | ⟨rfl, rfl⟩
    · trivial
    · refine ⟨?_, rfl, rfl⟩
      unfold World.shape?
      simp [rep_len, hzl]

theorem freeze_end (w : World) (C : Array Value) (e : TypeId) : ({ w with heap := w.heap.push (.cells C e) } : World).freeze ⟨w.heap.size, C.size, none⟩ 1 =
    { w with heap := w.heap.push (.cells C e (C.size, C.size + 1)) } := by
  unfold World.freeze
  rw [if_neg (by omega)]
  congr 1
  apply Array.ext_getElem?
  intro j
  simp only [Array.getElem?_modify, Array.getElem?_push]
  by_cases hj : w.heap.size = j
  · subst hj; simp
  · rw [if_neg hj]
    by_cases h2 : j = w.heap.size
    · omega
    · simp [h2]

theorem byteEV_sound (b : ByteArray) : VEs own w regs ((bytesOf b).map byteEV) (b.data.toList.map fun (x : UInt8) => Value.int .u8 x.toNat) := by
  unfold bytesOf
  rw [List.map_map]
  generalize b.data.toList = l
  induction l with
  | nil => exact .nil
  | cons x l ih => exact .cons _ _ _ _ (.p _ _ (.int _ _)) ih

theorem stringToBytes_sound {e : TypeId} {b : ByteArray} (hlen : b.size ≤ 1099511627776) (hh : HpOk F w regs H) :
    ∃ u w' regs', (Conv.stringToBytes e b).run P w = .ok u w' ∧
      StepOk F w regs H (.sl H.length 0 (bytesOf b).length 1) (H ++ [some (.cells ((bytesOf b).map byteEV) .any)]) u w' regs' := by
  have hge : b.size ≤ (Question.appendCap b.size 0 e).cut (w.tape w.drawn (Question.appendCap b.size 0 e)) := by simp [Question.cut]
  generalize hcap : (Question.appendCap b.size 0 e).cut (w.tape w.drawn (Question.appendCap b.size 0 e)) = cap at hge
  have hd : HpOk F w.drew regs H := by
    have m : Moves (tot F regs H) w regs (tot F regs H) w.drew regs := ⟨fun r x u hn hc => ⟨hc, hn⟩, Nat.le_refl _, fun r e n h => h, fun i g h => h⟩
    exact ⟨hh.len, fun i g b h1 h2 => (hh.blk i g b h1 h2).keep m (fun _ _ => rfl) (fun _ _ => rfl) (fun _ _ => rfl), hh.dj, hh.fr, hh.lt, fun i g b h1 h2 => (hh.ty i g b h1 h2).keep m (fun _ _ => rfl)⟩
  have hst := StepOk.newSlice (n := (bytesOf b).length) (z := 1) hd (C := (b.data.map fun (x : UInt8) => Value.int .u8 x.toNat) ++ Array.replicate (cap - b.size) (Value.int .u8 0)) (e := e) (fz := ((cap), cap + 1)) (c := cap)
    (w' := { w.drew with heap := w.heap.push (.cells ((b.data.map fun (x : UInt8) => Value.int .u8 x.toNat) ++ Array.replicate (cap - b.size) (Value.int .u8 0)) e (cap, cap + 1)) }) rfl
    (.inr (by simp; have : b.data.size = b.size := rfl; omega)) (byteEV_sound b) (fun j u hj => by
      have hlt := (List.getElem?_eq_some_iff.1 hj).1
      simp at hlt
      rw [Array.getElem?_append_left (by simpa using hlt)]
      rw [← Array.getElem?_toList]
      simpa using hj) (by simp) (by simpa using hge) (by simp; have : b.data.size = b.size := rfl; omega)
  refine ⟨_, _, _, ?_, ⟨hst.hp, hst.ext, hst.val, ?_, ?_, ?_⟩⟩
  · simp only [Conv.stringToBytes, Sem.run_bind, run_choose]
    have hf : (Question.appendCap b.size 0 e).forced = false := rfl
    simp only [hf, Bool.false_eq_true, if_false, Result.andThen_ok, hcap, newRow, Sem.run_bind, runObj, Sem.run_pure, markStringish]
    have hsz : (((b.data.map fun (x : UInt8) => Value.int .u8 x.toNat) ++ Array.replicate (cap - b.size) (Value.int .u8 0))).size = cap := by
      simp; have : b.data.size = b.size := rfl; omega
    have hfz := freeze_end { w with drawn := w.drawn + 1 } ((b.data.map fun (x : UInt8) => Value.int .u8 x.toNat) ++ Array.replicate (cap - b.size) (Value.int .u8 0)) e
    rw [hsz] at hfz
    simp only [run_shape, Result.andThen_ok]
    have hsh : World.shape? { w with heap := w.heap.push (.cells ((b.data.map fun (x : UInt8) => Value.int .u8 x.toNat) ++ Array.replicate (cap - b.size) (Value.int .u8 0)) e), drawn := w.drawn + 1 } w.heap.size = some (e, cap) := by
      unfold World.shape?; simp; have : b.data.size = b.size := rfl; omega
    simp only [hsh, run_freeze, Result.andThen_ok, Sem.run_pure]
    simp only [bytesOf_len]
    rw [hfz]
    rfl
  · exact ⟨hst.mv.cell, hst.mv.size, hst.mv.shape, hst.mv.regs⟩
  · exact ⟨hst.kp.size, hst.kp.cell, hst.kp.frz, hst.kp.shape, hst.kp.obj, hst.kp.env⟩
  · exact hst.gr

end
end Go.Vc

/- VcP -/
namespace Go.Vc
set_option linter.unusedVariables false
set_option linter.unusedSimpArgs false

theorem get_bang (s : ByteArray) (i : Nat) : (s.get! i).toNat = (bytesOf s).getD i 0 := by
  have hsz : s.data.size = s.size := rfl
  unfold bytesOf ByteArray.get!
  rw [List.getD_eq_getElem?_getD, List.getElem?_map]
  rcases Nat.lt_or_ge i s.size with h | h
  · have h' : i < s.data.toList.length := by simpa using h
    rw [List.getElem?_eq_getElem h']
    have h2 : i < s.data.size := h
    simp [getElem!_pos s.data i h2]
  · have h' : s.data.toList.length ≤ i := by simpa using h
    rw [List.getElem?_eq_none h']
    have h2 : ¬ i < s.data.size := by omega
    simp [getElem!_neg s.data i h2]
    rfl

theorem decode_eq (s : ByteArray) (i : Nat) : Utf8.decode s i = decodeL (bytesOf s) i := by
  unfold Utf8.decode decodeL contE
  simp only [get_bang, bytesOf_len, Nat.add_zero]

section
variable {P : Program} {G : Glob} {F own : Own} {w w' : World} {regs : List Reg} {H : Heap}

theorem natList_sound {cs : List EV} {l : List Nat} {us : List Value} (h : natList cs = some l) (hv : VEs own w regs cs us) :
    ∃ ns : List Int, us = ns.map (fun n => Value.int .u8 n) ∧ l = ns.map (fun n => n.toNat % 256) := by
  induction cs generalizing l us with
  | nil => cases hv; simp [natList] at h; subst h; exact ⟨[], rfl, rfl⟩
  | cons c cs ih =>
    cases hv with | cons _ u _ us hu hs =>
    cases c with
    | p x =>
      cases x with
      | int k n =>
        cases k <;> simp only [natList] at h <;> try cases h
        split at h
        · rename_i l' hl
          cases h
          obtain ⟨ns, rfl, rfl⟩ := ih hl hs
          cases hu with | p _ _ hu =>
          cases hu
          exact ⟨n :: ns, rfl, rfl⟩
        · cases h
      | _ => simp [natList] at h
    | _ => simp [natList] at h

theorem bytes_loop (ns : List Int) : ∀ (b : ByteArray), bytesOf (ns.foldl (fun s n => s.push (UInt8.ofNat n.toNat)) b) = bytesOf b ++ ns.map (fun n => n.toNat % 256) := by
  induction ns with
  | nil => intro b; simp
  | cons n ns ih =>
    intro b
    rw [List.foldl_cons, ih]
    unfold bytesOf
    have : (b.push (UInt8.ofNat n.toNat)).data = b.data.push (UInt8.ofNat n.toNat) := ByteArray.data_push
    rw [this]
    simp

theorem bytes_forIn (f : Value → ByteArray → Sem (ForInStep ByteArray)) (hf : ∀ n s, f (.int .u8 n) s = pure (ForInStep.yield (s.push (UInt8.ofNat n.toNat)))) (ns : List Int) (w : World) :
    ∀ (b : ByteArray), Sem.run P (forIn (ns.map fun n => Value.int IntKind.u8 n) b f) w = .ok (ns.foldl (fun s n => s.push (UInt8.ofNat n.toNat)) b) w := by
  induction ns with
  | nil => intro b; rfl
  | cons n ns ih =>
    intro b
    simp only [List.map_cons, List.forIn_cons, hf, Sem.run_bind, Sem.run_pure, Result.andThen_ok, List.foldl_cons]
    exact ih _

/-- The cells that a slice shows. -/
theorem sliceCells_sound {z : Nat} {x : EV} {u : Value} {cs : List EV} {n : Nat} (h : sliceCells H z x = some (cs, n)) (hh : HpOk F w regs H) (hx : VE (tot F regs H) w regs x u)
    (hl : cs.length = n * z) :
    ∃ us, VEs (tot F regs H) w regs cs us ∧ (Builtin.lenOf u).run P w = .ok n w ∧ ∀ (m : Nat) (w1 : World), m ≤ n → w1.heap = w.heap → (Builtin.firstCells z m u).run P w1 = .ok (us.take (m * z)).toArray w1 := by
  unfold sliceCells at h
  split at h
  · cases h
    cases hx with | p _ _ hx =>
    cases hx
    exact ⟨[], .nil, by simp [Builtin.lenOf], fun m w1 hm _ => by simp [Builtin.firstCells]⟩
  · rename_i k ps
    cases h
    cases hx with | p _ _ hx =>
    cases hx with | lst _ _ a c us hs hc h0 ha =>
    refine ⟨us, .of_p hs, by simp [Builtin.lenOf], fun m w1 hm hw1 => ?_⟩
    cases a with
    | none =>
      have hn : n = 0 := by
        rcases Nat.eq_zero_or_pos n with h1 | h1
        · exact h1
        · obtain ⟨r, y, e, _⟩ := ha h1; cases e
      have : m = 0 := by omega
      subst this
      simp [Builtin.firstCells]
    | some a =>
      rcases Nat.eq_zero_or_pos n with h1 | h1
      · have : m = 0 := by omega
        subst this
        simp [Builtin.firstCells, loadCells, loadCellsFrom]
      · obtain ⟨r, y, e, hr, hcell⟩ := ha h1
        cases e
        have hul : us.length = n * z := by rw [← hs.len]; simpa using hl
        have hmz : m * z ≤ n * z := Nat.mul_le_mul_right _ hm
        have := run_loadCells_list (P := P) w1 ⟨r, y, none⟩ (us.take (m * z)) (fun j v hj => by
          rw [addr_add]
          have hj' : us[j]? = some v := by
            rw [List.getElem?_take] at hj; split at hj
            · exact hj
            · cases hj
          have := (hcell j v hj').1
          unfold World.cell? at this ⊢
          rw [hw1]; exact this)
        have hlen : (us.take (m * z)).length = m * z := by simp; omega
        rw [hlen] at this
        simpa [Builtin.firstCells] using this
  · rename_i s
    split at h
    · cases h
      cases hx with | p _ _ hx =>
      cases hx with | str _ b hb =>
      subst hb
      refine ⟨_, byteEV_sound b, by simp [Builtin.lenOf], fun m w1 hm hw1 => ?_⟩
      simp only [Builtin.firstCells, Sem.run_pure]
      congr 1
      apply Array.toList_inj.1
      have hd : (b.extract 0 m).data = b.data.extract 0 m := ByteArray.data_extract
      rw [hd]
      simp [Array.toList_extract, List.extract_eq_take_drop, List.map_take]
    · cases h
  · rename_i i off k z'
    split at h
    · rename_i cs' ty hzz hi
      cases h
      have hz : z = z' := Nat.eq_of_beq_eq_true hzz
      subst hz
      cases hx with | sl _ _ _ _ g a c hg ht hc ha hf =>
      obtain ⟨_, us, hus, hcell⟩ := hh.blk i g _ hg hi
      refine ⟨(us.drop off).take (n * z), (hus.drop off).take (n * z), by simp [Builtin.lenOf], fun m w1 hm hw1 => ?_⟩
      have hul := hus.len
      have hmz : m * z ≤ n * z := Nat.mul_le_mul_right _ hm
      have hcl : n * z ≤ cs'.length - off := by
        have := hl
        rw [List.length_take, List.length_drop] at this
        omega
      rcases Nat.eq_zero_or_pos (m * z) with h1 | h1
      · simp [Builtin.firstCells, h1, loadCells, loadCellsFrom]
      · have hn0 : 0 < n := by
          rcases Nat.eq_zero_or_pos n with h2 | h2
          · subst h2; have : m = 0 := by omega
            subst this; simp at h1
          · exact h2
        rw [ha (.inr hn0)]
        have := run_loadCells_list (P := P) w1 ⟨g.blk, g.off + off, none⟩ (((us.drop off).take (n * z)).take (m * z)) (fun j v hj => by
          rw [addr_add]
          have hj' : us[off + j]? = some v := by
            rw [List.take_take] at hj
            exact getElem?_cut hj
          have := hcell _ _ hj'
          rw [← Nat.add_assoc] at this
          unfold World.cell? at this ⊢
          rw [hw1]; exact this)
        have hlen : (((us.drop off).take (n * z)).take (m * z)).length = m * z := by simp; omega
        rw [hlen] at this
        simpa [Builtin.firstCells] using this
    · cases h
  · cases h

end
end Go.Vc

/- VcQ -/
namespace Go.Vc
set_option linter.unusedVariables false
set_option linter.unusedSimpArgs false

section
variable {P : Program} {G : Glob} {F own : Own} {w w' : World} {regs : List Reg} {H : Heap}

def notInt (d : TypeDesc) : Prop := ∀ k, d ≠ .int k

theorem append_fits {t t2 ty e : TypeId} {d2 : TypeDesc} {info : TypeInfo} (hd : P.underlying t = some (.slice e)) (hd2 : P.underlying t2 = some d2) (hni : notInt d2) (hi : P.info? e = some info)
    {a : Addr} {sLen sCap n : Nat} {x : Value} {news : List Value} (hlen : (Builtin.lenOf x).run P w = .ok n w)
    (hnew : (Builtin.firstCells info.size n x).run P w = .ok news.toArray w) (hfit : sLen + n ≤ sCap) {w' : World}
    (hst : (storeCells (a.add (sLen * info.size)) news).run P w = .ok () w') :
    (Builtin.append_ #[t, t2] ty #[.slice (some a) sLen sCap, x]).run P w = .ok (.slice (some a) (sLen + n) sCap) w' := by
  have hz : ∀ (y : Bool), (match d2 with | .int _ => true | _ => false) = false := by
    intro _; cases d2 <;> first | rfl | exact absurd rfl (hni _)
  have hsz : (sizeOf e).run P w = .ok info.size w := by simp [sizeOf, typeInfo, hi]
  simp only [Builtin.append_, Sem.run_bind, List.getElem?_toArray, List.getElem?_cons_zero, List.getElem?_cons_succ, und_of hd, und_of hd2, Result.andThen_ok, Sem.run_pure, hsz]
  have hz' := hz true
  cases d2 <;> first
    | exact absurd rfl (hni _)
    | (simp only [Bool.false_eq_true, if_false, hlen, Result.andThen_ok, if_pos hfit, hnew, Sem.run_bind, hst, Sem.run_pure]
       simp only [Bool.not_false, if_true, hnew, Result.andThen_ok, hst])

theorem append_nothing {t t2 ty e : TypeId} {d2 : TypeDesc} {info : TypeInfo} (hd : P.underlying t = some (.slice e)) (hd2 : P.underlying t2 = some d2) (hni : notInt d2) (hi : P.info? e = some info)
    {x : Value} {news : Array Value} (hlen : (Builtin.lenOf x).run P w = .ok 0 w) (hnew : (Builtin.firstCells info.size 0 x).run P w = .ok news w) :
    (Builtin.append_ #[t, t2] ty #[.slice none 0 0, x]).run P w = .ok (.slice none 0 0) w := by
  have hz : ∀ (y : Bool), (match d2 with | .int _ => true | _ => false) = false := by
    intro _; cases d2 <;> first | rfl | exact absurd rfl (hni _)
  have hsz : (sizeOf e).run P w = .ok info.size w := by simp [sizeOf, typeInfo, hi]
  simp only [Builtin.append_, Sem.run_bind, List.getElem?_toArray, List.getElem?_cons_zero, List.getElem?_cons_succ, und_of hd, und_of hd2, Result.andThen_ok, Sem.run_pure, hsz]
  have hz' := hz true
  cases d2 <;> first
    | exact absurd rfl (hni _)
    | simp only [Bool.false_eq_true, if_false, hlen, Result.andThen_ok, Nat.add_zero, Nat.le_refl, if_true, hnew, Sem.run_bind, Sem.run_pure, Bool.not_false]

theorem append_grows {t t2 ty e : TypeId} {d2 : TypeDesc} {info : TypeInfo} {zv : Value} (hd : P.underlying t = some (.slice e)) (hd2 : P.underlying t2 = some d2) (hni : notInt d2) (hi : P.info? e = some info)
    (hzv : info.zero = some zv) {base : Option Addr} {sLen sCap n : Nat} {x : Value} {old news : List Value} (hlen : (Builtin.lenOf x).run P w = .ok n w)
    (hnew : ∀ w1 : World, w1.heap = w.heap → (Builtin.firstCells info.size n x).run P w1 = .ok news.toArray w1)
    (hold : ∀ w1 : World, w1.heap = w.heap → (Builtin.firstCells info.size sLen (.slice base sLen sCap)).run P w1 = .ok old.toArray w1) (hfit : ¬ sLen + n ≤ sCap) (hb : (sLen + n) * info.bytes ≤ 1099511627776)
    (hpos : 0 < info.bytes) :
    ∃ cap, sLen + n ≤ cap ∧ (Builtin.append_ #[t, t2] ty #[.slice base sLen sCap, x]).run P w =
      .ok (.slice (some ⟨w.heap.size, 0, none⟩) (sLen + n) cap) { w with drawn := w.drawn + 1, heap := w.heap.push (.cells (old.toArray ++ news.toArray ++ Builtin.zeroCells zv.cells (cap - (sLen + n))) e) } := by
  have hsz : (sizeOf e).run P w = .ok info.size w := by simp [sizeOf, typeInfo, hi]
  have hnle : Builtin.nextslicecap (sLen + n) sCap * info.bytes ≤ 281474976710656 := growslice_fits (by omega) (by omega)
  have hq : (Question.appendCap (sLen + n) sCap e).forced = false := rfl
  generalize hcap : (Question.appendCap (sLen + n) sCap e).cut (w.tape w.drawn (Question.appendCap (sLen + n) sCap e)) = cap
  have hge : sLen + n ≤ cap := by rw [← hcap]; simp [Question.cut]
  refine ⟨cap, hge, ?_⟩
  have hti : (typeInfo e).run P w = .ok info w := by simp [typeInfo, hi]
  have h1 : ¬ ((((sLen + n : Nat) : Int) > IntKind.i64.max) ∧ ((false = true) ∨ info.bytes = 0)) := by
    rintro ⟨_, h | h⟩
    · cases h
    · omega
  have h2 : ¬ (Builtin.nextslicecap (sLen + n) sCap * info.bytes > 2 ^ 48) := by
    have : (2 : Nat) ^ 48 = 281474976710656 := by decide
    omega
  have hold' := hold { w with drawn := w.drawn + 1 } rfl
  have hnew' := hnew { w with drawn := w.drawn + 1 } rfl
  have hzr : (zeroValue e).run P { w with drawn := w.drawn + 1 } = .ok zv { w with drawn := w.drawn + 1 } := by simp [zeroValue, typeInfo, hi, hzv]
  have hti2 : (typeInfo e).run P { w with drawn := w.drawn + 1 } = .ok info { w with drawn := w.drawn + 1 } := by simp [typeInfo, hi]
  simp only [Builtin.append_, Sem.run_bind, List.getElem?_toArray, List.getElem?_cons_zero, List.getElem?_cons_succ, und_of hd, und_of hd2, Result.andThen_ok, Sem.run_pure, hsz]
  cases d2 <;> first
    | exact absurd rfl (hni _)
    | (simp only [Bool.false_eq_true, if_false, hlen, Result.andThen_ok, if_neg hfit, Sem.run_bind, hti, Sem.run_pure, false_or, Bool.not_false, if_true]
       rw [if_neg (by simpa using h1)]
       simp only [Sem.run_bind, hti, Result.andThen_ok]
       rw [if_neg h2]
       simp only [Sem.run_bind, run_choose, hq, Bool.false_eq_true, if_false, Result.andThen_ok, hcap, hti2, run_askRoom, hold', hnew', hzr, newRow, runObj, Sem.run_pure])

/-- A block's row is written behind what the run saw of it, and seen so far. -/
theorem rowKd_or (k : Kd) (e : TypeId) : rowKd k e = .any ∨ ∃ t, rowKd k e = .row t ∧ k = .row t := by
  unfold rowKd
  split
  · rename_i t
    split
    · exact .inr ⟨t, rfl, rfl⟩
    · exact .inl rfl
  · exact .inl rfl

theorem rowKd_ok (k : Kd) {e : TypeId} {w' : World} {C : Array Value} {fz : Nat × Nat} {w : World} {n : Nat} (hw : w'.heap = w.heap.push (.cells C e fz)) : KdOk w' ⟨w.heap.size, 0, true⟩ n (rowKd k e) := by
  unfold rowKd
  split
  · rename_i t
    split
    · rename_i h
      have : t = e := Nat.eq_of_beq_eq_true h
      subst this
      exact ⟨rfl, rfl, _, shape_push hw⟩
    · trivial
  · trivial

theorem setCells_env (w : World) (b : Nat) : ∀ (o : Nat) (vs : List Value), (w.setCells b o vs).os = w.os ∧ (w.setCells b o vs).output = w.output := by
  intro o vs
  induction vs generalizing w o with
  | nil => exact ⟨rfl, rfl⟩
  | cons v vs ih => rw [World.setCells]; exact ih _ _

theorem HpOk.extend (h : HpOk F w regs H) {i : Nat} {g : Reg} {cs xs : List EV} {ty k' : Kd} {news : List Value} (hi : H[i]? = some (some (.cells cs ty))) (hg : regs[i]? = some g) (ht : g.tail = true)
    (hk' : ((k' = .any ∨ ∃ t, k' = .row t ∧ ty = .row t) ∧ ty.soft = true) ∨ ∃ t, k' = .ice t ∧ ty = .ice t)
    {e : TypeId} {N : Nat} (hsh : w.shape? g.blk = some (e, N)) (hN : g.off + cs.length + news.length ≤ N) (hv : VEs (tot F regs H) w regs xs news) :
    HpOk F (w.setCells g.blk (g.off + cs.length) news) (regs ++ [g]) (H.set i none ++ [some (.cells (cs ++ xs) k')]) ∧ Keeps (owned regs H) w (w.setCells g.blk (g.off + cs.length) news) ∧
    Grow w (owned regs H) (owned (regs ++ [g]) (H.set i none ++ [some (.cells (cs ++ xs) k')])) ∧
    Moves (tot F regs H) w regs (tot F (regs ++ [g]) (H.set i none ++ [some (.cells (cs ++ xs) k')])) (w.setCells g.blk (g.off + cs.length) news) (regs ++ [g]) := by
  have hin : ∀ x, g.off ≤ x → owned regs H g.blk x := fun x hx => ⟨i, g, _, hg, hi, rfl, hx, .inl ht⟩
  have hsame : ∀ {w' : World} (vs : List Value) (o : Nat) (r : Nat), (w'.setCells g.blk o vs).shape? r = w'.shape? r := by
    intro w' vs
    induction vs generalizing w' with
    | nil => intro o r; rfl
    | cons v vs ih => intro o r; rw [World.setCells, ih, setCell_shape]
  have hheap : ∀ {w' : World} (vs : List Value) (o : Nat) (r : Nat), r ≠ g.blk → (w'.setCells g.blk o vs).heap[r]? = w'.heap[r]? := by
    intro w' vs
    induction vs generalizing w' with
    | nil => intro o r _; rfl
    | cons v vs ih => intro o r hr; rw [World.setCells, ih _ _ hr, setCell_other_block hr]
  have hsize : ∀ {w' : World} (vs : List Value) (o : Nat), (w'.setCells g.blk o vs).heap.size = w'.heap.size := by
    intro w' vs
    induction vs generalizing w' with
    | nil => intro o; rfl
    | cons v vs ih => intro o; rw [World.setCells, ih]; simp
  have hout : ∀ r x, (r = g.blk → x < g.off + cs.length) → (w.setCells g.blk (g.off + cs.length) news).cell? ⟨r, x, none⟩ = w.cell? ⟨r, x, none⟩ := fun r x hx =>
    World.cell?_setCells_out _ _ _ _ _ (fun e1 _ => .inl (hx e1))
  have hk : Keeps (owned regs H) w (w.setCells g.blk (g.off + cs.length) news) := by
    refine ⟨by rw [hsize]; exact Nat.le_refl _, fun r x hr hn => hout r x (fun e1 => ?_), fun r x _ _ => World.frozen?_setCells .., fun r _ => hsame _ _ _, fun r hr hn => hheap _ _ _ (fun e1 => ?_), setCells_env _ _ _ _⟩
    · subst e1
      rcases Nat.lt_or_ge x (g.off + cs.length) with h1 | h1
      · exact h1
      · exact absurd (hin x (by omega)) hn
    · subst e1; exact hn g.off (hin _ (Nat.le_refl _))
  have hlen : regs.length = (H.set i none).length := by simp [h.len]
  have hgr : Grow w (owned regs H) (owned (regs ++ [g]) (H.set i none ++ [some (.cells (cs ++ xs) k')])) := by
    intro r x ho
    rcases (owned_push hlen r x).1 ho with h1 | ⟨c, hc, h1⟩
    · exact .inl (owned_kill h1)
    · cases hc; exact .inl (by rw [← h1.1]; exact hin x h1.2.1)
  have hm := Moves.of_keeps (F := F) hk hgr (fun j gj hj => get_append_old hj)
  have hb0 := h.blk i g _ hg hi
  obtain ⟨⟨e1, n1, hs1, hn1, hz1⟩, us, hus, hcell⟩ := hb0
  have old : ∀ (j : Nat) (gj : Reg) (b : Blk), (regs ++ [g])[j]? = some gj → (H.set i none ++ [some (.cells (cs ++ xs) k')])[j]? = some (some b) →
      (regs[j]? = some gj ∧ H[j]? = some (some b) ∧ j ≠ i) ∨ (j = H.length ∧ gj = g ∧ b = .cells (cs ++ xs) k') := by
    intro j gj b h1 h2
    rcases get_snoc h1 with h1 | ⟨e1, e1'⟩ <;> rcases get_snoc h2 with h2 | ⟨e2, e2'⟩
    · have := set_none_get h2; exact .inl ⟨h1, this.1, this.2⟩
    · have := (List.getElem?_eq_some_iff.1 h1).1; simp at e2; have := h.len; omega
    · have := (List.getElem?_eq_some_iff.1 h2).1; simp at this; have := h.len; omega
    · cases e2'; exact .inr ⟨by simpa using e2, e1', rfl⟩
  refine ⟨⟨by simp [h.len], fun j gj b h1 h2 => ?_, fun j k g1 g2 b1 b2 hjk h1 h2 h3 h4 r x hr1 hr2 => ?_, fun j gj b h1 h2 r x hr => ?_, fun r x hF => by rw [hsize]; exact h.lt r x hF, fun j gj b h1 h2 => ?_⟩, hk, hgr, hm⟩
  · rcases old j gj b h1 h2 with ⟨h1, h2, hne⟩ | ⟨rfl, rfl, rfl⟩
    · have hnot : ∀ x, InReg gj b gj.blk x → gj.blk = g.blk → x < g.off + cs.length := by
        intro x hx e1
        rcases Nat.lt_or_ge x (g.off + cs.length) with h3 | h3
        · exact h3
        · exact absurd hx (h.dj i j g gj _ b (fun e => hne e.symm) hg h1 hi h2 gj.blk x ⟨e1.symm, by omega, .inl ht⟩)
      refine (h.blk j gj b h1 h2).keep hm (fun x hx => hout _ _ (hnot x hx)) (fun x hx => World.frozen?_setCells ..) (fun h5 h6 => hheap _ _ _ (fun e1 => ?_))
      have := hnot (g.off + cs.length) ⟨rfl, by omega, .inl h6⟩ e1
      omega
    · refine ⟨⟨e, N, by rw [hsame]; exact hsh, by have := hv.len; simp; omega, fun x h1 h2 _ => ?_⟩, us ++ news, (hus.append hv).moves hm, fun j u hj => ?_⟩
      · rw [World.frozen?_setCells]
        rw [hs1] at hsh
        cases hsh
        refine hz1 x ?_ h2 (.inl ht)
        rcases hk' with ⟨_, h4⟩ | ⟨t, rfl, rfl⟩
        · have h0 : ty.lo cs.length = 0 := by cases ty <;> first | rfl | cases h4
          simp only [Kd.lo] at h1
          omega
        · simp only [Kd.lo, List.length_append] at h1 ⊢
          omega
      · have hul := hus.len
        rcases Nat.lt_or_ge j us.length with h3 | h3
        · rw [List.getElem?_append_left h3] at hj
          rw [hout _ _ (fun _ => by omega)]
          exact hcell j u hj
        · rw [List.getElem?_append_right h3] at hj
          have hlt := (List.getElem?_eq_some_iff.1 hj).1
          have := World.cell?_setCells_in gj.blk news (gj.off + cs.length) w (fun k hk => shape_cell hsh (by omega)) (j - us.length) hlt
          rw [show gj.off + j = gj.off + cs.length + (j - us.length) by omega]
          rw [this]
          rw [List.getElem?_eq_getElem hlt] at hj
          exact hj
  · rcases old j g1 b1 h1 h3 with ⟨p1, p2, p3⟩ | ⟨e1, e2, e3⟩ <;> rcases old k g2 b2 h2 h4 with ⟨q1, q2, q3⟩ | ⟨f1, f2, f3⟩
    · exact h.dj j k g1 g2 b1 b2 hjk p1 q1 p2 q2 r x hr1 hr2
    · exact h.dj j i g1 g b1 _ p3 p1 hg p2 hi r x hr1 ⟨by rw [← f2]; exact hr2.1, by rw [← f2]; exact hr2.2.1, .inl ht⟩
    · exact h.dj k i g2 g b2 _ q3 q1 hg q2 hi r x hr2 ⟨by rw [← e2]; exact hr1.1, by rw [← e2]; exact hr1.2.1, .inl ht⟩
    · exact hjk (e1.trans f1.symm)
  · rcases old j gj b h1 h2 with ⟨h1, h2, hne⟩ | ⟨rfl, rfl, rfl⟩
    · exact h.fr j gj b h1 h2 r x hr
    · exact h.fr i gj _ hg hi r x ⟨hr.1, hr.2.1, .inl ht⟩
  · rcases old j gj _ h1 h2 with ⟨h1, h2, hne⟩ | ⟨e1, e2, e3⟩
    · have hnot : ∀ x, InReg gj b gj.blk x → gj.blk = g.blk → x < g.off + cs.length := by
        intro x hx e1
        rcases Nat.lt_or_ge x (g.off + cs.length) with h3 | h3
        · exact h3
        · exact absurd hx (h.dj i j g gj _ _ (fun e => hne e.symm) hg h1 hi h2 gj.blk x ⟨e1.symm, by omega, .inl ht⟩)
      refine (h.ty j gj b h1 h2).keep hm (fun h5 h6 => hheap _ _ _ (fun e1 => ?_))
      have := hnot (g.off + cs.length) ⟨rfl, by omega, .inl h6⟩ e1
      omega
    · subst e3 e2
      rcases hk' with ⟨rfl | ⟨t, rfl, rfl⟩, _⟩ | ⟨t, rfl, rfl⟩
      · trivial
      · obtain ⟨y0, y1, n', y2⟩ := h.ty i gj _ hg hi
        exact ⟨y0, y1, n', by rw [hsame]; exact y2⟩
      · have hkk : ∀ (vs : List Value) (w' : World) (o : Nat), KdOk w' gj cs.length (.ice t) → KdOk (w'.setCells gj.blk o vs) gj cs.length (.ice t) := by
          intro vs
          induction vs with
          | nil => intro w' o h; exact h
          | cons v vs ih => intro w' o h; exact ih _ _ h.setCell
        intro ht'
        obtain ⟨z1, C, lo, hi', z2, z3⟩ := hkk news w (gj.off + cs.length) (h.ty i gj _ hg hi) ht'
        exact ⟨z1, C, lo, hi', z2, z3.imp id (fun h => by simp [Blk.size]; omega)⟩

/-- An empty block that lies nowhere takes a new number. -/
theorem HpOk.reborn (h : HpOk F w regs H) {i : Nat} {g : Reg} {t : TypeId} (hi : H[i]? = some (some (.cells [] (.ice t)))) (hg : regs[i]? = some g) (ht : g.tail = false) :
    HpOk F w (regs ++ [g]) (H.set i none ++ [some (.cells [] (.ice t))]) ∧ Keeps (owned regs H) w w ∧ Grow w (owned regs H) (owned (regs ++ [g]) (H.set i none ++ [some (.cells [] (.ice t))])) ∧
    Moves (tot F regs H) w regs (tot F (regs ++ [g]) (H.set i none ++ [some (.cells [] (.ice t))])) w (regs ++ [g]) := by
  have hlen : regs.length = (H.set i none).length := by simp [h.len]
  have hno : ∀ r x, ¬ InReg g (.cells [] (.ice t)) r x := by
    rintro r x ⟨_, h1, h2 | h2⟩
    · rw [ht] at h2; cases h2
    · have h2' : x < g.off + 0 := h2
      omega
  have hgr : Grow w (owned regs H) (owned (regs ++ [g]) (H.set i none ++ [some (.cells [] (.ice t))])) := by
    intro r x ho
    rcases (owned_push hlen r x).1 ho with h1 | ⟨c, hc, h1⟩
    · exact .inl (owned_kill h1)
    · cases hc; exact absurd h1 (hno r x)
  have hm := Moves.of_keeps (F := F) (Keeps.refl _ _) hgr (fun j gj hj => get_append_old hj)
  have old : ∀ (j : Nat) (gj : Reg) (b : Blk), (regs ++ [g])[j]? = some gj → (H.set i none ++ [some (.cells [] (.ice t))])[j]? = some (some b) →
      (regs[j]? = some gj ∧ H[j]? = some (some b) ∧ j ≠ i) ∨ (j = H.length ∧ gj = g ∧ b = .cells [] (.ice t)) := by
    intro j gj b h1 h2
    rcases get_snoc h1 with h1 | ⟨e1, e1'⟩ <;> rcases get_snoc h2 with h2 | ⟨e2, e2'⟩
    · have := set_none_get h2; exact .inl ⟨h1, this.1, this.2⟩
    · have := (List.getElem?_eq_some_iff.1 h1).1; simp at e2; have := h.len; omega
    · have := (List.getElem?_eq_some_iff.1 h2).1; simp at this; have := h.len; omega
    · cases e2'; exact .inr ⟨by simpa using e2, e1', rfl⟩
  refine ⟨⟨by simp [h.len], fun j gj b h1 h2 => ?_, fun j k g1 g2 b1 b2 hjk h1 h2 h3 h4 r x hr1 hr2 => ?_, fun j gj b h1 h2 r x hr => ?_, h.lt, fun j gj b h1 h2 => ?_⟩, .refl _ _, hgr, hm⟩
  · rcases old j gj b h1 h2 with ⟨h1, h2, hne⟩ | ⟨rfl, rfl, rfl⟩
    · exact (h.blk j gj b h1 h2).keep hm (fun _ _ => rfl) (fun _ _ => rfl) (fun _ _ => rfl)
    · exact (h.blk i gj _ hg hi).keep hm (fun _ _ => rfl) (fun _ _ => rfl) (fun _ _ => rfl)
  · rcases old j g1 b1 h1 h3 with ⟨p1, p2, p3⟩ | ⟨e1, e2, e3⟩ <;> rcases old k g2 b2 h2 h4 with ⟨q1, q2, q3⟩ | ⟨f1, f2, f3⟩
    · exact h.dj j k g1 g2 b1 b2 hjk p1 q1 p2 q2 r x hr1 hr2
    · subst f2 f3; exact hno _ _ hr2
    · subst e2 e3; exact hno _ _ hr1
    · subst e2 e3; exact hno _ _ hr1
  · rcases old j gj b h1 h2 with ⟨h1, h2, hne⟩ | ⟨rfl, rfl, rfl⟩
    · exact h.fr j gj b h1 h2 r x hr
    · exact absurd hr (hno r x)
  · rcases old j gj _ h1 h2 with ⟨h1, h2, hne⟩ | ⟨e1, e2, e3⟩
    · exact (h.ty j gj b h1 h2).keep hm (fun _ _ => rfl)
    · subst e3 e2; exact h.ty i gj _ hg hi

/-- append onto nil, or onto a block of the run's own that is given up. -/
theorem appendN_sound {t t2 ty : TypeId} {d2 : TypeDesc} {s x : EV} {us ux : Value} {v : EV} {H' : Heap} {ob : Option Bool} (h : appendN P H t s x = some (v, H', ob)) (hm : Met ob)
    (hd2 : P.underlying t2 = some d2) (hni : notInt d2) (hh : HpOk F w regs H) (hs : VE (tot F regs H) w regs s us) (hx : VE (tot F regs H) w regs x ux) :
    ∃ u w' regs', (Builtin.append_ #[t, t2] ty #[us, ux]).run P w = .ok u w' ∧ StepOk F w regs H v H' u w' regs' := by
  unfold appendN at h
  split at h
  · rename_i e hd
    split at h
    · rename_i info hi
      split at h
      · rename_i xs n hsc
        have key : some (decide (n = 0) && decide (xs.length = 0)) = ob → ∃ news : List Value, (Builtin.lenOf ux).run P w = .ok 0 w ∧ (Builtin.firstCells info.size 0 ux).run P w = .ok news.toArray w ∧ news = [] := by
          intro he
          subst he
          have hb := hm.some
          simp only [Bool.and_eq_true, decide_eq_true_eq] at hb
          obtain ⟨rfl, hxl⟩ := hb
          obtain ⟨news, hnv, hlen, hfirst⟩ := sliceCells_sound (P := P) hsc hh hx (by simpa using hxl)
          refine ⟨[], hlen, ?_, rfl⟩
          have := hfirst 0 w (Nat.le_refl _) rfl
          simpa using this
        split at h
        · cases h
          obtain ⟨news, k1, k2, k3⟩ := key rfl
          cases hs with | p _ _ hs =>
          cases hs
          exact ⟨_, w, regs, append_nothing (t2 := t2) (ty := ty) hd hd2 hni hi k1 k2, StepOk.same hh (.p _ _ .nils)⟩
        · rename_i i off len z
          cases h
          obtain ⟨news, k1, k2, k3⟩ := key rfl
          subst k3
          have hs' := hs
          cases hs with | sl _ _ _ _ g a c hg ht hc ha hf =>
          exact ⟨_, w, regs, append_fits (t2 := t2) (ty := ty) (n := 0) (news := []) (w' := w) hd hd2 hni hi k1 k2 hc rfl, StepOk.same hh hs'⟩
        · cases h
      · cases h
    · cases h
  · cases h

theorem appendE_sound {t t2 ty : TypeId} {d2 : TypeDesc} {s x : EV} {us ux : Value} {v : EV} {H' : Heap} {ob : Option Bool} (h : appendE P H t s x = some (v, H', ob)) (hm : Met ob)
    (hd2 : P.underlying t2 = some d2) (hni : notInt d2) (hh : HpOk F w regs H) (hs : VE (tot F regs H) w regs s us) (hx : VE (tot F regs H) w regs x ux) :
    ∃ u w' regs', (Builtin.append_ #[t, t2] ty #[us, ux]).run P w = .ok u w' ∧ StepOk F w regs H v H' u w' regs' := by
  unfold appendE at h
  split at h
  · rename_i e hd
    split at h
    · rename_i info hi
      split at h
      · rename_i xs n hsc
        split at h
        · rename_i h1 hzl
          have hsize : 1 ≤ info.size := Nat.le_of_ble_eq_true h1
          cases hze : zeroE P e with
          | none => simp [hze] at hzl
          | some z =>
          simp only [hze, Option.map_some, Option.some.injEq] at hzl
          have hzlen : z.length = info.size := Nat.eq_of_beq_eq_true hzl
          obtain ⟨zv, hzr, hzs, i', hi', hzv⟩ := zeroE_sound (P := P) (own := tot F regs H) (w := w) hze
          rw [hi] at hi'; cases hi'
          have hzu : zv.cells.size = info.size := by have := hzs.len; simp at this; omega
          split at h
          · cases h
            have hb := hm.some
            simp only [Bool.and_eq_true, decide_eq_true_eq] at hb
            obtain ⟨⟨hall, hn, hxl⟩, hbytes, hpos⟩ := hb
            cases hs with | p _ _ hs =>
            cases hs
            obtain ⟨news, hnv, hlen, hfirst⟩ := sliceCells_sound (P := P) hsc hh hx hxl
            have hnl : news.length = n * info.size := by rw [← hnv.len]; exact hxl
            obtain ⟨cap, hge, hrun⟩ := append_grows (t2 := t2) (ty := ty) (base := none) (sLen := 0) (sCap := 0) (old := []) hd hd2 hni hi hzv hlen
              (fun w1 hw1 => by have := hfirst n w1 (Nat.le_refl _) hw1; rwa [List.take_of_length_le (by omega)] at this)
              (fun w1 hw1 => by simp [Builtin.firstCells]) (by omega) (by simpa using hbytes) hpos
            simp only [Nat.zero_add] at hrun hge
            refine ⟨_, _, _, hrun, StepOk.newSliceK hh (.row e) (us := news) (e := e) (fz := (0, 0)) rfl (.inl rfl) hnv (fun j u hj => ?_) ?_ hge ?_ ⟨rfl, rfl, _, shape_push rfl⟩⟩
            · have hlt := (List.getElem?_eq_some_iff.1 hj).1
              rw [Array.getElem?_append_left (by simp; omega), Array.getElem?_append_right (by simp)]
              simpa using hj
            · simp [size_zeroCells]; omega
            · simp [size_zeroCells, hzu]
              rw [hnl, ← Nat.add_mul]
              exact Nat.mul_le_mul_right _ (by omega)
          · rename_i i len zz
            split at h
            · rename_i cs tb hzz hib
              split at h
              rotate_left
              · cases h
              rename_i hsoft
              cases h
              have hzze : zz = info.size := Nat.eq_of_beq_eq_true hzz
              subst hzze
              have hb := hm.some
              simp only [Bool.and_eq_true, decide_eq_true_eq] at hb
              obtain ⟨⟨⟨hall, hxl⟩, hcl⟩, hbytes, hpos⟩ := hb
              cases hs with | sl _ _ _ _ g a c hg ht hc ha hf =>
              obtain ⟨⟨e', N, hsh, hN, hfz⟩, old, hold, hcell⟩ := hh.blk i g _ hg hib
              obtain ⟨news, hnv, hlen, hfirst⟩ := sliceCells_sound (P := P) hsc hh hx hxl
              have hnl : news.length = n * info.size := by rw [← hnv.len]; exact hxl
              have hol : old.length = len * info.size := by rw [← hold.len]; exact hcl
              obtain ⟨e2, N2, hsh2, hN2⟩ := hf
              rw [hsh] at hsh2
              cases hsh2
              have hae := ha (.inl rfl)
              simp only [Nat.add_zero] at hae hN2
              subst hae
              by_cases hfit : len + n ≤ c
              · have hspare : g.off + cs.length + news.length ≤ N := by
                  have h3 : (len + n) * info.size ≤ c * info.size := Nat.mul_le_mul_right _ hfit
                  rw [Nat.add_mul] at h3
                  omega
                have hst := run_storeCells_cells (P := P) g.blk (g.off + len * info.size) news 0 w (fun j hj => shape_cell hsh (by omega))
                  (fun j hj => hfz _ (by have h0 : tb.lo cs.length = 0 := (by cases tb <;> first | rfl | cases hsoft); omega) (by omega) (.inl ht)) (allCells_mem hall hnv)
                have hrun := append_fits (t2 := t2) (ty := ty) (a := ⟨g.blk, g.off, none⟩) (sCap := c) hd hd2 hni hi hlen
                  (by have := hfirst n w (Nat.le_refl _) rfl; rwa [List.take_of_length_le (by omega)] at this) hfit (by rw [addr_add]; exact hst)
                simp only [Nat.add_zero] at hrun
                rw [← hcl] at hrun
                obtain ⟨b1, b2, b3, b4⟩ := hh.extend (k' := rowKd tb e) hib hg ht (.inl ⟨rowKd_or tb e, hsoft⟩) hsh hspare hnv
                refine ⟨_, _, _, hrun, b1, ⟨_, rfl⟩, ?_, b4, b2, b3⟩
                exact .sl _ 0 _ _ g _ _ (by have := get_last (g := g) hh.len; simpa using this) ht (by omega) (fun _ => by simp) ⟨e', N, b4.shape _ _ _ hsh, by simpa using hN2⟩
              · obtain ⟨cap, hge, hrun⟩ := append_grows (t2 := t2) (ty := ty) (base := some ⟨g.blk, g.off, none⟩) (sLen := len) (sCap := c) (old := old) hd hd2 hni hi hzv hlen
                  (fun w1 hw1 => by have := hfirst n w1 (Nat.le_refl _) hw1; rwa [List.take_of_length_le (by omega)] at this)
                  (fun w1 hw1 => by
                    have := run_loadCells_list (P := P) w1 ⟨g.blk, g.off, none⟩ old (fun j v hj => by
                      rw [addr_add]
                      have := hcell _ _ hj
                      unfold World.cell? at this ⊢
                      rw [hw1]; exact this)
                    rw [hol] at this
                    simpa [Builtin.firstCells] using this) hfit hbytes hpos
                have hk := hh.kill i
                have hmk : Moves (tot F regs H) w regs (tot F regs (H.set i none)) w regs := Moves.kill i
                have hst := StepOk.newSliceK (n := len + n) (c := cap) (z := info.size) hk (rowKd tb e) (us := old ++ news) (e := e) (fz := (0, 0))
                  (C := old.toArray ++ news.toArray ++ Builtin.zeroCells zv.cells (cap - (len + n)))
                  (w' := { w with drawn := w.drawn + 1, heap := w.heap.push (.cells (old.toArray ++ news.toArray ++ Builtin.zeroCells zv.cells (cap - (len + n))) e) }) rfl (.inl rfl)
                  ((hold.append hnv).moves hmk) (fun j u hj => by
                    have hlt := (List.getElem?_eq_some_iff.1 hj).1
                    rw [Array.getElem?_append_left (by simpa using hlt), ← Array.getElem?_toList]
                    simpa using hj) (by simp [size_zeroCells]; have := hold.len; have := hnv.len; omega) hge
                  (by simp [size_zeroCells, hzu]; rw [hnl, hol, ← Nat.add_mul, ← Nat.add_mul]; exact Nat.mul_le_mul_right _ (by omega)) (rowKd_ok tb rfl)
                rw [List.length_set] at hst
                refine ⟨_, _, _, hrun, hst.hp, hst.ext, hst.val, hmk.trans hst.mv, ?_, ?_⟩
                · exact (Keeps.refl _ _).trans (fun r x hx => .inl (owned_kill hx)) hst.kp
                · exact Grow.trans (Nat.le_refl _) (fun r x hx => .inl (owned_kill hx)) hst.gr
            · cases h
          · rename_i i len zz
            split at h
            · rename_i cs t' hzz hib
              split at h
              rotate_left
              · cases h
              rename_i hte
              have hte' : t' = e := Nat.eq_of_beq_eq_true hte
              subst hte'
              cases h
              have hzze : zz = info.size := Nat.eq_of_beq_eq_true hzz
              subst hzze
              have hb := hm.some
              simp only [Bool.and_eq_true, decide_eq_true_eq] at hb
              obtain ⟨⟨⟨hall, hxl⟩, hcl⟩, hbytes, hpos⟩ := hb
              obtain ⟨news, hnv, hlen, hfirst⟩ := sliceCells_sound (P := P) hsc hh hx hxl
              have hnl : news.length = n * info.size := by rw [← hnv.len]; exact hxl
              have hk := hh.kill i
              have hmk : Moves (tot F regs H) w regs (tot F regs (H.set i none)) w regs := Moves.kill i
              cases hs with
              | nsln _ _ g hg ht =>
                have hcs : cs = [] := by
                  have : cs.length = 0 := by rw [hcl]; simp
                  exact List.length_eq_zero_iff.1 this
                subst hcs
                rcases Nat.eq_zero_or_pos n with hn0 | hn0
                · subst hn0
                  have hnn : news = [] := List.length_eq_zero_iff.1 (by rw [hnl]; simp)
                  subst hnn
                  cases hnv
                  have hrun := append_nothing (t2 := t2) (ty := ty) hd hd2 hni hi hlen (hfirst 0 w (Nat.le_refl _) rfl)
                  obtain ⟨q1, q2, q3, q4⟩ := hh.reborn hib hg ht
                  exact ⟨_, _, _, hrun, q1, ⟨_, rfl⟩, .nsln _ _ g (by have := get_last (g := g) hh.len; simpa using this) ht, q4, q2, q3⟩
                · obtain ⟨cap, hge, hrun⟩ := append_grows (t2 := t2) (ty := ty) (base := none) (sLen := 0) (sCap := 0) (old := []) hd hd2 hni hi hzv hlen
                    (fun w1 hw1 => by have := hfirst n w1 (Nat.le_refl _) hw1; rwa [List.take_of_length_le (by omega)] at this)
                    (fun w1 hw1 => by simp [Builtin.firstCells]) (by omega) (by simpa using hbytes) hpos
                  have hst := StepOk.newNsl (n := 0 + n) (c := cap) (z := info.size) hk (us := news) (e := t') (cs := [] ++ xs)
                    (C := ([] : List Value).toArray ++ news.toArray ++ Builtin.zeroCells zv.cells (cap - (0 + n)))
                    (w' := { w with drawn := w.drawn + 1, heap := w.heap.push (.cells (([] : List Value).toArray ++ news.toArray ++ Builtin.zeroCells zv.cells (cap - (0 + n))) t') }) rfl
                    (hnv.moves hmk) (fun j u hj => by
                      have hlt := (List.getElem?_eq_some_iff.1 hj).1
                      rw [Array.getElem?_append_left (by simp; omega), Array.getElem?_append_right (by simp)]
                      simpa using hj) (by simp [size_zeroCells]; omega) hge (by omega)
                    (by simp [size_zeroCells, hzu]; rw [hnl, ← Nat.add_mul]; exact Nat.mul_le_mul_right _ (by omega))
                  rw [List.length_set] at hst
                  refine ⟨_, _, _, hrun, hst.hp, hst.ext, hst.val, hmk.trans hst.mv, ?_, ?_⟩
                  · exact (Keeps.refl _ _).trans (fun r x hx => .inl (owned_kill hx)) hst.kp
                  · exact Grow.trans (Nat.le_refl _) (fun r x hx => .inl (owned_kill hx)) hst.gr
              | nsl _ _ _ g c hg ht hc h0 hf =>
                obtain ⟨⟨e', N, hsh, hN, hfz⟩, old, hold, hcell⟩ := hh.blk i g _ hg hib
                have hol : old.length = len * info.size := by rw [← hold.len]; exact hcl
                obtain ⟨e2, N2, hsh2, hN2⟩ := hf
                rw [hsh] at hsh2
                cases hsh2
                by_cases hfit : len + n ≤ c
                · have hspare : g.off + cs.length + news.length ≤ N := by
                    have h3 : (len + n) * info.size ≤ c * info.size := Nat.mul_le_mul_right _ hfit
                    rw [Nat.add_mul] at h3
                    omega
                  have hst := run_storeCells_cells (P := P) g.blk (g.off + len * info.size) news 0 w (fun j hj => shape_cell hsh (by omega))
                    (fun j hj => hfz _ (by simp only [Kd.lo]; omega) (by omega) (.inl ht)) (allCells_mem hall hnv)
                  have hrun := append_fits (t2 := t2) (ty := ty) (a := ⟨g.blk, g.off, none⟩) (sCap := c) hd hd2 hni hi hlen
                    (by have := hfirst n w (Nat.le_refl _) rfl; rwa [List.take_of_length_le (by omega)] at this) hfit (by rw [addr_add]; exact hst)
                  simp only [Nat.add_zero] at hrun
                  rw [← hcl] at hrun
                  obtain ⟨b1, b2, b3, b4⟩ := hh.extend hib hg ht (.inr ⟨t', rfl, rfl⟩) hsh hspare hnv
                  refine ⟨_, _, _, hrun, b1, ⟨_, rfl⟩, ?_, b4, b2, b3⟩
                  exact .nsl _ _ _ g _ (by have := get_last (g := g) hh.len; simpa using this) ht (by omega) h0 ⟨e', N, b4.shape _ _ _ hsh, by simpa using hN2⟩
                · obtain ⟨cap, hge, hrun⟩ := append_grows (t2 := t2) (ty := ty) (base := some ⟨g.blk, g.off, none⟩) (sLen := len) (sCap := c) (old := old) hd hd2 hni hi hzv hlen
                    (fun w1 hw1 => by have := hfirst n w1 (Nat.le_refl _) hw1; rwa [List.take_of_length_le (by omega)] at this)
                    (fun w1 hw1 => by
                      have := run_loadCells_list (P := P) w1 ⟨g.blk, g.off, none⟩ old (fun j v hj => by
                        rw [addr_add]
                        have := hcell _ _ hj
                        unfold World.cell? at this ⊢
                        rw [hw1]; exact this)
                      rw [hol] at this
                      simpa [Builtin.firstCells] using this) hfit hbytes hpos
                  have hst := StepOk.newNsl (n := len + n) (c := cap) (z := info.size) hk (us := old ++ news) (e := t') (cs := cs ++ xs)
                    (C := old.toArray ++ news.toArray ++ Builtin.zeroCells zv.cells (cap - (len + n)))
                    (w' := { w with drawn := w.drawn + 1, heap := w.heap.push (.cells (old.toArray ++ news.toArray ++ Builtin.zeroCells zv.cells (cap - (len + n))) t') }) rfl
                    ((hold.append hnv).moves hmk) (fun j u hj => by
                      have hlt := (List.getElem?_eq_some_iff.1 hj).1
                      rw [Array.getElem?_append_left (by simpa using hlt), ← Array.getElem?_toList]
                      simpa using hj) (by simp [size_zeroCells]; have := hold.len; have := hnv.len; omega) hge (by omega)
                    (by simp [size_zeroCells, hzu]; rw [hnl, hol, ← Nat.add_mul, ← Nat.add_mul]; exact Nat.mul_le_mul_right _ (by omega))
                  rw [List.length_set] at hst
                  refine ⟨_, _, _, hrun, hst.hp, hst.ext, hst.val, hmk.trans hst.mv, ?_, ?_⟩
                  · exact (Keeps.refl _ _).trans (fun r x hx => .inl (owned_kill hx)) hst.kp
                  · exact Grow.trans (Nat.le_refl _) (fun r x hx => .inl (owned_kill hx)) hst.gr
            · cases h
          · cases h
        · cases h
      · cases h
    · cases h
  · cases h

end
end Go.Vc
