/- Own texts of the proof, put together: VcX. -/
import Derived.Test.YtibbjfmgglmkkaaDoorVcDc
import Derived.Laws.Externs
/- VcU -/
namespace Go.Vc
set_option linter.unusedVariables false
set_option linter.unusedSimpArgs false

/-- Calls out of the run: each is met by a contract. -/
inductive Item where
  | br (b : Bool)
  | is (d : Nat) (v : EV)
  | wrap (d : Nat)
  | call (ret : EV) (out : Heap)
  | callv (ret : EV) (out : Heap)
  | inl
  | code (ex : Ex) (fr : Fr) (out : Heap)
  | tr (k : Nat) (x : Tr)
  | cut (k : Nat) (ex : Ex) (fr : Fr) (out : Heap)

abbrev Items := List Item

def addOb (auto : Bool) (ob : Option Bool) (obs : List Prop) : Option (List Prop) :=
  match ob with
  | none => some obs
  | some b => match auto with
    | false => some ((b = true) :: obs)
    | true => match b with
      | true => some obs
      | false => none

/-- Which way a test goes. -/
def way (auto : Bool) (its : Items) (obs : List Prop) (e : EV) : Option (Bool × Items × List Prop) :=
  match e with
  | .kb b => some (b, its, obs)
  | .p (.bool b) => match auto with
    | true => some (b, its, obs)
    | false => match its with
      | .br t :: r => some (t, r, (b = t) :: obs)
      | _ => none
  | _ => none

def isDst (o : Oper) (d : Nat) : Bool :=
  match o.dst with
  | some k => Nat.beq k d
  | none => false

/-- An operation answers what is claimed. -/
def Claim (P : Program) (G : Glob) (fr : Fr) (H : Heap) (o : Oper) (v : EV) : Prop :=
  ∃ ob, Met ob ∧ ((∃ wr, pureE P wr fr o = some (v, ob)) ∨ memE P G fr H o true = some (v, H, ob))

def plainE (P : Program) (G : Glob) (auto wr : Bool) (its : Items) (obs : List Prop) (fr : Fr) (H : Heap) (o : Oper) : Option (EV × Heap × Items × List Prop) :=
  match pureE P wr fr o with
  | some (v, ob) => match addOb auto ob obs with
    | some obs' => some (v, H, its, obs')
    | none => none
  | none => match o.op with
    | .next x true => match opnd fr x with
      | .it i => match H[i]? with
        | some (some (.iter s pos)) => match way auto its obs (.p (.bool (decide (pos < s.length)))) with
          | some (b, its', obs') => match memE P G fr H o b with
            | some (v, H', ob) => match addOb auto ob obs' with
              | some obs2 => some (v, H', its', obs2)
              | none => none
            | none => none
          | none => none
        | _ => none
      | _ => none
    | _ => match memE P G fr H o true with
      | some (v, H', ob) => match addOb auto ob obs with
        | some obs' => some (v, H', its, obs')
        | none => match memE P G fr H o false with
          | some (v, H', ob) => match addOb auto ob obs with
            | some obs' => some (v, H', its, obs')
            | none => none
          | none => none
      | none => none

/-- One operation that is no call of a Go function. -/
def stepE (P : Program) (G : Glob) (auto : Bool) (its : Items) (obs : List Prop) (fr : Fr) (H : Heap) (o : Oper) : Option (EV × Heap × Items × List Prop) :=
  match its with
  | .is d v :: r => match isDst o d with
    | true => some (v, H, r, Claim P G fr H o v :: obs)
    | false => plainE P G auto auto its obs fr H o
  | .wrap d :: r => match isDst o d with
    | true => plainE P G auto true r obs fr H o
    | false => plainE P G auto auto its obs fr H o
  | _ => plainE P G auto auto its obs fr H o

section
variable {P : Program} {G : Glob} {F : Own} {w w' : World} {regs regs' : List Reg} {H H' : Heap}

theorem addOb_sub {auto : Bool} {ob : Option Bool} {obs obs' : List Prop} (h : addOb auto ob obs = some obs') (ho : ∀ p ∈ obs', p) : Met ob ∧ ∀ p ∈ obs, p := by
  unfold addOb at h
  split at h
  · cases h; exact ⟨met_none, ho⟩
  · split at h
    · cases h; exact ⟨(met_some _).2 (ho _ (by simp)), fun p hp => ho p (by simp [hp])⟩
    · split at h
      · cases h; exact ⟨(met_some _).2 rfl, ho⟩
      · cases h

theorem way_sub {auto : Bool} {its its' : Items} {obs obs' : List Prop} {e : EV} {b : Bool} (h : way auto its obs e = some (b, its', obs')) (ho : ∀ p ∈ obs', p) :
    asB e = some b ∧ ∀ p ∈ obs, p := by
  unfold way at h
  split at h
  · cases h; exact ⟨rfl, ho⟩
  · split at h
    · cases h; exact ⟨rfl, ho⟩
    · split at h
      · cases h
        have := ho _ (List.mem_cons_self ..)
        exact ⟨by simp [asB, this], fun p hp => ho p (by simp [hp])⟩
      · cases h
  · cases h

/-- A code's first region: its number and one. -/
def regId : Code → Nat
  | .seq a b => match regId a with
    | 0 => regId b
    | n => n
  | .cond _ a b => match regId a with
    | 0 => regId b
    | n => n
  | .block _ c => regId c
  | .scope c => regId c
  | .loop c => regId c
  | .region i _ _ => i + 1
  | _ => 0

/-- The next item cuts the run short: what is left of the code from the region k - 1 on is an obligation. -/
def cutAt (c : Code) (its : Items) : Option (Ex × Fr × Heap × Items) :=
  match its with
  | .cut k ex fr H :: r => match Nat.beq k (regId c) with
    | true => some (ex, fr, H, r)
    | false => none
  | _ => none

/-- The next of the run's changes of view: at a region (its number and one), at a loop (999999), at a return (0). -/
def headTr (c : Code) (its : Items) : Option (Tr × Items) :=
  match its with
  | .tr k x :: r => match c with
    | .region id _ _ => match Nat.beq k (id + 1) with
      | true => some (x, r)
      | false => none
    | .loop _ => match Nat.beq k 999999 with
      | true => some (x, r)
      | false => none
    | .ret => match Nat.beq k 0 with
      | true => some (x, r)
      | false => none
    | .seq a b => match Nat.ble 500000 k with
      | true => match Nat.beq k (500000 + regId (.seq a b)) with
        | true => some (x, r)
        | false => none
      | false => none
    | _ => none
  | _ => none

/-- What the model does at one operation. -/
def Ran (P : Program) (F : Own) (w : World) (regs : List Reg) (H : Heap) (a : Act) (o : Oper) (v : EV) (H' : Heap) : Prop :=
  ∃ r u w' regs', (execOp a.eval o).run P w = .ok r w' ∧ (r = .value u ∨ (r = .skip ∧ u = undef)) ∧ StepOk F w regs H v H' u w' regs'

theorem plainE_sound {auto wr : Bool} {its its' : Items} {obs obs' : List Prop} {fr : Fr} {a : Act} {o : Oper} {v : EV} (h : plainE P G auto wr its obs fr H o = some (v, H', its', obs'))
    (ho : ∀ p ∈ obs', p) (hh : HpOk F w regs H) (hG : GlOk G (tot F regs H) w) (hf : FrOk (tot F regs H) w regs fr a) : (∀ p ∈ obs, p) ∧ Ran P F w regs H a o v H' := by
  unfold plainE at h
  split at h
  · rename_i v' ob hp
    split at h
    · rename_i obs2 hob
      cases h
      obtain ⟨hm, hs⟩ := addOb_sub hob ho
      obtain ⟨u, hr, hv⟩ := pureE_sound hp hm hf
      exact ⟨hs, _, u, w, regs, hr, .inl rfl, StepOk.same hh hv⟩
    · cases h
  · split at h
    · split at h
      · split at h
        · split at h
          · rename_i b its2 obs2 hway
            split at h
            · rename_i v' H2 ob hmem
              split at h
              · rename_i obs3 hob
                cases h
                obtain ⟨hm, hs⟩ := addOb_sub hob ho
                exact ⟨(way_sub hway hs).2, memE_sound hmem hm hh hG hf⟩
              · cases h
            · cases h
          · cases h
        · cases h
      · cases h
    · split at h
      · rename_i v' H2 ob hmem
        split at h
        · rename_i obs3 hob
          cases h
          obtain ⟨hm, hs⟩ := addOb_sub hob ho
          exact ⟨hs, memE_sound hmem hm hh hG hf⟩
        · split at h
          · rename_i v' H2 ob hmem
            split at h
            · rename_i obs3 hob
              cases h
              obtain ⟨hm, hs⟩ := addOb_sub hob ho
              exact ⟨hs, memE_sound hmem hm hh hG hf⟩
            · cases h
          · cases h
      · cases h

theorem stepE_sound {auto : Bool} {its its' : Items} {obs obs' : List Prop} {fr : Fr} {a : Act} {o : Oper} {v : EV} (h : stepE P G auto its obs fr H o = some (v, H', its', obs'))
    (ho : ∀ p ∈ obs', p) (hh : HpOk F w regs H) (hG : GlOk G (tot F regs H) w) (hf : FrOk (tot F regs H) w regs fr a) : (∀ p ∈ obs, p) ∧ Ran P F w regs H a o v H' := by
  unfold stepE at h
  split at h
  · split at h
    · cases h
      obtain ⟨ob, hm, hc⟩ := ho _ (List.mem_cons_self ..)
      refine ⟨fun p hp => ho p (by simp [hp]), ?_⟩
      rcases hc with ⟨wr, hc⟩ | hc
      · obtain ⟨u, hr, hv⟩ := pureE_sound hc hm hf
        exact ⟨_, u, w, regs, hr, .inl rfl, StepOk.same hh hv⟩
      · exact memE_sound hc hm hh hG hf
    · exact plainE_sound h ho hh hG hf
  · split at h
    · exact plainE_sound h ho hh hG hf
    · exact plainE_sound h ho hh hG hf
  · exact plainE_sound h ho hh hG hf

end

/-! ### calls -/

def calleeE : EV → Option (FuncId × List EV × List EV)
  | .p (.func (.func f)) => some (f, [], [])
  | .clo (.func f) a b => some (f, a, b)
  | _ => none

/-- A function that the model itself carries out. -/
def IsExt (P : Program) (f : FuncId) (e : Array Value → Sem Value) : Prop :=
  ∃ fn, P.funcs[f]? = some fn ∧ (fn.name == "runtime.NumGoroutine") = false ∧ fn.body.isNone = true ∧ Extern.findNext fn = none ∧ Extern.find fn = some e

def idxN : List Nat → Nat → Int → Int
  | [], _, _ => -1
  | x :: r, c, k => match Nat.beq x c with
    | true => k
    | false => idxN r c (k + 1)

def extE (P : Program) (f : FuncId) (args : List EV) (H : Heap) : Option (EV × Heap × Prop) :=
  match P.funcs[f]? with
  | some fn => match fn.name == "internal/abi.NoEscape", args with
    | true, [v] => some (v, H, IsExt P f Extern.AbiNoEscape.same)
    | _, _ => match fn.name == "internal/bytealg.IndexByteString", args with
      | true, [.p (.str s), .p (.int .u8 c)] => some (.p (.int .i64 (idxN s (c.toNat % 256) 0)), H, IsExt P f Extern.BytealgIndexByte.indexByte)
      | _, _ => match fn.name == "internal/bytealg.MakeNoZero", args, fn.resultTypes.toList with
        | true, [.p (.int .i64 n)], [t] => match P.underlying t with
          | some (.slice e) => some (.raw H.length n.toNat, H ++ [some (.bytes [] e)], IsExt P f (Extern.BytealgMakeNoZero.makeNoZero fn.params #[t]) ∧ 0 ≤ n ∧ n ≤ 1099511627776)
          | _ => none
        | _, _, _ => none
  | none => none

/-- A Go function with a body, that the model enters. -/
def enters (P : Program) (f : FuncId) : Option (Func × Code) :=
  match P.funcs[f]? with
  | some fn => match fn.body with
    | some c => match fn.name == "runtime.NumGoroutine" with
      | false => some (fn, c)
      | true => none
    | none => none
  | none => none

def argFr : Nat → List EV → Fr
  | _, [] => []
  | k, v :: vs => (k, v) :: argFr (k + 1) vs

/-- What lies in a result's cell. -/
def cellE (P : Program) (H : Heap) (t : TypeId) (x : EV) : Option EV :=
  match x with
  | .ptr i off => match loadE P (fun _ => none) H t (.ptr i off) with
    | some (v, none) => some v
    | some (v, some b) => match b with
      | true => some v
      | false => none
    | none => none
  | _ => none

def resE (P : Program) (H : Heap) (fr : Fr) : List ResultVar → Option (List EV)
  | [] => some []
  | .tmp t :: r => match resE P H fr r with
    | some vs => some (fget fr t :: vs)
    | none => none
  | .cell a t :: r => match cellE P H t (fget fr a), resE P H fr r with
    | some v, some vs => some (v :: vs)
    | _, _ => none

def retE : List EV → EV
  | [v] => v
  | vs => .tup vs

/-- The operation as a call of a Go function. -/
def callOf (fr : Fr) (o : Oper) : Option (FuncId × List EV) :=
  match o.op with
  | .call { callee := .value f, args := as_, .. } => match calleeE (opnd fr f) with
    | some (f, a, b) => some (f, a ++ as_.toList.map (opnd fr) ++ b)
    | none => none
  | _ => none

def isCall (o : Oper) : Bool :=
  match o.op with
  | .call { callee := .value _, .. } => true
  | _ => false

/-- The value of an operation that was passed over. -/
def skipped : EV → Bool
  | .tup [] => true
  | _ => false

def yieldE (ops : Array Oper) (fr : Fr) (j : Nat) : EV :=
  match ops[j]? with
  | some o => match o.dst with
    | some d => fget fr d
    | none => .und
  | none => .und

def dstOk (nt : Nat) (o : Oper) : Bool :=
  match o.dst with
  | some d => Nat.blt d nt
  | none => true

end Go.Vc

/- VcV -/
namespace Go.Vc
set_option linter.unusedVariables false
set_option linter.unusedSimpArgs false

/-- Contracts of functions, as functions. -/
abbrev Tab := FuncId → Option Spec

def TabOk (P : Program) (G : Glob) (T : Tab) : Prop :=
  ∀ f spec, T f = some spec → ∀ args H obs ret H', spec args H = some (obs, ret, H') → (∀ p ∈ obs, p) → RC P G f args H ret H'

abbrev Inl := Items → List Prop → FuncId → List EV → Heap → Option (Items × List Prop × EV × Heap)

/-- One operation, a call or not: what it answers. -/
def opE (P : Program) (G : Glob) (T : Tab) (auto : Bool) (inl : Inl) (its : Items) (obs : List Prop) (fr : Fr) (H : Heap) (o : Oper) : Option (EV × Heap × Items × List Prop) :=
  match isCall o with
  | true => match callOf fr o with
    | some (f, args) => match enters P f with
      | some _ => match its with
        | .call ret out :: r => some (ret, out, r, RC P G f args H ret out :: obs)
        | .callv ret out :: r => match viaSpec (fun a h => some ([RC P G f a h ret out], ret, out)) args H with
          | some (obs2, ret2, H2) => some (ret2, H2, r, obs2 ++ obs)
          | none => none
        | .inl :: r => match inl r obs f args H with
          | some (its2, obs2, ret, H2) => some (ret, H2, its2, obs2)
          | none => none
        | _ => match T f with
          | some spec => match viaSpec spec args H with
            | some (obs2, ret, H2) => some (ret, H2, its, obs2 ++ obs)
            | none => none
          | none => match auto with
            | true => match inl its obs f args H with
              | some (its2, obs2, ret, H2) => some (ret, H2, its2, obs2)
              | none => none
            | false => none
      | none => match extE P f args H with
        | some (v, H', need) => some (v, H', its, need :: obs)
        | none => none
    | none => none
  | false => stepE P G auto its obs fr H o

/-- An operation that changes nothing, and what block it reads. -/
def softE (P : Program) (G : Glob) (wr : Bool) (fr : Fr) (H : Heap) (o : Oper) : Option (EV × Option Bool × Option Nat) :=
  match pureE P wr fr o with
  | some (v, ob) => some (v, ob, none)
  | none => match o.op with
    | .load t x => match opnd fr x with
      | .ptr b off => match loadE P G H t (.ptr b off) with
        | some (v, ob) => some (v, ob, some b)
        | none => none
      | .p y => match loadE P G [] t (.p y) with
        | some (v, ob) => some (v, ob, none)
        | none => none
      | _ => none
    | _ => none

def noGuard (o : Oper) : Bool := o.guard.isNone

/-- The operations of a region whose order is open, in the list's order. -/
def drawL (P : Program) (G : Glob) (T : Tab) (auto : Bool) (inl : Inl) (nt : Nat) : List Oper → Items → List Prop → Fr → Heap → Option (Items × List Prop × List DOp × Fr × Heap)
  | [], its, obs, fr, H => some (its, obs, [], fr, H)
  | o :: rest, its, obs, fr, H => match dstOk nt o, noGuard o with
    | true, true => match softE P G auto (keepF (tmpsOf o) fr) H o with
      | some (v, ob, blk) => match addOb auto ob obs with
        | some obs1 => match drawL P G T auto inl nt rest its obs1 (fput fr o.dst v) H with
          | some (its2, obs2, ds, fr2, H2) => some (its2, obs2, ⟨v, false, blk, H, H⟩ :: ds, fr2, H2)
          | none => none
        | none => none
      | none => match opE P G T auto inl its obs (keepF (tmpsOf o) fr) H o with
        | some (v, H', its1, obs1) => match drawL P G T auto inl nt rest its1 obs1 (fput fr o.dst v) H' with
          | some (its2, obs2, ds, fr2, H2) => some (its2, obs2, ⟨v, true, none, H, H'⟩ :: ds, fr2, H2)
          | none => none
        | none => none
    | _, _ => none

def runOps (P : Program) (G : Glob) (T : Tab) (auto : Bool) (inl : Inl) (nt : Nat) (ops : Array Oper) : List Oper → Items → List Prop → Fr → Heap → Option (Items × List Prop × Fr × Heap)
  | [], its, obs, fr, H => some (its, obs, fr, H)
  | o :: rest, its, obs, fr, H => match dstOk nt o with
    | false => none
    | true => match o.guard with
      | none => match opE P G T auto inl its obs fr H o with
        | some (v, H', its', obs') => runOps P G T auto inl nt ops rest its' obs' (fput fr o.dst v) H'
        | none => none
      | some (j, want) => match skipped (yieldE ops fr j) with
       | true => runOps P G T auto inl nt ops rest its obs (fput fr o.dst (.tup [])) H
       | false => match way auto its obs (yieldE ops fr j) with
        | some (b, its1, obs1) => match b, want with
          | true, true => match opE P G T auto inl its1 obs1 (fput fr ((ops[j]?).bind (·.dst)) (.kb true)) H o with
            | some (v, H', its', obs') => runOps P G T auto inl nt ops rest its' obs' (fput (fput fr ((ops[j]?).bind (·.dst)) (.kb true)) o.dst v) H'
            | none => none
          | false, false => match opE P G T auto inl its1 obs1 (fput fr ((ops[j]?).bind (·.dst)) (.kb false)) H o with
            | some (v, H', its', obs') => runOps P G T auto inl nt ops rest its' obs' (fput (fput fr ((ops[j]?).bind (·.dst)) (.kb false)) o.dst v) H'
            | none => none
          | true, false => runOps P G T auto inl nt ops rest its1 obs1 (fput (fput fr ((ops[j]?).bind (·.dst)) (.kb true)) o.dst (.tup [])) H
          | false, true => runOps P G T auto inl nt ops rest its1 obs1 (fput (fput fr ((ops[j]?).bind (·.dst)) (.kb false)) o.dst (.tup [])) H
        | none => none

def run (P : Program) (G : Glob) (T : Tab) : Nat → Bool → Items → List Prop → (nt B : Nat) → Fr → Heap → Code → Option (Items × List Prop × Ex × Fr × Heap)
  | 0, _, _, _, _, _, _, _, _ => none
  | n + 1, auto, its, obs, nt, B, fr, H, c => match headTr c its with
   | some (x, r) => match trE B x fr H with
    | some (fr', H') => run P G T n auto r obs nt B fr' H' c
    | none => none
   | none => match c with
    | .skip => some (its, obs, .normal, fr, H)
    | .seq c d => match cutAt (.seq c d) its with
      | some (ex, fr', H', r) => some (r, CC P G nt B fr H (.seq c d) ex fr' H' :: obs, ex, fr', H')
      | none => match run P G T n auto its obs nt B fr H c with
        | some (its1, obs1, .normal, fr1, H1) => run P G T n auto its1 obs1 nt B fr1 H1 d
        | r => r
    | .cond x c d => match way auto its obs (opnd fr x) with
      | some (true, its1, obs1) => run P G T n auto its1 obs1 nt B fr H c
      | some (false, its1, obs1) => run P G T n auto its1 obs1 nt B fr H d
      | none => none
    | .block id c => match run P G T n auto its obs nt B fr H c with
      | some (its1, obs1, .exit i, fr1, H1) => match Nat.beq i id with
        | true => some (its1, obs1, .normal, fr1, H1)
        | false => some (its1, obs1, .exit i, fr1, H1)
      | r => r
    | .loop c => match its with
      | .code ex fr' H' :: r => some (r, LC P G nt B fr H c ex fr' H' :: obs, ex, fr', H')
      | _ => match run P G T n auto its obs nt B fr H c with
        | some (its1, obs1, .normal, fr1, H1) => run P G T n auto its1 obs1 nt B fr1 H1 (.loop c)
        | r => r
    | .exit id => some (its, obs, .exit id, fr, H)
    | .label _ => some (its, obs, .normal, fr, H)
    | .goto l => some (its, obs, .goto l, fr, H)
    | .ret => some (its, obs, .ret, fr, H)
    | .region _ ops false =>
      match runOps P G T auto (fun its obs f args H => match enters P f with
          | some (fn, c) => match Nat.ble args.length fn.ntmps with
            | true => match run P G T n auto its obs fn.ntmps H.length (argFr 0 args) H c with
              | some (its1, obs1, .normal, fr1, H1) => match resE P H1 fr1 fn.results.toList with
                | some vs => some (its1, obs1, retE vs, H1)
                | none => none
              | some (its1, obs1, .ret, fr1, H1) => match resE P H1 fr1 fn.results.toList with
                | some vs => some (its1, obs1, retE vs, H1)
                | none => none
              | _ => none
            | false => none
          | none => none) nt ops ops.toList its obs fr H with
      | some (its1, obs1, fr1, H1) => some (its1, obs1, .normal, fr1, H1)
      | none => none
    | .region _ ops true => match P.follows .mixedOrders with
      | true => match drawL P G T auto (fun its obs f args H => match enters P f with
          | some (fn, c) => match Nat.ble args.length fn.ntmps with
            | true => match run P G T n auto its obs fn.ntmps H.length (argFr 0 args) H c with
              | some (its1, obs1, .normal, fr1, H1) => match resE P H1 fr1 fn.results.toList with
                | some vs => some (its1, obs1, retE vs, H1)
                | none => none
              | some (its1, obs1, .ret, fr1, H1) => match resE P H1 fr1 fn.results.toList with
                | some vs => some (its1, obs1, retE vs, H1)
                | none => none
              | _ => none
            | false => none
          | none => none) nt ops.toList its obs fr H with
        | some (its1, obs1, ds, fr1, H1) => match planChk ops.toList (befsL ops.toList []) (ds.map (·.hard)) with
          | true => some (its1, pairObs (befsL ops.toList []) ds ++ obs1, .normal, fr1, H1)
          | false => none
        | none => none
      | false => none
    | _ => none

section
variable {P : Program} {G : Glob}

theorem argFr_ok {own : Own} {w : World} {regs : List Reg} {args : List EV} {vs : List Value} (h : VEs own w regs args vs) (m k : Nat) :
    ∀ t, VE own w regs (fget (argFr k args) t) ((if t < k then undef else (vs ++ List.replicate m undef).getD (t - k) undef)) := by
  induction args generalizing vs k with
  | nil => intro t; exact .und _
  | cons v args ih =>
    cases h with | cons _ u _ us hu hs =>
    intro t
    simp only [argFr, fget]
    cases hb : Nat.beq k t with
    | true =>
      have : k = t := Nat.eq_of_beq_eq_true hb
      subst this
      simp
      exact hu
    | false =>
      have hne : k ≠ t := Nat.ne_of_beq_eq_false hb
      have := ih hs (k + 1) t
      rcases Nat.lt_or_ge t k with h1 | h1
      · rw [if_pos (by omega)] at this
        rw [if_pos h1]
        exact this
      · rw [if_neg (by omega)] at this
        rw [if_neg (by omega)]
        have e : t - k = (t - (k + 1)) + 1 := by omega
        rw [e]
        simpa using this

theorem cellE_sound {F : Own} {w : World} {regs : List Reg} {H : Heap} {t : TypeId} {x v : EV} {ux : Value} (h : cellE P H t x = some v) (hh : HpOk F w regs H) (hx : VE (tot F regs H) w regs x ux) :
    ∃ u, (do loadVar t (← asAddr ux)).run P w = .ok u w ∧ VE (tot F regs H) w regs v u := by
  unfold cellE at h
  split at h
  · rename_i i off
    have key : ∀ ob, Met ob → loadE P (fun _ => none) H t (.ptr i off) = some (v, ob) → ∃ u, (do loadVar t (← asAddr ux)).run P w = .ok u w ∧ VE (tot F regs H) w regs v u := by
      intro ob hm hl
      obtain ⟨u, hu, hv⟩ := loadE_sound hl hm hh (fun g ps hg => by cases hg) hx
      refine ⟨u, ?_, hv⟩
      cases hx with | ptr _ _ g hg =>
      simpa only [Instr.loadAt, Instr.sureAddr, asAddr, Sem.run_bind, Sem.run_pure, Result.andThen_ok] using hu
    split at h
    · rename_i v' hl
      cases h
      exact key _ met_none hl
    · rename_i v' b hl
      split at h
      · cases h
        exact key _ ((met_some _).2 rfl) hl
      · cases h
    · cases h
  · cases h

/-- A body's run is a function's. -/
theorem RC.of_CC {f : FuncId} {fn : Func} {c : Code} {args vs : List EV} {H H' : Heap} {ex : Ex} {fr' : Fr} (he : enters P f = some (fn, c)) (hn : args.length ≤ fn.ntmps)
    (h : CC P G fn.ntmps H.length (argFr 0 args) H c ex fr' H') (hex : ex = .normal ∨ ex = .ret) (hr : resE P H' fr' fn.results.toList = some vs) : RC P G f args H (retE vs) H' := by
  intro F regs w us hh hG hv
  have hf : P.funcs[f]? = some fn ∧ fn.body = some c := by
    unfold enters at he
    split at he
    · rename_i fn' hfn
      split at he
      · rename_i c' hc
        split at he
        · cases he; exact ⟨hfn, hc⟩
        · cases he
      · cases he
    · cases he
  have hul : us.length = args.length := hv.len.symm
  refine calls_of_wp hf.1 hf.2 ?_
  have hst : St G F w regs H (argFr 0 args) { tmps := us.toArray ++ Array.replicate (fn.ntmps - us.toArray.size) undef, defers := [] } fn.ntmps := by
    refine ⟨hh, hG, fun t => ?_, by simp; omega⟩
    have := argFr_ok hv (fn.ntmps - us.length) 0 t
    simp only [Nat.not_lt_zero, if_false, Nat.sub_zero] at this
    have e : (us.toArray ++ Array.replicate (fn.ntmps - us.toArray.size) undef).getD t undef = (us ++ List.replicate (fn.ntmps - us.length) undef).getD t undef := by
      rw [Array.getD_eq_getD_getElem?, List.getD_eq_getElem?_getD, ← Array.getElem?_toList]
      simp
    rw [e]; exact this
  refine wp_mono (h F regs w _ hst (Nat.le_refl _)) ?_
  rintro e a' w' ⟨rfl, hd, hB, regs', hs', hp⟩
  have key : a'.defers = [] ∧ ∃ v, (results fn a'.tmps).run P w' = .ok v w' ∧ ∃ u, Ending.returned v = .returned u ∧ ∃ regs', StepOk F w regs H (retE vs) H' u w' regs' := by
    have hres : ∀ (l : List ResultVar) (vs : List EV), resE P H' fr' l = some vs → ∃ uvs : List Value, VEs (tot F regs' H') w' regs' vs uvs ∧
        ∀ g : ResultVar → Sem Value, (∀ t, g (.tmp t) = pure (a'.tmps.getD t undef)) → (∀ a t, g (.cell a t) = (do loadVar t (← asAddr (a'.tmps.getD a undef)))) → (l.mapM g).run P w' = .ok uvs w' := by
      intro l
      induction l with
      | nil => intro vs h; cases h; exact ⟨[], .nil, fun g hg hc => rfl⟩
      | cons r l ih =>
        intro vs h
        cases r with
        | tmp t =>
          simp only [resE] at h
          split at h
          · rename_i vs' h'
            cases h
            obtain ⟨uvs, h1, h2⟩ := ih _ h'
            refine ⟨a'.tmps.getD t undef :: uvs, .cons _ _ _ _ (hs'.fr t) h1, fun g hg hc => ?_⟩
            simp only [List.mapM_cons, hg, Sem.run_bind, Sem.run_pure, Result.andThen_ok, h2 g hg hc]
          · cases h
        | cell a t =>
          simp only [resE] at h
          split at h
          · rename_i v vs' hv h'
            cases h
            obtain ⟨uvs, h1, h2⟩ := ih _ h'
            obtain ⟨u, hu, hvu⟩ := cellE_sound hv hs'.hp (hs'.fr a)
            refine ⟨u :: uvs, .cons _ _ _ _ hvu h1, fun g hg hc => ?_⟩
            simp only [List.mapM_cons, hc, Sem.run_bind, Sem.run_pure, Result.andThen_ok] at hu ⊢
            rw [hu]
            simp only [Result.andThen_ok, h2 g hg hc]
          · cases h
    obtain ⟨uvs, h1, h2⟩ := hres _ _ hr
    have hrun : (results fn a'.tmps).run P w' = .ok (if h : uvs.toArray.size = 1 then uvs.toArray[0] else .tuple uvs.toArray) w' := by
      unfold results
      rw [Sem.run_bind, Array.mapM_eq_mapM_toList, Sem.run_map, h2 _ (fun t => rfl) (fun a t => rfl)]
      rfl
    refine ⟨hd, _, hrun, _, rfl, regs', hs'.hp, ?_, ?_, ?_, hp.kp, hp.gr⟩
    · refine ⟨regs'.drop regs.length, ?_⟩
      apply List.ext_getElem?
      intro i
      rcases Nat.lt_or_ge i regs.length with h3 | h3
      · rw [List.getElem?_append_left h3]
        have := hp.mv.regs i regs[i] (take_get.2 ⟨List.getElem?_eq_getElem h3, by have := hh.len; omega⟩)
        rw [(take_get.1 this).1, List.getElem?_eq_getElem h3]
      · rw [List.getElem?_append_right h3, List.getElem?_drop]
        congr 1
        omega
    · unfold retE
      split
      · cases h1 with | cons _ _ _ _ h1 hs => cases hs; exact h1
      · rename_i hne
        have : ¬ uvs.toArray.size = 1 := by
          intro e
          have hl := h1.len
          simp at e
          rw [e] at hl
          match vs, hl with
          | [v], _ => exact hne v rfl
        rw [dif_neg this]
        exact .tup _ _ h1
    · refine ⟨hp.mv.cell, hp.mv.size, hp.mv.shape, fun i g hi => ?_⟩
      have hlt := (List.getElem?_eq_some_iff.1 hi).1
      exact (take_get.1 (hp.mv.regs i g (take_get.2 ⟨hi, by have := hh.len; omega⟩))).1
  rcases hex with rfl | rfl
  · exact key
  · exact key

end
end Go.Vc

/- VcW -/
namespace Go.Vc
set_option linter.unusedVariables false
set_option linter.unusedSimpArgs false

section
variable {P : Program} {G : Glob}

theorem enters_call {f : FuncId} {fn : Func} {c : Code} (he : enters P f = some (fn, c)) (args : Array Value) (w : World) : (callFunc f args).run P w = .ok (.enter f args) w := by
  unfold enters at he
  split at he
  · rename_i fn' hfn
    split at he
    · rename_i c' hc
      split at he
      · rename_i hnm
        cases he
        simp only [callFunc, Sem.run_bind, run_program, Result.andThen_ok, hfn, hnm, hc]
        rfl
      · cases he
    · cases he
  · cases he

theorem callOf_run {own : Own} {w : World} {regs : List Reg} {fr : Fr} {a : Act} {o : Oper} {f : FuncId} {args : List EV} (h : callOf fr o = some (f, args)) (hf : FrOk own w regs fr a) :
    ∃ vs, VEs own w regs args vs ∧ (execOp a.eval o).run P w = (callFunc f vs.toArray).run P w := by
  unfold callOf at h
  split at h
  · rename_i g as_ ts hop
    split at h
    · rename_i f' x y hc
      cases h
      have hg := opnd_sound hf g
      have has := VEs.map_opnd hf as_.toList
      have eas : as_.map a.eval = (as_.toList.map a.eval).toArray := by apply Array.toList_inj.1; simp
      have main : ∃ xs ys, a.eval g = .func (.func f) xs ys ∧ VEs own w regs x xs.toList ∧ VEs own w regs y ys.toList := by
        unfold calleeE at hc
        split at hc
        · rename_i f2 hfe
          cases hc
          rw [hfe] at hg
          generalize a.eval g = ug at *
          cases hg with | p _ _ hg =>
          cases hg
          exact ⟨#[], #[], rfl, .nil, .nil⟩
        · rename_i f2 x2 y2 hfe
          cases hc
          rw [hfe] at hg
          generalize a.eval g = ug at *
          cases hg with | clo _ _ _ us vs h1 h2 =>
          exact ⟨us.toArray, vs.toArray, rfl, by simpa using h1, by simpa using h2⟩
        · cases hc
      obtain ⟨xs, ys, hv, hx, hy⟩ := main
      refine ⟨xs.toList ++ as_.toList.map a.eval ++ ys.toList, (hx.append has).append hy, ?_⟩
      unfold execOp
      simp only [hop, resolve, hv, Deferred.ofValue, Sem.run_bind, Sem.run_pure, Result.andThen_ok, invoke]
      rw [eas]
      congr 2
      apply Array.toList_inj.1
      simp
    · cases h
  · cases h

theorem callOf_sound {own : Own} {w : World} {regs : List Reg} {fr : Fr} {a : Act} {o : Oper} {f : FuncId} {args : List EV} {fc : Func × Code} (h : callOf fr o = some (f, args))
    (he : enters P f = some fc) (hf : FrOk own w regs fr a) :
    ∃ vs, VEs own w regs args vs ∧ (execOp a.eval o).run P w = .ok (.enter f vs.toArray) w := by
  obtain ⟨vs, h1, h2⟩ := callOf_run (P := P) h hf
  exact ⟨vs, h1, by rw [h2, enters_call (fn := fc.1) (c := fc.2) he]⟩

theorem idxN_find (c : Nat) : ∀ (l : List Nat) (k : Int), idxN l c k = (match (List.range l.length).find? (fun i => l.getD i 0 == c) with
    | some i => (i : Int) + k
    | none => -1) := by
  intro l
  induction l with
  | nil => intro k; rfl
  | cons x l ih =>
    intro k
    rw [List.length_cons, List.range_succ_eq_map, List.find?_cons]
    simp only [idxN, List.getD_cons_zero]
    cases hb : Nat.beq x c with
    | true =>
      have := Nat.eq_of_beq_eq_true hb
      subst this
      simp
    | false =>
      have hne : x ≠ c := Nat.ne_of_beq_eq_false hb
      have : (x == c) = false := by simpa using hne
      simp only [this]
      rw [ih, List.find?_map]
      have e : (fun i => (x :: l).getD i 0 == c) ∘ Nat.succ = fun i => l.getD i 0 == c := by funext i; simp
      rw [e]
      cases (List.range l.length).find? (fun i => l.getD i 0 == c) with
      | none => rfl
      | some i =>
        show (i : Int) + (k + 1) = ((i + 1 : Nat) : Int) + k
        omega

theorem extE_sound {F : Own} {w : World} {regs : List Reg} {H H' : Heap} {f : FuncId} {args : List EV} {vs : List Value} {v : EV} {need : Prop} (h : extE P f args H = some (v, H', need)) (hn : need) (hh : HpOk F w regs H)
    (hv : VEs (tot F regs H) w regs args vs) : ∃ u w' regs', (callFunc f vs.toArray).run P w = .ok (.value u) w' ∧ StepOk F w regs H v H' u w' regs' := by
  unfold extE at h
  split at h
  · rename_i fn hfn
    split at h
    · cases h
      obtain ⟨fn', h1, h2, h3, h4, h5⟩ := hn
      cases hv with | cons _ u _ us hu hs =>
      cases hs
      exact ⟨u, w, regs, by rw [run_callFunc_extern h1 h2 h3 h4 h5]; rfl, StepOk.same hh hu⟩
    · split at h
      · rename_i s c _ _
        cases h
        obtain ⟨fn', h1, h2, h3, h4, h5⟩ := hn
        cases hv with | cons _ u _ us hu hs =>
        cases hs with | cons _ u2 _ us hu2 hs =>
        cases hs
        cases hu with | p _ _ hu => cases hu with | str _ b hb =>
        cases hu2 with | p _ _ hu2 =>
        cases hu2
        subst hb
        refine ⟨.int .i64 (firstIdx b c.toNat.toUInt8), w, regs, by rw [run_callFunc_extern h1 h2 h3 h4 h5, run_indexByte_string]; rfl, StepOk.same hh ?_⟩
        have : idxN (bytesOf b) (c.toNat % 256) 0 = firstIdx b c.toNat.toUInt8 := by
          rw [idxN_find]
          unfold firstIdx
          have e : (List.range (bytesOf b).length).find? (fun i => (bytesOf b).getD i 0 == c.toNat % 256) = (List.range b.size).find? fun i => b[i]! == c.toNat.toUInt8 := by
            rw [bytesOf_len]
            have key : ∀ l : List Nat, (∀ i ∈ l, i < b.size) → l.find? (fun i => (bytesOf b).getD i 0 == c.toNat % 256) = l.find? fun i => b[i]! == c.toNat.toUInt8 := by
              intro l hl
              induction l with
              | nil => rfl
              | cons i l ih =>
                have hi := hl i (by simp)
                have e1 : ((bytesOf b).getD i 0 == c.toNat % 256) = (b[i]! == c.toNat.toUInt8) := by
                  rw [bt_get b i hi, getElem!_pos b i hi]
                  rw [Bool.eq_iff_iff]
                  simp only [beq_iff_eq]
                  constructor
                  · intro h
                    apply UInt8.toNat_inj.1
                    rw [h]
                    simp
                  · intro h
                    rw [h]
                    simp
                rw [List.find?_cons, List.find?_cons, e1, ih (fun j hj => hl j (by simp [hj]))]
            exact key _ (fun i hi => List.mem_range.1 hi)
          rw [e]
          cases (List.range b.size).find? fun i => b[i]! == c.toNat.toUInt8 <;> simp
        rw [this]
        exact .p _ _ (.int _ _)
      · split at h
        · rename_i n t hnm hrt _ _
          split at h
          · rename_i e ht
            cases h
            obtain ⟨⟨fn', h1, h2, h3, h4, h5⟩, hn0, hn1⟩ := hn
            cases hv with | cons _ u _ us hu hs =>
            cases hs
            cases hu with | p _ _ hu =>
            cases hu
            obtain ⟨m, rfl⟩ := Int.eq_ofNat_of_zero_le hn0
            obtain ⟨cs, hr, hcs, _⟩ := Lib.run_makeNoZero (P := P) w fn.params t e ht m (by omega)
            have hw : (w.drew.drew.alloc (.cells cs e)).heap = w.heap.push (.cells cs e) := rfl
            obtain ⟨a1, a2, a3, a4⟩ := hh.push (b := .bytes [] e) hw (fun hm => ⟨⟨⟨e, cs.size, shape_push hw, by simp, fun x _ _ _ => by
                unfold World.frozen?
                rw [hw]
                simp⟩, [], .nil, fun j u hj => by simp at hj⟩, by simp, fun e => by cases e⟩)
              (fun _ => ⟨rfl, cs, 0, 0, by rw [hw]; simp, .inl rfl⟩)
            refine ⟨_, _, _, ?_, a1, ⟨_, rfl⟩, .raw _ _ ⟨w.heap.size, 0, true⟩ cs.size (get_last hh.len) rfl (by simpa using hcs) ⟨e, cs.size, shape_push hw, by simp⟩, a4, a2, a3⟩
            rw [run_callFunc_extern h1 h2 h3 h4 h5]
            simp only [hr, Result.andThen_ok]
            rfl
          · cases h
        · cases h
  · cases h

theorem Ran.wp {F : Own} {w : World} {regs : List Reg} {H H' : Heap} {a : Act} {o : Oper} {v : EV} (h : Ran P F w regs H a o v H') {K : Act → World → Prop} {Q : Exit → Act → World → Prop}
    (hk : ∀ u w' regs', StepOk F w regs H v H' u w' regs' → K (a.put o.dst u) w') : o.wp P a w K Q := by
  obtain ⟨r, u, w', regs', hr, hu, hs⟩ := h
  unfold Oper.wp
  rw [hr]
  rcases hu with rfl | ⟨rfl, rfl⟩
  · exact hk u w' regs' hs
  · exact hk _ w' regs' hs

/-- What an inlined call gives. -/
def InlOk (P : Program) (G : Glob) (inl : Inl) : Prop :=
  ∀ its obs f args H its' obs' ret H', inl its obs f args H = some (its', obs', ret, H') → (∀ p ∈ obs', p) → (∀ p ∈ obs, p) ∧ RC P G f args H ret H'

theorem RC.wp {F : Own} {w : World} {regs : List Reg} {H H' : Heap} {fr : Fr} {a : Act} {o : Oper} {f : FuncId} {args : List EV} {ret : EV} {fc : Func × Code} (h : RC P G f args H ret H')
    (hc : callOf fr o = some (f, args)) (he : enters P f = some fc) (hh : HpOk F w regs H) (hG : GlOk G (tot F regs H) w) (hf : FrOk (tot F regs H) w regs fr a)
    {K : Act → World → Prop} {Q : Exit → Act → World → Prop} (hk : ∀ u w' regs', StepOk F w regs H ret H' u w' regs' → K (a.put o.dst u) w') : o.wp P a w K Q := by
  obtain ⟨vs, hvs, hr⟩ := callOf_sound hc he hf
  unfold Oper.wp
  rw [hr]
  refine Calls.mono (h F regs w vs hh hG hvs) ?_
  rintro e w' ⟨u, rfl, regs', hs⟩
  exact hk u w' regs' hs

theorem opE_sound {T : Tab} (hT : TabOk P G T) {auto : Bool} {inl : Inl} (hinl : InlOk P G inl) {its its' : Items} {obs obs' : List Prop} {fr : Fr} {H H' : Heap} {o : Oper} {v : EV}
    (h : opE P G T auto inl its obs fr H o = some (v, H', its', obs')) (ho : ∀ p ∈ obs', p) :
    (∀ p ∈ obs, p) ∧ ∀ F regs w a, HpOk F w regs H → GlOk G (tot F regs H) w → FrOk (tot F regs H) w regs fr a → ∀ (K : Act → World → Prop) (Q : Exit → Act → World → Prop),
      (∀ u w' regs', StepOk F w regs H v H' u w' regs' → K (a.put o.dst u) w') → o.wp P a w K Q := by
  unfold opE at h
  split at h
  · split at h
    · rename_i f args hc
      split at h
      · rename_i fc he
        split at h
        · cases h
          exact ⟨fun p hp => ho p (by simp [hp]), fun F regs w a hh hG hf K Q hk => RC.wp (ho _ (List.mem_cons_self ..)) hc he hh hG hf hk⟩
        · split at h
          · rename_i obs2 ret2 H2 hv
            cases h
            have hrc := RC.via (P := P) (G := G) (f := f) (fun a h obs ret H' hs hob => by cases hs; exact hob _ (List.mem_cons_self ..)) hv (fun p hp => ho p (by simp [hp]))
            exact ⟨fun p hp => ho p (by simp [hp]), fun F regs w a hh hG hf K Q hk => RC.wp hrc hc he hh hG hf hk⟩
          · cases h
        · split at h
          · rename_i its2 obs2 ret H2 hi
            cases h
            obtain ⟨h1, h2⟩ := hinl _ _ _ _ _ _ _ _ _ hi ho
            exact ⟨h1, fun F regs w a hh hG hf K Q hk => RC.wp h2 hc he hh hG hf hk⟩
          · cases h
        · split at h
          · rename_i spec hsp
            split at h
            · rename_i obs2 ret H2 hv
              cases h
              have hrc := RC.via (hT _ _ hsp) hv (fun p hp => ho p (by simp [hp]))
              exact ⟨fun p hp => ho p (by simp [hp]), fun F regs w a hh hG hf K Q hk => RC.wp hrc hc he hh hG hf hk⟩
            · cases h
          · split at h
            · split at h
              · rename_i its2 obs2 ret H2 hi
                cases h
                obtain ⟨h1, h2⟩ := hinl _ _ _ _ _ _ _ _ _ hi ho
                exact ⟨h1, fun F regs w a hh hG hf K Q hk => RC.wp h2 hc he hh hG hf hk⟩
              · cases h
            · cases h
      · split at h
        · rename_i v2 H2 need hx
          cases h
          refine ⟨fun p hp => ho p (by simp [hp]), fun F regs w a hh hG hf K Q hk => ?_⟩
          obtain ⟨vs, hvs, hr⟩ := callOf_run (P := P) hc hf
          obtain ⟨u, w', regs', hu, hst⟩ := extE_sound hx (ho _ (List.mem_cons_self ..)) hh hvs
          unfold Oper.wp
          rw [hr, hu]
          exact hk u w' regs' hst
        · cases h
    · cases h
  · refine ⟨?_, ?_⟩
    · -- what was owed before is owed still
      unfold stepE plainE at h
      have hs : ∀ {auto wr : Bool} {its its' : Items} {obs obs' : List Prop}, plainE P G auto wr its obs fr H o = some (v, H', its', obs') → (∀ p ∈ obs', p) → ∀ p ∈ obs, p := by
        intro auto wr its its' obs obs' h ho
        unfold plainE at h
        split at h
        · split at h
          · rename_i hob; cases h; exact (addOb_sub hob ho).2
          · cases h
        · split at h
          · split at h
            · split at h
              · split at h
                · rename_i hway
                  split at h
                  · split at h
                    · rename_i hob; cases h; exact (way_sub hway (addOb_sub hob ho).2).2
                    · cases h
                  · cases h
                · cases h
              · cases h
            · cases h
          · split at h
            · split at h
              · rename_i hob; cases h; exact (addOb_sub hob ho).2
              · split at h
                · split at h
                  · rename_i hob; cases h; exact (addOb_sub hob ho).2
                  · cases h
                · cases h
            · cases h
      have hs2 : ∀ {its its' : Items} {obs obs' : List Prop}, stepE P G auto its obs fr H o = some (v, H', its', obs') → (∀ p ∈ obs', p) → ∀ p ∈ obs, p := by
        intro its its' obs obs' h ho
        unfold stepE at h
        split at h
        · split at h
          · cases h; exact fun p hp => ho p (by simp [hp])
          · exact hs h ho
        · split at h
          · exact hs h ho
          · exact hs h ho
        · exact hs h ho
      exact hs2 (by unfold stepE plainE; exact h) ho
    · intro F regs w a hh hG hf K Q hk
      exact (stepE_sound h ho hh hG hf).2.wp hk

end
end Go.Vc

/- VcX -/
namespace Go.Vc
set_option linter.unusedVariables false
set_option linter.unusedSimpArgs false

section
variable {P : Program} {G : Glob}

theorem yield_ok {own : Own} {w : World} {regs : List Reg} {ops : Array Oper} {fr : Fr} {a : Act} {j : Nat} {b : Bool} (h : asB (yieldE ops fr j) = some b) (hf : FrOk own w regs fr a) :
    yielded ops a.tmps j = some b ∧ FrOk own w regs (fput fr ((ops[j]?).bind (·.dst)) (.kb b)) a := by
  unfold yieldE at h
  split at h
  · rename_i o ho
    split at h
    · rename_i d hd
      have hv := asB_sound h (hf d)
      have hg : a.tmps[d]? = some (.bool b) := by
        rw [Array.getD_eq_getD_getElem?] at hv
        cases hx : a.tmps[d]? with
        | none => rw [hx] at hv; simp [undef] at hv
        | some x => rw [hx] at hv; simp at hv; rw [hv]
      refine ⟨by simp [yielded, ho, hd, hg], fun t => ?_⟩
      simp only [ho, Option.bind_some, hd, fput, fget]
      cases hb : Nat.beq d t with
      | true =>
        have : d = t := Nat.eq_of_beq_eq_true hb
        subst this
        simp only []
        rw [hv]
        exact .kb b
      | false => exact hf t
    · simp [asB] at h
  · simp [asB] at h

/-- How a state has come out of another. -/
structure Out (G : Glob) (F : Own) (w : World) (regs : List Reg) (H : Heap) (a : Act) (nt : Nat) (fr' : Fr) (H' : Heap) (a' : Act) (w' : World) (regs' : List Reg) : Prop where
  st : St G F w' regs' H' fr' a' nt
  df : a'.defers = a.defers
  le : H.length ≤ H'.length
  past : ∀ B, Past B F w regs H w' regs' H'

theorem St.step {F : Own} {w w' : World} {regs regs' : List Reg} {H H' : Heap} {fr : Fr} {a : Act} {nt : Nat} {o : Oper} {v : EV} {u : Value} (h : St G F w regs H fr a nt) (hd : dstOk nt o = true)
    (hs : StepOk F w regs H v H' u w' regs') : Out G F w regs H a nt (fput fr o.dst v) H' (a.put o.dst u) w' regs' := by
  refine ⟨⟨hs.hp, h.gl.moves hs.mv, FrOk.put (h.fr.moves hs.mv) hs.val h.sz (fun k hk => ?_), by rw [put_size]; exact h.sz⟩, put_defers _ _ _, ?_, fun B => .of_step hs⟩
  · unfold dstOk at hd
    rw [hk] at hd
    exact Nat.le_of_ble_eq_true hd
  · obtain ⟨more, rfl⟩ := hs.ext
    have h1 := hs.hp.len
    have h2 := h.hp.len
    simp at h1
    omega

theorem Out.trans {F : Own} {w w1 w2 : World} {regs regs1 regs2 : List Reg} {H H1 H2 : Heap} {a a1 a2 : Act} {nt : Nat} {fr1 fr2 : Fr} (h : Out G F w regs H a nt fr1 H1 a1 w1 regs1)
    (h' : Out G F w1 regs1 H1 a1 nt fr2 H2 a2 w2 regs2) : Out G F w regs H a nt fr2 H2 a2 w2 regs2 :=
  ⟨h'.st, h'.df.trans h.df, Nat.le_trans h.le h'.le, fun B => (h.past B).trans (h'.past B)⟩

theorem skip_yield {own : Own} {w : World} {regs : List Reg} {ops : Array Oper} {fr : Fr} {a : Act} {j : Nat} (h : skipped (yieldE ops fr j) = true) (hf : FrOk own w regs fr a) : yielded ops a.tmps j = none := by
  unfold skipped at h
  split at h
  · rename_i hy
    unfold yieldE at hy
    unfold yielded
    cases ho : ops[j]? with
    | none => rfl
    | some o =>
      rw [ho] at hy
      simp only at hy
      cases hd : o.dst with
      | none => simp [hd]
      | some d =>
        rw [hd] at hy
        simp only at hy
        have h1 := hf d
        rw [hy] at h1
        simp only [Option.bind_some, hd]
        cases ht : a.tmps[d]? with
        | none => rfl
        | some u =>
          rw [Array.getD_eq_getD_getElem?, ht] at h1
          simp only [Option.getD_some] at h1
          cases h1
          rfl
  · cases h

theorem runOps_sound {T : Tab} (hT : TabOk P G T) {auto : Bool} {inl : Inl} (hinl : InlOk P G inl) {nt : Nat} {ops : Array Oper} (l : List Oper) : ∀ {its its' : Items} {obs obs' : List Prop} {fr fr' : Fr} {H H' : Heap},
    runOps P G T auto inl nt ops l its obs fr H = some (its', obs', fr', H') → (∀ p ∈ obs', p) →
    (∀ p ∈ obs, p) ∧ ∀ F regs w a, St G F w regs H fr a nt → ∀ Q : Exit → Act → World → Prop, (∀ a' w' regs', Out G F w regs H a nt fr' H' a' w' regs' → Q .normal a' w') → wpList P ops Q l a w := by
  induction l with
  | nil =>
    intro its its' obs obs' fr fr' H H' h ho
    cases h
    exact ⟨ho, fun F regs w a hs Q hq => hq a w regs ⟨hs, rfl, Nat.le_refl _, fun B => .refl⟩⟩
  | cons o rest ih =>
    intro its its' obs obs' fr fr' H H' h ho
    -- one operation that is carried out
    have exec : ∀ {its its1 : Items} {obs obs1 : List Prop} {fr0 : Fr} {v : EV} {H1 : Heap}, dstOk nt o = true → opE P G T auto inl its obs fr0 H o = some (v, H1, its1, obs1) →
        runOps P G T auto inl nt ops rest its1 obs1 (fput fr0 o.dst v) H1 = some (its', obs', fr', H') →
        (∀ p ∈ obs, p) ∧ ∀ F regs w a, St G F w regs H fr0 a nt → ∀ Q : Exit → Act → World → Prop, (∀ a' w' regs', Out G F w regs H a nt fr' H' a' w' regs' → Q .normal a' w') →
          o.wp P a w (wpList P ops Q rest) Q := by
      intro its its1 obs obs1 fr0 v H1 hd hop hrest
      obtain ⟨h1, h2⟩ := ih hrest ho
      obtain ⟨h3, h4⟩ := opE_sound hT hinl hop h1
      refine ⟨h3, fun F regs w a hs Q hq => h4 F regs w a hs.hp hs.gl hs.fr _ Q (fun u w' regs' hst => ?_)⟩
      have hout := hs.step hd hst
      exact h2 F regs' w' _ hout.st Q (fun a2 w2 regs2 ho2 => hq a2 w2 regs2 (hout.trans ho2))
    -- one that is passed over
    have pass : ∀ {its : Items} {obs : List Prop} {fr0 : Fr}, dstOk nt o = true → runOps P G T auto inl nt ops rest its obs (fput fr0 o.dst (.tup [])) H = some (its', obs', fr', H') →
        (∀ p ∈ obs, p) ∧ ∀ F regs w a, St G F w regs H fr0 a nt → ∀ Q : Exit → Act → World → Prop, (∀ a' w' regs', Out G F w regs H a nt fr' H' a' w' regs' → Q .normal a' w') →
          wpList P ops Q rest (a.put o.dst undef) w := by
      intro its obs fr0 hd hrest
      obtain ⟨h1, h2⟩ := ih hrest ho
      refine ⟨h1, fun F regs w a hs Q hq => ?_⟩
      have hout := hs.step hd (StepOk.same hs.hp (.tup [] [] .nil))
      exact h2 F regs w _ hout.st Q (fun a2 w2 regs2 ho2 => hq a2 w2 regs2 (hout.trans ho2))
    simp only [runOps] at h
    split at h
    · cases h
    · rename_i hd
      split at h
      · rename_i hg
        split at h
        · rename_i v H1 its1 obs1 hop
          obtain ⟨h1, h2⟩ := exec hd hop h
          refine ⟨h1, fun F regs w a hs Q hq => ?_⟩
          unfold wpList
          rw [if_pos (by simp [Region.wanted, hg])]
          exact .inl (h2 F regs w a hs Q hq)
        · cases h
      · rename_i j want hg
        split at h
        · rename_i hsk
          obtain ⟨h1, h2⟩ := pass hd h
          refine ⟨h1, fun F regs w a hs Q hq => ?_⟩
          unfold wpList
          rw [if_neg (by
            simp only [Region.wanted, hg, skip_yield hsk hs.fr]
            cases want <;> decide)]
          exact h2 F regs w a hs Q hq
        split at h
        · rename_i b its1 obs1 hway
          have hyes : (∀ p ∈ obs1, p) → ∀ {F regs w a}, St G F w regs H fr a nt → Region.wanted o (yielded ops a.tmps) = (b == want) ∧ St G F w regs H (fput fr ((ops[j]?).bind (·.dst)) (.kb b)) a nt := by
            intro hob F regs w a hs
            obtain ⟨hy, hf⟩ := yield_ok (way_sub hway hob).1 hs.fr
            refine ⟨?_, hs.hp, hs.gl, hf, hs.sz⟩
            simp only [Region.wanted, hg, hy]
            cases b <;> cases want <;> rfl
          split at h
          · split at h
            · rename_i v H1 its2 obs2 hop
              obtain ⟨h1, h2⟩ := exec hd hop h
              refine ⟨(way_sub hway h1).2, fun F regs w a hs Q hq => ?_⟩
              obtain ⟨hw, hs'⟩ := hyes h1 hs
              unfold wpList
              rw [if_pos (by rw [hw]; rfl)]
              exact .inl (h2 F regs w a hs' Q hq)
            · cases h
          · split at h
            · rename_i v H1 its2 obs2 hop
              obtain ⟨h1, h2⟩ := exec hd hop h
              refine ⟨(way_sub hway h1).2, fun F regs w a hs Q hq => ?_⟩
              obtain ⟨hw, hs'⟩ := hyes h1 hs
              unfold wpList
              rw [if_pos (by rw [hw]; rfl)]
              exact .inl (h2 F regs w a hs' Q hq)
            · cases h
          · obtain ⟨h1, h2⟩ := pass hd h
            refine ⟨(way_sub hway h1).2, fun F regs w a hs Q hq => ?_⟩
            obtain ⟨hw, hs'⟩ := hyes h1 hs
            unfold wpList
            rw [if_neg (by rw [hw]; simp)]
            exact h2 F regs w a hs' Q hq
          · obtain ⟨h1, h2⟩ := pass hd h
            refine ⟨(way_sub hway h1).2, fun F regs w a hs Q hq => ?_⟩
            obtain ⟨hw, hs'⟩ := hyes h1 hs
            unfold wpList
            rw [if_neg (by rw [hw]; simp)]
            exact h2 F regs w a hs' Q hq
        · cases h

theorem CC.leaf {nt B : Nat} {fr : Fr} {H : Heap} {c : Code} {ex : Ex} (h : ∀ (a : Act) (w : World) (Q : Exit → Act → World → Prop), Q ex.to a w → Code.wp P c Q a w) : CC P G nt B fr H c ex fr H :=
  fun F regs w a hs hB => h a w _ ⟨rfl, rfl, hB, regs, hs, .refl⟩

theorem loadE_ptr {t : TypeId} {b off : Nat} {H H' : Heap} (h : H[b]? = H'[b]?) : loadE P G H t (.ptr b off) = loadE P G H' t (.ptr b off) := by
  unfold loadE
  cases aggT P t with
  | none => rfl
  | some x => cases x <;> cases sizeT P t <;> first | rfl | simp only [h]

theorem loadE_p {t : TypeId} {y : PV} {H H' : Heap} : loadE P G H t (.p y) = loadE P G H' t (.p y) := by
  unfold loadE
  cases aggT P t with
  | none => rfl
  | some x => cases x <;> cases sizeT P t <;> cases y <;> rfl

theorem softE_sound {auto : Bool} {nt : Nat} {o : Oper} {fr : Fr} {H : Heap} {v : EV} {ob : Option Bool} {blk : Option Nat} {H1 : Heap} (h : softE P G auto (keepF (tmpsOf o) fr) H o = some (v, ob, blk)) (hm : Met ob) :
    SoftOk P G o ⟨v, false, blk, H, H⟩ fr H := by
  intro Hx hx F regs w a hp hg hf K Q hk
  have ran : Ran P F w regs Hx a o v Hx := by
    unfold softE at h
    split at h
    · rename_i v' ob' hpure
      cases h
      obtain ⟨u, hr, hv⟩ := pureE_sound hpure hm hf
      exact ⟨_, u, w, regs, hr, .inl rfl, StepOk.same hp hv⟩
    · split at h
      · rename_i t x hop
        have mem : ∀ {ob'' : Option Bool}, Met ob'' → loadE P G Hx t (opnd (keepF (tmpsOf o) fr) x) = some (v, ob'') → Ran P F w regs Hx a o v Hx := by
          intro ob'' hm' hl
          exact memE_sound (dec := true) (by unfold memE; rw [hop]; simp only [hl]) hm' hp hg hf
        split at h
        · rename_i b off hxe
          split at h
          · rename_i v' ob' hl
            cases h
            refine mem hm ?_
            rw [hxe, ← hl]
            exact loadE_ptr (hx b rfl)
          · cases h
        · rename_i y hxe
          split at h
          · rename_i v' ob' hl
            cases h
            refine mem hm ?_
            rw [hxe, ← hl]
            exact loadE_p
          · cases h
        · cases h
      · cases h
  exact ran.wp hk

theorem drawL_sound {T : Tab} (hT : TabOk P G T) {auto : Bool} {inl : Inl} (hinl : InlOk P G inl) {nt : Nat} (l : List Oper) : ∀ {its its' : Items} {obs obs' : List Prop} {ds : List DOp} {fr fr' : Fr} {H H' : Heap},
    drawL P G T auto inl nt l its obs fr H = some (its', obs', ds, fr', H') → (∀ p ∈ obs', p) →
    (∀ p ∈ obs, p) ∧ Traced P G nt l ds fr H ∧ fr' = frAt fr l ds l.length ∧ H' = hpAt H ds l.length := by
  induction l with
  | nil =>
    intro its its' obs obs' ds fr fr' H H' h ho
    cases h
    exact ⟨ho, ⟨rfl, fun j o d hj => by simp at hj⟩, rfl, rfl⟩
  | cons o rest ih =>
    intro its its' obs obs' ds fr fr' H H' h ho
    simp only [drawL] at h
    split at h
    · rename_i hd hgd
      have hds : ∀ k, o.dst = some k → k < nt := by
        intro k hk
        unfold dstOk at hd
        rw [hk] at hd
        exact Nat.le_of_ble_eq_true hd
      have hguard : o.guard = none := by
        unfold noGuard at hgd
        simpa using hgd
      split at h
      · rename_i v ob blk hsoft
        split at h
        · rename_i obs1 hob
          split at h
          · rename_i its2 obs2 ds2 fr2 H2 hrest
            cases h
            obtain ⟨h1, h2, h3, h4⟩ := ih hrest ho
            obtain ⟨hm, h5⟩ := addOb_sub hob h1
            refine ⟨h5, ⟨by simp [h2.len], fun j o' d hj hdj => ?_⟩, by simp only [List.length_cons, frAt]; exact h3, by simp only [List.length_cons, hpAt]; exact h4⟩
            cases j with
            | zero =>
              simp at hj hdj
              subst hj; subst hdj
              exact ⟨hds, hguard, fun e => (by cases e), fun _ => softE_sound (nt := nt) (H1 := H) hsoft hm, fun e => by cases e⟩
            | succ j =>
              simp at hj hdj
              exact h2.op j o' d hj hdj
          · cases h
        · cases h
      · split at h
        · rename_i v H1 its1 obs1 hop
          split at h
          · rename_i its2 obs2 ds2 fr2 H2 hrest
            cases h
            obtain ⟨h1, h2, h3, h4⟩ := ih hrest ho
            obtain ⟨h5, h6⟩ := opE_sound hT hinl hop h1
            refine ⟨h5, ⟨by simp [h2.len], fun j o' d hj hdj => ?_⟩, by simp only [List.length_cons, frAt]; exact h3, by simp only [List.length_cons, hpAt]; exact h4⟩
            cases j with
            | zero =>
              simp at hj hdj
              subst hj; subst hdj
              exact ⟨hds, hguard, fun _ => rfl, fun e => (by cases e), fun _ F regs w a hp hg hf K Q hk => h6 F regs w a hp hg hf K Q hk⟩
            | succ j =>
              simp at hj hdj
              exact h2.op j o' d hj hdj
          · cases h
        · cases h
    · cases h

theorem isIn_none (n j : Nat) : isIn (Array.replicate n false) j = false := getD_replicate_false n j

/-- A region whose order is open. -/
theorem region_open (hm : P.follows .mixedOrders = true) {nt : Nat} {ops : Array Oper} {ds : List DOp} {fr : Fr} {H : Heap} (htr : Traced P G nt ops.toList ds fr H) {bf : List (List Nat)}
    (hchk : planChk ops.toList bf (ds.map (·.hard)) = true) (hobs : ∀ p ∈ pairObs bf ds, p) {B : Nat} {id : Nat} : CC P G nt B fr H (.region id ops true) .normal (frAt fr ops.toList ds ops.toList.length) (hpAt H ds ops.toList.length) := by
  have hok := plan_ok hchk hobs htr
  have hn : ds.length = ops.size := by rw [htr.len]; simp
  intro F regs w a hs hB
  obtain ⟨hp1, m1⟩ := hs.hp.drew (w1 := { w with drawn := w.drawn + 1 }) rfl
  refine wp_region_any hm ?_
  have k0 : (planOf bf ds fr H).kc ops (isIn (Array.replicate ops.size false)) = 0 := by
    unfold Plan.kc
    rw [List.length_eq_zero_iff, List.filter_eq_nil_iff]
    intro j _
    simp [isIn_none]
  have H0 : (planOf bf ds fr H).HH 0 = H := by simp [planOf]
  have past0 : Past B F w regs H { w with drawn := w.drawn + 1 } regs H :=
    ⟨⟨m1.cell, m1.size, m1.shape, fun _ _ e => e⟩, ⟨Nat.le_refl _, fun _ _ _ _ => rfl, fun _ _ _ _ => rfl, fun _ _ => rfl, fun _ _ _ => rfl, rfl, rfl⟩, fun r x h => .inl h⟩
  have inv : Inv (planOf bf ds fr H) G ops nt B F w regs H a (Array.replicate ops.size false) a { w with drawn := w.drawn + 1 } regs := by
    refine ⟨by simp, fun j o _ hj => (by rw [isIn_none] at hj; cases hj), ?_, ?_, fun t => ?_, hs.sz, rfl, ?_, ?_⟩
    · rw [k0, H0]; exact hp1
    · rw [k0, H0]; exact hs.gl.moves m1
    · rw [k0, H0, Plan.at_out (fun j hj => by rw [isIn_none] at hj; cases hj)]
      exact (hs.fr t).moves m1
    · rw [k0, H0]; exact past0
    · rw [k0, H0]; exact Nat.le_refl _
  refine wpAny_plan (Q := fun e a' w' => e = Ex.normal.to ∧ a'.defers = a.defers ∧ B ≤ (hpAt H ds ops.toList.length).length ∧
    ∃ regs', St G F w' regs' (hpAt H ds ops.toList.length) (frAt fr ops.toList ds ops.toList.length) a' nt ∧ Past B F w regs H w' regs' (hpAt H ds ops.toList.length)) hok ?_ _ _ _ _ regs inv ?_
  · intro listed a' w' regs' hi hall
    have kend : (planOf bf ds fr H).kc ops (isIn listed) = (planOf bf ds fr H).cnt ops ops.size := by
      refine Plan.kc_congr fun j hj _ => ?_
      rw [hall j hj]; simp [hj]
    have hend := heap_at (bf := bf) (fr := fr) (H := H) hn (i := ops.size) (Nat.le_refl _)
    have e : ops.toList.length = ops.size := by simp
    rw [e]
    have ihp := hi.hp
    have igl := hi.gl
    have ifr := hi.fr
    have ipa := hi.pa
    have ile := hi.le
    rw [kend, hend] at ihp igl ipa ile
    refine ⟨rfl, hi.df, Nat.le_trans hB ile, regs', ⟨ihp, igl, fun t => ?_, hi.ts⟩, ipa⟩
    have := ifr t
    rw [kend, hend] at this
    have hfr := frAt_get (bf := bf) (fr := fr) (H := H) (ds := ds) hok.one t ops.toList ds fr ops.size 0 htr.len (by simp) (fun j => by simp) (fun j => by simp)
      (by rw [Plan.at_out (fun j h => by simp at h)]; rfl)
    rw [Nat.zero_add] at hfr
    rw [hfr]
    have hat : (planOf bf ds fr H).at ops (isIn listed) t = (planOf bf ds fr H).at ops (fun j => decide (j < ops.size)) t := by
      by_cases hex : ∃ j, dstAt ops j = some t
      · obtain ⟨j, hj⟩ := hex
        rw [Plan.at_in hok.one (hall j (dstAt_lt hj)) hj, Plan.at_in hok.one (by simpa using dstAt_lt hj) hj]
      · rw [Plan.at_out (fun j _ h => hex ⟨j, h⟩), Plan.at_out (fun j _ h => hex ⟨j, h⟩)]
    rw [← hat]
    exact this
  · unfold toCome
    have : (List.range ops.size).filter (fun j => !isIn (Array.replicate ops.size false) j) = List.range ops.size := by
      rw [List.filter_eq_self]
      intro j _
      simp [isIn_none]
    rw [this]; simp

/-- The run of a piece of code is right. -/
theorem run_sound {T : Tab} (hT : TabOk P G T) (n : Nat) : ∀ {auto : Bool} {its its' : Items} {obs obs' : List Prop} {nt B : Nat} {fr fr' : Fr} {H H' : Heap} {c : Code} {ex : Ex},
    run P G T n auto its obs nt B fr H c = some (its', obs', ex, fr', H') → (∀ p ∈ obs', p) → (∀ p ∈ obs, p) ∧ CC P G nt B fr H c ex fr' H' ∧ ∀ body, c = .loop body → LC P G nt B fr H body ex fr' H' := by
  induction n with
  | zero => intro auto its its' obs obs' nt B fr fr' H H' c ex h; simp [run] at h
  | succ n ih =>
    intro auto its its' obs obs' nt B fr fr' H H' c ex h ho
    have hinl : InlOk P G (fun its obs f args H => match enters P f with
          | some (fn, c) => match Nat.ble args.length fn.ntmps with
            | true => match run P G T n auto its obs fn.ntmps H.length (argFr 0 args) H c with
              | some (its1, obs1, .normal, fr1, H1) => match resE P H1 fr1 fn.results.toList with
                | some vs => some (its1, obs1, retE vs, H1)
                | none => none
              | some (its1, obs1, .ret, fr1, H1) => match resE P H1 fr1 fn.results.toList with
                | some vs => some (its1, obs1, retE vs, H1)
                | none => none
              | _ => none
            | false => none
          | none => none) := by
      intro its obs f args H its' obs' ret H' h ho
      dsimp only at h
      split at h
      · rename_i fn c he
        split at h
        · rename_i hn
          have hn' := Nat.le_of_ble_eq_true hn
          split at h
          · rename_i its1 obs1 fr1 H1 hr
            split at h
            · rename_i vs hres
              cases h
              obtain ⟨h1, h2, _⟩ := ih hr ho
              exact ⟨h1, RC.of_CC he hn' h2 (.inl rfl) hres⟩
            · cases h
          · rename_i its1 obs1 fr1 H1 hr
            split at h
            · rename_i vs hres
              cases h
              obtain ⟨h1, h2, _⟩ := ih hr ho
              exact ⟨h1, RC.of_CC he hn' h2 (.inr rfl) hres⟩
            · cases h
          · cases h
        · cases h
      · cases h
    cases ht : headTr c its with
    | some xr =>
      obtain ⟨x, r⟩ := xr
      simp only [run, ht] at h
      split at h
      · rename_i fr1 H1 htr
        obtain ⟨h1, h2, h3⟩ := ih h ho
        exact ⟨h1, CC.tr htr h2, fun body e => LC.tr htr (h3 body e)⟩
      · cases h
    | none =>
    cases c with
    | skip => simp only [run, ht] at h; cases h; exact ⟨ho, .leaf fun a w Q hq => wp_skip hq, fun _ e => by cases e⟩
    | region id ops draw =>
      cases draw with
      | true =>
        simp only [run, ht] at h
        split at h
        · rename_i hmix
          split at h
          · rename_i its1 obs1 ds fr1 H1 hr
            split at h
            · rename_i hchk
              cases h
              obtain ⟨h1, h2, h3, h4⟩ := drawL_sound hT hinl _ hr (fun p hp => ho p (by simp [hp]))
              subst h3; subst h4
              exact ⟨h1, region_open hmix h2 hchk (fun p hp => ho p (by simp [hp])), fun _ e => by cases e⟩
            · cases h
          · cases h
        · cases h
      | false =>
        simp only [run, ht] at h
        split at h
        · rename_i its1 obs1 fr1 H1 hr
          cases h
          obtain ⟨h1, h2⟩ := runOps_sound hT hinl _ hr ho
          refine ⟨h1, fun F regs w a hs hB => wp_region_list (h2 F regs w a hs _ (fun a' w' regs' hout => ?_)), fun _ e => by cases e⟩
          exact ⟨rfl, hout.df, Nat.le_trans hB hout.le, regs', hout.st, hout.past B⟩
        · cases h
    | seq c d =>
      simp only [run, ht] at h
      split at h
      · cases h
        have hl : CC P G nt B fr H (.seq c d) ex fr' H' := ho _ (List.mem_cons_self ..)
        exact ⟨fun p hp => ho p (by simp [hp]), hl, fun _ e => by cases e⟩
      split at h
      · rename_i its1 obs1 fr1 H1 hr
        obtain ⟨h1, h2, _⟩ := ih h ho
        obtain ⟨h3, h4, _⟩ := ih hr h1
        exact ⟨h3, CC.seq h4 h2, fun _ e => by cases e⟩
      · rename_i hne
        obtain ⟨h1, h2, _⟩ := ih h ho
        refine ⟨h1, CC.seq_out h2 (fun e => ?_), fun _ e => by cases e⟩
        subst e
        exact hne _ _ _ _ h
    | cond x c d =>
      simp only [run, ht] at h
      split at h
      · rename_i its1 obs1 hway
        obtain ⟨h1, h2, _⟩ := ih h ho
        obtain ⟨h3, h4⟩ := way_sub hway h1
        exact ⟨h4, CC.cond true h3 h2, fun _ e => by cases e⟩
      · rename_i its1 obs1 hway
        obtain ⟨h1, h2, _⟩ := ih h ho
        obtain ⟨h3, h4⟩ := way_sub hway h1
        exact ⟨h4, CC.cond false h3 h2, fun _ e => by cases e⟩
      · cases h
    | block id c =>
      simp only [run, ht] at h
      split at h
      · rename_i its1 obs1 i fr1 H1 hr
        split at h
        · rename_i hb
          cases h
          have : i = id := Nat.eq_of_beq_eq_true hb
          subst this
          obtain ⟨h1, h2, _⟩ := ih hr ho
          exact ⟨h1, CC.block h2 (.inr (.inl ⟨rfl, rfl⟩)), fun _ e => by cases e⟩
        · rename_i hb
          cases h
          have hne : i ≠ id := Nat.ne_of_beq_eq_false hb
          obtain ⟨h1, h2, _⟩ := ih hr ho
          exact ⟨h1, CC.block h2 (.inr (.inr ⟨rfl, fun e => hne (by injection e)⟩)), fun _ e => by cases e⟩
      · rename_i hne
        obtain ⟨h1, h2, _⟩ := ih h ho
        refine ⟨h1, CC.block h2 (.inr (.inr ⟨rfl, fun e => ?_⟩)), fun _ e => by cases e⟩
        subst e
        exact hne _ _ _ _ _ h
    | loop c =>
      simp only [run, ht] at h
      split at h
      · cases h
        have hl : LC P G nt B fr H c ex fr' H' := ho _ (List.mem_cons_self ..)
        exact ⟨fun p hp => ho p (by simp [hp]), CC.loop hl, fun _ e => by cases e; exact hl⟩
      · split at h
        · rename_i its1 obs1 fr1 H1 hr
          obtain ⟨h1, _, h2⟩ := ih h ho
          obtain ⟨h3, h4, _⟩ := ih hr h1
          have hl := LC.next h4 (h2 c rfl)
          exact ⟨h3, CC.loop hl, fun _ e => by cases e; exact hl⟩
        · rename_i hne
          obtain ⟨h1, h2, _⟩ := ih h ho
          have hl : LC P G nt B fr H c ex fr' H' := LC.last h2 (fun e => by subst e; exact hne _ _ _ _ h)
          exact ⟨h1, CC.loop hl, fun _ e => by cases e; exact hl⟩
    | rangeFunc f ps as_ b => simp only [run, ht] at h; cases h
    | exit id => simp only [run, ht] at h; cases h; exact ⟨ho, .leaf fun a w Q hq => wp_exit hq, fun _ e => by cases e⟩
    | scope b => simp only [run, ht] at h; cases h
    | label l => simp only [run, ht] at h; cases h; exact ⟨ho, .leaf fun a w Q hq => wp_label hq, fun _ e => by cases e⟩
    | goto l => simp only [run, ht] at h; cases h; exact ⟨ho, .leaf fun a w Q hq => wp_goto hq, fun _ e => by cases e⟩
    | ret => simp only [run, ht] at h; cases h; exact ⟨ho, .leaf fun a w Q hq => wp_ret hq, fun _ e => by cases e⟩
    | refuse why => simp only [run, ht] at h; cases h

end
end Go.Vc
