/- Own texts of the proof, put together: VcEl. -/
import Derived.Test.YtibbjfmgglmkkaaDoorVcX
/- VcRun -/
namespace Go.Vc
set_option linter.unusedVariables false
set_option linter.unusedSimpArgs false

def AllT : List Prop → Prop
  | [] => True
  | p :: ps => p ∧ AllT ps

theorem AllT.all {l : List Prop} (h : AllT l) : ∀ p ∈ l, p := by
  induction l with
  | nil => intro p hp; simp at hp
  | cons q l ih =>
    intro p hp
    rcases List.mem_cons.1 hp with rfl | hp
    · exact h.1
    · exact ih h.2 p hp

/-- The changes of view that are left behind the code. -/
def trRest (B : Nat) : Items → Fr → Heap → Option (Fr × Heap)
  | .tr _ x :: r, fr, H => match trE B x fr H with
    | some (fr', H') => trRest B r fr' H'
    | none => none
  | _, fr, H => some (fr, H)

theorem CC.rest {P : Program} {G : Glob} {nt B : Nat} {fr : Fr} {H : Heap} {c : Code} {ex : Ex} (its : Items) : ∀ {fr' fr1 : Fr} {H' H1 : Heap}, CC P G nt B fr H c ex fr' H' → trRest B its fr' H' = some (fr1, H1) → CC P G nt B fr H c ex fr1 H1 := by
  induction its with
  | nil => intro fr' fr1 H' H1 h ht; cases ht; exact h
  | cons i r ih =>
    intro fr' fr1 H' H1 h ht
    cases i with
    | tr k x =>
      simp only [trRest] at ht
      split at ht
      · rename_i fr2 H2 h2
        exact ih (CC.trPost h h2) ht
      · cases ht
    | _ => cases ht; exact h

/-- A function's body, run. -/
def runFn (P : Program) (G : Glob) (T : Tab) (n : Nat) (auto : Bool) (its : Items) (f : FuncId) (args : List EV) (H : Heap) : Option (List Prop × EV × Heap) :=
  match enters P f with
  | some (fn, c) => match Nat.ble args.length fn.ntmps with
    | true => match run P G T n auto its [] fn.ntmps H.length (argFr 0 args) H c with
      | some (its1, obs, .normal, fr, H') => match trRest H.length its1 fr H' with
        | some (fr1, H1) => match resE P H1 fr1 fn.results.toList with
          | some vs => some (obs, retE vs, H1)
          | none => none
        | none => none
      | some (its1, obs, .ret, fr, H') => match trRest H.length its1 fr H' with
        | some (fr1, H1) => match resE P H1 fr1 fn.results.toList with
          | some vs => some (obs, retE vs, H1)
          | none => none
        | none => none
      | _ => none
    | false => none
  | none => none

/-- The same, the result made plainer. -/
def runW (P : Program) (G : Glob) (T : Tab) (n : Nat) (auto : Bool) (its : Items) (lists sel : List Nat) (f : FuncId) (args : List EV) (H : Heap) : Option (List Prop × EV × Heap) :=
  match runFn P G T n auto its f args H with
  | some (obs, ret, H') => match weaken H.length [0] lists sel [(0, ret)] H' with
    | some (fr1, H1) => some (obs, fget fr1 0, H1)
    | none => none
  | none => none

/-- A piece of code, run, and the state behind it made plainer. -/
def runC (P : Program) (G : Glob) (T : Tab) (n : Nat) (auto : Bool) (its : Items) (nt B : Nat) (fr : Fr) (H : Heap) (c : Code) (keep lists sel : List Nat) : Option (List Prop × Ex × Fr × Heap) :=
  match run P G T n auto its [] nt B fr H c with
  | some (its1, obs, ex, fr', H') => match trRest B its1 fr' H' with
    | some (fr2, H2) => match weaken B keep lists sel fr2 H2 with
      | some (fr1, H1) => some (obs, ex, fr1, H1)
      | none => none
    | none => none
  | none => none

section
variable {P : Program} {G : Glob} {H H' : Heap}

theorem RC.of_runFn {T : Tab} (hT : TabOk P G T) {n : Nat} {auto : Bool} {its : Items} {f : FuncId} {args : List EV} {obs : List Prop} {ret : EV} (h : runFn P G T n auto its f args H = some (obs, ret, H')) (ho : AllT obs) :
    RC P G f args H ret H' := by
  unfold runFn at h
  split at h
  · rename_i fn c he
    split at h
    · rename_i hn
      split at h
      · rename_i its1 obs1 fr1 H1 hr
        split at h
        · rename_i fr2 H2 htr
          split at h
          · rename_i vs hres
            cases h
            exact RC.of_CC he (Nat.le_of_ble_eq_true hn) ((run_sound hT n hr ho.all).2.1.rest _ htr) (.inl rfl) hres
          · cases h
        · cases h
      · rename_i its1 obs1 fr1 H1 hr
        split at h
        · rename_i fr2 H2 htr
          split at h
          · rename_i vs hres
            cases h
            exact RC.of_CC he (Nat.le_of_ble_eq_true hn) ((run_sound hT n hr ho.all).2.1.rest _ htr) (.inr rfl) hres
          · cases h
        · cases h
      · cases h
    · cases h
  · cases h

theorem RC.of_run {T : Tab} (hT : TabOk P G T) {n : Nat} {auto : Bool} {its : Items} {lists sel : List Nat} {f : FuncId} {args : List EV} {obs : List Prop} {ret : EV}
    (h : runW P G T n auto its lists sel f args H = some (obs, ret, H')) (ho : AllT obs) : RC P G f args H ret H' := by
  unfold runW at h
  split at h
  · rename_i obs1 ret1 H1 hr
    split at h
    · rename_i fr1 H2 hw
      cases h
      exact RC.weak (RC.of_runFn hT hr ho) hw
    · cases h
  · cases h

theorem CC.post {nt B : Nat} {keep lists sel : List Nat} {fr fr1 fr' : Fr} {H1 : Heap} {c : Code} {ex : Ex} (h : CC P G nt B fr H c ex fr' H') (hw : weaken B keep lists sel fr' H' = some (fr1, H1)) :
    CC P G nt B fr H c ex fr1 H1 := by
  intro F regs w a hs hB
  refine wp_mono (h F regs w a hs hB) ?_
  rintro e a' w' ⟨he, hd, hB', regs', hs', hp⟩
  obtain ⟨regs1, a1, a2, a3, a4, a5⟩ := weaken_sound hw hB' hs'.hp hs'.gl hs'.fr
  exact ⟨he, hd, a5, regs1, ⟨a1, a2, a3, hs'.sz⟩, hp.trans a4⟩

theorem CC.of_run {T : Tab} (hT : TabOk P G T) {n : Nat} {auto : Bool} {its : Items} {nt B : Nat} {fr fr' : Fr} {c : Code} {ex : Ex} {keep lists sel : List Nat} {obs : List Prop}
    (h : runC P G T n auto its nt B fr H c keep lists sel = some (obs, ex, fr', H')) (ho : AllT obs) : CC P G nt B fr H c ex fr' H' := by
  unfold runC at h
  split at h
  · rename_i its1 obs1 ex1 fr1 H1 hr
    split at h
    · rename_i fr3 H3 htr
      split at h
      · rename_i fr2 H2 hw
        cases h
        exact CC.post ((run_sound hT n hr ho.all).2.1.rest _ htr) hw
      · cases h
    · cases h
  · cases h

/-- A round that goes on. -/
theorem LC.go {T : Tab} (hT : TabOk P G T) {n : Nat} {auto : Bool} {its : Items} {nt B : Nat} {fr fr1 fr' : Fr} {H1 : Heap} {c : Code} {ex : Ex} {keep lists sel : List Nat} {obs : List Prop}
    (h : runC P G T n auto its nt B fr H c keep lists sel = some (obs, .normal, fr1, H1)) (ho : AllT obs) (h' : LC P G nt B fr1 H1 c ex fr' H') : LC P G nt B fr H c ex fr' H' :=
  LC.next (CC.of_run hT h ho) h'

/-- A round that leaves the loop. -/
theorem LC.leave {T : Tab} (hT : TabOk P G T) {n : Nat} {auto : Bool} {its : Items} {nt B : Nat} {fr fr' : Fr} {c : Code} {ex : Ex} {keep lists sel : List Nat} {obs : List Prop}
    (h : runC P G T n auto its nt B fr H c keep lists sel = some (obs, ex, fr', H')) (ho : AllT obs) (hex : ex ≠ .normal) : LC P G nt B fr H c ex fr' H' :=
  LC.last (CC.of_run hT h ho) hex

end

/-! ### the loops of a function's code -/

/-- A code's loops, in the text's order: the bodies. -/
def loopsOf : Code → List Code
  | .seq a b => loopsOf a ++ loopsOf b
  | .cond _ a b => loopsOf a ++ loopsOf b
  | .block _ c => loopsOf c
  | .scope c => loopsOf c
  | .loop c => c :: loopsOf c
  | _ => []

def loopAt (P : Program) (f k : Nat) : Code :=
  match P.funcs[f]? with
  | some fn => match fn.body with
    | some c => (loopsOf c).getD k .skip
    | none => .skip
  | none => .skip

/-- The outermost sequence that begins with a region. -/
def seqAt (k : Nat) : Code → Option Code
  | .seq a b => match Nat.beq k (regId (.seq a b)) with
    | true => some (.seq a b)
    | false => match seqAt k a with
      | some c => some c
      | none => seqAt k b
  | .cond _ a b => match seqAt k a with
    | some c => some c
    | none => seqAt k b
  | .block _ c => seqAt k c
  | .scope c => seqAt k c
  | .loop c => seqAt k c
  | _ => none

def codeAt (P : Program) (f k : Nat) : Code :=
  match P.funcs[f]? with
  | some fn => match fn.body with
    | some c => (seqAt k c).getD .skip
    | none => .skip
  | none => .skip

end Go.Vc

/- VcMay -/
namespace Go.Vc
set_option linter.unusedVariables false
set_option linter.unusedSimpArgs false

section
variable {P : Program} {G : Glob} {F : Own} {w : World} {regs : List Reg} {H H' : Heap}

theorem VEs.setOne {own : Own} {cs : List EV} {us : List Value} (h : VEs own w regs cs us) {off : Nat} {u : Value} {v : EV} (hu : us[off]? = some u) (hv : VE own w regs v u) : VEs own w regs (cs.set off v) us := by
  induction off generalizing cs us with
  | zero => cases h with
    | nil => exact .nil
    | cons y u' ys us h hs => simp at hu; subst hu; exact .cons _ _ _ _ hv hs
  | succ n ih => cases h with
    | nil => exact .nil
    | cons y u' ys us h hs => simp at hu; exact .cons _ _ _ _ h (ih hs hu)

theorem RC.may {f : FuncId} {args : List EV} {ret : EV} {i off j jo : Nat} {cs : List EV} {k : Kd} (hi : H[i]? = some (some (.cells cs k))) (hc : cs[off]? = some (.mptr j jo))
    (h1 : RC P G f args (H.set i (some (.cells (cs.set off (.p .nilp)) k))) ret H') (h2 : RC P G f args (H.set i (some (.cells (cs.set off (.ptr j jo)) k))) ret H') : RC P G f args H ret H' := by
  intro F regs w vs hh hG hv
  obtain ⟨g, hg⟩ : ∃ g, regs[i]? = some g := ⟨_, List.getElem?_eq_getElem (by rw [hh.len]; exact (List.getElem?_eq_some_iff.1 hi).1)⟩
  obtain ⟨⟨e, n, q1, q2, q3⟩, us, q4, q5⟩ := hh.blk i g _ hg hi
  obtain ⟨u, hu, hvu⟩ := q4.get hc
  have go : ∀ v : EV, VE (tot F regs H) w regs v u → RC P G f args (H.set i (some (.cells (cs.set off v) k))) ret H' →
      Calls P f vs.toArray w fun e w' => ∃ u, e = .returned u ∧ ∃ regs', StepOk F w regs H ret H' u w' regs' := by
    intro v hvv h
    have how := owned_swap (regs := regs) (b' := .cells (cs.set off v) k) hi (by simp [Blk.size])
    have hto := tot_swap (F := F) (regs := regs) (b' := .cells (cs.set off v) k) hi (by simp [Blk.size])
    have hh' := hh.swap (b' := .cells (cs.set off v) k) hi (by simp [Blk.size]) rfl (fun g' hg' _ => by
      rw [hg] at hg'; cases hg'
      exact ⟨⟨e, n, q1, by simpa using q2, fun x a1 a2 a3 => q3 x (by simpa using a1) a2 (by simpa using a3)⟩, us, q4.setOne hu hvv, q5⟩)
    refine Calls.mono (h F regs w vs hh' (by rw [hto]; exact hG) (by rw [hto]; exact hv)) ?_
    rintro e w' ⟨r, rfl, regs', hs⟩
    exact ⟨r, rfl, regs', hs.swap1 how⟩
  cases hvu with
  | mptrn => exact go _ (.p _ _ .nilp) h1
  | mptr _ _ g' hg' => exact go _ (.ptr _ _ g' hg') h2

end
end Go.Vc

/- VcEl -/
namespace Go.Vc
set_option linter.unusedVariables false
set_option linter.unusedSimpArgs false

/-- What a string among a list's cells is. -/
def asStr : PV → List Nat
  | .str s => s
  | _ => []

def asInt : PV → Int
  | .int _ n => n
  | _ => 0

def asBool : PV → Bool
  | .bool b => b
  | _ => false

def asLst : PV → List PV
  | .lst _ ps => ps
  | _ => []

def asLen : PV → Nat
  | .lst n _ => n
  | _ => 0

section
variable {P : Program} {G : Glob} {fr : Fr} {H : Heap} {o : Oper}

theorem claim_elem {t : TypeId} {x : Operand} {ps : List PV} {off : Nat} {v : PV} (ho : o.op = .load t x) (ha : aggT P t = some false) (hx : opnd fr x = .p (.elem ps off)) (hv : ps[off]? = some v) :
    Claim P G fr H o (pe v) := by
  refine ⟨none, .inl rfl, .inr ?_⟩
  unfold memE
  rw [ho]
  simp only [hx]
  unfold loadE
  rw [ha]
  cases sizeT P t <;> simp only [hv]

theorem claim_str {t : TypeId} {x : Operand} {ps : List PV} {off : Nat} {s : List Nat} (ho : o.op = .load t x) (ha : aggT P t = some false) (hx : opnd fr x = .p (.elem ps off)) (hv : ps[off]? = some (.str s)) :
    Claim P G fr H o (.p (.str s)) := claim_elem ho ha hx hv

theorem strs_get (l : List (List Nat)) (i : Nat) (h : i < l.length) : (l.map PV.str)[i]? = some (.str (l.getD i [])) := by
  rw [List.getElem?_map, List.getElem?_eq_getElem h, List.getD_eq_getElem?_getD, List.getElem?_eq_getElem h]
  rfl

end
end Go.Vc
