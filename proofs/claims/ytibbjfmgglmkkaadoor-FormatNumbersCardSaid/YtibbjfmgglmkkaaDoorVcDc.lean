/- Own texts of the proof, put together: VcDc. -/
import Derived.Test.YtibbjfmgglmkkaaDoorVcTr
import Derived.StillTail
/- VcDa -/
namespace Go.Vc
set_option linter.unusedVariables false
set_option linter.unusedSimpArgs false

/-! ### counting along a strictly growing list -/

theorem filter_lt_get {l : List Nat} (h : l.Pairwise (· < ·)) : ∀ {m y : Nat}, l[m]? = some y → (l.filter (fun j => decide (j < y))).length = m := by
  induction l with
  | nil => intro m y h; simp at h
  | cons a l ih =>
    intro m y hy
    rw [List.pairwise_cons] at h
    cases m with
    | zero =>
      simp at hy; subst hy
      have : (a :: l).filter (fun j => decide (j < a)) = [] := by
        rw [List.filter_eq_nil_iff]
        intro x hx
        rcases List.mem_cons.1 hx with rfl | hx
        · simp
        · have := h.1 x hx; simp; omega
      rw [this]; rfl
    | succ m =>
      simp at hy
      have hlt : a < y := h.1 y (List.mem_of_getElem? hy)
      rw [List.filter_cons_of_pos (by simpa using hlt)]
      simp [ih h.2 hy]

theorem range_pairwise (n : Nat) : (List.range n).Pairwise (· < ·) := List.pairwise_lt_range

section
variable {P : Program} {G : Glob} {F : Own} {ops : Array Oper}

/-- What is known of the operations of a region. -/
structure Plan where
  fr0 : Fr
  V : Nat → EV
  hd : Nat → Bool
  HH : Nat → Heap
  bf : Nat → List Nat

def dstAt (ops : Array Oper) (j : Nat) : Option Nat := (ops[j]?).bind (·.dst)

def tmpsOf (o : Oper) : List Nat := o.op.operands.toList.filterMap fun | .tmp t => some t | _ => none

/-- A temporary's value when the operations of D have come up. -/
def Plan.at (p : Plan) (ops : Array Oper) (D : Nat → Bool) (t : Nat) : EV :=
  ((List.range ops.size).findSome? (fun j => if D j && decide (dstAt ops j = some t) then some (p.V j) else none)).getD (fget p.fr0 t)

/-- How many of the operations that may change the heap have come up. -/
def Plan.kc (p : Plan) (ops : Array Oper) (D : Nat → Bool) : Nat := ((List.range ops.size).filter (fun j => p.hd j && D j)).length

def Plan.cnt (p : Plan) (ops : Array Oper) (i : Nat) : Nat := p.kc ops (fun j => decide (j < i))

structure Plan.Ok (p : Plan) (P : Program) (G : Glob) (ops : Array Oper) (nt : Nat) : Prop where
  lt : ∀ (i : Nat) (o : Oper), ops[i]? = some o → ∀ e ∈ o.after, Region.binds .any e = true → e.on < i
  bf : ∀ (i j : Nat), j ∈ p.bf i → ∃ o, ops[i]? = some o ∧ ∃ e ∈ o.after, Region.binds .any e = true ∧ (e.on = j ∨ j ∈ p.bf e.on)
  one : ∀ (i j t : Nat), dstAt ops i = some t → dstAt ops j = some t → i = j
  nm : ∀ (i : Nat) (o : Oper) (j t : Nat), ops[i]? = some o → t ∈ tmpsOf o → dstAt ops j = some t → j = i ∨ j ∈ p.bf i ∨ i ∈ p.bf j
  ch : ∀ (i j : Nat), i < ops.size → j < ops.size → p.hd i = true → p.hd j = true → i < j → i ∈ p.bf j
  gd : ∀ (i : Nat) (o : Oper), ops[i]? = some o → o.guard = none
  ds : ∀ (i : Nat) (o : Oper), ops[i]? = some o → ∀ k, o.dst = some k → k < nt
  hard : ∀ (i : Nat) (o : Oper), ops[i]? = some o → p.hd i = true → ∀ (F : Own) regs w (a : Act), HpOk F w regs (p.HH (p.cnt ops i)) → GlOk G (tot F regs (p.HH (p.cnt ops i))) w →
    (∀ t ∈ tmpsOf o, VE (tot F regs (p.HH (p.cnt ops i))) w regs (p.at ops (fun j => decide (j < i)) t) (a.tmps.getD t undef)) →
    ∀ (K : Act → World → Prop) (Q : Exit → Act → World → Prop), (∀ u w' regs', StepOk F w regs (p.HH (p.cnt ops i)) (p.V i) (p.HH (p.cnt ops i + 1)) u w' regs' → K (a.put o.dst u) w') → o.wp P a w K Q
  soft : ∀ (i : Nat) (o : Oper) (k : Nat), ops[i]? = some o → p.hd i = false → k ≤ p.kc ops (fun _ => true) →
    (∀ m y, ((List.range ops.size).filter p.hd)[m]? = some y → min k (p.cnt ops i) ≤ m → m < max k (p.cnt ops i) → y ∉ p.bf i ∧ i ∉ p.bf y) →
    ∀ (F : Own) regs w (a : Act), HpOk F w regs (p.HH k) → GlOk G (tot F regs (p.HH k)) w →
    (∀ t ∈ tmpsOf o, VE (tot F regs (p.HH k)) w regs (p.at ops (fun j => decide (j < i)) t) (a.tmps.getD t undef)) →
    ∀ (K : Act → World → Prop) (Q : Exit → Act → World → Prop), (∀ u w' regs', StepOk F w regs (p.HH k) (p.V i) (p.HH k) u w' regs' → K (a.put o.dst u) w') → o.wp P a w K Q

variable {p : Plan} {nt : Nat}

theorem dstAt_lt {j t : Nat} (h : dstAt ops j = some t) : j < ops.size := by
  unfold dstAt at h
  rcases Nat.lt_or_ge j ops.size with h1 | h1
  · exact h1
  · rw [Array.getElem?_eq_none h1] at h; cases h

theorem Plan.at_in (one : ∀ i j t, dstAt ops i = some t → dstAt ops j = some t → i = j) {D : Nat → Bool} {j t : Nat} (hD : D j = true) (hj : dstAt ops j = some t) : p.at ops D t = p.V j := by
  unfold Plan.at
  have hsome : ∃ v, (List.range ops.size).findSome? (fun j => if D j && decide (dstAt ops j = some t) then some (p.V j) else none) = some v := by
    cases hf : (List.range ops.size).findSome? (fun j => if D j && decide (dstAt ops j = some t) then some (p.V j) else none) with
    | some v => exact ⟨v, rfl⟩
    | none =>
      rw [List.findSome?_eq_none_iff] at hf
      have := hf j (List.mem_range.2 (dstAt_lt hj))
      simp [hD, hj] at this
  obtain ⟨v, hv⟩ := hsome
  rw [hv]
  obtain ⟨k, hk, hkv⟩ := List.exists_of_findSome?_eq_some hv
  split at hkv
  · rename_i hc
    simp only [Bool.and_eq_true, decide_eq_true_eq] at hc
    cases hkv
    rw [one k j t hc.2 hj]
    rfl
  · cases hkv

theorem Plan.at_out {D : Nat → Bool} {t : Nat} (h : ∀ j, D j = true → dstAt ops j ≠ some t) : p.at ops D t = fget p.fr0 t := by
  unfold Plan.at
  have : (List.range ops.size).findSome? (fun j => if D j && decide (dstAt ops j = some t) then some (p.V j) else none) = none := by
    rw [List.findSome?_eq_none_iff]
    intro j _
    have := h j
    cases hD : D j with
    | false => simp
    | true => simp [this hD]
  rw [this]
  rfl

def isIn (listed : Array Bool) (j : Nat) : Bool := listed.getD j false

/-- Nothing has come up ahead of what it waits for. -/
def Down (ops : Array Oper) (listed : Array Bool) : Prop := ∀ j o, ops[j]? = some o → isIn listed j = true → ∀ e ∈ o.after, Region.binds .any e = true → isIn listed e.on = true

theorem Plan.Ok.down (h : p.Ok P G ops nt) {listed : Array Bool} (hd : Down ops listed) (i : Nat) : ∀ j, j ∈ p.bf i → isIn listed i = true → isIn listed j = true := by
  induction i using Nat.strongRecOn with
  | _ i ih =>
    intro j hj hi
    obtain ⟨o, ho, e, he, hb, hor⟩ := h.bf i j hj
    have h1 := hd i o ho hi e he hb
    rcases hor with rfl | h2
    · exact h1
    · exact ih e.on (h.lt i o ho e he hb) j h2 h1

theorem Plan.Ok.ready (h : p.Ok P G ops nt) {listed : Array Bool} (hd : Down ops listed) {i : Nat} (hi : i ∈ Region.ready .any ops listed) : ∀ j, j ∈ p.bf i → isIn listed j = true := by
  intro j hj
  obtain ⟨_, o, ho, hall⟩ := mem_ready.1 hi
  obtain ⟨o', ho', e, he, hb, hor⟩ := h.bf i j hj
  rw [ho] at ho'; cases ho'
  have h1 : isIn listed e.on = true := hall e he hb
  rcases hor with rfl | h2
  · exact h1
  · exact h.down hd e.on j h2 h1

theorem ready_out {listed : Array Bool} {i : Nat} (hi : i ∈ Region.ready .any ops listed) : isIn listed i = false := by
  have h0 := (mem_ready.1 hi).1
  unfold isIn
  rcases Nat.lt_or_ge i listed.size with h | h
  · simp [h] at h0 ⊢; exact h0
  · simp [Array.getElem?_eq_none h]

theorem ready_lt {listed : Array Bool} {i : Nat} (hi : i ∈ Region.ready .any ops listed) : i < ops.size := by
  obtain ⟨_, o, ho, _⟩ := mem_ready.1 hi
  exact (Array.getElem?_eq_some_iff.1 ho).1

theorem isIn_set {listed : Array Bool} {i : Nat} (hi : i < listed.size) (j : Nat) : isIn (listed.setIfInBounds i true) j = (decide (j = i) || isIn listed j) := by
  unfold isIn
  by_cases h : j = i
  · subst h
    simp [Array.getD, hi]
  · rw [getD_set_ne false (fun e => h e.symm)]
    simp [h]

/-- The state when the operations of 'listed' have come up, in whatever order. -/
structure Inv (p : Plan) (G : Glob) (ops : Array Oper) (nt B : Nat) (F : Own) (w0 : World) (regs0 : List Reg) (H0 : Heap) (a0 : Act) (listed : Array Bool) (a : Act) (w : World) (regs : List Reg) : Prop where
  sz : listed.size = ops.size
  dn : Down ops listed
  hp : HpOk F w regs (p.HH (p.kc ops (isIn listed)))
  gl : GlOk G (tot F regs (p.HH (p.kc ops (isIn listed)))) w
  fr : ∀ t, VE (tot F regs (p.HH (p.kc ops (isIn listed)))) w regs (p.at ops (isIn listed) t) (a.tmps.getD t undef)
  ts : a.tmps.size = nt
  df : a.defers = a0.defers
  pa : Past B F w0 regs0 H0 w regs (p.HH (p.kc ops (isIn listed)))
  le : H0.length ≤ (p.HH (p.kc ops (isIn listed))).length

theorem Inv.step (hok : p.Ok P G ops nt) {B : Nat} {F : Own} {w0 w w' : World} {regs0 regs regs' : List Reg} {H0 : Heap} {a0 a : Act} {listed : Array Bool} {i : Nat} {o : Oper} {u : Value}
    (h : Inv p G ops nt B F w0 regs0 H0 a0 listed a w regs) (hi : i ∈ Region.ready .any ops listed) (ho : ops[i]? = some o)
    (hs : StepOk F w regs (p.HH (p.kc ops (isIn listed))) (p.V i) (p.HH (p.kc ops (isIn (listed.setIfInBounds i true)))) u w' regs') :
    Inv p G ops nt B F w0 regs0 H0 a0 (listed.setIfInBounds i true) (a.put o.dst u) w' regs' := by
  have hlt : i < listed.size := by rw [h.sz]; exact ready_lt hi
  refine ⟨by simp [h.sz], fun j oj hoj hj e he hb => ?_, hs.hp, h.gl.moves hs.mv, fun t => ?_, by rw [put_size]; exact h.ts, by rw [put_defers]; exact h.df, h.pa.trans (.of_step hs), ?_⟩
  · rw [isIn_set hlt] at hj ⊢
    simp only [Bool.or_eq_true, decide_eq_true_eq] at hj ⊢
    rcases hj with rfl | hj
    · obtain ⟨_, o', ho', hall⟩ := mem_ready.1 hi
      rw [hoj] at ho'; cases ho'
      exact .inr (hall e he hb)
    · exact .inr (h.dn j oj hoj hj e he hb)
  · by_cases hd : o.dst = some t
    · have hda : dstAt ops i = some t := by simp [dstAt, ho, hd]
      rw [Plan.at_in hok.one (by rw [isIn_set hlt]; simp) hda]
      have htl : t < a.tmps.size := by rw [h.ts]; exact hok.ds i o ho t hd
      have : (a.put o.dst u).tmps.getD t undef = u := by simp [Act.put, hd, Array.getD, htl]
      rw [this]
      exact hs.val
    · have e1 : (a.put o.dst u).tmps.getD t undef = a.tmps.getD t undef := by
        cases hod : o.dst with
        | none => rfl
        | some k =>
          have : k ≠ t := fun e => hd (by rw [hod, e])
          simp [Act.put, Array.getD_eq_getD_getElem?, Array.getElem?_setIfInBounds, this]
      have e2 : p.at ops (isIn (listed.setIfInBounds i true)) t = p.at ops (isIn listed) t := by
        by_cases hex : ∃ j, isIn listed j = true ∧ dstAt ops j = some t
        · obtain ⟨j, h1, h2⟩ := hex
          rw [Plan.at_in hok.one h1 h2, Plan.at_in hok.one (by rw [isIn_set hlt, h1]; simp) h2]
        · rw [Plan.at_out (fun j h1 h2 => hex ⟨j, h1, h2⟩), Plan.at_out (fun j h1 h2 => ?_)]
          rw [isIn_set hlt] at h1
          simp only [Bool.or_eq_true, decide_eq_true_eq] at h1
          rcases h1 with rfl | h1
          · apply hd; simpa [dstAt, ho] using h2
          · exact hex ⟨j, h1, h2⟩
      rw [e1, e2]
      exact (h.fr t).moves hs.mv
  · obtain ⟨more, rfl⟩ := hs.ext
    have h1 := hs.hp.len
    have h2 := h.hp.len
    have := h.le
    simp at h1
    omega

theorem Plan.kc_congr {D D' : Nat → Bool} (h : ∀ j, j < ops.size → p.hd j = true → D j = D' j) : p.kc ops D = p.kc ops D' := by
  unfold Plan.kc
  congr 1
  apply List.filter_congr
  intro j hj
  cases hh : p.hd j with
  | false => rfl
  | true => simp [h j (List.mem_range.1 hj) hh]

theorem filter_one (l : List Nat) (hn : l.Nodup) {i : Nat} (hi : i ∈ l) (f : Nat → Bool) (hf : f i = false) : (l.filter (fun j => decide (j = i) || f j)).length = (l.filter f).length + 1 := by
  induction l with
  | nil => simp at hi
  | cons a l ih =>
    rw [List.nodup_cons] at hn
    by_cases ha : a = i
    · subst ha
      rw [List.filter_cons_of_pos (by simp), List.filter_cons_of_neg (by simp [hf])]
      simp only [List.length_cons]
      congr 2
      apply List.filter_congr
      intro x hx
      have : x ≠ a := fun e => hn.1 (e ▸ hx)
      simp [this]
    · have hi' : i ∈ l := by rcases List.mem_cons.1 hi with h | h; exact absurd h.symm ha; exact h
      have := ih hn.2 hi'
      by_cases hfa : f a = true
      · rw [List.filter_cons_of_pos (by simp [hfa]), List.filter_cons_of_pos hfa]
        simp [this]
      · rw [List.filter_cons_of_neg (by simp [ha, hfa]), List.filter_cons_of_neg hfa]
        exact this

theorem Plan.kc_hard {D : Nat → Bool} {i : Nat} (hi : i < ops.size) (hh : p.hd i = true) (hD : D i = false) : p.kc ops (fun j => decide (j = i) || D j) = p.kc ops D + 1 := by
  unfold Plan.kc
  rw [← filter_one (List.range ops.size) List.nodup_range (List.mem_range.2 hi) (fun j => p.hd j && D j) (by simp [hD])]
  congr 1
  apply List.filter_congr
  intro j hj
  by_cases e : j = i
  · subst e; simp [hh]
  · simp [e]

theorem Plan.kc_soft {D : Nat → Bool} {i : Nat} (hh : p.hd i = false) : p.kc ops (fun j => decide (j = i) || D j) = p.kc ops D := by
  refine Plan.kc_congr fun j _ hj => ?_
  have : j ≠ i := fun e => by subst e; rw [hh] at hj; cases hj
  simp [this]

theorem kc_isIn_set {listed : Array Bool} {i : Nat} (hi : i < listed.size) : p.kc ops (isIn (listed.setIfInBounds i true)) = p.kc ops (fun j => decide (j = i) || isIn listed j) := by
  congr 1
  funext j
  exact isIn_set hi j

/-- The heap that an operation meets that may change it: that of the list's order. -/
theorem Plan.Ok.kc_ready (h : p.Ok P G ops nt) {listed : Array Bool} (hd : Down ops listed) {i : Nat} (hi : i ∈ Region.ready .any ops listed) (hh : p.hd i = true) : p.kc ops (isIn listed) = p.cnt ops i := by
  refine Plan.kc_congr fun j hj hhj => ?_
  have hlt := ready_lt hi
  have hout := ready_out hi
  by_cases e : j < i
  · rw [h.ready hd hi j (h.ch j i hj hlt hhj hh e)]; simp [e]
  · by_cases e2 : j = i
    · subst e2; rw [hout]; simp
    · have h1 := h.ch i j hlt hj hh hhj (by omega)
      cases hin : isIn listed j with
      | false => simp [e]
      | true => rw [h.down hd j i h1 hin] at hout; cases hout

/-- What an operation sees of the temporaries is what it sees in the list's order. -/
theorem Plan.Ok.at_ready (h : p.Ok P G ops nt) {listed : Array Bool} (hd : Down ops listed) {i : Nat} {o : Oper} (hi : i ∈ Region.ready .any ops listed) (ho : ops[i]? = some o) {t : Nat} (ht : t ∈ tmpsOf o) :
    p.at ops (isIn listed) t = p.at ops (fun j => decide (j < i)) t := by
  have hout := ready_out hi
  have bflt : ∀ i j, j ∈ p.bf i → j < i := by
    intro i
    induction i using Nat.strongRecOn with
    | _ i ih =>
      intro j hj
      obtain ⟨o', ho', e, he, hb, hor⟩ := h.bf i j hj
      have h1 := h.lt i o' ho' e he hb
      rcases hor with rfl | h2
      · exact h1
      · have := ih e.on h1 j h2; omega
  by_cases hex : ∃ j, dstAt ops j = some t
  · obtain ⟨j, hj⟩ := hex
    rcases h.nm i o j t ho ht hj with rfl | hb | hb
    · rw [Plan.at_out (fun k h1 h2 => by rw [h.one k j t h2 hj] at h1; rw [hout] at h1; cases h1),
        Plan.at_out (fun k h1 h2 => by rw [h.one k j t h2 hj] at h1; simp at h1)]
    · rw [Plan.at_in h.one (h.ready hd hi j hb) hj, Plan.at_in h.one (by simpa using bflt i j hb) hj]
    · rw [Plan.at_out (fun k h1 h2 => by
          rw [h.one k j t h2 hj] at h1
          rw [h.down hd j i hb h1] at hout
          cases hout),
        Plan.at_out (fun k h1 h2 => by
          rw [h.one k j t h2 hj] at h1
          have := bflt j i hb
          simp at h1
          omega)]
  · rw [Plan.at_out (fun k _ h2 => hex ⟨k, h2⟩), Plan.at_out (fun k _ h2 => hex ⟨k, h2⟩)]

theorem kc_le_all (D : Nat → Bool) : p.kc ops D ≤ p.kc ops (fun _ => true) := by
  unfold Plan.kc
  have : ∀ l : List Nat, (l.filter (fun j => p.hd j && D j)).length ≤ (l.filter (fun j => p.hd j && true)).length := by
    intro l
    induction l with
    | nil => simp
    | cons a l ih =>
      cases h1 : p.hd a <;> cases h2 : D a <;> simp [h1, h2] at ih ⊢ <;> omega
  exact this _

theorem cnt_hix {m y : Nat} (h : ((List.range ops.size).filter p.hd)[m]? = some y) : p.cnt ops y = m := by
  have hs : ((List.range ops.size).filter p.hd).Pairwise (· < ·) := (range_pairwise _).filter _
  have := filter_lt_get hs h
  rw [List.filter_filter] at this
  unfold Plan.cnt Plan.kc
  rw [← this]
  congr 1
  apply List.filter_congr
  intro j _
  exact Bool.and_comm _ _

theorem Plan.Ok.between (h : p.Ok P G ops nt) {listed : Array Bool} (hd : Down ops listed) {i : Nat} (hi : i ∈ Region.ready .any ops listed) {m y : Nat} (hy : ((List.range ops.size).filter p.hd)[m]? = some y)
    (h1 : min (p.kc ops (isIn listed)) (p.cnt ops i) ≤ m) (h2 : m < max (p.kc ops (isIn listed)) (p.cnt ops i)) : y ∉ p.bf i ∧ i ∉ p.bf y := by
  have hc := cnt_hix hy
  have hmem := List.mem_of_getElem? hy
  rw [List.mem_filter, List.mem_range] at hmem
  obtain ⟨hyn, hyh⟩ := hmem
  have hout := ready_out hi
  -- how many have come up, if y has, or has not
  have yes : isIn listed y = true → m < p.kc ops (isIn listed) := by
    intro hin
    have : p.kc ops (fun j => decide (j = y) || decide (j < y)) = p.cnt ops y + 1 := Plan.kc_hard hyn hyh (by simp)
    have hle : p.kc ops (fun j => decide (j = y) || decide (j < y)) ≤ p.kc ops (isIn listed) := by
      have e : p.kc ops (fun j => decide (j = y) || decide (j < y)) = p.kc ops (fun j => isIn listed j && (decide (j = y) || decide (j < y))) := by
        refine Plan.kc_congr fun j hj hhj => ?_
        by_cases e1 : j = y
        · subst e1; simp [hin]
        · by_cases e2 : j < y
          · have := h.down hd y j (h.ch j y hj hyn hhj hyh e2) hin
            simp [this, e2]
          · simp [e1, e2]
      rw [e]
      unfold Plan.kc
      have : ∀ l : List Nat, (l.filter (fun j => p.hd j && (isIn listed j && (decide (j = y) || decide (j < y))))).length ≤ (l.filter (fun j => p.hd j && isIn listed j)).length := by
        intro l
        induction l with
        | nil => simp
        | cons a l ih =>
          simp only [List.filter_cons]
          cases p.hd a <;> cases isIn listed a <;> simp only [Bool.false_and, Bool.and_false, Bool.true_and, if_true, Bool.false_eq_true, if_false] <;> first | exact ih | skip
          split <;> (try simp only [List.length_cons]) <;> omega
      exact this _
    omega
  have no : isIn listed y = false → p.kc ops (isIn listed) ≤ m := by
    intro hin
    have e : p.kc ops (isIn listed) = p.kc ops (fun j => isIn listed j && decide (j < y)) := by
      refine Plan.kc_congr fun j hj hhj => ?_
      cases hj' : isIn listed j with
      | false => rfl
      | true =>
        have : j < y := by
          rcases Nat.lt_trichotomy j y with e1 | e1 | e1
          · exact e1
          · subst e1; rw [hin] at hj'; cases hj'
          · rw [h.down hd j y (h.ch y j hyn hj hyh hhj e1) hj'] at hin; cases hin
        simp [this]
    rw [e, ← hc]
    unfold Plan.cnt Plan.kc
    have : ∀ l : List Nat, (l.filter (fun j => p.hd j && (isIn listed j && decide (j < y)))).length ≤ (l.filter (fun j => p.hd j && decide (j < y))).length := by
      intro l
      induction l with
      | nil => simp
      | cons a l ih =>
        simp only [List.filter_cons]
        cases p.hd a <;> cases isIn listed a <;> simp only [Bool.false_and, Bool.and_false, Bool.true_and, Bool.false_eq_true, if_false] <;> first | exact ih | skip
        · split <;> (try simp only [List.length_cons]) <;> omega
        · split <;> (try simp only [List.length_cons]) <;> omega
    exact this _
  have cntlt : ∀ a b, p.hd a = true → a < ops.size → a < b → p.cnt ops a < p.cnt ops b := by
    intro a b ha han hab
    have : p.kc ops (fun j => decide (j = a) || decide (j < a)) = p.cnt ops a + 1 := Plan.kc_hard han ha (by simp)
    have hle : p.kc ops (fun j => decide (j = a) || decide (j < a)) ≤ p.cnt ops b := by
      unfold Plan.cnt Plan.kc
      have : ∀ l : List Nat, (l.filter (fun j => p.hd j && (decide (j = a) || decide (j < a)))).length ≤ (l.filter (fun j => p.hd j && decide (j < b))).length := by
        intro l
        induction l with
        | nil => simp
        | cons x l ih =>
          simp only [List.filter_cons]
          cases p.hd x <;> simp only [Bool.false_and, Bool.true_and, Bool.false_eq_true, if_false]
          · exact ih
          · by_cases e : x < b
            · simp only [e, decide_true, if_true]
              split <;> (try simp only [List.length_cons]) <;> omega
            · have e1 : ¬ x = a := by omega
              have e2 : ¬ x < a := by omega
              simp [e, e1, e2]
              exact ih
      exact this _
    omega
  have bflt : ∀ i j, j ∈ p.bf i → j < i := by
    intro i
    induction i using Nat.strongRecOn with
    | _ i ih =>
      intro j hj
      obtain ⟨o', ho', e, he, hb, hor⟩ := h.bf i j hj
      have h1 := h.lt i o' ho' e he hb
      rcases hor with rfl | h2
      · exact h1
      · have := ih e.on h1 j h2; omega
  refine ⟨fun hb => ?_, fun hb => ?_⟩
  · have h3 := yes (h.ready hd hi y hb)
    have h4 := cntlt y i hyh hyn (bflt i y hb)
    omega
  · have hin : isIn listed y = false := by
      cases hin : isIn listed y with
      | false => rfl
      | true => rw [h.down hd y i hb hin] at hout; cases hout
    have h3 := no hin
    have h4 : p.cnt ops i ≤ m := by
      rw [← hc]
      have := bflt y i hb
      unfold Plan.cnt Plan.kc
      have : ∀ l : List Nat, (l.filter (fun j => p.hd j && decide (j < i))).length ≤ (l.filter (fun j => p.hd j && decide (j < y))).length := by
        intro l
        induction l with
        | nil => simp
        | cons x l ih =>
          simp only [List.filter_cons]
          cases p.hd x <;> simp only [Bool.false_and, Bool.true_and, Bool.false_eq_true, if_false]
          · exact ih
          · by_cases e : x < i
            · have e1 : x < y := by omega
              simp [e, e1]; exact ih
            · simp only [e, decide_false, Bool.false_eq_true, if_false]
              split <;> (try simp only [List.length_cons]) <;> omega
      exact this _
    omega

end
end Go.Vc

/- VcDb -/
namespace Go.Vc
set_option linter.unusedVariables false
set_option linter.unusedSimpArgs false

section
variable {P : Program} {G : Glob} {F : Own} {ops : Array Oper} {p : Plan} {nt : Nat}

def toCome (ops : Array Oper) (listed : Array Bool) : Nat := ((List.range ops.size).filter (fun j => !isIn listed j)).length

theorem toCome_zero {listed : Array Bool} (h : toCome ops listed = 0) : ∀ j, j < ops.size → isIn listed j = true := by
  intro j hj
  have := List.length_eq_zero_iff.1 h
  rw [List.filter_eq_nil_iff] at this
  simpa using this j (List.mem_range.2 hj)

theorem toCome_set {listed : Array Bool} {i : Nat} (hi : i < ops.size) (hs : listed.size = ops.size) (hn : isIn listed i = false) : toCome ops (listed.setIfInBounds i true) + 1 = toCome ops listed := by
  unfold toCome
  have e1 : ((List.range ops.size).filter (fun j => !isIn listed j)).length = ((List.range ops.size).filter (fun j => decide (j = i) || !isIn (listed.setIfInBounds i true) j)).length := by
    congr 1
    apply List.filter_congr
    intro j _
    rw [isIn_set (by omega)]
    by_cases e : j = i
    · subst e; simp [hn]
    · simp [e]
  rw [e1, filter_one (List.range ops.size) List.nodup_range (List.mem_range.2 hi) _ (by rw [isIn_set (by omega)]; simp)]

theorem ready_nil {listed : Array Bool} (hok : p.Ok P G ops nt) (hs : listed.size = ops.size) (h : Region.ready .any ops listed = []) : ∀ j, j < ops.size → isIn listed j = true := by
  intro j
  induction j using Nat.strongRecOn with
  | _ j ih =>
    intro hj
    cases hin : isIn listed j with
    | true => rfl
    | false =>
      exfalso
      have ho : ops[j]? = some ops[j] := Array.getElem?_eq_getElem hj
      have : j ∈ Region.ready .any ops listed := by
        rw [mem_ready]
        refine ⟨getD_in (by omega) hin, _, ho, fun e he hb => ?_⟩
        have hlt := hok.lt j _ ho e he hb
        exact ih e.on hlt (by omega)
      rw [h] at this
      cases this

theorem wpAny_plan (hok : p.Ok P G ops nt) {B : Nat} {w0 : World} {regs0 : List Reg} {H0 : Heap} {a0 : Act} {Q : Exit → Act → World → Prop}
    (hq : ∀ listed a w regs, Inv p G ops nt B F w0 regs0 H0 a0 listed a w regs → (∀ j, j < ops.size → isIn listed j = true) → Q .normal a w) :
    ∀ (fuel : Nat) (listed : Array Bool) (a : Act) (w : World) (regs : List Reg), Inv p G ops nt B F w0 regs0 H0 a0 listed a w regs → toCome ops listed = fuel → wpAny P .any ops Q fuel listed a w := by
  intro fuel
  induction fuel with
  | zero =>
    intro listed a w regs h hf
    have hall := toCome_zero hf
    refine ⟨?_, hq _ _ _ _ h hall⟩
    cases hr : Region.ready .any ops listed with
    | nil => rfl
    | cons i r =>
      have hi : i ∈ Region.ready .any ops listed := by rw [hr]; simp
      have := ready_out hi
      rw [hall i (ready_lt hi)] at this
      cases this
  | succ fuel ih =>
    intro listed a w regs h hf
    refine ⟨fun hr => hq _ _ _ _ h (ready_nil hok h.sz hr), fun i hi => ?_⟩
    obtain ⟨_, o, ho, hall⟩ := mem_ready.1 hi
    have hlt := ready_lt hi
    have hout := ready_out hi
    unfold wpOp
    rw [ho]
    simp only []
    have hg := hok.gd i o ho
    rw [if_pos (by simp [Region.wanted, hg])]
    refine .inl ?_
    have next : ∀ u w' regs', StepOk F w regs (p.HH (p.kc ops (isIn listed))) (p.V i) (p.HH (p.kc ops (isIn (listed.setIfInBounds i true)))) u w' regs' →
        wpAny P .any ops Q fuel (listed.setIfInBounds i true) (a.put o.dst u) w' := by
      intro u w' regs' hst
      refine ih _ _ _ _ (h.step hok hi ho hst) ?_
      have := toCome_set hlt h.sz hout
      omega
    have hfr : ∀ t ∈ tmpsOf o, VE (tot F regs (p.HH (p.kc ops (isIn listed)))) w regs (p.at ops (fun j => decide (j < i)) t) (a.tmps.getD t undef) := by
      intro t ht
      rw [← hok.at_ready h.dn hi ho ht]
      exact h.fr t
    cases hh : p.hd i with
    | true =>
      have hc := hok.kc_ready h.dn hi hh
      have hc2 : p.kc ops (isIn (listed.setIfInBounds i true)) = p.cnt ops i + 1 := by
        rw [kc_isIn_set (by rw [h.sz]; exact hlt), Plan.kc_hard hlt hh hout, hc]
      rw [hc2] at next
      rw [hc] at next hfr
      exact hok.hard i o ho hh F regs w a (by rw [← hc]; exact h.hp) (by rw [← hc]; exact h.gl) hfr _ _ next
    | false =>
      have hc2 : p.kc ops (isIn (listed.setIfInBounds i true)) = p.kc ops (isIn listed) := by
        rw [kc_isIn_set (by rw [h.sz]; exact hlt), Plan.kc_soft hh]
      rw [hc2] at next
      exact hok.soft i o _ ho hh (kc_le_all _) (fun m y hy h1 h2 => hok.between h.dn hi hy h1 h2) F regs w a h.hp h.gl hfr _ _ next

end
end Go.Vc

/- VcDc -/
namespace Go.Vc
set_option linter.unusedVariables false
set_option linter.unusedSimpArgs false

structure DOp where
  v : EV
  hard : Bool
  blk : Option Nat
  H : Heap
  H' : Heap
  deriving Inhabited

def befs1 (acc : List (List Nat)) (o : Oper) : List Nat :=
  o.after.toList.foldl (fun l e => match Region.binds .any e with
    | true => addN l (e.on :: acc.getD e.on [])
    | false => l) []

def befsL : List Oper → List (List Nat) → List (List Nat)
  | [], acc => acc
  | o :: r, acc => befsL r (acc ++ [befs1 acc o])

def allIdx {α : Type} : List α → Nat → (Nat → α → Bool) → Bool
  | [], _, _ => true
  | x :: r, k, f => f k x && allIdx r (k + 1) f

theorem allIdx_get {α : Type} {f : Nat → α → Bool} : ∀ {l : List α} {k : Nat}, allIdx l k f = true → ∀ {i : Nat} {x : α}, l[i]? = some x → f (k + i) x = true := by
  intro l
  induction l with
  | nil => intro k _ i x hi; simp at hi
  | cons a l ih =>
    intro k h i x hi
    simp only [allIdx, Bool.and_eq_true] at h
    cases i with
    | zero => simp at hi; subst hi; exact h.1
    | succ i =>
      simp at hi
      have := ih h.2 hi
      rwa [show k + 1 + i = k + (i + 1) by omega] at this

def isDstN (o : Oper) (t : Nat) : Bool :=
  match o.dst with
  | some d => Nat.beq d t
  | none => false

/-- What the edges of a region must give. -/
def planChk (l : List Oper) (bf : List (List Nat)) (hd : List Bool) : Bool :=
  Nat.ble bf.length l.length && allIdx l 0 fun i o =>
    (o.after.toList.all fun e => match Region.binds .any e with
      | true => Nat.blt e.on i
      | false => true) &&
    ((bf.getD i []).all fun j => o.after.toList.any fun e => match Region.binds .any e with
      | true => Nat.beq e.on j || hasN (bf.getD e.on []) j
      | false => false) &&
    (allIdx l 0 fun j o2 => match o.dst with
      | some t => match isDstN o2 t with
        | true => Nat.beq i j
        | false => true
      | none => true) &&
    ((tmpsOf o).all fun t => allIdx l 0 fun j o2 => match isDstN o2 t with
      | true => Nat.beq j i || hasN (bf.getD i []) j || hasN (bf.getD j []) i
      | false => true) &&
    (match hd.getD i false with
      | true => allIdx l 0 fun j _ => match hd.getD j false with
        | true => match Nat.blt i j with
          | true => hasN (bf.getD j []) i
          | false => true
        | false => true
      | false => true)

def pairObs (bf : List (List Nat)) (ds : List DOp) : List Prop :=
  (List.range ds.length).flatMap fun i => match ds[i]? with
    | some d => match d.blk with
      | some b => (List.range ds.length).flatMap fun y => match ds[y]? with
        | some e => match e.hard && !hasN (bf.getD i []) y && !hasN (bf.getD y []) i with
          | true => [e.H[b]? = e.H'[b]?]
          | false => []
        | none => []
      | none => []
    | none => []

theorem pairObs_get {bf : List (List Nat)} {ds : List DOp} (h : ∀ p ∈ pairObs bf ds, p) {i y : Nat} {d e : DOp} {b : Nat} (hi : ds[i]? = some d) (hb : d.blk = some b) (hy : ds[y]? = some e) (he : e.hard = true)
    (h1 : y ∉ bf.getD i []) (h2 : i ∉ bf.getD y []) : e.H[b]? = e.H'[b]? := by
  refine h _ ?_
  unfold pairObs
  rw [List.mem_flatMap]
  refine ⟨i, List.mem_range.2 (List.getElem?_eq_some_iff.1 hi).1, ?_⟩
  simp only [hi, hb]
  rw [List.mem_flatMap]
  refine ⟨y, List.mem_range.2 (List.getElem?_eq_some_iff.1 hy).1, ?_⟩
  have n1 : hasN (bf.getD i []) y = false := by
    cases hh : hasN (bf.getD i []) y with
    | false => rfl
    | true => exact absurd (hasN_mem hh) h1
  have n2 : hasN (bf.getD y []) i = false := by
    cases hh : hasN (bf.getD y []) i with
    | false => rfl
    | true => exact absurd (hasN_mem hh) h2
  simp only [hy, he, n1, n2, Bool.not_false, Bool.and_true, List.mem_singleton]

section
variable {P : Program} {G : Glob}

/-- The frame when the first operations have come up in the list's order. -/
def frAt (fr : Fr) : List Oper → List DOp → Nat → Fr
  | _, _, 0 => fr
  | o :: l, d :: ds, n + 1 => frAt (fput fr o.dst d.v) l ds n
  | _, _, _ => fr

def hpAt (H : Heap) : List DOp → Nat → Heap
  | _, 0 => H
  | d :: ds, n + 1 => hpAt (match d.hard with | true => d.H' | false => H) ds n
  | _, _ => H

def SoftOk (P : Program) (G : Glob) (o : Oper) (d : DOp) (fr : Fr) (H : Heap) : Prop :=
  ∀ Hx : Heap, (∀ b, d.blk = some b → Hx[b]? = H[b]?) → ∀ (F : Own) regs w (a : Act), HpOk F w regs Hx → GlOk G (tot F regs Hx) w → FrOk (tot F regs Hx) w regs (keepF (tmpsOf o) fr) a →
    ∀ (K : Act → World → Prop) (Q : Exit → Act → World → Prop), (∀ u w' regs', StepOk F w regs Hx d.v Hx u w' regs' → K (a.put o.dst u) w') → o.wp P a w K Q

def HardOk (P : Program) (G : Glob) (o : Oper) (d : DOp) (fr : Fr) (H : Heap) : Prop :=
  ∀ (F : Own) regs w (a : Act), HpOk F w regs H → GlOk G (tot F regs H) w → FrOk (tot F regs H) w regs (keepF (tmpsOf o) fr) a →
    ∀ (K : Act → World → Prop) (Q : Exit → Act → World → Prop), (∀ u w' regs', StepOk F w regs H d.v d.H' u w' regs' → K (a.put o.dst u) w') → o.wp P a w K Q

/-- What is known of each operation, in the list's order. -/
structure Traced (P : Program) (G : Glob) (nt : Nat) (l : List Oper) (ds : List DOp) (fr : Fr) (H : Heap) : Prop where
  len : ds.length = l.length
  op : ∀ (j : Nat) (o : Oper) (d : DOp), l[j]? = some o → ds[j]? = some d → (∀ k, o.dst = some k → k < nt) ∧ o.guard = none ∧ (d.hard = true → d.H = hpAt H ds j) ∧
    (d.hard = false → SoftOk P G o d (frAt fr l ds j) (hpAt H ds j)) ∧ (d.hard = true → HardOk P G o d (frAt fr l ds j) (hpAt H ds j))

variable {ops : Array Oper} {nt : Nat} {ds : List DOp} {fr : Fr} {H : Heap}

def planOf (bf : List (List Nat)) (ds : List DOp) (fr : Fr) (H : Heap) : Plan :=
  { fr0 := fr, V := fun i => (ds.getD i default).v, hd := fun i => (ds.getD i default).hard, bf := fun i => bf.getD i [],
    HH := fun k => (H :: (ds.filter (·.hard)).map (·.H')).getD k [] }

theorem hpAt_eq (ds : List DOp) : ∀ (H : Heap) (i : Nat), hpAt H ds i = (H :: (ds.filter (·.hard)).map (·.H')).getD ((ds.take i).filter (·.hard)).length [] := by
  induction ds with
  | nil => intro H i; cases i <;> simp [hpAt]
  | cons d ds ih =>
    intro H i
    cases i with
    | zero => simp [hpAt]
    | succ i =>
      simp only [hpAt, List.take_succ_cons]
      cases hh : d.hard with
      | true =>
        rw [List.filter_cons_of_pos (by exact hh), List.filter_cons_of_pos (by exact hh)]
        simp only [List.map_cons, List.length_cons, List.getD_cons_succ]
        exact ih _ _
      | false =>
        rw [List.filter_cons_of_neg (by simp [hh]), List.filter_cons_of_neg (by simp [hh])]
        exact ih _ _

theorem cnt_take {bf : List (List Nat)} (hn : ds.length = ops.size) (i : Nat) : i ≤ ops.size → (planOf bf ds fr H).cnt ops i = ((ds.take i).filter (·.hard)).length := by
  induction i with
  | zero =>
    intro _
    unfold Plan.cnt Plan.kc
    simp
  | succ i ih =>
    intro hi
    have hd : ds[i]? = some ds[i] := List.getElem?_eq_getElem (by omega)
    have e : (planOf bf ds fr H).cnt ops (i + 1) = (planOf bf ds fr H).kc ops (fun j => decide (j = i) || decide (j < i)) := by
      unfold Plan.cnt
      congr 1
      funext j
      by_cases h1 : j = i
      · subst h1; simp
      · by_cases h2 : j < i
        · simp [h2]; omega
        · simp [h1, h2]; omega
    have ht : (ds.take (i + 1)) = ds.take i ++ [ds[i]] := by simp
    rw [e, ht, List.filter_append]
    cases hh : (ds[i]).hard with
    | true =>
      rw [Plan.kc_hard (by omega) (by simp [planOf, List.getD_eq_getElem?_getD, hd, hh]) (by simp)]
      have := ih (by omega)
      unfold Plan.cnt at this
      rw [this]
      simp [hh]
    | false =>
      rw [Plan.kc_soft (by simp [planOf, List.getD_eq_getElem?_getD, hd, hh])]
      have := ih (by omega)
      unfold Plan.cnt at this
      rw [this]
      simp [hh]

theorem heap_at {bf : List (List Nat)} (hn : ds.length = ops.size) {i : Nat} (hi : i ≤ ops.size) : (planOf bf ds fr H).HH ((planOf bf ds fr H).cnt ops i) = hpAt H ds i := by
  rw [cnt_take hn i hi, hpAt_eq]
  rfl

theorem hpAt_succ (ds : List DOp) : ∀ (H : Heap) (i : Nat) (d : DOp), ds[i]? = some d → hpAt H ds (i + 1) = (match d.hard with | true => d.H' | false => hpAt H ds i) := by
  induction ds with
  | nil => intro H i d h; simp at h
  | cons e ds ih =>
    intro H i d h
    cases i with
    | zero => simp at h; subst h; cases ds <;> simp [hpAt] <;> rfl
    | succ i =>
      simp at h
      simp only [hpAt]
      rw [← ih _ i d h]

/-- In the list's order a temporary holds what the last one that writes it gave. -/
theorem frAt_get {bf : List (List Nat)} (one : ∀ i j t, dstAt ops i = some t → dstAt ops j = some t → i = j) (t : Nat) : ∀ (l : List Oper) (ds' : List DOp) (fr' : Fr) (n k : Nat), ds'.length = l.length → n ≤ l.length →
    (∀ j, l[j]? = ops[k + j]?) → (∀ j, ds'[j]? = ds[k + j]?) → (fget fr' t = (planOf bf ds fr H).at ops (fun j => decide (j < k)) t) →
    fget (frAt fr' l ds' n) t = (planOf bf ds fr H).at ops (fun j => decide (j < k + n)) t := by
  intro l
  induction l with
  | nil =>
    intro ds' fr' n k hl hn h1 h2 h3
    have : n = 0 := by simpa using hn
    subst this
    simpa [frAt] using h3
  | cons o l ih =>
    intro ds' fr' n k hl hn h1 h2 h3
    cases n with
    | zero => simpa [frAt] using h3
    | succ n =>
      cases ds' with
      | nil => simp at hl
      | cons d ds' =>
        simp only [frAt]
        rw [show k + (n + 1) = (k + 1) + n by omega]
        refine ih ds' _ n (k + 1) (by simpa using hl) (by simpa using hn) (fun j => by have := h1 (j + 1); simp at this; rw [this]; congr 1; omega)
          (fun j => by have := h2 (j + 1); simp at this; rw [this]; congr 1; omega) ?_
        have ho : ops[k]? = some o := by have := h1 0; simp at this; exact this.symm
        have hd : ds[k]? = some d := by have := h2 0; simp at this; exact this.symm
        by_cases hdt : o.dst = some t
        · have hda : dstAt ops k = some t := by simp [dstAt, ho, hdt]
          rw [Plan.at_in one (by simp) hda]
          simp [fput, hdt, fget, planOf, List.getD_eq_getElem?_getD, hd]
        · have e1 : fget (fput fr' o.dst d.v) t = fget fr' t := by
            cases hod : o.dst with
            | none => rfl
            | some m =>
              have hne : m ≠ t := fun e => hdt (by rw [hod, e])
              have : Nat.beq m t = false := by
                cases hb : Nat.beq m t with
                | false => rfl
                | true => exact absurd (Nat.eq_of_beq_eq_true hb) hne
              simp [fput, fget, this]
          rw [e1, h3]
          by_cases hex : ∃ j, j < k ∧ dstAt ops j = some t
          · obtain ⟨j, q1, q2⟩ := hex
            rw [Plan.at_in one (by simpa using q1) q2, Plan.at_in one (by simp; omega) q2]
          · rw [Plan.at_out (fun j q1 q2 => hex ⟨j, by simpa using q1, q2⟩), Plan.at_out (fun j q1 q2 => ?_)]
            simp only [decide_eq_true_eq] at q1
            by_cases hjk : j = k
            · subst hjk; apply hdt; simpa [dstAt, ho] using q2
            · exact hex ⟨j, by omega, q2⟩

theorem keep_get (l : List Nat) (fr : Fr) (t : Nat) : (t ∈ l ∧ fget (keepF l fr) t = fget fr t) ∨ fget (keepF l fr) t = .und := by
  induction l with
  | nil => exact .inr rfl
  | cons a l ih =>
    simp only [keepF, List.map_cons, fget] at ih ⊢
    cases hb : Nat.beq a t with
    | true => have := Nat.eq_of_beq_eq_true hb; subst this; exact .inl ⟨by simp, rfl⟩
    | false => rcases ih with ⟨h1, h2⟩ | h1
               · exact .inl ⟨by simp [h1], h2⟩
               · exact .inr h1

theorem isDstN_of {o : Oper} {t j : Nat} (ho : ops[j]? = some o) (h : dstAt ops j = some t) : isDstN o t = true := by
  have : o.dst = some t := by simpa [dstAt, ho] using h
  simp [isDstN, this]

theorem dstAt_op {j t : Nat} (h : dstAt ops j = some t) : ∃ o, ops[j]? = some o ∧ o.dst = some t := by
  unfold dstAt at h
  cases ho : ops[j]? with
  | none => rw [ho] at h; cases h
  | some o => rw [ho] at h; exact ⟨o, rfl, h⟩

theorem plan_ok {bf : List (List Nat)} (hchk : planChk ops.toList bf (ds.map (·.hard)) = true) (hobs : ∀ p ∈ pairObs bf ds, p) (htr : Traced P G nt ops.toList ds fr H) :
    (planOf bf ds fr H).Ok P G ops nt := by
  have hn : ds.length = ops.size := by rw [htr.len]; simp
  unfold planChk at hchk
  rw [Bool.and_eq_true] at hchk
  obtain ⟨hlen, hchk⟩ := hchk
  have C : ∀ (i : Nat) (o : Oper), ops[i]? = some o → _ := fun i o ho => allIdx_get hchk (i := i) (x := o) (by simpa using ho)
  simp only [Nat.zero_add, Bool.and_eq_true] at C
  have hhd : ∀ i, (ds.map (·.hard)).getD i false = (planOf bf ds fr H).hd i := by
    intro i
    simp only [planOf, List.getD_eq_getElem?_getD, List.getElem?_map]
    cases ds[i]? <;> rfl
  have one : ∀ i j t, dstAt ops i = some t → dstAt ops j = some t → i = j := by
    intro i j t h1 h2
    obtain ⟨o, ho, hd⟩ := dstAt_op h1
    obtain ⟨o2, ho2, _⟩ := dstAt_op h2
    have := allIdx_get (C i o ho).1.1.2 (i := j) (x := o2) (by simpa using ho2)
    simp only [Nat.zero_add, hd, isDstN_of ho2 h2] at this
    exact Nat.eq_of_beq_eq_true this
  have fget_at : ∀ (i : Nat), i ≤ ops.size → ∀ t, fget (frAt fr ops.toList ds i) t = (planOf bf ds fr H).at ops (fun j => decide (j < i)) t := by
    intro i hi t
    have := frAt_get (bf := bf) (fr := fr) (H := H) (ds := ds) one t ops.toList ds fr i 0 htr.len (by simpa using hi) (fun j => by simp) (fun j => by simp)
      (by rw [Plan.at_out (fun j h => by simp at h)]; rfl)
    simpa using this
  have frok : ∀ (i : Nat) (o : Oper), ops[i]? = some o → ∀ {own : Own} {w : World} {regs : List Reg} {a : Act}, (∀ t ∈ tmpsOf o, VE own w regs ((planOf bf ds fr H).at ops (fun j => decide (j < i)) t) (a.tmps.getD t undef)) →
      FrOk own w regs (keepF (tmpsOf o) (frAt fr ops.toList ds i)) a := by
    intro i o ho own w regs a h t
    rcases keep_get (tmpsOf o) (frAt fr ops.toList ds i) t with ⟨h1, h2⟩ | h1
    · rw [h2, fget_at i (Nat.le_of_lt (Array.getElem?_eq_some_iff.1 ho).1)]
      exact h t h1
    · rw [h1]; exact .und _
  have getd : ∀ (i : Nat) (o : Oper), ops[i]? = some o → ∃ d, ds[i]? = some d ∧ (planOf bf ds fr H).V i = d.v ∧ (planOf bf ds fr H).hd i = d.hard := by
    intro i o ho
    have hlt := (Array.getElem?_eq_some_iff.1 ho).1
    exact ⟨ds[i], List.getElem?_eq_getElem (by omega), by simp [planOf, List.getD_eq_getElem?_getD, List.getElem?_eq_getElem (by omega : i < ds.length)],
      by simp [planOf, List.getD_eq_getElem?_getD, List.getElem?_eq_getElem (by omega : i < ds.length)]⟩
  refine ⟨fun i o ho e he hb => ?_, fun i j hj => ?_, one, fun i o j t ho ht hj => ?_, fun i j hi hj h1 h2 hij => ?_, fun i o ho => ?_, fun i o ho => ?_, fun i o ho hh F regs w a hp hg hf K Q hk => ?_,
    fun i o k ho hh hk hbt F regs w a hp hg hf K Q hk' => ?_⟩
  · have := List.all_eq_true.1 (C i o ho).1.1.1.1 e (by simpa using he)
    rw [hb] at this
    exact Nat.le_of_ble_eq_true this
  · have hj' : j ∈ bf.getD i [] := hj
    rcases Nat.lt_or_ge i ops.size with hlt | hge
    · have ho : ops[i]? = some ops[i] := Array.getElem?_eq_getElem hlt
      have := List.all_eq_true.1 (C i _ ho).1.1.1.2 j hj'
      obtain ⟨e, he, hx⟩ := List.any_eq_true.1 this
      cases hb : Region.binds .any e with
      | false => rw [hb] at hx; cases hx
      | true =>
        rw [hb] at hx
        simp only [Bool.or_eq_true] at hx
        refine ⟨_, ho, e, by simpa using he, hb, ?_⟩
        rcases hx with h | h
        · exact .inl (Nat.eq_of_beq_eq_true h)
        · exact .inr (hasN_mem h)
    · have hle := Nat.le_of_ble_eq_true hlen
      simp only [Array.length_toList] at hle
      rw [List.getD_eq_getElem?_getD, List.getElem?_eq_none (by omega)] at hj'
      simp at hj'
  · obtain ⟨o2, ho2, _⟩ := dstAt_op hj
    have := List.all_eq_true.1 (C i o ho).1.2 t ht
    have := allIdx_get this (i := j) (x := o2) (by simpa using ho2)
    simp only [Nat.zero_add, isDstN_of ho2 hj, Bool.or_eq_true] at this
    rcases this with (h | h) | h
    · exact .inl (Nat.eq_of_beq_eq_true h)
    · exact .inr (.inl (hasN_mem h))
    · exact .inr (.inr (hasN_mem h))
  · have ho : ops[i]? = some ops[i] := Array.getElem?_eq_getElem hi
    have ho2 : ops[j]? = some ops[j] := Array.getElem?_eq_getElem hj
    have := (C i _ ho).2
    rw [hhd, h1] at this
    have := allIdx_get this (i := j) (x := ops[j]) (by simp)
    simp only [Nat.zero_add, hhd, h2, show Nat.blt i j = true from Nat.ble_eq_true_of_le hij] at this
    exact hasN_mem this
  · obtain ⟨d, hd, _⟩ := getd i o ho
    exact (htr.op i o d (by simpa using ho) hd).2.1
  · obtain ⟨d, hd, _⟩ := getd i o ho
    exact (htr.op i o d (by simpa using ho) hd).1
  · obtain ⟨d, hd, hV, hH⟩ := getd i o ho
    have hlt := (Array.getElem?_eq_some_iff.1 ho).1
    have hdh : d.hard = true := by rw [← hH]; exact hh
    have hop := (htr.op i o d (by simpa using ho) hd).2.2.2.2 hdh
    have e0 := heap_at (bf := bf) (fr := fr) (H := H) hn (Nat.le_of_lt hlt)
    have e1 := heap_at (bf := bf) (fr := fr) (H := H) hn (i := i + 1) hlt
    have hc : (planOf bf ds fr H).cnt ops (i + 1) = (planOf bf ds fr H).cnt ops i + 1 := by
      rw [cnt_take hn _ hlt, cnt_take hn _ (Nat.le_of_lt hlt)]
      rw [List.take_add_one, hd]
      simp [hdh]
    rw [hc, hpAt_succ ds H i d hd, hdh] at e1
    simp only [] at e1
    rw [e0] at hp hg hf
    refine hop F regs w a hp hg (frok i o ho hf) K Q (fun u w' regs' hst => hk u w' regs' ?_)
    rw [e0, hV, e1]
    exact hst
  · obtain ⟨d, hd, hV, hH⟩ := getd i o ho
    have hlt := (Array.getElem?_eq_some_iff.1 ho).1
    have hdh : d.hard = false := by rw [← hH]; exact hh
    have hop := (htr.op i o d (by simpa using ho) hd).2.2.2.1 hdh
    have e0 := heap_at (bf := bf) (fr := fr) (H := H) hn (Nat.le_of_lt hlt)
    refine hop ((planOf bf ds fr H).HH k) (fun b hb => ?_) F regs w a hp hg (frok i o ho hf) K Q (fun u w' regs' hst => hk' u w' regs' (by rw [hV]; exact hst))
    rw [← e0]
    have walk : ∀ (n lo : Nat), (∀ m, lo ≤ m → m < lo + n → ((planOf bf ds fr H).HH m)[b]? = ((planOf bf ds fr H).HH (m + 1))[b]?) → ((planOf bf ds fr H).HH lo)[b]? = ((planOf bf ds fr H).HH (lo + n))[b]? := by
      intro n
      induction n with
      | zero => intro lo _; rfl
      | succ n ih =>
        intro lo h
        rw [ih lo (fun m h1 h2 => h m h1 (by omega)), h (lo + n) (by omega) (by omega)]
        rfl
    have one : ∀ m, min k ((planOf bf ds fr H).cnt ops i) ≤ m → m < max k ((planOf bf ds fr H).cnt ops i) → ((planOf bf ds fr H).HH m)[b]? = ((planOf bf ds fr H).HH (m + 1))[b]? := by
      intro m h1 h2
      have hmlt : m < ((List.range ops.size).filter (planOf bf ds fr H).hd).length := by
        have e : (planOf bf ds fr H).kc ops (fun _ => true) = ((List.range ops.size).filter (planOf bf ds fr H).hd).length := by
          unfold Plan.kc
          congr 1
          apply List.filter_congr
          intro x _
          simp
        have := kc_le_all (p := planOf bf ds fr H) (ops := ops) (fun j => decide (j < i))
        have : (planOf bf ds fr H).cnt ops i ≤ (planOf bf ds fr H).kc ops (fun _ => true) := this
        omega
      have hy := List.getElem?_eq_getElem hmlt
      generalize ((List.range ops.size).filter (planOf bf ds fr H).hd)[m] = y at hy
      obtain ⟨n1, n2⟩ := hbt m y hy h1 h2
      have hmem := List.mem_of_getElem? hy
      rw [List.mem_filter, List.mem_range] at hmem
      have hcy := cnt_hix (p := planOf bf ds fr H) (ops := ops) hy
      have hoy : ops[y]? = some ops[y] := Array.getElem?_eq_getElem hmem.1
      obtain ⟨e, he, _, hHe⟩ := getd y _ hoy
      have heh : e.hard = true := by rw [← hHe]; exact hmem.2
      have hpo := pairObs_get hobs hd hb he heh n1 n2
      have f0 := heap_at (bf := bf) (fr := fr) (H := H) hn (Nat.le_of_lt hmem.1)
      have f1 := heap_at (bf := bf) (fr := fr) (H := H) hn (i := y + 1) hmem.1
      have hc : (planOf bf ds fr H).cnt ops (y + 1) = (planOf bf ds fr H).cnt ops y + 1 := by
        rw [cnt_take hn _ hmem.1, cnt_take hn _ (Nat.le_of_lt hmem.1)]
        rw [List.take_add_one, he]
        simp [heh]
      rw [hc, hpAt_succ ds H y e he, heh, hcy] at f1
      rw [hcy] at f0
      simp only [] at f1
      rw [f0, f1, ← (htr.op y ops[y] e (by rw [Array.getElem?_toList]; exact hoy) he).2.2.1 heh]
      exact hpo
    rcases Nat.le_total k ((planOf bf ds fr H).cnt ops i) with hle | hle
    · have := walk ((planOf bf ds fr H).cnt ops i - k) k (fun m h1 h2 => one m (by omega) (by omega))
      rw [show k + ((planOf bf ds fr H).cnt ops i - k) = (planOf bf ds fr H).cnt ops i by omega] at this
      exact this
    · have := walk (k - (planOf bf ds fr H).cnt ops i) ((planOf bf ds fr H).cnt ops i) (fun m h1 h2 => one m (by omega) (by omega))
      rw [show (planOf bf ds fr H).cnt ops i + (k - (planOf bf ds fr H).cnt ops i) = k by omega] at this
      exact this.symm

end
end Go.Vc
