/- Own texts of the proof, put together: VcTr. -/
import Derived.Test.YtibbjfmgglmkkaaDoorVcT
/- VcZ -/
namespace Go.Vc
set_option linter.unusedVariables false
set_option linter.unusedSimpArgs false

def listSt (i : Nat) (fr : Fr) (H : Heap) : Option (Fr × Heap) :=
  match H[i]? with
  | some (some (.cells cs _)) => match allP cs with
    | some ps => some (listF i ps fr, (H.set i none).map (listB i ps))
    | none => none
  | _ => none

def listAll : List Nat → Fr → Heap → Option (Fr × Heap)
  | [], fr, H => some (fr, H)
  | i :: r, fr, H => match listSt i fr H with
    | some (fr', H') => listAll r fr' H'
    | none => none

def placeOf : List Nat → Nat → Nat → Option Nat
  | [], _, _ => none
  | j :: r, k, i => match Nat.beq j i with
    | true => some k
    | false => placeOf r (k + 1) i

def selOf (B : Nat) (sel : List Nat) (i : Nat) : Option Nat :=
  match placeOf sel B i with
  | some k => some k
  | none => match Nat.blt i B with
    | true => some i
    | false => none

def clearN : List Nat → Heap → Heap
  | [], H => H
  | i :: r, H => clearN r (H.set i none)

def distinctN : List Nat → Bool
  | [] => true
  | j :: r => (!(r.contains j)) && distinctN r

def renSt (B : Nat) (sel : List Nat) (fr : Fr) (H : Heap) : Option (Fr × Heap) :=
  match distinctN sel with
  | true => some (renF (selOf B sel) fr, ((clearN sel H).take B ++ sel.map fun i => H.getD i none).map (renB (selOf B sel)))
  | false => none

def keepF (keep : List Nat) (fr : Fr) : Fr := keep.map fun t => (t, fget fr t)

/-- Slots forgotten, rows turned into lists, blocks dropped and renumbered. -/
def weaken (B : Nat) (keep lists sel : List Nat) (fr : Fr) (H : Heap) : Option (Fr × Heap) :=
  match listAll lists (keepF keep fr) H with
  | some (fr1, H1) => renSt B sel fr1 H1
  | none => none

section
variable {P : Program} {G : Glob} {F own own' : Own} {w w' : World} {regs regs' : List Reg} {H H' : Heap}

@[simp] theorem listEs_len (i : Nat) (ps : List PV) (cs : List EV) : (listEs i ps cs).length = cs.length := by
  induction cs with
  | nil => rfl
  | cons v vs ih => simp [listEs, ih]
@[simp] theorem renEs_len (s : Nat → Option Nat) (cs : List EV) : (renEs s cs).length = cs.length := by
  induction cs with
  | nil => rfl
  | cons v vs ih => simp [renEs, ih]

theorem listB_kd {i : Nat} {ps : List PV} {b c : Blk} (h : listB i ps (some c) = some b) : c.kd = b.kd := by
  cases c <;> simp [listB] at h <;> subst h <;> rfl

theorem renB_kd {s : Nat → Option Nat} {b c : Blk} (h : renB s (some c) = some b) : c.kd = b.kd := by
  cases c <;> simp [renB] at h <;> subst h <;> rfl

theorem bytes_any {s : List Nat} {us : List Value} (h : VEs own w regs (s.map byteEV) us) : VEs own' w' regs' (s.map byteEV) us := by
  induction s generalizing us with
  | nil => cases h; exact .nil
  | cons x s ih =>
    cases h with | cons _ _ _ _ h hs =>
    cases h with | p _ _ h =>
    cases h
    exact .cons _ _ _ _ (.p _ _ (.int _ _)) (ih hs)

theorem BlkOk.bytes_any {g : Reg} {s : List Nat} {t : TypeId} (h : BlkOk own w regs g (.bytes s t)) : BlkOk own' w regs' g (.bytes s t) := by
  obtain ⟨⟨h1, us, h2, h3⟩, h4⟩ := h
  exact ⟨⟨h1, us, Go.Vc.bytes_any h2, h3⟩, h4⟩

theorem listB_get {i j : Nat} {ps : List PV} {H0 : Heap} {b : Blk} (h : (H0.map (listB i ps))[j]? = some (some b)) :
    ∃ c, H0[j]? = some (some c) ∧ listB i ps (some c) = some b ∧ c.size = b.size := by
  rw [List.getElem?_map] at h
  cases hc : H0[j]? with
  | none => rw [hc] at h; simp at h
  | some c =>
    rw [hc] at h
    simp at h
    cases c with
    | none => simp [listB] at h
    | some c =>
      refine ⟨c, rfl, h, ?_⟩
      cases c with
      | cells cs ty => simp [listB] at h; subst h; simp [Blk.size]
      | bytes s t => simp [listB] at h; subst h; rfl
      | iter s p => simp [listB] at h; subst h; rfl

theorem InReg.size {g : Reg} {b c : Blk} (h : b.size = c.size) {r x : Nat} (hr : InReg g b r x) : InReg g c r x := ⟨hr.1, hr.2.1, by rw [← h]; exact hr.2.2⟩

theorem listSt_sound {i : Nat} {fr fr' : Fr} {a : Act} (h : listSt i fr H = some (fr', H')) (hh : HpOk F w regs H) (hG : GlOk G (tot F regs H) w) (hf : FrOk (tot F regs H) w regs fr a) :
    HpOk F w regs H' ∧ GlOk G (tot F regs H') w ∧ FrOk (tot F regs H') w regs fr' a ∧ (∀ r x, owned regs H' r x → owned regs H r x) ∧ H'.length = H.length := by
  unfold listSt at h
  split at h
  · rename_i cs cty hi
    split at h
    · rename_i ps hps
      cases h
      have hlt : i < H.length := (List.getElem?_eq_some_iff.1 hi).1
      have hltr : i < regs.length := by rw [hh.len]; exact hlt
      obtain ⟨g, hg⟩ : ∃ g, regs[i]? = some g := ⟨_, List.getElem?_eq_getElem hltr⟩
      obtain ⟨⟨e, n, hsh, hn, hz⟩, us, hus, hcell⟩ := hh.blk i g _ hg hi
      have hsub : ∀ r x, owned regs ((H.set i none).map (listB i ps)) r x → owned regs (H.set i none) r x := by
        rintro r x ⟨j, gj, b, h1, h2, h3⟩
        obtain ⟨c, hc, _, hsz⟩ := listB_get h2
        exact ⟨j, gj, c, h1, hc, h3.size hsz.symm⟩
      have hsub2 : ∀ r x, tot F regs ((H.set i none).map (listB i ps)) r x → tot F regs H r x := fun r x h => h.imp id (fun h => owned_kill (hsub r x h))
      have hm : Moves (tot F regs H) w regs (tot F regs ((H.set i none).map (listB i ps))) w regs := Moves.shrink hsub2
      have hpv := (allP_sound hps hus)
      have hlus : us.length = cs.length := hus.len.symm
      have hnot : ∀ j, j < cs.length → ¬ tot F regs ((H.set i none).map (listB i ps)) g.blk (g.off + j) := by
        intro j hj ht
        have hin : InReg g (.cells cs cty) g.blk (g.off + j) := ⟨rfl, by omega, .inr (by show g.off + j < g.off + cs.length; omega)⟩
        rcases ht with hF | ho
        · exact hh.fr i g _ hg hi _ _ hin hF
        · obtain ⟨k, gk, b, h1, h2, h3⟩ := hsub _ _ ho
          obtain ⟨h4, h5⟩ := set_none_get h2
          exact hh.dj i k g gk _ b (fun e => h5 e.symm) hg h1 hi h4 _ _ hin h3
      have hc : ∀ (j : Nat) u, us[j]? = some u → w.cell? ⟨g.blk, g.off + j, none⟩ = some u ∧ ¬ tot F regs ((H.set i none).map (listB i ps)) g.blk (g.off + j) :=
        fun j u hj => ⟨hcell j u hj, hnot j (by have := (List.getElem?_eq_some_iff.1 hj).1; omega)⟩
      have hl : g.blk < w.heap.size := shape_lt hsh
      refine ⟨⟨by simp [hh.len], fun j gj b h1 h2 => ?_, fun j k g1 g2 b1 b2 hjk h1 h2 h3 h4 r x r1 r2 => ?_, fun j gj b h1 h2 r x hr => ?_, hh.lt, fun j gj b h1 h2 => ?_⟩, hG.moves hm,
        FrOk.list hg (hpv.moves hm) hl hc hsub2 hf, fun r x h => owned_kill (hsub r x h), by simp⟩
      · obtain ⟨c, hc', hb, _⟩ := listB_get h2
        obtain ⟨h4, h5⟩ := set_none_get hc'
        have hok := hh.blk j gj c h1 h4
        cases c with
        | cells cs' ty' =>
          simp [listB] at hb
          subst hb
          obtain ⟨⟨e', n', q1, q2, q3⟩, us', q4, q5⟩ := hok
          have hlen : (listEs i ps cs').length = cs'.length := listEs_len i ps cs'
          exact ⟨⟨e', n', q1, by rw [hlen]; exact q2, fun x a1 a2 a3 => q3 x (by rw [hlen] at a1; exact a1) a2 (by rw [hlen] at a3; exact a3)⟩, us', VEs.list hg (hpv.moves hm) hl hc hsub2 q4, q5⟩
        | bytes s t =>
          simp [listB] at hb
          subst hb
          exact hok.bytes_any
        | iter s p =>
          simp [listB] at hb
          subst hb
          exact hok
      · obtain ⟨c1, e1, _, s1⟩ := listB_get h3
        obtain ⟨c2, e2, _, s2⟩ := listB_get h4
        exact hh.dj j k g1 g2 c1 c2 hjk h1 h2 (set_none_get e1).1 (set_none_get e2).1 r x (r1.size s1.symm) (r2.size s2.symm)
      · obtain ⟨c1, e1, _, s1⟩ := listB_get h2
        exact hh.fr j gj c1 h1 (set_none_get e1).1 r x (hr.size s1.symm)
      · obtain ⟨c1, e1, s0, s1⟩ := listB_get h2
        rw [← s1, ← listB_kd s0]
        exact hh.ty j gj c1 h1 (set_none_get e1).1
    · cases h
  · cases h

theorem listAll_sound (l : List Nat) : ∀ {fr fr' : Fr} {a : Act} {H H' : Heap}, listAll l fr H = some (fr', H') → HpOk F w regs H → GlOk G (tot F regs H) w → FrOk (tot F regs H) w regs fr a →
    HpOk F w regs H' ∧ GlOk G (tot F regs H') w ∧ FrOk (tot F regs H') w regs fr' a ∧ (∀ r x, owned regs H' r x → owned regs H r x) ∧ H'.length = H.length := by
  induction l with
  | nil => intro fr fr' a H H' h hh hG hf; cases h; exact ⟨hh, hG, hf, fun _ _ h => h, rfl⟩
  | cons i l ih =>
    intro fr fr' a H H' h hh hG hf
    simp only [listAll] at h
    split at h
    · rename_i fr1 H1 h1
      obtain ⟨a1, a2, a3, a4, a5⟩ := listSt_sound h1 hh hG hf
      obtain ⟨b1, b2, b3, b4, b5⟩ := ih h a1 a2 a3
      exact ⟨b1, b2, b3, fun r x hx => a4 r x (b4 r x hx), b5.trans a5⟩
    · cases h

theorem placeOf_some {sel : List Nat} : ∀ {k i j : Nat}, placeOf sel k i = some j → k ≤ j ∧ sel[j - k]? = some i := by
  induction sel with
  | nil => intro k i j h; cases h
  | cons a r ih =>
    intro k i j h
    simp only [placeOf] at h
    split at h
    · rename_i hb
      cases h
      have : a = i := Nat.eq_of_beq_eq_true hb
      subst this
      exact ⟨Nat.le_refl _, by simp⟩
    · obtain ⟨h1, h2⟩ := ih h
      refine ⟨by omega, ?_⟩
      have : j - k = (j - (k + 1)) + 1 := by omega
      rw [this]
      simpa using h2

theorem clearN_get (sel : List Nat) : ∀ {H : Heap} {j : Nat} {b : Blk}, (clearN sel H)[j]? = some (some b) → H[j]? = some (some b) ∧ j ∉ sel := by
  induction sel with
  | nil => intro H j b h; exact ⟨h, by simp⟩
  | cons a r ih =>
    intro H j b h
    obtain ⟨h1, h2⟩ := ih h
    obtain ⟨h3, h4⟩ := set_none_get h1
    exact ⟨h3, by simp [h4, h2]⟩

theorem clearN_len (sel : List Nat) : ∀ (H : Heap), (clearN sel H).length = H.length := by
  induction sel with
  | nil => intro H; rfl
  | cons a r ih => intro H; simp [clearN, ih]

theorem placeOf_none {sel : List Nat} {k i : Nat} (h : placeOf sel k i = none) : i ∉ sel := by
  induction sel generalizing k with
  | nil => simp
  | cons a r ih =>
    simp only [placeOf] at h
    split at h
    · cases h
    · rename_i hb
      have : a ≠ i := Nat.ne_of_beq_eq_false hb
      simp only [List.mem_cons, not_or]
      exact ⟨fun e => this e.symm, ih h⟩

theorem distinctN_get {sel : List Nat} (h : distinctN sel = true) {k l i : Nat} (hk : sel[k]? = some i) (hl : sel[l]? = some i) : k = l := by
  induction sel generalizing k l with
  | nil => simp at hk
  | cons a r ih =>
    simp only [distinctN, Bool.and_eq_true, Bool.not_eq_true'] at h
    have hn : a ∉ r := by simpa using h.1
    cases k with
    | zero => cases l with
      | zero => rfl
      | succ l => simp at hk hl; subst hk; exact absurd (List.mem_of_getElem? hl) hn
    | succ k => cases l with
      | zero => simp at hk hl; subst hl; exact absurd (List.mem_of_getElem? hk) hn
      | succ l => simp at hk hl; rw [ih h.2 hk hl]

theorem renB_get {s : Nat → Option Nat} {j : Nat} {H0 : Heap} {b : Blk} (h : (H0.map (renB s))[j]? = some (some b)) :
    ∃ c, H0[j]? = some (some c) ∧ renB s (some c) = some b ∧ c.size = b.size := by
  rw [List.getElem?_map] at h
  cases hc : H0[j]? with
  | none => rw [hc] at h; simp at h
  | some c =>
    rw [hc] at h
    simp at h
    cases c with
    | none => simp [renB] at h
    | some c =>
      refine ⟨c, rfl, h, ?_⟩
      cases c with
      | cells cs ty => simp [renB] at h; subst h; simp [Blk.size]
      | bytes s t => simp [renB] at h; subst h; rfl
      | iter s p => simp [renB] at h; subst h; rfl

/-- The old number of a block. -/
def oldOf (B : Nat) (sel : List Nat) (j : Nat) : Option Nat := if j < B then some j else sel[j - B]?

theorem renSt_sound {B : Nat} {sel : List Nat} {fr fr' : Fr} {a : Act} (h : renSt B sel fr H = some (fr', H')) (hB : B ≤ H.length) (hh : HpOk F w regs H) (hG : GlOk G (tot F regs H) w)
    (hf : FrOk (tot F regs H) w regs fr a) :
    ∃ regs', HpOk F w regs' H' ∧ GlOk G (tot F regs' H') w ∧ FrOk (tot F regs' H') w regs' fr' a ∧ (∀ r x, owned regs' H' r x → owned regs H r x) ∧ B ≤ H'.length ∧
      (∀ (i : Nat) g, i < B → regs[i]? = some g → regs'[i]? = some g) := by
  unfold renSt at h
  split at h
  · rename_i hdis
    cases h
    have hBr : B ≤ regs.length := by rw [hh.len]; exact hB
    refine ⟨regs.take B ++ sel.map fun i => regs.getD i ⟨0, 0, false⟩, ?_⟩
    generalize hR : (regs.take B ++ sel.map fun i => regs.getD i (⟨0, 0, false⟩ : Reg)) = regs'
    have hH : ∀ (j : Nat) (c : Blk), ((clearN sel H).take B ++ sel.map fun i => H.getD i none)[j]? = some (some c) → ∃ i, oldOf B sel j = some i ∧ H[i]? = some (some c) ∧ (j < B → j ∉ sel) := by
      intro j c hj
      have hcl := clearN_len sel H
      rcases Nat.lt_or_ge j B with h1 | h1
      · rw [List.getElem?_append_left (by simp; omega)] at hj
        rw [List.getElem?_take, if_pos h1] at hj
        obtain ⟨h2, h3⟩ := clearN_get sel hj
        exact ⟨j, by simp [oldOf, h1], h2, fun _ => h3⟩
      · rw [List.getElem?_append_right (by simp; omega), List.length_take, hcl, Nat.min_eq_left hB, List.getElem?_map] at hj
        cases hs : sel[j - B]? with
        | none => rw [hs] at hj; simp at hj
        | some i =>
          rw [hs] at hj
          simp at hj
          refine ⟨i, by simp [oldOf, Nat.not_lt.2 h1, hs], ?_, fun h => absurd h (by omega)⟩
          cases hi : H[i]? with
          | none => rw [hi] at hj; simp at hj
          | some o => rw [hi] at hj; simp at hj; rw [hj]
    have hreg : ∀ (j i : Nat) (g : Reg), oldOf B sel j = some i → regs'[j]? = some g → i < regs.length → regs[i]? = some g := by
      intro j i g ho hj hi
      subst hR
      unfold oldOf at ho
      split at ho
      · rename_i h1
        cases ho
        rw [List.getElem?_append_left (by simp; omega), List.getElem?_take, if_pos h1] at hj
        exact hj
      · rename_i h1
        rw [List.getElem?_append_right (by simp; omega), List.length_take, Nat.min_eq_left hBr, List.getElem?_map, ho] at hj
        simp at hj
        rw [List.getElem?_eq_getElem hi, ← hj, List.getElem?_eq_getElem hi]
        rfl
    have hren : ∀ (i j : Nat) (g : Reg), selOf B sel i = some j → regs[i]? = some g → regs'[j]? = some g := by
      intro i j g hs hi
      subst hR
      unfold selOf at hs
      split at hs
      rotate_left
      · split at hs
        · rename_i h1
          cases hs
          have h1' : i < B := Nat.le_of_ble_eq_true h1
          rw [List.getElem?_append_left (by simp; omega), List.getElem?_take, if_pos h1']
          exact hi
        · cases hs
      · rename_i k hs'
        cases hs
        obtain ⟨h1, h2⟩ := placeOf_some hs'
        rw [List.getElem?_append_right (by simp; omega), List.length_take, Nat.min_eq_left hBr, List.getElem?_map, h2]
        simp [List.getD_eq_getElem?_getD, hi]
    have hinj : ∀ j k i, oldOf B sel j = some i → oldOf B sel k = some i → (j < B → j ∉ sel) → (k < B → k ∉ sel) → j = k := by
      intro j k i h1 h2 hj hk
      unfold oldOf at h1 h2
      split at h1 <;> split at h2
      · cases h1; cases h2; rfl
      · rename_i hl _; cases h1; exact absurd (List.mem_of_getElem? h2) (hj hl)
      · rename_i _ hl; cases h2; exact absurd (List.mem_of_getElem? h1) (hk hl)
      · have := distinctN_get hdis h1 h2; omega
    have blkOf : ∀ (j : Nat) (g : Reg) (b : Blk), regs'[j]? = some g → (((clearN sel H).take B ++ sel.map fun i => H.getD i none).map (renB (selOf B sel)))[j]? = some (some b) →
        ∃ i c, (oldOf B sel j = some i ∧ (j < B → j ∉ sel)) ∧ regs[i]? = some g ∧ H[i]? = some (some c) ∧ renB (selOf B sel) (some c) = some b ∧ c.size = b.size := by
      intro j g b h1 h2
      obtain ⟨c, hc, hb, hsz⟩ := renB_get h2
      obtain ⟨i, ho, hi, hns⟩ := hH j c hc
      have hlt : i < regs.length := by rw [hh.len]; exact (List.getElem?_eq_some_iff.1 hi).1
      exact ⟨i, c, ⟨ho, hns⟩, hreg j i g ho h1 hlt, hi, hb, hsz⟩
    have hsub : ∀ r x, owned regs' (((clearN sel H).take B ++ sel.map fun i => H.getD i none).map (renB (selOf B sel))) r x → owned regs H r x := by
      rintro r x ⟨j, g, b, h1, h2, h3⟩
      obtain ⟨i, c, _, e1, e2, _, e3⟩ := blkOf j g b h1 h2
      exact ⟨i, g, c, e1, e2, h3.size e3.symm⟩
    have hm : Moves (tot F regs H) w regs (tot F regs' (((clearN sel H).take B ++ sel.map fun i => H.getD i none).map (renB (selOf B sel)))) w regs := Moves.shrink fun r x h => h.imp id (hsub r x)
    refine ⟨⟨by subst hR; have := clearN_len sel H; simp; omega, fun j g b h1 h2 => ?_, fun j k g1 g2 b1 b2 hjk h1 h2 h3 h4 r x r1 r2 => ?_, fun j g b h1 h2 r x hr => ?_, hh.lt, fun j g b h1 h2 => ?_⟩, hG.moves hm, (hf.moves hm).ren _ hren, hsub,
      by have := clearN_len sel H; simp; omega, fun i g hi hg => by
        subst hR
        rw [List.getElem?_append_left (by simp; omega), List.getElem?_take, if_pos hi]
        exact hg⟩
    · obtain ⟨i, c, _, e1, e2, e3, _⟩ := blkOf j g b h1 h2
      have hok := hh.blk i g c e1 e2
      cases c with
      | cells cs ty =>
        simp [renB] at e3
        subst e3
        obtain ⟨⟨e', n', q1, q2, q3⟩, us', q4, q5⟩ := hok
        have hlen : (renEs (selOf B sel) cs).length = cs.length := renEs_len _ cs
        exact ⟨⟨e', n', q1, by rw [hlen]; exact q2, fun x a1 a2 a3 => q3 x (by rw [hlen] at a1; exact a1) a2 (by rw [hlen] at a3; exact a3)⟩, us', (q4.moves hm).ren _ hren, q5⟩
      | bytes s t =>
        simp [renB] at e3
        subst e3
        exact hok.bytes_any
      | iter s p =>
        simp [renB] at e3
        subst e3
        exact hok
    · obtain ⟨i1, c1, o1, e1, f1, _, s1⟩ := blkOf j g1 b1 h1 h3
      obtain ⟨i2, c2, o2, e2, f2, _, s2⟩ := blkOf k g2 b2 h2 h4
      refine hh.dj i1 i2 g1 g2 c1 c2 (fun e => hjk ?_) e1 e2 f1 f2 r x (r1.size s1.symm) (r2.size s2.symm)
      subst e
      exact hinj j k i1 o1.1 o2.1 o1.2 o2.2
    · obtain ⟨i1, c1, o1, e1, f1, _, s1⟩ := blkOf j g b h1 h2
      exact hh.fr i1 g c1 e1 f1 r x (hr.size s1.symm)
    · obtain ⟨i1, c1, o1, e1, f1, s0, s1⟩ := blkOf j g _ h1 h2
      rw [← s1, ← renB_kd s0]
      exact hh.ty i1 g c1 e1 f1
  · cases h

theorem FrOk.keep {fr : Fr} {a : Act} (keep : List Nat) (h : FrOk own w regs fr a) : FrOk own w regs (keepF keep fr) a := by
  intro t
  have key : ∀ (l : List Nat), fget (l.map fun t => (t, fget fr t)) t = fget fr t ∨ fget (l.map fun t => (t, fget fr t)) t = .und := by
    intro l
    induction l with
    | nil => exact .inr rfl
    | cons k l ih =>
      simp only [List.map_cons, fget]
      cases hb : Nat.beq k t with
      | true => exact .inl (by rw [Nat.eq_of_beq_eq_true hb])
      | false => exact ih
  unfold keepF
  rcases key keep with h1 | h1
  · rw [h1]; exact h t
  · rw [h1]; exact .und _

/-- A plainer state stands for what the state stood for. -/
theorem weaken_sound {B : Nat} {keep lists sel : List Nat} {fr fr' : Fr} {a : Act} (h : weaken B keep lists sel fr H = some (fr', H')) (hB : B ≤ H.length) (hh : HpOk F w regs H) (hG : GlOk G (tot F regs H) w)
    (hf : FrOk (tot F regs H) w regs fr a) :
    ∃ regs', HpOk F w regs' H' ∧ GlOk G (tot F regs' H') w ∧ FrOk (tot F regs' H') w regs' fr' a ∧ Past B F w regs H w regs' H' ∧ B ≤ H'.length := by
  unfold weaken at h
  split at h
  · rename_i fr1 H1 h1
    obtain ⟨a1, a2, a3, a4, a5⟩ := listAll_sound lists h1 hh hG (hf.keep keep)
    obtain ⟨regs', b1, b2, b3, b4, b5, b6⟩ := renSt_sound h (by omega) a1 a2 a3
    refine ⟨regs', b1, b2, b3, ⟨⟨fun r x u hn hc => ⟨hc, fun ho => hn (ho.imp id fun ho => a4 r x (b4 r x ho))⟩, Nat.le_refl _, fun _ _ _ h => h, fun i g hi => ?_⟩, .refl _ _, fun r x ho => .inl (a4 r x (b4 r x ho))⟩, b5⟩
    obtain ⟨h2, h3⟩ := take_get.1 hi
    exact take_get.2 ⟨b6 i g h3 h2, h3⟩
  · cases h

/-- A contract over a plainer state at the start serves. -/
theorem CC.weak {nt B : Nat} {keep lists sel : List Nat} {fr fr1 fr' : Fr} {H1 : Heap} {c : Code} {ex : Ex} (hw : weaken B keep lists sel fr H = some (fr1, H1)) (h : CC P G nt B fr1 H1 c ex fr' H') :
    CC P G nt B fr H c ex fr' H' := by
  intro F regs w a hs hB
  obtain ⟨regs1, a1, a2, a3, a4, a5⟩ := weaken_sound hw hB hs.hp hs.gl hs.fr
  refine wp_mono (h F regs1 w a ⟨a1, a2, a3, hs.sz⟩ a5) ?_
  rintro e a' w' ⟨he, hd, hB', regs', hs', hp⟩
  exact ⟨he, hd, hB', regs', hs', a4.trans hp⟩

theorem LC.weak {nt B : Nat} {keep lists sel : List Nat} {fr fr1 fr' : Fr} {H1 : Heap} {c : Code} {ex : Ex} (hw : weaken B keep lists sel fr H = some (fr1, H1)) (h : LC P G nt B fr1 H1 c ex fr' H') :
    LC P G nt B fr H c ex fr' H' := by
  intro F regs w a hs hB b k cs
  obtain ⟨regs1, a1, a2, a3, a4, a5⟩ := weaken_sound hw hB hs.hp hs.gl hs.fr
  obtain ⟨e, a', w', ⟨he, hd, hB', regs', hs', hp⟩, harr⟩ := h F regs1 w a ⟨a1, a2, a3, hs.sz⟩ a5 b k cs
  exact ⟨e, a', w', ⟨he, hd, hB', regs', hs', a4.trans hp⟩, harr⟩

/-- A function's contract made plainer: its result with rows as lists, its garbage dropped. -/
theorem RC.weak {f : FuncId} {args : List EV} {ret : EV} {fr1 : Fr} {H1 : Heap} {lists sel : List Nat} (h : RC P G f args H ret H') (hw : weaken H.length [0] lists sel [(0, ret)] H' = some (fr1, H1)) :
    RC P G f args H (fget fr1 0) H1 := by
  intro F regs w vs hh hG hv
  refine Calls.mono (h F regs w vs hh hG hv) ?_
  rintro e w' ⟨u, rfl, regs1, hs⟩
  have hlen : H.length ≤ H'.length := by
    obtain ⟨more, rfl⟩ := hs.ext
    have h1 := hs.hp.len
    have h2 := hh.len
    simp at h1
    omega
  have hfr : FrOk (tot F regs1 H') w' regs1 [(0, ret)] { tmps := #[u], defers := [] } := by
    intro t
    simp only [fget]
    cases hb : Nat.beq 0 t with
    | true => have := Nat.eq_of_beq_eq_true hb; subst this; simpa using hs.val
    | false => exact .und _
  obtain ⟨regs', b1, b2, b3, b4, b5⟩ := weaken_sound hw hlen hs.hp (hG.moves hs.mv) hfr
  have hreg : ∀ (i : Nat) g, regs[i]? = some g → regs'[i]? = some g := by
    intro i g hi
    have hlt := (List.getElem?_eq_some_iff.1 hi).1
    have h1 := hs.mv.regs i g hi
    exact (take_get.1 (b4.mv.regs i g (take_get.2 ⟨h1, by have := hh.len; omega⟩))).1
  refine ⟨u, rfl, regs', b1, ⟨regs'.drop regs.length, ?_⟩, by simpa using b3 0, ?_, hs.kp.trans hs.gr b4.kp, hs.gr.trans hs.kp.size b4.gr⟩
  · apply List.ext_getElem?
    intro i
    rcases Nat.lt_or_ge i regs.length with h3 | h3
    · rw [List.getElem?_append_left h3, hreg i _ (List.getElem?_eq_getElem h3), List.getElem?_eq_getElem h3]
    · rw [List.getElem?_append_right h3, List.getElem?_drop]
      congr 1
      omega
  · exact ⟨fun r x u' hn hc => let ⟨p, q⟩ := hs.mv.cell r x u' hn hc; b4.mv.cell r x u' q p, Nat.le_trans hs.mv.size b4.mv.size, fun r e n hh => b4.mv.shape r e n (hs.mv.shape r e n hh), hreg⟩

end
end Go.Vc

/- VcFr -/
namespace Go.Vc
set_option linter.unusedVariables false
set_option linter.unusedSimpArgs false

/-- The few blocks' numbers in the larger heap. -/
def upS (sel : List Nat) (L : Nat) (k : Nat) : Option Nat :=
  match sel[k]? with
  | some i => some i
  | none => some (L + (k - sel.length))

/-- Blocks laid back at their places. -/
def layBack : List Nat → List (Option Blk) → Heap → Heap
  | i :: sel, b :: bs, H => layBack sel bs (H.set i b)
  | _, _, H => H

def upHeap (sel : List Nat) (K H0 : Heap) : Heap :=
  layBack sel ((H0.take sel.length).map (renB (upS sel K.length))) K ++ (H0.drop sel.length).map (renB (upS sel K.length))

section
variable {P : Program} {G : Glob} {F own own' : Own} {w w' : World} {regs regs' : List Reg} {H H' : Heap}

mutual
theorem VE.unren (s : Nat → Option Nat) (hs : ∀ i, ∃ j, s i = some j ∧ ∀ g, regs'[j]? = some g → regs[i]? = some g) {v : EV} {u : Value} (h : VE own w regs' (renE s v) u) : VE own w regs v u := by
  cases v with
  | p x => cases h with | p _ _ h => exact .p x u h
  | kb b => cases h; exact .kb b
  | ptr i off =>
    obtain ⟨j, hj, hg⟩ := hs i
    simp only [renE, hj] at h
    cases h with | ptr _ _ g hg' => exact .ptr i off g (hg g hg')
  | sl i off len z =>
    obtain ⟨j, hj, hg⟩ := hs i
    simp only [renE, hj] at h
    cases h with | sl _ _ _ _ g a c hg' ht hc ha hf => exact .sl i off len z g a c (hg g hg') ht hc ha hf
  | agg es => simp only [renE] at h; cases h with | agg _ us h => exact .agg es us (VEs.unren s hs h)
  | tup es => simp only [renE] at h; cases h with | tup _ us h => exact .tup es us (VEs.unren s hs h)
  | iface t v => simp only [renE] at h; cases h with | iface _ _ u h => exact .iface t v u (VE.unren s hs h)
  | clo fn a b => simp only [renE] at h; cases h with | clo _ _ _ us vs h1 h2 => exact .clo fn a b us vs (VEs.unren s hs h1) (VEs.unren s hs h2)
  | it i =>
    obtain ⟨j, hj, hg⟩ := hs i
    simp only [renE, hj] at h
    cases h with | it _ g hg' => exact .it i g (hg g hg')
  | nsl i n z =>
    obtain ⟨j, hj, hg⟩ := hs i
    simp only [renE, hj] at h
    generalize hx : EV.nsl j n z = x at h
    cases h with
    | nsln _ _ g hg' ht => cases hx; exact .nsln i z g (hg g hg') ht
    | nsl _ _ _ g c hg' ht hc h0 hf => cases hx; exact .nsl i n z g c (hg g hg') ht hc h0 hf
    | _ => cases hx
  | nptr i =>
    obtain ⟨j, hj, hg⟩ := hs i
    simp only [renE, hj] at h
    cases h with
    | nptrn _ g hg' ht => exact .nptrn i g (hg g hg') ht
    | nptr _ g hg' ht => exact .nptr i g (hg g hg') ht
  | mptr i off =>
    obtain ⟨j, hj, hg⟩ := hs i
    simp only [renE, hj] at h
    cases h with
    | mptrn => exact .mptrn i off
    | mptr _ _ g hg' => exact .mptr i off g (hg g hg')
  | raw i n =>
    obtain ⟨j, hj, hg⟩ := hs i
    simp only [renE, hj] at h
    cases h with
    | raw _ _ g c hg' ht hc hf => exact .raw i n g c (hg g hg') ht hc hf
  | und => exact .und u
theorem VEs.unren (s : Nat → Option Nat) (hs : ∀ i, ∃ j, s i = some j ∧ ∀ g, regs'[j]? = some g → regs[i]? = some g) {vs : List EV} {us : List Value} (h : VEs own w regs' (renEs s vs) us) :
    VEs own w regs vs us := by
  cases vs with
  | nil => cases h; exact .nil
  | cons v vs => simp only [renEs] at h; cases h with | cons _ u _ us h hs' => exact .cons v u vs us (VE.unren s hs h) (VEs.unren s hs hs')
end

theorem layBack_get (sel : List Nat) : ∀ (bs : List (Option Blk)) (K : Heap), distinctN sel = true → bs.length = sel.length → (∀ i ∈ sel, i < K.length) → ∀ (j : Nat),
    (layBack sel bs K)[j]? = (match placeOf sel 0 j with | some k => bs[k]? | none => K[j]?) ∧ (layBack sel bs K).length = K.length := by
  induction sel with
  | nil => intro bs K hd hl hk j; simp [layBack, placeOf]
  | cons a sel ih =>
    intro bs K hd hl hk j
    cases bs with
    | nil => simp at hl
    | cons b bs =>
      simp only [distinctN, Bool.and_eq_true, Bool.not_eq_true'] at hd
      have hn : a ∉ sel := by simpa using hd.1
      obtain ⟨h1, h2⟩ := ih bs (K.set a b) hd.2 (by simpa using hl) (fun i hi => by simpa using hk i (by simp [hi])) j
      refine ⟨?_, by simp only [layBack]; rw [h2]; simp⟩
      simp only [layBack]
      rw [h1]
      simp only [placeOf]
      have shift : ∀ (l : List Nat) (k : Nat), placeOf l (k + 1) j = (placeOf l k j).map (· + 1) := by
        intro l
        induction l with
        | nil => intro k; rfl
        | cons c l ih =>
          intro k
          simp only [placeOf]
          cases Nat.beq c j with
          | true => rfl
          | false => exact ih (k + 1)
      cases hb : Nat.beq a j with
      | true =>
        have e : a = j := Nat.eq_of_beq_eq_true hb
        subst e
        have hnone : placeOf sel 0 a = none := by
          cases hp : placeOf sel 0 a with
          | none => rfl
          | some k => exact absurd (List.mem_of_getElem? (placeOf_some hp).2) hn
        rw [hnone]
        simp only []
        rw [List.getElem?_set_self (hk a (by simp))]
        rfl
      | false =>
        have hne : a ≠ j := Nat.ne_of_beq_eq_false hb
        rw [shift]
        cases hp : placeOf sel 0 j with
        | none => simp only [Option.map_none]; rw [List.getElem?_set_ne hne]
        | some k => simp

/-- A contract over a few blocks serves in a larger heap. -/
theorem RC.frame {f : FuncId} {args : List EV} {H0 H1 : Heap} {ret : EV} (h : RC P G f args H0 ret H1) (K : Heap) (sel : List Nat) (hd : distinctN sel = true) (hl : H0.length = sel.length)
    (hK : sel.map (fun i => K[i]?) = H0.map (fun b => some (renB (upS sel K.length) b))) (hlt : sel.all (fun i => Nat.blt i K.length) = true) :
    RC P G f (renEs (upS sel K.length) args) K (renE (upS sel K.length) ret) (upHeap sel K H1) := by
  intro F regs w vs hh hG hv
  have hkl : ∀ i ∈ sel, i < K.length := fun i hi => Nat.le_of_ble_eq_true (List.all_eq_true.1 hlt i hi)
  -- the few blocks' places
  generalize hrc : (sel.map fun i => regs.getD i (⟨0, 0, false⟩ : Reg)) = rc
  have hrl : rc.length = sel.length := by subst hrc; simp
  have hKget : ∀ (k i : Nat), sel[k]? = some i → ∃ b, H0[k]? = some b ∧ K[i]? = some (renB (upS sel K.length) b) := by
    intro k i hk
    have h1 : (sel.map (fun i => K[i]?))[k]? = some (K[i]?) := by rw [List.getElem?_map, hk]; rfl
    rw [hK, List.getElem?_map] at h1
    cases hb : H0[k]? with
    | none => rw [hb] at h1; simp at h1
    | some b => rw [hb] at h1; simp at h1; exact ⟨b, rfl, h1.symm⟩
  have hrcget : ∀ (k : Nat) (g : Reg), rc[k]? = some g → ∃ i, sel[k]? = some i ∧ regs[i]? = some g := by
    intro k g hk
    subst hrc
    rw [List.getElem?_map] at hk
    cases hs : sel[k]? with
    | none => rw [hs] at hk; simp at hk
    | some i =>
      rw [hs] at hk
      have hi : i < regs.length := by rw [hh.len]; exact hkl i (List.mem_of_getElem? hs)
      simp [List.getElem?_eq_getElem hi] at hk
      exact ⟨i, rfl, by rw [List.getElem?_eq_getElem hi, hk]⟩
  have hrcof : ∀ (k i : Nat) (g : Reg), sel[k]? = some i → regs[i]? = some g → rc[k]? = some g := by
    intro k i g hs hi
    subst hrc
    rw [List.getElem?_map, hs]
    simp [hi]
  have hun : ∀ i, ∃ j, upS sel K.length i = some j ∧ ∀ g, regs[j]? = some g → rc[i]? = some g := by
    intro k
    unfold upS
    cases hs : sel[k]? with
    | some i => exact ⟨i, rfl, fun g hg => hrcof k i g hs hg⟩
    | none =>
      refine ⟨_, rfl, fun g hg => ?_⟩
      have := (List.getElem?_eq_some_iff.1 hg).1
      have := hh.len
      omega
  have hsz : ∀ {b c : Blk}, renB (upS sel K.length) (some b) = some c → b.size = c.size := by
    intro b c hb
    cases b with
    | cells cs ty => simp [renB] at hb; subst hb; simp [Blk.size]
    | bytes s t => simp [renB] at hb; subst hb; rfl
    | iter s p => simp [renB] at hb; subst hb; rfl
  -- what the few blocks own, the larger heap owns
  have few : ∀ (k : Nat) (g : Reg) (b : Blk), rc[k]? = some g → H0[k]? = some (some b) → ∃ i c, sel[k]? = some i ∧ regs[i]? = some g ∧ K[i]? = some (some c) ∧ renB (upS sel K.length) (some b) = some c := by
    intro k g b h1 h2
    obtain ⟨i, hs, hi⟩ := hrcget k g h1
    obtain ⟨b', hb', hKi⟩ := hKget k i hs
    rw [h2] at hb'; cases hb'
    cases b with
    | cells cs ty => exact ⟨i, _, hs, hi, hKi, rfl⟩
    | bytes s t => exact ⟨i, _, hs, hi, hKi, rfl⟩
    | iter s p => exact ⟨i, _, hs, hi, hKi, rfl⟩
  have hsub0 : ∀ r x, owned rc H0 r x → owned regs K r x := by
    rintro r x ⟨k, g, b, h1, h2, h3⟩
    obtain ⟨i, c, hs, hi, hKi, hc⟩ := few k g b h1 h2
    exact ⟨i, g, c, hi, hKi, h3.size (hsz hc)⟩
  generalize hFc : (fun r x => tot F regs K r x ∧ ¬ owned rc H0 r x : Own) = Fc
  have hFc' : ∀ r x, Fc r x ↔ tot F regs K r x ∧ ¬ owned rc H0 r x := by subst hFc; exact fun _ _ => Iff.rfl
  have htot : ∀ r x, tot Fc rc H0 r x ↔ tot F regs K r x := by
    intro r x
    constructor
    · rintro (h1 | h1)
      · exact ((hFc' r x).1 h1).1
      · exact .inr (hsub0 r x h1)
    · intro h1
      by_cases h2 : owned rc H0 r x
      · exact .inr h2
      · exact .inl ((hFc' r x).2 ⟨h1, h2⟩)
  have hm0 : Moves (tot F regs K) w regs (tot Fc rc H0) w regs := Moves.shrink fun r x h => (htot r x).1 h
  have hhc : HpOk Fc w rc H0 := by
    refine ⟨by rw [hrl, hl], fun k g b h1 h2 => ?_, fun k l g1 g2 b1 b2 hkl' h1 h2 h3 h4 r x r1 r2 => ?_, fun k g b h1 h2 r x hr hF => ((hFc' r x).1 hF).2 ⟨k, g, b, h1, h2, hr⟩, fun r x hF => ?_, fun k g b h1 h2 => ?_⟩
    · obtain ⟨i, c, hs, hi, hKi, hc⟩ := few k g b h1 h2
      have hok := hh.blk i g c hi hKi
      cases b with
      | cells cs ty =>
        simp [renB] at hc
        subst hc
        obtain ⟨⟨e', n', q1, q2, q3⟩, us', q4, q5⟩ := hok
        exact ⟨⟨e', n', q1, by simpa using q2, fun x a1 a2 a3 => q3 x (by simpa using a1) a2 (by simpa using a3)⟩, us', VEs.unren _ hun (q4.moves hm0), q5⟩
      | bytes s t =>
        simp [renB] at hc
        subst hc
        exact hok.bytes_any
      | iter s p =>
        simp [renB] at hc
        subst hc
        exact hok
    · obtain ⟨i1, c1, s1, e1, f1, z1⟩ := few k g1 b1 h1 h3
      obtain ⟨i2, c2, s2, e2, f2, z2⟩ := few l g2 b2 h2 h4
      refine hh.dj i1 i2 g1 g2 c1 c2 (fun e => hkl' ?_) e1 e2 f1 f2 r x (r1.size (hsz z1)) (r2.size (hsz z2))
      subst e
      exact distinctN_get hd s1 s2
    · rcases ((hFc' r x).1 hF).1 with h1 | ⟨i, g, b, h1, h2, h3⟩
      · exact hh.lt r x h1
      · rw [← h3.1]; exact (hh.blk i g b h1 h2).lt
    · obtain ⟨i, c, hs, hi, hKi, hc⟩ := few k g _ h1 h2
      rw [hsz hc, renB_kd hc]
      exact hh.ty i g c hi hKi
  have hvc : VEs (tot Fc rc H0) w rc args vs := VEs.unren _ hun (hv.moves hm0)
  refine Calls.mono (h Fc rc w vs hhc (hG.moves hm0) hvc) ?_
  rintro e w' ⟨u, rfl, rc', hs⟩
  obtain ⟨more, hmore⟩ := hs.ext
  refine ⟨u, rfl, regs ++ more, ?_⟩
  have hH1l : H1.length = sel.length + more.length := by have := hs.hp.len; rw [hmore] at this; simp at this; omega
  have hKl : regs.length = K.length := hh.len
  -- the larger heap behind the call
  have hup : ∀ (j : Nat) (g : Reg) (b : Blk), (regs ++ more)[j]? = some g → (upHeap sel K H1)[j]? = some (some b) →
      (placeOf sel 0 j = none ∧ regs[j]? = some g ∧ K[j]? = some (some b)) ∨
      (∃ k c, rc'[k]? = some g ∧ H1[k]? = some (some c) ∧ renB (upS sel K.length) (some c) = some b ∧ upS sel K.length k = some j) := by
    intro j g b h1 h2
    unfold upHeap at h2
    have hlen1 : ((H1.take sel.length).map (renB (upS sel K.length))).length = sel.length := by simp; omega
    obtain ⟨hget, hlen⟩ := layBack_get sel ((H1.take sel.length).map (renB (upS sel K.length))) K hd hlen1 hkl j
    rcases Nat.lt_or_ge j K.length with hj | hj
    · rw [List.getElem?_append_left (by omega)] at h1
      rw [List.getElem?_append_left (by rw [hlen]; exact hj), hget] at h2
      cases hp : placeOf sel 0 j with
      | none => rw [hp] at h2; exact .inl ⟨rfl, h1, h2⟩
      | some k =>
        rw [hp] at h2
        simp only [] at h2
        have hsk := (placeOf_some hp).2
        simp only [Nat.sub_zero] at hsk
        have hklt : k < sel.length := (List.getElem?_eq_some_iff.1 hsk).1
        rw [List.getElem?_map, List.getElem?_take, if_pos hklt] at h2
        cases hc : H1[k]? with
        | none => rw [hc] at h2; simp at h2
        | some c =>
          rw [hc] at h2
          simp at h2
          cases c with
          | none => simp [renB] at h2
          | some c =>
            refine .inr ⟨k, c, ?_, hc, h2, by unfold upS; rw [hsk]⟩
            rw [hmore, List.getElem?_append_left (by omega)]
            exact hrcof k j g hsk h1
    · rw [List.getElem?_append_right (by omega)] at h1
      rw [List.getElem?_append_right (by rw [hlen]; exact hj), hlen, List.getElem?_map, List.getElem?_drop] at h2
      cases hc : H1[sel.length + (j - K.length)]? with
      | none => rw [hc] at h2; simp at h2
      | some c =>
        rw [hc] at h2
        simp at h2
        cases c with
        | none => simp [renB] at h2
        | some c =>
          refine .inr ⟨sel.length + (j - K.length), c, ?_, hc, h2, ?_⟩
          · rw [hmore, List.getElem?_append_right (by omega), hrl, Nat.add_sub_cancel_left]
            rw [hKl] at h1; exact h1
          · unfold upS
            rw [List.getElem?_eq_none (by omega)]
            simp only []
            congr 1
            omega
  have hren : ∀ (k j : Nat) (g : Reg), upS sel K.length k = some j → rc'[k]? = some g → (regs ++ more)[j]? = some g := by
    intro k j g hk hg
    unfold upS at hk
    rw [hmore] at hg
    cases hsk : sel[k]? with
    | some i =>
      rw [hsk] at hk
      cases hk
      have hklt : k < rc.length := by rw [hrl]; exact (List.getElem?_eq_some_iff.1 hsk).1
      rw [List.getElem?_append_left hklt] at hg
      obtain ⟨i', h1, h2⟩ := hrcget k g hg
      rw [hsk] at h1; cases h1
      exact get_append_old h2
    | none =>
      rw [hsk] at hk
      simp only [Option.some.injEq] at hk
      have hge : sel.length ≤ k := by
        rcases Nat.lt_or_ge k sel.length with h3 | h3
        · rw [List.getElem?_eq_getElem h3] at hsk; cases hsk
        · exact h3
      rw [List.getElem?_append_right (by omega), hrl] at hg
      rw [List.getElem?_append_right (by omega), ← hk, hKl, Nat.add_sub_cancel_left]
      exact hg
  have hrest : ∀ (j : Nat) (g : Reg) (b : Blk), placeOf sel 0 j = none → regs[j]? = some g → K[j]? = some (some b) → ∀ r x, InReg g b r x → ¬ owned rc H0 r x := by
    rintro j g b hp h1 h2 r x hr ⟨k, gk, bk, e1, e2, e3⟩
    obtain ⟨i, c, s1, f1, f2, z1⟩ := few k gk bk e1 e2
    refine hh.dj j i g gk b c (fun e => ?_) h1 f1 h2 f2 r x hr (e3.size (hsz z1))
    subst e
    have : ∀ (l : List Nat) (m : Nat), l[m]? = some j → ∀ q, placeOf l q j ≠ none := by
      intro l
      induction l with
      | nil => intro m hm; simp at hm
      | cons a l ih =>
        intro m hm q
        simp only [placeOf]
        cases hb : Nat.beq a j with
        | true => simp
        | false =>
          cases m with
          | zero => simp at hm; subst hm; simp at hb
          | succ m => exact ih m (by simpa using hm) (q + 1)
    exact this sel k s1 0 hp
  have hsub1 : ∀ r x, tot F (regs ++ more) (upHeap sel K H1) r x → tot Fc rc' H1 r x := by
    rintro r x (h1 | ⟨j, g, b, h1, h2, h3⟩)
    · refine .inl ((hFc' r x).2 ⟨.inl h1, fun ho => ?_⟩)
      obtain ⟨i, g, b, e1, e2, e3⟩ := hsub0 r x ho
      exact hh.fr i g b e1 e2 r x e3 h1
    · rcases hup j g b h1 h2 with ⟨hp, e1, e2⟩ | ⟨k, c, e1, e2, e3, _⟩
      · exact .inl ((hFc' r x).2 ⟨.inr ⟨j, g, b, e1, e2, h3⟩, hrest j g b hp e1 e2 r x h3⟩)
      · exact .inr ⟨k, g, c, e1, e2, h3.size (hsz e3).symm⟩
  have hm1 : Moves (tot Fc rc' H1) w' rc' (tot F (regs ++ more) (upHeap sel K H1)) w' rc' := Moves.shrink hsub1
  have hk : Keeps (owned regs K) w w' := by
    have k0 := hs.kp
    exact ⟨k0.size, fun r x hr hn => k0.cell r x hr (fun ho => hn (hsub0 r x ho)), fun r x hr hn => k0.frz r x hr (fun ho => hn (hsub0 r x ho)), k0.shape, fun r hr hn => k0.obj r hr (fun x ho => hn x (hsub0 r x ho)), k0.env⟩
  have hg : Grow w (owned regs K) (owned (regs ++ more) (upHeap sel K H1)) := by
    rintro r x ⟨j, g, b, h1, h2, h3⟩
    rcases hup j g b h1 h2 with ⟨hp, e1, e2⟩ | ⟨k, c, e1, e2, e3, _⟩
    · exact .inl ⟨j, g, b, e1, e2, h3⟩
    · rcases hs.gr r x ⟨k, g, c, e1, e2, h3.size (hsz e3).symm⟩ with h4 | h4
      · exact .inl (hsub0 r x h4)
      · exact .inr h4
  have hmB := Moves.of_keeps (F := F) hk hg (fun i g hi => get_append_old hi)
  refine ⟨⟨?_, fun j g b h1 h2 => ?_, fun j l g1 g2 b1 b2 hjl h1 h2 h3 h4 r x r1 r2 => ?_, fun j g b h1 h2 r x hr hF => ?_, fun r x hF => Nat.lt_of_lt_of_le (hh.lt r x hF) hk.size, fun j g b h1 h2 => ?_⟩, ⟨more, rfl⟩, ?_, hmB, hk, hg⟩
  · unfold upHeap
    have hlen1 : ((H1.take sel.length).map (renB (upS sel K.length))).length = sel.length := by simp; omega
    rw [List.length_append, List.length_append, (layBack_get sel _ K hd hlen1 hkl 0).2]
    simp
    omega
  · rcases hup j g b h1 h2 with ⟨hp, e1, e2⟩ | ⟨k, c, e1, e2, e3, _⟩
    · have hok := hh.blk j g b e1 e2
      have hlt' := hok.lt
      refine hok.keep hmB (fun x hx => hs.kp.cell _ _ hlt' (hrest j g b hp e1 e2 _ x hx)) (fun x hx => hs.kp.frz _ _ hlt' (hrest j g b hp e1 e2 _ x hx)) (fun q1 q2 => ?_)
      refine hs.kp.obj _ hlt' (fun x ho => hrest j g _ hp e1 e2 g.blk x ⟨rfl, by omega, .inl q2⟩ ho)
    · have hok := hs.hp.blk k g c e1 e2
      cases c with
      | cells cs ty =>
        simp [renB] at e3
        subst e3
        obtain ⟨⟨e', n', q1, q2, q3⟩, us', q4, q5⟩ := hok
        exact ⟨⟨e', n', q1, by simpa using q2, fun x a1 a2 a3 => q3 x (by simpa using a1) a2 (by simpa using a3)⟩, us', (q4.moves hm1).ren _ hren, q5⟩
      | bytes s t =>
        simp [renB] at e3
        subst e3
        exact hok.bytes_any
      | iter s p =>
        simp [renB] at e3
        subst e3
        exact hok
  · rcases hup j g1 b1 h1 h3 with ⟨p1, e1, f1⟩ | ⟨k1, c1, e1, f1, z1, y1⟩ <;> rcases hup l g2 b2 h2 h4 with ⟨p2, e2, f2⟩ | ⟨k2, c2, e2, f2, z2, y2⟩
    · exact hh.dj j l g1 g2 b1 b2 hjl e1 e2 f1 f2 r x r1 r2
    · exact hs.hp.fr k2 g2 c2 e2 f2 r x (r2.size (hsz z2).symm) ((hFc' r x).2 ⟨.inr ⟨j, g1, b1, e1, f1, r1⟩, hrest j g1 b1 p1 e1 f1 r x r1⟩)
    · exact hs.hp.fr k1 g1 c1 e1 f1 r x (r1.size (hsz z1).symm) ((hFc' r x).2 ⟨.inr ⟨l, g2, b2, e2, f2, r2⟩, hrest l g2 b2 p2 e2 f2 r x r2⟩)
    · refine hs.hp.dj k1 k2 g1 g2 c1 c2 (fun e => hjl ?_) e1 e2 f1 f2 r x (r1.size (hsz z1).symm) (r2.size (hsz z2).symm)
      subst e
      rw [y1] at y2
      cases y2; rfl
  · rcases hup j g b h1 h2 with ⟨hp, e1, e2⟩ | ⟨k, c, e1, e2, e3, _⟩
    · exact hh.fr j g b e1 e2 r x hr hF
    · have hin := hr.size (hsz e3).symm
      refine hs.hp.fr k g c e1 e2 r x hin ((hFc' r x).2 ⟨.inl hF, fun ho => ?_⟩)
      obtain ⟨i, gi, bi, q1, q2, q3⟩ := hsub0 r x ho
      exact hh.fr i gi bi q1 q2 r x q3 hF
  · rcases hup j g _ h1 h2 with ⟨hp, e1, e2⟩ | ⟨k, c, e1, e2, e3, _⟩
    · have hlt' := (hh.blk j g b e1 e2).lt
      exact (hh.ty j g b e1 e2).keep hmB (fun q1 q2 => hs.kp.obj _ hlt' (fun x ho => hrest j g _ hp e1 e2 g.blk x ⟨rfl, by omega, .inl q2⟩ ho))
    · rw [← hsz e3, ← renB_kd e3]
      exact hs.hp.ty k g c e1 e2
  · exact (hs.val.moves hm1).ren _ hren

end
end Go.Vc

/- VcVia -/
namespace Go.Vc
set_option linter.unusedVariables false
set_option linter.unusedSimpArgs false

mutual
/-- The blocks that a value names. -/
def refsE : EV → List Nat
  | .ptr i _ => [i]
  | .sl i _ _ _ => [i]
  | .agg es => refsEs es
  | .tup es => refsEs es
  | .iface _ v => refsE v
  | .clo _ a b => refsEs a ++ refsEs b
  | .it i => [i]
  | .nsl i _ _ => [i]
  | .nptr i => [i]
  | .mptr i _ => [i]
  | .raw i _ => [i]
  | _ => []
def refsEs : List EV → List Nat
  | [] => []
  | v :: vs => refsE v ++ refsEs vs
end

def refsB : Option Blk → List Nat
  | some (.cells cs _) => refsEs cs
  | _ => []

def hasN : List Nat → Nat → Bool
  | [], _ => false
  | j :: r, i => match Nat.beq j i with
    | true => true
    | false => hasN r i

def addN : List Nat → List Nat → List Nat
  | acc, [] => acc
  | acc, i :: r => match hasN acc i with
    | true => addN acc r
    | false => addN (acc ++ [i]) r

/-- The blocks named, and those that they name. -/
def closeN (H : Heap) : Nat → List Nat → List Nat → List Nat
  | 0, acc, _ => acc
  | _, acc, [] => acc
  | n + 1, acc, i :: r => match hasN acc i with
    | true => closeN H n acc r
    | false => closeN H n (acc ++ [i]) (r ++ refsB (H.getD i none))

def subN : List Nat → List Nat → Bool
  | [], _ => true
  | i :: r, l => hasN l i && subN r l

def downS (sel : List Nat) (i : Nat) : Option Nat := placeOf sel 0 i

abbrev Spec := List EV → Heap → Option (List Prop × EV × Heap)

/-- A contract over a few blocks, at a larger heap. -/
def viaSpec (spec : Spec) (args : List EV) (H : Heap) : Option (List Prop × EV × Heap) :=
  let sel := closeN H 40 [] (refsEs args)
  match subN (refsEs args) sel, sel.all (fun i => subN (refsB (H.getD i none)) sel && Nat.blt i H.length), distinctN sel with
  | true, true, true => match spec (renEs (downS sel) args) (sel.map fun i => renB (downS sel) (H.getD i none)) with
    | some (obs, ret, H1) => some (obs, renE (upS sel H.length) ret, upHeap sel H H1)
    | none => none
  | _, _, _ => none

theorem hasN_mem {l : List Nat} {i : Nat} (h : hasN l i = true) : i ∈ l := by
  induction l with
  | nil => cases h
  | cons a l ih =>
    simp only [hasN] at h
    split at h
    · rename_i hb; rw [Nat.eq_of_beq_eq_true hb]; simp
    · simp [ih h]

theorem subN_mem {l m : List Nat} (h : subN l m = true) : ∀ i ∈ l, i ∈ m := by
  induction l with
  | nil => intro i hi; simp at hi
  | cons a l ih =>
    simp only [subN, Bool.and_eq_true] at h
    intro i hi
    rcases List.mem_cons.1 hi with rfl | hi
    · exact hasN_mem h.1
    · exact ih h.2 i hi

theorem placeOf_mem {sel : List Nat} {i : Nat} (h : i ∈ sel) : ∀ k, ∃ j, placeOf sel k i = some j := by
  induction sel with
  | nil => simp at h
  | cons a sel ih =>
    intro k
    simp only [placeOf]
    cases hb : Nat.beq a i with
    | true => exact ⟨k, rfl⟩
    | false =>
      rcases List.mem_cons.1 h with rfl | h
      · simp at hb
      · exact ih h (k + 1)

theorem upDown {sel : List Nat} {L i : Nat} (h : i ∈ sel) : ∃ k, downS sel i = some k ∧ upS sel L k = some i := by
  obtain ⟨k, hk⟩ := placeOf_mem h 0
  refine ⟨k, hk, ?_⟩
  have := (placeOf_some hk).2
  simp only [Nat.sub_zero] at this
  unfold upS
  rw [this]

mutual
theorem renE_upDown (sel : List Nat) (L : Nat) (v : EV) (h : ∀ i ∈ refsE v, i ∈ sel) : renE (upS sel L) (renE (downS sel) v) = v := by
  cases v with
  | p x => rfl
  | kb b => rfl
  | ptr i off =>
    obtain ⟨k, h1, h2⟩ := upDown (L := L) (h i (by simp [refsE]))
    simp [renE, h1, h2]
  | sl i off len z =>
    obtain ⟨k, h1, h2⟩ := upDown (L := L) (h i (by simp [refsE]))
    simp [renE, h1, h2]
  | agg es => simp only [renE]; rw [renEs_upDown sel L es (fun i hi => h i (by simpa [refsE] using hi))]
  | tup es => simp only [renE]; rw [renEs_upDown sel L es (fun i hi => h i (by simpa [refsE] using hi))]
  | iface t v => simp only [renE]; rw [renE_upDown sel L v (fun i hi => h i (by simpa [refsE] using hi))]
  | clo fn a b => simp only [renE]; rw [renEs_upDown sel L a (fun i hi => h i (by simp [refsE, hi])), renEs_upDown sel L b (fun i hi => h i (by simp [refsE, hi]))]
  | it i =>
    obtain ⟨k, h1, h2⟩ := upDown (L := L) (h i (by simp [refsE]))
    simp [renE, h1, h2]
  | nsl i n z =>
    obtain ⟨k, h1, h2⟩ := upDown (L := L) (h i (by simp [refsE]))
    simp [renE, h1, h2]
  | nptr i =>
    obtain ⟨k, h1, h2⟩ := upDown (L := L) (h i (by simp [refsE]))
    simp [renE, h1, h2]
  | mptr i off =>
    obtain ⟨k, h1, h2⟩ := upDown (L := L) (h i (by simp [refsE]))
    simp [renE, h1, h2]
  | raw i n =>
    obtain ⟨k, h1, h2⟩ := upDown (L := L) (h i (by simp [refsE]))
    simp [renE, h1, h2]
  | und => rfl
theorem renEs_upDown (sel : List Nat) (L : Nat) (vs : List EV) (h : ∀ i ∈ refsEs vs, i ∈ sel) : renEs (upS sel L) (renEs (downS sel) vs) = vs := by
  cases vs with
  | nil => rfl
  | cons v vs => simp only [renEs]; rw [renE_upDown sel L v (fun i hi => h i (by simp [refsEs, hi])), renEs_upDown sel L vs (fun i hi => h i (by simp [refsEs, hi]))]
end

theorem renB_upDown (sel : List Nat) (L : Nat) (b : Option Blk) (h : ∀ i ∈ refsB b, i ∈ sel) : renB (upS sel L) (renB (downS sel) b) = b := by
  cases b with
  | none => rfl
  | some b =>
    cases b with
    | cells cs ty => simp only [renB]; rw [renEs_upDown sel L cs h]
    | bytes s t => rfl
    | iter s p => rfl

theorem RC.via {P : Program} {G : Glob} {f : FuncId} {spec : Spec} {args : List EV} {H H' : Heap} {obs : List Prop} {ret : EV}
    (hs : ∀ args H obs ret H', spec args H = some (obs, ret, H') → (∀ p ∈ obs, p) → RC P G f args H ret H') (h : viaSpec spec args H = some (obs, ret, H')) (ho : ∀ p ∈ obs, p) : RC P G f args H ret H' := by
  unfold viaSpec at h
  dsimp only at h
  generalize closeN H 40 [] (refsEs args) = sel at h
  split at h
  · rename_i h1 h2 h3
    split at h
    · rename_i obs1 ret1 H1 hsp
      cases h
      have hsmall := hs _ _ _ _ _ hsp ho
      have hr : ∀ i ∈ refsEs args, i ∈ sel := subN_mem h1
      have hall : ∀ i ∈ sel, subN (refsB (H.getD i none)) sel = true ∧ Nat.blt i H.length = true := fun i hi => by
        have := List.all_eq_true.1 h2 i hi
        simpa using this
      have hlt : ∀ i ∈ sel, i < H.length := fun i hi => Nat.le_of_ble_eq_true (hall i hi).2
      have hf := RC.frame hsmall H sel h3 (by simp) (by
        rw [List.map_map]
        apply List.map_congr_left
        intro i hi
        have hb := renB_upDown sel H.length (H.getD i none) (subN_mem (hall i hi).1)
        simp only [Function.comp]
        rw [hb]
        have := hlt i hi
        simp [List.getD_eq_getElem?_getD, List.getElem?_eq_getElem this]) (by
        rw [List.all_eq_true]; intro i hi; exact (hall i hi).2)
      rwa [renEs_upDown sel H.length args hr] at hf
    · cases h
  · cases h

end Go.Vc

/- VcTr -/
namespace Go.Vc
set_option linter.unusedVariables false
set_option linter.unusedSimpArgs false

inductive Tr where
  | nil (i off : Nat) (t : TypeId)
  | may (i off j jo : Nat)
  | weak (keep lists sel : List Nat)
  | dk

/-- A known bool as any other. -/
def dk : EV → EV
  | .kb b => .p (.bool b)
  | v => v

def dkB : Option Blk → Option Blk
  | some (.cells cs k) => some (.cells (cs.map dk) k)
  | b => b

def dkF (fr : Fr) : Fr := fr.map fun x => (x.1, dk x.2)

/-- A cell of a block is seen in another way. -/
def recell (H : Heap) (i off : Nat) (v : EV) : Heap :=
  match H[i]? with
  | some (some (.cells cs k)) => H.set i (some (.cells (cs.set off v) k))
  | _ => H

def trE (B : Nat) (x : Tr) (fr : Fr) (H : Heap) : Option (Fr × Heap) :=
  match x with
  | .nil i off t => match H[i]? with
    | some (some (.cells cs k)) => match cs[off]? with
      | some (.p .nils) => some (fr, H.set i (some (.cells (cs.set off (.nsl H.length 0 1)) k)) ++ [some (.bytes [] t)])
      | _ => none
    | _ => none
  | .may i off j jo => match H[i]? with
    | some (some (.cells cs k)) => match cs[off]? with
      | some (.p .nilp) => some (fr, H.set i (some (.cells (cs.set off (.mptr j jo)) k)))
      | some (.ptr j' jo') => match Nat.beq j j', Nat.beq jo jo' with
        | true, true => some (fr, H.set i (some (.cells (cs.set off (.mptr j jo)) k)))
        | _, _ => none
      | _ => none
    | _ => none
  | .weak keep lists sel => weaken B keep lists sel fr H
  | .dk => some (dkF fr, H.map dkB)

section
variable {P : Program} {G : Glob} {F own own' : Own} {w w' : World} {regs regs' : List Reg} {H H' : Heap}

theorem VEs.recell {cs : List EV} {us : List Value} (h : VEs own w regs cs us) {off : Nat} {x v : EV} (hx : cs[off]? = some x) (hv : ∀ u, VE own w regs x u → VE own w regs v u) : VEs own w regs (cs.set off v) us := by
  induction off generalizing cs us with
  | zero => cases h with
    | nil => simp at hx
    | cons y u ys us h hs => simp at hx; subst hx; exact .cons _ _ _ _ (hv _ h) hs
  | succ n ih => cases h with
    | nil => simp at hx
    | cons y u ys us h hs => simp at hx; exact .cons _ _ _ _ h (ih hs hx)

theorem HpOk.recell (h : HpOk F w regs H) {i off : Nat} {cs : List EV} {k : Kd} {x v : EV} (hi : H[i]? = some (some (.cells cs k))) (hx : cs[off]? = some x)
    (hv : ∀ u, VE (tot F regs H) w regs x u → VE (tot F regs H) w regs v u) : HpOk F w regs (H.set i (some (.cells (cs.set off v) k))) := by
  refine h.swap hi (by simp [Blk.size]) rfl (fun g _ hb => ?_)
  obtain ⟨⟨e, n, q1, q2, q3⟩, us, q4, q5⟩ := hb
  exact ⟨⟨e, n, q1, by simpa using q2, fun x a1 a2 a3 => q3 x (by simpa using a1) a2 (by simpa using a3)⟩, us, q4.recell hx hv, q5⟩

/-- An empty row of bytes that lies nowhere. -/
theorem HpOk.empty (h : HpOk F w regs H) {i : Nat} {g : Reg} {cs : List EV} {k : Kd} {t : TypeId} (hi : H[i]? = some (some (.cells cs k))) (hg : regs[i]? = some g) :
    HpOk F w (regs ++ [⟨g.blk, g.off, false⟩]) (H ++ [some (.bytes [] t)]) ∧ owned (regs ++ [⟨g.blk, g.off, false⟩]) (H ++ [some (.bytes [] t)]) = owned regs H := by
  have hno : ∀ r x, ¬ InReg ⟨g.blk, g.off, false⟩ (.bytes [] t) r x := by
    rintro r x ⟨_, h1, h2 | h2⟩
    · cases h2
    · have h2' : x < g.off + 0 := h2
      have h1' : g.off ≤ x := h1
      omega
  have how : owned (regs ++ [⟨g.blk, g.off, false⟩]) (H ++ [some (.bytes [] t)]) = owned regs H := by
    funext r x
    apply propext
    rw [owned_push h.len r x]
    constructor
    · rintro (h1 | ⟨c, hc, h1⟩)
      · exact h1
      · cases hc; exact absurd h1 (hno r x)
    · exact .inl
  have hto : tot F (regs ++ [⟨g.blk, g.off, false⟩]) (H ++ [some (.bytes [] t)]) = tot F regs H := by funext r x; unfold tot; rw [how]
  have hm : Moves (tot F regs H) w regs (tot F (regs ++ [⟨g.blk, g.off, false⟩]) (H ++ [some (.bytes [] t)])) w (regs ++ [⟨g.blk, g.off, false⟩]) := by
    rw [hto]
    exact ⟨fun _ _ _ a b => ⟨b, a⟩, Nat.le_refl _, fun _ _ _ a => a, fun _ _ a => get_append_old a⟩
  have old : ∀ (j : Nat) (gj : Reg) (b : Blk), (regs ++ [⟨g.blk, g.off, false⟩])[j]? = some gj → (H ++ [some (.bytes [] t)])[j]? = some (some b) →
      (regs[j]? = some gj ∧ H[j]? = some (some b)) ∨ (j = H.length ∧ gj = ⟨g.blk, g.off, false⟩ ∧ b = .bytes [] t) := by
    intro j gj b h1 h2
    rcases get_snoc h1 with h1 | ⟨e1, e1'⟩ <;> rcases get_snoc h2 with h2 | ⟨e2, e2'⟩
    · exact .inl ⟨h1, h2⟩
    · have := (List.getElem?_eq_some_iff.1 h1).1; have := h.len; omega
    · have := (List.getElem?_eq_some_iff.1 h2).1; have := h.len; omega
    · cases e2'; exact .inr ⟨e2, e1', rfl⟩
  refine ⟨⟨by simp [h.len], fun j gj b h1 h2 => ?_, fun j k g1 g2 b1 b2 hjk h1 h2 h3 h4 r x hr1 hr2 => ?_, fun j gj b h1 h2 r x hr => ?_, h.lt, fun j gj b h1 h2 => ?_⟩, how⟩
  · rcases old j gj b h1 h2 with ⟨h1, h2⟩ | ⟨rfl, rfl, rfl⟩
    · exact (h.blk j gj b h1 h2).keep hm (fun _ _ => rfl) (fun _ _ => rfl) (fun _ _ => rfl)
    · obtain ⟨⟨e, n, q1, q2, q3⟩, _⟩ := h.blk i g _ hg hi
      refine ⟨⟨⟨e, n, q1, by simp; omega, fun x a1 a2 a3 => ?_⟩, [], .nil, fun j u hj => by simp at hj⟩, by simp, fun _ => rfl⟩
      simp [Kd.lo] at a1 a3
      omega
  · rcases old j g1 b1 h1 h3 with ⟨p1, p2⟩ | ⟨e1, e2, e3⟩ <;> rcases old k g2 b2 h2 h4 with ⟨q1, q2⟩ | ⟨f1, f2, f3⟩
    · exact h.dj j k g1 g2 b1 b2 hjk p1 q1 p2 q2 r x hr1 hr2
    · subst f2 f3; exact hno _ _ hr2
    · subst e2 e3; exact hno _ _ hr1
    · subst e2 e3; exact hno _ _ hr1
  · rcases old j gj b h1 h2 with ⟨h1, h2⟩ | ⟨rfl, rfl, rfl⟩
    · exact h.fr j gj b h1 h2 r x hr
    · exact absurd hr (hno r x)
  · rcases old j gj _ h1 h2 with ⟨h1, h2⟩ | ⟨e1, e2, e3⟩
    · exact h.ty j gj b h1 h2
    · subst e2 e3; intro ht; cases ht

theorem VE.dk {v : EV} {u : Value} (h : VE own w regs v u) : VE own w regs (dk v) u := by
  cases h with
  | kb b => exact .p _ _ (.bool b)
  | p x v h => exact .p _ _ h
  | ptr i off g hg => exact .ptr i off g hg
  | sl i off len z g a c hg ht hc ha hf => exact .sl i off len z g a c hg ht hc ha hf
  | agg es us hs => exact .agg es us hs
  | tup es us hs => exact .tup es us hs
  | iface t x u h => exact .iface t x u h
  | clo fn fs cs us vs hf hc => exact .clo fn fs cs us vs hf hc
  | it i g hg => exact .it i g hg
  | nsln i z g hg ht => exact .nsln i z g hg ht
  | nsl i len z g c hg ht hc h0 hf => exact .nsl i len z g c hg ht hc h0 hf
  | nptrn i g hg ht => exact .nptrn i g hg ht
  | nptr i g hg ht => exact .nptr i g hg ht
  | mptrn i off => exact .mptrn i off
  | mptr i off g hg => exact .mptr i off g hg
  | raw i n g c hg ht hc hf => exact .raw i n g c hg ht hc hf
  | und => exact .und _

theorem VEs.dk {cs : List EV} {us : List Value} (h : VEs own w regs cs us) : VEs own w regs (cs.map dk) us := by
  induction cs generalizing us with
  | nil => exact h
  | cons x r ih => cases h with | cons _ u _ us h hs => exact .cons _ _ _ _ h.dk (ih hs)

theorem dkB_some {b : Option Blk} {c : Blk} (h : dkB b = some c) : ∃ c0, b = some c0 ∧ c.size = c0.size ∧ c.kd = c0.kd ∧ (c = c0 ∨ ∃ cs k, c0 = .cells cs k ∧ c = .cells (cs.map dk) k) := by
  unfold dkB at h
  split at h
  · cases h
    exact ⟨_, rfl, by simp [Blk.size], rfl, .inr ⟨_, _, rfl, rfl⟩⟩
  · exact ⟨c, h, rfl, rfl, .inl rfl⟩

theorem get_dk {i : Nat} {c : Blk} (h : (H.map dkB)[i]? = some (some c)) : ∃ c0, H[i]? = some (some c0) ∧ c.size = c0.size ∧ c.kd = c0.kd ∧ (c = c0 ∨ ∃ cs k, c0 = .cells cs k ∧ c = .cells (cs.map dk) k) := by
  rw [List.getElem?_map] at h
  cases hb : H[i]? with
  | none => rw [hb] at h; cases h
  | some b =>
    rw [hb] at h
    simp only [Option.map_some, Option.some.injEq] at h
    obtain ⟨c0, rfl, h1⟩ := dkB_some h
    exact ⟨c0, rfl, h1⟩

theorem owned_dk : owned regs (H.map dkB) = owned regs H := by
  funext r x
  apply propext
  constructor
  · rintro ⟨i, g, b, h1, h2, h3⟩
    obtain ⟨c0, e1, e2, _, _⟩ := get_dk h2
    exact ⟨i, g, c0, h1, e1, h3.size e2⟩
  · rintro ⟨i, g, b, h1, h2, h3⟩
    have : ∃ c, dkB (some b) = some c ∧ c.size = b.size := by
      cases b with
      | cells cs k => exact ⟨_, rfl, by simp [Blk.size]⟩
      | bytes s t => exact ⟨_, rfl, rfl⟩
      | iter s p => exact ⟨_, rfl, rfl⟩
    obtain ⟨c, e1, e2⟩ := this
    exact ⟨i, g, c, h1, by rw [List.getElem?_map, h2]; simp [e1], h3.size e2.symm⟩

theorem HpOk.dk (h : HpOk F w regs H) : HpOk F w regs (H.map dkB) := by
  have ht : tot F regs (H.map dkB) = tot F regs H := by funext r x; unfold tot; rw [owned_dk]
  refine ⟨by simpa using h.len, fun i g b h1 h2 => ?_, fun i j g g' b b' hij h1 h2 h3 h4 r x h5 h6 => ?_, fun i g b h1 h2 r x h3 => ?_, h.lt, fun i g b h1 h2 => ?_⟩
  · rw [ht]
    obtain ⟨c0, e1, e2, e3, rfl | ⟨cs, k, rfl, rfl⟩⟩ := get_dk h2
    · exact h.blk i g _ h1 e1
    · obtain ⟨⟨e, n, q1, q2, q3⟩, us, q4, q5⟩ := h.blk i g _ h1 e1
      exact ⟨⟨e, n, q1, by simpa using q2, fun x a1 a2 a3 => q3 x (by simpa using a1) a2 (by simpa using a3)⟩, us, q4.dk, q5⟩
  · obtain ⟨c0, e1, e2, _⟩ := get_dk h3
    obtain ⟨c1, f1, f2, _⟩ := get_dk h4
    exact h.dj i j g g' c0 c1 hij h1 h2 e1 f1 r x (h5.size e2) (h6.size f2)
  · obtain ⟨c0, e1, e2, _⟩ := get_dk h2
    exact h.fr i g c0 h1 e1 r x (h3.size e2)
  · obtain ⟨c0, e1, e2, e3, _⟩ := get_dk h2
    rw [e2, e3]
    exact h.ty i g c0 h1 e1

theorem fget_dkF (fr : Fr) (t : Nat) : fget (dkF fr) t = Go.Vc.dk (fget fr t) := by
  induction fr with
  | nil => rfl
  | cons x r ih =>
    obtain ⟨k, v⟩ := x
    simp only [dkF, List.map_cons, fget] at ih ⊢
    split
    · rfl
    · exact ih

theorem trE_sound {B : Nat} {x : Tr} {fr fr' : Fr} {a : Act} {nt : Nat} (h : trE B x fr H = some (fr', H')) (hB : B ≤ H.length) (hs : St G F w regs H fr a nt) :
    ∃ regs', St G F w regs' H' fr' a nt ∧ Past B F w regs H w regs' H' ∧ B ≤ H'.length := by
  cases x with
  | nil i off t =>
    simp only [trE] at h
    split at h
    · rename_i cs k hi
      split at h
      · rename_i hx
        cases h
        obtain ⟨g, hg⟩ : ∃ g, regs[i]? = some g := ⟨_, List.getElem?_eq_getElem (by rw [hs.hp.len]; exact (List.getElem?_eq_some_iff.1 hi).1)⟩
        obtain ⟨h1, h2⟩ := hs.hp.empty (t := t) hi hg
        have hlt : i < H.length := (List.getElem?_eq_some_iff.1 hi).1
        have h3 := h1.recell (v := .nsl H.length 0 1) (get_append_old hi) hx (fun u hu => by
          cases hu with | p _ _ hu => cases hu; exact .nsln _ _ _ (get_last hs.hp.len) rfl)
        rw [List.set_append_left _ _ hlt] at h3
        have how : owned (regs ++ [⟨g.blk, g.off, false⟩]) (H.set i (some (.cells (cs.set off (.nsl H.length 0 1)) k)) ++ [some (.bytes [] t)]) = owned regs H := by
          rw [← List.set_append_left _ _ hlt, owned_swap (get_append_old hi) (by simp [Blk.size]), h2]
        have hto : tot F (regs ++ [⟨g.blk, g.off, false⟩]) (H.set i (some (.cells (cs.set off (.nsl H.length 0 1)) k)) ++ [some (.bytes [] t)]) = tot F regs H := by funext r x; unfold tot; rw [how]
        have hm : Moves (tot F regs H) w regs (tot F (regs ++ [⟨g.blk, g.off, false⟩]) (H.set i (some (.cells (cs.set off (.nsl H.length 0 1)) k)) ++ [some (.bytes [] t)])) w (regs ++ [⟨g.blk, g.off, false⟩]) := by
          rw [hto]
          exact ⟨fun _ _ _ a b => ⟨b, a⟩, Nat.le_refl _, fun _ _ _ a => a, fun _ _ a => get_append_old a⟩
        refine ⟨_, ⟨h3, hs.gl.moves hm, hs.fr.moves hm, hs.sz⟩, ⟨⟨hm.cell, hm.size, hm.shape, fun j gj hj => ?_⟩, .refl _ _, fun r x ho => .inl (by rwa [how] at ho)⟩, by simp; omega⟩
        obtain ⟨a1, a2⟩ := take_get.1 hj
        exact take_get.2 ⟨get_append_old a1, a2⟩
      · cases h
    · cases h
  | may i off j jo =>
    simp only [trE] at h
    have main : ∀ {cs : List EV} {k : Kd} {x : EV}, H[i]? = some (some (.cells cs k)) → cs[off]? = some x → (∀ u, VE (tot F regs H) w regs x u → VE (tot F regs H) w regs (.mptr j jo) u) →
        ∃ regs', St G F w regs' (H.set i (some (.cells (cs.set off (.mptr j jo)) k))) fr a nt ∧ Past B F w regs H w regs' (H.set i (some (.cells (cs.set off (.mptr j jo)) k))) ∧ B ≤ (H.set i (some (.cells (cs.set off (.mptr j jo)) k))).length := by
      intro cs k x hi hx hv
      have h3 := hs.hp.recell hi hx hv
      have how := owned_swap (regs := regs) (b' := .cells (cs.set off (.mptr j jo)) k) hi (by simp [Blk.size])
      have hto := tot_swap (F := F) (regs := regs) (b' := .cells (cs.set off (.mptr j jo)) k) hi (by simp [Blk.size])
      refine ⟨regs, ⟨h3, by rw [hto]; exact hs.gl, by rw [hto]; exact hs.fr, hs.sz⟩, ⟨?_, .refl _ _, fun r x ho => .inl (by rwa [how] at ho)⟩, by simpa using hB⟩
      rw [hto]
      exact Moves.shrink fun _ _ h => h
    split at h
    · rename_i cs k hi
      split at h
      · rename_i hx
        cases h
        exact main hi hx (fun u hu => by cases hu with | p _ _ hu => cases hu; exact .mptrn _ _)
      · rename_i j' jo' hx
        split at h
        · rename_i h1 h2
          cases h
          have e1 := Nat.eq_of_beq_eq_true h1
          have e2 := Nat.eq_of_beq_eq_true h2
          subst e1; subst e2
          exact main hi hx (fun u hu => by cases hu with | ptr _ _ g hg => exact .mptr _ _ g hg)
        · cases h
      · cases h
    · cases h
  | dk =>
    simp only [trE] at h
    cases h
    have ht : tot F regs (H.map dkB) = tot F regs H := by funext r x; unfold tot; rw [owned_dk]
    refine ⟨regs, ⟨hs.hp.dk, by rw [ht]; exact hs.gl, fun t => by rw [fget_dkF, ht]; exact (hs.fr t).dk, hs.sz⟩, ⟨?_, .refl _ _, fun r x ho => .inl (by rwa [owned_dk] at ho)⟩, by simpa using hB⟩
    rw [ht]
    exact Moves.shrink fun _ _ h => h
  | weak keep lists sel =>
    obtain ⟨regs1, a1, a2, a3, a4, a5⟩ := weaken_sound h hB hs.hp hs.gl hs.fr
    exact ⟨regs1, ⟨a1, a2, a3, hs.sz⟩, a4, a5⟩

theorem CC.tr {nt B : Nat} {x : Tr} {fr fr1 fr' : Fr} {H1 : Heap} {c : Code} {ex : Ex} (hw : trE B x fr H = some (fr1, H1)) (h : CC P G nt B fr1 H1 c ex fr' H') : CC P G nt B fr H c ex fr' H' := by
  intro F regs w a hs hB
  obtain ⟨regs1, a1, a4, a5⟩ := trE_sound hw hB hs
  refine wp_mono (h F regs1 w a a1 a5) ?_
  rintro e a' w' ⟨he, hd, hB', regs', hs', hp⟩
  exact ⟨he, hd, hB', regs', hs', a4.trans hp⟩

theorem LC.tr {nt B : Nat} {x : Tr} {fr fr1 fr' : Fr} {H1 : Heap} {c : Code} {ex : Ex} (hw : trE B x fr H = some (fr1, H1)) (h : LC P G nt B fr1 H1 c ex fr' H') : LC P G nt B fr H c ex fr' H' := by
  intro F regs w a hs hB b k cs
  obtain ⟨regs1, a1, a4, a5⟩ := trE_sound hw hB hs
  obtain ⟨e, a', w', ⟨he, hd, hB', regs', hs', hp⟩, harr⟩ := h F regs1 w a a1 a5 b k cs
  exact ⟨e, a', w', ⟨he, hd, hB', regs', hs', a4.trans hp⟩, harr⟩

/-- A state seen in another way behind a piece of code. -/
theorem CC.trPost {nt B : Nat} {x : Tr} {fr fr1 fr' : Fr} {H1 : Heap} {c : Code} {ex : Ex} (h : CC P G nt B fr H c ex fr' H') (hw : trE B x fr' H' = some (fr1, H1)) : CC P G nt B fr H c ex fr1 H1 := by
  intro F regs w a hs hB
  refine wp_mono (h F regs w a hs hB) ?_
  rintro e a' w' ⟨he, hd, hB', regs', hs', hp⟩
  obtain ⟨regs1, a1, a4, a5⟩ := trE_sound hw hB' hs'
  exact ⟨he, hd, a5, regs1, a1, hp.trans a4⟩

end
end Go.Vc
