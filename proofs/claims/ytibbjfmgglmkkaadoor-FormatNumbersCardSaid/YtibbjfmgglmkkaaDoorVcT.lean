/- Own texts of the proof, put together: VcT. -/
import Derived.Test.YtibbjfmgglmkkaaDoorVcQ
/- VcR -/
namespace Go.Vc
set_option linter.unusedVariables false
set_option linter.unusedSimpArgs false

section
variable {P : Program} {G : Glob} {F own : Own} {w w' : World} {regs : List Reg} {H : Heap}

theorem bytesToString_sound {z : Nat} {x : EV} {u : Value} {cs : List EV} {n : Nat} {l : List Nat} (h : sliceCells H 1 x = some (cs, n)) (hl : natList cs = some l) (hh : HpOk F w regs H)
    (hx : VE (tot F regs H) w regs x u) (hn : cs.length = n) (hslice : ∀ s, u ≠ .string s) :
    ∃ b, (Conv.bytesToString u).run P w = .ok (.string b) w ∧ bytesOf b = l := by
  obtain ⟨us, hus, hlen, hf⟩ := sliceCells_sound (P := P) h hh hx (by omega)
  obtain ⟨ns, rfl, rfl⟩ := natList_sound hl hus
  have hul := hus.len
  have hrun := hf n w (Nat.le_refl _) rfl
  rw [List.take_of_length_le (by omega)] at hrun
  cases u with
  | slice a k c =>
    have hk : k = n := by simpa [Builtin.lenOf] using hlen
    subst hk
    cases a with
    | none =>
      have : ns = [] := by
        simp [Builtin.firstCells] at hrun
        exact hrun
      subst this
      exact ⟨.empty, rfl, rfl⟩
    | some a =>
      have hl2 : (loadCells a k).run P w = .ok (ns.map fun n => Value.int IntKind.u8 n).toArray w := by simpa [Builtin.firstCells] using hrun
      refine ⟨ns.foldl (fun s n => s.push (UInt8.ofNat n.toNat)) ByteArray.empty, ?_, by rw [bytes_loop]; rfl⟩
      simp only [Conv.bytesToString, Sem.run_bind, hl2, Result.andThen_ok]
      rw [List.forIn_toArray, bytes_forIn (P := P) _ (fun _ _ => rfl) ns w ByteArray.empty]
      rfl
  | string s => exact absurd rfl (hslice s)
  | _ => simp [Builtin.lenOf] at hlen

theorem HpOk.drew {w1 : World} (h : HpOk F w regs H) (hw : w1.heap = w.heap) : HpOk F w1 regs H ∧ Moves (tot F regs H) w regs (tot F regs H) w1 regs := by
  have m : Moves (tot F regs H) w regs (tot F regs H) w1 regs :=
    ⟨fun r x u hn hc => ⟨by unfold World.cell? at hc ⊢; rw [hw]; exact hc, hn⟩, by rw [hw]; exact Nat.le_refl _, fun r e n h => by unfold World.shape? at h ⊢; rw [hw]; exact h, fun i g h => h⟩
  exact ⟨⟨h.len, fun i g b h1 h2 => (h.blk i g b h1 h2).keep m (fun _ _ => by unfold World.cell?; rw [hw]) (fun _ _ => by unfold World.frozen?; rw [hw]) (fun _ _ => by rw [hw]), h.dj, h.fr,
    fun r x hF => by rw [hw]; exact h.lt r x hF, fun i g b h1 h2 => (h.ty i g b h1 h2).keep m (fun _ _ => by rw [hw])⟩, m⟩

/-- A range over a string makes its iterator. -/
theorem range_sound {t : TypeId} {b : ByteArray} (hd : P.underlying t = some .string) (hh : HpOk F w regs H) :
    ∃ u w' regs', (Instr.range t (.string b)).run P w = .ok u w' ∧ StepOk F w regs H (.it H.length) (H ++ [some (.iter (bytesOf b) 0)]) u w' regs' := by
  obtain ⟨a1, a2, a3, a4⟩ := hh.push (o := .stringIter b 0) (w' := { w with heap := w.heap.push (.stringIter b 0) }) rfl (b := .iter (bytesOf b) 0) (fun _ => ⟨rfl, rfl, b, by simp, rfl⟩) trivial
  refine ⟨_, _, _, ?_, a1, ⟨_, rfl⟩, .it _ _ (get_last hh.len), a4, a2, a3⟩
  simp only [Instr.range, Sem.run_bind, und_of hd, Result.andThen_ok, Sem.run_pure, runObj]

theorem setObj_run {r : Nat} {o o' : Obj} (h : w.heap[r]? = some o) (hc : ∀ c e f, o ≠ .cells c e f) : (setObj r o').run P w = .ok () { w with heap := w.heap.setIfInBounds r o' } := by
  cases o <;> first
    | (exact absurd rfl (hc _ _ _))
    | (simp only [setObj, Sem.run, h])

theorem getObj_run {r : Nat} {o : Obj} (h : w.heap[r]? = some o) (hc : ∀ c e f, o ≠ .cells c e f) : (getObj r).run P w = .ok o w := by
  cases o <;> first
    | (exact absurd rfl (hc _ _ _))
    | (simp only [getObj, Sem.run, h])

/-- The next rune of a string. -/
theorem next_true {ty : TypeId} {i pos : Nat} {s : List Nat} {u : Value} (hi : H[i]? = some (some (.iter s pos))) (hh : HpOk F w regs H) (hu : VE (tot F regs H) w regs (.it i) u) (hp : pos < s.length) :
    ∃ u' w' regs', (Instr.next u true ty).run P w = .ok u' w' ∧
      StepOk F w regs H (.tup [.kb true, .p (.int .i64 (pos : Int)), .p (.int .i32 ((decodeL s pos).1 : Int))]) (H.set i (some (.iter s (pos + (decodeL s pos).2)))) u' w' regs' := by
  cases hu with | it _ g hg =>
  obtain ⟨h1, h2, b, hb, hbs⟩ := hh.blk i g _ hg hi
  subst hbs
  have hlt : g.blk < w.heap.size := (Array.getElem?_eq_some_iff.1 hb).1
  have hcell : ∀ {o : Obj} {r x : Nat}, (∀ c e f, o ≠ .cells c e f) → ({ w with heap := w.heap.setIfInBounds g.blk o } : World).cell? ⟨r, x, none⟩ = w.cell? ⟨r, x, none⟩ := by
    intro o r x ho
    unfold World.cell?
    simp only [Array.getElem?_setIfInBounds]
    by_cases e : g.blk = r
    · subst e; rw [if_pos rfl, if_pos hlt, hb]; cases o <;> first | rfl | exact absurd rfl (ho _ _ _)
    · rw [if_neg e]
  have hshape : ∀ {o : Obj} {r : Nat}, (∀ c e f, o ≠ .cells c e f) → ({ w with heap := w.heap.setIfInBounds g.blk o } : World).shape? r = w.shape? r := by
    intro o r ho
    unfold World.shape?
    simp only [Array.getElem?_setIfInBounds]
    by_cases e : g.blk = r
    · subst e; rw [if_pos rfl, if_pos hlt, hb]; cases o <;> first | rfl | exact absurd rfl (ho _ _ _)
    · rw [if_neg e]
  have hfrz : ∀ {o : Obj} {r x : Nat}, (∀ c e f, o ≠ .cells c e f) → ({ w with heap := w.heap.setIfInBounds g.blk o } : World).frozen? ⟨r, x, none⟩ = w.frozen? ⟨r, x, none⟩ := by
    intro o r x ho
    unfold World.frozen?
    simp only [Array.getElem?_setIfInBounds]
    by_cases e : g.blk = r
    · subst e; rw [if_pos rfl, if_pos hlt, hb]; cases o <;> first | rfl | exact absurd rfl (ho _ _ _)
    · rw [if_neg e]
  have hown : ∀ r x, owned regs (H.set i (some (.iter (bytesOf b) (pos + (decodeL (bytesOf b) pos).2)))) r x ↔ owned regs H r x := by
    intro r x
    constructor
    · rintro ⟨j, gj, c, e1, e2, e3⟩
      rw [List.getElem?_set] at e2
      split at e2
      · rename_i hij; subst hij
        split at e2
        · cases e2; exact ⟨i, gj, _, e1, hi, e3⟩
        · cases e2
      · exact ⟨j, gj, c, e1, e2, e3⟩
    · rintro ⟨j, gj, c, e1, e2, e3⟩
      by_cases hij : i = j
      · subst hij
        rw [hi] at e2; cases e2
        exact ⟨i, gj, _, e1, List.getElem?_set_self (List.getElem?_eq_some_iff.1 hi).1, e3⟩
      · exact ⟨j, gj, c, e1, by rw [List.getElem?_set_ne hij]; exact e2, e3⟩
  generalize hW : ({ w with heap := w.heap.setIfInBounds g.blk (.stringIter b (pos + (decodeL (bytesOf b) pos).2)) } : World) = w'
  have hne : ∀ c e f, (Obj.stringIter b (pos + (decodeL (bytesOf b) pos).2)) ≠ .cells c e f := by intro c e f h; cases h
  have hk : Keeps (owned regs H) w w' := by
    subst hW
    refine ⟨by simp, fun r x _ _ => hcell hne, fun r x _ _ => hfrz hne, fun r _ => hshape hne, fun r hr hn => ?_, rfl, rfl⟩
    simp only [Array.getElem?_setIfInBounds]
    rw [if_neg (fun e => ?_)]
    subst e
    exact hn 0 ⟨i, g, _, hg, hi, rfl, by omega, .inl h2⟩
  have hgr : Grow w (owned regs H) (owned regs (H.set i (some (.iter (bytesOf b) (pos + (decodeL (bytesOf b) pos).2))))) := fun r x hx => .inl ((hown r x).1 hx)
  have hm := Moves.of_keeps (F := F) hk hgr (fun _ _ e => e)
  refine ⟨.tuple #[.bool true, .int .i64 (pos : Int), .int .i32 ((decodeL (bytesOf b) pos).1 : Int)], w', regs, ?_, ⟨?_, ⟨[], by simp⟩, ?_, hm, hk, hgr⟩⟩
  · rw [bytesOf_len] at hp
    simp only [Instr.next, Sem.run_bind, getObj_run hb (by intro c e f h; cases h), Result.andThen_ok]
    rw [if_pos hp]
    simp only [decode_eq, Sem.run_bind, setObj_run hb (by intro c e f h; cases h), Result.andThen_ok, Sem.run_pure, hW]
    rfl
  · have back : ∀ (j : Nat) (gj : Reg) (c : Blk), regs[j]? = some gj → (H.set i (some (.iter (bytesOf b) (pos + (decodeL (bytesOf b) pos).2))))[j]? = some (some c) →
        ∃ c', H[j]? = some (some c') ∧ ∀ r x, InReg gj c r x → InReg gj c' r x := by
      intro j gj c e1 e2
      rw [List.getElem?_set] at e2
      split at e2
      · rename_i hij; subst hij
        split at e2
        · cases e2; exact ⟨_, hi, fun r x e3 => e3⟩
        · cases e2
      · exact ⟨c, e2, fun r x e3 => e3⟩
    refine ⟨by simp [hh.len], fun j gj c e1 e2 => ?_, fun j k g1 g2 b1 b2 hjk e1 e2 e3 e4 r x r1 r2 => ?_, fun j gj c e1 e2 r x e3 => ?_, fun r x hF => Nat.lt_of_lt_of_le (hh.lt r x hF) hk.size, fun j gj c e1 e2 => ?_⟩
    · by_cases hij : i = j
      · subst hij
        rw [List.getElem?_set_self (List.getElem?_eq_some_iff.1 hi).1] at e2
        cases e2
        rw [hg] at e1; cases e1
        subst hW
        exact ⟨h1, h2, b, by simp [hlt], rfl⟩
      · rw [List.getElem?_set_ne hij] at e2
        refine (hh.blk j gj c e1 e2).keep hm (fun x _ => by subst hW; exact hcell hne) (fun x _ => by subst hW; exact hfrz hne) (fun q1 q2 => ?_)
        subst hW
        simp only [Array.getElem?_setIfInBounds]
        rw [if_neg (fun e => ?_)]
        exact hh.dj i j g gj _ _ hij hg e1 hi e2 g.blk 0 ⟨rfl, by omega, .inl h2⟩ ⟨e.symm, by omega, .inl q2⟩
    · obtain ⟨c1, f1, s1⟩ := back j g1 b1 e1 e3
      obtain ⟨c2, f2, s2⟩ := back k g2 b2 e2 e4
      exact hh.dj j k g1 g2 c1 c2 hjk e1 e2 f1 f2 r x (s1 r x r1) (s2 r x r2)
    · obtain ⟨c1, f1, s1⟩ := back j gj c e1 e2
      exact hh.fr j gj c1 e1 f1 r x (s1 r x e3)
    · rw [List.getElem?_set] at e2
      split at e2
      · split at e2
        · cases e2; trivial
        · cases e2
      · rename_i hij
        refine (hh.ty j gj c e1 e2).keep hm (fun q1 q2 => ?_)
        subst hW
        simp only [Array.getElem?_setIfInBounds]
        rw [if_neg (fun e => ?_)]
        exact hh.dj i j g gj _ _ hij hg e1 hi e2 g.blk 0 ⟨rfl, by omega, .inl h2⟩ ⟨e.symm, by omega, .inl q2⟩
  · exact .tup _ _ (.cons _ _ _ _ (.kb _) (.cons _ _ _ _ (.p _ _ (.int _ _)) (.cons _ _ _ _ (.p _ _ (.int _ _)) .nil)))

theorem next_false {ty : TypeId} {i pos : Nat} {s : List Nat} {u : Value} (hi : H[i]? = some (some (.iter s pos))) (hh : HpOk F w regs H) (hu : VE (tot F regs H) w regs (.it i) u) (hp : s.length ≤ pos) :
    (Instr.next u true ty).run P w = .ok (.tuple #[.bool false]) w := by
  cases hu with | it _ g hg =>
  obtain ⟨h1, h2, b, hb, hbs⟩ := hh.blk i g _ hg hi
  subst hbs
  rw [bytesOf_len] at hp
  simp only [Instr.next, Sem.run_bind, getObj_run hb (by intro c e f h; cases h), Result.andThen_ok]
  rw [if_neg (by omega)]
  rfl

end
end Go.Vc

/- VcRb -/
namespace Go.Vc
set_option linter.unusedVariables false
set_option linter.unusedSimpArgs false

section
variable {P : Program} {G : Glob} {F own : Own} {w w' : World} {regs regs' : List Reg} {H H' : Heap}

theorem InReg.same {g : Reg} {b c : Blk} (h : b.size = c.size) {r x : Nat} (hr : InReg g b r x) : InReg g c r x := ⟨hr.1, hr.2.1, by rw [← h]; exact hr.2.2⟩

/-- A block seen another way. -/
theorem owned_swap {i : Nat} {b b' : Blk} (hi : H[i]? = some (some b)) (hs : b'.size = b.size) : owned regs (H.set i (some b')) = owned regs H := by
  funext r x
  apply propext
  constructor
  · rintro ⟨j, g, c, h1, h2, h3⟩
    rw [List.getElem?_set] at h2
    split at h2
    · rename_i e; subst e
      split at h2
      · cases h2; exact ⟨i, g, b, h1, hi, h3.same hs⟩
      · cases h2
    · exact ⟨j, g, c, h1, h2, h3⟩
  · rintro ⟨j, g, c, h1, h2, h3⟩
    by_cases e : i = j
    · subst e
      rw [hi] at h2; cases h2
      exact ⟨i, g, b', h1, List.getElem?_set_self (List.getElem?_eq_some_iff.1 hi).1, h3.same hs.symm⟩
    · exact ⟨j, g, c, h1, by rw [List.getElem?_set_ne e]; exact h2, h3⟩

theorem tot_swap {i : Nat} {b b' : Blk} (hi : H[i]? = some (some b)) (hs : b'.size = b.size) : tot F regs (H.set i (some b')) = tot F regs H := by
  funext r x
  unfold tot
  rw [owned_swap hi hs]

theorem HpOk.swap (h : HpOk F w regs H) {i : Nat} {b b' : Blk} (hi : H[i]? = some (some b)) (hs : b'.size = b.size) (hk : b'.kd = b.kd)
    (hb : ∀ g, regs[i]? = some g → BlkOk (tot F regs H) w regs g b → BlkOk (tot F regs H) w regs g b') : HpOk F w regs (H.set i (some b')) := by
  have old : ∀ (j : Nat) (c : Blk), (H.set i (some b'))[j]? = some (some c) → (j = i ∧ c = b') ∨ (j ≠ i ∧ H[j]? = some (some c)) := by
    intro j c h2
    rw [List.getElem?_set] at h2
    split at h2
    · rename_i e; subst e
      split at h2
      · cases h2; exact .inl ⟨rfl, rfl⟩
      · cases h2
    · rename_i e; exact .inr ⟨fun e' => e e'.symm, h2⟩
  refine ⟨by simp [h.len], fun j g c h1 h2 => ?_, fun j k g g' c c' hjk h1 h2 h3 h4 r x r1 r2 => ?_, fun j g c h1 h2 r x hr => ?_, h.lt, fun j g c h1 h2 => ?_⟩
  · rw [tot_swap hi hs]
    rcases old j c h2 with ⟨rfl, rfl⟩ | ⟨_, h2⟩
    · exact hb g h1 (h.blk j g b h1 hi)
    · exact h.blk j g c h1 h2
  · rcases old j c h3 with ⟨e1, e2⟩ | ⟨_, p3⟩ <;> rcases old k c' h4 with ⟨f1, f2⟩ | ⟨_, p4⟩
    · exact absurd (e1.trans f1.symm) hjk
    · subst e1; subst e2; exact h.dj _ _ _ _ _ _ hjk h1 h2 hi p4 r x (r1.same hs) r2
    · subst f1; subst f2; exact h.dj _ _ _ _ _ _ hjk h1 h2 p3 hi r x r1 (r2.same hs)
    · exact h.dj _ _ _ _ _ _ hjk h1 h2 p3 p4 r x r1 r2
  · rcases old j c h2 with ⟨rfl, rfl⟩ | ⟨_, h2⟩
    · exact h.fr _ _ _ h1 hi r x (hr.same hs)
    · exact h.fr _ _ _ h1 h2 r x hr
  · rcases old j c h2 with ⟨rfl, rfl⟩ | ⟨_, h2⟩
    · rw [hs, hk]; exact h.ty _ _ _ h1 hi
    · exact h.ty _ _ _ h1 h2

theorem StepOk.swap1 {H0 : Heap} {v : EV} {u : Value} (e : owned regs H0 = owned regs H) (h : StepOk F w regs H0 v H' u w' regs') : StepOk F w regs H v H' u w' regs' := by
  have et : tot F regs H0 = tot F regs H := by funext r x; unfold tot; rw [e]
  exact ⟨h.hp, h.ext, h.val, by rw [← et]; exact h.mv, by rw [← e]; exact h.kp, by rw [← e]; exact h.gr⟩

theorem StepOk.swap2 {v : EV} {u : Value} {i : Nat} {b b' : Blk} (h : StepOk F w regs H v H' u w' regs') (hi : H'[i]? = some (some b)) (hs : b'.size = b.size) (hk : b'.kd = b.kd)
    (hb : ∀ g, regs'[i]? = some g → BlkOk (tot F regs' H') w' regs' g b → BlkOk (tot F regs' H') w' regs' g b') : StepOk F w regs H v (H'.set i (some b')) u w' regs' := by
  have e := owned_swap (regs := regs') hi hs
  have et := tot_swap (F := F) (regs := regs') hi hs
  exact ⟨h.hp.swap hi hs hk hb, h.ext, by rw [et]; exact h.val, by rw [et]; exact h.mv, h.kp, by rw [e]; exact h.gr⟩

theorem byteList_sound {cs : List EV} {l : List Nat} {b : Bool} (h : byteList cs = some (l, b)) (hb : b = true) : cs = l.map byteEV ∧ ∀ x ∈ l, x < 256 := by
  induction cs generalizing l b with
  | nil => simp [byteList] at h; obtain ⟨rfl, _⟩ := h; simp
  | cons c cs ih =>
    cases c with
    | p x =>
      cases x with
      | int k n =>
        cases k <;> simp only [byteList] at h <;> try cases h
        split at h
        · rename_i l' b' h'
          cases h
          simp only [Bool.and_eq_true, decide_eq_true_eq] at hb
          obtain ⟨h1, h2⟩ := ih h' hb.2
          refine ⟨?_, fun x hx => ?_⟩
          · simp only [List.map_cons, ← h1, byteEV]
            rw [Int.toNat_of_nonneg hb.1.1]
          · rcases List.mem_cons.1 hx with rfl | hx
            · omega
            · exact h2 x hx
        · cases h
      | _ => simp [byteList] at h
    | _ => simp [byteList] at h

theorem bytesOf_lt (s : ByteArray) : ∀ x ∈ bytesOf s, x < 256 := by
  intro x hx
  simp only [bytesOf, List.mem_map] at hx
  obtain ⟨y, _, rfl⟩ := hx
  exact y.toNat_lt

theorem bytesE_sound {x : EV} {m : List Nat} {b : Bool} {u : Value} (h : bytesE H x = some (m, b)) (hb : b = true) (hx : VE (tot F regs H) w regs x u) :
    sliceCells H 1 x = some (m.map byteEV, m.length) ∧ ∀ y ∈ m, y < 256 := by
  unfold bytesE at h
  split at h
  · cases h
    cases hx with | p _ _ hx => cases hx with | str _ s hs =>
    subst hs
    exact ⟨by simp [sliceCells], bytesOf_lt s⟩
  · cases h
    exact ⟨by simp [sliceCells], by simp⟩
  · rename_i i off n
    split at h
    · rename_i cs k hi
      split at h
      · rename_i l b' hl
        cases h
        simp only [Bool.and_eq_true, decide_eq_true_eq] at hb
        obtain ⟨h1, h2⟩ := byteList_sound hl hb.1
        refine ⟨?_, h2⟩
        simp only [sliceCells, hi, Nat.mul_one]
        rw [h1, hb.2]
      · cases h
    · cases h
  · cases h

theorem allCells_bytes (m : List Nat) : allCells (m.map byteEV) = true := by
  induction m with
  | nil => rfl
  | cons a m ih =>
    have : isCell (byteEV a) = true := rfl
    simp [allCells, ih, this]

theorem VE.nsl_nil {i n z : Nat} {g : Reg} {u : Value} (h : VE own w regs (.nsl i n z) u) (hg : regs[i]? = some g) (ht : g.tail = false) : n = 0 := by
  generalize hx : EV.nsl i n z = x at h
  cases h with
  | nsln i' z' g' hg' ht' => cases hx; rfl
  | nsl i' n' z' g' c hg' ht' hc h0 hf =>
    cases hx
    rw [hg] at hg'; cases hg'
    rw [ht] at ht'; cases ht'
  | _ => cases hx

theorem appendB_sound {t t2 ty : TypeId} {d2 : TypeDesc} {s x : EV} {us ux : Value} {v : EV} {H' : Heap} {ob : Option Bool} (h : appendB P H t s x = some (v, H', ob)) (hm : Met ob)
    (hd2 : P.underlying t2 = some d2) (hni : notInt d2) (hh : HpOk F w regs H) (hs : VE (tot F regs H) w regs s us) (hx : VE (tot F regs H) w regs x ux) :
    ∃ u w' regs', (Builtin.append_ #[t, t2] ty #[us, ux]).run P w = .ok u w' ∧ StepOk F w regs H v H' u w' regs' := by
  unfold appendB at h
  split at h
  · rename_i e i len hd
    split at h
    · rename_i info l t' m b hi hib hbx
      split at h
      · rename_i h1 h2 h3 h4
        cases h
        have e1 : info.size = 1 := Nat.eq_of_beq_eq_true h1
        have e2 : info.bytes = 1 := Nat.eq_of_beq_eq_true h2
        have e3 : t' = e := Nat.eq_of_beq_eq_true h3
        subst e3
        have hb := hm.some
        simp only [Bool.and_eq_true, decide_eq_true_eq] at hb
        obtain ⟨⟨hb1, hlen⟩, hsum⟩ := hb
        obtain ⟨hsc, hlt⟩ := bytesE_sound hbx hb1 hx
        have hlt' : i < H.length := (List.getElem?_eq_some_iff.1 hib).1
        have hszr : (Blk.cells (l.map byteEV) (.ice t')).size = (Blk.bytes l t').size := by simp [Blk.size]
        generalize hH0 : H.set i (some (.cells (l.map byteEV) (.ice t'))) = H0
        have how : owned regs H0 = owned regs H := by rw [← hH0]; exact owned_swap hib hszr
        have hto : tot F regs H0 = tot F regs H := by rw [← hH0]; exact tot_swap hib hszr
        have hh0 : HpOk F w regs H0 := by
          rw [← hH0]
          exact hh.swap hib hszr rfl (fun g _ hb => hb.1)
        have hib0 : H0[i]? = some (some (.cells (l.map byteEV) (.ice t'))) := by rw [← hH0]; exact List.getElem?_set_self hlt'
        have hbl : ∀ y ∈ l, y < 256 := by
          cases hs with
          | nsln _ _ g hg => exact (hh.blk i g _ hg hib).2.1
          | nsl _ _ _ g c hg => exact (hh.blk i g _ hg hib).2.1
        have hsc0 : sliceCells H0 1 x = some (m.map byteEV, m.length) := by
          cases x with
          | sl j off n z =>
            simp only [sliceCells] at hsc ⊢
            rw [← hH0]
            have hne : i ≠ j := by
              rintro rfl
              rw [hib] at hsc
              split at hsc
              · rename_i heq; cases heq
              · cases hsc
            rw [List.getElem?_set_ne hne]
            exact hsc
          | p y => cases y <;> exact hsc
          | _ => exact hsc
        have hcall : allCells (m.map byteEV) = true := allCells_bytes m
        have happ : appendE P H0 t (.nsl i len 1) x = some (.nsl H0.length (len + m.length) 1, H0.set i none ++ [some (.cells (l.map byteEV ++ m.map byteEV) (.ice t'))],
            some (allCells (m.map byteEV) && decide ((m.map byteEV).length = m.length * info.size) && decide ((l.map byteEV).length = len * 1) && (decide ((len + m.length : Nat) * info.bytes ≤ 1099511627776) && decide (0 < info.bytes)))) := by
          unfold appendE
          simp only [hd, hi, e1, hsc0, hcall, hib0]
          have : (zeroE P t').map (fun z => Nat.beq z.length 1) = some true := h4
          rw [this]
          simp
        obtain ⟨u, w', regs', hr, hst⟩ := appendE_sound (ty := ty) happ (by simp [Met, e1, e2, hlen, hcall]; omega) hd2 hni hh0 (by rw [hto]; exact hs) (by rw [hto]; exact hx)
        refine ⟨u, w', regs', hr, ?_⟩
        have hst1 := hst.swap1 how
        have hl0 : H0.length = H.length := by rw [← hH0]; simp
        have hset : H0.set i none = H.set i none := by rw [← hH0, List.set_set]
        rw [hset, hl0] at hst1
        have hlast : (H.set i none ++ [some (Blk.cells (l.map byteEV ++ m.map byteEV) (.ice t'))])[H.length]? = some (some (.cells (l.map byteEV ++ m.map byteEV) (.ice t'))) := by
          rw [List.getElem?_append_right (by simp)]; simp
        have hst2 := hst1.swap2 (b' := .bytes (l ++ m) t') hlast (by simp [Blk.size]) rfl (fun g hg hb => ⟨by rw [List.map_append]; exact hb, fun y hy => by
          rcases List.mem_append.1 hy with h | h
          · exact hbl y h
          · exact hlt y h, fun htl => by
          have := hst1.val.nsl_nil hg htl
          apply List.length_eq_zero_iff.1
          rw [List.length_append]
          omega⟩)
        have hfin : (H.set i none ++ [some (Blk.cells (l.map byteEV ++ m.map byteEV) (.ice t'))]).set H.length (some (.bytes (l ++ m) t')) = H.set i none ++ [some (.bytes (l ++ m) t')] := by
          rw [List.set_append_right _ _ (by simp)]; simp
        rw [hfin] at hst2
        rw [List.length_append, ← hlen]
        exact hst2
      · cases h
    · cases h
  · cases h

theorem freeze_cell (w : World) (r n : Nat) (q x : Nat) : (w.freeze ⟨r, 0, none⟩ n).cell? ⟨q, x, none⟩ = w.cell? ⟨q, x, none⟩ := by
  unfold World.freeze
  split
  · rfl
  · unfold World.cell?
    simp only [Array.getElem?_modify]
    by_cases e : r = q
    · subst e
      simp only [if_true]
      cases w.heap[r]? with
      | none => rfl
      | some o => cases o <;> rfl
    · simp [e]

theorem freeze_shape (w : World) (r n : Nat) (q : Nat) : (w.freeze ⟨r, 0, none⟩ n).shape? q = w.shape? q := by
  unfold World.freeze
  split
  · rfl
  · unfold World.shape?
    simp only [Array.getElem?_modify]
    by_cases e : r = q
    · subst e
      simp only [if_true]
      cases w.heap[r]? with
      | none => rfl
      | some o => cases o <;> rfl
    · simp [e]

theorem freeze_other (w : World) (r n : Nat) {q : Nat} (h : q ≠ r) : (w.freeze ⟨r, 0, none⟩ n).heap[q]? = w.heap[q]? := by
  unfold World.freeze
  split
  · rfl
  · simp only [Array.getElem?_modify]
    rw [if_neg (fun e => h e.symm)]

theorem freeze_env (w : World) (a : Addr) (n : Nat) : (w.freeze a n).os = w.os ∧ (w.freeze a n).output = w.output := by
  unfold World.freeze
  split <;> exact ⟨rfl, rfl⟩

theorem freeze_size (w : World) (r n : Nat) : (w.freeze ⟨r, 0, none⟩ n).heap.size = w.heap.size := by
  unfold World.freeze
  split <;> simp

/-- A row of bytes is frozen as far as it is seen. -/
theorem HpOk.freeze (h : HpOk F w regs H) {i : Nat} {g : Reg} {s : List Nat} {t : TypeId} (hi : H[i]? = some (some (.bytes s t))) (hg : regs[i]? = some g) (ht : g.tail = true) (hs : 0 < s.length) :
    HpOk F (w.freeze ⟨g.blk, 0, none⟩ s.length) regs H ∧ Keeps (owned regs H) w (w.freeze ⟨g.blk, 0, none⟩ s.length) ∧
    Moves (tot F regs H) w regs (tot F regs H) (w.freeze ⟨g.blk, 0, none⟩ s.length) regs := by
  obtain ⟨h0, C, lo, hi', hrow, hlo⟩ := h.ty i g _ hg hi ht
  simp only [Blk.size] at hlo
  have hall : ∀ x, owned regs H g.blk x := fun x => ⟨i, g, _, hg, hi, rfl, by omega, .inl ht⟩
  have hrow' : ∃ lo' hi'', (w.freeze ⟨g.blk, 0, none⟩ s.length).heap[g.blk]? = some (.cells C t (lo', hi'')) ∧ hi'' ≤ s.length := by
    unfold World.freeze
    rw [if_neg (by omega)]
    simp only [Array.getElem?_modify, if_true, hrow, Option.map_some]
    by_cases e : lo = hi'
    · exact ⟨0, 0 + s.length, by simp [e], by omega⟩
    · refine ⟨min lo 0, max hi' (0 + s.length), by simp [e], ?_⟩
      have := hlo.resolve_left e
      omega
  obtain ⟨lo', hi'', hr1, hr2⟩ := hrow'
  have hk : Keeps (owned regs H) w (w.freeze ⟨g.blk, 0, none⟩ s.length) := by
    refine ⟨by rw [freeze_size]; exact Nat.le_refl _, fun r x _ _ => freeze_cell _ _ _ _ _, fun r x _ hn => ?_, fun r _ => freeze_shape _ _ _ _, fun r _ hn => freeze_other _ _ _ (fun e => ?_), freeze_env _ _ _⟩
    · unfold World.frozen?
      simp only []
      rw [freeze_other _ _ _ (fun e => by subst e; exact hn (hall x))]
    · subst e; exact hn 0 (hall 0)
  have hm := Moves.of_keeps (F := F) hk (.refl _ _) (fun _ _ e => e)
  have hne : ∀ (j : Nat) (gj : Reg) (b : Blk), j ≠ i → regs[j]? = some gj → H[j]? = some (some b) → ∀ x, InReg gj b gj.blk x → gj.blk ≠ g.blk := by
    intro j gj b hj h1 h2 x hx e
    exact h.dj j i gj g b _ hj h1 hg h2 hi gj.blk x hx ⟨e.symm, by omega, .inl ht⟩
  refine ⟨⟨h.len, fun j gj b h1 h2 => ?_, h.dj, h.fr, fun r x hF => by rw [freeze_size]; exact h.lt r x hF, fun j gj b h1 h2 => ?_⟩, hk, hm⟩
  · by_cases hj : j = i
    · subst hj
      rw [hg] at h1; cases h1
      rw [hi] at h2; cases h2
      obtain ⟨⟨⟨e, n, q1, q2, q3⟩, us, q4, q5⟩, q6⟩ := h.blk j g _ hg hi
      refine ⟨⟨⟨e, n, by rw [freeze_shape]; exact q1, q2, fun x a1 a2 a3 => ?_⟩, us, q4.moves hm, fun k u hk => by rw [freeze_cell]; exact q5 k u hk⟩, q6⟩
      simp only [Kd.lo, List.length_map] at a1
      unfold World.frozen?
      simp only [hr1]
      simp
      intro _
      omega
    · refine (h.blk j gj b h1 h2).keep hm (fun x hx => freeze_cell _ _ _ _ _) (fun x hx => ?_) (fun q1 q2 => freeze_other _ _ _ (hne j gj b hj h1 h2 0 ⟨rfl, by omega, .inl q2⟩))
      unfold World.frozen?
      simp only []
      rw [freeze_other _ _ _ (hne j gj b hj h1 h2 x hx)]
  · by_cases hj : j = i
    · subst hj
      rw [hg] at h1; cases h1
      rw [hi] at h2; cases h2
      exact fun _ => ⟨h0, C, lo', hi'', hr1, .inr hr2⟩
    · exact (h.ty j gj b h1 h2).keep hm (fun q1 q2 => freeze_other _ _ _ (hne j gj b hj h1 h2 0 ⟨rfl, by omega, .inl q2⟩))

/-- A row that is frozen and given up. -/
theorem HpOk.freezeGone (h : HpOk F w regs H) {i : Nat} {g : Reg} {b : Blk} (hi : H[i]? = some (some b)) (hg : regs[i]? = some g) (h0 : g.off = 0) (ht : g.tail = true) (n : Nat) :
    HpOk F (w.freeze ⟨g.blk, 0, none⟩ n) regs (H.set i none) ∧ Keeps (owned regs H) w (w.freeze ⟨g.blk, 0, none⟩ n) ∧
    Moves (tot F regs H) w regs (tot F regs (H.set i none)) (w.freeze ⟨g.blk, 0, none⟩ n) regs := by
  have hall : ∀ x, owned regs H g.blk x := fun x => ⟨i, g, _, hg, hi, rfl, by omega, .inl ht⟩
  have hk : Keeps (owned regs H) w (w.freeze ⟨g.blk, 0, none⟩ n) := by
    refine ⟨by rw [freeze_size]; exact Nat.le_refl _, fun r x _ _ => freeze_cell _ _ _ _ _, fun r x _ hn => ?_, fun r _ => freeze_shape _ _ _ _, fun r _ hn => freeze_other _ _ _ (fun e => ?_), freeze_env _ _ _⟩
    · unfold World.frozen?
      simp only []
      rw [freeze_other _ _ _ (fun e => by subst e; exact hn (hall x))]
    · subst e; exact hn 0 (hall 0)
  have hgr : Grow w (owned regs H) (owned regs (H.set i none)) := fun r x hx => .inl (owned_kill hx)
  have hm := Moves.of_keeps (F := F) hk hgr (fun _ _ e => e)
  have hK := h.kill i
  have hne : ∀ (j : Nat) (gj : Reg) (b : Blk), regs[j]? = some gj → (H.set i none)[j]? = some (some b) → H[j]? = some (some b) ∧ ∀ x, InReg gj b gj.blk x → gj.blk ≠ g.blk := by
    intro j gj b h1 h2
    have hj : j ≠ i := by
      intro e
      subst e
      rw [List.getElem?_set_self (List.getElem?_eq_some_iff.1 hi).1] at h2
      cases h2
    rw [List.getElem?_set_ne (fun e => hj e.symm)] at h2
    exact ⟨h2, fun x hx e => h.dj j i gj g b _ hj h1 hg h2 hi gj.blk x hx ⟨e.symm, by omega, .inl ht⟩⟩
  refine ⟨⟨hK.len, fun j gj b h1 h2 => ?_, hK.dj, hK.fr, fun r x hF => by rw [freeze_size]; exact h.lt r x hF, fun j gj b h1 h2 => ?_⟩, hk, hm⟩
  · obtain ⟨h3, h4⟩ := hne j gj b h1 h2
    refine (h.blk j gj b h1 h3).keep hm (fun x hx => freeze_cell _ _ _ _ _) (fun x hx => ?_) (fun q1 q2 => freeze_other _ _ _ (h4 0 ⟨rfl, by omega, .inl q2⟩))
    unfold World.frozen?
    simp only []
    rw [freeze_other _ _ _ (h4 x hx)]
  · obtain ⟨h3, h4⟩ := hne j gj b h1 h2
    exact (h.ty j gj b h1 h3).keep hm (fun q1 q2 => freeze_other _ _ _ (h4 0 ⟨rfl, by omega, .inl q2⟩))

theorem cellByte_val {own : Own} {v : EV} {u : Value} (h : cellByte v = true) (hv : VE own w regs v u) : ∃ n : Nat, n < 256 ∧ u = .int .u8 (n : Int) ∧ cellNat v = n := by
  unfold cellByte at h
  split at h
  · rename_i n
    simp only [Bool.and_eq_true, decide_eq_true_eq] at h
    cases hv with | p _ _ hv =>
    cases hv
    exact ⟨n.toNat, by omega, by rw [Int.toNat_of_nonneg h.1], rfl⟩
  · cases h

theorem ustrC_sound {pt it ty : TypeId} {p n : EV} {up un : Value} {v : EV} {H' : Heap} {ob : Option Bool} (h : ustrC P H pt p n = some (v, H', ob)) (hm : Met ob) (hh : HpOk F w regs H)
    (hp : VE (tot F regs H) w regs p up) (hn : VE (tot F regs H) w regs n un) :
    ∃ u w', (Builtin.unsafeString_ #[pt, it] ty #[up, un]).run P w = .ok u w' ∧ StepOk F w regs H v H' u w' regs := by
  unfold ustrC at h
  split at h
  · rename_i i m e hpt
    split at h
    · rename_i cs t hi
      split at h
      · rename_i h1 h2
        cases h
        have e2 : P.cellsOf e = 1 := Nat.eq_of_beq_eq_true h2
        have hb := hm.some
        simp only [Bool.and_eq_true, decide_eq_true_eq] at hb
        obtain ⟨⟨rfl, hsl⟩, hall⟩ := hb
        cases hn with | p _ _ hn =>
        cases hn
        cases hp with | ptr _ _ g hg =>
        obtain ⟨⟨e0, N0, s1, s2, _⟩, us, hus, hc⟩ := hh.blk i g _ hg hi
        have hkd : g.off = 0 ∧ g.tail = true ∧ ∃ n, w.shape? g.blk = some (e, n) := by
          have hty := hh.ty i g _ hg hi
          unfold isRow at h1
          simp only [Blk.kd] at hty
          split at h1
          · rename_i t' _
            have e1 : t' = e := Nat.eq_of_beq_eq_true h1
            subst e1
            exact hty
          · rename_i t' _
            have e1 : t' = e := Nat.eq_of_beq_eq_true h1
            subst e1
            exact ⟨hty.2.1, hty.2.2, _, hty.1⟩
          · cases h1
        obtain ⟨q2, q3, N, q1⟩ := hkd
        have hNl : cs.length ≤ N := by
          rw [q1] at s1
          cases s1
          omega
        have hkill := hh.kill i
        rcases Nat.eq_zero_or_pos cs.length with h0 | h0
        · have hs : cs = [] := List.length_eq_zero_iff.1 h0
          subst hs
          refine ⟨.string .empty, w, Lib.run_unsafeString_none w _ _ _ _, hkill, ⟨[], by simp⟩, .p _ _ (.str _ _ rfl), Moves.kill i, Keeps.refl _ _, fun r x hx => .inl (owned_kill hx)⟩
        · obtain ⟨a1, a2, a3⟩ := hh.freezeGone hi hg q2 q3 cs.length
          generalize hl : (cellNats cs).map (fun n => (UInt8.ofNat n)) = l
          have hcl : (cellNats cs).length = cs.length := by simp [cellNats]
          have hll : l.length = cs.length := by rw [← hl]; simp [hcl]
          have hbyte : ∀ v ∈ cs, cellByte v = true := fun v hv => List.all_eq_true.1 hall v hv
          have hls : l.map (·.toNat) = cellNats cs := by
            rw [← hl, List.map_map]
            conv => rhs; rw [← List.map_id (cellNats cs)]
            apply List.map_congr_left
            intro x hx
            simp only [cellNats, List.mem_map] at hx
            obtain ⟨v, hv, rfl⟩ := hx
            have := hbyte v hv
            unfold cellByte at this
            split at this
            · simp only [Bool.and_eq_true, decide_eq_true_eq] at this
              simp [cellNat]
              omega
            · cases this
          have hrun := Lib.run_unsafeString_row (P := P) w pt it ty e hpt e2 g.blk N q1 l (by intro e; rw [e] at hll; simp at hll; omega) (by omega) (by omega)
            (fun j x hj => by
              rw [addr_add, Nat.zero_add]
              have hx : (cellNats cs)[j]? = some x.toNat := by rw [← hls, List.getElem?_map, hj]; rfl
              have hv : ∃ v, cs[j]? = some v := by
                have := (List.getElem?_eq_some_iff.1 hj).1
                exact ⟨_, List.getElem?_eq_getElem (by omega)⟩
              obtain ⟨v, hv⟩ := hv
              obtain ⟨u, hu, hvu⟩ := hus.get hv
              have hcell := hc j u hu
              rw [q2, Nat.zero_add] at hcell
              rw [hcell]
              obtain ⟨n, hn, rfl, hn2⟩ := cellByte_val (hbyte v (List.mem_of_getElem? hv)) hvu
              simp only [cellNats, List.getElem?_map, hv, Option.map_some, Option.some.injEq] at hx
              rw [← hx]
              exact congrArg (fun k : Nat => some (Value.int .u8 (k : Int))) hn2.symm)
          rw [hll] at hrun
          have ho : g.off + 0 = 0 := by omega
          refine ⟨_, _, by rw [ho]; exact hrun, a1, ⟨[], by simp⟩, .p _ _ (.str _ _ ?_), a3, a2, fun r x hx => .inl (owned_kill hx)⟩
          simp [bytesOf, hls]
      · cases h
    · cases h
  · cases h

theorem sliceA_sound {t : TypeId} {x : EV} {lo hi mx : Option EV} {u : Value} {ul uh um : Option Value} {v : EV} {o : Option Bool} (h : sliceA P H t x lo hi mx = some (v, o)) (hm : Met o) (hh : HpOk F w regs H)
    (hx : VE (tot F regs H) w regs x u) (hlo : ∀ e, lo = some e → ∃ v, ul = some v ∧ VE (tot F regs H) w regs e v) (hlo' : lo = none → ul = none)
    (hhi : ∀ e, hi = some e → ∃ v, uh = some v ∧ VE (tot F regs H) w regs e v) (hhi' : hi = none → uh = none) (hmx : mx = none → um = none) :
    Gives P (tot F regs H) w regs (Instr.sliceAt t u ul uh um) v := by
  unfold sliceA at h
  split at h
  · rename_i n e i off l hh' hd e1 e2
    obtain rfl := hmx rfl
    have hl := optInt_sound e1 hlo hlo'
    have hh2 := optInt_sound e2 hhi hhi'
    split at h
    · rename_i z cs kt hz hi'
      cases h
      have hb := hm.some
      simp only [Bool.and_eq_true, decide_eq_true_eq] at hb
      obtain ⟨hb1, hb2⟩ := hb
      have hmet : Met (boundsOk n l hh') := by
        cases hbo : boundsOk n l hh' with
        | none => exact met_none
        | some b => rw [hbo] at hb1; exact (met_some _).2 hb1
      cases hx with | ptr _ _ g hg =>
      obtain ⟨q1, q2, q3⟩ := hh.ty i g _ hg hi'
      simp only [Blk.size] at q1
      obtain ⟨hr, hB1, hB2⟩ := sliceBounds_ok (P := P) (w := w) false n n (Nat.le_refl _) hl hh2 hmet
      generalize hL : (l.getD 0).toNat = L at *
      generalize hHH : hiOf hh' n = Hh at *
      refine ⟨.slice (some (if n = L then ⟨g.blk, g.off + off, none⟩ else (⟨g.blk, g.off + off, none⟩ : Addr).add (L * z))) (Hh - L) (n - L), ?_, ?_⟩
      · simp only [Instr.sliceAt, Instr.sureAddr, Sem.run_bind, und_of hd, Result.andThen_ok, Sem.run_pure, hr, size_of hz]
      · have hLz : L * z ≤ n * z := Nat.mul_le_mul_right z (by omega)
        refine .sl _ _ _ _ g _ _ hg q3 (by omega) (fun hor => ?_) ⟨kt, cs.length, q1, ?_⟩
        · by_cases hcl : n = L
          · rw [if_pos hcl]
            rcases hor with h0 | h0
            · have : L * z = 0 := by omega
              have hoff : off = 0 := by omega
              rw [this, Nat.add_zero]
            · omega
          · rw [if_neg hcl, addr_add, Nat.add_assoc]
        · rw [q2, Nat.zero_add, Nat.add_assoc, ← Nat.add_mul]
          rw [show L + (n - L) = n by omega]
          exact hb2
    · cases h
  · cases h

theorem ustrE_sound {pt it ty : TypeId} {p n : EV} {up un : Value} {v : EV} {ob : Option Bool} (h : ustrE P H pt p n = some (v, ob)) (hm : Met ob) (hh : HpOk F w regs H)
    (hp : VE (tot F regs H) w regs p up) (hn : VE (tot F regs H) w regs n un) :
    ∃ u w', (Builtin.unsafeString_ #[pt, it] ty #[up, un]).run P w = .ok u w' ∧ StepOk F w regs H v H u w' regs := by
  unfold ustrE at h
  split at h
  · rename_i i m e hpt
    split at h
    · rename_i s t hi
      split at h
      · rename_i h1 h2
        cases h
        have e1 : t = e := Nat.eq_of_beq_eq_true h1
        have e2 : P.cellsOf e = 1 := Nat.eq_of_beq_eq_true h2
        subst e1
        have hb := hm.some
        simp only [Bool.and_eq_true, decide_eq_true_eq] at hb
        obtain ⟨rfl, hsl⟩ := hb
        cases hn with | p _ _ hn =>
        cases hn
        rcases Nat.eq_zero_or_pos s.length with h0 | h0
        · have hs : s = [] := List.length_eq_zero_iff.1 h0
          subst hs
          refine ⟨.string .empty, w, ?_, StepOk.same hh (.p _ _ (.str _ _ rfl))⟩
          cases hp <;> exact Lib.run_unsafeString_none w _ _ _ _
        · cases hp with
          | nptrn _ g hg ht =>
            obtain ⟨⟨⟨e', n', q1, q2, q3⟩, us, q4, q5⟩, q6⟩ := hh.blk i g _ hg hi
            rw [q6.2 ht] at h0
            simp at h0
          | nptr _ g hg ht =>
            obtain ⟨⟨⟨e', n', q1, q2, q3⟩, us, q4, q5⟩, q6⟩ := hh.blk i g _ hg hi
            obtain ⟨g0, C, lo, hi', hrow, hlo⟩ := hh.ty i g _ hg hi ht
            obtain ⟨a1, a2, a3⟩ := hh.freeze hi hg ht h0
            generalize hl : s.map (fun n => (UInt8.ofNat n)) = l
            have hll : l.length = s.length := by rw [← hl]; simp
            have hls : l.map (·.toNat) = s := by
              rw [← hl, List.map_map]
              conv => rhs; rw [← List.map_id s]
              apply List.map_congr_left
              intro x hx
              simp
              exact q6.1 x hx
            have hcells : C.size ≥ s.length := by
              have e1 : w.shape? g.blk = some (t, C.size) := by unfold World.shape?; rw [hrow]
              rw [e1] at q1
              cases q1
              simpa [g0] using q2
            have hrun := Lib.run_unsafeString_row (P := P) w pt it ty t hpt e2 g.blk C.size (by unfold World.shape?; rw [hrow]) l (by intro e; rw [e] at hll; simp at hll; omega) (by omega) (by omega)
              (fun j x hj => by
                rw [addr_add]
                have hx : s[j]? = some x.toNat := by rw [← hls, List.getElem?_map, hj]; rfl
                have hb : (s.map byteEV)[j]? = some (byteEV x.toNat) := by rw [List.getElem?_map, hx]; rfl
                obtain ⟨u, hu, hv⟩ := q4.get hb
                have := q5 j u hu
                rw [g0] at this
                rw [this]
                cases hv with | p _ _ hv => cases hv; rfl)
            rw [hll] at hrun
            refine ⟨_, _, by rw [g0]; exact hrun, a1, ⟨[], by simp⟩, .p _ _ (.str _ _ ?_), a3, a2, .refl _ _⟩
            simp [bytesOf, hls]
      · cases h
    · cases h
  · cases h

theorem unsafeE_sound {s d : TypeId} {x : EV} {u : Value} {v : EV} {ob : Option Bool} (h : unsafeE P H s d x = some (v, ob)) (hm : Met ob) (hh : HpOk F w regs H)
    (hx : VE (tot F regs H) w regs x u) : ∃ r, (convert s d u).run P w = .ok r w ∧ VE (tot F regs H) w regs v r := by
  unfold unsafeE at h
  split at h
  · rename_i t i off h1 h2
    split at h
    · rename_i cs ty info hi hinf
      split at h
      · rename_i hsz
        cases h
        have hb := hm.some
        simp only [decide_eq_true_eq] at hb
        cases hx with | ptr _ _ g hg =>
        obtain ⟨q1, q2, _⟩ := hh.ty i g _ hg hi
        have hpos : 0 < info.size := Nat.le_of_ble_eq_true hsz
        exact ⟨_, Lib.run_to_unsafe w ⟨g.blk, g.off + off, none⟩ h1 h2 hinf (by omega) q1 (by simp only [Blk.size]; rw [q2]; omega), .ptr _ _ g hg⟩
      · cases h
    · cases h
  · rename_i t i off h1 h2
    split at h
    · rename_i cs ty info hi hinf
      cases h
      cases hx with | ptr _ _ g hg =>
      obtain ⟨q1, q2, _⟩ := hh.ty i g _ hg hi
      simp only [Blk.size] at q1
      exact ⟨_, Lib.run_from_unsafe w ⟨g.blk, g.off + off, none⟩ h1 h2 hinf q1 (by rw [q2, Nat.zero_add]; exact hm.some), .ptr _ _ g hg⟩
    · cases h
  · cases h

end
end Go.Vc

/- VcS -/
namespace Go.Vc
set_option linter.unusedVariables false
set_option linter.unusedSimpArgs false

section
variable {P : Program} {G : Glob} {F own : Own} {w w' : World} {regs : List Reg} {H : Heap}

/-- copy into a block of the run's own. -/
theorem copy_sound {t ty e : TypeId} {ts : Array TypeId} {i off n z m : Nat} {x : EV} {ud ux : Value} {xs cs : List EV} {cty : Kd} (hd : P.underlying t = some (.slice e)) (hz : sizeT P e = some z)
    (hts : ts[0]? = some t) (hsc : sliceCells H z x = some (xs, m)) (hi : H[i]? = some (some (.cells cs cty))) (hall : allCells xs = true) (hxl : xs.length = m * z) (hcl : off + n * z ≤ cs.length) (hsoft : cty.soft = true)
    (hh : HpOk F w regs H) (hd' : VE (tot F regs H) w regs (.sl i off n z) ud) (hx : VE (tot F regs H) w regs x ux) :
    ∃ u w', (Builtin.copy_ ts ty #[ud, ux]).run P w = .ok u w' ∧
      StepOk F w regs H (.p (.int .i64 ((min m n : Nat) : Int))) (H.set i (some (.cells (setAll cs off (xs.take ((min m n) * z))) cty))) u w' regs := by
  cases hd' with | sl _ _ _ _ g a c hg ht hc ha hf =>
  obtain ⟨us, hus, hlen, hfirst⟩ := sliceCells_sound (P := P) hsc hh hx hxl
  have hul : us.length = m * z := by rw [← hus.len]; exact hxl
  have hmn : min m n * z ≤ m * z := Nat.mul_le_mul_right _ (Nat.min_le_left _ _)
  have hmn2 : min m n * z ≤ n * z := Nat.mul_le_mul_right _ (Nat.min_le_right _ _)
  have htake : VEs (tot F regs H) w regs (xs.take (min m n * z)) (us.take (min m n * z)) := hus.take _
  have hall' : ∀ u ∈ us.take (min m n * z), u.oneCell' = true := fun u hu => allCells_mem hall hus u (List.mem_of_mem_take hu)
  obtain ⟨b1, b2, b3, b4⟩ := HpOk.write (xs.take (min m n * z)) (us.take (min m n * z)) w H cs cty off i g hh hi hg (by simp; omega) htake
  obtain ⟨hc1, hc2⟩ := setCells_frozen_ok (off := off) (n := min m n * z) hh hi hg (by omega) hsoft
  have hst : (storeCells a (us.take (min m n * z))).run P w = .ok () (w.setCells g.blk (g.off + off) (us.take (min m n * z))) := by
    rcases Nat.eq_zero_or_pos (min m n * z) with h0 | h0
    · rw [h0]; rfl
    · have hn : 0 < n := by
        rcases Nat.eq_zero_or_pos n with h1 | h1
        · subst h1; simp at h0
        · exact h1
      rw [ha (.inr hn)]
      have := run_storeCells_cells (P := P) g.blk (g.off + off) (us.take (min m n * z)) 0 w (fun j hj => by simpa using hc1 j (by simp at hj; omega))
        (fun j hj => by simpa using hc2 j (by simp at hj; omega)) hall'
      simpa using this
  refine ⟨.int .i64 ((min m n : Nat) : Int), _, ?_, b1, ⟨[], by simp⟩, .p _ _ (.int _ _), b4, b2, b3⟩
  have hff := hfirst (min m n) w (Nat.min_le_left _ _) rfl
  have hts' : ts[0]? = some t := hts
  simp only [Builtin.copy_, List.getElem?_toArray, List.getElem?_cons_zero, List.getElem?_cons_succ, hts']
  simp only [Sem.run_bind, und_of hd, Result.andThen_ok, hlen, size_of hz]
  have e : Nat.min m n = min m n := rfl
  rw [e]
  simp only [hff, Result.andThen_ok, Sem.run_bind, hst, Sem.run_pure]
  rfl

theorem isSl_val {x : EV} {u : Value} (h : isSl x = true) (hx : VE own w regs x u) : ∃ a n c, u = .slice a n c := by
  unfold isSl at h
  split at h
  · cases hx with | p _ _ hx => cases hx; exact ⟨_, _, _, rfl⟩
  · cases hx with | p _ _ hx => cases hx; exact ⟨_, _, _, rfl⟩
  · cases hx; exact ⟨_, _, _, rfl⟩
  · cases h

theorem alloc_sound {t : TypeId} {z : List PV} (hz : zeroE P t = some z) (hh : HpOk F w regs H) :
    ∃ u w' regs', (Instr.alloc t true (.tuple #[])).run P w = .ok u w' ∧ StepOk F w regs H (.ptr H.length 0) (H ++ [some (.cells (z.map pe) (.obj t))]) u w' regs' := by
  obtain ⟨zv, hzr, hzs, _⟩ := zeroE_sound (P := P) (own := tot F regs H) (w := w) hz
  refine ⟨_, _, _, ?_, StepOk.newVar hh (C := zv.cells) (e := t) (w' := { w with heap := w.heap.push (.cells zv.cells t) }) rfl (VEs.of_pe hzs)⟩
  simp only [Instr.alloc, Sem.run_bind, hzr, Result.andThen_ok, newVar, newRow, runObj, Sem.run_pure]

theorem box_sound {t : TypeId} {x : EV} {u : Value} (hall : allCells (ecells x) = true) (hx : VE (tot F regs H) w regs x u) (hh : HpOk F w regs H) :
    ∃ r w' regs', (Instr.box t u).run P w = .ok r w' ∧ StepOk F w regs H (.ptr H.length 0) (H ++ [some (.cells (ecells x) (.obj t))]) r w' regs' := by
  refine ⟨_, _, _, ?_, StepOk.newVar hh (C := u.cells) (e := t) (w' := { w with heap := w.heap.push (.cells u.cells t) }) rfl (ecells_sound hall hx)⟩
  simp only [Instr.box, Sem.run_bind, newVar, newRow, runObj, Result.andThen_ok, Sem.run_pure]

/-- What an operation on memory does in the model. -/
theorem memE_sound {fr : Fr} {a : Act} {o : Oper} {dec : Bool} {v : EV} {H' : Heap} {ob : Option Bool} (h : memE P G fr H o dec = some (v, H', ob)) (hm : Met ob)
    (hh : HpOk F w regs H) (hG : GlOk G (tot F regs H) w) (hf : FrOk (tot F regs H) w regs fr a) :
    ∃ r u w' regs', (execOp a.eval o).run P w = .ok r w' ∧ (r = .value u ∨ (r = .skip ∧ u = undef)) ∧ StepOk F w regs H v H' u w' regs' := by
  have S := fun x => opnd_sound hf x
  have lift : ∀ {s : Sem Value} {v : EV} {H' : Heap}, (∃ u w' regs', s.run P w = .ok u w' ∧ StepOk F w regs H v H' u w' regs') →
      ∃ r u w' regs', (do pure (Next.value (← s)) : Sem Next).run P w = .ok r w' ∧ (r = .value u ∨ (r = .skip ∧ u = undef)) ∧ StepOk F w regs H v H' u w' regs' := by
    rintro s v H' ⟨u, w', regs', hr, hs⟩
    exact ⟨_, u, w', regs', by rw [Sem.run_bind, hr]; rfl, .inl rfl, hs⟩
  have gives : ∀ {s : Sem Value} {v : EV}, Gives P (tot F regs H) w regs s v → ∃ u w' regs', s.run P w = .ok u w' ∧ StepOk F w regs H v H u w' regs' := by
    rintro s v ⟨u, hr, hv⟩
    exact ⟨u, w, regs, hr, StepOk.same hh hv⟩
  unfold memE at h
  unfold execOp
  split at h <;> rename_i hop <;> simp only [hop]
  · split at h
    · rename_i v' ob' hl
      cases h
      exact lift (gives (loadE_sound hl hm hh hG (S _)))
    · cases h
  · split at h
    · rename_i H2 ob' hs
      cases h
      obtain ⟨w', hr, hst⟩ := storeE_sound hs hm hh (S _) (S _)
      exact ⟨.skip, undef, w', regs, by rw [Sem.run_bind, hr]; rfl, .inr ⟨rfl, rfl⟩, hst⟩
    · cases h
  · split at h
    · rename_i z hz
      cases h
      exact lift (alloc_sound hz hh)
    · cases h
  · split at h
    · rename_i hall
      cases h
      exact lift (box_sound hall (S _) hh)
    · cases h
  · rename_i t parts
    split at h
    · rename_i v' ob' hb
      cases h
      have e : parts.map (fun (i, x) => (i, a.eval x)) = (parts.toList.map fun (i, x) => (i, a.eval x)).toArray := by apply Array.toList_inj.1; simp
      rw [e]
      exact lift (gives (buildE_sound hb (parts_ok hf parts.toList)))
    · cases h
  · rename_i t len parts
    split at h
    · rename_i e hd
      split at h
      · rename_i n z hn hz
        split at h
        · rename_i cs hfill
          split at h
          · rename_i h1 h2
            cases h
            have e' : parts.map (fun (i, x) => (i, a.eval x)) = (parts.toList.map fun (i, x) => (i, a.eval x)).toArray := by apply Array.toList_inj.1; simp
            rw [e']
            exact lift (buildSlice_sound hd hn hz hfill (Nat.eq_of_beq_eq_true h1) (Nat.le_of_ble_eq_true h2) hh (parts_ok hf parts.toList))
          · cases h
        · cases h
      · cases h
    · cases h
  · rename_i t l c
    split at h
    · rename_i e k len k' cap hd hl hc
      split at h
      · rename_i info z hi hz
        split at h
        · rename_i hzl
          cases h
          have hb := hm.some
          simp only [Bool.and_eq_true, decide_eq_true_eq] at hb
          have h1 := S l
          have h2 := S c
          rw [hl] at h1
          rw [hc] at h2
          generalize a.eval l = ul at *
          generalize a.eval c = uc at *
          cases h1 with | p _ _ h1 =>
          cases h1
          cases h2 with | p _ _ h2 =>
          cases h2
          have hkd : makeKd l c e = .any ∨ (makeKd l c e = .obj e ∧ len = cap) := by
            unfold makeKd
            split
            · rename_i p q
              split
              · rename_i hpq
                have : p = q := Nat.eq_of_beq_eq_true hpq
                subst this
                rw [hl] at hc
                cases hc
                exact .inr ⟨rfl, rfl⟩
              · exact .inl rfl
            · exact .inl rfl
          clear hl hc
          exact lift (makeSlice_sound hd hi hz (Nat.eq_of_beq_eq_true hzl) hb.1.1.1 hb.1.1.2 hb.1.2 hb.2 hh hkd)
        · cases h
      · cases h
    · cases h
  · rename_i s d x
    split at h
    · rename_i e b h1 h2 hx
      split at h
      · rename_i he
        cases h
        have hb := hm.some
        simp only [decide_eq_true_eq] at hb
        have hxx := S x
        rw [hx] at hxx
        generalize a.eval x = ux at *
        cases hxx with | p _ _ hxx =>
        cases hxx with | str _ bs hbs =>
        subst hbs
        obtain ⟨u, w', regs', hr, hst⟩ := stringToBytes_sound (P := P) (e := e) (by simpa using hb) hh
        refine lift ⟨u, w', regs', ?_, hst⟩
        simp only [convert, Sem.run_bind, und_of h1, und_of h2, Result.andThen_ok, und_of he]
        exact hr
      · cases h
    · rename_i e h1 h2
      split at h
      · rename_i cs n he hsc
        split at h
        · rename_i l hl
          cases h
          have hb := hm.some
          simp only [decide_eq_true_eq] at hb
          have hxx := S x
          split at hsc
          · rename_i hsl
            obtain ⟨a', n', c', hu⟩ := isSl_val hsl hxx
            obtain ⟨b, hr, hbs⟩ := bytesToString_sound (P := P) (z := 1) hsc hl hh hxx hb (fun s hs => by rw [hu] at hs; cases hs)
            refine lift ⟨.string b, w, regs, ?_, StepOk.same hh (.p _ _ (.str _ _ hbs))⟩
            rw [hu] at hr ⊢
            simp only [convert, Sem.run_bind, und_of h1, und_of h2, Result.andThen_ok, und_of he]
            exact hr
          · cases hsc
        · cases h
      · cases h
    · split at h
      · rename_i v' ob' hu
        cases h
        obtain ⟨r, hr, hv⟩ := unsafeE_sound hu hm hh (S x)
        exact lift ⟨r, w, regs, hr, StepOk.same hh hv⟩
      · cases h
  · rename_i t x lo hi mx
    split at h
    · rename_i v' ob' hs
      cases h
      refine lift (gives (sliceA_sound hs hm hh (S x) ?_ ?_ ?_ ?_ ?_))
      · intro e he
        cases lo with
        | none => cases he
        | some y => cases he; exact ⟨_, rfl, S y⟩
      · intro he
        cases lo with
        | none => rfl
        | some y => cases he
      · intro e he
        cases hi with
        | none => cases he
        | some y => cases he; exact ⟨_, rfl, S y⟩
      · intro he
        cases hi with
        | none => rfl
        | some y => cases he
      · intro he
        cases mx with
        | none => rfl
        | some y => cases he
    · cases h
  · rename_i t x
    split at h
    · rename_i s hd hx
      cases h
      have hxx := S x
      rw [hx] at hxx
      generalize a.eval x = ux at *
      cases hxx with | p _ _ hxx =>
      cases hxx with | str _ bs hbs =>
      subst hbs
      exact lift (range_sound hd hh)
    · cases h
  · rename_i x
    split at h
    · rename_i i hx
      split at h
      · rename_i s pos hi
        have hxx := S x
        rw [hx] at hxx
        split at h
        · cases h
          have hb := hm.some
          simp only [decide_eq_true_eq] at hb
          exact lift (next_true hi hh hxx hb)
        · cases h
          have hb := hm.some
          simp only [decide_eq_true_eq] at hb
          exact lift ⟨_, w, regs, next_false hi hh hxx hb, StepOk.same hh (.tup _ _ (.cons _ _ _ _ (.kb _) .nil))⟩
      · cases h
    · cases h
  · rename_i as_ ts
    split at h
    · rename_i s x t t2 hxs hts
      have e1 : as_ = #[s, x] := by apply Array.toList_inj.1; simpa using hxs
      have e2 : ts = #[t, t2] := by apply Array.toList_inj.1; simpa using hts
      subst e1; subst e2
      have run : ∀ {d2 : TypeDesc}, P.underlying t2 = some d2 → notInt d2 → appendE P H t (opnd fr s) (opnd fr x) = some (v, H', ob) →
          ∃ r u w' regs', ((do let d ← resolve a.eval { callee := .builtin .append, args := #[s, x], argTypes := #[t, t2] } o.type; invoke d.target d.args) : Sem Next).run P w = .ok r w' ∧
            (r = .value u ∨ (r = .skip ∧ u = undef)) ∧ StepOk F w regs H v H' u w' regs' := by
        intro d2 hd2 hni h
        obtain ⟨u, w', regs', hr, hst⟩ := appendE_sound (ty := o.type) h hm hd2 hni hh (S s) (S x)
        refine ⟨_, u, w', regs', ?_, .inl rfl, hst⟩
        simp only [resolve, Sem.run_bind, Sem.run_pure, Result.andThen_ok, invoke, builtin, List.map_toArray, List.map_cons, List.map_nil]
        rw [hr]; rfl
      have runB : ∀ {d2 : TypeDesc} {i n z : Nat}, P.underlying t2 = some d2 → notInt d2 → opnd fr s = .nsl i n z → appendB P H t (.nsl i n z) (opnd fr x) = some (v, H', ob) →
          ∃ r u w' regs', ((do let d ← resolve a.eval { callee := .builtin .append, args := #[s, x], argTypes := #[t, t2] } o.type; invoke d.target d.args) : Sem Next).run P w = .ok r w' ∧
            (r = .value u ∨ (r = .skip ∧ u = undef)) ∧ StepOk F w regs H v H' u w' regs' := by
        intro d2 i n z hd2 hni hs h
        obtain ⟨u, w', regs', hr, hst⟩ := appendB_sound (ty := o.type) h hm hd2 hni hh (by have := S s; rwa [hs] at this) (S x)
        refine ⟨_, u, w', regs', ?_, .inl rfl, hst⟩
        simp only [resolve, Sem.run_bind, Sem.run_pure, Result.andThen_ok, invoke, builtin, List.map_toArray, List.map_cons, List.map_nil]
        rw [hr]; rfl
      have runN : ∀ {d2 : TypeDesc}, P.underlying t2 = some d2 → notInt d2 → appendN P H t (opnd fr s) (opnd fr x) = some (v, H', ob) →
          ∃ r u w' regs', ((do let d ← resolve a.eval { callee := .builtin .append, args := #[s, x], argTypes := #[t, t2] } o.type; invoke d.target d.args) : Sem Next).run P w = .ok r w' ∧
            (r = .value u ∨ (r = .skip ∧ u = undef)) ∧ StepOk F w regs H v H' u w' regs' := by
        intro d2 hd2 hni h
        obtain ⟨u, w', regs', hr, hst⟩ := appendN_sound (ty := o.type) h hm hd2 hni hh (S s) (S x)
        refine ⟨_, u, w', regs', ?_, .inl rfl, hst⟩
        simp only [resolve, Sem.run_bind, Sem.run_pure, Result.andThen_ok, invoke, builtin, List.map_toArray, List.map_cons, List.map_nil]
        rw [hr]; rfl
      split at h
      · split at h
        · rename_i e2 i n z hd2 hs; exact runB hd2 (by intro k h; cases h) hs h
        · rename_i i n z hd2 hs; exact runB hd2 (by intro k h; cases h) hs h
        · rename_i e2 hd2 _; exact run hd2 (by intro k h; cases h) h
        · rename_i hd2 _; exact run hd2 (by intro k h; cases h) h
        · cases h
      · split at h
        · rename_i e2 hd2; exact runN hd2 (by intro k h; cases h) h
        · rename_i hd2; exact runN hd2 (by intro k h; cases h) h
        · cases h
    · cases h
  · rename_i as_ ts
    split at h
    · rename_i x hxs
      have e1 : as_ = #[x] := by apply Array.toList_inj.1; simpa using hxs
      subst e1
      split at h
      · rename_i i n z hx
        cases h
        have hxx := S x
        rw [hx] at hxx
        have hres : ∀ u' : Value, (Builtin.unsafeSliceData_ ts o.type #[a.eval x]).run P w = .ok u' w → VE (tot F regs H) w regs (.nptr i) u' →
            ∃ r u w' regs', ((do let d ← resolve a.eval { callee := .builtin .unsafeSliceData, args := #[x], argTypes := ts } o.type; invoke d.target d.args) : Sem Next).run P w = .ok r w' ∧
            (r = .value u ∨ (r = .skip ∧ u = undef)) ∧ StepOk F w regs H (.nptr i) H u w' regs' := by
          intro u' hr hv
          refine ⟨_, u', w, regs, ?_, .inl rfl, StepOk.same hh hv⟩
          simp only [resolve, Sem.run_bind, Sem.run_pure, Result.andThen_ok, invoke, builtin, List.map_toArray, List.map_cons, List.map_nil]
          rw [hr]; rfl
        generalize hu : a.eval x = ux at *
        generalize hy : EV.nsl i n z = y at hxx
        cases hxx with
        | nsln i' z' g hg ht =>
          cases hy
          exact hres _ rfl (.nptrn _ g hg ht)
        | nsl i' n' z' g c hg ht hc h0 hf =>
          cases hy
          exact hres _ (Lib.run_unsafeSliceData_row w _ _ _ _ _ (by omega)) (.nptr _ g hg ht)
        | _ => cases hy
      · rename_i i n z hx
        cases h
        have hxx := S x
        rw [hx] at hxx
        generalize hu : a.eval x = ux at *
        cases hxx with | sl _ _ _ _ g a' c hg ht hc ha hf =>
        have ha' := ha (.inl rfl)
        subst ha'
        have hrun : (Builtin.unsafeSliceData_ ts o.type #[.slice (some ⟨g.blk, g.off + 0, none⟩) n c]).run P w = .ok (.pointer (some ⟨g.blk, g.off + 0, none⟩)) w := by
          have hb := hm.some
          simp only [decide_eq_true_eq] at hb
          exact Lib.run_unsafeSliceData_row w _ _ _ _ _ (by omega)
        refine ⟨_, _, w, regs, ?_, .inl rfl, StepOk.same hh (.ptr i 0 g hg)⟩
        simp only [resolve, Sem.run_bind, Sem.run_pure, Result.andThen_ok, invoke, builtin, List.map_toArray, List.map_cons, List.map_nil, hu]
        rw [hrun]; rfl
      · cases h
    · cases h
  · rename_i as_ ts
    split at h
    · rename_i p n pt it hxs hts
      have e1 : as_ = #[p, n] := by apply Array.toList_inj.1; simpa using hxs
      have e2 : ts = #[pt, it] := by apply Array.toList_inj.1; simpa using hts
      subst e1; subst e2
      split at h
      · rename_i v' ob' hu
        cases h
        obtain ⟨u, w', hr, hst⟩ := ustrE_sound (it := it) (ty := o.type) hu hm hh (S p) (S n)
        refine ⟨_, u, w', regs, ?_, .inl rfl, hst⟩
        simp only [resolve, Sem.run_bind, Sem.run_pure, Result.andThen_ok, invoke, builtin, List.map_toArray, List.map_cons, List.map_nil]
        rw [hr]; rfl
      · obtain ⟨u, w', hr, hst⟩ := ustrC_sound (it := it) (ty := o.type) h hm hh (S p) (S n)
        refine ⟨_, u, w', regs, ?_, .inl rfl, hst⟩
        simp only [resolve, Sem.run_bind, Sem.run_pure, Result.andThen_ok, invoke, builtin, List.map_toArray, List.map_cons, List.map_nil]
        rw [hr]; rfl
    · cases h
  · rename_i as_ ts
    split at h
    · rename_i d x t tr hxs hts
      have e1 : as_ = #[d, x] := by apply Array.toList_inj.1; simpa using hxs
      subst e1
      have e2 : ts[0]? = some t := by rw [← Array.getElem?_toList, hts]; rfl
      split at h
      · rename_i e i n z hd hdx
        split at h
        · rename_i z' hz hxx
          cases h
          have hdd := S d
          rw [hdx] at hdd
          have hx2 := S x
          rw [hxx] at hx2
          have go : ∀ (b : Option Addr) (k c : Nat) , a.eval d = .slice b k c → a.eval x = .slice none 0 0 →
              ∃ r u w' regs', ((do let d ← resolve a.eval { callee := .builtin .copy, args := #[d, x], argTypes := ts } o.type; invoke d.target d.args) : Sem Next).run P w = .ok r w' ∧
              (r = .value u ∨ (r = .skip ∧ u = undef)) ∧ StepOk F w regs H (.p (.int .i64 0)) H u w' regs' := by
            intro b k c e1 e3
            refine ⟨.value (.int .i64 0), .int .i64 0, w, regs, ?_, .inl rfl, StepOk.same hh (.p _ _ (.int _ _))⟩
            simp only [resolve, Sem.run_bind, Sem.run_pure, Result.andThen_ok, invoke, builtin, List.map_toArray, List.map_cons, List.map_nil, e1, e3]
            simp [Builtin.copy_, e2, und_of hd, size_of hz, Builtin.lenOf, Builtin.firstCells, goInt]
            cases b <;> rfl
          generalize hud : a.eval d = ud at *
          generalize hux : a.eval x = ux at *
          cases hx2 with | p _ _ hx2 =>
          cases hx2
          generalize hyy : EV.nsl i n z = y at hdd
          cases hdd with
          | nsln => exact go _ _ _ rfl rfl
          | nsl => exact go _ _ _ rfl rfl
          | _ => cases hyy
        · cases h
      · rename_i e i off n z hd hdx
        split at h
        · rename_i z' xs m cs cty hz hsc hi
          split at h
          · rename_i hzz hall hsoft
            cases h
            have hb := hm.some
            simp only [Bool.and_eq_true, decide_eq_true_eq] at hb
            have : z = z' := Nat.eq_of_beq_eq_true hzz
            subst this
            have hdd := S d
            rw [hdx] at hdd
            obtain ⟨u, w', hr, hst⟩ := copy_sound (ty := o.type) hd hz e2 hsc hi hall hb.1 hb.2 hsoft hh hdd (S x)
            refine ⟨_, u, w', regs, ?_, .inl rfl, hst⟩
            simp only [resolve, Sem.run_bind, Sem.run_pure, Result.andThen_ok, invoke, builtin, List.map_toArray, List.map_cons, List.map_nil]
            rw [hr]; rfl
          · cases h
        · cases h
      · cases h
    · cases h
  · cases h

end
end Go.Vc

/- VcT -/
namespace Go.Vc
set_option linter.unusedVariables false
set_option linter.unusedSimpArgs false

inductive Ex where
  | normal
  | exit (id : Nat)
  | goto (l : Nat)
  | ret
  deriving Inhabited

def Ex.to : Ex → Exit
  | .normal => .normal
  | .exit id => .exit id
  | .goto l => .goto l
  | .ret => .ret

/-- The run's frame and heap stand for an activation in a world. -/
structure St (G : Glob) (F : Own) (w : World) (regs : List Reg) (H : Heap) (fr : Fr) (a : Act) (nt : Nat) : Prop where
  hp : HpOk F w regs H
  gl : GlOk G (tot F regs H) w
  fr : FrOk (tot F regs H) w regs fr a
  sz : a.tmps.size = nt

/-- What has become of the world, seen by whoever knows the first blocks alone. -/
structure Past (B : Nat) (F : Own) (w : World) (regs : List Reg) (H : Heap) (w' : World) (regs' : List Reg) (H' : Heap) : Prop where
  mv : Moves (tot F regs H) w (regs.take B) (tot F regs' H') w' (regs'.take B)
  kp : Keeps (owned regs H) w w'
  gr : Grow w (owned regs H) (owned regs' H')

section
variable {P : Program} {G : Glob} {F : Own} {w w' w'' : World} {regs regs' regs'' : List Reg} {H H' H'' : Heap} {B : Nat}

theorem Past.refl : Past B F w regs H w regs H := ⟨Moves.shrink fun _ _ h => h, .refl _ _, .refl _ _⟩
theorem Past.trans (h : Past B F w regs H w' regs' H') (h' : Past B F w' regs' H' w'' regs'' H'') : Past B F w regs H w'' regs'' H'' :=
  ⟨h.mv.trans h'.mv, h.kp.trans h.gr h'.kp, h.gr.trans h.kp.size h'.gr⟩

theorem take_get {B i : Nat} {g : Reg} : (regs.take B)[i]? = some g ↔ regs[i]? = some g ∧ i < B := by
  rw [List.getElem?_take]
  split
  · simp_all
  · simp_all

theorem Past.of_step {v : EV} {u : Value} (h : StepOk F w regs H v H' u w' regs') : Past B F w regs H w' regs' H' :=
  ⟨⟨h.mv.cell, h.mv.size, h.mv.shape, fun i g hi => by
    obtain ⟨h1, h2⟩ := take_get.1 hi
    exact take_get.2 ⟨h.mv.regs i g h1, h2⟩⟩, h.kp, h.gr⟩

/-- A piece of code goes from one state of the run to another. -/
def CC (P : Program) (G : Glob) (nt B : Nat) (fr : Fr) (H : Heap) (c : Code) (ex : Ex) (fr' : Fr) (H' : Heap) : Prop :=
  ∀ F regs w a, St G F w regs H fr a nt → B ≤ H.length → Code.wp P c (fun e a' w' => e = ex.to ∧ a'.defers = a.defers ∧ B ≤ H'.length ∧ ∃ regs', St G F w' regs' H' fr' a' nt ∧ Past B F w regs H w' regs' H') a w

/-- A function called on arguments returns a value, and leaves the heap so. -/
def RC (P : Program) (G : Glob) (f : FuncId) (args : List EV) (H : Heap) (ret : EV) (H' : Heap) : Prop :=
  ∀ F regs w vs, HpOk F w regs H → GlOk G (tot F regs H) w → VEs (tot F regs H) w regs args vs →
    Calls P f vs.toArray w fun e w' => ∃ u, e = .returned u ∧ ∃ regs', StepOk F w regs H ret H' u w' regs'

/-! ### frames -/

def fput (fr : Fr) (d : Option Nat) (v : EV) : Fr :=
  match d with
  | some d => (d, v) :: fr
  | none => fr

theorem FrOk.put {own : Own} {fr : Fr} {a : Act} {d : Option Nat} {v : EV} {u : Value} {nt : Nat} (hf : FrOk own w regs fr a) (hv : VE own w regs v u) (hs : a.tmps.size = nt)
    (hd : ∀ k, d = some k → k < nt) : FrOk own w regs (fput fr d v) (a.put d u) := by
  cases d with
  | none => exact hf
  | some k =>
    intro t
    have hk : k < a.tmps.size := by rw [hs]; exact hd k rfl
    simp only [fput, Act.put, fget]
    cases hb : Nat.beq k t with
    | true =>
      have : k = t := Nat.eq_of_beq_eq_true hb
      subst this
      simp [Array.getD, hk]
      exact hv
    | false =>
      have hne : k ≠ t := Nat.ne_of_beq_eq_false hb
      have e : (a.tmps.setIfInBounds k u).getD t undef = a.tmps.getD t undef := by
        simp [Array.getD_eq_getD_getElem?, Array.getElem?_setIfInBounds, hne]
      rw [e]
      exact hf t

theorem put_size (a : Act) (d : Option Nat) (u : Value) : (a.put d u).tmps.size = a.tmps.size := by cases d <;> simp [Act.put]
theorem put_defers (a : Act) (d : Option Nat) (u : Value) : (a.put d u).defers = a.defers := by cases d <;> rfl

/-! ### a loop, round by round -/

/-- From a round's head: the code arrives. -/
def LC (P : Program) (G : Glob) (nt B : Nat) (fr : Fr) (H : Heap) (c : Code) (ex : Ex) (fr' : Fr) (H' : Heap) : Prop :=
  ∀ F regs w a, St G F w regs H fr a nt → B ≤ H.length → ∀ (b : Frame) (k : List Item) (cs : List Frame),
    ∃ e a' w', (e = ex.to ∧ a'.defers = a.defers ∧ B ≤ H'.length ∧ ∃ regs', St G F w' regs' H' fr' a' nt ∧ Past B F w regs H w' regs' H') ∧
      Arrives P (lone (b.at a (.code c :: .inLoop c :: k)) cs w) b k cs e a' w'

theorem LC.last {nt : Nat} {fr fr' : Fr} {c : Code} {ex : Ex} (h : CC P G nt B fr H c ex fr' H') (hex : ex ≠ .normal) : LC P G nt B fr H c ex fr' H' := by
  intro F regs w a hs hB b k cs
  obtain ⟨e, a', w', hq, harr⟩ := h F regs w a hs hB b (.inLoop c :: k) cs
  refine ⟨e, a', w', hq, .pass (x := .inLoop c) rfl (fun _ _ => .inl ?_) harr⟩
  rw [hq.1]
  cases ex <;> simp [Ex.to] at hex ⊢

theorem LC.next {nt : Nat} {fr fr1 fr' : Fr} {H1 : Heap} {c : Code} {ex : Ex} (h : CC P G nt B fr H c .normal fr1 H1) (h' : LC P G nt B fr1 H1 c ex fr' H') : LC P G nt B fr H c ex fr' H' := by
  intro F regs w a hs hB b k cs
  obtain ⟨e, a1, w1, ⟨he, hd, hB1, regs1, hs1, hp1⟩, harr⟩ := h F regs w a hs hB b (.inLoop c :: k) cs
  obtain ⟨e2, a2, w2, ⟨he2, hd2, hB2, regs2, hs2, hp2⟩, harr2⟩ := h' F regs1 w1 a1 hs1 hB1 b k cs
  refine ⟨e2, a2, w2, ⟨he2, hd2.trans hd, hB2, regs2, hs2, hp1.trans hp2⟩, ?_⟩
  subst he
  exact .of_steps (Steps.trans harr (.one step_inLoop)) harr2

theorem CC.loop {nt : Nat} {fr fr' : Fr} {c : Code} {ex : Ex} (h : LC P G nt B fr H c ex fr' H') : CC P G nt B fr H (.loop c) ex fr' H' := by
  intro F regs w a hs hB b k cs
  obtain ⟨e, a', w', hq, harr⟩ := h F regs w a hs hB b k cs
  exact ⟨e, a', w', hq, .of_steps (.one step_loop) harr⟩

theorem CC.seq {nt : Nat} {fr fr1 fr' : Fr} {H1 : Heap} {c d : Code} {ex : Ex} (h : CC P G nt B fr H c .normal fr1 H1) (h' : CC P G nt B fr1 H1 d ex fr' H') : CC P G nt B fr H (.seq c d) ex fr' H' := by
  intro F regs w a hs hB
  refine wp_seq (wp_mono (h F regs w a hs hB) ?_)
  rintro e a1 w1 ⟨rfl, hd, hB1, regs1, hs1, hp1⟩
  show Code.wp P d _ a1 w1
  refine wp_mono (h' F regs1 w1 a1 hs1 hB1) ?_
  rintro e a2 w2 ⟨he2, hd2, hB2, regs2, hs2, hp2⟩
  exact ⟨he2, hd2.trans hd, hB2, regs2, hs2, hp1.trans hp2⟩

theorem CC.seq_out {nt : Nat} {fr fr' : Fr} {c d : Code} {ex : Ex} (h : CC P G nt B fr H c ex fr' H') (hex : ex ≠ .normal) : CC P G nt B fr H (.seq c d) ex fr' H' := by
  intro F regs w a hs hB
  refine wp_seq (wp_mono (h F regs w a hs hB) ?_)
  rintro e a1 w1 ⟨rfl, hp⟩
  cases ex with
  | normal => exact absurd rfl hex
  | exit id => exact ⟨rfl, hp⟩
  | goto l => exact ⟨rfl, hp⟩
  | ret => exact ⟨rfl, hp⟩

theorem CC.cond {nt : Nat} {fr fr' : Fr} {x : Operand} {c d : Code} {ex : Ex} (b : Bool) (hx : asB (opnd fr x) = some b) (h : CC P G nt B fr H (if b then c else d) ex fr' H') :
    CC P G nt B fr H (.cond x c d) ex fr' H' := by
  intro F regs w a hs hB
  have := asB_sound hx (opnd_sound hs.fr x)
  exact wp_cond this (h F regs w a hs hB)

theorem CC.block {nt : Nat} {fr fr' : Fr} {id : Nat} {c : Code} {ex ex' : Ex} (h : CC P G nt B fr H c ex fr' H')
    (hex : (ex = .normal ∧ ex' = .normal) ∨ (ex = .exit id ∧ ex' = .normal) ∨ (ex' = ex ∧ ex ≠ .exit id)) : CC P G nt B fr H (.block id c) ex' fr' H' := by
  intro F regs w a hs hB
  refine wp_block (wp_mono (h F regs w a hs hB) ?_)
  rintro e a1 w1 ⟨rfl, hp⟩
  rcases hex with ⟨rfl, rfl⟩ | ⟨rfl, rfl⟩ | ⟨rfl, hne⟩
  · exact ⟨rfl, hp⟩
  · simp only [Ex.to, Exit.inBlock, if_true, true_and]; exact hp
  · cases ex' with
    | normal => exact ⟨rfl, hp⟩
    | exit i =>
      have : i ≠ id := fun e => hne (by rw [e])
      simp only [Ex.to, Exit.inBlock, if_neg this, true_and]
      exact hp
    | goto l => exact ⟨rfl, hp⟩
    | ret => exact ⟨rfl, hp⟩

end
end Go.Vc

/- VcY -/
namespace Go.Vc
set_option linter.unusedVariables false
set_option linter.unusedSimpArgs false

mutual
/-- A row of the heap that is written no more is a list. -/
def listE (i : Nat) (ps : List PV) : EV → EV
  | .p x => .p x
  | .kb b => .kb b
  | .ptr j off => match Nat.beq i j with
    | true => .p (.elem ps off)
    | false => .ptr j off
  | .sl j off len z => match Nat.beq i j with
    | true => match Nat.ble (off + len * z) ps.length with
      | true => .p (.lst len (cutP ps off (len * z)))
      | false => .und
    | false => .sl j off len z
  | .agg es => mkAgg (listEs i ps es)
  | .tup es => .tup (listEs i ps es)
  | .iface t v => match listE i ps v with
    | .p x => .p (.iface t x)
    | v' => .iface t v'
  | .clo fn a b => .clo fn (listEs i ps a) (listEs i ps b)
  | .it j => match Nat.beq i j with
    | true => .und
    | false => .it j
  | .nsl j n z => match Nat.beq i j with
    | true => .und
    | false => .nsl j n z
  | .nptr j => match Nat.beq i j with
    | true => .und
    | false => .nptr j
  | .mptr j off => .mptr j off
  | .raw j n => match Nat.beq i j with
    | true => .und
    | false => .raw j n
  | .und => .und
def listEs (i : Nat) (ps : List PV) : List EV → List EV
  | [] => []
  | v :: vs => listE i ps v :: listEs i ps vs
end

def listB (i : Nat) (ps : List PV) : Option Blk → Option Blk
  | some (.cells cs ty) => some (.cells (listEs i ps cs) ty)
  | b => b

def listF (i : Nat) (ps : List PV) : Fr → Fr
  | [] => []
  | (k, v) :: r => (k, listE i ps v) :: listF i ps r

mutual
/-- Blocks are renumbered. -/
def renE (s : Nat → Option Nat) : EV → EV
  | .p x => .p x
  | .kb b => .kb b
  | .ptr j off => match s j with
    | some k => .ptr k off
    | none => .und
  | .sl j off len z => match s j with
    | some k => .sl k off len z
    | none => .und
  | .agg es => .agg (renEs s es)
  | .tup es => .tup (renEs s es)
  | .iface t v => .iface t (renE s v)
  | .clo fn a b => .clo fn (renEs s a) (renEs s b)
  | .it j => match s j with
    | some k => .it k
    | none => .und
  | .nsl j n z => match s j with
    | some k => .nsl k n z
    | none => .und
  | .nptr j => match s j with
    | some k => .nptr k
    | none => .und
  | .mptr j off => match s j with
    | some k => .mptr k off
    | none => .und
  | .raw j n => match s j with
    | some k => .raw k n
    | none => .und
  | .und => .und
def renEs (s : Nat → Option Nat) : List EV → List EV
  | [] => []
  | v :: vs => renE s v :: renEs s vs
end

def renB (s : Nat → Option Nat) : Option Blk → Option Blk
  | some (.cells cs ty) => some (.cells (renEs s cs) ty)
  | b => b

def renF (s : Nat → Option Nat) : Fr → Fr
  | [] => []
  | (k, v) :: r => (k, renE s v) :: renF s r

section
variable {P : Program} {G : Glob} {F own own' : Own} {w w' : World} {regs regs' : List Reg} {H H' : Heap}

mutual
theorem VE.ren (s : Nat → Option Nat) (hs : ∀ i j g, s i = some j → regs[i]? = some g → regs'[j]? = some g) {v : EV} {u : Value} (h : VE own w regs v u) : VE own w regs' (renE s v) u := by
  cases h with
  | p x _ h => exact .p x _ h
  | kb => exact .kb _
  | ptr i off g hg =>
    simp only [renE]
    split
    · rename_i k hk; exact .ptr k off g (hs _ _ _ hk hg)
    · exact .und _
  | sl i off len esz g a c hg ht hc ha hf =>
    simp only [renE]
    split
    · rename_i k hk; exact .sl k off len esz g a c (hs _ _ _ hk hg) ht hc ha hf
    · exact .und _
  | agg es us h => exact .agg _ us (VEs.ren s hs h)
  | tup es us h => exact .tup _ us (VEs.ren s hs h)
  | iface t x u h => exact .iface t _ u (VE.ren s hs h)
  | clo fn fs cs us vs hf hc => exact .clo fn _ _ us vs (VEs.ren s hs hf) (VEs.ren s hs hc)
  | it i g hg =>
    simp only [renE]
    split
    · rename_i k hk; exact .it k g (hs _ _ _ hk hg)
    · exact .und _
  | nsln i z g hg ht =>
    simp only [renE]
    split
    · rename_i k hk; exact .nsln k z g (hs _ _ _ hk hg) ht
    · exact .und _
  | nsl i len z g c hg ht hc h0 hf =>
    simp only [renE]
    split
    · rename_i k hk; exact .nsl k len z g c (hs _ _ _ hk hg) ht hc h0 hf
    · exact .und _
  | nptrn i g hg ht =>
    simp only [renE]
    split
    · rename_i k hk; exact .nptrn k g (hs _ _ _ hk hg) ht
    · exact .und _
  | nptr i g hg ht =>
    simp only [renE]
    split
    · rename_i k hk; exact .nptr k g (hs _ _ _ hk hg) ht
    · exact .und _
  | mptrn i off =>
    simp only [renE]
    split
    · rename_i k hk; exact .mptrn k off
    · exact .und _
  | mptr i off g hg =>
    simp only [renE]
    split
    · rename_i k hk; exact .mptr k off g (hs _ _ _ hk hg)
    · exact .und _
  | raw i n g c hg ht hc hf =>
    simp only [renE]
    split
    · rename_i k hk; exact .raw k n g c (hs _ _ _ hk hg) ht hc hf
    · exact .und _
  | und => exact .und _
theorem VEs.ren (s : Nat → Option Nat) (hs : ∀ i j g, s i = some j → regs[i]? = some g → regs'[j]? = some g) {vs : List EV} {us : List Value} (h : VEs own w regs vs us) :
    VEs own w regs' (renEs s vs) us := by
  cases h with
  | nil => exact .nil
  | cons x u es us h ht => exact .cons _ u _ us (VE.ren s hs h) (VEs.ren s hs ht)
end

theorem FrOk.ren (s : Nat → Option Nat) (hs : ∀ i j g, s i = some j → regs[i]? = some g → regs'[j]? = some g) {fr : Fr} {a : Act} (h : FrOk own w regs fr a) : FrOk own w regs' (renF s fr) a := by
  intro t
  have key : ∀ (fr : Fr), fget (renF s fr) t = renE s (fget fr t) := by
    intro fr
    induction fr with
    | nil => rfl
    | cons p fr ih =>
      obtain ⟨k, v⟩ := p
      simp only [renF, fget]
      cases Nat.beq k t with
      | true => rfl
      | false => exact ih
  rw [key]
  exact (h t).ren s hs

mutual
theorem VE.list {i : Nat} {g : Reg} {ps : List PV} {us : List Value} (hg : regs[i]? = some g) (hps : VPs own' w ps us) (hl : g.blk < w.heap.size)
    (hc : ∀ (j : Nat) u, us[j]? = some u → w.cell? ⟨g.blk, g.off + j, none⟩ = some u ∧ ¬ own' g.blk (g.off + j)) (hsub : ∀ r x, own' r x → own r x) {v : EV} {u : Value} (h : VE own w regs v u) :
    VE own' w regs (listE i ps v) u := by
  have hm : Moves own w regs own' w regs := Moves.shrink hsub
  cases h with
  | p x _ h => exact .p x _ (h.moves hm)
  | kb => exact .kb _
  | ptr j off g' hg' =>
    simp only [listE]
    split
    · rename_i hb
      have : i = j := Nat.eq_of_beq_eq_true hb
      subst this
      rw [hg] at hg'; cases hg'
      exact .p _ _ (.elem ps off us g.blk g.off hps hl hc)
    · exact .ptr j off g' hg'
  | sl j off len esz g' a c hg' ht hcap ha hf =>
    simp only [listE]
    split
    · rename_i hb
      have : i = j := Nat.eq_of_beq_eq_true hb
      subst this
      rw [hg] at hg'; cases hg'
      split
      · rename_i hle
        have hle' := Nat.le_of_ble_eq_true hle
        refine .p _ _ (.lst len _ (some a) c ((us.drop off).take (len * esz)) (hps.cut off _) hcap (fun h0 => by subst h0; simp [cutP]) (fun hpos => ?_))
        refine ⟨g.blk, g.off + off, by rw [ha (.inr hpos)], hl, fun k u hk => ?_⟩
        have := hc _ _ (getElem?_cut hk)
        rwa [← Nat.add_assoc] at this
      · exact .und _
    · exact .sl j off len esz g' a c hg' ht hcap ha hf
  | agg es us' h => exact mkAgg_sound (VEs.list hg hps hl hc hsub h)
  | tup es us' h => exact .tup _ us' (VEs.list hg hps hl hc hsub h)
  | iface t x u h =>
    have h1 := VE.list hg hps hl hc hsub h
    simp only [listE]
    split
    · rename_i y hy; rw [hy] at h1; cases h1 with | p _ _ h1 => exact .p _ _ (.iface t y u h1)
    · exact .iface t _ u h1
  | clo fn fs cs us' vs hf hcl => exact .clo fn _ _ us' vs (VEs.list hg hps hl hc hsub hf) (VEs.list hg hps hl hc hsub hcl)
  | it j g' hg' =>
    simp only [listE]
    split
    · exact .und _
    · exact .it j g' hg'
  | nsln j z g' hg' ht' =>
    simp only [listE]
    split
    · exact .und _
    · exact .nsln j z g' hg' ht'
  | nsl j len z g' c hg' ht' hcap h0 hf =>
    simp only [listE]
    split
    · exact .und _
    · exact .nsl j len z g' c hg' ht' hcap h0 hf
  | nptrn j g' hg' ht' =>
    simp only [listE]
    split
    · exact .und _
    · exact .nptrn j g' hg' ht'
  | nptr j g' hg' ht' =>
    simp only [listE]
    split
    · exact .und _
    · exact .nptr j g' hg' ht'
  | mptrn j off => exact .mptrn j off
  | mptr j off g' hg' => exact .mptr j off g' hg'
  | raw j n g' c hg' ht' hcap hf =>
    simp only [listE]
    split
    · exact .und _
    · exact .raw j n g' c hg' ht' hcap hf
  | und => exact .und _
theorem VEs.list {i : Nat} {g : Reg} {ps : List PV} {us : List Value} (hg : regs[i]? = some g) (hps : VPs own' w ps us) (hl : g.blk < w.heap.size)
    (hc : ∀ (j : Nat) u, us[j]? = some u → w.cell? ⟨g.blk, g.off + j, none⟩ = some u ∧ ¬ own' g.blk (g.off + j)) (hsub : ∀ r x, own' r x → own r x) {vs : List EV} {uvs : List Value} (h : VEs own w regs vs uvs) :
    VEs own' w regs (listEs i ps vs) uvs := by
  cases h with
  | nil => exact .nil
  | cons x u es us' h ht => exact .cons _ u _ us' (VE.list hg hps hl hc hsub h) (VEs.list hg hps hl hc hsub ht)
end

theorem FrOk.list {i : Nat} {g : Reg} {ps : List PV} {us : List Value} (hg : regs[i]? = some g) (hps : VPs own' w ps us) (hl : g.blk < w.heap.size)
    (hc : ∀ (j : Nat) u, us[j]? = some u → w.cell? ⟨g.blk, g.off + j, none⟩ = some u ∧ ¬ own' g.blk (g.off + j)) (hsub : ∀ r x, own' r x → own r x) {fr : Fr} {a : Act} (h : FrOk own w regs fr a) :
    FrOk own' w regs (listF i ps fr) a := by
  intro t
  have key : ∀ (fr : Fr), fget (listF i ps fr) t = listE i ps (fget fr t) := by
    intro fr
    induction fr with
    | nil => rfl
    | cons p fr ih =>
      obtain ⟨k, v⟩ := p
      simp only [listF, fget]
      cases Nat.beq k t with
      | true => rfl
      | false => exact ih
  rw [key]
  exact VE.list hg hps hl hc hsub (h t)

end
end Go.Vc
