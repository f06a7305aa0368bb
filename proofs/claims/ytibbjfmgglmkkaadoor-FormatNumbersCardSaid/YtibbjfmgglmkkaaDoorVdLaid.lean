/- Own texts of the proof, put together: VdLaid. -/
import Derived.Test.YtibbjfmgglmkkaaDoorVcEl
import Derived.WalkKit
import Derived.ProofKit
import Derived.OpenShut
import Derived.SliceStrings
import Derived.Deep.DeepHandedRow
import Derived.Lib.LaidTab
import Derived.Test.YtibbjfmgglmkkaaDoorVdBase
import Derived.Test.YtibbjfmgglmkkaaDoorCards
import Derived.Test.YtibbjfmgglmkkaaDoorTie
import Derived.Deep.DeepWitnessRowRef
import Derived.Lib.LaidU8
import Derived.Deep.DeepLaidRun
/- VdClose -/
namespace Go.Vc
open Go.ChangeShapes Go.WideShapes Go.ChangeAt Go.RowKit
open Go.ChangeMaps (open_string)
set_option linter.unusedVariables false
set_option linter.unusedSimpArgs false

def F0 : Own := fun _ _ => False
def O0 : Own := tot F0 [] []

theorem O0_no (r x : Nat) : ¬ O0 r x := by
  rintro (h | ⟨i, g, b, h, _⟩)
  · exact h
  · simp at h

theorem hp0 (W : World) : HpOk F0 W [] [] :=
  ⟨rfl, fun i g b h => by simp at h, fun i j g g' b b' _ h => by simp at h, fun i g b h => by simp at h, fun r x h => h.elim, fun i g b h => by simp at h⟩

/-- What a law's function answers, and what it leaves. -/
theorem RC.law {P : Program} {G : Glob} {f : FuncId} {args : List EV} {b : Bool} {W : World} {vs : List Value} (h : RC P G f args [] (.p (.bool b)) []) (hG : GlOk G O0 W) (hv : VEs O0 W [] args vs) :
    Calls P f vs.toArray W fun e W' => e = .returned (.bool b) ∧ Keeps (fun _ _ => False) W W' := by
  refine Calls.mono (h F0 [] W vs (hp0 W) hG hv) ?_
  rintro e w' ⟨u, rfl, regs', hs⟩
  have hu := hs.val
  cases hu with | p _ _ hu =>
  cases hu
  have no : ∀ r x, ¬ owned [] [] r x := by
    rintro r x ⟨i, g, b, h, _⟩
    simp at h
  have k := hs.kp
  exact ⟨rfl, k.size, fun r x hr _ => k.cell r x hr (no r x), fun r x hr _ => k.frz r x hr (no r x), k.shape, fun r hr _ => k.obj r hr (no r), k.env⟩

section
variable {H : Type} {enc : TypeId × Value → H} {P : Program} {W W' : World} {base : Nat}

theorem keeps_but (k : Keeps (fun _ _ => False) W W') (may : MemPlace → Prop) : W.keptBut W' may := by
  refine ⟨k.env.1, k.env.2, fun i hi => ?_⟩
  rw [k.obj i hi (fun x => id)]
  cases W.heap[i]? with
  | none => rfl
  | some o => cases o <;> first | rfl | exact .inr ⟨rfl, rfl⟩ | exact ⟨rfl, rfl, rfl, fun _ _ => rfl⟩

theorem keeps_same (k : Keeps (fun _ _ => False) W W') {p : MemPlace} (hp : p.block < W.heap.size) : W.sameAt W' p := by
  cases p with
  | cell b o => exact World.cell?_of_block (w := W) (k.obj b hp (fun x => id))
  | map b => exact k.obj b hp (fun x => id)

theorem keeps_trod {t : TypeId} (hl : laidOutB P = true) (hr : P.readableRec t = true) (hrow : t < P.types.size) {v : Value} {d : DataW H} {ps : List MemPlace}
    (h : DataW.Trod enc P W 0 (fun _ => true) true t v d ps) (k : Keeps (fun _ _ => False) W W') (hlt : ∀ x ∈ ps, x.block < W.heap.size) :
    DataW.Trod enc P W' 0 (fun b => decide (b < W.heap.size)) true t v d ps :=
  WideElems.Trod_stays hl hr hrow h (fun x hx => keeps_same k (hlt x hx)) (fun x hx => by simpa using hlt x hx)

/-! ### the arguments -/

theorem addr_lt {a : Addr} {v : Value} (h : W.cell? a = some v) : a.block < W.heap.size := by
  rcases Nat.lt_or_ge a.block W.heap.size with h' | h'
  · exact h'
  · simp [World.cell?, Array.getElem?_eq_none h'] at h

theorem arg_int {t : TypeId} {k : IntKind} (ht : P.underlying t = some (.int k)) {v : Value} {d : DataW H} {p : List MemPlace} (hok : Value.okWide P W .any base t v)
    (h : DataW.Trod enc P W 0 (fun _ => true) true t v d p) : ∃ n : Int, VE O0 W [] (.p (.int k n)) v ∧ (Lit.int k n).wf = true := by
  obtain ⟨n, rfl, rfl, rfl, hw⟩ := open_int ht hok h
  exact ⟨n, .p _ _ (.int k n), hw⟩

theorem arg_str {t : TypeId} (ht : P.underlying t = some .string) {v : Value} {d : DataW H} {p : List MemPlace} (hok : Value.okWide P W .any base t v)
    (h : DataW.Trod enc P W 0 (fun _ => true) true t v d p) : ∃ s : List Nat, VE O0 W [] (.p (.str s)) v ∧ (∀ x ∈ s, x < 256) ∧ s.length ≤ maxLen := by
  obtain ⟨s, rfl, rfl, rfl, hs⟩ := open_string ht hok h
  refine ⟨bytesOf s, .p _ _ (.str _ s rfl), fun x hx => ?_, by simpa [bytesOf] using hs⟩
  simp only [bytesOf, List.mem_map] at hx
  obtain ⟨y, _, rfl⟩ := hx
  exact y.toNat_lt

theorem vps_strs (own : Own) (w : World) (ss : List ByteArray) : VPs own w (ss.map fun s => PV.str (bytesOf s)) (ss.map Value.string) := by
  induction ss with
  | nil => exact .nil
  | cons s r ih => exact .cons _ _ _ _ (.str _ s rfl) ih

theorem arg_strs {t e : TypeId} (ht : P.underlying t = some (.slice e)) (he : P.underlying e = some .string) (hce : P.cellsOf e = 1) {v : Value} {d : DataW H} {p : List MemPlace} (hok : Value.okWide P W .any base t v)
    (h : DataW.Trod enc P W 0 (fun _ => true) true t v d p) : ∃ l : List (List Nat), VE O0 W [] (.p (.lst l.length (l.map PV.str))) v ∧ (∀ s ∈ l, ∀ x ∈ s, x < 256) ∧ l.length ≤ maxLen ∧ (∀ s ∈ l, s.length ≤ maxLen) := by
  obtain ⟨a0, len, cap, rfl⟩ := okWide_slice ht hok
  obtain ⟨fuel, hf⟩ := h
  have hf' : DataW.trod enc P W 0 (fun _ => true) true fuel t [.slice a0 len cap] = some (d, p) := by simpa [Value.cells] using hf
  rcases open_strings ht he hce hf' with ⟨hcs, hx⟩ | ⟨a, len', cap', ss, hcs, _, hl, hm, hz, hx, hcell, hsz⟩
  · simp only [List.cons.injEq, Value.slice.injEq, and_true] at hcs
    obtain ⟨rfl, rfl, rfl⟩ := hcs
    exact ⟨[], .p _ _ (.lst 0 [] none 0 [] .nil (Nat.le_refl _) (fun _ => rfl) (fun h => absurd h (by decide))), by simp, by simp, by simp⟩
  · simp only [List.cons.injEq, Value.slice.injEq, and_true] at hcs
    obtain ⟨rfl, rfl, rfl⟩ := hcs
    simp only [if_true] at hz
    have hll : (ss.take len).length = len := by simp; omega
    refine ⟨(ss.take len).map bytesOf, ?_, ?_, ?_, ?_⟩
    · rw [List.length_map, hll, List.map_map]
      refine .p _ _ (.lst len _ (some a) cap ((ss.take len).map Value.string) (vps_strs _ _ _) hl (fun h0 => ?_) (fun hpos => ?_))
      · subst h0; simp
      · obtain ⟨b, off, spot⟩ := a
        have hspot : spot = none := by simpa [Addr.add] using World.cell?_spot (hcell 0 (by omega))
        subst hspot
        refine ⟨b, off, rfl, addr_lt (hcell 0 (by omega)), fun j u hj => ⟨?_, O0_no _ _⟩⟩
        have hj' := (List.getElem?_eq_some_iff.1 hj).1
        simp only [List.length_map, hll] at hj'
        have hc := hcell j (by omega)
        rw [addr_add] at hc
        rw [hc]
        rw [List.getElem?_map, List.getElem?_take, if_pos hj', List.getElem?_eq_getElem (by omega)] at hj
        simp only [Option.map_some, Option.some.injEq] at hj
        rw [← hj, List.getD_eq_getElem?_getD, List.getElem?_eq_getElem (by omega)]
        rfl
    · intro s hs x hx
      simp only [List.mem_map] at hs
      obtain ⟨y, _, rfl⟩ := hs
      simp only [bytesOf, List.mem_map] at hx
      obtain ⟨z, _, rfl⟩ := hx
      exact z.toNat_lt
    · rw [List.length_map, hll]; omega
    · intro s hs
      simp only [List.mem_map] at hs
      obtain ⟨y, hy, rfl⟩ := hs
      have := hsz y (List.mem_of_mem_take hy)
      simpa [bytesOf] using this

/-! ### the package-level variables -/

theorem laid_tail {n : String} {d : DataW Unit} {r : List (String × DataW Unit)} (h : laidMet P ((n, d) :: r) W) : laidMet P r W := by
  obtain ⟨ps, ⟨g, t, cs, fuel, p, q, h1, h2, h3, h4, h5, rfl⟩, hn, hc⟩ := h
  exact ⟨q, h5, (List.nodup_append.1 hn).2.1, fun b off hb => hc b off (by simp [hb])⟩

/-- A variable's cells as the run sees them. -/
def Cells (W : World) (g : Nat) (ps : List PV) : Prop := g < W.heap.size ∧ ∃ us, VPs O0 W ps us ∧ (∀ (j : Nat) u, us[j]? = some u → W.cell? ⟨g, j, none⟩ = some u) ∧ ∃ e, W.shape? g = some (e, us.length)

theorem var_shape {name : String} {g : Nat} {cs : Array Value} (hg : P.globalNamed name = some g) (h : W.var? P name = some cs) : ∃ e, W.shape? g = some (e, cs.size) := by
  unfold World.var? at h
  rw [hg] at h
  simp only [Option.bind_some] at h
  unfold World.shape?
  split at h
  · rename_i c e _ hc
    cases h
    exact ⟨e, by rw [hc]⟩
  · cases h

theorem GlOk.of_cells {G : Glob} (h : ∀ g ps, G g = some ps → Cells W g ps) : GlOk G O0 W := by
  intro g ps hg
  obtain ⟨h1, us, h2, h3, h4⟩ := h g ps hg
  exact ⟨h1, us, h2, fun j u hj => ⟨h3 j u hj, O0_no _ _⟩, h4⟩

theorem cells_tab {name : String} {k : IntKind} {zs : List Int} {g : Nat} (h : Lib.TabIs P W name k zs) (hg : P.globalNamed name = some g) (hz : 0 < zs.length) : Cells W g (zs.map (PV.int k)) := by
  have hc := fun i hi => h.cell hg i hi
  refine ⟨addr_lt (hc 0 hz), zs.map (Value.int k), ?_, fun j u hj => ?_, by have := var_shape hg h; simpa using this⟩
  · clear hc hz h
    induction zs with
    | nil => exact .nil
    | cons z r ih => exact .cons _ _ _ _ (.int k z) ih
  · have hj' := (List.getElem?_eq_some_iff.1 hj).1
    simp only [List.length_map] at hj'
    rw [hc j hj']
    rw [List.getElem?_map, List.getElem?_eq_getElem hj'] at hj
    rw [List.getD_eq_getElem?_getD, List.getElem?_eq_getElem hj']
    exact hj

theorem cells_error {name nm : String} {g : Nat} {ti tp te ts : TypeId} {ms : Array (String × TypeId)} {f : Field} {text : List UInt8} {rest : List (String × DataW Unit)}
    (hg : P.globalNamed name = some g) (hty : (P.globals[g]?).map (·.type) = some ti) (hi : P.underlying ti = some (.interface ms)) (hrow : ∀ u, P.typeName? 3 u = some nm → u = tp)
    (hp : P.underlying tp = some (.pointer te)) (he : P.underlying te = some (.struct #[f])) (hft : f.type = ts) (hfo : f.offset = 0) (hs : P.underlying ts = some .string) (hc : P.cellsOf te = 1) (hcs : P.cellsOf ts = 1)
    (h : laidMet P ((name, .iface nm (.ptr (.agg [.lit (.string text)]))) :: rest) W) :
    Cells W g [.iface tp (.elem [.str (text.map (·.toNat))] 0)] := by
  obtain ⟨ps, ⟨g', t', cs, fuel, p, q, hg', ht', hvar, hd, _, rfl⟩, hn, hcell⟩ := h
  obtain rfl := Option.some.inj (hg.symm.trans hg')
  obtain rfl := Option.some.inj (hty.symm.trans ht')
  have hvc : ∀ i, W.cell? ⟨g, i, none⟩ = cs[i]? := fun i => World.var?_cell hg hvar i
  obtain ⟨a, s, hcs', hca, hst, hsz, rfl⟩ := errorString_of_trod hi hrow hp he hft hfo hs hc hcs hd (fun u v hu => by
    have h0 : cs[0]? = some (.iface u v) := by
      rw [← Array.getElem?_toList, hu]; rfl
    refine (hcell g 0 ?_).2 u v (by rw [hvc 0]; exact h0)
    simp only [List.mem_append]
    left; left
    have hlen : 0 < cs.size := (Array.getElem?_eq_some_iff.1 h0).1
    simp only [MemPlace.row, List.mem_map, List.mem_range]
    exact ⟨0, hlen, rfl⟩)
  have h0 : cs[0]? = some (.iface tp (.pointer (some a))) := by
    rw [← Array.getElem?_toList, hcs']; rfl
  obtain ⟨b, off, spot⟩ := a
  have hspot : spot = none := World.cell?_spot hca
  subst hspot
  have hcg : W.cell? ⟨g, 0, none⟩ = some (.iface tp (.pointer (some ⟨b, off, none⟩))) := by rw [hvc 0]; exact h0
  have hsh : ∃ e, W.shape? g = some (e, [Value.iface tp (.pointer (some ⟨b, off, none⟩))].length) := by
    have := var_shape hg hvar
    rwa [show cs.size = 1 by rw [← Array.length_toList, hcs']; rfl] at this
  refine ⟨addr_lt hcg, [.iface tp (.pointer (some ⟨b, off, none⟩))], .cons _ _ _ _ (.iface _ _ _ ?_) .nil, fun j u hj => ?_, hsh⟩
  · refine .elem _ 0 [.string s] b off (.cons _ _ _ _ (.str _ s (by rw [← hst]; rfl)) .nil) (addr_lt hca) (fun j u hj => ⟨?_, O0_no _ _⟩)
    cases j with
    | zero => simp only [List.getElem?_cons_zero, Option.some.injEq] at hj; subst hj; exact hca
    | succ j => simp at hj
  · cases j with
    | zero => simp only [List.getElem?_cons_zero, Option.some.injEq] at hj; subst hj; exact hcg
    | succ j => simp at hj

/-- The row's post-condition of a law that answers true and keeps all. -/
theorem law_post {f : Func} {s : ChangeSpec} {args : Array Value} {ds gs : List (DataW H)} {before pa pv : List MemPlace} {v : Value}
    (hW : DataW.Whole enc P f.params.toList s.vars false W args.toList ds gs before)
    (hres : DataW.TrodAll enc P W' W.heap.size (fun _ => false) false f.resultTypes.toList (v.resultList f.resultTypes.size) (s.fn H (ds ++ gs)).results [])
    (hargs : DataW.TrodAll enc P W' 0 (fun b => decide (b < W.heap.size)) true f.params.toList args.toList (s.fn H (ds ++ gs)).args pa)
    (hvars : DataW.TrodVars enc P W' (fun b => decide (b < W.heap.size)) s.vars (s.fn H (ds ++ gs)).vars pv)
    (k : Keeps (fun _ _ => False) W W') : s.post enc P f false true false false W args v W' :=
  ⟨ds, gs, before, [], pa, pv, hW, hres, hargs, hvars, keeps_but k _, fun h => by cases h⟩
end
end Go.Vc

/- VdLaid -/
namespace Go.Vc
open Go.ChangeShapes Go.WideShapes Go.ChangeAt Go.RowKit
open Go.Proofs Go.Proofs.YtibbjfmgglmkkaaDoor
set_option linter.unusedVariables false
set_option linter.unusedSimpArgs false

theorem own : ownKnob Tryd.prog.godebug = none := by kernel_rfl
theorem laidOut : laidOutB Tryd.prog = true := by kernel_rfl
theorem g1 : Tryd.prog.globalNamed "internal/strconv.uint64pow10" = some 1 := by kernel_rfl
theorem g1t : (Tryd.prog.globals[1]?).map (·.type) = some 114 := by kernel_rfl
theorem g4 : Tryd.prog.globalNamed "strconv.ErrSyntax" = some 4 := by kernel_rfl
theorem g4t : (Tryd.prog.globals[4]?).map (·.type) = some 50 := by kernel_rfl
theorem g5 : Tryd.prog.globalNamed "strconv.ErrRange" = some 5 := by kernel_rfl
theorem g5t : (Tryd.prog.globals[5]?).map (·.type) = some 50 := by kernel_rfl
theorem c114 : Tryd.prog.cellsOf 114 = 20 := by kernel_rfl
theorem g2 : Tryd.prog.globalNamed "math/bits.deBruijn32tab" = some 2 := by kernel_rfl
theorem g2t : (Tryd.prog.globals[2]?).map (·.type) = some 127 := by kernel_rfl
theorem g3 : Tryd.prog.globalNamed "math/bits.deBruijn64tab" = some 3 := by kernel_rfl
theorem g3t : (Tryd.prog.globals[3]?).map (·.type) = some 128 := by kernel_rfl
theorem c127 : Tryd.prog.cellsOf 127 = 32 := by kernel_rfl
theorem c128 : Tryd.prog.cellsOf 128 = 64 := by kernel_rfl
theorem c5 : Tryd.prog.cellsOf 5 = 1 := by kernel_rfl
theorem c45 : Tryd.prog.cellsOf 45 = 1 := by kernel_rfl
theorem c143 : Tryd.prog.cellsOf 143 = 1 := by kernel_rfl
theorem c9 : Tryd.prog.cellsOf 9 = 1 := by kernel_rfl
theorem row141 (u : TypeId) (hu : Tryd.prog.typeName? 3 u = some "*errors.errorString") : u = 141 :=
  typeName_ptr_named (nm := "errors.errorString") (by kernel_rfl) (by kernel_rfl) (by decide) u hu

def P10 : List Int := [1, 10, 100, 1000, 10000, 100000, 1000000, 10000000, 100000000, 1000000000, 10000000000, 100000000000, 1000000000000, 10000000000000, 100000000000000, 1000000000000000, 10000000000000000, 100000000000000000, 1000000000000000000, 10000000000000000000]

/-- What the rows list. -/
def laidL : List (String × DataW Unit) := [("math/bits.deBruijn32tab", Rows.laid_math_bits_deBruijn32tab), ("math/bits.deBruijn64tab", Rows.laid_math_bits_deBruijn64tab), ("internal/strconv.uint64pow10", Rows.laid_internal_strconv_uint64pow10), ("unicode/utf8.acceptRanges", Rows.laid_unicode_utf8_acceptRanges), ("strconv.ErrRange", Rows.laid_strconv_ErrRange), ("strconv.ErrSyntax", Rows.laid_strconv_ErrSyntax), ("unicode/utf8.first", Rows.laid_unicode_utf8_first)]

theorem gl_of_laid {W : World} (h : laidMetH Tryd.prog laidL W) : GlOk Gd O0 W := by
  have h0 : laidMet Tryd.prog laidL W := h
  have h1 := laid_tail h0
  have h2 := laid_tail h1
  have h3 := laid_tail h2
  have h4 := laid_tail h3
  have h5 := laid_tail h4
  have hp : Cells W 1 (P10.map (PV.int .u64)) := cells_tab (Lib.tabIs_of_head (zs := P10) g1 g1t Tryd.underlying114 Tryd.underlying45 c45 c114 h2) g1 (by decide)
  have h32 : Cells W 2 brn32L := cells_tab (Lib.tabIs_of_head (zs := B32) g2 g2t Tryd.underlying127 Tryd.underlying5 c5 c127 h0) g2 (by decide)
  have h64 : Cells W 3 brn64L := cells_tab (Lib.tabIs_of_head (zs := B64) g3 g3t Tryd.underlying128 Tryd.underlying5 c5 c128 h1) g3 (by decide)
  have hr : Cells W 5 errRangeL := cells_error g5 g5t Tryd.underlying50 row141 Tryd.underlying141 Tryd.underlying143 rfl rfl Tryd.underlying9 c143 c9 h4
  have hs : Cells W 4 errSyntaxL := cells_error g4 g4t Tryd.underlying50 row141 Tryd.underlying141 Tryd.underlying143 rfl rfl Tryd.underlying9 c143 c9 h5
  refine GlOk.of_cells fun g ps hg => ?_
  unfold Gd at hg
  split at hg
  · cases hg; exact hp
  · cases hg; exact h32
  · cases hg; exact h64
  · cases hg; exact hs
  · cases hg; exact hr
  · cases hg

/-- A world for the witnesses. -/
noncomputable def laidWorld (os : Os) : World :=
  let N := (World.settled Tryd.prog os).heap.size
  let w0 := World.holding Tryd.prog os ⟨#[.cells #[.string ⟨#[118, 97, 108, 117, 101, 32, 111, 117, 116, 32, 111, 102, 32, 114, 97, 110, 103, 101]⟩] 143, .cells #[.string ⟨#[105, 110, 118, 97, 108, 105, 100, 32, 115, 121, 110, 116, 97, 120]⟩] 143], #[], []⟩
  let put (h : Array Obj) (g : Nat) (cs : Array Value) : Array Obj := h.modify g fun
    | .cells _ t frozen => .cells cs t frozen
    | o => o
  { w0 with heap := put (put (put (put (put (put (put w0.heap 1 #[.int .u64 1, .int .u64 10, .int .u64 100, .int .u64 1000, .int .u64 10000, .int .u64 100000, .int .u64 1000000, .int .u64 10000000, .int .u64 100000000, .int .u64 1000000000, .int .u64 10000000000, .int .u64 100000000000, .int .u64 1000000000000, .int .u64 10000000000000, .int .u64 100000000000000, .int .u64 1000000000000000, .int .u64 10000000000000000, .int .u64 100000000000000000, .int .u64 1000000000000000000, .int .u64 10000000000000000000]) 2 #[.int .u8 0, .int .u8 1, .int .u8 28, .int .u8 2, .int .u8 29, .int .u8 14, .int .u8 24, .int .u8 3, .int .u8 30, .int .u8 22, .int .u8 20, .int .u8 15, .int .u8 25, .int .u8 17, .int .u8 4, .int .u8 8, .int .u8 31, .int .u8 27, .int .u8 13, .int .u8 23, .int .u8 21, .int .u8 19, .int .u8 16, .int .u8 7, .int .u8 26, .int .u8 12, .int .u8 18, .int .u8 6, .int .u8 11, .int .u8 5, .int .u8 10, .int .u8 9]) 3 #[.int .u8 0, .int .u8 1, .int .u8 56, .int .u8 2, .int .u8 57, .int .u8 49, .int .u8 28, .int .u8 3, .int .u8 61, .int .u8 58, .int .u8 42, .int .u8 50, .int .u8 38, .int .u8 29, .int .u8 17, .int .u8 4, .int .u8 62, .int .u8 47, .int .u8 59, .int .u8 36, .int .u8 45, .int .u8 43, .int .u8 51, .int .u8 22, .int .u8 53, .int .u8 39, .int .u8 33, .int .u8 30, .int .u8 24, .int .u8 18, .int .u8 12, .int .u8 5, .int .u8 63, .int .u8 55, .int .u8 48, .int .u8 27, .int .u8 60, .int .u8 41, .int .u8 37, .int .u8 16, .int .u8 46, .int .u8 35, .int .u8 44, .int .u8 21, .int .u8 52, .int .u8 32, .int .u8 23, .int .u8 11, .int .u8 54, .int .u8 26, .int .u8 40, .int .u8 15, .int .u8 34, .int .u8 20, .int .u8 31, .int .u8 10, .int .u8 25, .int .u8 14, .int .u8 19, .int .u8 9, .int .u8 13, .int .u8 8, .int .u8 7, .int .u8 6])
        4 #[.iface 141 (.pointer (some ⟨N + 1, 0, none⟩))]) 5 #[.iface 141 (.pointer (some ⟨N, 0, none⟩))])
        6 (Lib.firstTab.map fun z => Value.int .u8 z).toArray) 7 #[.int .u8 128, .int .u8 191, .int .u8 160, .int .u8 191, .int .u8 128, .int .u8 159, .int .u8 144, .int .u8 191, .int .u8 128, .int .u8 143, .int .u8 0, .int .u8 0, .int .u8 0, .int .u8 0, .int .u8 0, .int .u8 0, .int .u8 0, .int .u8 0, .int .u8 0, .int .u8 0, .int .u8 0, .int .u8 0, .int .u8 0, .int .u8 0, .int .u8 0, .int .u8 0, .int .u8 0, .int .u8 0, .int .u8 0, .int .u8 0, .int .u8 0, .int .u8 0] }

theorem laid_met (os : Os) (args : Array Value) : laidMet Tryd.prog laidL ((laidWorld os).forCall (fun _ _ => 0) ⟨#[], args, []⟩).memory :=
  laidMet_of_run3 10 (by kernel_rfl) (by kernel_rfl) (by kernel_rfl)
end Go.Vc
