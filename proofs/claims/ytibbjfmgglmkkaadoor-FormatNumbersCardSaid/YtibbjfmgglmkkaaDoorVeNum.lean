/- Own texts of the proof, put together: VeNum. -/
import Derived.Test.YtibbjfmgglmkkaaDoorVdBase
import Derived.Shelf.Strconv.Itoa4
import Derived.Shelf.Strconv.Clone
import Derived.Test.YtibbjfmgglmkkaaDoorVdFmt
import Derived.Shelf.LaysM
import Derived.Shelf.Strconv.Itoa1
import Derived.Shelf.Strconv.Itoa2
import Derived.Lib.Walk
import Derived.Lib.ItoaMem
import Derived.WalkKit
import Derived.BigCall
import Derived.BigGuard
/- VeLay -/
namespace Go.Proofs
open Go.Shelf
def Tryd.laysM171_ren : Go.Shelf.Ren := ⟨fun | 171 => 47 | 243 => 57 | 246 => 68 | 283 => 69 | 284 => 70 | 285 => 71 | 286 => 72 | 129 => 78 | 317 => 77 | 318 => 79 | 319 => 80 | 320 => 81 | 337 => 89 | 338 => 90 | n => n, fun | 3 => 3 | 9 => 9 | 2 => 2 | 4 => 4 | 171 => 105 | 0 => 0 | 53 => 45 | 37 => 37 | 5 => 5 | 173 => 108 | 212 => 114 | 51 => 99 | 20 => 20 | 213 => 115 | 46 => 88 | 232 => 127 | 233 => 128 | n => n, fun | 17 => 1 | 18 => 2 | 19 => 3 | n => n⟩
theorem Tryd.laysM171 : Go.Proofs.LaysM.n171 Tryd.prog Tryd.laysM171_ren := {
  mixed := by kernel_rfl
  f129 := Tryd.func78.trans (congrArg some (by kernel_rfl))
  f171 := Tryd.func47.trans (congrArg some (by kernel_rfl))
  f243 := Tryd.func57.trans (congrArg some (by kernel_rfl))
  f246 := Tryd.func68.trans (congrArg some (by kernel_rfl))
  f283 := Tryd.func69.trans (congrArg some (by kernel_rfl))
  f284 := Tryd.func70.trans (congrArg some (by kernel_rfl))
  f285 := Tryd.func71.trans (congrArg some (by kernel_rfl))
  f286 := Tryd.func72.trans (congrArg some (by kernel_rfl))
  f317 := Tryd.func77.trans (congrArg some (by kernel_rfl))
  f318 := Tryd.func79.trans (congrArg some (by kernel_rfl))
  f319 := Tryd.func80.trans (congrArg some (by kernel_rfl))
  f320 := Tryd.func81.trans (congrArg some (by kernel_rfl))
  f337 := Tryd.func89.trans (congrArg some (by kernel_rfl))
  f338 := Tryd.func90.trans (congrArg some (by kernel_rfl))
  t0 := Tryd.underlying0
  a0 := Tryd.isAgg0
  z0 := Tryd.sizeOf0
  v0 := Tryd.zeroValue0
  t2 := Tryd.underlying2
  a2 := Tryd.isAgg2
  z2 := Tryd.sizeOf2
  v2 := Tryd.zeroValue2
  t3 := Tryd.underlying3
  a3 := Tryd.isAgg3
  z3 := Tryd.sizeOf3
  v3 := Tryd.zeroValue3
  t4 := Tryd.underlying4
  a4 := Tryd.isAgg4
  z4 := Tryd.sizeOf4
  v4 := Tryd.zeroValue4
  t5 := Tryd.underlying5
  a5 := Tryd.isAgg5
  z5 := Tryd.sizeOf5
  v5 := Tryd.zeroValue5
  t9 := Tryd.underlying9
  a9 := Tryd.isAgg9
  z9 := Tryd.sizeOf9
  v9 := Tryd.zeroValue9
  t20 := Tryd.underlying20
  a20 := Tryd.isAgg20
  z20 := Tryd.sizeOf20
  v20 := Tryd.zeroValue20
  t37 := Tryd.underlying37
  a37 := Tryd.isAgg37
  z37 := Tryd.sizeOf37
  v37 := Tryd.zeroValue37
  t46 := Tryd.underlying88
  a46 := Tryd.isAgg88
  z46 := Tryd.sizeOf88
  v46 := Tryd.zeroValue88
  t51 := Tryd.underlying99
  a51 := Tryd.isAgg99
  z51 := Tryd.sizeOf99
  v51 := Tryd.zeroValue99
  t53 := Tryd.underlying45
  a53 := Tryd.isAgg45
  z53 := Tryd.sizeOf45
  v53 := Tryd.zeroValue45
  t171 := Tryd.underlying105
  a171 := Tryd.isAgg105
  z171 := Tryd.sizeOf105
  v171 := Tryd.zeroValue105
  t173 := Tryd.underlying108
  a173 := Tryd.isAgg108
  z173 := Tryd.sizeOf108
  v173 := Tryd.zeroValue108
  t212 := Tryd.underlying114
  a212 := Tryd.isAgg114
  z212 := Tryd.sizeOf114
  v212 := Tryd.zeroValue114
  t213 := Tryd.underlying115
  a213 := Tryd.isAgg115
  z213 := Tryd.sizeOf115
  t232 := Tryd.underlying127
  a232 := Tryd.isAgg127
  z232 := Tryd.sizeOf127
  v232 := Tryd.zeroValue127
  t233 := Tryd.underlying128
  a233 := Tryd.isAgg128
  z233 := Tryd.sizeOf128
  v233 := Tryd.zeroValue128
  g17 := by kernel_rfl
  g18 := by kernel_rfl
  g19 := by kernel_rfl
  i0 := by kernel_rfl
  i2 := by kernel_rfl
  i3 := by kernel_rfl
  i4 := by kernel_rfl
  i5 := by kernel_rfl
  i9 := by kernel_rfl
  i20 := by kernel_rfl
  i37 := by kernel_rfl
  i46 := by kernel_rfl
  i51 := by kernel_rfl
  i53 := by kernel_rfl
  i171 := by kernel_rfl
  i173 := by kernel_rfl
  i212 := by kernel_rfl
  i232 := by kernel_rfl
  i233 := by kernel_rfl
  m17 := by kernel_rfl
  m18 := by kernel_rfl
  m19 := by kernel_rfl }
def Tryd.laysM284_ren : Go.Shelf.Ren := ⟨fun | 284 => 70 | 129 => 78 | 317 => 77 | 318 => 79 | n => n, fun | 53 => 45 | 3 => 3 | 212 => 114 | 0 => 0 | 4 => 4 | 46 => 88 | 5 => 5 | 9 => 9 | n => n, fun | 17 => 1 | n => n⟩
theorem Tryd.laysM284 : Go.Proofs.LaysM.n284 Tryd.prog Tryd.laysM284_ren := {
  mixed := by kernel_rfl
  f129 := Tryd.func78.trans (congrArg some (by kernel_rfl))
  f284 := Tryd.func70.trans (congrArg some (by kernel_rfl))
  f317 := Tryd.func77.trans (congrArg some (by kernel_rfl))
  f318 := Tryd.func79.trans (congrArg some (by kernel_rfl))
  t0 := Tryd.underlying0
  a0 := Tryd.isAgg0
  z0 := Tryd.sizeOf0
  v0 := Tryd.zeroValue0
  t3 := Tryd.underlying3
  a3 := Tryd.isAgg3
  z3 := Tryd.sizeOf3
  v3 := Tryd.zeroValue3
  t4 := Tryd.underlying4
  a4 := Tryd.isAgg4
  z4 := Tryd.sizeOf4
  v4 := Tryd.zeroValue4
  t5 := Tryd.underlying5
  a5 := Tryd.isAgg5
  z5 := Tryd.sizeOf5
  v5 := Tryd.zeroValue5
  t9 := Tryd.underlying9
  a9 := Tryd.isAgg9
  z9 := Tryd.sizeOf9
  v9 := Tryd.zeroValue9
  t46 := Tryd.underlying88
  a46 := Tryd.isAgg88
  z46 := Tryd.sizeOf88
  v46 := Tryd.zeroValue88
  t53 := Tryd.underlying45
  a53 := Tryd.isAgg45
  z53 := Tryd.sizeOf45
  v53 := Tryd.zeroValue45
  t212 := Tryd.underlying114
  a212 := Tryd.isAgg114
  z212 := Tryd.sizeOf114
  v212 := Tryd.zeroValue114
  g17 := by kernel_rfl
  i0 := by kernel_rfl
  i3 := by kernel_rfl
  i4 := by kernel_rfl
  i5 := by kernel_rfl
  i9 := by kernel_rfl
  i46 := by kernel_rfl
  i53 := by kernel_rfl
  i212 := by kernel_rfl
  m17 := by kernel_rfl }
def Tryd.lays285_ren : Go.Shelf.Ren := ⟨fun | 285 => 71 | n => n, fun | 37 => 37 | 53 => 45 | 3 => 3 | 4 => 4 | 51 => 99 | 9 => 9 | 5 => 5 | 0 => 0 | n => n, fun | n => n⟩
theorem Tryd.lays285 : Go.Proofs.Lays.n285 Tryd.prog Tryd.lays285_ren := {
  mixed := by kernel_rfl
  f285 := Tryd.func71.trans (congrArg some (by kernel_rfl))
  t0 := Tryd.underlying0
  a0 := Tryd.isAgg0
  z0 := Tryd.sizeOf0
  v0 := Tryd.zeroValue0
  t3 := Tryd.underlying3
  a3 := Tryd.isAgg3
  z3 := Tryd.sizeOf3
  v3 := Tryd.zeroValue3
  t4 := Tryd.underlying4
  a4 := Tryd.isAgg4
  z4 := Tryd.sizeOf4
  v4 := Tryd.zeroValue4
  t5 := Tryd.underlying5
  a5 := Tryd.isAgg5
  z5 := Tryd.sizeOf5
  v5 := Tryd.zeroValue5
  t9 := Tryd.underlying9
  a9 := Tryd.isAgg9
  z9 := Tryd.sizeOf9
  v9 := Tryd.zeroValue9
  t37 := Tryd.underlying37
  a37 := Tryd.isAgg37
  z37 := Tryd.sizeOf37
  v37 := Tryd.zeroValue37
  t51 := Tryd.underlying99
  a51 := Tryd.isAgg99
  z51 := Tryd.sizeOf99
  v51 := Tryd.zeroValue99
  t53 := Tryd.underlying45
  a53 := Tryd.isAgg45
  z53 := Tryd.sizeOf45
  v53 := Tryd.zeroValue45 }
def Tryd.lays283_ren : Go.Shelf.Ren := ⟨fun | 283 => 69 | n => n, fun | 3 => 3 | 9 => 9 | 4 => 4 | n => n, fun | n => n⟩
theorem Tryd.lays283 : Go.Proofs.Lays.n283 Tryd.prog Tryd.lays283_ren := {
  mixed := by kernel_rfl
  f283 := Tryd.func69.trans (congrArg some (by kernel_rfl))
  t3 := Tryd.underlying3
  a3 := Tryd.isAgg3
  z3 := Tryd.sizeOf3
  v3 := Tryd.zeroValue3
  t4 := Tryd.underlying4
  a4 := Tryd.isAgg4
  z4 := Tryd.sizeOf4
  v4 := Tryd.zeroValue4
  t9 := Tryd.underlying9
  a9 := Tryd.isAgg9
  z9 := Tryd.sizeOf9
  v9 := Tryd.zeroValue9 }
def Tryd.laysM316_ren : Go.Shelf.Ren := ⟨fun | 316 => 102 | n => n, fun | 9 => 9 | 3 => 3 | 4 => 4 | 37 => 37 | 0 => 0 | 127 => 60 | 5 => 5 | n => n, fun | n => n⟩
theorem Tryd.laysM316 : Go.Proofs.LaysM.n316 Tryd.prog Tryd.laysM316_ren := {
  mixed := by kernel_rfl
  f316 := Tryd.func102.trans (congrArg some (by kernel_rfl))
  t0 := Tryd.underlying0
  a0 := Tryd.isAgg0
  z0 := Tryd.sizeOf0
  v0 := Tryd.zeroValue0
  t3 := Tryd.underlying3
  a3 := Tryd.isAgg3
  z3 := Tryd.sizeOf3
  v3 := Tryd.zeroValue3
  t4 := Tryd.underlying4
  a4 := Tryd.isAgg4
  z4 := Tryd.sizeOf4
  v4 := Tryd.zeroValue4
  t9 := Tryd.underlying9
  a9 := Tryd.isAgg9
  z9 := Tryd.sizeOf9
  v9 := Tryd.zeroValue9
  t37 := Tryd.underlying37
  a37 := Tryd.isAgg37
  z37 := Tryd.sizeOf37
  v37 := Tryd.zeroValue37
  t127 := Tryd.underlying60
  a127 := Tryd.isAgg60
  z127 := Tryd.sizeOf60
  v127 := Tryd.zeroValue60
  t5 := Tryd.underlying5
  a5 := Tryd.isAgg5
  z5 := Tryd.sizeOf5
  v5 := Tryd.zeroValue5
  i0 := by kernel_rfl
  i3 := by kernel_rfl
  i4 := by kernel_rfl
  i5 := by kernel_rfl
  i9 := by kernel_rfl
  i37 := by kernel_rfl
  i127 := by kernel_rfl }
end Go.Proofs

/- VeNum -/
namespace Go.Proofs
open Go.Shelf Go.RowKit Go.Sort Go.Lib
theorem Tryd.small_l (i : Nat) (hi : i < 100) (w : World) : Calls Tryd.prog 69 #[.int .i64 i] w fun e w' => e = .returned (.string ⟨(Lib.decDigits i).toArray⟩) ∧ w' = w := Any.internal_strconv_small Tryd.lays283 i hi w
theorem Tryd.nd_l (u : Nat) (h1 : 1 ≤ u) (h2 : u < 18446744073709551616) (w : World) (htab : Lib.TabIs Tryd.prog w "internal/strconv.uint64pow10" .u64 Lib.pow10Tab) :
    Calls Tryd.prog 70 #[.int .u64 u] w fun e w' => e = .returned (.int .i64 (Lib.nDigits u)) ∧ w' = w := Any.internal_strconv_numDigits Tryd.laysM284 u h1 h2 w htab
theorem Tryd.fb_l (blk off cap : Nat) (u : Nat) (d : Array UInt8) (w : World) (hH : Holds (fun (b : UInt8) => Value.int .u8 (b.toNat : Int)) w blk off d) (hu : u < 10 ^ d.size) (hu64 : u < 18446744073709551616) (hsz : d.size < 4611686018427387904) :
    Calls Tryd.prog 71 #[.slice (some ⟨blk, off, none⟩) d.size cap, .int .u64 u] w fun e w' =>
      e = .returned (.tuple #[]) ∧ ∃ (n v' : Nat) (dk : Array UInt8), w' = (putRow (fun (b : UInt8) => Value.int .u8 (b.toNat : Int)) w blk off dk).drewN n ∧ FmtInv d.size u 0 v' dk := Any.internal_strconv_formatBase10 Tryd.lays285 blk off cap u d w hH hu hu64 hsz

theorem holds_zero0 (w : World) (T : TypeId) (nd : Nat) (hs : nd ≤ 24) : Holds (fun (b : UInt8) => Value.int .u8 (b.toNat : Int)) (w.alloc (.cells zeros24 T)) w.heap.size 0 (Array.replicate nd (0 : UInt8)) := fun j hj => by
  have hj' : j < nd := by simpa using hj
  refine ⟨?_, World.frozen?_alloc_new _ _ _ _⟩
  rw [World.cell?_alloc_new, zeros24_at _ (by omega), getElem!_pos _ j hj]
  simp

theorem fin_pos0 (w : World) (o : Obj) (dk : Array UInt8) (k : Nat) : ∃ os, (putRow (fun (b : UInt8) => Value.int .u8 (b.toNat : Int)) (w.alloc o) w.heap.size 0 dk).drewN k = grow (w.drewN k) os := by
  rw [alloc_eq_grow]
  obtain ⟨os', _, e⟩ := putRow_grow_new (fun (b : UInt8) => Value.int .u8 (b.toNat : Int)) w #[o] w.heap.size 0 dk (Nat.le_refl _)
  exact ⟨os', by rw [e]; rfl⟩

set_option maxHeartbeats 6400000 in
set_option maxRecDepth 100000 in
theorem Tryd.fu10 (u : Nat) (hu64 : u < 18446744073709551616) (w : World)
    (htab : Lib.TabIs Tryd.prog w "internal/strconv.uint64pow10" .u64 Lib.pow10Tab) :
    Calls Tryd.prog 58 #[.int .u64 u, .int .i64 10] w fun e w' => e = .returned (.string ⟨(Lib.decDigits u).toArray⟩) ∧ ∃ k os, w' = grow (w.drewN k) os := by
  by_cases hs : u < 100
  · go_enter Tryd.func58, Tryd.ntmps58
    go_wp2_with (go_at_call 69; refine (Tryd.small_l u hs _).mono ?_; rintro e w' ⟨rfl, rfl⟩)
    go_ret
    exact ⟨rfl, 0, #[], by simp [World.drewN_zero]⟩
  · have hu1 : 1 ≤ u := by omega
    have hnd20 : Lib.nDigits u ≤ 20 := by have := Lib.numDigits_eq u hu1 hu64; split at this <;> omega
    have hb3 : Lib.nDigits u ≤ 24 := by omega
    have hal : Tryd.prog.arrayLen 105 = 24 := by kernel_rfl
    have hsl1 : ∀ W, (Instr.sliceAt 105 (.pointer (some ⟨w.heap.size, 0, none⟩)) none (some (.int .i64 (Lib.nDigits u : Int))) none).run Tryd.prog W = .ok (.slice (some ⟨w.heap.size, 0, none⟩) (Lib.nDigits u) 24) W := fun W => by
      rw [run_sliceAt_array_h W 105 ⟨w.heap.size, 0, none⟩ (by kernel_rfl) .i64 (Lib.nDigits u : Int) (by omega) (by rw [hal]; omega)]
      go_simp
    have hH0 := holds_zero0 w 105 (Lib.nDigits u) (by omega)
    have hfmt := Tryd.fb_l w.heap.size 0 24 u (Array.replicate (Lib.nDigits u) 0) (w.alloc (.cells Lib.zeros24 105)) hH0 (by rw [Array.size_replicate]; exact Lib.lt_pow_nDigits u) hu64 (by rw [Array.size_replicate]; omega)
    rw [Array.size_replicate] at hfmt
    have HH0 := Lib.hid hH0
    clear hH0 hal
    go_enter Tryd.func58, Tryd.ntmps58
    go_wp2_with (first
      | (go_at_call 70; refine (Tryd.nd_l u hu1 hu64 _ (Lib.tabIs_alloc htab _)).mono ?_; rintro e w' ⟨rfl, rfl⟩))
    refine hfmt.mono ?_
    rintro e w' ⟨rfl, k, v', dk, rfl, hF⟩
    have hcv : (convert 37 9 (.slice (some ⟨w.heap.size, 0, none⟩) (Lib.nDigits u) 24)).run Tryd.prog ((putRow (fun (b : UInt8) => Value.int .u8 (b.toNat : Int)) (w.alloc (.cells Lib.zeros24 105)) w.heap.size 0 dk).drewN k) = .ok (.string ⟨(Lib.decDigits u).toArray⟩) ((putRow (fun (b : UInt8) => Value.int .u8 (b.toNat : Int)) (w.alloc (.cells Lib.zeros24 105)) w.heap.size 0 dk).drewN k) := by
      have h := run_convert_bytes_back (P := Tryd.prog) ((putRow (fun (b : UInt8) => Value.int .u8 (b.toNat : Int)) (w.alloc (.cells Lib.zeros24 105)) w.heap.size 0 dk).drewN k) 37 9 5 ⟨w.heap.size, 0, none⟩ 24 (Lib.decDigits u) Tryd.underlying37 Tryd.underlying5 Tryd.underlying9 (fun j hj => by
        rw [Lib.row_is_numeral hF j hj, Lib.add_plain, World.cell?_drewN]
        exact cell?_putRow (fun (b : UInt8) => Value.int .u8 (b.toNat : Int)) _ w.heap.size 0 _ dk HH0.out (by rw [hF.size, Array.size_replicate]) j (by rw [hF.size]; rw [Lib.decDigits_length] at hj; exact hj))
      rw [Lib.decDigits_length] at h
      exact h
    go_wp2
    go_ret
    obtain ⟨os, eo⟩ := fin_pos0 w (.cells Lib.zeros24 105) dk k
    exact ⟨rfl, k, os, eo⟩
theorem Tryd.itoa_l (n : Int) (h0 : -9223372036854775808 ≤ n) (h1 : n ≤ 9223372036854775807) (w : World) (htab : Lib.TabIs Tryd.prog w "internal/strconv.uint64pow10" .u64 Lib.pow10Tab) :
    Calls Tryd.prog 47 #[.int .i64 n] w fun e w' => e = .returned (.string ⟨(Lib.itoa n).toArray⟩) ∧ ∃ k os, w' = Sort.grow (w.drewN k) os := Any.strconv_Itoa Tryd.laysM171 n h0 h1 w htab

end Go.Proofs
namespace Go.Vc
open Go.Proofs Go.Sort

theorem tab_of_gl {P : Program} {G : Glob} {own : Own} {w : World} {name : String} {g : Nat} {k : IntKind} {zs : List Int} (h : GlOk G own w) (hg : G g = some (zs.map (PV.int k))) (hn : P.globalNamed name = some g) : Lib.TabIs P w name k zs := by
  obtain ⟨hl, us, hs, hc, e, he⟩ := h g _ hg
  have hu : us = zs.map (Value.int k) := by
    clear hc he hg hn
    induction zs generalizing us with
    | nil => cases hs; rfl
    | cons z r ih =>
      cases hs with | cons _ _ _ u' h1 h2 =>
      cases h1
      rw [List.map_cons, ih _ h2]
  unfold Lib.TabIs World.var?
  rw [hn]
  simp only [Option.bind_some]
  unfold World.shape? at he
  split at he
  · rename_i cs e' fz hcs
    simp only [Option.some.injEq, Prod.mk.injEq] at he
    rw [hcs]
    simp only [Option.some.injEq]
    apply Array.ext_getElem?
    intro j
    have hsz : cs.size = zs.length := by rw [he.2, hu]; simp
    rcases Nat.lt_or_ge j zs.length with hj | hj
    · have h1 := (hc j (Value.int k (zs[j])) (by rw [hu, List.getElem?_map, List.getElem?_eq_getElem hj]; rfl)).1
      unfold World.cell? at h1
      rw [hcs] at h1
      simp only at h1
      simp only [List.getElem?_toArray, List.getElem?_map, List.getElem?_eq_getElem hj, Option.map_some]
      exact h1
    · rw [Array.getElem?_eq_none (by omega), Array.getElem?_eq_none (by simpa using hj)]
  · cases he

theorem StepOk.grown {F : Own} {w : World} {v : PV} {u : Value} (h : HpOk F w [] []) (hv : ∀ own w, VP own w v u) (k : Nat) (os : Array Obj) : StepOk F w [] [] (.p v) [] u (grow (w.drewN k) os) [] := by
  have no : ∀ r x, ¬ owned [] [] r x := by
    rintro r x ⟨i, g, b, h, _⟩
    simp at h
  have hsz : w.heap.size ≤ (grow (w.drewN k) os).heap.size := by simp
  have hob : ∀ r, r < w.heap.size → (grow (w.drewN k) os).heap[r]? = w.heap[r]? := fun r hr => by
    rw [heap_grow_old _ _ (by simpa using hr)]; simp
  have hcell : ∀ r x, r < w.heap.size → (grow (w.drewN k) os).cell? ⟨r, x, none⟩ = w.cell? ⟨r, x, none⟩ := fun r x hr => by
    simp only [World.cell?, hob r hr]
  have hfrz : ∀ r x, r < w.heap.size → (grow (w.drewN k) os).frozen? ⟨r, x, none⟩ = w.frozen? ⟨r, x, none⟩ := fun r x hr => by
    simp only [World.frozen?, hob r hr]
  have hshape : ∀ r, r < w.heap.size → (grow (w.drewN k) os).shape? r = w.shape? r := fun r hr => by
    simp only [World.shape?, hob r hr]
  refine ⟨⟨rfl, fun i g b h => by simp at h, fun i j g g' b b' _ h => by simp at h, fun i g b h => by simp at h, fun r x hF => Nat.lt_of_lt_of_le (h.lt r x hF) hsz, fun i g b h => by simp at h⟩, ⟨[], rfl⟩, .p _ _ (hv _ _), ?_, ?_, ?_⟩
  · refine ⟨fun r x u ho hc => ⟨?_, ho⟩, hsz, fun r e n hs => ?_, fun i g hi => by simp at hi⟩
    · rw [hcell r x (cell_lt hc)]; exact hc
    · rw [hshape r (shape_lt hs)]; exact hs
  · exact ⟨hsz, fun r x hr _ => hcell r x hr, fun r x hr _ => hfrz r x hr, hshape, fun r hr _ => hob r hr, rfl, rfl⟩
  · intro r x h; exact absurd h (no r x)

theorem bytesOf_list (l : List UInt8) : bytesOf ⟨l.toArray⟩ = l.map UInt8.toNat := rfl

theorem pow10_gd : Gd 1 = some (Lib.pow10Tab.map (PV.int .u64)) := by kernel_rfl
theorem pow10_nm : Pd.globalNamed "internal/strconv.uint64pow10" = some 1 := by kernel_rfl

/-- The decimal digits of a natural number; the decimal numeral of an integer. -/
def decS (u : Nat) : List Nat := (Lib.decDigits u).map UInt8.toNat
def itoaS (n : Int) : List Nat := (Lib.itoa n).map UInt8.toNat

theorem VEs.one {own : Own} {w : World} {regs : List Reg} {k : IntKind} {n : Int} {vs : List Value} (h : VEs own w regs [.p (.int k n)] vs) : vs = [.int k n] := by
  cases h with | cons _ _ _ _ h1 h2 =>
  cases h2
  cases h1 with | p _ _ h1 =>
  cases h1
  rfl

theorem VEs.two {own : Own} {w : World} {regs : List Reg} {k k' : IntKind} {n n' : Int} {vs : List Value} (h : VEs own w regs [.p (.int k n), .p (.int k' n')] vs) : vs = [.int k n, .int k' n'] := by
  cases h with | cons _ _ _ _ h1 h2 =>
  cases h1 with | p _ _ h1 =>
  cases h1
  rw [VEs.one h2]

theorem itoa_rc (n : Int) (h0 : -9223372036854775808 ≤ n) (h1 : n ≤ 9223372036854775807) : RC Pd Gd 47 [.p (.int .i64 n)] [] (.p (.str (itoaS n))) [] := by
  intro F regs w vs hh hG hv
  rw [VEs.one hv]
  have hr : regs = [] := List.length_eq_zero_iff.1 hh.len
  subst hr
  refine Calls.mono (Tryd.itoa_l n h0 h1 w (tab_of_gl hG pow10_gd pow10_nm)) ?_
  rintro e w' ⟨rfl, k, os, rfl⟩
  exact ⟨_, rfl, [], StepOk.grown hh (fun own w => .str _ _ (bytesOf_list _)) k os⟩

theorem fu10_rc (u : Nat) (hu : u < 18446744073709551616) : RC Pd Gd 58 [.p (.int .u64 (u : Nat)), .p (.int .i64 10)] [] (.p (.str (decS u))) [] := by
  intro F regs w vs hh hG hv
  rw [VEs.two hv]
  have hr : regs = [] := List.length_eq_zero_iff.1 hh.len
  subst hr
  refine Calls.mono (Tryd.fu10 u hu w (tab_of_gl hG pow10_gd pow10_nm)) ?_
  rintro e w' ⟨rfl, k, os, rfl⟩
  exact ⟨_, rfl, [], StepOk.grown hh (fun own w => .str _ _ (bytesOf_list _)) k os⟩
end Go.Vc

/- VeBits -/
namespace Go.Vc
set_option linter.unusedVariables false
set_option linter.unusedSimpArgs false

/-- The digits of a base, and one of them. -/
abbrev dgL : List Nat := [48, 49, 50, 51, 52, 53, 54, 55, 56, 57, 97, 98, 99, 100, 101, 102, 103, 104, 105, 106, 107, 108, 109, 110, 111, 112, 113, 114, 115, 116, 117, 118, 119, 120, 121, 122]
def dgS (n : Nat) : Nat := dgL.getD n 0

theorem ibit_and_mask (n k m : Nat) (h : n < 18446744073709551616) (hk : m = 2 ^ k - 1) (hm : m < 18446744073709551616) : ibit BinOp.and .u64 (n : Int) (m : Int) = ((n % 2 ^ k : Nat) : Int) := by
  have e1 : (BitVec.ofInt 64 (n : Int)) = BitVec.ofNat 64 n := by
    apply BitVec.eq_of_toNat_eq
    simp
  have e2 : (BitVec.ofInt 64 (m : Int)) = BitVec.ofNat 64 m := by
    apply BitVec.eq_of_toNat_eq
    simp
  show IntKind.u64.wrap ((BitVec.ofInt 64 (n : Int) &&& BitVec.ofInt 64 (m : Int)).toNat : Int) = _
  rw [e1, e2, BitVec.toNat_and]
  have h3 : (BitVec.ofNat 64 n).toNat = n := by simp; omega
  have h4 : (BitVec.ofNat 64 m).toNat = m := by simp; omega
  rw [h3, h4, hk, Nat.and_two_pow_sub_one_eq_mod n k]
  have := Nat.mod_le n (2 ^ k)
  exact wrap_fits (by unfold fitsK; rw [max_u64, min_u64]; simp only [Bool.and_eq_true, decide_eq_true_eq]; omega)

theorem renEs_bytes (f : Nat → Option Nat) (s : List Nat) : renEs f (s.map byteEV) = s.map byteEV := by
  induction s with
  | nil => rfl
  | cons a r ih => simp only [List.map_cons, renEs, ih]; rfl

theorem set_bytes (s : List Nat) (k d : Nat) : (s.map byteEV).set k (EV.p (PV.int .u8 (d : Int))) = (s.set k d).map byteEV := by
  rw [List.map_set]; rfl

theorem drop_set (s : List Nat) (k d : Nat) (h : k < s.length) : (s.set k d).drop k = d :: s.drop (k + 1) := by
  rw [List.drop_eq_getElem_cons (by simpa using h)]
  simp [List.drop_set]

/-- Digits in a base, the first one first. -/
def fbS (b u : Nat) : List Nat :=
  if h : u < b ∨ b < 2 then [dgS u] else fbS b (u / b) ++ [dgS (u % b)]
termination_by u
decreasing_by exact Nat.div_lt_self (by omega) (by omega)

theorem natList_bytes (s : List Nat) (h : ∀ x ∈ s, x < 256) : natList (s.map byteEV) = some s := by
  induction s with
  | nil => rfl
  | cons a r ih =>
    have h1 := h a (by simp)
    have h2 := ih (fun x hx => h x (by simp [hx]))
    simp only [List.map_cons, byteEV, natList] at h2 ⊢
    rw [h2]
    simp only [Int.toNat_natCast, Nat.mod_eq_of_lt h1]

theorem dgS_lt (n : Nat) : dgS n < 256 := by
  unfold dgS
  rw [List.getD_eq_getElem?_getD]
  rcases Nat.lt_or_ge n 36 with h | h
  · have hk : ∀ k : Fin 36, (dgL[k.val]?).getD 0 < 256 := by decide
    exact hk ⟨n, h⟩
  · rw [List.getElem?_eq_none (by simpa using h)]
    decide

theorem set_lt {s : List Nat} (h : ∀ x ∈ s, x < 256) (k d : Nat) (hd : d < 256) : ∀ x ∈ s.set k d, x < 256 := by
  intro x hx
  rcases List.mem_or_eq_of_mem_set hx with h1 | h1
  · exact h x h1
  · rw [h1]; exact hd

theorem claim_conv {P : Program} {G : Glob} {fr : Fr} {H : Heap} {o : Oper} {a b e : TypeId} {x : Operand} {i off n : Nat} {s : List Nat} {k : Kd} (ho : o.op = .convert a b x) (ha : P.underlying a = some (.slice e)) (hb : P.underlying b = some .string)
    (he : P.underlying e = some (.int .u8)) (hx : opnd fr x = .sl i off n 1) (hi : H[i]? = some (some (.cells (s.map byteEV) k))) (hl : ((s.drop off).take n).length = n) (hs : ∀ x ∈ s, x < 256) : Claim P G fr H o (.p (.str ((s.drop off).take n))) := by
  refine ⟨some true, (met_some _).2 rfl, .inr ?_⟩
  unfold memE
  rw [ho]
  have hc : ((s.map byteEV).drop off).take (n * 1) = ((s.drop off).take n).map byteEV := by rw [Nat.mul_one, List.map_take, List.map_drop]
  have hm : natList (((s.drop off).take n).map byteEV) = some ((s.drop off).take n) := natList_bytes _ (fun x hx => hs x (List.mem_of_mem_drop (List.mem_of_mem_take hx)))
  simp only [ha, hb, hx, he, isSl, sliceCells, hi, Nat.beq_refl, hc, hm]
  simp only [List.length_map, hl, decide_true]

section
variable {T : Tab}

def fb16Fr (u i : Int) : Fr := [(16, EV.p (PV.int .u64 15)), (15, EV.p (PV.int .u64 16)), (14, EV.p (PV.int .u64 4)), (13, EV.p (PV.int .i64 i)), (12, EV.ptr 0 0), (11, EV.p (PV.str [])), (10, EV.p PV.nils), (1, EV.p (PV.int .u64 u)), (3, EV.p (PV.bool false)), (4, EV.p (PV.bool false))]

theorem fb16L_l1 (u i : Int) (s : List Nat) : runC Pd Gd T 100000 false [.br true] 102 0 (fb16Fr u i) [some (.cells (List.map byteEV s) (.obj 115))] (loopAt Pd 72 0) [16, 15, 14, 13, 12, 11, 10, 1, 3, 4] [] [0] = some ([true = true, decide (0 + (i - 1).toNat * 1 + 1 ≤ (List.map byteEV s).length) = true, (decide (0 ≤ i - 1) && decide (i - 1 < (65 : Int))) = true, (true && decide (ibit BinOp.and .u64 u 15 < (36 : Int))) = true, fitsK .i64 (i - 1) = true, decide (u ≥ 16) = true], .normal, fb16Fr (u.fdiv 16) (i - 1), [some (.cells (renEs (selOf 0 [0]) ((List.map byteEV s).set (0 + (i - 1).toNat * 1) (.p (.int .u8 ((dgS (ibit BinOp.and .u64 u 15).toNat : Nat) : Int))))) (.obj 115))]) := by kernel_rfl

theorem fb16L_l2 (u i : Int) (s : List Nat) : runC Pd Gd T 100000 false [.br false] 102 0 (fb16Fr u i) [some (.cells (List.map byteEV s) (.obj 115))] (loopAt Pd 72 0) [16, 15, 14, 13, 12, 11, 10, 1, 3, 4] [] [0] = some ([decide (u ≥ 16) = false], .exit 0, fb16Fr u i, [some (.cells (renEs (selOf 0 [0]) (List.map byteEV s)) (.obj 115))]) := by kernel_rfl

theorem fb16_loop (hT : TabOk Pd Gd T) : ∀ (u i : Nat) (s : List Nat), u < 18446744073709551616 → s.length = 65 → (∀ x ∈ s, x < 256) → 1 ≤ i → i ≤ 65 → u < 16 ^ i →
    ∃ (u' i' : Nat) (s' : List Nat), LC Pd Gd 102 0 (fb16Fr u i) [some (Blk.cells (List.map byteEV s) (Kd.obj 115))] (loopAt Pd 72 0) (.exit 0) (fb16Fr u' i') [some (Blk.cells (List.map byteEV s') (Kd.obj 115))] ∧
      s'.length = 65 ∧ (∀ x ∈ s', x < 256) ∧ 1 ≤ i' ∧ i' ≤ 65 ∧ u' < 16 ∧ dgS u' :: s'.drop i' = fbS 16 u ++ s.drop i := by
  intro u
  induction u using Nat.strongRecOn with
  | _ u ih =>
    intro i s hu hs hx h1 h65 hp
    by_cases hb : u < 16
    · refine ⟨u, i, s, ?_, hs, hx, h1, h65, hb, ?_⟩
      · have key := fb16L_l2 (T := T) u i s
        rw [renEs_bytes] at key
        exact LC.leave hT key ⟨by simp only [decide_eq_false_iff_not]; omega, trivial⟩ (by simp)
      · rw [fbS, dif_pos (.inl hb)]; rfl
    · have hi : 2 ≤ i := by
        rcases Nat.lt_or_ge i 2 with h | h
        · have : i = 1 := by omega
          subst this
          simp at hp; omega
        · exact h
      have hd : u / 16 < 16 ^ (i - 1) := by
        apply Nat.div_lt_of_lt_mul
        rwa [← Nat.pow_succ', show (i - 1).succ = i by omega]
      obtain ⟨u', i', s', hl, h2, h2x, h3, h4, h5, h6⟩ := ih (u / 16) (by omega) (i - 1) (s.set (i - 1) (dgS (u % 16))) (by omega) (by simpa using hs) (set_lt hx _ _ (dgS_lt _)) (by omega) (by omega) hd
      refine ⟨u', i', s', ?_, h2, h2x, h3, h4, h5, ?_⟩
      · have hm := ibit_and_mask u 4 15 hu (by decide) (by decide)
        have key := fb16L_l1 (T := T) u i s
        have hm' : ibit BinOp.and .u64 (u : Int) 15 = ((u % 16 : Nat) : Int) := hm
        have hf : (u : Int).fdiv 16 = ((u / 16 : Nat) : Int) := by
          rw [Int.fdiv_eq_ediv_of_nonneg _ (by omega)]; omega
        have hi1 : (i : Int) - 1 = ((i - 1 : Nat) : Int) := by omega
        rw [hm', hf, hi1] at key
        simp only [Int.toNat_natCast, Nat.mul_one, Nat.zero_add] at key
        rw [set_bytes, renEs_bytes] at key
        refine LC.go hT key ?_ hl
        simp only [AllT, List.length_map]
        repeat' (first | exact trivial | exact rfl | apply And.intro)
        all_goals (simp only [fitsK, max_i64, min_i64, max_u64, min_u64, Bool.and_eq_true, decide_eq_true_eq, decide_eq_false_iff_not, beq_eq_false_iff_ne, ne_eq, and_true, true_and]; omega)
      · have hf : fbS 16 u = fbS 16 (u / 16) ++ [dgS (u % 16)] := by rw [fbS, dif_neg (by omega)]
        rw [h6, hf, drop_set s (i - 1) _ (by omega), show i - 1 + 1 = i by omega]
        simp

set_option maxRecDepth 20000 in
theorem fb16_p1 (n u i : Int) (s x : List Nat) : runW Pd Gd T 100000 false [.br false, .br false, .br false, .br false, .inl, .br true, .inl, .inl, .br false, .wrap 7, .wrap 9, .tr 999999 (Tr.weak [16, 15, 14, 13, 12, 11, 10, 1, 3, 4] [] [0]), .code (.exit 0) (fb16Fr u i) [some (.cells (List.map byteEV s) (.obj 115))], .br false, .br false, .is 101 (.p (.str x))] [] [] 72 [.p .nils, .p (.int .u64 n), .p (.int .i64 16), .p (.bool false), .p (.bool false)] [] = some ([Vc.Claim Pd Gd ((100, .sl 0 (0 + (i - 1).toNat * 1) (65 - (i - 1).toNat) 1) :: (99, .p (.int .i64 (i - 1))) :: (94, .p (.bool false)) :: (89, .p (.bool false)) :: (63, .ptr 0 (0 + (i - 1).toNat * 1)) :: (62, .p (.int .u8 ((dgS u.toNat : Nat) : Int))) :: (61, .p (.int .u64 u)) :: (60, .p (.int .i64 (i - 1))) :: (13, .p (.int .i64 (i - 1))) :: (59, .p (.int .i64 (i - 1))) :: (58, .p (.int .i64 i)) :: fb16Fr u i) [some (.cells ((List.map byteEV s).set (0 + (i - 1).toNat * 1) (.p (.int .u8 ((dgS u.toNat : Nat) : Int)))) (.obj 115))] { dst := some 101, op := Op.convert 37 9 (Operand.tmp 100), type := 9, pos := "itoa.go:146", after := #[{ on := 1, ground := Ground.data }], guard := none } (.p (.str x)), (decide (0 ≤ i - 1) && decide (i - 1 ≤ (65 : Int)) && decide (0 + 65 * 1 ≤ ((List.map byteEV s).set (0 + (i - 1).toNat * 1) (.p (.int .u8 ((dgS u.toNat : Nat) : Int)))).length)) = true, false = false, false = false, decide (0 + (i - 1).toNat * 1 + 1 ≤ (List.map byteEV s).length) = true, (decide (0 ≤ i - 1) && decide (i - 1 < (65 : Int))) = true, (decide (0 ≤ u) && decide (u < (36 : Int))) = true, fitsK .i64 (i - 1) = true, LC Pd Gd 102 0 (fb16Fr n 65) [some (.cells (List.map byteEV (List.replicate 65 0)) (.obj 115))] (loopAt Pd 72 0) (.exit 0) (fb16Fr u i) [some (.cells (List.map byteEV s) (.obj 115))], true = true, true = true, true = true, true = true, true = true, true = true, true = true, false = false, true = true, true = true, true = true, false = false, false = false, false = false, false = false], .tup [.p .nils, .p (.str x)], []) := by kernel_rfl

set_option maxRecDepth 20000 in
theorem fb16_rc (hT : TabOk Pd Gd T) (u : Nat) (hu : u < 18446744073709551616) : RC Pd Gd 72 [EV.p PV.nils, EV.p (PV.int .u64 u), EV.p (PV.int .i64 16), EV.p (PV.bool false), EV.p (PV.bool false)] [] (.tup [EV.p PV.nils, EV.p (PV.str (fbS 16 u))]) [] := by
  obtain ⟨u', i', s', hl, h2, h2x, h3, h4, h5, h6⟩ := fb16_loop hT u 65 (List.replicate 65 0) hu (by simp) (fun x hx => by rw [List.eq_of_mem_replicate hx]; decide) (by decide) (by decide) (Nat.lt_trans hu (by decide))
  have h60 : List.drop 65 (List.replicate 65 0) = [] := List.drop_eq_nil_of_le (by rw [List.length_replicate]; exact Nat.le_refl _)
  rw [h60, List.append_nil] at h6
  have hi1 : (i' : Int) - 1 = ((i' - 1 : Nat) : Int) := by omega
  have key := fb16_p1 (T := T) u u' i' s' (fbS 16 u)
  rw [hi1] at key
  simp only [Int.toNat_natCast, Nat.mul_one, Nat.zero_add] at key
  rw [set_bytes] at key
  refine RC.of_run hT key ?_
  have hd : (s'.set (i' - 1) (dgS u')).drop (i' - 1) = fbS 16 u := by
    rw [drop_set _ _ _ (by omega), show i' - 1 + 1 = i' by omega, h6]
  have hlen : ((s'.set (i' - 1) (dgS u')).drop (i' - 1)).length = 65 - (i' - 1) := by
    rw [List.length_drop, List.length_set, h2]
  have ht : ((s'.set (i' - 1) (dgS u')).drop (i' - 1)).take (65 - (i' - 1)) = fbS 16 u := by
    rw [List.take_of_length_le (by omega), hd]
  have hcl := claim_conv (P := Pd) (G := Gd) (fr := ((100, EV.sl 0 (i' - 1) (65 - (i' - 1)) 1) :: (99, EV.p (PV.int .i64 ((i' - 1 : Nat) : Int))) :: (94, EV.p (PV.bool false)) :: (89, EV.p (PV.bool false)) :: (63, EV.ptr 0 (i' - 1)) ::
          (62, EV.p (PV.int .u8 ((dgS u' : Nat) : Int))) :: (61, EV.p (PV.int .u64 u')) :: (60, EV.p (PV.int .i64 ((i' - 1 : Nat) : Int))) :: (13, EV.p (PV.int .i64 ((i' - 1 : Nat) : Int))) :: (59, EV.p (PV.int .i64 ((i' - 1 : Nat) : Int))) :: (58, EV.p (PV.int .i64 i')) :: fb16Fr u' i'))
    (H := [some (Blk.cells (List.map byteEV (s'.set (i' - 1) (dgS u'))) (Kd.obj 115))]) (o := { dst := some 101, op := Op.convert 37 9 (Operand.tmp 100), type := 9, pos := "itoa.go:146", after := #[{ on := 1, ground := Ground.data }], guard := none })
    (i := 0) (off := i' - 1) (n := 65 - (i' - 1)) (s := s'.set (i' - 1) (dgS u')) (k := .obj 115) rfl Go.Proofs.Tryd.underlying37 Go.Proofs.Tryd.underlying9 Go.Proofs.Tryd.underlying5 rfl rfl (by rw [ht, ← hd, hlen]) (set_lt h2x _ _ (dgS_lt _))
  rw [ht] at hcl
  simp only [AllT, List.length_map, List.length_set]
  repeat' (first | exact trivial | exact hcl | exact hl | exact rfl | apply And.intro)
  all_goals (simp only [fitsK, max_i64, min_i64, max_u64, min_u64, Bool.and_eq_true, decide_eq_true_eq, decide_eq_false_iff_not, beq_eq_false_iff_ne, ne_eq, and_true, true_and]; omega)

def fb8Fr (u i : Int) : Fr := [(16, EV.p (PV.int .u64 7)), (15, EV.p (PV.int .u64 8)), (14, EV.p (PV.int .u64 3)), (13, EV.p (PV.int .i64 i)), (12, EV.ptr 0 0), (11, EV.p (PV.str [])), (10, EV.p PV.nils), (1, EV.p (PV.int .u64 u)), (3, EV.p (PV.bool false)), (4, EV.p (PV.bool false))]

theorem fb8L_l1 (u i : Int) (s : List Nat) : runC Pd Gd T 100000 false [.br true] 102 0 (fb8Fr u i) [some (.cells (List.map byteEV s) (.obj 115))] (loopAt Pd 72 0) [16, 15, 14, 13, 12, 11, 10, 1, 3, 4] [] [0] = some ([true = true, decide (0 + (i - 1).toNat * 1 + 1 ≤ (List.map byteEV s).length) = true, (decide (0 ≤ i - 1) && decide (i - 1 < (65 : Int))) = true, (true && decide (ibit BinOp.and .u64 u 7 < (36 : Int))) = true, fitsK .i64 (i - 1) = true, decide (u ≥ 8) = true], .normal, fb8Fr (u.fdiv 8) (i - 1), [some (.cells (renEs (selOf 0 [0]) ((List.map byteEV s).set (0 + (i - 1).toNat * 1) (.p (.int .u8 ((dgS (ibit BinOp.and .u64 u 7).toNat : Nat) : Int))))) (.obj 115))]) := by kernel_rfl

theorem fb8L_l2 (u i : Int) (s : List Nat) : runC Pd Gd T 100000 false [.br false] 102 0 (fb8Fr u i) [some (.cells (List.map byteEV s) (.obj 115))] (loopAt Pd 72 0) [16, 15, 14, 13, 12, 11, 10, 1, 3, 4] [] [0] = some ([decide (u ≥ 8) = false], .exit 0, fb8Fr u i, [some (.cells (renEs (selOf 0 [0]) (List.map byteEV s)) (.obj 115))]) := by kernel_rfl

theorem fb8_loop (hT : TabOk Pd Gd T) : ∀ (u i : Nat) (s : List Nat), u < 18446744073709551616 → s.length = 65 → (∀ x ∈ s, x < 256) → 1 ≤ i → i ≤ 65 → u < 8 ^ i →
    ∃ (u' i' : Nat) (s' : List Nat), LC Pd Gd 102 0 (fb8Fr u i) [some (Blk.cells (List.map byteEV s) (Kd.obj 115))] (loopAt Pd 72 0) (.exit 0) (fb8Fr u' i') [some (Blk.cells (List.map byteEV s') (Kd.obj 115))] ∧
      s'.length = 65 ∧ (∀ x ∈ s', x < 256) ∧ 1 ≤ i' ∧ i' ≤ 65 ∧ u' < 8 ∧ dgS u' :: s'.drop i' = fbS 8 u ++ s.drop i := by
  intro u
  induction u using Nat.strongRecOn with
  | _ u ih =>
    intro i s hu hs hx h1 h65 hp
    by_cases hb : u < 8
    · refine ⟨u, i, s, ?_, hs, hx, h1, h65, hb, ?_⟩
      · have key := fb8L_l2 (T := T) u i s
        rw [renEs_bytes] at key
        exact LC.leave hT key ⟨by simp only [decide_eq_false_iff_not]; omega, trivial⟩ (by simp)
      · rw [fbS, dif_pos (.inl hb)]; rfl
    · have hi : 2 ≤ i := by
        rcases Nat.lt_or_ge i 2 with h | h
        · have : i = 1 := by omega
          subst this
          simp at hp; omega
        · exact h
      have hd : u / 8 < 8 ^ (i - 1) := by
        apply Nat.div_lt_of_lt_mul
        rwa [← Nat.pow_succ', show (i - 1).succ = i by omega]
      obtain ⟨u', i', s', hl, h2, h2x, h3, h4, h5, h6⟩ := ih (u / 8) (by omega) (i - 1) (s.set (i - 1) (dgS (u % 8))) (by omega) (by simpa using hs) (set_lt hx _ _ (dgS_lt _)) (by omega) (by omega) hd
      refine ⟨u', i', s', ?_, h2, h2x, h3, h4, h5, ?_⟩
      · have hm := ibit_and_mask u 3 7 hu (by decide) (by decide)
        have key := fb8L_l1 (T := T) u i s
        have hm' : ibit BinOp.and .u64 (u : Int) 7 = ((u % 8 : Nat) : Int) := hm
        have hf : (u : Int).fdiv 8 = ((u / 8 : Nat) : Int) := by
          rw [Int.fdiv_eq_ediv_of_nonneg _ (by omega)]; omega
        have hi1 : (i : Int) - 1 = ((i - 1 : Nat) : Int) := by omega
        rw [hm', hf, hi1] at key
        simp only [Int.toNat_natCast, Nat.mul_one, Nat.zero_add] at key
        rw [set_bytes, renEs_bytes] at key
        refine LC.go hT key ?_ hl
        simp only [AllT, List.length_map]
        repeat' (first | exact trivial | exact rfl | apply And.intro)
        all_goals (simp only [fitsK, max_i64, min_i64, max_u64, min_u64, Bool.and_eq_true, decide_eq_true_eq, decide_eq_false_iff_not, beq_eq_false_iff_ne, ne_eq, and_true, true_and]; omega)
      · have hf : fbS 8 u = fbS 8 (u / 8) ++ [dgS (u % 8)] := by rw [fbS, dif_neg (by omega)]
        rw [h6, hf, drop_set s (i - 1) _ (by omega), show i - 1 + 1 = i by omega]
        simp

set_option maxRecDepth 20000 in
theorem fb8_p1 (n u i : Int) (s x : List Nat) : runW Pd Gd T 100000 false [.br false, .br false, .br false, .br false, .inl, .br true, .inl, .inl, .br false, .wrap 7, .wrap 9, .tr 999999 (Tr.weak [16, 15, 14, 13, 12, 11, 10, 1, 3, 4] [] [0]), .code (.exit 0) (fb8Fr u i) [some (.cells (List.map byteEV s) (.obj 115))], .br false, .br false, .is 101 (.p (.str x))] [] [] 72 [.p .nils, .p (.int .u64 n), .p (.int .i64 8), .p (.bool false), .p (.bool false)] [] = some ([Vc.Claim Pd Gd ((100, .sl 0 (0 + (i - 1).toNat * 1) (65 - (i - 1).toNat) 1) :: (99, .p (.int .i64 (i - 1))) :: (94, .p (.bool false)) :: (89, .p (.bool false)) :: (63, .ptr 0 (0 + (i - 1).toNat * 1)) :: (62, .p (.int .u8 ((dgS u.toNat : Nat) : Int))) :: (61, .p (.int .u64 u)) :: (60, .p (.int .i64 (i - 1))) :: (13, .p (.int .i64 (i - 1))) :: (59, .p (.int .i64 (i - 1))) :: (58, .p (.int .i64 i)) :: fb8Fr u i) [some (.cells ((List.map byteEV s).set (0 + (i - 1).toNat * 1) (.p (.int .u8 ((dgS u.toNat : Nat) : Int)))) (.obj 115))] { dst := some 101, op := Op.convert 37 9 (Operand.tmp 100), type := 9, pos := "itoa.go:146", after := #[{ on := 1, ground := Ground.data }], guard := none } (.p (.str x)), (decide (0 ≤ i - 1) && decide (i - 1 ≤ (65 : Int)) && decide (0 + 65 * 1 ≤ ((List.map byteEV s).set (0 + (i - 1).toNat * 1) (.p (.int .u8 ((dgS u.toNat : Nat) : Int)))).length)) = true, false = false, false = false, decide (0 + (i - 1).toNat * 1 + 1 ≤ (List.map byteEV s).length) = true, (decide (0 ≤ i - 1) && decide (i - 1 < (65 : Int))) = true, (decide (0 ≤ u) && decide (u < (36 : Int))) = true, fitsK .i64 (i - 1) = true, LC Pd Gd 102 0 (fb8Fr n 65) [some (.cells (List.map byteEV (List.replicate 65 0)) (.obj 115))] (loopAt Pd 72 0) (.exit 0) (fb8Fr u i) [some (.cells (List.map byteEV s) (.obj 115))], true = true, true = true, true = true, true = true, true = true, true = true, true = true, false = false, true = true, true = true, true = true, false = false, false = false, false = false, false = false], .tup [.p .nils, .p (.str x)], []) := by kernel_rfl

set_option maxRecDepth 20000 in
theorem fb8_rc (hT : TabOk Pd Gd T) (u : Nat) (hu : u < 18446744073709551616) : RC Pd Gd 72 [EV.p PV.nils, EV.p (PV.int .u64 u), EV.p (PV.int .i64 8), EV.p (PV.bool false), EV.p (PV.bool false)] [] (.tup [EV.p PV.nils, EV.p (PV.str (fbS 8 u))]) [] := by
  obtain ⟨u', i', s', hl, h2, h2x, h3, h4, h5, h6⟩ := fb8_loop hT u 65 (List.replicate 65 0) hu (by simp) (fun x hx => by rw [List.eq_of_mem_replicate hx]; decide) (by decide) (by decide) (Nat.lt_trans hu (by decide))
  have h60 : List.drop 65 (List.replicate 65 0) = [] := List.drop_eq_nil_of_le (by rw [List.length_replicate]; exact Nat.le_refl _)
  rw [h60, List.append_nil] at h6
  have hi1 : (i' : Int) - 1 = ((i' - 1 : Nat) : Int) := by omega
  have key := fb8_p1 (T := T) u u' i' s' (fbS 8 u)
  rw [hi1] at key
  simp only [Int.toNat_natCast, Nat.mul_one, Nat.zero_add] at key
  rw [set_bytes] at key
  refine RC.of_run hT key ?_
  have hd : (s'.set (i' - 1) (dgS u')).drop (i' - 1) = fbS 8 u := by
    rw [drop_set _ _ _ (by omega), show i' - 1 + 1 = i' by omega, h6]
  have hlen : ((s'.set (i' - 1) (dgS u')).drop (i' - 1)).length = 65 - (i' - 1) := by
    rw [List.length_drop, List.length_set, h2]
  have ht : ((s'.set (i' - 1) (dgS u')).drop (i' - 1)).take (65 - (i' - 1)) = fbS 8 u := by
    rw [List.take_of_length_le (by omega), hd]
  have hcl := claim_conv (P := Pd) (G := Gd) (fr := ((100, EV.sl 0 (i' - 1) (65 - (i' - 1)) 1) :: (99, EV.p (PV.int .i64 ((i' - 1 : Nat) : Int))) :: (94, EV.p (PV.bool false)) :: (89, EV.p (PV.bool false)) :: (63, EV.ptr 0 (i' - 1)) ::
          (62, EV.p (PV.int .u8 ((dgS u' : Nat) : Int))) :: (61, EV.p (PV.int .u64 u')) :: (60, EV.p (PV.int .i64 ((i' - 1 : Nat) : Int))) :: (13, EV.p (PV.int .i64 ((i' - 1 : Nat) : Int))) :: (59, EV.p (PV.int .i64 ((i' - 1 : Nat) : Int))) :: (58, EV.p (PV.int .i64 i')) :: fb8Fr u' i'))
    (H := [some (Blk.cells (List.map byteEV (s'.set (i' - 1) (dgS u'))) (Kd.obj 115))]) (o := { dst := some 101, op := Op.convert 37 9 (Operand.tmp 100), type := 9, pos := "itoa.go:146", after := #[{ on := 1, ground := Ground.data }], guard := none })
    (i := 0) (off := i' - 1) (n := 65 - (i' - 1)) (s := s'.set (i' - 1) (dgS u')) (k := .obj 115) rfl Go.Proofs.Tryd.underlying37 Go.Proofs.Tryd.underlying9 Go.Proofs.Tryd.underlying5 rfl rfl (by rw [ht, ← hd, hlen]) (set_lt h2x _ _ (dgS_lt _))
  rw [ht] at hcl
  simp only [AllT, List.length_map, List.length_set]
  repeat' (first | exact trivial | exact hcl | exact hl | exact rfl | apply And.intro)
  all_goals (simp only [fitsK, max_i64, min_i64, max_u64, min_u64, Bool.and_eq_true, decide_eq_true_eq, decide_eq_false_iff_not, beq_eq_false_iff_ne, ne_eq, and_true, true_and]; omega)

theorem RC.args {P : Program} {G : Glob} {f : FuncId} {args args' : List EV} {H H' : Heap} {ret : EV} (h : RC P G f args' H ret H') (ha : ∀ own w regs vs, VEs own w regs args vs → VEs own w regs args' vs) : RC P G f args H ret H' :=
  fun F regs w vs hh hG hv => h F regs w vs hh hG (ha _ _ _ _ hv)

theorem VE.unkb {own : Own} {w : World} {regs : List Reg} {b : Bool} {u : Value} (h : VE own w regs (.kb b) u) : VE own w regs (.p (.bool b)) u := by
  cases h; exact .p _ _ (.bool b)

theorem bits_args {own : Own} {w : World} {regs : List Reg} {a b c : EV} {x y : Bool} {vs : List Value} (h : VEs own w regs [a, b, c, .kb x, .kb y] vs) : VEs own w regs [a, b, c, .p (.bool x), .p (.bool y)] vs := by
  cases h with | cons _ _ _ _ h1 h =>
  cases h with | cons _ _ _ _ h2 h =>
  cases h with | cons _ _ _ _ h3 h =>
  cases h with | cons _ _ _ _ h4 h =>
  cases h with | cons _ _ _ _ h5 h =>
  exact .cons _ _ _ _ h1 (.cons _ _ _ _ h2 (.cons _ _ _ _ h3 (.cons _ _ _ _ h4.unkb (.cons _ _ _ _ h5.unkb h))))

theorem fu16_p1 (n : Int) (r : List Nat) : runFn Pd Gd T 100000 false [.inl, .br false, .callv (.tup [.p .nils, .p (.str r)]) []] 48 [.p (.int .u64 n), .p (.int .i64 16)] [] = some ([RC Pd Gd 72 [.p .nils, .p (.int .u64 n), .p (.int .i64 16), .kb false, .kb false] [] (.tup [.p .nils, .p (.str r)]) [], false = false], .p (.str r), []) := by kernel_rfl

theorem fu8_p1 (n : Int) (r : List Nat) : runFn Pd Gd T 100000 false [.inl, .br false, .callv (.tup [.p .nils, .p (.str r)]) []] 48 [.p (.int .u64 n), .p (.int .i64 8)] [] = some ([RC Pd Gd 72 [.p .nils, .p (.int .u64 n), .p (.int .i64 8), .kb false, .kb false] [] (.tup [.p .nils, .p (.str r)]) [], false = false], .p (.str r), []) := by kernel_rfl

theorem fu10_p1 (n : Int) (r : List Nat) : runFn Pd Gd T 100000 false [.callv (.p (.str r)) []] 48 [.p (.int .u64 n), .p (.int .i64 10)] [] = some ([RC Pd Gd 58 [.p (.int .u64 n), .p (.int .i64 10)] [] (.p (.str r)) []], .p (.str r), []) := by kernel_rfl


theorem fmt16_rc (hT : TabOk Pd Gd T) (u : Nat) (hu : u < 18446744073709551616) : RC Pd Gd 48 [.p (.int .u64 (u : Nat)), .p (.int .i64 16)] [] (.p (.str (fbS 16 u))) [] :=
  RC.of_runFn hT (fu16_p1 (T := T) u (fbS 16 u)) ⟨RC.args (fb16_rc hT u hu) (fun _ _ _ _ h => bits_args h), rfl, trivial⟩

theorem fmt8_rc (hT : TabOk Pd Gd T) (u : Nat) (hu : u < 18446744073709551616) : RC Pd Gd 48 [.p (.int .u64 (u : Nat)), .p (.int .i64 8)] [] (.p (.str (fbS 8 u))) [] :=
  RC.of_runFn hT (fu8_p1 (T := T) u (fbS 8 u)) ⟨RC.args (fb8_rc hT u hu) (fun _ _ _ _ h => bits_args h), rfl, trivial⟩

theorem fmt10_rc (hT : TabOk Pd Gd T) (u : Nat) (hu : u < 18446744073709551616) : RC Pd Gd 48 [.p (.int .u64 (u : Nat)), .p (.int .i64 10)] [] (.p (.str (decS u))) [] :=
  RC.of_runFn hT (fu10_p1 (T := T) u (decS u)) ⟨fu10_rc u hu, trivial⟩
end
end Go.Vc

/- VeUint -/
namespace Go.Vc
set_option linter.unusedVariables false
set_option linter.unusedSimpArgs false

theorem claim_cell {P : Program} {G : Glob} {fr : Fr} {H : Heap} {o : Oper} {t : TypeId} {x : Operand} {i off : Nat} {cs : List EV} {k : Kd} {v : EV} (ho : o.op = .load t x) (ha : aggT P t = some false) (hx : opnd fr x = .ptr i off)
    (hi : H[i]? = some (some (.cells cs k))) (hv : cs[off]? = some v) : Claim P G fr H o v := by
  refine ⟨none, .inl rfl, .inr ?_⟩
  unfold memE
  rw [ho]
  simp only [hx]
  unfold loadE
  rw [ha]
  cases sizeT P t <;> simp only [hi, hv]

theorem ibit_or8 (a b : Nat) (ha : a < 256) (hb : b < 256) : ibit BinOp.or .u8 (a : Int) (b : Int) = ((a ||| b : Nat) : Int) := by
  have e1 : ∀ n : Nat, n < 256 → (BitVec.ofInt 8 (n : Int)) = BitVec.ofNat 8 n := fun n hn => by
    apply BitVec.eq_of_toNat_eq
    simp
  have h3 : ∀ n : Nat, n < 256 → (BitVec.ofNat 8 n).toNat = n := fun n hn => by simp; omega
  show IntKind.u8.wrap ((BitVec.ofInt 8 (a : Int) ||| BitVec.ofInt 8 (b : Int)).toNat : Int) = _
  rw [e1 a ha, e1 b hb, BitVec.toNat_or, h3 a ha, h3 b hb]
  have := Nat.or_lt_two_pow (x := a) (y := b) (n := 8) (by simpa using ha) (by simpa using hb)
  exact wrap_fits (by unfold fitsK; rw [max_u8, min_u8]; simp only [Bool.and_eq_true, decide_eq_true_eq]; omega)

/-- The digit that a byte is, letters after the ten digits. -/
def lowB (c : Nat) : Nat := c ||| 32
def digP (c : Nat) : Option Nat := if 48 ≤ c ∧ c ≤ 57 then some (c - 48) else if 97 ≤ lowB c ∧ lowB c ≤ 122 then some (lowB c - 87) else none

theorem lowB_lt (c : Nat) (h : c < 256) : lowB c < 256 := Nat.or_lt_two_pow (n := 8) (by simpa using h) (by decide)
theorem lowB_small (c : Nat) (h : c < 48) : lowB c < 97 := by
  have := Nat.or_lt_two_pow (x := c) (y := 32) (n := 6) (by omega) (by decide)
  unfold lowB; omega

inductive PU where
  | ok (n : Nat)
  | syn
  | rng

def puS (b : Nat) : List Nat → Nat → PU
  | [], n => .ok n
  | c :: r, n => match digP c with
    | none => .syn
    | some d => if b ≤ d then .syn else if 18446744073709551615 < n * b + d then .rng else puS b r (n * b + d)

section
variable {T : Tab}
theorem puD1_l1 (s : List Nat) (i n cut b c l : Int) : runC Pd Gd T 100000 false [.br true, .is 104 (.p (.int .u8 c)), .br false, .br true, .br true, .br true] 172 0 [(101, .p (.int .i64 i)), (100, .p (.int .i64 (↑s.length : Int))), (99, .sl 0 0 s.length 1), (13, .p (.int .u64 n)), (12, .p (.bool false)), (11, .p (.int .u64 18446744073709551615)), (10, .p (.int .u64 cut)), (8, .p (.bool false)), (7, .p .nili), (6, .p (.int .u64 0)), (1, .p (.int .i64 b)), (0, .p (.str s)), (9, .p (.str s))] [some (.cells (List.map byteEV s) .any)] (loopAt Pd 91 0) [101, 100, 99, 13, 12, 11, 10, 8, 7, 6, 1, 0, 9] [] [0] = some ([decide (c - 48 ≥ b) = true, fitsK .u8 b = true, fitsK .u8 (c - 48) = true, decide (c ≤ 57) = true, decide (48 ≤ c) = true, (c == 95) = false, Vc.Claim Pd Gd [(103, .ptr 0 (0 + i.toNat * 1)), (102, .p (.bool (decide (i < (↑s.length : Int))))), (101, .p (.int .i64 i)), (100, .p (.int .i64 (↑s.length : Int))), (99, .sl 0 0 s.length 1), (13, .p (.int .u64 n)), (12, .p (.bool false)), (11, .p (.int .u64 18446744073709551615)), (10, .p (.int .u64 cut)), (8, .p (.bool false)), (7, .p .nili), (6, .p (.int .u64 0)), (1, .p (.int .i64 b)), (0, .p (.str s)), (9, .p (.str s))] [some (.cells (List.map byteEV s) .any)] { dst := some 104, op := Op.load 5 (Operand.tmp 103), type := 5, pos := "atoi.go:108", after := #[{ on := 0, ground := Ground.data }], guard := none } (.p (.int .u8 c)), (decide (0 ≤ i) && decide (i < (↑s.length : Int))) = true, decide (i < (↑s.length : Int)) = true], .ret, [(101, .p (.int .i64 i)), (100, .p (.int .i64 (↑s.length : Int))), (99, .sl 0 0 s.length 1), (13, .p (.int .u64 n)), (12, .p (.bool false)), (11, .p (.int .u64 18446744073709551615)), (10, .p (.int .u64 cut)), (8, .p (.bool false)), (7, .p (.iface 129 (.int .i64 2))), (6, .p (.int .u64 0)), (1, .p (.int .i64 b)), (0, .p (.str s)), (9, .p (.str s))], [some (.cells (renEs (selOf 0 [0]) (List.map byteEV s)) .any)]) := by kernel_rfl

theorem puD2_l1 (s : List Nat) (i n cut b c l : Int) : runC Pd Gd T 100000 false [.br true, .is 104 (.p (.int .u8 c)), .br false, .br true, .br true, .br false, .br true] 172 0 [(101, .p (.int .i64 i)), (100, .p (.int .i64 (↑s.length : Int))), (99, .sl 0 0 s.length 1), (13, .p (.int .u64 n)), (12, .p (.bool false)), (11, .p (.int .u64 18446744073709551615)), (10, .p (.int .u64 cut)), (8, .p (.bool false)), (7, .p .nili), (6, .p (.int .u64 0)), (1, .p (.int .i64 b)), (0, .p (.str s)), (9, .p (.str s))] [some (.cells (List.map byteEV s) .any)] (loopAt Pd 91 0) [101, 100, 99, 13, 12, 11, 10, 8, 7, 6, 1, 0, 9] [] [0] = some ([decide (n ≥ cut) = true, decide (c - 48 ≥ b) = false, fitsK .u8 b = true, fitsK .u8 (c - 48) = true, decide (c ≤ 57) = true, decide (48 ≤ c) = true, (c == 95) = false, Vc.Claim Pd Gd [(103, .ptr 0 (0 + i.toNat * 1)), (102, .p (.bool (decide (i < (↑s.length : Int))))), (101, .p (.int .i64 i)), (100, .p (.int .i64 (↑s.length : Int))), (99, .sl 0 0 s.length 1), (13, .p (.int .u64 n)), (12, .p (.bool false)), (11, .p (.int .u64 18446744073709551615)), (10, .p (.int .u64 cut)), (8, .p (.bool false)), (7, .p .nili), (6, .p (.int .u64 0)), (1, .p (.int .i64 b)), (0, .p (.str s)), (9, .p (.str s))] [some (.cells (List.map byteEV s) .any)] { dst := some 104, op := Op.load 5 (Operand.tmp 103), type := 5, pos := "atoi.go:108", after := #[{ on := 0, ground := Ground.data }], guard := none } (.p (.int .u8 c)), (decide (0 ≤ i) && decide (i < (↑s.length : Int))) = true, decide (i < (↑s.length : Int)) = true], .ret, [(101, .p (.int .i64 i)), (100, .p (.int .i64 (↑s.length : Int))), (99, .sl 0 0 s.length 1), (13, .p (.int .u64 n)), (12, .p (.bool false)), (11, .p (.int .u64 18446744073709551615)), (10, .p (.int .u64 cut)), (8, .p (.bool false)), (7, .p (.iface 129 (.int .i64 1))), (6, .p (.int .u64 18446744073709551615)), (1, .p (.int .i64 b)), (0, .p (.str s)), (9, .p (.str s))], [some (.cells (renEs (selOf 0 [0]) (List.map byteEV s)) .any)]) := by kernel_rfl

theorem puD3_l1 (s : List Nat) (i n cut b c l : Int) : runC Pd Gd T 100000 false [.br true, .is 104 (.p (.int .u8 c)), .br false, .br true, .br true, .br false, .br false, .wrap 151, .br true] 172 0 [(101, .p (.int .i64 i)), (100, .p (.int .i64 (↑s.length : Int))), (99, .sl 0 0 s.length 1), (13, .p (.int .u64 n)), (12, .p (.bool false)), (11, .p (.int .u64 18446744073709551615)), (10, .p (.int .u64 cut)), (8, .p (.bool false)), (7, .p .nili), (6, .p (.int .u64 0)), (1, .p (.int .i64 b)), (0, .p (.str s)), (9, .p (.str s))] [some (.cells (List.map byteEV s) .any)] (loopAt Pd 91 0) [101, 100, 99, 13, 12, 11, 10, 8, 7, 6, 1, 0, 9] [] [0] = some ([decide (IntKind.u64.wrap (n * b + (c - 48)) < n * b) = true, fitsK .u64 (c - 48) = true, fitsK .u64 (n * b) = true, fitsK .u64 b = true, decide (n ≥ cut) = false, decide (c - 48 ≥ b) = false, fitsK .u8 b = true, fitsK .u8 (c - 48) = true, decide (c ≤ 57) = true, decide (48 ≤ c) = true, (c == 95) = false, Vc.Claim Pd Gd [(103, .ptr 0 (0 + i.toNat * 1)), (102, .p (.bool (decide (i < (↑s.length : Int))))), (101, .p (.int .i64 i)), (100, .p (.int .i64 (↑s.length : Int))), (99, .sl 0 0 s.length 1), (13, .p (.int .u64 n)), (12, .p (.bool false)), (11, .p (.int .u64 18446744073709551615)), (10, .p (.int .u64 cut)), (8, .p (.bool false)), (7, .p .nili), (6, .p (.int .u64 0)), (1, .p (.int .i64 b)), (0, .p (.str s)), (9, .p (.str s))] [some (.cells (List.map byteEV s) .any)] { dst := some 104, op := Op.load 5 (Operand.tmp 103), type := 5, pos := "atoi.go:108", after := #[{ on := 0, ground := Ground.data }], guard := none } (.p (.int .u8 c)), (decide (0 ≤ i) && decide (i < (↑s.length : Int))) = true, decide (i < (↑s.length : Int)) = true], .ret, [(101, .p (.int .i64 i)), (100, .p (.int .i64 (↑s.length : Int))), (99, .sl 0 0 s.length 1), (13, .p (.int .u64 (n * b))), (12, .p (.bool false)), (11, .p (.int .u64 18446744073709551615)), (10, .p (.int .u64 cut)), (8, .p (.bool false)), (7, .p (.iface 129 (.int .i64 1))), (6, .p (.int .u64 18446744073709551615)), (1, .p (.int .i64 b)), (0, .p (.str s)), (9, .p (.str s))], [some (.cells (renEs (selOf 0 [0]) (List.map byteEV s)) .any)]) := by kernel_rfl

theorem puD4_l1 (s : List Nat) (i n cut b c l : Int) : runC Pd Gd T 100000 false [.br true, .is 104 (.p (.int .u8 c)), .br false, .br true, .br true, .br false, .br false, .wrap 151, .br false, .br false] 172 0 [(101, .p (.int .i64 i)), (100, .p (.int .i64 (↑s.length : Int))), (99, .sl 0 0 s.length 1), (13, .p (.int .u64 n)), (12, .p (.bool false)), (11, .p (.int .u64 18446744073709551615)), (10, .p (.int .u64 cut)), (8, .p (.bool false)), (7, .p .nili), (6, .p (.int .u64 0)), (1, .p (.int .i64 b)), (0, .p (.str s)), (9, .p (.str s))] [some (.cells (List.map byteEV s) .any)] (loopAt Pd 91 0) [101, 100, 99, 13, 12, 11, 10, 8, 7, 6, 1, 0, 9] [] [0] = some ([fitsK .i64 (i + 1) = true, decide (IntKind.u64.wrap (n * b + (c - 48)) > 18446744073709551615) = false, decide (IntKind.u64.wrap (n * b + (c - 48)) < n * b) = false, fitsK .u64 (c - 48) = true, fitsK .u64 (n * b) = true, fitsK .u64 b = true, decide (n ≥ cut) = false, decide (c - 48 ≥ b) = false, fitsK .u8 b = true, fitsK .u8 (c - 48) = true, decide (c ≤ 57) = true, decide (48 ≤ c) = true, (c == 95) = false, Vc.Claim Pd Gd [(103, .ptr 0 (0 + i.toNat * 1)), (102, .p (.bool (decide (i < (↑s.length : Int))))), (101, .p (.int .i64 i)), (100, .p (.int .i64 (↑s.length : Int))), (99, .sl 0 0 s.length 1), (13, .p (.int .u64 n)), (12, .p (.bool false)), (11, .p (.int .u64 18446744073709551615)), (10, .p (.int .u64 cut)), (8, .p (.bool false)), (7, .p .nili), (6, .p (.int .u64 0)), (1, .p (.int .i64 b)), (0, .p (.str s)), (9, .p (.str s))] [some (.cells (List.map byteEV s) .any)] { dst := some 104, op := Op.load 5 (Operand.tmp 103), type := 5, pos := "atoi.go:108", after := #[{ on := 0, ground := Ground.data }], guard := none } (.p (.int .u8 c)), (decide (0 ≤ i) && decide (i < (↑s.length : Int))) = true, decide (i < (↑s.length : Int)) = true], .normal, [(101, .p (.int .i64 (i + 1))), (100, .p (.int .i64 (↑s.length : Int))), (99, .sl 0 0 s.length 1), (13, .p (.int .u64 (IntKind.u64.wrap (n * b + (c - 48))))), (12, .p (.bool false)), (11, .p (.int .u64 18446744073709551615)), (10, .p (.int .u64 cut)), (8, .p (.bool false)), (7, .p .nili), (6, .p (.int .u64 0)), (1, .p (.int .i64 b)), (0, .p (.str s)), (9, .p (.str s))], [some (.cells (renEs (selOf 0 [0]) (List.map byteEV s)) .any)]) := by kernel_rfl

theorem puE1_l1 (s : List Nat) (i n cut b c l : Int) : runC Pd Gd T 100000 false [.br true, .is 104 (.p (.int .u8 c)), .br false, .br true, .br false, .callv (.p (.int .u8 l)) [], .br true, .callv (.p (.int .u8 l)) [], .br true, .callv (.p (.int .u8 l)) [], .br true] 172 0 [(101, .p (.int .i64 i)), (100, .p (.int .i64 (↑s.length : Int))), (99, .sl 0 0 s.length 1), (13, .p (.int .u64 n)), (12, .p (.bool false)), (11, .p (.int .u64 18446744073709551615)), (10, .p (.int .u64 cut)), (8, .p (.bool false)), (7, .p .nili), (6, .p (.int .u64 0)), (1, .p (.int .i64 b)), (0, .p (.str s)), (9, .p (.str s))] [some (.cells (List.map byteEV s) .any)] (loopAt Pd 91 0) [101, 100, 99, 13, 12, 11, 10, 8, 7, 6, 1, 0, 9] [] [0] = some ([decide (l - 97 + 10 ≥ b) = true, fitsK .u8 b = true, fitsK .u8 (l - 97 + 10) = true, fitsK .u8 (l - 97) = true, RC Pd Gd 95 [.p (.int .u8 c)] [] (.p (.int .u8 l)) [], decide (l ≤ 122) = true, RC Pd Gd 95 [.p (.int .u8 c)] [] (.p (.int .u8 l)) [], decide (97 ≤ l) = true, RC Pd Gd 95 [.p (.int .u8 c)] [] (.p (.int .u8 l)) [], decide (c ≤ 57) = false, decide (48 ≤ c) = true, (c == 95) = false, Vc.Claim Pd Gd [(103, .ptr 0 (0 + i.toNat * 1)), (102, .p (.bool (decide (i < (↑s.length : Int))))), (101, .p (.int .i64 i)), (100, .p (.int .i64 (↑s.length : Int))), (99, .sl 0 0 s.length 1), (13, .p (.int .u64 n)), (12, .p (.bool false)), (11, .p (.int .u64 18446744073709551615)), (10, .p (.int .u64 cut)), (8, .p (.bool false)), (7, .p .nili), (6, .p (.int .u64 0)), (1, .p (.int .i64 b)), (0, .p (.str s)), (9, .p (.str s))] [some (.cells (List.map byteEV s) .any)] { dst := some 104, op := Op.load 5 (Operand.tmp 103), type := 5, pos := "atoi.go:108", after := #[{ on := 0, ground := Ground.data }], guard := none } (.p (.int .u8 c)), (decide (0 ≤ i) && decide (i < (↑s.length : Int))) = true, decide (i < (↑s.length : Int)) = true], .ret, [(101, .p (.int .i64 i)), (100, .p (.int .i64 (↑s.length : Int))), (99, .sl 0 0 s.length 1), (13, .p (.int .u64 n)), (12, .p (.bool false)), (11, .p (.int .u64 18446744073709551615)), (10, .p (.int .u64 cut)), (8, .p (.bool false)), (7, .p (.iface 129 (.int .i64 2))), (6, .p (.int .u64 0)), (1, .p (.int .i64 b)), (0, .p (.str s)), (9, .p (.str s))], [some (.cells (renEs (selOf 0 [0]) (List.map byteEV s)) .any)]) := by kernel_rfl

theorem puE2_l1 (s : List Nat) (i n cut b c l : Int) : runC Pd Gd T 100000 false [.br true, .is 104 (.p (.int .u8 c)), .br false, .br true, .br false, .callv (.p (.int .u8 l)) [], .br true, .callv (.p (.int .u8 l)) [], .br true, .callv (.p (.int .u8 l)) [], .br false, .br true] 172 0 [(101, .p (.int .i64 i)), (100, .p (.int .i64 (↑s.length : Int))), (99, .sl 0 0 s.length 1), (13, .p (.int .u64 n)), (12, .p (.bool false)), (11, .p (.int .u64 18446744073709551615)), (10, .p (.int .u64 cut)), (8, .p (.bool false)), (7, .p .nili), (6, .p (.int .u64 0)), (1, .p (.int .i64 b)), (0, .p (.str s)), (9, .p (.str s))] [some (.cells (List.map byteEV s) .any)] (loopAt Pd 91 0) [101, 100, 99, 13, 12, 11, 10, 8, 7, 6, 1, 0, 9] [] [0] = some ([decide (n ≥ cut) = true, decide (l - 97 + 10 ≥ b) = false, fitsK .u8 b = true, fitsK .u8 (l - 97 + 10) = true, fitsK .u8 (l - 97) = true, RC Pd Gd 95 [.p (.int .u8 c)] [] (.p (.int .u8 l)) [], decide (l ≤ 122) = true, RC Pd Gd 95 [.p (.int .u8 c)] [] (.p (.int .u8 l)) [], decide (97 ≤ l) = true, RC Pd Gd 95 [.p (.int .u8 c)] [] (.p (.int .u8 l)) [], decide (c ≤ 57) = false, decide (48 ≤ c) = true, (c == 95) = false, Vc.Claim Pd Gd [(103, .ptr 0 (0 + i.toNat * 1)), (102, .p (.bool (decide (i < (↑s.length : Int))))), (101, .p (.int .i64 i)), (100, .p (.int .i64 (↑s.length : Int))), (99, .sl 0 0 s.length 1), (13, .p (.int .u64 n)), (12, .p (.bool false)), (11, .p (.int .u64 18446744073709551615)), (10, .p (.int .u64 cut)), (8, .p (.bool false)), (7, .p .nili), (6, .p (.int .u64 0)), (1, .p (.int .i64 b)), (0, .p (.str s)), (9, .p (.str s))] [some (.cells (List.map byteEV s) .any)] { dst := some 104, op := Op.load 5 (Operand.tmp 103), type := 5, pos := "atoi.go:108", after := #[{ on := 0, ground := Ground.data }], guard := none } (.p (.int .u8 c)), (decide (0 ≤ i) && decide (i < (↑s.length : Int))) = true, decide (i < (↑s.length : Int)) = true], .ret, [(101, .p (.int .i64 i)), (100, .p (.int .i64 (↑s.length : Int))), (99, .sl 0 0 s.length 1), (13, .p (.int .u64 n)), (12, .p (.bool false)), (11, .p (.int .u64 18446744073709551615)), (10, .p (.int .u64 cut)), (8, .p (.bool false)), (7, .p (.iface 129 (.int .i64 1))), (6, .p (.int .u64 18446744073709551615)), (1, .p (.int .i64 b)), (0, .p (.str s)), (9, .p (.str s))], [some (.cells (renEs (selOf 0 [0]) (List.map byteEV s)) .any)]) := by kernel_rfl

theorem puE3_l1 (s : List Nat) (i n cut b c l : Int) : runC Pd Gd T 100000 false [.br true, .is 104 (.p (.int .u8 c)), .br false, .br true, .br false, .callv (.p (.int .u8 l)) [], .br true, .callv (.p (.int .u8 l)) [], .br true, .callv (.p (.int .u8 l)) [], .br false, .br false, .wrap 151, .br true] 172 0 [(101, .p (.int .i64 i)), (100, .p (.int .i64 (↑s.length : Int))), (99, .sl 0 0 s.length 1), (13, .p (.int .u64 n)), (12, .p (.bool false)), (11, .p (.int .u64 18446744073709551615)), (10, .p (.int .u64 cut)), (8, .p (.bool false)), (7, .p .nili), (6, .p (.int .u64 0)), (1, .p (.int .i64 b)), (0, .p (.str s)), (9, .p (.str s))] [some (.cells (List.map byteEV s) .any)] (loopAt Pd 91 0) [101, 100, 99, 13, 12, 11, 10, 8, 7, 6, 1, 0, 9] [] [0] = some ([decide (IntKind.u64.wrap (n * b + (l - 97 + 10)) < n * b) = true, fitsK .u64 (l - 97 + 10) = true, fitsK .u64 (n * b) = true, fitsK .u64 b = true, decide (n ≥ cut) = false, decide (l - 97 + 10 ≥ b) = false, fitsK .u8 b = true, fitsK .u8 (l - 97 + 10) = true, fitsK .u8 (l - 97) = true, RC Pd Gd 95 [.p (.int .u8 c)] [] (.p (.int .u8 l)) [], decide (l ≤ 122) = true, RC Pd Gd 95 [.p (.int .u8 c)] [] (.p (.int .u8 l)) [], decide (97 ≤ l) = true, RC Pd Gd 95 [.p (.int .u8 c)] [] (.p (.int .u8 l)) [], decide (c ≤ 57) = false, decide (48 ≤ c) = true, (c == 95) = false, Vc.Claim Pd Gd [(103, .ptr 0 (0 + i.toNat * 1)), (102, .p (.bool (decide (i < (↑s.length : Int))))), (101, .p (.int .i64 i)), (100, .p (.int .i64 (↑s.length : Int))), (99, .sl 0 0 s.length 1), (13, .p (.int .u64 n)), (12, .p (.bool false)), (11, .p (.int .u64 18446744073709551615)), (10, .p (.int .u64 cut)), (8, .p (.bool false)), (7, .p .nili), (6, .p (.int .u64 0)), (1, .p (.int .i64 b)), (0, .p (.str s)), (9, .p (.str s))] [some (.cells (List.map byteEV s) .any)] { dst := some 104, op := Op.load 5 (Operand.tmp 103), type := 5, pos := "atoi.go:108", after := #[{ on := 0, ground := Ground.data }], guard := none } (.p (.int .u8 c)), (decide (0 ≤ i) && decide (i < (↑s.length : Int))) = true, decide (i < (↑s.length : Int)) = true], .ret, [(101, .p (.int .i64 i)), (100, .p (.int .i64 (↑s.length : Int))), (99, .sl 0 0 s.length 1), (13, .p (.int .u64 (n * b))), (12, .p (.bool false)), (11, .p (.int .u64 18446744073709551615)), (10, .p (.int .u64 cut)), (8, .p (.bool false)), (7, .p (.iface 129 (.int .i64 1))), (6, .p (.int .u64 18446744073709551615)), (1, .p (.int .i64 b)), (0, .p (.str s)), (9, .p (.str s))], [some (.cells (renEs (selOf 0 [0]) (List.map byteEV s)) .any)]) := by kernel_rfl

theorem puE4_l1 (s : List Nat) (i n cut b c l : Int) : runC Pd Gd T 100000 false [.br true, .is 104 (.p (.int .u8 c)), .br false, .br true, .br false, .callv (.p (.int .u8 l)) [], .br true, .callv (.p (.int .u8 l)) [], .br true, .callv (.p (.int .u8 l)) [], .br false, .br false, .wrap 151, .br false, .br false] 172 0 [(101, .p (.int .i64 i)), (100, .p (.int .i64 (↑s.length : Int))), (99, .sl 0 0 s.length 1), (13, .p (.int .u64 n)), (12, .p (.bool false)), (11, .p (.int .u64 18446744073709551615)), (10, .p (.int .u64 cut)), (8, .p (.bool false)), (7, .p .nili), (6, .p (.int .u64 0)), (1, .p (.int .i64 b)), (0, .p (.str s)), (9, .p (.str s))] [some (.cells (List.map byteEV s) .any)] (loopAt Pd 91 0) [101, 100, 99, 13, 12, 11, 10, 8, 7, 6, 1, 0, 9] [] [0] = some ([fitsK .i64 (i + 1) = true, decide (IntKind.u64.wrap (n * b + (l - 97 + 10)) > 18446744073709551615) = false, decide (IntKind.u64.wrap (n * b + (l - 97 + 10)) < n * b) = false, fitsK .u64 (l - 97 + 10) = true, fitsK .u64 (n * b) = true, fitsK .u64 b = true, decide (n ≥ cut) = false, decide (l - 97 + 10 ≥ b) = false, fitsK .u8 b = true, fitsK .u8 (l - 97 + 10) = true, fitsK .u8 (l - 97) = true, RC Pd Gd 95 [.p (.int .u8 c)] [] (.p (.int .u8 l)) [], decide (l ≤ 122) = true, RC Pd Gd 95 [.p (.int .u8 c)] [] (.p (.int .u8 l)) [], decide (97 ≤ l) = true, RC Pd Gd 95 [.p (.int .u8 c)] [] (.p (.int .u8 l)) [], decide (c ≤ 57) = false, decide (48 ≤ c) = true, (c == 95) = false, Vc.Claim Pd Gd [(103, .ptr 0 (0 + i.toNat * 1)), (102, .p (.bool (decide (i < (↑s.length : Int))))), (101, .p (.int .i64 i)), (100, .p (.int .i64 (↑s.length : Int))), (99, .sl 0 0 s.length 1), (13, .p (.int .u64 n)), (12, .p (.bool false)), (11, .p (.int .u64 18446744073709551615)), (10, .p (.int .u64 cut)), (8, .p (.bool false)), (7, .p .nili), (6, .p (.int .u64 0)), (1, .p (.int .i64 b)), (0, .p (.str s)), (9, .p (.str s))] [some (.cells (List.map byteEV s) .any)] { dst := some 104, op := Op.load 5 (Operand.tmp 103), type := 5, pos := "atoi.go:108", after := #[{ on := 0, ground := Ground.data }], guard := none } (.p (.int .u8 c)), (decide (0 ≤ i) && decide (i < (↑s.length : Int))) = true, decide (i < (↑s.length : Int)) = true], .normal, [(101, .p (.int .i64 (i + 1))), (100, .p (.int .i64 (↑s.length : Int))), (99, .sl 0 0 s.length 1), (13, .p (.int .u64 (IntKind.u64.wrap (n * b + (l - 97 + 10))))), (12, .p (.bool false)), (11, .p (.int .u64 18446744073709551615)), (10, .p (.int .u64 cut)), (8, .p (.bool false)), (7, .p .nili), (6, .p (.int .u64 0)), (1, .p (.int .i64 b)), (0, .p (.str s)), (9, .p (.str s))], [some (.cells (renEs (selOf 0 [0]) (List.map byteEV s)) .any)]) := by kernel_rfl

theorem puF1_l1 (s : List Nat) (i n cut b c l : Int) : runC Pd Gd T 100000 false [.br true, .is 104 (.p (.int .u8 c)), .br false, .br true, .br false, .callv (.p (.int .u8 l)) [], .br true, .callv (.p (.int .u8 l)) [], .br false] 172 0 [(101, .p (.int .i64 i)), (100, .p (.int .i64 (↑s.length : Int))), (99, .sl 0 0 s.length 1), (13, .p (.int .u64 n)), (12, .p (.bool false)), (11, .p (.int .u64 18446744073709551615)), (10, .p (.int .u64 cut)), (8, .p (.bool false)), (7, .p .nili), (6, .p (.int .u64 0)), (1, .p (.int .i64 b)), (0, .p (.str s)), (9, .p (.str s))] [some (.cells (List.map byteEV s) .any)] (loopAt Pd 91 0) [101, 100, 99, 13, 12, 11, 10, 8, 7, 6, 1, 0, 9] [] [0] = some ([decide (l ≤ 122) = false, RC Pd Gd 95 [.p (.int .u8 c)] [] (.p (.int .u8 l)) [], decide (97 ≤ l) = true, RC Pd Gd 95 [.p (.int .u8 c)] [] (.p (.int .u8 l)) [], decide (c ≤ 57) = false, decide (48 ≤ c) = true, (c == 95) = false, Vc.Claim Pd Gd [(103, .ptr 0 (0 + i.toNat * 1)), (102, .p (.bool (decide (i < (↑s.length : Int))))), (101, .p (.int .i64 i)), (100, .p (.int .i64 (↑s.length : Int))), (99, .sl 0 0 s.length 1), (13, .p (.int .u64 n)), (12, .p (.bool false)), (11, .p (.int .u64 18446744073709551615)), (10, .p (.int .u64 cut)), (8, .p (.bool false)), (7, .p .nili), (6, .p (.int .u64 0)), (1, .p (.int .i64 b)), (0, .p (.str s)), (9, .p (.str s))] [some (.cells (List.map byteEV s) .any)] { dst := some 104, op := Op.load 5 (Operand.tmp 103), type := 5, pos := "atoi.go:108", after := #[{ on := 0, ground := Ground.data }], guard := none } (.p (.int .u8 c)), (decide (0 ≤ i) && decide (i < (↑s.length : Int))) = true, decide (i < (↑s.length : Int)) = true], .ret, [(101, .p (.int .i64 i)), (100, .p (.int .i64 (↑s.length : Int))), (99, .sl 0 0 s.length 1), (13, .p (.int .u64 n)), (12, .p (.bool false)), (11, .p (.int .u64 18446744073709551615)), (10, .p (.int .u64 cut)), (8, .p (.bool false)), (7, .p (.iface 129 (.int .i64 2))), (6, .p (.int .u64 0)), (1, .p (.int .i64 b)), (0, .p (.str s)), (9, .p (.str s))], [some (.cells (renEs (selOf 0 [0]) (List.map byteEV s)) .any)]) := by kernel_rfl

theorem puF2_l1 (s : List Nat) (i n cut b c l : Int) : runC Pd Gd T 100000 false [.br true, .is 104 (.p (.int .u8 c)), .br false, .br true, .br false, .callv (.p (.int .u8 l)) [], .br false] 172 0 [(101, .p (.int .i64 i)), (100, .p (.int .i64 (↑s.length : Int))), (99, .sl 0 0 s.length 1), (13, .p (.int .u64 n)), (12, .p (.bool false)), (11, .p (.int .u64 18446744073709551615)), (10, .p (.int .u64 cut)), (8, .p (.bool false)), (7, .p .nili), (6, .p (.int .u64 0)), (1, .p (.int .i64 b)), (0, .p (.str s)), (9, .p (.str s))] [some (.cells (List.map byteEV s) .any)] (loopAt Pd 91 0) [101, 100, 99, 13, 12, 11, 10, 8, 7, 6, 1, 0, 9] [] [0] = some ([decide (97 ≤ l) = false, RC Pd Gd 95 [.p (.int .u8 c)] [] (.p (.int .u8 l)) [], decide (c ≤ 57) = false, decide (48 ≤ c) = true, (c == 95) = false, Vc.Claim Pd Gd [(103, .ptr 0 (0 + i.toNat * 1)), (102, .p (.bool (decide (i < (↑s.length : Int))))), (101, .p (.int .i64 i)), (100, .p (.int .i64 (↑s.length : Int))), (99, .sl 0 0 s.length 1), (13, .p (.int .u64 n)), (12, .p (.bool false)), (11, .p (.int .u64 18446744073709551615)), (10, .p (.int .u64 cut)), (8, .p (.bool false)), (7, .p .nili), (6, .p (.int .u64 0)), (1, .p (.int .i64 b)), (0, .p (.str s)), (9, .p (.str s))] [some (.cells (List.map byteEV s) .any)] { dst := some 104, op := Op.load 5 (Operand.tmp 103), type := 5, pos := "atoi.go:108", after := #[{ on := 0, ground := Ground.data }], guard := none } (.p (.int .u8 c)), (decide (0 ≤ i) && decide (i < (↑s.length : Int))) = true, decide (i < (↑s.length : Int)) = true], .ret, [(101, .p (.int .i64 i)), (100, .p (.int .i64 (↑s.length : Int))), (99, .sl 0 0 s.length 1), (13, .p (.int .u64 n)), (12, .p (.bool false)), (11, .p (.int .u64 18446744073709551615)), (10, .p (.int .u64 cut)), (8, .p (.bool false)), (7, .p (.iface 129 (.int .i64 2))), (6, .p (.int .u64 0)), (1, .p (.int .i64 b)), (0, .p (.str s)), (9, .p (.str s))], [some (.cells (renEs (selOf 0 [0]) (List.map byteEV s)) .any)]) := by kernel_rfl

theorem puF3_l1 (s : List Nat) (i n cut b c l : Int) : runC Pd Gd T 100000 false [.br true, .is 104 (.p (.int .u8 c)), .br false, .br false, .callv (.p (.int .u8 l)) [], .br false] 172 0 [(101, .p (.int .i64 i)), (100, .p (.int .i64 (↑s.length : Int))), (99, .sl 0 0 s.length 1), (13, .p (.int .u64 n)), (12, .p (.bool false)), (11, .p (.int .u64 18446744073709551615)), (10, .p (.int .u64 cut)), (8, .p (.bool false)), (7, .p .nili), (6, .p (.int .u64 0)), (1, .p (.int .i64 b)), (0, .p (.str s)), (9, .p (.str s))] [some (.cells (List.map byteEV s) .any)] (loopAt Pd 91 0) [101, 100, 99, 13, 12, 11, 10, 8, 7, 6, 1, 0, 9] [] [0] = some ([decide (97 ≤ l) = false, RC Pd Gd 95 [.p (.int .u8 c)] [] (.p (.int .u8 l)) [], decide (48 ≤ c) = false, (c == 95) = false, Vc.Claim Pd Gd [(103, .ptr 0 (0 + i.toNat * 1)), (102, .p (.bool (decide (i < (↑s.length : Int))))), (101, .p (.int .i64 i)), (100, .p (.int .i64 (↑s.length : Int))), (99, .sl 0 0 s.length 1), (13, .p (.int .u64 n)), (12, .p (.bool false)), (11, .p (.int .u64 18446744073709551615)), (10, .p (.int .u64 cut)), (8, .p (.bool false)), (7, .p .nili), (6, .p (.int .u64 0)), (1, .p (.int .i64 b)), (0, .p (.str s)), (9, .p (.str s))] [some (.cells (List.map byteEV s) .any)] { dst := some 104, op := Op.load 5 (Operand.tmp 103), type := 5, pos := "atoi.go:108", after := #[{ on := 0, ground := Ground.data }], guard := none } (.p (.int .u8 c)), (decide (0 ≤ i) && decide (i < (↑s.length : Int))) = true, decide (i < (↑s.length : Int)) = true], .ret, [(101, .p (.int .i64 i)), (100, .p (.int .i64 (↑s.length : Int))), (99, .sl 0 0 s.length 1), (13, .p (.int .u64 n)), (12, .p (.bool false)), (11, .p (.int .u64 18446744073709551615)), (10, .p (.int .u64 cut)), (8, .p (.bool false)), (7, .p (.iface 129 (.int .i64 2))), (6, .p (.int .u64 0)), (1, .p (.int .i64 b)), (0, .p (.str s)), (9, .p (.str s))], [some (.cells (renEs (selOf 0 [0]) (List.map byteEV s)) .any)]) := by kernel_rfl

theorem puX_l1 (s : List Nat) (i n cut b c l : Int) : runC Pd Gd T 100000 false [.br false] 172 0 [(101, .p (.int .i64 i)), (100, .p (.int .i64 (↑s.length : Int))), (99, .sl 0 0 s.length 1), (13, .p (.int .u64 n)), (12, .p (.bool false)), (11, .p (.int .u64 18446744073709551615)), (10, .p (.int .u64 cut)), (8, .p (.bool false)), (7, .p .nili), (6, .p (.int .u64 0)), (1, .p (.int .i64 b)), (0, .p (.str s)), (9, .p (.str s))] [some (.cells (List.map byteEV s) .any)] (loopAt Pd 91 0) [101, 100, 99, 13, 12, 11, 10, 8, 7, 6, 1, 0, 9] [] [0] = some ([decide (i < (↑s.length : Int)) = false], .exit 3, [(101, .p (.int .i64 i)), (100, .p (.int .i64 (↑s.length : Int))), (99, .sl 0 0 s.length 1), (13, .p (.int .u64 n)), (12, .p (.bool false)), (11, .p (.int .u64 18446744073709551615)), (10, .p (.int .u64 cut)), (8, .p (.bool false)), (7, .p .nili), (6, .p (.int .u64 0)), (1, .p (.int .i64 b)), (0, .p (.str s)), (9, .p (.str s))], [some (.cells (renEs (selOf 0 [0]) (List.map byteEV s)) .any)]) := by kernel_rfl

theorem lower_p1 (c : Int) : runFn Pd Gd T 100000 false [] 95 [.p (.int .u8 c)] [] = some ([], .p (.int .u8 (ibit BinOp.or .u8 c 32)), []) := by kernel_rfl

theorem pu10ok_p1 (s : List Nat) (i n m e : Int) : runW Pd Gd T 100000 false [.br false, .br true, .br true, .br false, .br false, .br false, .br true, .wrap 97, .tr 999999 (Tr.weak [101, 100, 99, 13, 12, 11, 10, 8, 7, 6, 1, 0, 9] [] [0]), .tr 999999 Tr.dk, .code (.exit 3) [(101, .p (.int .i64 i)), (100, .p (.int .i64 (↑s.length : Int))), (99, .sl 0 0 s.length 1), (13, .p (.int .u64 n)), (12, .p (.bool false)), (11, .p (.int .u64 18446744073709551615)), (10, .p (.int .u64 1844674407370955162)), (8, .p (.bool false)), (7, .p .nili), (6, .p (.int .u64 0)), (1, .p (.int .i64 10)), (0, .p (.str s)), (9, .p (.str s))] [some (.cells (List.map byteEV s) .any)], .br false] [] [] 91 [.p (.str s), .p (.int .i64 10), .p (.int .i64 64)] [] = some ([false = false, LC Pd Gd 172 0 [(101, .p (.int .i64 0)), (100, .p (.int .i64 (↑s.length : Int))), (99, .sl 0 0 s.length 1), (13, .p (.int .u64 0)), (12, .p (.bool false)), (11, .p (.int .u64 18446744073709551615)), (10, .p (.int .u64 1844674407370955162)), (8, .p (.bool false)), (7, .p .nili), (6, .p (.int .u64 0)), (1, .p (.int .i64 10)), (0, .p (.str s)), (9, .p (.str s))] [some (.cells (List.map dk (renEs (selOf 0 [0]) (List.map byteEV s))) .any)] (loopAt Pd 91 0) (.exit 3) [(101, .p (.int .i64 i)), (100, .p (.int .i64 (↑s.length : Int))), (99, .sl 0 0 s.length 1), (13, .p (.int .u64 n)), (12, .p (.bool false)), (11, .p (.int .u64 18446744073709551615)), (10, .p (.int .u64 1844674407370955162)), (8, .p (.bool false)), (7, .p .nili), (6, .p (.int .u64 0)), (1, .p (.int .i64 10)), (0, .p (.str s)), (9, .p (.str s))] [some (.cells (List.map byteEV s) .any)], decide (s.length ≤ 1099511627776) = true, true = true, true = true, true = true, false = false, false = false, false = false, true = true, true = true, (s == []) = false], .tup [.p (.int .u64 n), .p .nili], []) := by kernel_rfl

theorem pu10er_p1 (s : List Nat) (i n m e : Int) : runW Pd Gd T 100000 false [.br false, .br true, .br true, .br false, .br false, .br false, .br true, .wrap 97, .tr 999999 (Tr.weak [101, 100, 99, 13, 12, 11, 10, 8, 7, 6, 1, 0, 9] [] [0]), .tr 999999 Tr.dk, .code .ret [(101, .p (.int .i64 i)), (100, .p (.int .i64 (↑s.length : Int))), (99, .sl 0 0 s.length 1), (13, .p (.int .u64 n)), (12, .p (.bool false)), (11, .p (.int .u64 18446744073709551615)), (10, .p (.int .u64 1844674407370955162)), (8, .p (.bool false)), (7, .p (.iface 129 (.int .i64 e))), (6, .p (.int .u64 m)), (1, .p (.int .i64 10)), (0, .p (.str s)), (9, .p (.str s))] [some (.cells (List.map byteEV s) .any)]] [] [] 91 [.p (.str s), .p (.int .i64 10), .p (.int .i64 64)] [] = some ([LC Pd Gd 172 0 [(101, .p (.int .i64 0)), (100, .p (.int .i64 (↑s.length : Int))), (99, .sl 0 0 s.length 1), (13, .p (.int .u64 0)), (12, .p (.bool false)), (11, .p (.int .u64 18446744073709551615)), (10, .p (.int .u64 1844674407370955162)), (8, .p (.bool false)), (7, .p .nili), (6, .p (.int .u64 0)), (1, .p (.int .i64 10)), (0, .p (.str s)), (9, .p (.str s))] [some (.cells (List.map dk (renEs (selOf 0 [0]) (List.map byteEV s))) .any)] (loopAt Pd 91 0) .ret [(101, .p (.int .i64 i)), (100, .p (.int .i64 (↑s.length : Int))), (99, .sl 0 0 s.length 1), (13, .p (.int .u64 n)), (12, .p (.bool false)), (11, .p (.int .u64 18446744073709551615)), (10, .p (.int .u64 1844674407370955162)), (8, .p (.bool false)), (7, .p (.iface 129 (.int .i64 e))), (6, .p (.int .u64 m)), (1, .p (.int .i64 10)), (0, .p (.str s)), (9, .p (.str s))] [some (.cells (List.map byteEV s) .any)], decide (s.length ≤ 1099511627776) = true, true = true, true = true, true = true, false = false, false = false, false = false, true = true, true = true, (s == []) = false], .tup [.p (.int .u64 m), .p (.iface 129 (.int .i64 e))], []) := by kernel_rfl

theorem pu16ok_p1 (s : List Nat) (i n m e : Int) : runW Pd Gd T 100000 false [.br false, .br true, .br true, .br false, .br false, .br false, .br false, .br true, .wrap 97, .tr 999999 (Tr.weak [101, 100, 99, 13, 12, 11, 10, 8, 7, 6, 1, 0, 9] [] [0]), .tr 999999 Tr.dk, .code (.exit 3) [(101, .p (.int .i64 i)), (100, .p (.int .i64 (↑s.length : Int))), (99, .sl 0 0 s.length 1), (13, .p (.int .u64 n)), (12, .p (.bool false)), (11, .p (.int .u64 18446744073709551615)), (10, .p (.int .u64 1152921504606846976)), (8, .p (.bool false)), (7, .p .nili), (6, .p (.int .u64 0)), (1, .p (.int .i64 16)), (0, .p (.str s)), (9, .p (.str s))] [some (.cells (List.map byteEV s) .any)], .br false] [] [] 91 [.p (.str s), .p (.int .i64 16), .p (.int .i64 64)] [] = some ([false = false, LC Pd Gd 172 0 [(101, .p (.int .i64 0)), (100, .p (.int .i64 (↑s.length : Int))), (99, .sl 0 0 s.length 1), (13, .p (.int .u64 0)), (12, .p (.bool false)), (11, .p (.int .u64 18446744073709551615)), (10, .p (.int .u64 1152921504606846976)), (8, .p (.bool false)), (7, .p .nili), (6, .p (.int .u64 0)), (1, .p (.int .i64 16)), (0, .p (.str s)), (9, .p (.str s))] [some (.cells (List.map dk (renEs (selOf 0 [0]) (List.map byteEV s))) .any)] (loopAt Pd 91 0) (.exit 3) [(101, .p (.int .i64 i)), (100, .p (.int .i64 (↑s.length : Int))), (99, .sl 0 0 s.length 1), (13, .p (.int .u64 n)), (12, .p (.bool false)), (11, .p (.int .u64 18446744073709551615)), (10, .p (.int .u64 1152921504606846976)), (8, .p (.bool false)), (7, .p .nili), (6, .p (.int .u64 0)), (1, .p (.int .i64 16)), (0, .p (.str s)), (9, .p (.str s))] [some (.cells (List.map byteEV s) .any)], decide (s.length ≤ 1099511627776) = true, true = true, true = true, true = true, false = false, false = false, false = false, false = false, true = true, true = true, (s == []) = false], .tup [.p (.int .u64 n), .p .nili], []) := by kernel_rfl

theorem pu16er_p1 (s : List Nat) (i n m e : Int) : runW Pd Gd T 100000 false [.br false, .br true, .br true, .br false, .br false, .br false, .br false, .br true, .wrap 97, .tr 999999 (Tr.weak [101, 100, 99, 13, 12, 11, 10, 8, 7, 6, 1, 0, 9] [] [0]), .tr 999999 Tr.dk, .code .ret [(101, .p (.int .i64 i)), (100, .p (.int .i64 (↑s.length : Int))), (99, .sl 0 0 s.length 1), (13, .p (.int .u64 n)), (12, .p (.bool false)), (11, .p (.int .u64 18446744073709551615)), (10, .p (.int .u64 1152921504606846976)), (8, .p (.bool false)), (7, .p (.iface 129 (.int .i64 e))), (6, .p (.int .u64 m)), (1, .p (.int .i64 16)), (0, .p (.str s)), (9, .p (.str s))] [some (.cells (List.map byteEV s) .any)]] [] [] 91 [.p (.str s), .p (.int .i64 16), .p (.int .i64 64)] [] = some ([LC Pd Gd 172 0 [(101, .p (.int .i64 0)), (100, .p (.int .i64 (↑s.length : Int))), (99, .sl 0 0 s.length 1), (13, .p (.int .u64 0)), (12, .p (.bool false)), (11, .p (.int .u64 18446744073709551615)), (10, .p (.int .u64 1152921504606846976)), (8, .p (.bool false)), (7, .p .nili), (6, .p (.int .u64 0)), (1, .p (.int .i64 16)), (0, .p (.str s)), (9, .p (.str s))] [some (.cells (List.map dk (renEs (selOf 0 [0]) (List.map byteEV s))) .any)] (loopAt Pd 91 0) .ret [(101, .p (.int .i64 i)), (100, .p (.int .i64 (↑s.length : Int))), (99, .sl 0 0 s.length 1), (13, .p (.int .u64 n)), (12, .p (.bool false)), (11, .p (.int .u64 18446744073709551615)), (10, .p (.int .u64 1152921504606846976)), (8, .p (.bool false)), (7, .p (.iface 129 (.int .i64 e))), (6, .p (.int .u64 m)), (1, .p (.int .i64 16)), (0, .p (.str s)), (9, .p (.str s))] [some (.cells (List.map byteEV s) .any)], decide (s.length ≤ 1099511627776) = true, true = true, true = true, true = true, false = false, false = false, false = false, false = false, true = true, true = true, (s == []) = false], .tup [.p (.int .u64 m), .p (.iface 129 (.int .i64 e))], []) := by kernel_rfl

theorem pu8ok_p1 (s : List Nat) (i n m e : Int) : runW Pd Gd T 100000 false [.br false, .br true, .br true, .br false, .br false, .br false, .br false, .br false, .wrap 97, .tr 999999 (Tr.weak [101, 100, 99, 13, 12, 11, 10, 8, 7, 6, 1, 0, 9] [] [0]), .tr 999999 Tr.dk, .code (.exit 3) [(101, .p (.int .i64 i)), (100, .p (.int .i64 (↑s.length : Int))), (99, .sl 0 0 s.length 1), (13, .p (.int .u64 n)), (12, .p (.bool false)), (11, .p (.int .u64 18446744073709551615)), (10, .p (.int .u64 2305843009213693952)), (8, .p (.bool false)), (7, .p .nili), (6, .p (.int .u64 0)), (1, .p (.int .i64 8)), (0, .p (.str s)), (9, .p (.str s))] [some (.cells (List.map byteEV s) .any)], .br false] [] [] 91 [.p (.str s), .p (.int .i64 8), .p (.int .i64 64)] [] = some ([false = false, LC Pd Gd 172 0 [(101, .p (.int .i64 0)), (100, .p (.int .i64 (↑s.length : Int))), (99, .sl 0 0 s.length 1), (13, .p (.int .u64 0)), (12, .p (.bool false)), (11, .p (.int .u64 18446744073709551615)), (10, .p (.int .u64 2305843009213693952)), (8, .p (.bool false)), (7, .p .nili), (6, .p (.int .u64 0)), (1, .p (.int .i64 8)), (0, .p (.str s)), (9, .p (.str s))] [some (.cells (List.map dk (renEs (selOf 0 [0]) (List.map byteEV s))) .any)] (loopAt Pd 91 0) (.exit 3) [(101, .p (.int .i64 i)), (100, .p (.int .i64 (↑s.length : Int))), (99, .sl 0 0 s.length 1), (13, .p (.int .u64 n)), (12, .p (.bool false)), (11, .p (.int .u64 18446744073709551615)), (10, .p (.int .u64 2305843009213693952)), (8, .p (.bool false)), (7, .p .nili), (6, .p (.int .u64 0)), (1, .p (.int .i64 8)), (0, .p (.str s)), (9, .p (.str s))] [some (.cells (List.map byteEV s) .any)], decide (s.length ≤ 1099511627776) = true, true = true, true = true, true = true, true = true, true = true, false = false, false = false, false = false, false = false, false = false, true = true, true = true, (s == []) = false], .tup [.p (.int .u64 n), .p .nili], []) := by kernel_rfl

theorem pu8er_p1 (s : List Nat) (i n m e : Int) : runW Pd Gd T 100000 false [.br false, .br true, .br true, .br false, .br false, .br false, .br false, .br false, .wrap 97, .tr 999999 (Tr.weak [101, 100, 99, 13, 12, 11, 10, 8, 7, 6, 1, 0, 9] [] [0]), .tr 999999 Tr.dk, .code .ret [(101, .p (.int .i64 i)), (100, .p (.int .i64 (↑s.length : Int))), (99, .sl 0 0 s.length 1), (13, .p (.int .u64 n)), (12, .p (.bool false)), (11, .p (.int .u64 18446744073709551615)), (10, .p (.int .u64 2305843009213693952)), (8, .p (.bool false)), (7, .p (.iface 129 (.int .i64 e))), (6, .p (.int .u64 m)), (1, .p (.int .i64 8)), (0, .p (.str s)), (9, .p (.str s))] [some (.cells (List.map byteEV s) .any)]] [] [] 91 [.p (.str s), .p (.int .i64 8), .p (.int .i64 64)] [] = some ([LC Pd Gd 172 0 [(101, .p (.int .i64 0)), (100, .p (.int .i64 (↑s.length : Int))), (99, .sl 0 0 s.length 1), (13, .p (.int .u64 0)), (12, .p (.bool false)), (11, .p (.int .u64 18446744073709551615)), (10, .p (.int .u64 2305843009213693952)), (8, .p (.bool false)), (7, .p .nili), (6, .p (.int .u64 0)), (1, .p (.int .i64 8)), (0, .p (.str s)), (9, .p (.str s))] [some (.cells (List.map dk (renEs (selOf 0 [0]) (List.map byteEV s))) .any)] (loopAt Pd 91 0) .ret [(101, .p (.int .i64 i)), (100, .p (.int .i64 (↑s.length : Int))), (99, .sl 0 0 s.length 1), (13, .p (.int .u64 n)), (12, .p (.bool false)), (11, .p (.int .u64 18446744073709551615)), (10, .p (.int .u64 2305843009213693952)), (8, .p (.bool false)), (7, .p (.iface 129 (.int .i64 e))), (6, .p (.int .u64 m)), (1, .p (.int .i64 8)), (0, .p (.str s)), (9, .p (.str s))] [some (.cells (List.map byteEV s) .any)], decide (s.length ≤ 1099511627776) = true, true = true, true = true, true = true, true = true, true = true, false = false, false = false, false = false, false = false, false = false, true = true, true = true, (s == []) = false], .tup [.p (.int .u64 m), .p (.iface 129 (.int .i64 e))], []) := by kernel_rfl


theorem lower_rc (hT : TabOk Pd Gd T) (c : Nat) (h : c < 256) : RC Pd Gd 95 [.p (.int .u8 (c : Nat))] [] (.p (.int .u8 (lowB c : Nat))) [] := by
  have key := lower_p1 (T := T) (c : Int)
  have e := ibit_or8 c 32 h (by decide)
  have e2 : ibit BinOp.or .u8 (c : Int) 32 = ((lowB c : Nat) : Int) := e
  rw [e2] at key
  exact RC.of_runFn hT key trivial

def puFr (s : List Nat) (i n cut b : Int) : Fr := [(101, .p (.int .i64 i)), (100, .p (.int .i64 (s.length : Nat))), (99, .sl 0 0 s.length 1), (13, .p (.int .u64 n)), (12, .p (.bool false)), (11, .p (.int .u64 18446744073709551615)), (10, .p (.int .u64 cut)), (8, .p (.bool false)), (7, .p .nili), (6, .p (.int .u64 0)), (1, .p (.int .i64 b)), (0, .p (.str s)), (9, .p (.str s))]
def puRt (s : List Nat) (i n m cut b e : Int) : Fr := [(101, .p (.int .i64 i)), (100, .p (.int .i64 (s.length : Nat))), (99, .sl 0 0 s.length 1), (13, .p (.int .u64 n)), (12, .p (.bool false)), (11, .p (.int .u64 18446744073709551615)), (10, .p (.int .u64 cut)), (8, .p (.bool false)), (7, .p (.iface 129 (.int .i64 e))), (6, .p (.int .u64 m)), (1, .p (.int .i64 b)), (0, .p (.str s)), (9, .p (.str s))]
def puH (s : List Nat) : Heap := [some (.cells (s.map byteEV) .any)]

def puQ (s : List Nat) (i n : Nat) (cut b : Nat) : PU → Prop
  | .ok m => LC Pd Gd 172 0 (puFr s i n cut b) (puH s) (loopAt Pd 91 0) (.exit 3) (puFr s s.length m cut b) (puH s)
  | .syn => ∃ i' n' : Nat, LC Pd Gd 172 0 (puFr s i n cut b) (puH s) (loopAt Pd 91 0) .ret (puRt s i' n' 0 cut b 2) (puH s)
  | .rng => ∃ i' n' : Nat, LC Pd Gd 172 0 (puFr s i n cut b) (puH s) (loopAt Pd 91 0) .ret (puRt s i' n' 18446744073709551615 cut b 1) (puH s)

theorem dk_bytes (s : List Nat) : List.map dk (s.map byteEV) = s.map byteEV := by rw [List.map_map]; rfl

theorem pu_go {obs : List Prop} {s : List Nat} {i n n' cut b : Nat} {its : Items} {keep : List Nat} {r : PU} (hT : TabOk Pd Gd T)
    (key : runC Pd Gd T 100000 false its 172 0 (puFr s i n cut b) (puH s) (loopAt Pd 91 0) keep [] [0] = some (obs, Ex.normal, puFr s (i + 1) n' cut b, puH s)) (ho : AllT obs) (h : puQ s (i + 1) n' cut b r) : puQ s i n cut b r := by
  have e : ((i : Int) + 1) = ((i + 1 : Nat) : Int) := by omega
  rw [e] at key
  cases r with
  | ok m => exact LC.go hT key ho h
  | syn => obtain ⟨i', n'', h⟩ := h; exact ⟨i', n'', LC.go hT key ho h⟩
  | rng => obtain ⟨i', n'', h⟩ := h; exact ⟨i', n'', LC.go hT key ho h⟩

theorem pu_get (s : List Nat) (i : Nat) (h : i < s.length) : (s.map byteEV)[0 + (i : Int).toNat * 1]? = some (.p (.int .u8 ((s.getD i 0 : Nat) : Int))) := by
  rw [Int.toNat_natCast, Nat.mul_one, Nat.zero_add, List.getElem?_map, List.getElem?_eq_getElem h, List.getD_eq_getElem?_getD, List.getElem?_eq_getElem h]
  rfl

set_option maxRecDepth 20000 in
theorem pu_loop (hT : TabOk Pd Gd T) (s : List Nat) (hs : ∀ x ∈ s, x < 256 ∧ x ≠ 95) (hl : s.length ≤ 1000000000000) (cut b : Nat) (hc : (b = 10 ∧ cut = 1844674407370955162) ∨ (b = 16 ∧ cut = 1152921504606846976) ∨ (b = 8 ∧ cut = 2305843009213693952)) :
    ∀ (k i n : Nat), i + k = s.length → n ≤ 18446744073709551615 → puQ s i n cut b (puS b (s.drop i) n) := by
  have hcut : ∀ n, n < cut → n * b ≤ 18446744073709551615 := by intro n h; rcases hc with ⟨rfl, rfl⟩ | ⟨rfl, rfl⟩ | ⟨rfl, rfl⟩ <;> omega
  have hcut2 : ∀ n, cut ≤ n → 18446744073709551615 < n * b := by intro n h; rcases hc with ⟨rfl, rfl⟩ | ⟨rfl, rfl⟩ | ⟨rfl, rfl⟩ <;> omega
  have hb : b ≤ 16 := by rcases hc with ⟨rfl, rfl⟩ | ⟨rfl, rfl⟩ | ⟨rfl, rfl⟩ <;> omega
  have hcm : cut ≤ 18446744073709551615 := by rcases hc with ⟨rfl, rfl⟩ | ⟨rfl, rfl⟩ | ⟨rfl, rfl⟩ <;> omega
  clear hc
  intro k
  induction k with
  | zero =>
    intro i n hi hn
    have : i = s.length := by omega
    subst this
    rw [List.drop_length]
    have key := puX_l1 (T := T) s (s.length : Nat) n cut b 0 0
    rw [renEs_bytes] at key
    exact LC.leave hT key ⟨by simp, trivial⟩ (by simp)
  | succ k ih =>
    intro i n hi hn
    have hlt : i < s.length := by omega
    rw [getD_drop s i hlt]
    have hcx := hs (s.getD i 0) (by rw [List.getD_eq_getElem?_getD, List.getElem?_eq_getElem hlt]; exact List.getElem_mem hlt)
    have hget := pu_get s i hlt
    generalize s.getD i 0 = c at *
    have hlow := lower_rc hT c hcx.1
    have hl256 := lowB_lt c hcx.1
    have hsm := lowB_small c
    unfold puS digP
    have hclaim : ∀ v0 : EV, Claim Pd Gd ((103, EV.ptr 0 (0 + (i : Int).toNat * 1)) :: (102, v0) :: puFr s i n cut b) (puH s) { dst := some 104, op := Op.load 5 (Operand.tmp 103), type := 5, pos := "atoi.go:108", after := #[{ on := 0, ground := Ground.data }], guard := none } (.p (.int .u8 (c : Nat))) :=
      fun v0 => claim_cell (i := 0) (off := 0 + (i : Int).toNat * 1) (cs := s.map byteEV) (k := .any) rfl (by kernel_rfl) rfl rfl hget
    have hcl := hclaim (EV.p (PV.bool (decide ((i : Int) < ((s.length : Nat) : Int)))))
    generalize hll : lowB c = l at *
    by_cases h0 : 48 ≤ c
    · by_cases h9 : c ≤ 57
      · simp only [h0, h9, and_self, if_true]
        by_cases hd : b ≤ c - 48
        · simp only [hd, if_true]
          have key := puD1_l1 (T := T) s i n cut b c l
          rw [renEs_bytes] at key
          refine ⟨i, n, LC.leave hT key ?_ (by simp)⟩
          simp only [AllT]
          repeat' (first | exact trivial | exact hcl | exact hlow | apply And.intro)
          all_goals (simp only [fitsK, max_i64, min_i64, max_u64, min_u64, max_u8, min_u8, Bool.and_eq_true, decide_eq_true_eq, decide_eq_false_iff_not, beq_eq_false_iff_ne, ne_eq, and_true, true_and]; omega)
        · simp only [hd, if_false]
          by_cases hr : 18446744073709551615 < n * b + (c - 48)
          · simp only [hr, if_true]
            by_cases hcu : cut ≤ n
            · have key := puD2_l1 (T := T) s i n cut b c l
              rw [renEs_bytes] at key
              refine ⟨i, n, LC.leave hT key ?_ (by simp)⟩
              simp only [AllT]
              repeat' (first | exact trivial | exact hcl | exact hlow | apply And.intro)
              all_goals (simp only [fitsK, max_i64, min_i64, max_u64, min_u64, max_u8, min_u8, Bool.and_eq_true, decide_eq_true_eq, decide_eq_false_iff_not, beq_eq_false_iff_ne, ne_eq, and_true, true_and]; omega)
            · have h1 := hcut n (by omega)
              have key := puD3_l1 (T := T) s i n cut b c l
              rw [renEs_bytes] at key
              rw [show (n : Int) * (b : Int) = ((n * b : Nat) : Int) by simp] at key
              generalize n * b = nb at *
              rw [IntKind.wrap_u64] at key
              refine ⟨i, nb, LC.leave hT key ?_ (by simp)⟩
              simp only [AllT]
              repeat' (first | exact trivial | exact hcl | exact hlow | apply And.intro)
              all_goals (simp only [fitsK, max_i64, min_i64, max_u64, min_u64, max_u8, min_u8, Bool.and_eq_true, decide_eq_true_eq, decide_eq_false_iff_not, beq_eq_false_iff_ne, ne_eq, and_true, true_and]; omega)
          · simp only [hr, if_false]
            have hcu : n < cut := by
              rcases Nat.lt_or_ge n cut with h | h
              · exact h
              · have := hcut2 n h; omega
            have ih' := ih (i + 1) (n * b + (c - 48)) (by omega) (by omega)
            have key := puD4_l1 (T := T) s i n cut b c l
            rw [renEs_bytes] at key
            rw [show (n : Int) * (b : Int) = ((n * b : Nat) : Int) by simp] at key
            generalize n * b = nb at *
            rw [IntKind.wrap_u64] at key
            have e1 : ((nb : Nat) : Int) + ((c : Int) - 48) = ((nb + (c - 48) : Nat) : Int) := by omega
            have e2 : ((nb + (c - 48) : Nat) : Int) % 18446744073709551616 = ((nb + (c - 48) : Nat) : Int) := by omega
            rw [e1, e2] at key
            refine pu_go hT key ?_ ih'
            simp only [AllT]
            repeat' (first | exact trivial | exact hcl | exact hlow | apply And.intro)
            all_goals (simp only [fitsK, max_i64, min_i64, max_u64, min_u64, max_u8, min_u8, Bool.and_eq_true, decide_eq_true_eq, decide_eq_false_iff_not, beq_eq_false_iff_ne, ne_eq, and_true, true_and]; omega)
      · have hn9 : ¬ (48 ≤ c ∧ c ≤ 57) := by omega
        simp only [hn9, if_false]
        by_cases hl97 : 97 ≤ l
        · by_cases hl122 : l ≤ 122
          · simp only [hl97, hl122, and_self, if_true]
            by_cases hd : b ≤ l - 87
            · simp only [hd, if_true]
              have key := puE1_l1 (T := T) s i n cut b c l
              rw [renEs_bytes] at key
              refine ⟨i, n, LC.leave hT key ?_ (by simp)⟩
              simp only [AllT]
              repeat' (first | exact trivial | exact hcl | exact hlow | apply And.intro)
              all_goals (simp only [fitsK, max_i64, min_i64, max_u64, min_u64, max_u8, min_u8, Bool.and_eq_true, decide_eq_true_eq, decide_eq_false_iff_not, beq_eq_false_iff_ne, ne_eq, and_true, true_and]; omega)
            · simp only [hd, if_false]
              by_cases hr : 18446744073709551615 < n * b + (l - 87)
              · simp only [hr, if_true]
                by_cases hcu : cut ≤ n
                · have key := puE2_l1 (T := T) s i n cut b c l
                  rw [renEs_bytes] at key
                  refine ⟨i, n, LC.leave hT key ?_ (by simp)⟩
                  simp only [AllT]
                  repeat' (first | exact trivial | exact hcl | exact hlow | apply And.intro)
                  all_goals (simp only [fitsK, max_i64, min_i64, max_u64, min_u64, max_u8, min_u8, Bool.and_eq_true, decide_eq_true_eq, decide_eq_false_iff_not, beq_eq_false_iff_ne, ne_eq, and_true, true_and]; omega)
                · have h1 := hcut n (by omega)
                  have key := puE3_l1 (T := T) s i n cut b c l
                  rw [renEs_bytes] at key
                  rw [show (n : Int) * (b : Int) = ((n * b : Nat) : Int) by simp] at key
                  generalize n * b = nb at *
                  rw [IntKind.wrap_u64] at key
                  refine ⟨i, nb, LC.leave hT key ?_ (by simp)⟩
                  simp only [AllT]
                  repeat' (first | exact trivial | exact hcl | exact hlow | apply And.intro)
                  all_goals (simp only [fitsK, max_i64, min_i64, max_u64, min_u64, max_u8, min_u8, Bool.and_eq_true, decide_eq_true_eq, decide_eq_false_iff_not, beq_eq_false_iff_ne, ne_eq, and_true, true_and]; omega)
              · simp only [hr, if_false]
                have hcu : n < cut := by
                  rcases Nat.lt_or_ge n cut with h | h
                  · exact h
                  · have := hcut2 n h; omega
                have ih' := ih (i + 1) (n * b + (l - 87)) (by omega) (by omega)
                have key := puE4_l1 (T := T) s i n cut b c l
                rw [renEs_bytes] at key
                rw [show (n : Int) * (b : Int) = ((n * b : Nat) : Int) by simp] at key
                generalize n * b = nb at *
                rw [IntKind.wrap_u64] at key
                have e1 : ((nb : Nat) : Int) + ((l : Int) - 97 + 10) = ((nb + (l - 87) : Nat) : Int) := by omega
                have e2 : ((nb + (l - 87) : Nat) : Int) % 18446744073709551616 = ((nb + (l - 87) : Nat) : Int) := by omega
                rw [e1, e2] at key
                refine pu_go hT key ?_ ih'
                simp only [AllT]
                repeat' (first | exact trivial | exact hcl | exact hlow | apply And.intro)
                all_goals (simp only [fitsK, max_i64, min_i64, max_u64, min_u64, max_u8, min_u8, Bool.and_eq_true, decide_eq_true_eq, decide_eq_false_iff_not, beq_eq_false_iff_ne, ne_eq, and_true, true_and]; omega)
          · have hn2 : ¬ (97 ≤ l ∧ l ≤ 122) := by omega
            simp only [hn2, if_false]
            have key := puF1_l1 (T := T) s i n cut b c l
            rw [renEs_bytes] at key
            refine ⟨i, n, LC.leave hT key ?_ (by simp)⟩
            simp only [AllT]
            repeat' (first | exact trivial | exact hcl | exact hlow | apply And.intro)
            all_goals (simp only [fitsK, max_i64, min_i64, max_u64, min_u64, max_u8, min_u8, Bool.and_eq_true, decide_eq_true_eq, decide_eq_false_iff_not, beq_eq_false_iff_ne, ne_eq, and_true, true_and]; omega)
        · have hn2 : ¬ (97 ≤ l ∧ l ≤ 122) := by omega
          simp only [hn2, if_false]
          have key := puF2_l1 (T := T) s i n cut b c l
          rw [renEs_bytes] at key
          refine ⟨i, n, LC.leave hT key ?_ (by simp)⟩
          simp only [AllT]
          repeat' (first | exact trivial | exact hcl | exact hlow | apply And.intro)
          all_goals (simp only [fitsK, max_i64, min_i64, max_u64, min_u64, max_u8, min_u8, Bool.and_eq_true, decide_eq_true_eq, decide_eq_false_iff_not, beq_eq_false_iff_ne, ne_eq, and_true, true_and]; omega)
    · have hn9 : ¬ (48 ≤ c ∧ c ≤ 57) := by omega
      have hn2 : ¬ (97 ≤ l ∧ l ≤ 122) := by omega
      simp only [hn9, hn2, if_false]
      have key := puF3_l1 (T := T) s i n cut b c l
      rw [renEs_bytes] at key
      refine ⟨i, n, LC.leave hT key ?_ (by simp)⟩
      simp only [AllT]
      repeat' (first | exact trivial | exact hcl | exact hlow | apply And.intro)
      all_goals (simp only [fitsK, max_i64, min_i64, max_u64, min_u64, max_u8, min_u8, Bool.and_eq_true, decide_eq_true_eq, decide_eq_false_iff_not, beq_eq_false_iff_ne, ne_eq, and_true, true_and]; omega)

/-- What ParseUint returns. -/
def puE : PU → EV
  | .ok n => .tup [.p (.int .u64 (n : Nat)), .p .nili]
  | .syn => .tup [.p (.int .u64 0), .p (.iface 129 (.int .i64 2))]
  | .rng => .tup [.p (.int .u64 18446744073709551615), .p (.iface 129 (.int .i64 1))]

set_option maxRecDepth 20000 in
theorem pu10_rc (hT : TabOk Pd Gd T) (s : List Nat) (hs : ∀ x ∈ s, x < 256 ∧ x ≠ 95) (hl : s.length ≤ 1000000000000) (h0 : s ≠ []) : RC Pd Gd 91 [.p (.str s), .p (.int .i64 10), .p (.int .i64 64)] [] (puE (puS 10 s 0)) [] := by
  have h := pu_loop hT s hs hl 1844674407370955162 10 (by simp) s.length 0 0 (by omega) (by omega)
  rw [List.drop_zero] at h
  have hz : (s == []) = false := beq_eq_false_iff_ne.2 h0
  have hle : decide (s.length ≤ 1099511627776) = true := decide_eq_true (by omega)
  cases hr : puS 10 s 0 with
  | ok m =>
    rw [hr] at h
    have key := pu10ok_p1 (T := T) s s.length m 0 0
    rw [renEs_bytes, dk_bytes] at key
    refine RC.of_run hT key ?_
    simp only [AllT]
    repeat' (first | exact trivial | exact h | exact hz | exact hle | exact rfl | apply And.intro)
  | syn =>
    rw [hr] at h
    obtain ⟨i', n', h⟩ := h
    have key := pu10er_p1 (T := T) s i' n' 0 2
    rw [renEs_bytes, dk_bytes] at key
    refine RC.of_run hT key ?_
    simp only [AllT]
    repeat' (first | exact trivial | exact h | exact hz | exact hle | exact rfl | apply And.intro)
  | rng =>
    rw [hr] at h
    obtain ⟨i', n', h⟩ := h
    have key := pu10er_p1 (T := T) s i' n' 18446744073709551615 1
    rw [renEs_bytes, dk_bytes] at key
    refine RC.of_run hT key ?_
    simp only [AllT]
    repeat' (first | exact trivial | exact h | exact hz | exact hle | exact rfl | apply And.intro)

set_option maxRecDepth 20000 in
theorem pu16_rc (hT : TabOk Pd Gd T) (s : List Nat) (hs : ∀ x ∈ s, x < 256 ∧ x ≠ 95) (hl : s.length ≤ 1000000000000) (h0 : s ≠ []) : RC Pd Gd 91 [.p (.str s), .p (.int .i64 16), .p (.int .i64 64)] [] (puE (puS 16 s 0)) [] := by
  have h := pu_loop hT s hs hl 1152921504606846976 16 (by simp) s.length 0 0 (by omega) (by omega)
  rw [List.drop_zero] at h
  have hz : (s == []) = false := beq_eq_false_iff_ne.2 h0
  have hle : decide (s.length ≤ 1099511627776) = true := decide_eq_true (by omega)
  cases hr : puS 16 s 0 with
  | ok m =>
    rw [hr] at h
    have key := pu16ok_p1 (T := T) s s.length m 0 0
    rw [renEs_bytes, dk_bytes] at key
    refine RC.of_run hT key ?_
    simp only [AllT]
    repeat' (first | exact trivial | exact h | exact hz | exact hle | exact rfl | apply And.intro)
  | syn =>
    rw [hr] at h
    obtain ⟨i', n', h⟩ := h
    have key := pu16er_p1 (T := T) s i' n' 0 2
    rw [renEs_bytes, dk_bytes] at key
    refine RC.of_run hT key ?_
    simp only [AllT]
    repeat' (first | exact trivial | exact h | exact hz | exact hle | exact rfl | apply And.intro)
  | rng =>
    rw [hr] at h
    obtain ⟨i', n', h⟩ := h
    have key := pu16er_p1 (T := T) s i' n' 18446744073709551615 1
    rw [renEs_bytes, dk_bytes] at key
    refine RC.of_run hT key ?_
    simp only [AllT]
    repeat' (first | exact trivial | exact h | exact hz | exact hle | exact rfl | apply And.intro)

set_option maxRecDepth 20000 in
theorem pu8_rc (hT : TabOk Pd Gd T) (s : List Nat) (hs : ∀ x ∈ s, x < 256 ∧ x ≠ 95) (hl : s.length ≤ 1000000000000) (h0 : s ≠ []) : RC Pd Gd 91 [.p (.str s), .p (.int .i64 8), .p (.int .i64 64)] [] (puE (puS 8 s 0)) [] := by
  have h := pu_loop hT s hs hl 2305843009213693952 8 (by simp) s.length 0 0 (by omega) (by omega)
  rw [List.drop_zero] at h
  have hz : (s == []) = false := beq_eq_false_iff_ne.2 h0
  have hle : decide (s.length ≤ 1099511627776) = true := decide_eq_true (by omega)
  cases hr : puS 8 s 0 with
  | ok m =>
    rw [hr] at h
    have key := pu8ok_p1 (T := T) s s.length m 0 0
    rw [renEs_bytes, dk_bytes] at key
    refine RC.of_run hT key ?_
    simp only [AllT]
    repeat' (first | exact trivial | exact h | exact hz | exact hle | exact rfl | apply And.intro)
  | syn =>
    rw [hr] at h
    obtain ⟨i', n', h⟩ := h
    have key := pu8er_p1 (T := T) s i' n' 0 2
    rw [renEs_bytes, dk_bytes] at key
    refine RC.of_run hT key ?_
    simp only [AllT]
    repeat' (first | exact trivial | exact h | exact hz | exact hle | exact rfl | apply And.intro)
  | rng =>
    rw [hr] at h
    obtain ⟨i', n', h⟩ := h
    have key := pu8er_p1 (T := T) s i' n' 18446744073709551615 1
    rw [renEs_bytes, dk_bytes] at key
    refine RC.of_run hT key ?_
    simp only [AllT]
    repeat' (first | exact trivial | exact h | exact hz | exact hle | exact rfl | apply And.intro)

end
end Go.Vc
