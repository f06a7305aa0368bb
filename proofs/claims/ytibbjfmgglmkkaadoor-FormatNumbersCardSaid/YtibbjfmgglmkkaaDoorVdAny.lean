/- Own texts of the proof, put together: VdAny. -/
import Derived.Test.YtibbjfmgglmkkaaDoorVdFmt
/- VdAny -/
namespace Go.Vc
set_option linter.unusedVariables false
set_option linter.unusedSimpArgs false
theorem isExt88' : IsExt Pd 88 Extern.BytealgIndexByte.indexByte := ⟨Go.Proofs.Tryd.f88, by kernel_rfl, by kernel_rfl, by kernel_rfl, by kernel_rfl, by kernel_rfl⟩
section
variable {G : Glob} {T : Tab}
def flagL : List Nat := [45, 48, 43]
def convL : List Nat := [100, 105, 117, 120, 111, 99, 115, 98, 37]
/-- What holds of the numbers from a on, n of them. -/
def From (P : Nat → Prop) (a : Nat) : Nat → Prop
  | 0 => True
  | n + 1 => P a ∧ From P (a + 1) n

theorem From.get {P : Nat → Prop} {a n : Nat} (h : From P a n) (c : Nat) (h1 : a ≤ c) (h2 : c < a + n) : P c := by
  induction n generalizing a with
  | zero => omega
  | succ n ih =>
    rcases Nat.lt_or_ge a c with h3 | h3
    · exact ih h.2 h3 (by omega)
    · have : c = a := by omega
      subst this
      exact h.1

def anyLo (G : Glob) (cs : List Nat) (c : Nat) : Prop := runW Pd G (fun _ => none) 100000 true [] [] [] 33 [.p (.str [c]), .p (.str cs)] [] = some ([IsExt Pd 88 Extern.BytealgIndexByte.indexByte], .p (.bool (cs.contains c)), [])
def anyHi (G : Glob) (cs : List Nat) (c : Nat) : Prop := runW Pd G (fun _ => none) 100000 true [] [] [] 33 [.p (.str [c]), .p (.str cs)] [] = some ([], .p (.bool (cs.contains c)), [])
theorem flagL_0 : From (anyLo G flagL) 0 16 := by
  refine ⟨?_, ?_, ?_, ?_, ?_, ?_, ?_, ?_, ?_, ?_, ?_, ?_, ?_, ?_, ?_, ?_, trivial⟩ <;> (unfold anyLo; kernel_rfl)
theorem flagL_16 : From (anyLo G flagL) 16 16 := by
  refine ⟨?_, ?_, ?_, ?_, ?_, ?_, ?_, ?_, ?_, ?_, ?_, ?_, ?_, ?_, ?_, ?_, trivial⟩ <;> (unfold anyLo; kernel_rfl)
theorem flagL_32 : From (anyLo G flagL) 32 16 := by
  refine ⟨?_, ?_, ?_, ?_, ?_, ?_, ?_, ?_, ?_, ?_, ?_, ?_, ?_, ?_, ?_, ?_, trivial⟩ <;> (unfold anyLo; kernel_rfl)
theorem flagL_48 : From (anyLo G flagL) 48 16 := by
  refine ⟨?_, ?_, ?_, ?_, ?_, ?_, ?_, ?_, ?_, ?_, ?_, ?_, ?_, ?_, ?_, ?_, trivial⟩ <;> (unfold anyLo; kernel_rfl)
theorem flagL_64 : From (anyLo G flagL) 64 16 := by
  refine ⟨?_, ?_, ?_, ?_, ?_, ?_, ?_, ?_, ?_, ?_, ?_, ?_, ?_, ?_, ?_, ?_, trivial⟩ <;> (unfold anyLo; kernel_rfl)
theorem flagL_80 : From (anyLo G flagL) 80 16 := by
  refine ⟨?_, ?_, ?_, ?_, ?_, ?_, ?_, ?_, ?_, ?_, ?_, ?_, ?_, ?_, ?_, ?_, trivial⟩ <;> (unfold anyLo; kernel_rfl)
theorem flagL_96 : From (anyLo G flagL) 96 16 := by
  refine ⟨?_, ?_, ?_, ?_, ?_, ?_, ?_, ?_, ?_, ?_, ?_, ?_, ?_, ?_, ?_, ?_, trivial⟩ <;> (unfold anyLo; kernel_rfl)
theorem flagL_112 : From (anyLo G flagL) 112 16 := by
  refine ⟨?_, ?_, ?_, ?_, ?_, ?_, ?_, ?_, ?_, ?_, ?_, ?_, ?_, ?_, ?_, ?_, trivial⟩ <;> (unfold anyLo; kernel_rfl)
theorem flagL_128 : From (anyHi G flagL) 128 16 := by
  refine ⟨?_, ?_, ?_, ?_, ?_, ?_, ?_, ?_, ?_, ?_, ?_, ?_, ?_, ?_, ?_, ?_, trivial⟩ <;> (unfold anyHi; kernel_rfl)
theorem flagL_144 : From (anyHi G flagL) 144 16 := by
  refine ⟨?_, ?_, ?_, ?_, ?_, ?_, ?_, ?_, ?_, ?_, ?_, ?_, ?_, ?_, ?_, ?_, trivial⟩ <;> (unfold anyHi; kernel_rfl)
theorem flagL_160 : From (anyHi G flagL) 160 16 := by
  refine ⟨?_, ?_, ?_, ?_, ?_, ?_, ?_, ?_, ?_, ?_, ?_, ?_, ?_, ?_, ?_, ?_, trivial⟩ <;> (unfold anyHi; kernel_rfl)
theorem flagL_176 : From (anyHi G flagL) 176 16 := by
  refine ⟨?_, ?_, ?_, ?_, ?_, ?_, ?_, ?_, ?_, ?_, ?_, ?_, ?_, ?_, ?_, ?_, trivial⟩ <;> (unfold anyHi; kernel_rfl)
theorem flagL_192 : From (anyHi G flagL) 192 16 := by
  refine ⟨?_, ?_, ?_, ?_, ?_, ?_, ?_, ?_, ?_, ?_, ?_, ?_, ?_, ?_, ?_, ?_, trivial⟩ <;> (unfold anyHi; kernel_rfl)
theorem flagL_208 : From (anyHi G flagL) 208 16 := by
  refine ⟨?_, ?_, ?_, ?_, ?_, ?_, ?_, ?_, ?_, ?_, ?_, ?_, ?_, ?_, ?_, ?_, trivial⟩ <;> (unfold anyHi; kernel_rfl)
theorem flagL_224 : From (anyHi G flagL) 224 16 := by
  refine ⟨?_, ?_, ?_, ?_, ?_, ?_, ?_, ?_, ?_, ?_, ?_, ?_, ?_, ?_, ?_, ?_, trivial⟩ <;> (unfold anyHi; kernel_rfl)
theorem flagL_240 : From (anyHi G flagL) 240 16 := by
  refine ⟨?_, ?_, ?_, ?_, ?_, ?_, ?_, ?_, ?_, ?_, ?_, ?_, ?_, ?_, ?_, ?_, trivial⟩ <;> (unfold anyHi; kernel_rfl)
theorem convL_0 : From (anyLo G convL) 0 16 := by
  refine ⟨?_, ?_, ?_, ?_, ?_, ?_, ?_, ?_, ?_, ?_, ?_, ?_, ?_, ?_, ?_, ?_, trivial⟩ <;> (unfold anyLo; kernel_rfl)
theorem convL_16 : From (anyLo G convL) 16 16 := by
  refine ⟨?_, ?_, ?_, ?_, ?_, ?_, ?_, ?_, ?_, ?_, ?_, ?_, ?_, ?_, ?_, ?_, trivial⟩ <;> (unfold anyLo; kernel_rfl)
theorem convL_32 : From (anyLo G convL) 32 16 := by
  refine ⟨?_, ?_, ?_, ?_, ?_, ?_, ?_, ?_, ?_, ?_, ?_, ?_, ?_, ?_, ?_, ?_, trivial⟩ <;> (unfold anyLo; kernel_rfl)
theorem convL_48 : From (anyLo G convL) 48 16 := by
  refine ⟨?_, ?_, ?_, ?_, ?_, ?_, ?_, ?_, ?_, ?_, ?_, ?_, ?_, ?_, ?_, ?_, trivial⟩ <;> (unfold anyLo; kernel_rfl)
theorem convL_64 : From (anyLo G convL) 64 16 := by
  refine ⟨?_, ?_, ?_, ?_, ?_, ?_, ?_, ?_, ?_, ?_, ?_, ?_, ?_, ?_, ?_, ?_, trivial⟩ <;> (unfold anyLo; kernel_rfl)
theorem convL_80 : From (anyLo G convL) 80 16 := by
  refine ⟨?_, ?_, ?_, ?_, ?_, ?_, ?_, ?_, ?_, ?_, ?_, ?_, ?_, ?_, ?_, ?_, trivial⟩ <;> (unfold anyLo; kernel_rfl)
theorem convL_96 : From (anyLo G convL) 96 16 := by
  refine ⟨?_, ?_, ?_, ?_, ?_, ?_, ?_, ?_, ?_, ?_, ?_, ?_, ?_, ?_, ?_, ?_, trivial⟩ <;> (unfold anyLo; kernel_rfl)
theorem convL_112 : From (anyLo G convL) 112 16 := by
  refine ⟨?_, ?_, ?_, ?_, ?_, ?_, ?_, ?_, ?_, ?_, ?_, ?_, ?_, ?_, ?_, ?_, trivial⟩ <;> (unfold anyLo; kernel_rfl)
theorem convL_128 : From (anyHi G convL) 128 16 := by
  refine ⟨?_, ?_, ?_, ?_, ?_, ?_, ?_, ?_, ?_, ?_, ?_, ?_, ?_, ?_, ?_, ?_, trivial⟩ <;> (unfold anyHi; kernel_rfl)
theorem convL_144 : From (anyHi G convL) 144 16 := by
  refine ⟨?_, ?_, ?_, ?_, ?_, ?_, ?_, ?_, ?_, ?_, ?_, ?_, ?_, ?_, ?_, ?_, trivial⟩ <;> (unfold anyHi; kernel_rfl)
theorem convL_160 : From (anyHi G convL) 160 16 := by
  refine ⟨?_, ?_, ?_, ?_, ?_, ?_, ?_, ?_, ?_, ?_, ?_, ?_, ?_, ?_, ?_, ?_, trivial⟩ <;> (unfold anyHi; kernel_rfl)
theorem convL_176 : From (anyHi G convL) 176 16 := by
  refine ⟨?_, ?_, ?_, ?_, ?_, ?_, ?_, ?_, ?_, ?_, ?_, ?_, ?_, ?_, ?_, ?_, trivial⟩ <;> (unfold anyHi; kernel_rfl)
theorem convL_192 : From (anyHi G convL) 192 16 := by
  refine ⟨?_, ?_, ?_, ?_, ?_, ?_, ?_, ?_, ?_, ?_, ?_, ?_, ?_, ?_, ?_, ?_, trivial⟩ <;> (unfold anyHi; kernel_rfl)
theorem convL_208 : From (anyHi G convL) 208 16 := by
  refine ⟨?_, ?_, ?_, ?_, ?_, ?_, ?_, ?_, ?_, ?_, ?_, ?_, ?_, ?_, ?_, ?_, trivial⟩ <;> (unfold anyHi; kernel_rfl)
theorem convL_224 : From (anyHi G convL) 224 16 := by
  refine ⟨?_, ?_, ?_, ?_, ?_, ?_, ?_, ?_, ?_, ?_, ?_, ?_, ?_, ?_, ?_, ?_, trivial⟩ <;> (unfold anyHi; kernel_rfl)
theorem convL_240 : From (anyHi G convL) 240 16 := by
  refine ⟨?_, ?_, ?_, ?_, ?_, ?_, ?_, ?_, ?_, ?_, ?_, ?_, ?_, ?_, ?_, ?_, trivial⟩ <;> (unfold anyHi; kernel_rfl)
theorem flagL_rc (c : Nat) (hc : c < 256) : RC Pd G 33 [.p (.str [c]), .p (.str flagL)] [] (.p (.bool (flagL.contains c))) [] := by
  have hT : TabOk Pd G (fun _ => none) := fun f spec h => by cases h
  rcases (by omega : (0 ≤ c ∧ c < 16) ∨ (16 ≤ c ∧ c < 32) ∨ (32 ≤ c ∧ c < 48) ∨ (48 ≤ c ∧ c < 64) ∨ (64 ≤ c ∧ c < 80) ∨ (80 ≤ c ∧ c < 96) ∨ (96 ≤ c ∧ c < 112) ∨ (112 ≤ c ∧ c < 128) ∨ (128 ≤ c ∧ c < 144) ∨ (144 ≤ c ∧ c < 160) ∨ (160 ≤ c ∧ c < 176) ∨ (176 ≤ c ∧ c < 192) ∨ (192 ≤ c ∧ c < 208) ∨ (208 ≤ c ∧ c < 224) ∨ (224 ≤ c ∧ c < 240) ∨ (240 ≤ c ∧ c < 256)) with h | h | h | h | h | h | h | h | h | h | h | h | h | h | h | h
  · exact RC.of_run hT ((flagL_0 (G := G)).get c h.1 h.2) ⟨isExt88', trivial⟩
  · exact RC.of_run hT ((flagL_16 (G := G)).get c h.1 h.2) ⟨isExt88', trivial⟩
  · exact RC.of_run hT ((flagL_32 (G := G)).get c h.1 h.2) ⟨isExt88', trivial⟩
  · exact RC.of_run hT ((flagL_48 (G := G)).get c h.1 h.2) ⟨isExt88', trivial⟩
  · exact RC.of_run hT ((flagL_64 (G := G)).get c h.1 h.2) ⟨isExt88', trivial⟩
  · exact RC.of_run hT ((flagL_80 (G := G)).get c h.1 h.2) ⟨isExt88', trivial⟩
  · exact RC.of_run hT ((flagL_96 (G := G)).get c h.1 h.2) ⟨isExt88', trivial⟩
  · exact RC.of_run hT ((flagL_112 (G := G)).get c h.1 h.2) ⟨isExt88', trivial⟩
  · exact RC.of_run hT ((flagL_128 (G := G)).get c h.1 h.2) trivial
  · exact RC.of_run hT ((flagL_144 (G := G)).get c h.1 h.2) trivial
  · exact RC.of_run hT ((flagL_160 (G := G)).get c h.1 h.2) trivial
  · exact RC.of_run hT ((flagL_176 (G := G)).get c h.1 h.2) trivial
  · exact RC.of_run hT ((flagL_192 (G := G)).get c h.1 h.2) trivial
  · exact RC.of_run hT ((flagL_208 (G := G)).get c h.1 h.2) trivial
  · exact RC.of_run hT ((flagL_224 (G := G)).get c h.1 h.2) trivial
  · exact RC.of_run hT ((flagL_240 (G := G)).get c h.1 h.2) trivial
theorem convL_rc (c : Nat) (hc : c < 256) : RC Pd G 33 [.p (.str [c]), .p (.str convL)] [] (.p (.bool (convL.contains c))) [] := by
  have hT : TabOk Pd G (fun _ => none) := fun f spec h => by cases h
  rcases (by omega : (0 ≤ c ∧ c < 16) ∨ (16 ≤ c ∧ c < 32) ∨ (32 ≤ c ∧ c < 48) ∨ (48 ≤ c ∧ c < 64) ∨ (64 ≤ c ∧ c < 80) ∨ (80 ≤ c ∧ c < 96) ∨ (96 ≤ c ∧ c < 112) ∨ (112 ≤ c ∧ c < 128) ∨ (128 ≤ c ∧ c < 144) ∨ (144 ≤ c ∧ c < 160) ∨ (160 ≤ c ∧ c < 176) ∨ (176 ≤ c ∧ c < 192) ∨ (192 ≤ c ∧ c < 208) ∨ (208 ≤ c ∧ c < 224) ∨ (224 ≤ c ∧ c < 240) ∨ (240 ≤ c ∧ c < 256)) with h | h | h | h | h | h | h | h | h | h | h | h | h | h | h | h
  · exact RC.of_run hT ((convL_0 (G := G)).get c h.1 h.2) ⟨isExt88', trivial⟩
  · exact RC.of_run hT ((convL_16 (G := G)).get c h.1 h.2) ⟨isExt88', trivial⟩
  · exact RC.of_run hT ((convL_32 (G := G)).get c h.1 h.2) ⟨isExt88', trivial⟩
  · exact RC.of_run hT ((convL_48 (G := G)).get c h.1 h.2) ⟨isExt88', trivial⟩
  · exact RC.of_run hT ((convL_64 (G := G)).get c h.1 h.2) ⟨isExt88', trivial⟩
  · exact RC.of_run hT ((convL_80 (G := G)).get c h.1 h.2) ⟨isExt88', trivial⟩
  · exact RC.of_run hT ((convL_96 (G := G)).get c h.1 h.2) ⟨isExt88', trivial⟩
  · exact RC.of_run hT ((convL_112 (G := G)).get c h.1 h.2) ⟨isExt88', trivial⟩
  · exact RC.of_run hT ((convL_128 (G := G)).get c h.1 h.2) trivial
  · exact RC.of_run hT ((convL_144 (G := G)).get c h.1 h.2) trivial
  · exact RC.of_run hT ((convL_160 (G := G)).get c h.1 h.2) trivial
  · exact RC.of_run hT ((convL_176 (G := G)).get c h.1 h.2) trivial
  · exact RC.of_run hT ((convL_192 (G := G)).get c h.1 h.2) trivial
  · exact RC.of_run hT ((convL_208 (G := G)).get c h.1 h.2) trivial
  · exact RC.of_run hT ((convL_224 (G := G)).get c h.1 h.2) trivial
  · exact RC.of_run hT ((convL_240 (G := G)).get c h.1 h.2) trivial
end
end Go.Vc
