/- Own texts of the proof, put together: VeMag. -/
import Derived.Test.YtibbjfmgglmkkaaDoorVeNum
import Derived.Test.YtibbjfmgglmkkaaDoorVdPass
/- VeMag -/
namespace Go.Vc
open Go.Sort
set_option linter.unusedVariables false
set_option linter.unusedSimpArgs false

theorem StepOk.under {F : Own} {w w' : World} {v : PV} {u : Value} (h : HpOk F w [] []) (hv : ∀ own w, VP own w v u) (hb : Go.RowKit.Below w.heap.size w w') : StepOk F w [] [] (.p v) [] u w' [] := by
  have no : ∀ r x, ¬ owned [] [] r x := by
    rintro r x ⟨i, g, b, h, _⟩
    simp at h
  have hsz := hb.size
  have hob := hb.block
  have hcell : ∀ r x, r < w.heap.size → w'.cell? ⟨r, x, none⟩ = w.cell? ⟨r, x, none⟩ := fun r x hr => by
    simp only [World.cell?, hob r hr]
  have hfrz : ∀ r x, r < w.heap.size → w'.frozen? ⟨r, x, none⟩ = w.frozen? ⟨r, x, none⟩ := fun r x hr => by
    simp only [World.frozen?, hob r hr]
  have hshape : ∀ r, r < w.heap.size → w'.shape? r = w.shape? r := fun r hr => by
    simp only [World.shape?, hob r hr]
  refine ⟨⟨rfl, fun i g b h => by simp at h, fun i j g g' b b' _ h => by simp at h, fun i g b h => by simp at h, fun r x hF => Nat.lt_of_lt_of_le (h.lt r x hF) hsz, fun i g b h => by simp at h⟩, ⟨[], rfl⟩, .p _ _ (hv _ _), ?_, ?_, ?_⟩
  · refine ⟨fun r x u ho hc => ⟨?_, ho⟩, hsz, fun r e n hs => ?_, fun i g hi => by simp at hi⟩
    · rw [hcell r x (cell_lt hc)]; exact hc
    · rw [hshape r (shape_lt hs)]; exact hs
  · exact ⟨hsz, fun r x hr _ => hcell r x hr, fun r x hr _ => hfrz r x hr, hshape, fun r hr _ => hob r hr, hb.os, hb.output⟩
  · intro r x h; exact absurd h (no r x)

theorem VEs.str1 {own : Own} {w : World} {regs : List Reg} {s : List Nat} {vs : List Value} (h : VEs own w regs [.p (.str s)] vs) : ∃ b : ByteArray, vs = [.string b] ∧ bytesOf b = s := by
  cases h with | cons _ _ _ _ h1 h2 =>
  cases h2
  cases h1 with | p _ _ h1 =>
  cases h1 with | str _ b hb => exact ⟨b, rfl, hb⟩

theorem clone_rc (s : List Nat) (hs : s.length ≤ 281474976710656) : RC Pd Gd 102 [.p (.str s)] [] (.p (.str s)) [] := by
  intro F regs w vs hh hG hv
  obtain ⟨b, rfl, hb⟩ := VEs.str1 hv
  have hr : regs = [] := List.length_eq_zero_iff.1 hh.len
  subst hr
  have hlen : b.size ≤ 281474976710656 := by rw [← hb] at hs; simpa [bytesOf] using hs
  have hc : Calls Pd 102 #[.string b] w fun e w' => e = .returned (.string b) ∧ Go.RowKit.Below w.heap.size w w' := Go.Proofs.Any.stringslite_Clone Go.Proofs.Tryd.laysM316 b w hlen
  refine Calls.mono hc ?_
  rintro e w' ⟨rfl, hbl⟩
  exact ⟨_, rfl, [], StepOk.under hh (fun own w => .str _ _ hb) hbl⟩

theorem ibit_or64 (a b : Nat) (ha : a < 256) (hb : b < 256) : ibit BinOp.or .i64 (a : Int) (b : Int) = ((a ||| b : Nat) : Int) := by
  have e1 : ∀ n : Nat, n < 256 → (BitVec.ofInt 64 (n : Int)) = BitVec.ofNat 64 n := fun n hn => by
    apply BitVec.eq_of_toNat_eq
    simp
  have h3 : ∀ n : Nat, n < 256 → (BitVec.ofNat 64 n).toNat = n := fun n hn => by simp; omega
  show IntKind.i64.wrap ((BitVec.ofInt 64 (a : Int) ||| BitVec.ofInt 64 (b : Int)).toNat : Int) = _
  rw [e1 a ha, e1 b hb, BitVec.toNat_or, h3 a ha, h3 b hb]
  have := Nat.or_lt_two_pow (x := a) (y := b) (n := 8) (by simpa using ha) (by simpa using hb)
  exact wrap_fits (by unfold fitsK; rw [max_i64, min_i64]; simp only [Bool.and_eq_true, decide_eq_true_eq]; omega)

/-- Whether a byte is a digit of a base; whether a text consists of digits. -/
def digO (b c : Nat) : Bool := if 48 ≤ c ∧ c ≤ 57 then decide (c - 48 < b) else if 97 ≤ lowB c ∧ lowB c ≤ 102 then decide (lowB c - 87 < b) else false
def dOnly (b : Nat) (s : List Nat) : Bool := s.all (digO b)

inductive MG where
  | ok (n : Nat)
  | over
  | syn

def mgE : MG → EV
  | .ok n => .tup [.p (.int .u64 (n : Nat)), .p (.int .i64 0)]
  | .over => .tup [.p (.int .u64 0), .p (.int .i64 14)]
  | .syn => .tup [.p (.int .u64 0), .p (.int .i64 6)]

def pu1 (b : Nat) (d : List Nat) : PU := if d = [] then .syn else puS b d 0
def badC (c : Nat) : Bool := c == 95 || c == 43
def mgD (b : Nat) (d : List Nat) : MG :=
  if d.any badC then .syn else match pu1 b d with
    | .ok n => .ok n
    | _ => if d ≠ [] ∧ dOnly b d = true then .over else .syn
def mgS (s : List Nat) : MG :=
  if s = [] ∨ s.getD 0 0 < 48 ∨ 57 < s.getD 0 0 then .syn
  else if s.getD 0 0 = 48 then (if 1 < s.length ∧ lowB (s.getD 1 0) = 120 then mgD 16 (s.drop 2) else mgD 8 s)
  else mgD 10 s

section
variable {T : Tab}
theorem doL_l1 (s : List Nat) (i b : Int) : runC Pd Gd T 100000 false [.br true, .br true, .br true, .br true] 42 0 [(9, .p (.int .i64 i)), (8, .p (.int .i64 (↑s.length : Int))), (7, .p (.str s)), (4, .kb false), (0, .p (.str s)), (1, .p (.int .i64 b))] [] (loopAt Pd 83 0) [9, 8, 7, 4, 0, 1] [] [] = some ([decide ((↑(s.getD i.toNat 0) : Int) - 48 ≥ b) = true, fitsK .i64 ((↑(s.getD i.toNat 0) : Int) - 48) = true, decide ((↑(s.getD i.toNat 0) : Int) ≤ 57) = true, decide ((↑(s.getD i.toNat 0) : Int) ≥ 48) = true, fitsK .i64 (↑(s.getD i.toNat 0) : Int) = true, (decide (0 ≤ i) && decide (i < (↑s.length : Int))) = true, decide (i < (↑s.length : Int)) = true], .ret, [(9, .p (.int .i64 i)), (8, .p (.int .i64 (↑s.length : Int))), (7, .p (.str s)), (4, .kb false), (0, .p (.str s)), (1, .p (.int .i64 b))], []) := by kernel_rfl

theorem doL_l2 (s : List Nat) (i b : Int) : runC Pd Gd T 100000 false [.br true, .br true, .br true, .br false] 42 0 [(9, .p (.int .i64 i)), (8, .p (.int .i64 (↑s.length : Int))), (7, .p (.str s)), (4, .kb false), (0, .p (.str s)), (1, .p (.int .i64 b))] [] (loopAt Pd 83 0) [9, 8, 7, 4, 0, 1] [] [] = some ([fitsK .i64 (i + 1) = true, decide ((↑(s.getD i.toNat 0) : Int) - 48 ≥ b) = false, fitsK .i64 ((↑(s.getD i.toNat 0) : Int) - 48) = true, decide ((↑(s.getD i.toNat 0) : Int) ≤ 57) = true, decide ((↑(s.getD i.toNat 0) : Int) ≥ 48) = true, fitsK .i64 (↑(s.getD i.toNat 0) : Int) = true, (decide (0 ≤ i) && decide (i < (↑s.length : Int))) = true, decide (i < (↑s.length : Int)) = true], .normal, [(9, .p (.int .i64 (i + 1))), (8, .p (.int .i64 (↑s.length : Int))), (7, .p (.str s)), (4, .kb false), (0, .p (.str s)), (1, .p (.int .i64 b))], []) := by kernel_rfl

theorem doL_l3 (s : List Nat) (i b : Int) : runC Pd Gd T 100000 false [.br true, .br true, .br false, .br true, .br true, .br true] 42 0 [(9, .p (.int .i64 i)), (8, .p (.int .i64 (↑s.length : Int))), (7, .p (.str s)), (4, .kb false), (0, .p (.str s)), (1, .p (.int .i64 b))] [] (loopAt Pd 83 0) [9, 8, 7, 4, 0, 1] [] [] = some ([decide (ibit BinOp.or .i64 (↑(s.getD i.toNat 0) : Int) 32 - 97 + 10 ≥ b) = true, fitsK .i64 (ibit BinOp.or .i64 (↑(s.getD i.toNat 0) : Int) 32 - 97 + 10) = true, fitsK .i64 (ibit BinOp.or .i64 (↑(s.getD i.toNat 0) : Int) 32 - 97) = true, decide (ibit BinOp.or .i64 (↑(s.getD i.toNat 0) : Int) 32 ≤ 102) = true, decide (ibit BinOp.or .i64 (↑(s.getD i.toNat 0) : Int) 32 ≥ 97) = true, decide ((↑(s.getD i.toNat 0) : Int) ≤ 57) = false, decide ((↑(s.getD i.toNat 0) : Int) ≥ 48) = true, fitsK .i64 (↑(s.getD i.toNat 0) : Int) = true, (decide (0 ≤ i) && decide (i < (↑s.length : Int))) = true, decide (i < (↑s.length : Int)) = true], .ret, [(9, .p (.int .i64 i)), (8, .p (.int .i64 (↑s.length : Int))), (7, .p (.str s)), (4, .kb false), (0, .p (.str s)), (1, .p (.int .i64 b))], []) := by kernel_rfl

theorem doL_l4 (s : List Nat) (i b : Int) : runC Pd Gd T 100000 false [.br true, .br true, .br false, .br true, .br true, .br false] 42 0 [(9, .p (.int .i64 i)), (8, .p (.int .i64 (↑s.length : Int))), (7, .p (.str s)), (4, .kb false), (0, .p (.str s)), (1, .p (.int .i64 b))] [] (loopAt Pd 83 0) [9, 8, 7, 4, 0, 1] [] [] = some ([fitsK .i64 (i + 1) = true, decide (ibit BinOp.or .i64 (↑(s.getD i.toNat 0) : Int) 32 - 97 + 10 ≥ b) = false, fitsK .i64 (ibit BinOp.or .i64 (↑(s.getD i.toNat 0) : Int) 32 - 97 + 10) = true, fitsK .i64 (ibit BinOp.or .i64 (↑(s.getD i.toNat 0) : Int) 32 - 97) = true, decide (ibit BinOp.or .i64 (↑(s.getD i.toNat 0) : Int) 32 ≤ 102) = true, decide (ibit BinOp.or .i64 (↑(s.getD i.toNat 0) : Int) 32 ≥ 97) = true, decide ((↑(s.getD i.toNat 0) : Int) ≤ 57) = false, decide ((↑(s.getD i.toNat 0) : Int) ≥ 48) = true, fitsK .i64 (↑(s.getD i.toNat 0) : Int) = true, (decide (0 ≤ i) && decide (i < (↑s.length : Int))) = true, decide (i < (↑s.length : Int)) = true], .normal, [(9, .p (.int .i64 (i + 1))), (8, .p (.int .i64 (↑s.length : Int))), (7, .p (.str s)), (4, .kb false), (0, .p (.str s)), (1, .p (.int .i64 b))], []) := by kernel_rfl

theorem doL_l5 (s : List Nat) (i b : Int) : runC Pd Gd T 100000 false [.br true, .br true, .br false, .br true, .br false] 42 0 [(9, .p (.int .i64 i)), (8, .p (.int .i64 (↑s.length : Int))), (7, .p (.str s)), (4, .kb false), (0, .p (.str s)), (1, .p (.int .i64 b))] [] (loopAt Pd 83 0) [9, 8, 7, 4, 0, 1] [] [] = some ([decide (ibit BinOp.or .i64 (↑(s.getD i.toNat 0) : Int) 32 ≤ 102) = false, decide (ibit BinOp.or .i64 (↑(s.getD i.toNat 0) : Int) 32 ≥ 97) = true, decide ((↑(s.getD i.toNat 0) : Int) ≤ 57) = false, decide ((↑(s.getD i.toNat 0) : Int) ≥ 48) = true, fitsK .i64 (↑(s.getD i.toNat 0) : Int) = true, (decide (0 ≤ i) && decide (i < (↑s.length : Int))) = true, decide (i < (↑s.length : Int)) = true], .ret, [(9, .p (.int .i64 i)), (8, .p (.int .i64 (↑s.length : Int))), (7, .p (.str s)), (4, .kb false), (0, .p (.str s)), (1, .p (.int .i64 b))], []) := by kernel_rfl

theorem doL_l6 (s : List Nat) (i b : Int) : runC Pd Gd T 100000 false [.br true, .br true, .br false, .br false] 42 0 [(9, .p (.int .i64 i)), (8, .p (.int .i64 (↑s.length : Int))), (7, .p (.str s)), (4, .kb false), (0, .p (.str s)), (1, .p (.int .i64 b))] [] (loopAt Pd 83 0) [9, 8, 7, 4, 0, 1] [] [] = some ([decide (ibit BinOp.or .i64 (↑(s.getD i.toNat 0) : Int) 32 ≥ 97) = false, decide ((↑(s.getD i.toNat 0) : Int) ≤ 57) = false, decide ((↑(s.getD i.toNat 0) : Int) ≥ 48) = true, fitsK .i64 (↑(s.getD i.toNat 0) : Int) = true, (decide (0 ≤ i) && decide (i < (↑s.length : Int))) = true, decide (i < (↑s.length : Int)) = true], .ret, [(9, .p (.int .i64 i)), (8, .p (.int .i64 (↑s.length : Int))), (7, .p (.str s)), (4, .kb false), (0, .p (.str s)), (1, .p (.int .i64 b))], []) := by kernel_rfl

theorem doL_l10 (s : List Nat) (i b : Int) : runC Pd Gd T 100000 false [.br true, .br false, .br false] 42 0 [(9, .p (.int .i64 i)), (8, .p (.int .i64 (↑s.length : Int))), (7, .p (.str s)), (4, .kb false), (0, .p (.str s)), (1, .p (.int .i64 b))] [] (loopAt Pd 83 0) [9, 8, 7, 4, 0, 1] [] [] = some ([decide (ibit BinOp.or .i64 (↑(s.getD i.toNat 0) : Int) 32 ≥ 97) = false, decide ((↑(s.getD i.toNat 0) : Int) ≥ 48) = false, fitsK .i64 (↑(s.getD i.toNat 0) : Int) = true, (decide (0 ≤ i) && decide (i < (↑s.length : Int))) = true, decide (i < (↑s.length : Int)) = true], .ret, [(9, .p (.int .i64 i)), (8, .p (.int .i64 (↑s.length : Int))), (7, .p (.str s)), (4, .kb false), (0, .p (.str s)), (1, .p (.int .i64 b))], []) := by kernel_rfl

theorem doL_l11 (s : List Nat) (i b : Int) : runC Pd Gd T 100000 false [.br false] 42 0 [(9, .p (.int .i64 i)), (8, .p (.int .i64 (↑s.length : Int))), (7, .p (.str s)), (4, .kb false), (0, .p (.str s)), (1, .p (.int .i64 b))] [] (loopAt Pd 83 0) [9, 8, 7, 4, 0, 1] [] [] = some ([decide (i < (↑s.length : Int)) = false], .exit 0, [(9, .p (.int .i64 i)), (8, .p (.int .i64 (↑s.length : Int))), (7, .p (.str s)), (4, .kb false), (0, .p (.str s)), (1, .p (.int .i64 b))], []) := by kernel_rfl

theorem doT_p1 (s : List Nat) (b : Int) : runFn Pd Gd T 100000 false [.tr 999999 (Tr.weak [9, 8, 7, 4, 0, 1] [] []), .code (.exit 0) [(9, .p (.int .i64 (↑s.length : Int))), (8, .p (.int .i64 (↑s.length : Int))), (7, .p (.str s)), (4, .kb false), (0, .p (.str s)), (1, .p (.int .i64 b))] []] 83 [.p (.str s), .p (.int .i64 b)] [] = some ([LC Pd Gd 42 0 [(9, .p (.int .i64 0)), (8, .p (.int .i64 (↑s.length : Int))), (7, .p (.str s)), (4, .kb false), (0, .p (.str s)), (1, .p (.int .i64 b))] [] (loopAt Pd 83 0) (.exit 0) [(9, .p (.int .i64 (↑s.length : Int))), (8, .p (.int .i64 (↑s.length : Int))), (7, .p (.str s)), (4, .kb false), (0, .p (.str s)), (1, .p (.int .i64 b))] []], .kb true, []) := by kernel_rfl

theorem doF_p1 (s : List Nat) (b i : Int) : runFn Pd Gd T 100000 false [.tr 999999 (Tr.weak [9, 8, 7, 4, 0, 1] [] []), .code .ret [(9, .p (.int .i64 i)), (8, .p (.int .i64 (↑s.length : Int))), (7, .p (.str s)), (4, .kb false), (0, .p (.str s)), (1, .p (.int .i64 b))] []] 83 [.p (.str s), .p (.int .i64 b)] [] = some ([LC Pd Gd 42 0 [(9, .p (.int .i64 0)), (8, .p (.int .i64 (↑s.length : Int))), (7, .p (.str s)), (4, .kb false), (0, .p (.str s)), (1, .p (.int .i64 b))] [] (loopAt Pd 83 0) .ret [(9, .p (.int .i64 i)), (8, .p (.int .i64 (↑s.length : Int))), (7, .p (.str s)), (4, .kb false), (0, .p (.str s)), (1, .p (.int .i64 b))] []], .kb false, []) := by kernel_rfl

theorem mgL_l1 (s d : List Nat) (i b : Int) : runC Pd Gd T 100000 false [.br true, .br true] 70 0 [(38, .p (.int .i64 i)), (37, .p (.int .i64 (↑d.length : Int))), (5, .p (.str d)), (4, .p (.int .i64 b)), (3, .p (.int .i64 0)), (2, .p (.int .u64 0)), (0, .p (.str s))] [] (loopAt Pd 73 0) [38, 37, 5, 4, 3, 2, 0] [] [] = some ([((↑(d.getD i.toNat 0) : Int) == 95) = true, (decide (0 ≤ i) && decide (i < (↑d.length : Int))) = true, decide (i < (↑d.length : Int)) = true], .ret, [(38, .p (.int .i64 i)), (37, .p (.int .i64 (↑d.length : Int))), (5, .p (.str d)), (4, .p (.int .i64 b)), (3, .p (.int .i64 6)), (2, .p (.int .u64 0)), (0, .p (.str s))], []) := by kernel_rfl

theorem mgL_l2 (s d : List Nat) (i b : Int) : runC Pd Gd T 100000 false [.br true, .br false, .br true] 70 0 [(38, .p (.int .i64 i)), (37, .p (.int .i64 (↑d.length : Int))), (5, .p (.str d)), (4, .p (.int .i64 b)), (3, .p (.int .i64 0)), (2, .p (.int .u64 0)), (0, .p (.str s))] [] (loopAt Pd 73 0) [38, 37, 5, 4, 3, 2, 0] [] [] = some ([((↑(d.getD i.toNat 0) : Int) == 43) = true, (decide (0 ≤ i) && decide (i < (↑d.length : Int))) = true, ((↑(d.getD i.toNat 0) : Int) == 95) = false, (decide (0 ≤ i) && decide (i < (↑d.length : Int))) = true, decide (i < (↑d.length : Int)) = true], .ret, [(38, .p (.int .i64 i)), (37, .p (.int .i64 (↑d.length : Int))), (5, .p (.str d)), (4, .p (.int .i64 b)), (3, .p (.int .i64 6)), (2, .p (.int .u64 0)), (0, .p (.str s))], []) := by kernel_rfl

theorem mgL_l3 (s d : List Nat) (i b : Int) : runC Pd Gd T 100000 false [.br true, .br false, .br false] 70 0 [(38, .p (.int .i64 i)), (37, .p (.int .i64 (↑d.length : Int))), (5, .p (.str d)), (4, .p (.int .i64 b)), (3, .p (.int .i64 0)), (2, .p (.int .u64 0)), (0, .p (.str s))] [] (loopAt Pd 73 0) [38, 37, 5, 4, 3, 2, 0] [] [] = some ([fitsK .i64 (i + 1) = true, ((↑(d.getD i.toNat 0) : Int) == 43) = false, (decide (0 ≤ i) && decide (i < (↑d.length : Int))) = true, ((↑(d.getD i.toNat 0) : Int) == 95) = false, (decide (0 ≤ i) && decide (i < (↑d.length : Int))) = true, decide (i < (↑d.length : Int)) = true], .normal, [(38, .p (.int .i64 (i + 1))), (37, .p (.int .i64 (↑d.length : Int))), (5, .p (.str d)), (4, .p (.int .i64 b)), (3, .p (.int .i64 0)), (2, .p (.int .u64 0)), (0, .p (.str s))], []) := by kernel_rfl

theorem mgL_l4 (s d : List Nat) (i b : Int) : runC Pd Gd T 100000 false [.br false] 70 0 [(38, .p (.int .i64 i)), (37, .p (.int .i64 (↑d.length : Int))), (5, .p (.str d)), (4, .p (.int .i64 b)), (3, .p (.int .i64 0)), (2, .p (.int .u64 0)), (0, .p (.str s))] [] (loopAt Pd 73 0) [38, 37, 5, 4, 3, 2, 0] [] [] = some ([decide (i < (↑d.length : Int)) = false], .exit 0, [(38, .p (.int .i64 i)), (37, .p (.int .i64 (↑d.length : Int))), (5, .p (.str d)), (4, .p (.int .i64 b)), (3, .p (.int .i64 0)), (2, .p (.int .u64 0)), (0, .p (.str s))], []) := by kernel_rfl

theorem mgR_p1 (s : List Nat) (i : Int) (n : Nat) (dg : Bool) : runFn Pd Gd T 100000 false [.br true] 73 [.p (.str s)] [] = some ([(s == []) = true], .tup [.p (.int .u64 0), .p (.int .i64 6)], []) := by kernel_rfl

theorem mgR_p2 (s : List Nat) (i : Int) (n : Nat) (dg : Bool) : runFn Pd Gd T 100000 false [.br false, .br true] 73 [.p (.str s)] [] = some ([decide ((↑(s.getD (Int.toNat 0) 0) : Int) < 48) = true, (true && decide (0 < (↑s.length : Int))) = true, (s == []) = false], .tup [.p (.int .u64 0), .p (.int .i64 6)], []) := by kernel_rfl

theorem mgR_p3 (s : List Nat) (i : Int) (n : Nat) (dg : Bool) : runFn Pd Gd T 100000 false [.br false, .br false, .br true] 73 [.p (.str s)] [] = some ([decide ((↑(s.getD (Int.toNat 0) 0) : Int) > 57) = true, (true && decide (0 < (↑s.length : Int))) = true, decide ((↑(s.getD (Int.toNat 0) 0) : Int) < 48) = false, (true && decide (0 < (↑s.length : Int))) = true, (s == []) = false], .tup [.p (.int .u64 0), .p (.int .i64 6)], []) := by kernel_rfl

theorem mgR_p4 (s : List Nat) (i : Int) (n : Nat) (dg : Bool) : runFn Pd Gd T 100000 false [.br false, .br false, .br false, .br true, .br true, .br true, .tr 999999 (Tr.weak [38, 37, 5, 4, 3, 2, 0] [] []), .code .ret [(38, .p (.int .i64 i)), (37, .p (.int .i64 (↑(List.drop 2 s).length : Int))), (5, .p (.str (List.drop 2 s))), (4, .p (.int .i64 16)), (3, .p (.int .i64 6)), (2, .p (.int .u64 0)), (0, .p (.str s))] []] 73 [.p (.str s)] [] = some ([LC Pd Gd 70 0 [(38, .p (.int .i64 0)), (37, .p (.int .i64 (↑(List.drop 2 s).length : Int))), (5, .p (.str (List.drop 2 s))), (4, .p (.int .i64 16)), (3, .p (.int .i64 0)), (2, .p (.int .u64 0)), (0, .p (.str s))] [] (loopAt Pd 73 0) .ret [(38, .p (.int .i64 i)), (37, .p (.int .i64 (↑(List.drop 2 s).length : Int))), (5, .p (.str (List.drop 2 s))), (4, .p (.int .i64 16)), (3, .p (.int .i64 6)), (2, .p (.int .u64 0)), (0, .p (.str s))] [], (true && decide (2 ≤ (↑s.length : Int))) = true, (ibit BinOp.or .u8 (↑(s.getD 1 0) : Int) 32 == 120) = true, (true && decide (1 < (↑s.length : Int))) = true, decide ((↑s.length : Int) > 1) = true, ((↑(s.getD 0 0) : Int) == 48) = true, (true && decide (0 < (↑s.length : Int))) = true, decide ((↑(s.getD (Int.toNat 0) 0) : Int) > 57) = false, (true && decide (0 < (↑s.length : Int))) = true, decide ((↑(s.getD (Int.toNat 0) 0) : Int) < 48) = false, (true && decide (0 < (↑s.length : Int))) = true, (s == []) = false], .tup [.p (.int .u64 0), .p (.int .i64 6)], []) := by kernel_rfl

theorem mgR_p5 (s : List Nat) (i : Int) (n : Nat) (dg : Bool) : runFn Pd Gd T 100000 false [.br false, .br false, .br false, .br true, .br true, .br false, .tr 999999 (Tr.weak [38, 37, 5, 4, 3, 2, 0] [] []), .code .ret [(38, .p (.int .i64 i)), (37, .p (.int .i64 (↑s.length : Int))), (5, .p (.str s)), (4, .p (.int .i64 8)), (3, .p (.int .i64 6)), (2, .p (.int .u64 0)), (0, .p (.str s))] []] 73 [.p (.str s)] [] = some ([LC Pd Gd 70 0 [(38, .p (.int .i64 0)), (37, .p (.int .i64 (↑s.length : Int))), (5, .p (.str s)), (4, .p (.int .i64 8)), (3, .p (.int .i64 0)), (2, .p (.int .u64 0)), (0, .p (.str s))] [] (loopAt Pd 73 0) .ret [(38, .p (.int .i64 i)), (37, .p (.int .i64 (↑s.length : Int))), (5, .p (.str s)), (4, .p (.int .i64 8)), (3, .p (.int .i64 6)), (2, .p (.int .u64 0)), (0, .p (.str s))] [], (ibit BinOp.or .u8 (↑(s.getD 1 0) : Int) 32 == 120) = false, (true && decide (1 < (↑s.length : Int))) = true, decide ((↑s.length : Int) > 1) = true, ((↑(s.getD 0 0) : Int) == 48) = true, (true && decide (0 < (↑s.length : Int))) = true, decide ((↑(s.getD (Int.toNat 0) 0) : Int) > 57) = false, (true && decide (0 < (↑s.length : Int))) = true, decide ((↑(s.getD (Int.toNat 0) 0) : Int) < 48) = false, (true && decide (0 < (↑s.length : Int))) = true, (s == []) = false], .tup [.p (.int .u64 0), .p (.int .i64 6)], []) := by kernel_rfl

theorem mgR_p6 (s : List Nat) (i : Int) (n : Nat) (dg : Bool) : runFn Pd Gd T 100000 false [.br false, .br false, .br false, .br true, .br false, .tr 999999 (Tr.weak [38, 37, 5, 4, 3, 2, 0] [] []), .code .ret [(38, .p (.int .i64 i)), (37, .p (.int .i64 (↑s.length : Int))), (5, .p (.str s)), (4, .p (.int .i64 8)), (3, .p (.int .i64 6)), (2, .p (.int .u64 0)), (0, .p (.str s))] []] 73 [.p (.str s)] [] = some ([LC Pd Gd 70 0 [(38, .p (.int .i64 0)), (37, .p (.int .i64 (↑s.length : Int))), (5, .p (.str s)), (4, .p (.int .i64 8)), (3, .p (.int .i64 0)), (2, .p (.int .u64 0)), (0, .p (.str s))] [] (loopAt Pd 73 0) .ret [(38, .p (.int .i64 i)), (37, .p (.int .i64 (↑s.length : Int))), (5, .p (.str s)), (4, .p (.int .i64 8)), (3, .p (.int .i64 6)), (2, .p (.int .u64 0)), (0, .p (.str s))] [], decide ((↑s.length : Int) > 1) = false, ((↑(s.getD 0 0) : Int) == 48) = true, (true && decide (0 < (↑s.length : Int))) = true, decide ((↑(s.getD (Int.toNat 0) 0) : Int) > 57) = false, (true && decide (0 < (↑s.length : Int))) = true, decide ((↑(s.getD (Int.toNat 0) 0) : Int) < 48) = false, (true && decide (0 < (↑s.length : Int))) = true, (s == []) = false], .tup [.p (.int .u64 0), .p (.int .i64 6)], []) := by kernel_rfl

theorem mgR_p7 (s : List Nat) (i : Int) (n : Nat) (dg : Bool) : runFn Pd Gd T 100000 false [.br false, .br false, .br false, .br false, .tr 999999 (Tr.weak [38, 37, 5, 4, 3, 2, 0] [] []), .code .ret [(38, .p (.int .i64 i)), (37, .p (.int .i64 (↑s.length : Int))), (5, .p (.str s)), (4, .p (.int .i64 10)), (3, .p (.int .i64 6)), (2, .p (.int .u64 0)), (0, .p (.str s))] []] 73 [.p (.str s)] [] = some ([LC Pd Gd 70 0 [(38, .p (.int .i64 0)), (37, .p (.int .i64 (↑s.length : Int))), (5, .p (.str s)), (4, .p (.int .i64 10)), (3, .p (.int .i64 0)), (2, .p (.int .u64 0)), (0, .p (.str s))] [] (loopAt Pd 73 0) .ret [(38, .p (.int .i64 i)), (37, .p (.int .i64 (↑s.length : Int))), (5, .p (.str s)), (4, .p (.int .i64 10)), (3, .p (.int .i64 6)), (2, .p (.int .u64 0)), (0, .p (.str s))] [], ((↑(s.getD 0 0) : Int) == 48) = false, (true && decide (0 < (↑s.length : Int))) = true, decide ((↑(s.getD (Int.toNat 0) 0) : Int) > 57) = false, (true && decide (0 < (↑s.length : Int))) = true, decide ((↑(s.getD (Int.toNat 0) 0) : Int) < 48) = false, (true && decide (0 < (↑s.length : Int))) = true, (s == []) = false], .tup [.p (.int .u64 0), .p (.int .i64 6)], []) := by kernel_rfl

theorem mgO_p4 (s : List Nat) (i : Int) (n : Nat) (dg : Bool) : runFn Pd Gd T 100000 false [.br false, .br false, .br false, .br true, .br true, .br true, .tr 999999 (Tr.weak [38, 37, 5, 4, 3, 2, 0] [] []), .code (.exit 0) [(38, .p (.int .i64 (↑(List.drop 2 s).length : Int))), (37, .p (.int .i64 (↑(List.drop 2 s).length : Int))), (5, .p (.str (List.drop 2 s))), (4, .p (.int .i64 16)), (3, .p (.int .i64 0)), (2, .p (.int .u64 0)), (0, .p (.str s))] [], .inl, .callv (.tup [.p (.int .u64 (↑n : Int)), .p .nili]) []] 73 [.p (.str s)] [] = some ([RC Pd Gd 91 [.p (.str (List.drop 2 s)), .p (.int .i64 16), .p (.int .i64 64)] [] (.tup [.p (.int .u64 (↑n : Int)), .p .nili]) [], LC Pd Gd 70 0 [(38, .p (.int .i64 0)), (37, .p (.int .i64 (↑(List.drop 2 s).length : Int))), (5, .p (.str (List.drop 2 s))), (4, .p (.int .i64 16)), (3, .p (.int .i64 0)), (2, .p (.int .u64 0)), (0, .p (.str s))] [] (loopAt Pd 73 0) (.exit 0) [(38, .p (.int .i64 (↑(List.drop 2 s).length : Int))), (37, .p (.int .i64 (↑(List.drop 2 s).length : Int))), (5, .p (.str (List.drop 2 s))), (4, .p (.int .i64 16)), (3, .p (.int .i64 0)), (2, .p (.int .u64 0)), (0, .p (.str s))] [], (true && decide (2 ≤ (↑s.length : Int))) = true, (ibit BinOp.or .u8 (↑(s.getD 1 0) : Int) 32 == 120) = true, (true && decide (1 < (↑s.length : Int))) = true, decide ((↑s.length : Int) > 1) = true, ((↑(s.getD 0 0) : Int) == 48) = true, (true && decide (0 < (↑s.length : Int))) = true, decide ((↑(s.getD (Int.toNat 0) 0) : Int) > 57) = false, (true && decide (0 < (↑s.length : Int))) = true, decide ((↑(s.getD (Int.toNat 0) 0) : Int) < 48) = false, (true && decide (0 < (↑s.length : Int))) = true, (s == []) = false], .tup [.p (.int .u64 (↑n : Int)), .p (.int .i64 0)], []) := by kernel_rfl

theorem mgO_p5 (s : List Nat) (i : Int) (n : Nat) (dg : Bool) : runFn Pd Gd T 100000 false [.br false, .br false, .br false, .br true, .br true, .br false, .tr 999999 (Tr.weak [38, 37, 5, 4, 3, 2, 0] [] []), .code (.exit 0) [(38, .p (.int .i64 (↑s.length : Int))), (37, .p (.int .i64 (↑s.length : Int))), (5, .p (.str s)), (4, .p (.int .i64 8)), (3, .p (.int .i64 0)), (2, .p (.int .u64 0)), (0, .p (.str s))] [], .inl, .callv (.tup [.p (.int .u64 (↑n : Int)), .p .nili]) []] 73 [.p (.str s)] [] = some ([RC Pd Gd 91 [.p (.str s), .p (.int .i64 8), .p (.int .i64 64)] [] (.tup [.p (.int .u64 (↑n : Int)), .p .nili]) [], LC Pd Gd 70 0 [(38, .p (.int .i64 0)), (37, .p (.int .i64 (↑s.length : Int))), (5, .p (.str s)), (4, .p (.int .i64 8)), (3, .p (.int .i64 0)), (2, .p (.int .u64 0)), (0, .p (.str s))] [] (loopAt Pd 73 0) (.exit 0) [(38, .p (.int .i64 (↑s.length : Int))), (37, .p (.int .i64 (↑s.length : Int))), (5, .p (.str s)), (4, .p (.int .i64 8)), (3, .p (.int .i64 0)), (2, .p (.int .u64 0)), (0, .p (.str s))] [], (ibit BinOp.or .u8 (↑(s.getD 1 0) : Int) 32 == 120) = false, (true && decide (1 < (↑s.length : Int))) = true, decide ((↑s.length : Int) > 1) = true, ((↑(s.getD 0 0) : Int) == 48) = true, (true && decide (0 < (↑s.length : Int))) = true, decide ((↑(s.getD (Int.toNat 0) 0) : Int) > 57) = false, (true && decide (0 < (↑s.length : Int))) = true, decide ((↑(s.getD (Int.toNat 0) 0) : Int) < 48) = false, (true && decide (0 < (↑s.length : Int))) = true, (s == []) = false], .tup [.p (.int .u64 (↑n : Int)), .p (.int .i64 0)], []) := by kernel_rfl

theorem mgO_p6 (s : List Nat) (i : Int) (n : Nat) (dg : Bool) : runFn Pd Gd T 100000 false [.br false, .br false, .br false, .br true, .br false, .tr 999999 (Tr.weak [38, 37, 5, 4, 3, 2, 0] [] []), .code (.exit 0) [(38, .p (.int .i64 (↑s.length : Int))), (37, .p (.int .i64 (↑s.length : Int))), (5, .p (.str s)), (4, .p (.int .i64 8)), (3, .p (.int .i64 0)), (2, .p (.int .u64 0)), (0, .p (.str s))] [], .inl, .callv (.tup [.p (.int .u64 (↑n : Int)), .p .nili]) []] 73 [.p (.str s)] [] = some ([RC Pd Gd 91 [.p (.str s), .p (.int .i64 8), .p (.int .i64 64)] [] (.tup [.p (.int .u64 (↑n : Int)), .p .nili]) [], LC Pd Gd 70 0 [(38, .p (.int .i64 0)), (37, .p (.int .i64 (↑s.length : Int))), (5, .p (.str s)), (4, .p (.int .i64 8)), (3, .p (.int .i64 0)), (2, .p (.int .u64 0)), (0, .p (.str s))] [] (loopAt Pd 73 0) (.exit 0) [(38, .p (.int .i64 (↑s.length : Int))), (37, .p (.int .i64 (↑s.length : Int))), (5, .p (.str s)), (4, .p (.int .i64 8)), (3, .p (.int .i64 0)), (2, .p (.int .u64 0)), (0, .p (.str s))] [], decide ((↑s.length : Int) > 1) = false, ((↑(s.getD 0 0) : Int) == 48) = true, (true && decide (0 < (↑s.length : Int))) = true, decide ((↑(s.getD (Int.toNat 0) 0) : Int) > 57) = false, (true && decide (0 < (↑s.length : Int))) = true, decide ((↑(s.getD (Int.toNat 0) 0) : Int) < 48) = false, (true && decide (0 < (↑s.length : Int))) = true, (s == []) = false], .tup [.p (.int .u64 (↑n : Int)), .p (.int .i64 0)], []) := by kernel_rfl

theorem mgO_p7 (s : List Nat) (i : Int) (n : Nat) (dg : Bool) : runFn Pd Gd T 100000 false [.br false, .br false, .br false, .br false, .tr 999999 (Tr.weak [38, 37, 5, 4, 3, 2, 0] [] []), .code (.exit 0) [(38, .p (.int .i64 (↑s.length : Int))), (37, .p (.int .i64 (↑s.length : Int))), (5, .p (.str s)), (4, .p (.int .i64 10)), (3, .p (.int .i64 0)), (2, .p (.int .u64 0)), (0, .p (.str s))] [], .inl, .callv (.tup [.p (.int .u64 (↑n : Int)), .p .nili]) []] 73 [.p (.str s)] [] = some ([RC Pd Gd 91 [.p (.str s), .p (.int .i64 10), .p (.int .i64 64)] [] (.tup [.p (.int .u64 (↑n : Int)), .p .nili]) [], LC Pd Gd 70 0 [(38, .p (.int .i64 0)), (37, .p (.int .i64 (↑s.length : Int))), (5, .p (.str s)), (4, .p (.int .i64 10)), (3, .p (.int .i64 0)), (2, .p (.int .u64 0)), (0, .p (.str s))] [] (loopAt Pd 73 0) (.exit 0) [(38, .p (.int .i64 (↑s.length : Int))), (37, .p (.int .i64 (↑s.length : Int))), (5, .p (.str s)), (4, .p (.int .i64 10)), (3, .p (.int .i64 0)), (2, .p (.int .u64 0)), (0, .p (.str s))] [], ((↑(s.getD 0 0) : Int) == 48) = false, (true && decide (0 < (↑s.length : Int))) = true, decide ((↑(s.getD (Int.toNat 0) 0) : Int) > 57) = false, (true && decide (0 < (↑s.length : Int))) = true, decide ((↑(s.getD (Int.toNat 0) 0) : Int) < 48) = false, (true && decide (0 < (↑s.length : Int))) = true, (s == []) = false], .tup [.p (.int .u64 (↑n : Int)), .p (.int .i64 0)], []) := by kernel_rfl

theorem mgS_p4 (s : List Nat) (i : Int) (n : Nat) (dg : Bool) : runW Pd Gd T 100000 false [.br false, .br false, .br false, .br true, .br true, .br true, .tr 999999 (Tr.weak [38, 37, 5, 4, 3, 2, 0] [] []), .code (.exit 0) [(38, .p (.int .i64 (↑(List.drop 2 s).length : Int))), (37, .p (.int .i64 (↑(List.drop 2 s).length : Int))), (5, .p (.str (List.drop 2 s))), (4, .p (.int .i64 16)), (3, .p (.int .i64 0)), (2, .p (.int .u64 0)), (0, .p (.str s))] [], .inl, .callv (.tup [.p (.int .u64 0), .p (.iface 129 (.int .i64 2))]) [], .inl, .br true, .inl, .callv (.p (.str (List.drop 2 s))) [], .br true, .callv (.p (.bool dg)) [], .br true] [] [] 73 [.p (.str s)] [] = some ([dg = true, RC Pd Gd 83 [.p (.str (List.drop 2 s)), .p (.int .i64 16)] [] (.p (.bool dg)) [], (!List.drop 2 s == []) = true, RC Pd Gd 102 [.p (.str (List.drop 2 s))] [] (.p (.str (List.drop 2 s))) [], true = true, RC Pd Gd 91 [.p (.str (List.drop 2 s)), .p (.int .i64 16), .p (.int .i64 64)] [] (.tup [.p (.int .u64 0), .p (.iface 129 (.int .i64 2))]) [], LC Pd Gd 70 0 [(38, .p (.int .i64 0)), (37, .p (.int .i64 (↑(List.drop 2 s).length : Int))), (5, .p (.str (List.drop 2 s))), (4, .p (.int .i64 16)), (3, .p (.int .i64 0)), (2, .p (.int .u64 0)), (0, .p (.str s))] [] (loopAt Pd 73 0) (.exit 0) [(38, .p (.int .i64 (↑(List.drop 2 s).length : Int))), (37, .p (.int .i64 (↑(List.drop 2 s).length : Int))), (5, .p (.str (List.drop 2 s))), (4, .p (.int .i64 16)), (3, .p (.int .i64 0)), (2, .p (.int .u64 0)), (0, .p (.str s))] [], (true && decide (2 ≤ (↑s.length : Int))) = true, (ibit BinOp.or .u8 (↑(s.getD 1 0) : Int) 32 == 120) = true, (true && decide (1 < (↑s.length : Int))) = true, decide ((↑s.length : Int) > 1) = true, ((↑(s.getD 0 0) : Int) == 48) = true, (true && decide (0 < (↑s.length : Int))) = true, decide ((↑(s.getD (Int.toNat 0) 0) : Int) > 57) = false, (true && decide (0 < (↑s.length : Int))) = true, decide ((↑(s.getD (Int.toNat 0) 0) : Int) < 48) = false, (true && decide (0 < (↑s.length : Int))) = true, (s == []) = false], .tup [.p (.int .u64 0), .p (.int .i64 14)], []) := by kernel_rfl

theorem mgS_p5 (s : List Nat) (i : Int) (n : Nat) (dg : Bool) : runW Pd Gd T 100000 false [.br false, .br false, .br false, .br true, .br true, .br true, .tr 999999 (Tr.weak [38, 37, 5, 4, 3, 2, 0] [] []), .code (.exit 0) [(38, .p (.int .i64 (↑(List.drop 2 s).length : Int))), (37, .p (.int .i64 (↑(List.drop 2 s).length : Int))), (5, .p (.str (List.drop 2 s))), (4, .p (.int .i64 16)), (3, .p (.int .i64 0)), (2, .p (.int .u64 0)), (0, .p (.str s))] [], .inl, .callv (.tup [.p (.int .u64 0), .p (.iface 129 (.int .i64 2))]) [], .inl, .br true, .inl, .callv (.p (.str (List.drop 2 s))) [], .br true, .callv (.p (.bool dg)) [], .br false] [] [] 73 [.p (.str s)] [] = some ([dg = false, RC Pd Gd 83 [.p (.str (List.drop 2 s)), .p (.int .i64 16)] [] (.p (.bool dg)) [], (!List.drop 2 s == []) = true, RC Pd Gd 102 [.p (.str (List.drop 2 s))] [] (.p (.str (List.drop 2 s))) [], true = true, RC Pd Gd 91 [.p (.str (List.drop 2 s)), .p (.int .i64 16), .p (.int .i64 64)] [] (.tup [.p (.int .u64 0), .p (.iface 129 (.int .i64 2))]) [], LC Pd Gd 70 0 [(38, .p (.int .i64 0)), (37, .p (.int .i64 (↑(List.drop 2 s).length : Int))), (5, .p (.str (List.drop 2 s))), (4, .p (.int .i64 16)), (3, .p (.int .i64 0)), (2, .p (.int .u64 0)), (0, .p (.str s))] [] (loopAt Pd 73 0) (.exit 0) [(38, .p (.int .i64 (↑(List.drop 2 s).length : Int))), (37, .p (.int .i64 (↑(List.drop 2 s).length : Int))), (5, .p (.str (List.drop 2 s))), (4, .p (.int .i64 16)), (3, .p (.int .i64 0)), (2, .p (.int .u64 0)), (0, .p (.str s))] [], (true && decide (2 ≤ (↑s.length : Int))) = true, (ibit BinOp.or .u8 (↑(s.getD 1 0) : Int) 32 == 120) = true, (true && decide (1 < (↑s.length : Int))) = true, decide ((↑s.length : Int) > 1) = true, ((↑(s.getD 0 0) : Int) == 48) = true, (true && decide (0 < (↑s.length : Int))) = true, decide ((↑(s.getD (Int.toNat 0) 0) : Int) > 57) = false, (true && decide (0 < (↑s.length : Int))) = true, decide ((↑(s.getD (Int.toNat 0) 0) : Int) < 48) = false, (true && decide (0 < (↑s.length : Int))) = true, (s == []) = false], .tup [.p (.int .u64 0), .p (.int .i64 6)], []) := by kernel_rfl

theorem mgS_p6 (s : List Nat) (i : Int) (n : Nat) (dg : Bool) : runW Pd Gd T 100000 false [.br false, .br false, .br false, .br true, .br true, .br true, .tr 999999 (Tr.weak [38, 37, 5, 4, 3, 2, 0] [] []), .code (.exit 0) [(38, .p (.int .i64 (↑(List.drop 2 s).length : Int))), (37, .p (.int .i64 (↑(List.drop 2 s).length : Int))), (5, .p (.str (List.drop 2 s))), (4, .p (.int .i64 16)), (3, .p (.int .i64 0)), (2, .p (.int .u64 0)), (0, .p (.str s))] [], .inl, .callv (.tup [.p (.int .u64 0), .p (.iface 129 (.int .i64 2))]) [], .inl, .br true, .inl, .callv (.p (.str (List.drop 2 s))) [], .br false] [] [] 73 [.p (.str s)] [] = some ([(!List.drop 2 s == []) = false, RC Pd Gd 102 [.p (.str (List.drop 2 s))] [] (.p (.str (List.drop 2 s))) [], true = true, RC Pd Gd 91 [.p (.str (List.drop 2 s)), .p (.int .i64 16), .p (.int .i64 64)] [] (.tup [.p (.int .u64 0), .p (.iface 129 (.int .i64 2))]) [], LC Pd Gd 70 0 [(38, .p (.int .i64 0)), (37, .p (.int .i64 (↑(List.drop 2 s).length : Int))), (5, .p (.str (List.drop 2 s))), (4, .p (.int .i64 16)), (3, .p (.int .i64 0)), (2, .p (.int .u64 0)), (0, .p (.str s))] [] (loopAt Pd 73 0) (.exit 0) [(38, .p (.int .i64 (↑(List.drop 2 s).length : Int))), (37, .p (.int .i64 (↑(List.drop 2 s).length : Int))), (5, .p (.str (List.drop 2 s))), (4, .p (.int .i64 16)), (3, .p (.int .i64 0)), (2, .p (.int .u64 0)), (0, .p (.str s))] [], (true && decide (2 ≤ (↑s.length : Int))) = true, (ibit BinOp.or .u8 (↑(s.getD 1 0) : Int) 32 == 120) = true, (true && decide (1 < (↑s.length : Int))) = true, decide ((↑s.length : Int) > 1) = true, ((↑(s.getD 0 0) : Int) == 48) = true, (true && decide (0 < (↑s.length : Int))) = true, decide ((↑(s.getD (Int.toNat 0) 0) : Int) > 57) = false, (true && decide (0 < (↑s.length : Int))) = true, decide ((↑(s.getD (Int.toNat 0) 0) : Int) < 48) = false, (true && decide (0 < (↑s.length : Int))) = true, (s == []) = false], .tup [.p (.int .u64 0), .p (.int .i64 6)], []) := by kernel_rfl

theorem mgS_p7 (s : List Nat) (i : Int) (n : Nat) (dg : Bool) : runW Pd Gd T 100000 false [.br false, .br false, .br false, .br true, .br true, .br false, .tr 999999 (Tr.weak [38, 37, 5, 4, 3, 2, 0] [] []), .code (.exit 0) [(38, .p (.int .i64 (↑s.length : Int))), (37, .p (.int .i64 (↑s.length : Int))), (5, .p (.str s)), (4, .p (.int .i64 8)), (3, .p (.int .i64 0)), (2, .p (.int .u64 0)), (0, .p (.str s))] [], .inl, .callv (.tup [.p (.int .u64 0), .p (.iface 129 (.int .i64 2))]) [], .inl, .br true, .inl, .callv (.p (.str s)) [], .br true, .callv (.p (.bool dg)) [], .br true] [] [] 73 [.p (.str s)] [] = some ([dg = true, RC Pd Gd 83 [.p (.str s), .p (.int .i64 8)] [] (.p (.bool dg)) [], (!s == []) = true, RC Pd Gd 102 [.p (.str s)] [] (.p (.str s)) [], true = true, RC Pd Gd 91 [.p (.str s), .p (.int .i64 8), .p (.int .i64 64)] [] (.tup [.p (.int .u64 0), .p (.iface 129 (.int .i64 2))]) [], LC Pd Gd 70 0 [(38, .p (.int .i64 0)), (37, .p (.int .i64 (↑s.length : Int))), (5, .p (.str s)), (4, .p (.int .i64 8)), (3, .p (.int .i64 0)), (2, .p (.int .u64 0)), (0, .p (.str s))] [] (loopAt Pd 73 0) (.exit 0) [(38, .p (.int .i64 (↑s.length : Int))), (37, .p (.int .i64 (↑s.length : Int))), (5, .p (.str s)), (4, .p (.int .i64 8)), (3, .p (.int .i64 0)), (2, .p (.int .u64 0)), (0, .p (.str s))] [], (ibit BinOp.or .u8 (↑(s.getD 1 0) : Int) 32 == 120) = false, (true && decide (1 < (↑s.length : Int))) = true, decide ((↑s.length : Int) > 1) = true, ((↑(s.getD 0 0) : Int) == 48) = true, (true && decide (0 < (↑s.length : Int))) = true, decide ((↑(s.getD (Int.toNat 0) 0) : Int) > 57) = false, (true && decide (0 < (↑s.length : Int))) = true, decide ((↑(s.getD (Int.toNat 0) 0) : Int) < 48) = false, (true && decide (0 < (↑s.length : Int))) = true, (s == []) = false], .tup [.p (.int .u64 0), .p (.int .i64 14)], []) := by kernel_rfl

theorem mgS_p8 (s : List Nat) (i : Int) (n : Nat) (dg : Bool) : runW Pd Gd T 100000 false [.br false, .br false, .br false, .br true, .br true, .br false, .tr 999999 (Tr.weak [38, 37, 5, 4, 3, 2, 0] [] []), .code (.exit 0) [(38, .p (.int .i64 (↑s.length : Int))), (37, .p (.int .i64 (↑s.length : Int))), (5, .p (.str s)), (4, .p (.int .i64 8)), (3, .p (.int .i64 0)), (2, .p (.int .u64 0)), (0, .p (.str s))] [], .inl, .callv (.tup [.p (.int .u64 0), .p (.iface 129 (.int .i64 2))]) [], .inl, .br true, .inl, .callv (.p (.str s)) [], .br true, .callv (.p (.bool dg)) [], .br false] [] [] 73 [.p (.str s)] [] = some ([dg = false, RC Pd Gd 83 [.p (.str s), .p (.int .i64 8)] [] (.p (.bool dg)) [], (!s == []) = true, RC Pd Gd 102 [.p (.str s)] [] (.p (.str s)) [], true = true, RC Pd Gd 91 [.p (.str s), .p (.int .i64 8), .p (.int .i64 64)] [] (.tup [.p (.int .u64 0), .p (.iface 129 (.int .i64 2))]) [], LC Pd Gd 70 0 [(38, .p (.int .i64 0)), (37, .p (.int .i64 (↑s.length : Int))), (5, .p (.str s)), (4, .p (.int .i64 8)), (3, .p (.int .i64 0)), (2, .p (.int .u64 0)), (0, .p (.str s))] [] (loopAt Pd 73 0) (.exit 0) [(38, .p (.int .i64 (↑s.length : Int))), (37, .p (.int .i64 (↑s.length : Int))), (5, .p (.str s)), (4, .p (.int .i64 8)), (3, .p (.int .i64 0)), (2, .p (.int .u64 0)), (0, .p (.str s))] [], (ibit BinOp.or .u8 (↑(s.getD 1 0) : Int) 32 == 120) = false, (true && decide (1 < (↑s.length : Int))) = true, decide ((↑s.length : Int) > 1) = true, ((↑(s.getD 0 0) : Int) == 48) = true, (true && decide (0 < (↑s.length : Int))) = true, decide ((↑(s.getD (Int.toNat 0) 0) : Int) > 57) = false, (true && decide (0 < (↑s.length : Int))) = true, decide ((↑(s.getD (Int.toNat 0) 0) : Int) < 48) = false, (true && decide (0 < (↑s.length : Int))) = true, (s == []) = false], .tup [.p (.int .u64 0), .p (.int .i64 6)], []) := by kernel_rfl


theorem mgS_p10 (s : List Nat) (i : Int) (n : Nat) (dg : Bool) : runW Pd Gd T 100000 false [.br false, .br false, .br false, .br true, .br false, .tr 999999 (Tr.weak [38, 37, 5, 4, 3, 2, 0] [] []), .code (.exit 0) [(38, .p (.int .i64 (↑s.length : Int))), (37, .p (.int .i64 (↑s.length : Int))), (5, .p (.str s)), (4, .p (.int .i64 8)), (3, .p (.int .i64 0)), (2, .p (.int .u64 0)), (0, .p (.str s))] [], .inl, .callv (.tup [.p (.int .u64 0), .p (.iface 129 (.int .i64 2))]) [], .inl, .br true, .inl, .callv (.p (.str s)) [], .br true, .callv (.p (.bool dg)) [], .br true] [] [] 73 [.p (.str s)] [] = some ([dg = true, RC Pd Gd 83 [.p (.str s), .p (.int .i64 8)] [] (.p (.bool dg)) [], (!s == []) = true, RC Pd Gd 102 [.p (.str s)] [] (.p (.str s)) [], true = true, RC Pd Gd 91 [.p (.str s), .p (.int .i64 8), .p (.int .i64 64)] [] (.tup [.p (.int .u64 0), .p (.iface 129 (.int .i64 2))]) [], LC Pd Gd 70 0 [(38, .p (.int .i64 0)), (37, .p (.int .i64 (↑s.length : Int))), (5, .p (.str s)), (4, .p (.int .i64 8)), (3, .p (.int .i64 0)), (2, .p (.int .u64 0)), (0, .p (.str s))] [] (loopAt Pd 73 0) (.exit 0) [(38, .p (.int .i64 (↑s.length : Int))), (37, .p (.int .i64 (↑s.length : Int))), (5, .p (.str s)), (4, .p (.int .i64 8)), (3, .p (.int .i64 0)), (2, .p (.int .u64 0)), (0, .p (.str s))] [], decide ((↑s.length : Int) > 1) = false, ((↑(s.getD 0 0) : Int) == 48) = true, (true && decide (0 < (↑s.length : Int))) = true, decide ((↑(s.getD (Int.toNat 0) 0) : Int) > 57) = false, (true && decide (0 < (↑s.length : Int))) = true, decide ((↑(s.getD (Int.toNat 0) 0) : Int) < 48) = false, (true && decide (0 < (↑s.length : Int))) = true, (s == []) = false], .tup [.p (.int .u64 0), .p (.int .i64 14)], []) := by kernel_rfl

theorem mgS_p11 (s : List Nat) (i : Int) (n : Nat) (dg : Bool) : runW Pd Gd T 100000 false [.br false, .br false, .br false, .br true, .br false, .tr 999999 (Tr.weak [38, 37, 5, 4, 3, 2, 0] [] []), .code (.exit 0) [(38, .p (.int .i64 (↑s.length : Int))), (37, .p (.int .i64 (↑s.length : Int))), (5, .p (.str s)), (4, .p (.int .i64 8)), (3, .p (.int .i64 0)), (2, .p (.int .u64 0)), (0, .p (.str s))] [], .inl, .callv (.tup [.p (.int .u64 0), .p (.iface 129 (.int .i64 2))]) [], .inl, .br true, .inl, .callv (.p (.str s)) [], .br true, .callv (.p (.bool dg)) [], .br false] [] [] 73 [.p (.str s)] [] = some ([dg = false, RC Pd Gd 83 [.p (.str s), .p (.int .i64 8)] [] (.p (.bool dg)) [], (!s == []) = true, RC Pd Gd 102 [.p (.str s)] [] (.p (.str s)) [], true = true, RC Pd Gd 91 [.p (.str s), .p (.int .i64 8), .p (.int .i64 64)] [] (.tup [.p (.int .u64 0), .p (.iface 129 (.int .i64 2))]) [], LC Pd Gd 70 0 [(38, .p (.int .i64 0)), (37, .p (.int .i64 (↑s.length : Int))), (5, .p (.str s)), (4, .p (.int .i64 8)), (3, .p (.int .i64 0)), (2, .p (.int .u64 0)), (0, .p (.str s))] [] (loopAt Pd 73 0) (.exit 0) [(38, .p (.int .i64 (↑s.length : Int))), (37, .p (.int .i64 (↑s.length : Int))), (5, .p (.str s)), (4, .p (.int .i64 8)), (3, .p (.int .i64 0)), (2, .p (.int .u64 0)), (0, .p (.str s))] [], decide ((↑s.length : Int) > 1) = false, ((↑(s.getD 0 0) : Int) == 48) = true, (true && decide (0 < (↑s.length : Int))) = true, decide ((↑(s.getD (Int.toNat 0) 0) : Int) > 57) = false, (true && decide (0 < (↑s.length : Int))) = true, decide ((↑(s.getD (Int.toNat 0) 0) : Int) < 48) = false, (true && decide (0 < (↑s.length : Int))) = true, (s == []) = false], .tup [.p (.int .u64 0), .p (.int .i64 6)], []) := by kernel_rfl


theorem mgS_p13 (s : List Nat) (i : Int) (n : Nat) (dg : Bool) : runW Pd Gd T 100000 false [.br false, .br false, .br false, .br false, .tr 999999 (Tr.weak [38, 37, 5, 4, 3, 2, 0] [] []), .code (.exit 0) [(38, .p (.int .i64 (↑s.length : Int))), (37, .p (.int .i64 (↑s.length : Int))), (5, .p (.str s)), (4, .p (.int .i64 10)), (3, .p (.int .i64 0)), (2, .p (.int .u64 0)), (0, .p (.str s))] [], .inl, .callv (.tup [.p (.int .u64 0), .p (.iface 129 (.int .i64 2))]) [], .inl, .br true, .inl, .callv (.p (.str s)) [], .br true, .callv (.p (.bool dg)) [], .br true] [] [] 73 [.p (.str s)] [] = some ([dg = true, RC Pd Gd 83 [.p (.str s), .p (.int .i64 10)] [] (.p (.bool dg)) [], (!s == []) = true, RC Pd Gd 102 [.p (.str s)] [] (.p (.str s)) [], true = true, RC Pd Gd 91 [.p (.str s), .p (.int .i64 10), .p (.int .i64 64)] [] (.tup [.p (.int .u64 0), .p (.iface 129 (.int .i64 2))]) [], LC Pd Gd 70 0 [(38, .p (.int .i64 0)), (37, .p (.int .i64 (↑s.length : Int))), (5, .p (.str s)), (4, .p (.int .i64 10)), (3, .p (.int .i64 0)), (2, .p (.int .u64 0)), (0, .p (.str s))] [] (loopAt Pd 73 0) (.exit 0) [(38, .p (.int .i64 (↑s.length : Int))), (37, .p (.int .i64 (↑s.length : Int))), (5, .p (.str s)), (4, .p (.int .i64 10)), (3, .p (.int .i64 0)), (2, .p (.int .u64 0)), (0, .p (.str s))] [], ((↑(s.getD 0 0) : Int) == 48) = false, (true && decide (0 < (↑s.length : Int))) = true, decide ((↑(s.getD (Int.toNat 0) 0) : Int) > 57) = false, (true && decide (0 < (↑s.length : Int))) = true, decide ((↑(s.getD (Int.toNat 0) 0) : Int) < 48) = false, (true && decide (0 < (↑s.length : Int))) = true, (s == []) = false], .tup [.p (.int .u64 0), .p (.int .i64 14)], []) := by kernel_rfl

theorem mgS_p14 (s : List Nat) (i : Int) (n : Nat) (dg : Bool) : runW Pd Gd T 100000 false [.br false, .br false, .br false, .br false, .tr 999999 (Tr.weak [38, 37, 5, 4, 3, 2, 0] [] []), .code (.exit 0) [(38, .p (.int .i64 (↑s.length : Int))), (37, .p (.int .i64 (↑s.length : Int))), (5, .p (.str s)), (4, .p (.int .i64 10)), (3, .p (.int .i64 0)), (2, .p (.int .u64 0)), (0, .p (.str s))] [], .inl, .callv (.tup [.p (.int .u64 0), .p (.iface 129 (.int .i64 2))]) [], .inl, .br true, .inl, .callv (.p (.str s)) [], .br true, .callv (.p (.bool dg)) [], .br false] [] [] 73 [.p (.str s)] [] = some ([dg = false, RC Pd Gd 83 [.p (.str s), .p (.int .i64 10)] [] (.p (.bool dg)) [], (!s == []) = true, RC Pd Gd 102 [.p (.str s)] [] (.p (.str s)) [], true = true, RC Pd Gd 91 [.p (.str s), .p (.int .i64 10), .p (.int .i64 64)] [] (.tup [.p (.int .u64 0), .p (.iface 129 (.int .i64 2))]) [], LC Pd Gd 70 0 [(38, .p (.int .i64 0)), (37, .p (.int .i64 (↑s.length : Int))), (5, .p (.str s)), (4, .p (.int .i64 10)), (3, .p (.int .i64 0)), (2, .p (.int .u64 0)), (0, .p (.str s))] [] (loopAt Pd 73 0) (.exit 0) [(38, .p (.int .i64 (↑s.length : Int))), (37, .p (.int .i64 (↑s.length : Int))), (5, .p (.str s)), (4, .p (.int .i64 10)), (3, .p (.int .i64 0)), (2, .p (.int .u64 0)), (0, .p (.str s))] [], ((↑(s.getD 0 0) : Int) == 48) = false, (true && decide (0 < (↑s.length : Int))) = true, decide ((↑(s.getD (Int.toNat 0) 0) : Int) > 57) = false, (true && decide (0 < (↑s.length : Int))) = true, decide ((↑(s.getD (Int.toNat 0) 0) : Int) < 48) = false, (true && decide (0 < (↑s.length : Int))) = true, (s == []) = false], .tup [.p (.int .u64 0), .p (.int .i64 6)], []) := by kernel_rfl


theorem mgG_p4 (s : List Nat) (i : Int) (n : Nat) (dg : Bool) : runW Pd Gd T 100000 false [.br false, .br false, .br false, .br true, .br true, .br true, .tr 999999 (Tr.weak [38, 37, 5, 4, 3, 2, 0] [] []), .code (.exit 0) [(38, .p (.int .i64 (↑(List.drop 2 s).length : Int))), (37, .p (.int .i64 (↑(List.drop 2 s).length : Int))), (5, .p (.str (List.drop 2 s))), (4, .p (.int .i64 16)), (3, .p (.int .i64 0)), (2, .p (.int .u64 0)), (0, .p (.str s))] [], .inl, .callv (.tup [.p (.int .u64 18446744073709551615), .p (.iface 129 (.int .i64 1))]) [], .inl, .br false, .br true, .inl, .callv (.p (.str (List.drop 2 s))) [], .br true, .callv (.p (.bool dg)) [], .br true] [] [] 73 [.p (.str s)] [] = some ([dg = true, RC Pd Gd 83 [.p (.str (List.drop 2 s)), .p (.int .i64 16)] [] (.p (.bool dg)) [], (!List.drop 2 s == []) = true, RC Pd Gd 102 [.p (.str (List.drop 2 s))] [] (.p (.str (List.drop 2 s))) [], true = true, false = false, RC Pd Gd 91 [.p (.str (List.drop 2 s)), .p (.int .i64 16), .p (.int .i64 64)] [] (.tup [.p (.int .u64 18446744073709551615), .p (.iface 129 (.int .i64 1))]) [], LC Pd Gd 70 0 [(38, .p (.int .i64 0)), (37, .p (.int .i64 (↑(List.drop 2 s).length : Int))), (5, .p (.str (List.drop 2 s))), (4, .p (.int .i64 16)), (3, .p (.int .i64 0)), (2, .p (.int .u64 0)), (0, .p (.str s))] [] (loopAt Pd 73 0) (.exit 0) [(38, .p (.int .i64 (↑(List.drop 2 s).length : Int))), (37, .p (.int .i64 (↑(List.drop 2 s).length : Int))), (5, .p (.str (List.drop 2 s))), (4, .p (.int .i64 16)), (3, .p (.int .i64 0)), (2, .p (.int .u64 0)), (0, .p (.str s))] [], (true && decide (2 ≤ (↑s.length : Int))) = true, (ibit BinOp.or .u8 (↑(s.getD 1 0) : Int) 32 == 120) = true, (true && decide (1 < (↑s.length : Int))) = true, decide ((↑s.length : Int) > 1) = true, ((↑(s.getD 0 0) : Int) == 48) = true, (true && decide (0 < (↑s.length : Int))) = true, decide ((↑(s.getD (Int.toNat 0) 0) : Int) > 57) = false, (true && decide (0 < (↑s.length : Int))) = true, decide ((↑(s.getD (Int.toNat 0) 0) : Int) < 48) = false, (true && decide (0 < (↑s.length : Int))) = true, (s == []) = false], .tup [.p (.int .u64 0), .p (.int .i64 14)], []) := by kernel_rfl

theorem mgG_p5 (s : List Nat) (i : Int) (n : Nat) (dg : Bool) : runW Pd Gd T 100000 false [.br false, .br false, .br false, .br true, .br true, .br true, .tr 999999 (Tr.weak [38, 37, 5, 4, 3, 2, 0] [] []), .code (.exit 0) [(38, .p (.int .i64 (↑(List.drop 2 s).length : Int))), (37, .p (.int .i64 (↑(List.drop 2 s).length : Int))), (5, .p (.str (List.drop 2 s))), (4, .p (.int .i64 16)), (3, .p (.int .i64 0)), (2, .p (.int .u64 0)), (0, .p (.str s))] [], .inl, .callv (.tup [.p (.int .u64 18446744073709551615), .p (.iface 129 (.int .i64 1))]) [], .inl, .br false, .br true, .inl, .callv (.p (.str (List.drop 2 s))) [], .br true, .callv (.p (.bool dg)) [], .br false] [] [] 73 [.p (.str s)] [] = some ([dg = false, RC Pd Gd 83 [.p (.str (List.drop 2 s)), .p (.int .i64 16)] [] (.p (.bool dg)) [], (!List.drop 2 s == []) = true, RC Pd Gd 102 [.p (.str (List.drop 2 s))] [] (.p (.str (List.drop 2 s))) [], true = true, false = false, RC Pd Gd 91 [.p (.str (List.drop 2 s)), .p (.int .i64 16), .p (.int .i64 64)] [] (.tup [.p (.int .u64 18446744073709551615), .p (.iface 129 (.int .i64 1))]) [], LC Pd Gd 70 0 [(38, .p (.int .i64 0)), (37, .p (.int .i64 (↑(List.drop 2 s).length : Int))), (5, .p (.str (List.drop 2 s))), (4, .p (.int .i64 16)), (3, .p (.int .i64 0)), (2, .p (.int .u64 0)), (0, .p (.str s))] [] (loopAt Pd 73 0) (.exit 0) [(38, .p (.int .i64 (↑(List.drop 2 s).length : Int))), (37, .p (.int .i64 (↑(List.drop 2 s).length : Int))), (5, .p (.str (List.drop 2 s))), (4, .p (.int .i64 16)), (3, .p (.int .i64 0)), (2, .p (.int .u64 0)), (0, .p (.str s))] [], (true && decide (2 ≤ (↑s.length : Int))) = true, (ibit BinOp.or .u8 (↑(s.getD 1 0) : Int) 32 == 120) = true, (true && decide (1 < (↑s.length : Int))) = true, decide ((↑s.length : Int) > 1) = true, ((↑(s.getD 0 0) : Int) == 48) = true, (true && decide (0 < (↑s.length : Int))) = true, decide ((↑(s.getD (Int.toNat 0) 0) : Int) > 57) = false, (true && decide (0 < (↑s.length : Int))) = true, decide ((↑(s.getD (Int.toNat 0) 0) : Int) < 48) = false, (true && decide (0 < (↑s.length : Int))) = true, (s == []) = false], .tup [.p (.int .u64 0), .p (.int .i64 6)], []) := by kernel_rfl

theorem mgG_p6 (s : List Nat) (i : Int) (n : Nat) (dg : Bool) : runW Pd Gd T 100000 false [.br false, .br false, .br false, .br true, .br true, .br true, .tr 999999 (Tr.weak [38, 37, 5, 4, 3, 2, 0] [] []), .code (.exit 0) [(38, .p (.int .i64 (↑(List.drop 2 s).length : Int))), (37, .p (.int .i64 (↑(List.drop 2 s).length : Int))), (5, .p (.str (List.drop 2 s))), (4, .p (.int .i64 16)), (3, .p (.int .i64 0)), (2, .p (.int .u64 0)), (0, .p (.str s))] [], .inl, .callv (.tup [.p (.int .u64 18446744073709551615), .p (.iface 129 (.int .i64 1))]) [], .inl, .br false, .br true, .inl, .callv (.p (.str (List.drop 2 s))) [], .br false] [] [] 73 [.p (.str s)] [] = some ([(!List.drop 2 s == []) = false, RC Pd Gd 102 [.p (.str (List.drop 2 s))] [] (.p (.str (List.drop 2 s))) [], true = true, false = false, RC Pd Gd 91 [.p (.str (List.drop 2 s)), .p (.int .i64 16), .p (.int .i64 64)] [] (.tup [.p (.int .u64 18446744073709551615), .p (.iface 129 (.int .i64 1))]) [], LC Pd Gd 70 0 [(38, .p (.int .i64 0)), (37, .p (.int .i64 (↑(List.drop 2 s).length : Int))), (5, .p (.str (List.drop 2 s))), (4, .p (.int .i64 16)), (3, .p (.int .i64 0)), (2, .p (.int .u64 0)), (0, .p (.str s))] [] (loopAt Pd 73 0) (.exit 0) [(38, .p (.int .i64 (↑(List.drop 2 s).length : Int))), (37, .p (.int .i64 (↑(List.drop 2 s).length : Int))), (5, .p (.str (List.drop 2 s))), (4, .p (.int .i64 16)), (3, .p (.int .i64 0)), (2, .p (.int .u64 0)), (0, .p (.str s))] [], (true && decide (2 ≤ (↑s.length : Int))) = true, (ibit BinOp.or .u8 (↑(s.getD 1 0) : Int) 32 == 120) = true, (true && decide (1 < (↑s.length : Int))) = true, decide ((↑s.length : Int) > 1) = true, ((↑(s.getD 0 0) : Int) == 48) = true, (true && decide (0 < (↑s.length : Int))) = true, decide ((↑(s.getD (Int.toNat 0) 0) : Int) > 57) = false, (true && decide (0 < (↑s.length : Int))) = true, decide ((↑(s.getD (Int.toNat 0) 0) : Int) < 48) = false, (true && decide (0 < (↑s.length : Int))) = true, (s == []) = false], .tup [.p (.int .u64 0), .p (.int .i64 6)], []) := by kernel_rfl

theorem mgG_p7 (s : List Nat) (i : Int) (n : Nat) (dg : Bool) : runW Pd Gd T 100000 false [.br false, .br false, .br false, .br true, .br true, .br false, .tr 999999 (Tr.weak [38, 37, 5, 4, 3, 2, 0] [] []), .code (.exit 0) [(38, .p (.int .i64 (↑s.length : Int))), (37, .p (.int .i64 (↑s.length : Int))), (5, .p (.str s)), (4, .p (.int .i64 8)), (3, .p (.int .i64 0)), (2, .p (.int .u64 0)), (0, .p (.str s))] [], .inl, .callv (.tup [.p (.int .u64 18446744073709551615), .p (.iface 129 (.int .i64 1))]) [], .inl, .br false, .br true, .inl, .callv (.p (.str s)) [], .br true, .callv (.p (.bool dg)) [], .br true] [] [] 73 [.p (.str s)] [] = some ([dg = true, RC Pd Gd 83 [.p (.str s), .p (.int .i64 8)] [] (.p (.bool dg)) [], (!s == []) = true, RC Pd Gd 102 [.p (.str s)] [] (.p (.str s)) [], true = true, false = false, RC Pd Gd 91 [.p (.str s), .p (.int .i64 8), .p (.int .i64 64)] [] (.tup [.p (.int .u64 18446744073709551615), .p (.iface 129 (.int .i64 1))]) [], LC Pd Gd 70 0 [(38, .p (.int .i64 0)), (37, .p (.int .i64 (↑s.length : Int))), (5, .p (.str s)), (4, .p (.int .i64 8)), (3, .p (.int .i64 0)), (2, .p (.int .u64 0)), (0, .p (.str s))] [] (loopAt Pd 73 0) (.exit 0) [(38, .p (.int .i64 (↑s.length : Int))), (37, .p (.int .i64 (↑s.length : Int))), (5, .p (.str s)), (4, .p (.int .i64 8)), (3, .p (.int .i64 0)), (2, .p (.int .u64 0)), (0, .p (.str s))] [], (ibit BinOp.or .u8 (↑(s.getD 1 0) : Int) 32 == 120) = false, (true && decide (1 < (↑s.length : Int))) = true, decide ((↑s.length : Int) > 1) = true, ((↑(s.getD 0 0) : Int) == 48) = true, (true && decide (0 < (↑s.length : Int))) = true, decide ((↑(s.getD (Int.toNat 0) 0) : Int) > 57) = false, (true && decide (0 < (↑s.length : Int))) = true, decide ((↑(s.getD (Int.toNat 0) 0) : Int) < 48) = false, (true && decide (0 < (↑s.length : Int))) = true, (s == []) = false], .tup [.p (.int .u64 0), .p (.int .i64 14)], []) := by kernel_rfl

theorem mgG_p8 (s : List Nat) (i : Int) (n : Nat) (dg : Bool) : runW Pd Gd T 100000 false [.br false, .br false, .br false, .br true, .br true, .br false, .tr 999999 (Tr.weak [38, 37, 5, 4, 3, 2, 0] [] []), .code (.exit 0) [(38, .p (.int .i64 (↑s.length : Int))), (37, .p (.int .i64 (↑s.length : Int))), (5, .p (.str s)), (4, .p (.int .i64 8)), (3, .p (.int .i64 0)), (2, .p (.int .u64 0)), (0, .p (.str s))] [], .inl, .callv (.tup [.p (.int .u64 18446744073709551615), .p (.iface 129 (.int .i64 1))]) [], .inl, .br false, .br true, .inl, .callv (.p (.str s)) [], .br true, .callv (.p (.bool dg)) [], .br false] [] [] 73 [.p (.str s)] [] = some ([dg = false, RC Pd Gd 83 [.p (.str s), .p (.int .i64 8)] [] (.p (.bool dg)) [], (!s == []) = true, RC Pd Gd 102 [.p (.str s)] [] (.p (.str s)) [], true = true, false = false, RC Pd Gd 91 [.p (.str s), .p (.int .i64 8), .p (.int .i64 64)] [] (.tup [.p (.int .u64 18446744073709551615), .p (.iface 129 (.int .i64 1))]) [], LC Pd Gd 70 0 [(38, .p (.int .i64 0)), (37, .p (.int .i64 (↑s.length : Int))), (5, .p (.str s)), (4, .p (.int .i64 8)), (3, .p (.int .i64 0)), (2, .p (.int .u64 0)), (0, .p (.str s))] [] (loopAt Pd 73 0) (.exit 0) [(38, .p (.int .i64 (↑s.length : Int))), (37, .p (.int .i64 (↑s.length : Int))), (5, .p (.str s)), (4, .p (.int .i64 8)), (3, .p (.int .i64 0)), (2, .p (.int .u64 0)), (0, .p (.str s))] [], (ibit BinOp.or .u8 (↑(s.getD 1 0) : Int) 32 == 120) = false, (true && decide (1 < (↑s.length : Int))) = true, decide ((↑s.length : Int) > 1) = true, ((↑(s.getD 0 0) : Int) == 48) = true, (true && decide (0 < (↑s.length : Int))) = true, decide ((↑(s.getD (Int.toNat 0) 0) : Int) > 57) = false, (true && decide (0 < (↑s.length : Int))) = true, decide ((↑(s.getD (Int.toNat 0) 0) : Int) < 48) = false, (true && decide (0 < (↑s.length : Int))) = true, (s == []) = false], .tup [.p (.int .u64 0), .p (.int .i64 6)], []) := by kernel_rfl


theorem mgG_p10 (s : List Nat) (i : Int) (n : Nat) (dg : Bool) : runW Pd Gd T 100000 false [.br false, .br false, .br false, .br true, .br false, .tr 999999 (Tr.weak [38, 37, 5, 4, 3, 2, 0] [] []), .code (.exit 0) [(38, .p (.int .i64 (↑s.length : Int))), (37, .p (.int .i64 (↑s.length : Int))), (5, .p (.str s)), (4, .p (.int .i64 8)), (3, .p (.int .i64 0)), (2, .p (.int .u64 0)), (0, .p (.str s))] [], .inl, .callv (.tup [.p (.int .u64 18446744073709551615), .p (.iface 129 (.int .i64 1))]) [], .inl, .br false, .br true, .inl, .callv (.p (.str s)) [], .br true, .callv (.p (.bool dg)) [], .br true] [] [] 73 [.p (.str s)] [] = some ([dg = true, RC Pd Gd 83 [.p (.str s), .p (.int .i64 8)] [] (.p (.bool dg)) [], (!s == []) = true, RC Pd Gd 102 [.p (.str s)] [] (.p (.str s)) [], true = true, false = false, RC Pd Gd 91 [.p (.str s), .p (.int .i64 8), .p (.int .i64 64)] [] (.tup [.p (.int .u64 18446744073709551615), .p (.iface 129 (.int .i64 1))]) [], LC Pd Gd 70 0 [(38, .p (.int .i64 0)), (37, .p (.int .i64 (↑s.length : Int))), (5, .p (.str s)), (4, .p (.int .i64 8)), (3, .p (.int .i64 0)), (2, .p (.int .u64 0)), (0, .p (.str s))] [] (loopAt Pd 73 0) (.exit 0) [(38, .p (.int .i64 (↑s.length : Int))), (37, .p (.int .i64 (↑s.length : Int))), (5, .p (.str s)), (4, .p (.int .i64 8)), (3, .p (.int .i64 0)), (2, .p (.int .u64 0)), (0, .p (.str s))] [], decide ((↑s.length : Int) > 1) = false, ((↑(s.getD 0 0) : Int) == 48) = true, (true && decide (0 < (↑s.length : Int))) = true, decide ((↑(s.getD (Int.toNat 0) 0) : Int) > 57) = false, (true && decide (0 < (↑s.length : Int))) = true, decide ((↑(s.getD (Int.toNat 0) 0) : Int) < 48) = false, (true && decide (0 < (↑s.length : Int))) = true, (s == []) = false], .tup [.p (.int .u64 0), .p (.int .i64 14)], []) := by kernel_rfl

theorem mgG_p11 (s : List Nat) (i : Int) (n : Nat) (dg : Bool) : runW Pd Gd T 100000 false [.br false, .br false, .br false, .br true, .br false, .tr 999999 (Tr.weak [38, 37, 5, 4, 3, 2, 0] [] []), .code (.exit 0) [(38, .p (.int .i64 (↑s.length : Int))), (37, .p (.int .i64 (↑s.length : Int))), (5, .p (.str s)), (4, .p (.int .i64 8)), (3, .p (.int .i64 0)), (2, .p (.int .u64 0)), (0, .p (.str s))] [], .inl, .callv (.tup [.p (.int .u64 18446744073709551615), .p (.iface 129 (.int .i64 1))]) [], .inl, .br false, .br true, .inl, .callv (.p (.str s)) [], .br true, .callv (.p (.bool dg)) [], .br false] [] [] 73 [.p (.str s)] [] = some ([dg = false, RC Pd Gd 83 [.p (.str s), .p (.int .i64 8)] [] (.p (.bool dg)) [], (!s == []) = true, RC Pd Gd 102 [.p (.str s)] [] (.p (.str s)) [], true = true, false = false, RC Pd Gd 91 [.p (.str s), .p (.int .i64 8), .p (.int .i64 64)] [] (.tup [.p (.int .u64 18446744073709551615), .p (.iface 129 (.int .i64 1))]) [], LC Pd Gd 70 0 [(38, .p (.int .i64 0)), (37, .p (.int .i64 (↑s.length : Int))), (5, .p (.str s)), (4, .p (.int .i64 8)), (3, .p (.int .i64 0)), (2, .p (.int .u64 0)), (0, .p (.str s))] [] (loopAt Pd 73 0) (.exit 0) [(38, .p (.int .i64 (↑s.length : Int))), (37, .p (.int .i64 (↑s.length : Int))), (5, .p (.str s)), (4, .p (.int .i64 8)), (3, .p (.int .i64 0)), (2, .p (.int .u64 0)), (0, .p (.str s))] [], decide ((↑s.length : Int) > 1) = false, ((↑(s.getD 0 0) : Int) == 48) = true, (true && decide (0 < (↑s.length : Int))) = true, decide ((↑(s.getD (Int.toNat 0) 0) : Int) > 57) = false, (true && decide (0 < (↑s.length : Int))) = true, decide ((↑(s.getD (Int.toNat 0) 0) : Int) < 48) = false, (true && decide (0 < (↑s.length : Int))) = true, (s == []) = false], .tup [.p (.int .u64 0), .p (.int .i64 6)], []) := by kernel_rfl


theorem mgG_p13 (s : List Nat) (i : Int) (n : Nat) (dg : Bool) : runW Pd Gd T 100000 false [.br false, .br false, .br false, .br false, .tr 999999 (Tr.weak [38, 37, 5, 4, 3, 2, 0] [] []), .code (.exit 0) [(38, .p (.int .i64 (↑s.length : Int))), (37, .p (.int .i64 (↑s.length : Int))), (5, .p (.str s)), (4, .p (.int .i64 10)), (3, .p (.int .i64 0)), (2, .p (.int .u64 0)), (0, .p (.str s))] [], .inl, .callv (.tup [.p (.int .u64 18446744073709551615), .p (.iface 129 (.int .i64 1))]) [], .inl, .br false, .br true, .inl, .callv (.p (.str s)) [], .br true, .callv (.p (.bool dg)) [], .br true] [] [] 73 [.p (.str s)] [] = some ([dg = true, RC Pd Gd 83 [.p (.str s), .p (.int .i64 10)] [] (.p (.bool dg)) [], (!s == []) = true, RC Pd Gd 102 [.p (.str s)] [] (.p (.str s)) [], true = true, false = false, RC Pd Gd 91 [.p (.str s), .p (.int .i64 10), .p (.int .i64 64)] [] (.tup [.p (.int .u64 18446744073709551615), .p (.iface 129 (.int .i64 1))]) [], LC Pd Gd 70 0 [(38, .p (.int .i64 0)), (37, .p (.int .i64 (↑s.length : Int))), (5, .p (.str s)), (4, .p (.int .i64 10)), (3, .p (.int .i64 0)), (2, .p (.int .u64 0)), (0, .p (.str s))] [] (loopAt Pd 73 0) (.exit 0) [(38, .p (.int .i64 (↑s.length : Int))), (37, .p (.int .i64 (↑s.length : Int))), (5, .p (.str s)), (4, .p (.int .i64 10)), (3, .p (.int .i64 0)), (2, .p (.int .u64 0)), (0, .p (.str s))] [], ((↑(s.getD 0 0) : Int) == 48) = false, (true && decide (0 < (↑s.length : Int))) = true, decide ((↑(s.getD (Int.toNat 0) 0) : Int) > 57) = false, (true && decide (0 < (↑s.length : Int))) = true, decide ((↑(s.getD (Int.toNat 0) 0) : Int) < 48) = false, (true && decide (0 < (↑s.length : Int))) = true, (s == []) = false], .tup [.p (.int .u64 0), .p (.int .i64 14)], []) := by kernel_rfl

theorem mgG_p14 (s : List Nat) (i : Int) (n : Nat) (dg : Bool) : runW Pd Gd T 100000 false [.br false, .br false, .br false, .br false, .tr 999999 (Tr.weak [38, 37, 5, 4, 3, 2, 0] [] []), .code (.exit 0) [(38, .p (.int .i64 (↑s.length : Int))), (37, .p (.int .i64 (↑s.length : Int))), (5, .p (.str s)), (4, .p (.int .i64 10)), (3, .p (.int .i64 0)), (2, .p (.int .u64 0)), (0, .p (.str s))] [], .inl, .callv (.tup [.p (.int .u64 18446744073709551615), .p (.iface 129 (.int .i64 1))]) [], .inl, .br false, .br true, .inl, .callv (.p (.str s)) [], .br true, .callv (.p (.bool dg)) [], .br false] [] [] 73 [.p (.str s)] [] = some ([dg = false, RC Pd Gd 83 [.p (.str s), .p (.int .i64 10)] [] (.p (.bool dg)) [], (!s == []) = true, RC Pd Gd 102 [.p (.str s)] [] (.p (.str s)) [], true = true, false = false, RC Pd Gd 91 [.p (.str s), .p (.int .i64 10), .p (.int .i64 64)] [] (.tup [.p (.int .u64 18446744073709551615), .p (.iface 129 (.int .i64 1))]) [], LC Pd Gd 70 0 [(38, .p (.int .i64 0)), (37, .p (.int .i64 (↑s.length : Int))), (5, .p (.str s)), (4, .p (.int .i64 10)), (3, .p (.int .i64 0)), (2, .p (.int .u64 0)), (0, .p (.str s))] [] (loopAt Pd 73 0) (.exit 0) [(38, .p (.int .i64 (↑s.length : Int))), (37, .p (.int .i64 (↑s.length : Int))), (5, .p (.str s)), (4, .p (.int .i64 10)), (3, .p (.int .i64 0)), (2, .p (.int .u64 0)), (0, .p (.str s))] [], ((↑(s.getD 0 0) : Int) == 48) = false, (true && decide (0 < (↑s.length : Int))) = true, decide ((↑(s.getD (Int.toNat 0) 0) : Int) > 57) = false, (true && decide (0 < (↑s.length : Int))) = true, decide ((↑(s.getD (Int.toNat 0) 0) : Int) < 48) = false, (true && decide (0 < (↑s.length : Int))) = true, (s == []) = false], .tup [.p (.int .u64 0), .p (.int .i64 6)], []) := by kernel_rfl



def doFr (s : List Nat) (i b : Int) (x : EV) : Fr := [(9, EV.p (PV.int .i64 i)), (8, EV.p (PV.int .i64 (s.length : Nat))), (7, EV.p (PV.str s)), (4, x), (0, EV.p (PV.str s)), (1, EV.p (PV.int .i64 b))]
def doQ (s : List Nat) (i b : Nat) : Bool → Prop
  | true => LC Pd Gd 42 0 (doFr s i b (.kb false)) [] (loopAt Pd 83 0) (.exit 0) (doFr s s.length b (.kb false)) []
  | false => ∃ i' : Nat, LC Pd Gd 42 0 (doFr s i b (.kb false)) [] (loopAt Pd 83 0) .ret (doFr s i' b (.kb false)) []

theorem do_go {obs : List Prop} {s : List Nat} {i b : Nat} {its : Items} {keep : List Nat} {r : Bool} (hT : TabOk Pd Gd T)
    (key : runC Pd Gd T 100000 false its 42 0 (doFr s i b (.kb false)) [] (loopAt Pd 83 0) keep [] [] = some (obs, Ex.normal, doFr s (i + 1) b (.kb false), [])) (ho : AllT obs) (h : doQ s (i + 1) b r) : doQ s i b r := by
  have e : ((i : Int) + 1) = ((i + 1 : Nat) : Int) := by omega
  rw [e] at key
  cases r with
  | true => exact LC.go hT key ho h
  | false => obtain ⟨i', h⟩ := h; exact ⟨i', LC.go hT key ho h⟩

set_option maxRecDepth 20000 in
theorem do_loop (hT : TabOk Pd Gd T) (s : List Nat) (hs : ∀ x ∈ s, x < 256) (hl : s.length ≤ 1000000000000) (b : Nat) (hb : b ≤ 16) : ∀ (k i : Nat), i + k = s.length → doQ s i b (dOnly b (s.drop i)) := by
  intro k
  induction k with
  | zero =>
    intro i hi
    have : i = s.length := by omega
    subst this
    rw [List.drop_length]
    exact LC.leave hT (doL_l11 (T := T) s (s.length : Nat) b) ⟨by simp, trivial⟩ (by simp)
  | succ k ih =>
    intro i hi
    have hlt : i < s.length := by omega
    rw [getD_drop s i hlt]
    have hcx := hs (s.getD i 0) (by rw [List.getD_eq_getElem?_getD, List.getElem?_eq_getElem hlt]; exact List.getElem_mem hlt)
    have ih' := ih (i + 1) (by omega)
    have hor : ibit BinOp.or .i64 ((s.getD i 0 : Nat) : Int) 32 = ((lowB (s.getD i 0) : Nat) : Int) := ibit_or64 _ 32 hcx (by decide)
    have hl256 := lowB_lt _ hcx
    have hsm := lowB_small (s.getD i 0)
    have hdo : dOnly b (s.getD i 0 :: s.drop (i + 1)) = (digO b (s.getD i 0) && dOnly b (s.drop (i + 1))) := by simp [dOnly]
    rw [hdo]
    unfold digO
    by_cases h9 : 48 ≤ s.getD i 0 ∧ s.getD i 0 ≤ 57
    · simp only [h9, and_self, if_true]
      by_cases hd : s.getD i 0 - 48 < b
      · simp only [hd, decide_true, Bool.true_and]
        have key := doL_l2 (T := T) s i b
        simp only [Int.toNat_natCast] at key
        refine do_go hT key ?_ ih'
        simp only [AllT]
        repeat' (first | exact trivial | apply And.intro)
        all_goals (simp only [fitsK, max_i64, min_i64, max_u64, min_u64, max_u8, min_u8, Bool.and_eq_true, decide_eq_true_eq, decide_eq_false_iff_not, beq_iff_eq, beq_eq_false_iff_ne, ne_eq, and_true, true_and]; omega)
      · simp only [hd, decide_false, Bool.false_and]
        have key := doL_l1 (T := T) s i b
        simp only [Int.toNat_natCast] at key
        refine ⟨i, LC.leave hT key ?_ (by simp)⟩
        simp only [AllT]
        repeat' (first | exact trivial | apply And.intro)
        all_goals (simp only [fitsK, max_i64, min_i64, max_u64, min_u64, max_u8, min_u8, Bool.and_eq_true, decide_eq_true_eq, decide_eq_false_iff_not, beq_iff_eq, beq_eq_false_iff_ne, ne_eq, and_true, true_and]; omega)
    · simp only [h9, if_false]
      by_cases hlo : 48 ≤ s.getD i 0
      · by_cases h97 : 97 ≤ lowB (s.getD i 0)
        · by_cases h102 : lowB (s.getD i 0) ≤ 102
          · simp only [h97, h102, and_self, if_true]
            by_cases hd : lowB (s.getD i 0) - 87 < b
            · simp only [hd, decide_true, Bool.true_and]
              have key := doL_l4 (T := T) s i b
              simp only [Int.toNat_natCast] at key
              simp only [hor] at key
              refine do_go hT key ?_ ih'
              simp only [AllT]
              repeat' (first | exact trivial | apply And.intro)
              all_goals (simp only [fitsK, max_i64, min_i64, max_u64, min_u64, max_u8, min_u8, Bool.and_eq_true, decide_eq_true_eq, decide_eq_false_iff_not, beq_iff_eq, beq_eq_false_iff_ne, ne_eq, and_true, true_and]; omega)
            · simp only [hd, decide_false, Bool.false_and]
              have key := doL_l3 (T := T) s i b
              simp only [Int.toNat_natCast] at key
              simp only [hor] at key
              refine ⟨i, LC.leave hT key ?_ (by simp)⟩
              simp only [AllT]
              repeat' (first | exact trivial | apply And.intro)
              all_goals (simp only [fitsK, max_i64, min_i64, max_u64, min_u64, max_u8, min_u8, Bool.and_eq_true, decide_eq_true_eq, decide_eq_false_iff_not, beq_iff_eq, beq_eq_false_iff_ne, ne_eq, and_true, true_and]; omega)
          · have hn : ¬ (97 ≤ lowB (s.getD i 0) ∧ lowB (s.getD i 0) ≤ 102) := by omega
            simp only [hn, if_false, Bool.false_and]
            have key := doL_l5 (T := T) s i b
            simp only [Int.toNat_natCast] at key
            simp only [hor] at key
            refine ⟨i, LC.leave hT key ?_ (by simp)⟩
            simp only [AllT]
            repeat' (first | exact trivial | apply And.intro)
            all_goals (simp only [fitsK, max_i64, min_i64, max_u64, min_u64, max_u8, min_u8, Bool.and_eq_true, decide_eq_true_eq, decide_eq_false_iff_not, beq_iff_eq, beq_eq_false_iff_ne, ne_eq, and_true, true_and]; omega)
        · have hn : ¬ (97 ≤ lowB (s.getD i 0) ∧ lowB (s.getD i 0) ≤ 102) := by omega
          simp only [hn, if_false, Bool.false_and]
          have key := doL_l6 (T := T) s i b
          simp only [Int.toNat_natCast] at key
          simp only [hor] at key
          refine ⟨i, LC.leave hT key ?_ (by simp)⟩
          simp only [AllT]
          repeat' (first | exact trivial | apply And.intro)
          all_goals (simp only [fitsK, max_i64, min_i64, max_u64, min_u64, max_u8, min_u8, Bool.and_eq_true, decide_eq_true_eq, decide_eq_false_iff_not, beq_iff_eq, beq_eq_false_iff_ne, ne_eq, and_true, true_and]; omega)
      · have hn : ¬ (97 ≤ lowB (s.getD i 0) ∧ lowB (s.getD i 0) ≤ 102) := by omega
        simp only [hn, if_false, Bool.false_and]
        have key := doL_l10 (T := T) s i b
        simp only [Int.toNat_natCast] at key
        simp only [hor] at key
        refine ⟨i, LC.leave hT key ?_ (by simp)⟩
        simp only [AllT]
        repeat' (first | exact trivial | apply And.intro)
        all_goals (simp only [fitsK, max_i64, min_i64, max_u64, min_u64, max_u8, min_u8, Bool.and_eq_true, decide_eq_true_eq, decide_eq_false_iff_not, beq_iff_eq, beq_eq_false_iff_ne, ne_eq, and_true, true_and]; omega)

theorem donly_rc (hT : TabOk Pd Gd T) (s : List Nat) (hs : ∀ x ∈ s, x < 256) (hl : s.length ≤ 1000000000000) (b : Nat) (hb : b ≤ 16) : RC Pd Gd 83 [.p (.str s), .p (.int .i64 (b : Nat))] [] (.p (.bool (dOnly b s))) [] := by
  have h := do_loop hT s hs hl b hb s.length 0 (by omega)
  rw [List.drop_zero] at h
  cases hr : dOnly b s with
  | true =>
    rw [hr] at h
    exact RC.ret_kb (RC.of_runFn hT (doT_p1 (T := T) s b) ⟨h, trivial⟩)
  | false =>
    rw [hr] at h
    obtain ⟨i', h⟩ := h
    exact RC.ret_kb (RC.of_runFn hT (doF_p1 (T := T) s b i') ⟨h, trivial⟩)

/-! ### magnitude -/

def mgFr (s d : List Nat) (i b e : Int) : Fr := [(38, EV.p (PV.int .i64 i)), (37, EV.p (PV.int .i64 (d.length : Nat))), (5, EV.p (PV.str d)), (4, EV.p (PV.int .i64 b)), (3, EV.p (PV.int .i64 e)), (2, EV.p (PV.int .u64 0)), (0, EV.p (PV.str s))]
def mgQ (s d : List Nat) (i : Nat) (b : Int) : Bool → Prop
  | false => LC Pd Gd 70 0 (mgFr s d i b 0) [] (loopAt Pd 73 0) (.exit 0) (mgFr s d d.length b 0) []
  | true => ∃ i' : Nat, LC Pd Gd 70 0 (mgFr s d i b 0) [] (loopAt Pd 73 0) .ret (mgFr s d i' b 6) []

set_option maxRecDepth 20000 in
theorem mg_loop (hT : TabOk Pd Gd T) (s d : List Nat) (hl : d.length ≤ 1000000000000) (b : Int) : ∀ (k i : Nat), i + k = d.length → mgQ s d i b ((d.drop i).any badC) := by
  intro k
  induction k with
  | zero =>
    intro i hi
    have : i = d.length := by omega
    subst this
    rw [List.drop_length]
    exact LC.leave hT (mgL_l4 (T := T) s d (d.length : Nat) b) ⟨by simp, trivial⟩ (by simp)
  | succ k ih =>
    intro i hi
    have hlt : i < d.length := by omega
    rw [getD_drop d i hlt]
    have ih' := ih (i + 1) (by omega)
    rw [List.any_cons]
    unfold badC at ih' ⊢
    by_cases h1 : d.getD i 0 = 95
    · have e1 : (d.getD i 0 == 95) = true := by rw [h1]; rfl
      simp only [e1, Bool.true_or]
      have key := mgL_l1 (T := T) s d i b
      simp only [Int.toNat_natCast] at key
      refine ⟨i, LC.leave hT key ?_ (by simp)⟩
      simp only [AllT]
      repeat' (first | exact trivial | apply And.intro)
      all_goals (simp only [fitsK, max_i64, min_i64, max_u64, min_u64, max_u8, min_u8, Bool.and_eq_true, decide_eq_true_eq, decide_eq_false_iff_not, beq_iff_eq, beq_eq_false_iff_ne, ne_eq, and_true, true_and]; omega)
    · have e1 : (d.getD i 0 == 95) = false := beq_eq_false_iff_ne.2 h1
      by_cases h2 : d.getD i 0 = 43
      · have e2 : (d.getD i 0 == 43) = true := by rw [h2]; rfl
        simp only [e1, e2, Bool.false_or, Bool.true_or]
        have key := mgL_l2 (T := T) s d i b
        simp only [Int.toNat_natCast] at key
        refine ⟨i, LC.leave hT key ?_ (by simp)⟩
        simp only [AllT]
        repeat' (first | exact trivial | apply And.intro)
        all_goals (simp only [fitsK, max_i64, min_i64, max_u64, min_u64, max_u8, min_u8, Bool.and_eq_true, decide_eq_true_eq, decide_eq_false_iff_not, beq_iff_eq, beq_eq_false_iff_ne, ne_eq, and_true, true_and]; omega)
      · have e2 : (d.getD i 0 == 43) = false := beq_eq_false_iff_ne.2 h2
        simp only [e1, e2, Bool.false_or]
        have key := mgL_l3 (T := T) s d i b
        simp only [Int.toNat_natCast] at key
        have e : ((i : Int) + 1) = ((i + 1 : Nat) : Int) := by omega
        rw [e] at key
        generalize List.any (d.drop (i + 1)) (fun c => c == 95 || c == 43) = r at *
        cases r with
        | false =>
          refine LC.go hT key ?_ ih'
          simp only [AllT]
          repeat' (first | exact trivial | apply And.intro)
          all_goals (simp only [fitsK, max_i64, min_i64, max_u64, min_u64, max_u8, min_u8, Bool.and_eq_true, decide_eq_true_eq, decide_eq_false_iff_not, beq_iff_eq, beq_eq_false_iff_ne, ne_eq, and_true, true_and]; omega)
        | true =>
          obtain ⟨i', h⟩ := ih'
          refine ⟨i', LC.go hT key ?_ h⟩
          simp only [AllT]
          repeat' (first | exact trivial | apply And.intro)
          all_goals (simp only [fitsK, max_i64, min_i64, max_u64, min_u64, max_u8, min_u8, Bool.and_eq_true, decide_eq_true_eq, decide_eq_false_iff_not, beq_iff_eq, beq_eq_false_iff_ne, ne_eq, and_true, true_and]; omega)

theorem pu_empty (b : Int) : runFn Pd Gd T 100000 false [Vc.Item.br true] 91 [EV.p (PV.str []), EV.p (PV.int .i64 b), EV.p (PV.int .i64 64)] [] =
  some ([([] == ([] : List Nat)) = true], EV.tup [EV.p (PV.int .u64 0), EV.p (PV.iface 129 (PV.int .i64 2))], []) := by kernel_rfl

theorem pu1_rc (hT : TabOk Pd Gd T) (d : List Nat) (hs : ∀ x ∈ d, x < 256) (hl : d.length ≤ 1000000000000) (hb : d.any badC = false) (b : Nat) (hB : b = 10 ∨ b = 16 ∨ b = 8) : RC Pd Gd 91 [.p (.str d), .p (.int .i64 (b : Nat)), .p (.int .i64 64)] [] (puE (pu1 b d)) [] := by
  unfold pu1
  by_cases h0 : d = []
  · subst h0
    simp only [if_true]
    exact RC.of_runFn hT (pu_empty (T := T) b) ⟨rfl, trivial⟩
  · simp only [h0, if_false]
    have hs' : ∀ x ∈ d, x < 256 ∧ x ≠ 95 := fun x hx => ⟨hs x hx, fun e => by
      have : d.any badC = true := List.any_eq_true.2 ⟨x, hx, by rw [e]; rfl⟩
      rw [this] at hb; cases hb⟩
    rcases hB with rfl | rfl | rfl
    · exact pu10_rc hT d hs' hl h0
    · exact pu16_rc hT d hs' hl h0
    · exact pu8_rc hT d hs' hl h0

set_option maxHeartbeats 0 in
set_option maxRecDepth 20000 in
theorem mag_rc (hT : TabOk Pd Gd T) (s : List Nat) (hs : ∀ x ∈ s, x < 256) (hl : s.length ≤ 1000000000000) : RC Pd Gd 73 [.p (.str s)] [] (mgE (mgS s)) [] := by
  unfold mgS
  by_cases h0 : s = []
  · simp only [h0, true_or, if_true]
    exact RC.of_runFn hT (mgR_p1 (T := T) [] 0 0 false) ⟨rfl, trivial⟩
  have hz : (s == []) = false := beq_eq_false_iff_ne.2 h0
  have hpos : 0 < s.length := List.length_pos_iff.2 h0
  by_cases h1 : s.getD 0 0 < 48
  · simp only [h0, h1, true_or, or_true, if_true]
    have key := mgR_p2 (T := T) s 0 0 false
    simp only [Int.toNat_zero] at key
    refine RC.of_runFn hT key ?_
    simp only [AllT]
    repeat' (first | exact trivial | assumption | exact rfl | apply And.intro)
    all_goals (simp only [fitsK, max_i64, min_i64, max_u64, min_u64, max_u8, min_u8, Bool.and_eq_true, decide_eq_true_eq, decide_eq_false_iff_not, beq_iff_eq, beq_eq_false_iff_ne, ne_eq, and_true, true_and]; omega)
  by_cases h2 : 57 < s.getD 0 0
  · simp only [h0, h2, or_true, if_true]
    have key := mgR_p3 (T := T) s 0 0 false
    simp only [Int.toNat_zero] at key
    refine RC.of_runFn hT key ?_
    simp only [AllT]
    repeat' (first | exact trivial | assumption | exact rfl | apply And.intro)
    all_goals (simp only [fitsK, max_i64, min_i64, max_u64, min_u64, max_u8, min_u8, Bool.and_eq_true, decide_eq_true_eq, decide_eq_false_iff_not, beq_iff_eq, beq_eq_false_iff_ne, ne_eq, and_true, true_and]; omega)
  simp only [h0, h1, h2, or_self, if_false]
  by_cases h3 : s.getD 0 0 = 48
  · have h3b : (((s.getD 0 0 : Nat) : Int) == 48) = true := by rw [h3]; rfl
    simp only [h3, if_true]
    by_cases h4 : 1 < s.length
    · have hor : ibit BinOp.or .u8 ((s.getD 1 0 : Nat) : Int) 32 = ((lowB (s.getD 1 0) : Nat) : Int) := ibit_or8 _ 32 (hs _ (by rw [List.getD_eq_getElem?_getD, List.getElem?_eq_getElem h4]; exact List.getElem_mem h4)) (by decide)
      by_cases h5 : lowB (s.getD 1 0) = 120
      · have h5b : (((lowB (s.getD 1 0) : Nat) : Int) == 120) = true := by rw [h5]; rfl
        simp only [h4, h5, and_self, if_true]
        have hsd : ∀ x ∈ (s.drop 2), x < 256 := fun x hx => hs x (List.mem_of_mem_drop hx)
        have hld : (s.drop 2).length ≤ 1000000000000 := by rw [List.length_drop]; omega
        have hlp := mg_loop hT s (s.drop 2) hld 16 (s.drop 2).length 0 (by omega)
        rw [List.drop_zero] at hlp
        unfold mgD
        cases hbad : (s.drop 2).any badC with
        | true =>
          rw [hbad] at hlp
          obtain ⟨i', hlp⟩ := hlp
          have key := mgR_p4 (T := T) s i' 0 false
          simp only [Int.toNat_zero] at key
          simp only [hor] at key
          refine RC.of_runFn hT key ?_
          simp only [AllT]
          repeat' (first | exact trivial | assumption | exact rfl | apply And.intro)
          all_goals (simp only [fitsK, max_i64, min_i64, max_u64, min_u64, max_u8, min_u8, Bool.and_eq_true, decide_eq_true_eq, decide_eq_false_iff_not, beq_iff_eq, beq_eq_false_iff_ne, ne_eq, and_true, true_and]; omega)
        | false =>
          rw [hbad] at hlp
          have hpu := pu1_rc hT (s.drop 2) hsd hld hbad 16 (by decide)
          have hdo := donly_rc hT (s.drop 2) hsd hld 16 (by decide)
          have hcl := clone_rc (s.drop 2) (by omega)
          cases hr : pu1 16 (s.drop 2) with
          | ok n =>
            rw [hr] at hpu
            have key := mgO_p4 (T := T) s 0 n false
            simp only [Int.toNat_zero] at key
            simp only [hor] at key
            refine RC.of_runFn hT key ?_
            simp only [AllT]
            repeat' (first | exact trivial | assumption | exact rfl | apply And.intro)
            all_goals (simp only [fitsK, max_i64, min_i64, max_u64, min_u64, max_u8, min_u8, Bool.and_eq_true, decide_eq_true_eq, decide_eq_false_iff_not, beq_iff_eq, beq_eq_false_iff_ne, ne_eq, and_true, true_and]; omega)
          | syn =>
            rw [hr] at hpu
            by_cases hd0 : (s.drop 2) = []
            · have hdz : (!(s.drop 2) == []) = false := by rw [hd0]; rfl
              simp only [hd0, ne_eq, not_true_eq_false, false_and, Bool.false_eq_true, if_false]
              have key := mgS_p6 (T := T) s 0 0 false
              simp only [Int.toNat_zero] at key
              simp only [hor] at key
              refine RC.of_run hT key ?_
              simp only [AllT]
              repeat' (first | exact trivial | assumption | exact rfl | apply And.intro)
              all_goals (simp only [fitsK, max_i64, min_i64, max_u64, min_u64, max_u8, min_u8, Bool.and_eq_true, decide_eq_true_eq, decide_eq_false_iff_not, beq_iff_eq, beq_eq_false_iff_ne, ne_eq, and_true, true_and]; omega)
            · have hdz : (!(s.drop 2) == []) = true := by rw [beq_eq_false_iff_ne.2 hd0]; rfl
              cases ho : dOnly 16 (s.drop 2) with
              | true =>
                rw [ho] at hdo
                simp only [hd0, ne_eq, not_false_eq_true, and_self, if_true]
                have key := mgS_p4 (T := T) s 0 0 true
                simp only [Int.toNat_zero] at key
                simp only [hor] at key
                refine RC.of_run hT key ?_
                simp only [AllT]
                repeat' (first | exact trivial | assumption | exact rfl | apply And.intro)
                all_goals (simp only [fitsK, max_i64, min_i64, max_u64, min_u64, max_u8, min_u8, Bool.and_eq_true, decide_eq_true_eq, decide_eq_false_iff_not, beq_iff_eq, beq_eq_false_iff_ne, ne_eq, and_true, true_and]; omega)
              | false =>
                rw [ho] at hdo
                simp only [hd0, ne_eq, not_false_eq_true, Bool.false_eq_true, and_false, if_false]
                have key := mgS_p5 (T := T) s 0 0 false
                simp only [Int.toNat_zero] at key
                simp only [hor] at key
                refine RC.of_run hT key ?_
                simp only [AllT]
                repeat' (first | exact trivial | assumption | exact rfl | apply And.intro)
                all_goals (simp only [fitsK, max_i64, min_i64, max_u64, min_u64, max_u8, min_u8, Bool.and_eq_true, decide_eq_true_eq, decide_eq_false_iff_not, beq_iff_eq, beq_eq_false_iff_ne, ne_eq, and_true, true_and]; omega)
          | rng =>
            rw [hr] at hpu
            by_cases hd0 : (s.drop 2) = []
            · have hdz : (!(s.drop 2) == []) = false := by rw [hd0]; rfl
              simp only [hd0, ne_eq, not_true_eq_false, false_and, Bool.false_eq_true, if_false]
              have key := mgG_p6 (T := T) s 0 0 false
              simp only [Int.toNat_zero] at key
              simp only [hor] at key
              refine RC.of_run hT key ?_
              simp only [AllT]
              repeat' (first | exact trivial | assumption | exact rfl | apply And.intro)
              all_goals (simp only [fitsK, max_i64, min_i64, max_u64, min_u64, max_u8, min_u8, Bool.and_eq_true, decide_eq_true_eq, decide_eq_false_iff_not, beq_iff_eq, beq_eq_false_iff_ne, ne_eq, and_true, true_and]; omega)
            · have hdz : (!(s.drop 2) == []) = true := by rw [beq_eq_false_iff_ne.2 hd0]; rfl
              cases ho : dOnly 16 (s.drop 2) with
              | true =>
                rw [ho] at hdo
                simp only [hd0, ne_eq, not_false_eq_true, and_self, if_true]
                have key := mgG_p4 (T := T) s 0 0 true
                simp only [Int.toNat_zero] at key
                simp only [hor] at key
                refine RC.of_run hT key ?_
                simp only [AllT]
                repeat' (first | exact trivial | assumption | exact rfl | apply And.intro)
                all_goals (simp only [fitsK, max_i64, min_i64, max_u64, min_u64, max_u8, min_u8, Bool.and_eq_true, decide_eq_true_eq, decide_eq_false_iff_not, beq_iff_eq, beq_eq_false_iff_ne, ne_eq, and_true, true_and]; omega)
              | false =>
                rw [ho] at hdo
                simp only [hd0, ne_eq, not_false_eq_true, Bool.false_eq_true, and_false, if_false]
                have key := mgG_p5 (T := T) s 0 0 false
                simp only [Int.toNat_zero] at key
                simp only [hor] at key
                refine RC.of_run hT key ?_
                simp only [AllT]
                repeat' (first | exact trivial | assumption | exact rfl | apply And.intro)
                all_goals (simp only [fitsK, max_i64, min_i64, max_u64, min_u64, max_u8, min_u8, Bool.and_eq_true, decide_eq_true_eq, decide_eq_false_iff_not, beq_iff_eq, beq_eq_false_iff_ne, ne_eq, and_true, true_and]; omega)
      · have h5b : (((lowB (s.getD 1 0) : Nat) : Int) == 120) = false := by
          rw [beq_eq_false_iff_ne]; omega
        simp only [h4, h5, and_false, if_false]
        have hsd : ∀ x ∈ s, x < 256 := hs
        have hld : s.length ≤ 1000000000000 := hl
        have hlp := mg_loop hT s s hld 8 s.length 0 (by omega)
        rw [List.drop_zero] at hlp
        unfold mgD
        cases hbad : s.any badC with
        | true =>
          rw [hbad] at hlp
          obtain ⟨i', hlp⟩ := hlp
          have key := mgR_p5 (T := T) s i' 0 false
          simp only [Int.toNat_zero] at key
          simp only [hor] at key
          refine RC.of_runFn hT key ?_
          simp only [AllT]
          repeat' (first | exact trivial | assumption | exact rfl | apply And.intro)
          all_goals (simp only [fitsK, max_i64, min_i64, max_u64, min_u64, max_u8, min_u8, Bool.and_eq_true, decide_eq_true_eq, decide_eq_false_iff_not, beq_iff_eq, beq_eq_false_iff_ne, ne_eq, and_true, true_and]; omega)
        | false =>
          rw [hbad] at hlp
          have hpu := pu1_rc hT s hsd hld hbad 8 (by decide)
          have hdo := donly_rc hT s hsd hld 8 (by decide)
          have hcl := clone_rc s (by omega)
          cases hr : pu1 8 s with
          | ok n =>
            rw [hr] at hpu
            have key := mgO_p5 (T := T) s 0 n false
            simp only [Int.toNat_zero] at key
            simp only [hor] at key
            refine RC.of_runFn hT key ?_
            simp only [AllT]
            repeat' (first | exact trivial | assumption | exact rfl | apply And.intro)
            all_goals (simp only [fitsK, max_i64, min_i64, max_u64, min_u64, max_u8, min_u8, Bool.and_eq_true, decide_eq_true_eq, decide_eq_false_iff_not, beq_iff_eq, beq_eq_false_iff_ne, ne_eq, and_true, true_and]; omega)
          | syn =>
            rw [hr] at hpu
            by_cases hd0 : s = []
            · have hdz : (!s == []) = false := by rw [hd0]; rfl
              exact absurd hd0 h0
            · have hdz : (!s == []) = true := by rw [beq_eq_false_iff_ne.2 hd0]; rfl
              cases ho : dOnly 8 s with
              | true =>
                rw [ho] at hdo
                simp only [hd0, ne_eq, not_false_eq_true, and_self, if_true]
                have key := mgS_p7 (T := T) s 0 0 true
                simp only [Int.toNat_zero] at key
                simp only [hor] at key
                refine RC.of_run hT key ?_
                simp only [AllT]
                repeat' (first | exact trivial | assumption | exact rfl | apply And.intro)
                all_goals (simp only [fitsK, max_i64, min_i64, max_u64, min_u64, max_u8, min_u8, Bool.and_eq_true, decide_eq_true_eq, decide_eq_false_iff_not, beq_iff_eq, beq_eq_false_iff_ne, ne_eq, and_true, true_and]; omega)
              | false =>
                rw [ho] at hdo
                simp only [hd0, ne_eq, not_false_eq_true, Bool.false_eq_true, and_false, if_false]
                have key := mgS_p8 (T := T) s 0 0 false
                simp only [Int.toNat_zero] at key
                simp only [hor] at key
                refine RC.of_run hT key ?_
                simp only [AllT]
                repeat' (first | exact trivial | assumption | exact rfl | apply And.intro)
                all_goals (simp only [fitsK, max_i64, min_i64, max_u64, min_u64, max_u8, min_u8, Bool.and_eq_true, decide_eq_true_eq, decide_eq_false_iff_not, beq_iff_eq, beq_eq_false_iff_ne, ne_eq, and_true, true_and]; omega)
          | rng =>
            rw [hr] at hpu
            by_cases hd0 : s = []
            · have hdz : (!s == []) = false := by rw [hd0]; rfl
              exact absurd hd0 h0
            · have hdz : (!s == []) = true := by rw [beq_eq_false_iff_ne.2 hd0]; rfl
              cases ho : dOnly 8 s with
              | true =>
                rw [ho] at hdo
                simp only [hd0, ne_eq, not_false_eq_true, and_self, if_true]
                have key := mgG_p7 (T := T) s 0 0 true
                simp only [Int.toNat_zero] at key
                simp only [hor] at key
                refine RC.of_run hT key ?_
                simp only [AllT]
                repeat' (first | exact trivial | assumption | exact rfl | apply And.intro)
                all_goals (simp only [fitsK, max_i64, min_i64, max_u64, min_u64, max_u8, min_u8, Bool.and_eq_true, decide_eq_true_eq, decide_eq_false_iff_not, beq_iff_eq, beq_eq_false_iff_ne, ne_eq, and_true, true_and]; omega)
              | false =>
                rw [ho] at hdo
                simp only [hd0, ne_eq, not_false_eq_true, Bool.false_eq_true, and_false, if_false]
                have key := mgG_p8 (T := T) s 0 0 false
                simp only [Int.toNat_zero] at key
                simp only [hor] at key
                refine RC.of_run hT key ?_
                simp only [AllT]
                repeat' (first | exact trivial | assumption | exact rfl | apply And.intro)
                all_goals (simp only [fitsK, max_i64, min_i64, max_u64, min_u64, max_u8, min_u8, Bool.and_eq_true, decide_eq_true_eq, decide_eq_false_iff_not, beq_iff_eq, beq_eq_false_iff_ne, ne_eq, and_true, true_and]; omega)
    · simp only [h4, false_and, if_false]
      have hsd : ∀ x ∈ s, x < 256 := hs
      have hld : s.length ≤ 1000000000000 := hl
      have hlp := mg_loop hT s s hld 8 s.length 0 (by omega)
      rw [List.drop_zero] at hlp
      unfold mgD
      cases hbad : s.any badC with
      | true =>
        rw [hbad] at hlp
        obtain ⟨i', hlp⟩ := hlp
        have key := mgR_p6 (T := T) s i' 0 false
        simp only [Int.toNat_zero] at key
        refine RC.of_runFn hT key ?_
        simp only [AllT]
        repeat' (first | exact trivial | assumption | exact rfl | apply And.intro)
        all_goals (simp only [fitsK, max_i64, min_i64, max_u64, min_u64, max_u8, min_u8, Bool.and_eq_true, decide_eq_true_eq, decide_eq_false_iff_not, beq_iff_eq, beq_eq_false_iff_ne, ne_eq, and_true, true_and]; omega)
      | false =>
        rw [hbad] at hlp
        have hpu := pu1_rc hT s hsd hld hbad 8 (by decide)
        have hdo := donly_rc hT s hsd hld 8 (by decide)
        have hcl := clone_rc s (by omega)
        cases hr : pu1 8 s with
        | ok n =>
          rw [hr] at hpu
          have key := mgO_p6 (T := T) s 0 n false
          simp only [Int.toNat_zero] at key
          refine RC.of_runFn hT key ?_
          simp only [AllT]
          repeat' (first | exact trivial | assumption | exact rfl | apply And.intro)
          all_goals (simp only [fitsK, max_i64, min_i64, max_u64, min_u64, max_u8, min_u8, Bool.and_eq_true, decide_eq_true_eq, decide_eq_false_iff_not, beq_iff_eq, beq_eq_false_iff_ne, ne_eq, and_true, true_and]; omega)
        | syn =>
          rw [hr] at hpu
          by_cases hd0 : s = []
          · have hdz : (!s == []) = false := by rw [hd0]; rfl
            exact absurd hd0 h0
          · have hdz : (!s == []) = true := by rw [beq_eq_false_iff_ne.2 hd0]; rfl
            cases ho : dOnly 8 s with
            | true =>
              rw [ho] at hdo
              simp only [hd0, ne_eq, not_false_eq_true, and_self, if_true]
              have key := mgS_p10 (T := T) s 0 0 true
              simp only [Int.toNat_zero] at key
              refine RC.of_run hT key ?_
              simp only [AllT]
              repeat' (first | exact trivial | assumption | exact rfl | apply And.intro)
              all_goals (simp only [fitsK, max_i64, min_i64, max_u64, min_u64, max_u8, min_u8, Bool.and_eq_true, decide_eq_true_eq, decide_eq_false_iff_not, beq_iff_eq, beq_eq_false_iff_ne, ne_eq, and_true, true_and]; omega)
            | false =>
              rw [ho] at hdo
              simp only [hd0, ne_eq, not_false_eq_true, Bool.false_eq_true, and_false, if_false]
              have key := mgS_p11 (T := T) s 0 0 false
              simp only [Int.toNat_zero] at key
              refine RC.of_run hT key ?_
              simp only [AllT]
              repeat' (first | exact trivial | assumption | exact rfl | apply And.intro)
              all_goals (simp only [fitsK, max_i64, min_i64, max_u64, min_u64, max_u8, min_u8, Bool.and_eq_true, decide_eq_true_eq, decide_eq_false_iff_not, beq_iff_eq, beq_eq_false_iff_ne, ne_eq, and_true, true_and]; omega)
        | rng =>
          rw [hr] at hpu
          by_cases hd0 : s = []
          · have hdz : (!s == []) = false := by rw [hd0]; rfl
            exact absurd hd0 h0
          · have hdz : (!s == []) = true := by rw [beq_eq_false_iff_ne.2 hd0]; rfl
            cases ho : dOnly 8 s with
            | true =>
              rw [ho] at hdo
              simp only [hd0, ne_eq, not_false_eq_true, and_self, if_true]
              have key := mgG_p10 (T := T) s 0 0 true
              simp only [Int.toNat_zero] at key
              refine RC.of_run hT key ?_
              simp only [AllT]
              repeat' (first | exact trivial | assumption | exact rfl | apply And.intro)
              all_goals (simp only [fitsK, max_i64, min_i64, max_u64, min_u64, max_u8, min_u8, Bool.and_eq_true, decide_eq_true_eq, decide_eq_false_iff_not, beq_iff_eq, beq_eq_false_iff_ne, ne_eq, and_true, true_and]; omega)
            | false =>
              rw [ho] at hdo
              simp only [hd0, ne_eq, not_false_eq_true, Bool.false_eq_true, and_false, if_false]
              have key := mgG_p11 (T := T) s 0 0 false
              simp only [Int.toNat_zero] at key
              refine RC.of_run hT key ?_
              simp only [AllT]
              repeat' (first | exact trivial | assumption | exact rfl | apply And.intro)
              all_goals (simp only [fitsK, max_i64, min_i64, max_u64, min_u64, max_u8, min_u8, Bool.and_eq_true, decide_eq_true_eq, decide_eq_false_iff_not, beq_iff_eq, beq_eq_false_iff_ne, ne_eq, and_true, true_and]; omega)
  · have h3b : (((s.getD 0 0 : Nat) : Int) == 48) = false := by
      rw [beq_eq_false_iff_ne]; omega
    simp only [h3, if_false]
    have hsd : ∀ x ∈ s, x < 256 := hs
    have hld : s.length ≤ 1000000000000 := hl
    have hlp := mg_loop hT s s hld 10 s.length 0 (by omega)
    rw [List.drop_zero] at hlp
    unfold mgD
    cases hbad : s.any badC with
    | true =>
      rw [hbad] at hlp
      obtain ⟨i', hlp⟩ := hlp
      have key := mgR_p7 (T := T) s i' 0 false
      simp only [Int.toNat_zero] at key
      refine RC.of_runFn hT key ?_
      simp only [AllT]
      repeat' (first | exact trivial | assumption | exact rfl | apply And.intro)
      all_goals (simp only [fitsK, max_i64, min_i64, max_u64, min_u64, max_u8, min_u8, Bool.and_eq_true, decide_eq_true_eq, decide_eq_false_iff_not, beq_iff_eq, beq_eq_false_iff_ne, ne_eq, and_true, true_and]; omega)
    | false =>
      rw [hbad] at hlp
      have hpu := pu1_rc hT s hsd hld hbad 10 (by decide)
      have hdo := donly_rc hT s hsd hld 10 (by decide)
      have hcl := clone_rc s (by omega)
      cases hr : pu1 10 s with
      | ok n =>
        rw [hr] at hpu
        have key := mgO_p7 (T := T) s 0 n false
        simp only [Int.toNat_zero] at key
        refine RC.of_runFn hT key ?_
        simp only [AllT]
        repeat' (first | exact trivial | assumption | exact rfl | apply And.intro)
        all_goals (simp only [fitsK, max_i64, min_i64, max_u64, min_u64, max_u8, min_u8, Bool.and_eq_true, decide_eq_true_eq, decide_eq_false_iff_not, beq_iff_eq, beq_eq_false_iff_ne, ne_eq, and_true, true_and]; omega)
      | syn =>
        rw [hr] at hpu
        by_cases hd0 : s = []
        · have hdz : (!s == []) = false := by rw [hd0]; rfl
          exact absurd hd0 h0
        · have hdz : (!s == []) = true := by rw [beq_eq_false_iff_ne.2 hd0]; rfl
          cases ho : dOnly 10 s with
          | true =>
            rw [ho] at hdo
            simp only [hd0, ne_eq, not_false_eq_true, and_self, if_true]
            have key := mgS_p13 (T := T) s 0 0 true
            simp only [Int.toNat_zero] at key
            refine RC.of_run hT key ?_
            simp only [AllT]
            repeat' (first | exact trivial | assumption | exact rfl | apply And.intro)
            all_goals (simp only [fitsK, max_i64, min_i64, max_u64, min_u64, max_u8, min_u8, Bool.and_eq_true, decide_eq_true_eq, decide_eq_false_iff_not, beq_iff_eq, beq_eq_false_iff_ne, ne_eq, and_true, true_and]; omega)
          | false =>
            rw [ho] at hdo
            simp only [hd0, ne_eq, not_false_eq_true, Bool.false_eq_true, and_false, if_false]
            have key := mgS_p14 (T := T) s 0 0 false
            simp only [Int.toNat_zero] at key
            refine RC.of_run hT key ?_
            simp only [AllT]
            repeat' (first | exact trivial | assumption | exact rfl | apply And.intro)
            all_goals (simp only [fitsK, max_i64, min_i64, max_u64, min_u64, max_u8, min_u8, Bool.and_eq_true, decide_eq_true_eq, decide_eq_false_iff_not, beq_iff_eq, beq_eq_false_iff_ne, ne_eq, and_true, true_and]; omega)
      | rng =>
        rw [hr] at hpu
        by_cases hd0 : s = []
        · have hdz : (!s == []) = false := by rw [hd0]; rfl
          exact absurd hd0 h0
        · have hdz : (!s == []) = true := by rw [beq_eq_false_iff_ne.2 hd0]; rfl
          cases ho : dOnly 10 s with
          | true =>
            rw [ho] at hdo
            simp only [hd0, ne_eq, not_false_eq_true, and_self, if_true]
            have key := mgG_p13 (T := T) s 0 0 true
            simp only [Int.toNat_zero] at key
            refine RC.of_run hT key ?_
            simp only [AllT]
            repeat' (first | exact trivial | assumption | exact rfl | apply And.intro)
            all_goals (simp only [fitsK, max_i64, min_i64, max_u64, min_u64, max_u8, min_u8, Bool.and_eq_true, decide_eq_true_eq, decide_eq_false_iff_not, beq_iff_eq, beq_eq_false_iff_ne, ne_eq, and_true, true_and]; omega)
          | false =>
            rw [ho] at hdo
            simp only [hd0, ne_eq, not_false_eq_true, Bool.false_eq_true, and_false, if_false]
            have key := mgG_p14 (T := T) s 0 0 false
            simp only [Int.toNat_zero] at key
            refine RC.of_run hT key ?_
            simp only [AllT]
            repeat' (first | exact trivial | assumption | exact rfl | apply And.intro)
            all_goals (simp only [fitsK, max_i64, min_i64, max_u64, min_u64, max_u8, min_u8, Bool.and_eq_true, decide_eq_true_eq, decide_eq_false_iff_not, beq_iff_eq, beq_eq_false_iff_ne, ne_eq, and_true, true_and]; omega)
end
end Go.Vc

/- VeTree -/
namespace Go.Vc
open Go.Sort

theorem zA (b : Bool) : (true && b) = b := Bool.true_and b
theorem zB (b : Bool) : (b && true) = b := Bool.and_true b
theorem zC (a b : Bool) : ((a && b) = true) = (a = true ∧ b = true) := Bool.and_eq_true a b
theorem zD {p : Prop} [Decidable p] : (decide p = true) = p := decide_eq_true_eq
theorem zE {p : Prop} [Decidable p] : (decide p = false) ↔ ¬ p := decide_eq_false_iff_not
theorem zF {α : Type} [BEq α] [LawfulBEq α] {a b : α} : (a == b) = true ↔ a = b := beq_iff_eq
theorem zG {α : Type} [BEq α] [LawfulBEq α] {a b : α} : (a == b) = false ↔ ¬ (a = b) := beq_eq_false_iff_ne
theorem zH (p : Prop) : (p ∧ True) = p := and_true p
theorem zI (p : Prop) : (True ∧ p) = p := true_and p
theorem zJ {i : Nat} {l : List Nat} : (l.drop i).length = l.length - i := List.length_drop
theorem zK {i : Nat} {l : List Nat} : (l.take i).length = min i l.length := List.length_take
theorem zL {l m : List Nat} : (l ++ m).length = l.length + m.length := List.length_append
theorem zM {a : Nat} {l : List Nat} : (a :: l).length = l.length + 1 := List.length_cons
theorem zN : ([] : List Nat).length = 0 := rfl
theorem zO {n a : Nat} : (List.replicate n a).length = n := List.length_replicate
theorem zP {a b : Int} : (a != b) = true ↔ ¬ (a = b) := by simp [bne]
theorem zQ {a b : Int} : (a != b) = false ↔ a = b := by simp [bne]
theorem zR {s : List Nat} : (s != []) = true ↔ 0 < s.length := by cases s <;> simp
theorem zS {s : List Nat} : (s != []) = false ↔ s.length = 0 := by cases s <;> simp
theorem zT {s : List Nat} : s = [] ↔ s.length = 0 := by cases s <;> simp
theorem zU {s : List Nat} : (¬ s = []) ↔ 0 < s.length := by cases s <;> simp
theorem zV {b : Bool} : (!b) = false ↔ b = true := by cases b <;> simp
theorem zW {b : Bool} : (!b) = true ↔ b = false := by cases b <;> simp
theorem zX {n : Int} : (fitsK .i64 n = true) ↔ (-9223372036854775808 ≤ n ∧ n ≤ 9223372036854775807) := by
  simp only [fitsK, max_i64, min_i64, Bool.and_eq_true, decide_eq_true_eq]
theorem zY {n : Int} : (fitsK .u64 n = true) ↔ (0 ≤ n ∧ n ≤ 18446744073709551615) := by
  simp only [fitsK, max_u64, min_u64, Bool.and_eq_true, decide_eq_true_eq]
theorem zZ {n : Int} : (fitsK .u8 n = true) ↔ (0 ≤ n ∧ n ≤ 255) := by
  simp only [fitsK, max_u8, min_u8, Bool.and_eq_true, decide_eq_true_eq]
theorem beq_nil_f {s : List Nat} : (s == []) = false ↔ 0 < s.length := by
  cases s <;> simp
theorem beq_nil_t {s : List Nat} : (s == []) = true ↔ s.length = 0 := by
  cases s <;> simp
theorem nil_iff {s : List Nat} : s = [] ↔ s.length = 0 := by cases s <;> simp
theorem nnil_iff {s : List Nat} : (¬ s = []) ↔ 0 < s.length := by cases s <;> simp
theorem bnot_f {b : Bool} : (!b) = false ↔ b = true := by cases b <;> simp
theorem bnot_t {b : Bool} : (!b) = true ↔ b = false := by cases b <;> simp
theorem bne_t {a b : Int} : (a != b) = true ↔ a ≠ b := by simp [bne]
theorem bne_f {a b : Int} : (a != b) = false ↔ a = b := by simp [bne]
theorem bne_nil_t {s : List Nat} : (s != []) = true ↔ 0 < s.length := by
  cases s <;> simp
theorem bne_nil_f {s : List Nat} : (s != []) = false ↔ s.length = 0 := by
  cases s <;> simp

def dkT : EV → EV
  | .tup vs => .tup (vs.map dk)
  | e => dk e

theorem VE.dkT {own : Own} {w : World} {regs : List Reg} {v : EV} {u : Value} (h : VE own w regs v u) : VE own w regs (dkT v) u := by
  cases v with
  | tup vs =>
    cases h with | tup _ us hs => exact .tup _ _ hs.dk
  | _ => exact h.dk

theorem RC.retk {P : Program} {G : Glob} {f : FuncId} {args : List EV} {H H' : Heap} {r r' : EV} (h : RC P G f args H r H') (e : dkT r = r') : RC P G f args H r' H' := by
  intro F regs w vs hh hG hv
  refine Calls.mono (h F regs w vs hh hG hv) ?_
  rintro e1 w' ⟨u, rfl, regs1, hs⟩
  subst e
  exact ⟨u, rfl, regs1, hs.hp, hs.ext, hs.val.dkT, hs.mv, hs.kp, hs.gr⟩

theorem RC.argsk {P : Program} {G : Glob} {f : FuncId} {args args' : List EV} {H H' : Heap} {r : EV} (h : RC P G f args' H r H') (e : args.map dk = args') : RC P G f args H r H' := by
  subst e
  exact h.args (fun _ _ _ _ hv => hv.dk)

theorem cond_t {α : Type} {c : Bool} {a b : α} (h : c = true) : (bif c then a else b) = a := by subst h; rfl
theorem cond_f {α : Type} {c : Bool} {a b : α} (h : c = false) : (bif c then a else b) = b := by subst h; rfl
theorem RC.tree {P : Program} {G : Glob} {f : FuncId} {args : List EV} {H K : Heap} {r : EV} {t : EV × Heap} (e : t = (r, K)) (h : RC P G f args H r K) : RC P G f args H t.1 t.2 := by
  subst e; exact h
theorem CC.tree {P : Program} {G : Glob} {nt B : Nat} {fr fr1 : Fr} {H K : Heap} {c : Code} {ex : Ex} {t : Fr × Heap} (e : t = (fr1, K)) (h : CC P G nt B fr H c ex fr1 K) : CC P G nt B fr H c ex t.1 t.2 := by
  subst e; exact h
end Go.Vc

/- VeInt -/
namespace Go.Vc
open Go.Sort
set_option linter.unusedVariables false
set_option linter.unusedSimpArgs false

def MG.n : MG → Nat
  | .ok n => n
  | _ => 0
def MG.e : MG → Nat
  | .ok _ => 0
  | .over => 14
  | .syn => 6
theorem mgE_eq (m : MG) : mgE m = .tup [.p (.int .u64 (m.n : Nat)), .p (.int .i64 (m.e : Nat))] := by
  cases m <;> rfl

def numNf (n : Nat) (e : Int) : Nat := if e = 0 ∧ n ≤ 9223372036854775807 then n else 0
def numEf (n : Nat) (e : Int) : Int := if e = 0 then (if n ≤ 9223372036854775807 then 0 else 14) else e
def numN (s : List Nat) : Nat := numNf (mgS s).n (mgS s).e
def numE (s : List Nat) : Int := numEf (mgS s).n (mgS s).e
theorem numN_le (s : List Nat) : numN s ≤ 9223372036854775807 := by unfold numN numNf; split <;> omega
def dropPre (p s : List Nat) : List Nat := if s.take p.length = p then s.drop p.length else s
def trim0 (s : List Nat) : List Nat := s.dropWhile (fun c => c == 48)
theorem take_ne {p s : List Nat} (h : s.length < p.length) : s.take p.length ≠ p := fun e => by
  have := congrArg List.length e
  rw [List.length_take] at this
  omega
theorem trim0_len (s : List Nat) : (trim0 s).length ≤ s.length := by
  unfold trim0
  exact (List.dropWhile_suffix _).length_le
def leastD (s : List Nat) : List Nat := trim0 (dropPre [48, 88] (dropPre [48, 120] s))
def leastBf (s d : List Nat) : Bool :=
  if 1 < s.length ∧ (s.getD 1 0 = 120 ∨ s.getD 1 0 = 88) then d == [56, 48, 48, 48, 48, 48, 48, 48, 48, 48, 48, 48, 48, 48, 48, 48]
  else if s.getD 0 0 = 48 then d == [49, 48, 48, 48, 48, 48, 48, 48, 48, 48, 48, 48, 48, 48, 48, 48, 48, 48, 48, 48, 48, 48]
  else d == [57, 50, 50, 51, 51, 55, 50, 48, 51, 54, 56, 53, 52, 55, 55, 53, 56, 48, 56]
def leastB (s : List Nat) : Bool := leastBf s (leastD s)
def intB (s : List Nat) : List Nat := if s.getD 0 0 = 45 ∨ s.getD 0 0 = 43 then s.drop 1 else s
def intNf (s : List Nat) (n e : Int) (ls : Bool) : Int :=
  if s.length = 0 then 0 else
  if e = 0 then (if s.getD 0 0 = 45 then 0 - n else n)
  else if e = 14 ∧ s.getD 0 0 = 45 ∧ ls = true then -9223372036854775808 else 0
def intOf (s : List Nat) (e : Int) (ls : Bool) : Bool :=
  if s.length = 0 then true else
  if e = 0 then true
  else if e = 14 ∧ s.getD 0 0 = 45 ∧ ls = true then true else false
def intN (s : List Nat) : Int := intNf s (numN (intB s) : Nat) (numE (intB s)) (leastB (intB s))
def intO (s : List Nat) : Bool := intOf s (numE (intB s)) (leastB (intB s))
theorem intB_1 {s : List Nat} (h : s.getD 0 0 = 45 ∨ s.getD 0 0 = 43) : intB s = s.drop 1 := by unfold intB; rw [if_pos h]
theorem intB_0 {s : List Nat} (h : ¬ (s.getD 0 0 = 45 ∨ s.getD 0 0 = 43)) : intB s = s := by unfold intB; rw [if_neg h]
theorem intB_len (s : List Nat) : (intB s).length ≤ s.length := by unfold intB; split <;> simp
theorem intB_mem (s : List Nat) {x : Nat} (h : x ∈ intB s) : x ∈ s := by
  unfold intB at h; split at h
  · exact List.mem_of_mem_drop h
  · exact h
theorem intN_ge (s : List Nat) : -9223372036854775808 ≤ intN s := by
  have := numN_le (intB s)
  unfold intN intNf; repeat' split
  all_goals omega
theorem intN_le (s : List Nat) : intN s ≤ 9223372036854775807 := by
  have := numN_le (intB s)
  unfold intN intNf; repeat' split
  all_goals omega

section
variable {T : Tab}

theorem num_p1 (s : List Nat) (n : Nat) (e : Int) : runFn Pd Gd T 100000 false [.callv (.tup [.p (.int .u64 (↑n : Int)), .p (.int .i64 e)]) [], .br true, .br true, .br true] 59 [.p (.str s)] [] = some ([true = true, decide ((↑n : Int) > 9223372036854775807) = true, (e == 0) = true, RC Pd Gd 73 [.p (.str s)] [] (.tup [.p (.int .u64 (↑n : Int)), .p (.int .i64 e)]) []], .tup [.p (.int .i64 0), .p (.int .i64 14)], []) := by kernel_rfl
theorem num_p2 (s : List Nat) (n : Nat) (e : Int) : runFn Pd Gd T 100000 false [.callv (.tup [.p (.int .u64 (↑n : Int)), .p (.int .i64 e)]) [], .br true, .br false, .br true] 59 [.p (.str s)] [] = some ([(e != 0) = true, decide ((↑n : Int) > 9223372036854775807) = false, (e == 0) = true, RC Pd Gd 73 [.p (.str s)] [] (.tup [.p (.int .u64 (↑n : Int)), .p (.int .i64 e)]) []], .tup [.p (.int .i64 0), .p (.int .i64 e)], []) := by kernel_rfl
theorem num_p3 (s : List Nat) (n : Nat) (e : Int) : runFn Pd Gd T 100000 false [.callv (.tup [.p (.int .u64 (↑n : Int)), .p (.int .i64 e)]) [], .br true, .br false, .br false] 59 [.p (.str s)] [] = some ([fitsK .i64 (↑n : Int) = true, (e != 0) = false, decide ((↑n : Int) > 9223372036854775807) = false, (e == 0) = true, RC Pd Gd 73 [.p (.str s)] [] (.tup [.p (.int .u64 (↑n : Int)), .p (.int .i64 e)]) []], .tup [.p (.int .i64 (↑n : Int)), .p (.int .i64 0)], []) := by kernel_rfl
theorem num_p4 (s : List Nat) (n : Nat) (e : Int) : runFn Pd Gd T 100000 false [.callv (.tup [.p (.int .u64 (↑n : Int)), .p (.int .i64 e)]) [], .br false, .br true] 59 [.p (.str s)] [] = some ([(e != 0) = true, (e == 0) = false, RC Pd Gd 73 [.p (.str s)] [] (.tup [.p (.int .u64 (↑n : Int)), .p (.int .i64 e)]) []], .tup [.p (.int .i64 0), .p (.int .i64 e)], []) := by kernel_rfl
theorem num_p5 (s : List Nat) (n : Nat) (e : Int) : runFn Pd Gd T 100000 false [.callv (.tup [.p (.int .u64 (↑n : Int)), .p (.int .i64 e)]) [], .br false, .br false] 59 [.p (.str s)] [] = some ([fitsK .i64 (↑n : Int) = true, (e != 0) = false, (e == 0) = false, RC Pd Gd 73 [.p (.str s)] [] (.tup [.p (.int .u64 (↑n : Int)), .p (.int .i64 e)]) []], .tup [.p (.int .i64 (↑n : Int)), .p (.int .i64 0)], []) := by kernel_rfl
theorem tpA_p1 (s : List Nat) : runFn Pd Gd T 100000 false [.inl, .inl, .br true, .br true] 75 [.p (.str s), .p (.str [48, 120])] [] = some ([(true && decide ((↑[48, 120].length : Int) ≤ (↑s.length : Int))) = true, (List.take 2 s == [48, 120]) = true, (true && decide ((↑[48, 120].length : Int) ≤ (↑s.length : Int))) = true, decide ((↑s.length : Int) ≥ (↑[48, 120].length : Int)) = true], .p (.str (List.drop 2 s)), []) := by kernel_rfl
theorem tpA_p2 (s : List Nat) : runFn Pd Gd T 100000 false [.inl, .inl, .br true, .br false] 75 [.p (.str s), .p (.str [48, 120])] [] = some ([(List.take 2 s == [48, 120]) = false, (true && decide ((↑[48, 120].length : Int) ≤ (↑s.length : Int))) = true, decide ((↑s.length : Int) ≥ (↑[48, 120].length : Int)) = true], .p (.str s), []) := by kernel_rfl
theorem tpA_p3 (s : List Nat) : runFn Pd Gd T 100000 false [.inl, .inl, .br false] 75 [.p (.str s), .p (.str [48, 120])] [] = some ([decide ((↑s.length : Int) ≥ (↑[48, 120].length : Int)) = false], .p (.str s), []) := by kernel_rfl
theorem tpB_p1 (s : List Nat) : runFn Pd Gd T 100000 false [.inl, .inl, .br true, .br true] 75 [.p (.str s), .p (.str [48, 88])] [] = some ([(true && decide ((↑[48, 88].length : Int) ≤ (↑s.length : Int))) = true, (List.take 2 s == [48, 88]) = true, (true && decide ((↑[48, 88].length : Int) ≤ (↑s.length : Int))) = true, decide ((↑s.length : Int) ≥ (↑[48, 88].length : Int)) = true], .p (.str (List.drop 2 s)), []) := by kernel_rfl
theorem tpB_p2 (s : List Nat) : runFn Pd Gd T 100000 false [.inl, .inl, .br true, .br false] 75 [.p (.str s), .p (.str [48, 88])] [] = some ([(List.take 2 s == [48, 88]) = false, (true && decide ((↑[48, 88].length : Int) ≤ (↑s.length : Int))) = true, decide ((↑s.length : Int) ≥ (↑[48, 88].length : Int)) = true], .p (.str s), []) := by kernel_rfl
theorem tpB_p3 (s : List Nat) : runFn Pd Gd T 100000 false [.inl, .inl, .br false] 75 [.p (.str s), .p (.str [48, 88])] [] = some ([decide ((↑s.length : Int) ≥ (↑[48, 88].length : Int)) = false], .p (.str s), []) := by kernel_rfl
theorem tl_p1 (s d : List Nat) : runFn Pd Gd T 100000 false [.br true] 74 [.p (.str s), .p (.str [48])] [] = some ([(s == []) = true], .p (.str s), []) := by kernel_rfl
theorem tl_p2 (s d : List Nat) : runFn Pd Gd T 100000 false [.br false, .br false, .br true, .br true, .callv (.p (.str d)) []] 74 [.p (.str s), .p (.str [48])] [] = some ([RC Pd Gd 84 [.p (.str s), .p (.int .u8 48)] [] (.p (.str d)) [], true = true, true = true, true = true, true = true, false = false, (s == []) = false], .p (.str d), []) := by kernel_rfl
theorem least_p1 (s a b d : List Nat) : runFn Pd Gd T 100000 false [.callv (.p (.str a)) [], .callv (.p (.str b)) [], .callv (.p (.str d)) [], .br true, .br true] 60 [.p (.str s)] [] = some ([((↑(s.getD 1 0) : Int) == 120) = true, (true && decide (1 < (↑s.length : Int))) = true, decide ((↑s.length : Int) > 1) = true, RC Pd Gd 74 [.p (.str b), .p (.str [48])] [] (.p (.str d)) [], RC Pd Gd 75 [.p (.str a), .p (.str [48, 88])] [] (.p (.str b)) [], RC Pd Gd 75 [.p (.str s), .p (.str [48, 120])] [] (.p (.str a)) []], .p (.bool (d == [56, 48, 48, 48, 48, 48, 48, 48, 48, 48, 48, 48, 48, 48, 48, 48])), []) := by kernel_rfl
theorem least_p2 (s a b d : List Nat) : runFn Pd Gd T 100000 false [.callv (.p (.str a)) [], .callv (.p (.str b)) [], .callv (.p (.str d)) [], .br true, .br false, .br true] 60 [.p (.str s)] [] = some ([((↑(s.getD 1 0) : Int) == 88) = true, (true && decide (1 < (↑s.length : Int))) = true, ((↑(s.getD 1 0) : Int) == 120) = false, (true && decide (1 < (↑s.length : Int))) = true, decide ((↑s.length : Int) > 1) = true, RC Pd Gd 74 [.p (.str b), .p (.str [48])] [] (.p (.str d)) [], RC Pd Gd 75 [.p (.str a), .p (.str [48, 88])] [] (.p (.str b)) [], RC Pd Gd 75 [.p (.str s), .p (.str [48, 120])] [] (.p (.str a)) []], .p (.bool (d == [56, 48, 48, 48, 48, 48, 48, 48, 48, 48, 48, 48, 48, 48, 48, 48])), []) := by kernel_rfl
theorem least_p3 (s a b d : List Nat) : runFn Pd Gd T 100000 false [.callv (.p (.str a)) [], .callv (.p (.str b)) [], .callv (.p (.str d)) [], .br true, .br false, .br false, .br true] 60 [.p (.str s)] [] = some ([((↑(s.getD 0 0) : Int) == 48) = true, (true && decide (0 < (↑s.length : Int))) = true, ((↑(s.getD 1 0) : Int) == 88) = false, (true && decide (1 < (↑s.length : Int))) = true, ((↑(s.getD 1 0) : Int) == 120) = false, (true && decide (1 < (↑s.length : Int))) = true, decide ((↑s.length : Int) > 1) = true, RC Pd Gd 74 [.p (.str b), .p (.str [48])] [] (.p (.str d)) [], RC Pd Gd 75 [.p (.str a), .p (.str [48, 88])] [] (.p (.str b)) [], RC Pd Gd 75 [.p (.str s), .p (.str [48, 120])] [] (.p (.str a)) []], .p (.bool (d == [49, 48, 48, 48, 48, 48, 48, 48, 48, 48, 48, 48, 48, 48, 48, 48, 48, 48, 48, 48, 48, 48])), []) := by kernel_rfl
theorem least_p4 (s a b d : List Nat) : runFn Pd Gd T 100000 false [.callv (.p (.str a)) [], .callv (.p (.str b)) [], .callv (.p (.str d)) [], .br true, .br false, .br false, .br false] 60 [.p (.str s)] [] = some ([((↑(s.getD 0 0) : Int) == 48) = false, (true && decide (0 < (↑s.length : Int))) = true, ((↑(s.getD 1 0) : Int) == 88) = false, (true && decide (1 < (↑s.length : Int))) = true, ((↑(s.getD 1 0) : Int) == 120) = false, (true && decide (1 < (↑s.length : Int))) = true, decide ((↑s.length : Int) > 1) = true, RC Pd Gd 74 [.p (.str b), .p (.str [48])] [] (.p (.str d)) [], RC Pd Gd 75 [.p (.str a), .p (.str [48, 88])] [] (.p (.str b)) [], RC Pd Gd 75 [.p (.str s), .p (.str [48, 120])] [] (.p (.str a)) []], .p (.bool (d == [57, 50, 50, 51, 51, 55, 50, 48, 51, 54, 56, 53, 52, 55, 55, 53, 56, 48, 56])), []) := by kernel_rfl
theorem least_p5 (s a b d : List Nat) : runFn Pd Gd T 100000 false [.callv (.p (.str a)) [], .callv (.p (.str b)) [], .callv (.p (.str d)) [], .br false, .br true] 60 [.p (.str s)] [] = some ([((↑(s.getD 0 0) : Int) == 48) = true, (true && decide (0 < (↑s.length : Int))) = true, decide ((↑s.length : Int) > 1) = false, RC Pd Gd 74 [.p (.str b), .p (.str [48])] [] (.p (.str d)) [], RC Pd Gd 75 [.p (.str a), .p (.str [48, 88])] [] (.p (.str b)) [], RC Pd Gd 75 [.p (.str s), .p (.str [48, 120])] [] (.p (.str a)) []], .p (.bool (d == [49, 48, 48, 48, 48, 48, 48, 48, 48, 48, 48, 48, 48, 48, 48, 48, 48, 48, 48, 48, 48, 48])), []) := by kernel_rfl
theorem least_p6 (s a b d : List Nat) : runFn Pd Gd T 100000 false [.callv (.p (.str a)) [], .callv (.p (.str b)) [], .callv (.p (.str d)) [], .br false, .br false] 60 [.p (.str s)] [] = some ([((↑(s.getD 0 0) : Int) == 48) = false, (true && decide (0 < (↑s.length : Int))) = true, decide ((↑s.length : Int) > 1) = false, RC Pd Gd 74 [.p (.str b), .p (.str [48])] [] (.p (.str d)) [], RC Pd Gd 75 [.p (.str a), .p (.str [48, 88])] [] (.p (.str b)) [], RC Pd Gd 75 [.p (.str s), .p (.str [48, 120])] [] (.p (.str a)) []], .p (.bool (d == [57, 50, 50, 51, 51, 55, 50, 48, 51, 54, 56, 53, 52, 55, 55, 53, 56, 48, 56])), []) := by kernel_rfl
theorem intg_p1 (s : List Nat) (n e : Int) (ls : Bool) : runFn Pd Gd T 100000 false [.br true] 49 [.p (.str s)] [] = some ([(s == []) = true], .tup [.p (.int .i64 0), .kb true], []) := by kernel_rfl
theorem intg_p2 (s : List Nat) (n e : Int) (ls : Bool) : runFn Pd Gd T 100000 false [.br false, .br true, .callv (.tup [.p (.int .i64 n), .p (.int .i64 e)]) [], .br true, .br true] 49 [.p (.str s)] [] = some ([fitsK .i64 (0 - n) = true, ((↑(s.getD 0 0) : Int) == 45) = true, (e == 0) = true, RC Pd Gd 59 [.p (.str (List.drop 1 s))] [] (.tup [.p (.int .i64 n), .p (.int .i64 e)]) [], (true && decide (1 ≤ (↑s.length : Int))) = true, ((↑(s.getD 0 0) : Int) == 45) = true, (true && decide (0 < (↑s.length : Int))) = true, (s == []) = false], .tup [.p (.int .i64 (0 - n)), .kb true], []) := by kernel_rfl
theorem intg_p9 (s : List Nat) (n e : Int) (ls : Bool) : runFn Pd Gd T 100000 false [.br false, .br true, .callv (.tup [.p (.int .i64 n), .p (.int .i64 e)]) [], .br false, .br false, .br true, .br true, .callv (.p (.bool ls)) [], .br true] 49 [.p (.str s)] [] = some ([ls = true, RC Pd Gd 60 [.p (.str (List.drop 1 s))] [] (.p (.bool ls)) [], ((↑(s.getD 0 0) : Int) == 45) = true, (e == 14) = true, (e == 0) = false, (e == 0) = false, RC Pd Gd 59 [.p (.str (List.drop 1 s))] [] (.tup [.p (.int .i64 n), .p (.int .i64 e)]) [], (true && decide (1 ≤ (↑s.length : Int))) = true, ((↑(s.getD 0 0) : Int) == 45) = true, (true && decide (0 < (↑s.length : Int))) = true, (s == []) = false], .tup [.p (.int .i64 (-9223372036854775808)), .kb true], []) := by kernel_rfl
theorem intg_p10 (s : List Nat) (n e : Int) (ls : Bool) : runFn Pd Gd T 100000 false [.br false, .br true, .callv (.tup [.p (.int .i64 n), .p (.int .i64 e)]) [], .br false, .br false, .br true, .br true, .callv (.p (.bool ls)) [], .br false] 49 [.p (.str s)] [] = some ([ls = false, RC Pd Gd 60 [.p (.str (List.drop 1 s))] [] (.p (.bool ls)) [], ((↑(s.getD 0 0) : Int) == 45) = true, (e == 14) = true, (e == 0) = false, (e == 0) = false, RC Pd Gd 59 [.p (.str (List.drop 1 s))] [] (.tup [.p (.int .i64 n), .p (.int .i64 e)]) [], (true && decide (1 ≤ (↑s.length : Int))) = true, ((↑(s.getD 0 0) : Int) == 45) = true, (true && decide (0 < (↑s.length : Int))) = true, (s == []) = false], .tup [.p (.int .i64 0), .kb false], []) := by kernel_rfl
theorem intg_p12 (s : List Nat) (n e : Int) (ls : Bool) : runFn Pd Gd T 100000 false [.br false, .br true, .callv (.tup [.p (.int .i64 n), .p (.int .i64 e)]) [], .br false, .br false, .br false] 49 [.p (.str s)] [] = some ([(e == 14) = false, (e == 0) = false, (e == 0) = false, RC Pd Gd 59 [.p (.str (List.drop 1 s))] [] (.tup [.p (.int .i64 n), .p (.int .i64 e)]) [], (true && decide (1 ≤ (↑s.length : Int))) = true, ((↑(s.getD 0 0) : Int) == 45) = true, (true && decide (0 < (↑s.length : Int))) = true, (s == []) = false], .tup [.p (.int .i64 0), .kb false], []) := by kernel_rfl
theorem intg_p14 (s : List Nat) (n e : Int) (ls : Bool) : runFn Pd Gd T 100000 false [.br false, .br false, .br true, .callv (.tup [.p (.int .i64 n), .p (.int .i64 e)]) [], .br true, .br false, .br true] 49 [.p (.str s)] [] = some ([(e == 0) = true, ((↑(s.getD 0 0) : Int) == 45) = false, (e == 0) = true, RC Pd Gd 59 [.p (.str (List.drop 1 s))] [] (.tup [.p (.int .i64 n), .p (.int .i64 e)]) [], (true && decide (1 ≤ (↑s.length : Int))) = true, ((↑(s.getD 0 0) : Int) == 43) = true, (true && decide (0 < (↑s.length : Int))) = true, ((↑(s.getD 0 0) : Int) == 45) = false, (true && decide (0 < (↑s.length : Int))) = true, (s == []) = false], .tup [.p (.int .i64 n), .kb true], []) := by kernel_rfl
theorem intg_p22 (s : List Nat) (n e : Int) (ls : Bool) : runFn Pd Gd T 100000 false [.br false, .br false, .br true, .callv (.tup [.p (.int .i64 n), .p (.int .i64 e)]) [], .br false, .br false, .br true, .br false] 49 [.p (.str s)] [] = some ([((↑(s.getD 0 0) : Int) == 45) = false, (e == 14) = true, (e == 0) = false, (e == 0) = false, RC Pd Gd 59 [.p (.str (List.drop 1 s))] [] (.tup [.p (.int .i64 n), .p (.int .i64 e)]) [], (true && decide (1 ≤ (↑s.length : Int))) = true, ((↑(s.getD 0 0) : Int) == 43) = true, (true && decide (0 < (↑s.length : Int))) = true, ((↑(s.getD 0 0) : Int) == 45) = false, (true && decide (0 < (↑s.length : Int))) = true, (s == []) = false], .tup [.p (.int .i64 0), .kb false], []) := by kernel_rfl
theorem intg_p23 (s : List Nat) (n e : Int) (ls : Bool) : runFn Pd Gd T 100000 false [.br false, .br false, .br true, .callv (.tup [.p (.int .i64 n), .p (.int .i64 e)]) [], .br false, .br false, .br false] 49 [.p (.str s)] [] = some ([(e == 14) = false, (e == 0) = false, (e == 0) = false, RC Pd Gd 59 [.p (.str (List.drop 1 s))] [] (.tup [.p (.int .i64 n), .p (.int .i64 e)]) [], (true && decide (1 ≤ (↑s.length : Int))) = true, ((↑(s.getD 0 0) : Int) == 43) = true, (true && decide (0 < (↑s.length : Int))) = true, ((↑(s.getD 0 0) : Int) == 45) = false, (true && decide (0 < (↑s.length : Int))) = true, (s == []) = false], .tup [.p (.int .i64 0), .kb false], []) := by kernel_rfl
theorem intg_p25 (s : List Nat) (n e : Int) (ls : Bool) : runFn Pd Gd T 100000 false [.br false, .br false, .br false, .callv (.tup [.p (.int .i64 n), .p (.int .i64 e)]) [], .br true, .br false, .br true] 49 [.p (.str s)] [] = some ([(e == 0) = true, ((↑(s.getD 0 0) : Int) == 45) = false, (e == 0) = true, RC Pd Gd 59 [.p (.str s)] [] (.tup [.p (.int .i64 n), .p (.int .i64 e)]) [], ((↑(s.getD 0 0) : Int) == 43) = false, (true && decide (0 < (↑s.length : Int))) = true, ((↑(s.getD 0 0) : Int) == 45) = false, (true && decide (0 < (↑s.length : Int))) = true, (s == []) = false], .tup [.p (.int .i64 n), .kb true], []) := by kernel_rfl
theorem intg_p33 (s : List Nat) (n e : Int) (ls : Bool) : runFn Pd Gd T 100000 false [.br false, .br false, .br false, .callv (.tup [.p (.int .i64 n), .p (.int .i64 e)]) [], .br false, .br false, .br true, .br false] 49 [.p (.str s)] [] = some ([((↑(s.getD 0 0) : Int) == 45) = false, (e == 14) = true, (e == 0) = false, (e == 0) = false, RC Pd Gd 59 [.p (.str s)] [] (.tup [.p (.int .i64 n), .p (.int .i64 e)]) [], ((↑(s.getD 0 0) : Int) == 43) = false, (true && decide (0 < (↑s.length : Int))) = true, ((↑(s.getD 0 0) : Int) == 45) = false, (true && decide (0 < (↑s.length : Int))) = true, (s == []) = false], .tup [.p (.int .i64 0), .kb false], []) := by kernel_rfl
theorem intg_p34 (s : List Nat) (n e : Int) (ls : Bool) : runFn Pd Gd T 100000 false [.br false, .br false, .br false, .callv (.tup [.p (.int .i64 n), .p (.int .i64 e)]) [], .br false, .br false, .br false] 49 [.p (.str s)] [] = some ([(e == 14) = false, (e == 0) = false, (e == 0) = false, RC Pd Gd 59 [.p (.str s)] [] (.tup [.p (.int .i64 n), .p (.int .i64 e)]) [], ((↑(s.getD 0 0) : Int) == 43) = false, (true && decide (0 < (↑s.length : Int))) = true, ((↑(s.getD 0 0) : Int) == 45) = false, (true && decide (0 < (↑s.length : Int))) = true, (s == []) = false], .tup [.p (.int .i64 0), .kb false], []) := by kernel_rfl
theorem tlL_l1 (s : List Nat) : runC Pd Gd T 100000 false [.br true, .br true] 17 0 [(0, .p (.str s)), (1, .p (.int .u8 48)), (2, .und)] [] (loopAt Pd 84 0) [0, 1, 2] [] [] = some ([(true && decide (1 ≤ (↑s.length : Int))) = true, ((↑(s.getD 0 0) : Int) == 48) = true, (true && decide (0 < (↑s.length : Int))) = true, decide ((↑s.length : Int) > 0) = true], .normal, [(0, .p (.str (List.drop 1 s))), (1, .p (.int .u8 48)), (2, .und)], []) := by kernel_rfl
theorem tlL_l2 (s : List Nat) : runC Pd Gd T 100000 false [.br true, .br false] 17 0 [(0, .p (.str s)), (1, .p (.int .u8 48)), (2, .und)] [] (loopAt Pd 84 0) [0, 1, 2] [] [] = some ([((↑(s.getD 0 0) : Int) == 48) = false, (true && decide (0 < (↑s.length : Int))) = true, decide ((↑s.length : Int) > 0) = true], .exit 0, [(0, .p (.str s)), (1, .p (.int .u8 48)), (2, .und)], []) := by kernel_rfl
theorem tlL_l3 (s : List Nat) : runC Pd Gd T 100000 false [.br false] 17 0 [(0, .p (.str s)), (1, .p (.int .u8 48)), (2, .und)] [] (loopAt Pd 84 0) [0, 1, 2] [] [] = some ([decide ((↑s.length : Int) > 0) = false], .exit 0, [(0, .p (.str s)), (1, .p (.int .u8 48)), (2, .und)], []) := by kernel_rfl
theorem tlW_p1 (s d : List Nat) : runFn Pd Gd T 100000 false [.tr 999999 (Tr.weak [0, 1, 2] [] []), .code (.exit 0) [(0, .p (.str d)), (1, .p (.int .u8 48)), (2, .und)] []] 84 [.p (.str s), .p (.int .u8 48)] [] = some ([LC Pd Gd 17 0 [(0, .p (.str s)), (1, .p (.int .u8 48)), (2, .und)] [] (loopAt Pd 84 0) (.exit 0) [(0, .p (.str d)), (1, .p (.int .u8 48)), (2, .und)] []], .p (.str d), []) := by kernel_rfl
def num_t (s : List Nat) (n : Nat) (e : Int) : EV × Heap :=
  bif (e == 0) then
    bif decide ((↑n : Int) > 9223372036854775807) then
      (.tup [.p (.int .i64 0), .p (.int .i64 14)], [])
    else
      bif (e != 0) then
        (.tup [.p (.int .i64 0), .p (.int .i64 e)], [])
      else
        (.tup [.p (.int .i64 (↑n : Int)), .p (.int .i64 0)], [])
  else
    bif (e != 0) then
      (.tup [.p (.int .i64 0), .p (.int .i64 e)], [])
    else
      (.tup [.p (.int .i64 (↑n : Int)), .p (.int .i64 0)], [])

set_option maxHeartbeats 0 in
set_option maxRecDepth 20000 in
theorem num_rc (hT : TabOk Pd Gd T) (s : List Nat) (n : Nat) (e : Int) (hm : RC Pd Gd 73 [.p (.str s)] [] (.tup [.p (.int .u64 (n : Int)), .p (.int .i64 e)]) []) : RC Pd Gd 59 [.p (.str s)] [] (num_t s n e).1 (num_t s n e).2 := by
  rcases Bool.eq_false_or_eq_true ((e == 0)) with h1 | h1
  · have h1q := h1
    try simp only [zA, zB, zC, zD, zE, zF, zG, zH, zI, zJ, zK, zL, zM, zN, zO, zP, zQ, zR, zS, zT, zU, zV, zW, zX, zY, zZ] at h1q
    rcases Bool.eq_false_or_eq_true (decide ((↑n : Int) > 9223372036854775807)) with h2 | h2
    · have h2q := h2
      try simp only [zA, zB, zC, zD, zE, zF, zG, zH, zI, zJ, zK, zL, zM, zN, zO, zP, zQ, zR, zS, zT, zU, zV, zW, zX, zY, zZ] at h2q
      refine RC.tree (t := num_t s n e) (r := .tup [.p (.int .i64 0), .p (.int .i64 14)]) (K := []) ((cond_t h1).trans ((cond_t h2).trans (rfl))) (RC.retk (RC.of_runFn hT (num_p1 (T := T) s n e) ?_) rfl)
      simp only [AllT]
      repeat' (first | exact trivial | assumption | exact rfl | apply And.intro)
      all_goals (first | assumption | (simp only [zA, zB, zC, zD, zE, zF, zG, zH, zI, zJ, zK, zL, zM, zN, zO, zP, zQ, zR, zS, zT, zU, zV, zW, zX, zY, zZ]; omega) | (simp only [zA, zB, zC, zD, zE, zF, zG, zH, zI, zJ, zK, zL, zM, zN, zO, zP, zQ, zR, zS, zT, zU, zV, zW, zX, zY, zZ] at *; omega))
    · have h2q := h2
      try simp only [zA, zB, zC, zD, zE, zF, zG, zH, zI, zJ, zK, zL, zM, zN, zO, zP, zQ, zR, zS, zT, zU, zV, zW, zX, zY, zZ] at h2q
      rcases Bool.eq_false_or_eq_true ((e != 0)) with h3 | h3
      · have h3q := h3
        try simp only [zA, zB, zC, zD, zE, zF, zG, zH, zI, zJ, zK, zL, zM, zN, zO, zP, zQ, zR, zS, zT, zU, zV, zW, zX, zY, zZ] at h3q
        refine RC.tree (t := num_t s n e) (r := .tup [.p (.int .i64 0), .p (.int .i64 e)]) (K := []) ((cond_t h1).trans ((cond_f h2).trans ((cond_t h3).trans (rfl)))) (RC.retk (RC.of_runFn hT (num_p2 (T := T) s n e) ?_) rfl)
        simp only [AllT]
        repeat' (first | exact trivial | assumption | exact rfl | apply And.intro)
        all_goals (first | assumption | (simp only [zA, zB, zC, zD, zE, zF, zG, zH, zI, zJ, zK, zL, zM, zN, zO, zP, zQ, zR, zS, zT, zU, zV, zW, zX, zY, zZ]; omega) | (simp only [zA, zB, zC, zD, zE, zF, zG, zH, zI, zJ, zK, zL, zM, zN, zO, zP, zQ, zR, zS, zT, zU, zV, zW, zX, zY, zZ] at *; omega))
      · have h3q := h3
        try simp only [zA, zB, zC, zD, zE, zF, zG, zH, zI, zJ, zK, zL, zM, zN, zO, zP, zQ, zR, zS, zT, zU, zV, zW, zX, zY, zZ] at h3q
        refine RC.tree (t := num_t s n e) (r := .tup [.p (.int .i64 (↑n : Int)), .p (.int .i64 0)]) (K := []) ((cond_t h1).trans ((cond_f h2).trans ((cond_f h3).trans (rfl)))) (RC.retk (RC.of_runFn hT (num_p3 (T := T) s n e) ?_) rfl)
        simp only [AllT]
        repeat' (first | exact trivial | assumption | exact rfl | apply And.intro)
        all_goals (first | assumption | (simp only [zA, zB, zC, zD, zE, zF, zG, zH, zI, zJ, zK, zL, zM, zN, zO, zP, zQ, zR, zS, zT, zU, zV, zW, zX, zY, zZ]; omega) | (simp only [zA, zB, zC, zD, zE, zF, zG, zH, zI, zJ, zK, zL, zM, zN, zO, zP, zQ, zR, zS, zT, zU, zV, zW, zX, zY, zZ] at *; omega))
  · have h1q := h1
    try simp only [zA, zB, zC, zD, zE, zF, zG, zH, zI, zJ, zK, zL, zM, zN, zO, zP, zQ, zR, zS, zT, zU, zV, zW, zX, zY, zZ] at h1q
    rcases Bool.eq_false_or_eq_true ((e != 0)) with h2 | h2
    · have h2q := h2
      try simp only [zA, zB, zC, zD, zE, zF, zG, zH, zI, zJ, zK, zL, zM, zN, zO, zP, zQ, zR, zS, zT, zU, zV, zW, zX, zY, zZ] at h2q
      refine RC.tree (t := num_t s n e) (r := .tup [.p (.int .i64 0), .p (.int .i64 e)]) (K := []) ((cond_f h1).trans ((cond_t h2).trans (rfl))) (RC.retk (RC.of_runFn hT (num_p4 (T := T) s n e) ?_) rfl)
      simp only [AllT]
      repeat' (first | exact trivial | assumption | exact rfl | apply And.intro)
      all_goals (first | assumption | (simp only [zA, zB, zC, zD, zE, zF, zG, zH, zI, zJ, zK, zL, zM, zN, zO, zP, zQ, zR, zS, zT, zU, zV, zW, zX, zY, zZ]; omega) | (simp only [zA, zB, zC, zD, zE, zF, zG, zH, zI, zJ, zK, zL, zM, zN, zO, zP, zQ, zR, zS, zT, zU, zV, zW, zX, zY, zZ] at *; omega))
    · have h2q := h2
      try simp only [zA, zB, zC, zD, zE, zF, zG, zH, zI, zJ, zK, zL, zM, zN, zO, zP, zQ, zR, zS, zT, zU, zV, zW, zX, zY, zZ] at h2q
      refine RC.tree (t := num_t s n e) (r := .tup [.p (.int .i64 (↑n : Int)), .p (.int .i64 0)]) (K := []) ((cond_f h1).trans ((cond_f h2).trans (rfl))) (RC.retk (RC.of_runFn hT (num_p5 (T := T) s n e) ?_) rfl)
      simp only [AllT]
      repeat' (first | exact trivial | assumption | exact rfl | apply And.intro)
      all_goals (first | assumption | (simp only [zA, zB, zC, zD, zE, zF, zG, zH, zI, zJ, zK, zL, zM, zN, zO, zP, zQ, zR, zS, zT, zU, zV, zW, zX, zY, zZ]; omega) | (simp only [zA, zB, zC, zD, zE, zF, zG, zH, zI, zJ, zK, zL, zM, zN, zO, zP, zQ, zR, zS, zT, zU, zV, zW, zX, zY, zZ] at *; omega))
def tpA_t (s : List Nat) : EV × Heap :=
  bif decide ((↑s.length : Int) ≥ (↑[48, 120].length : Int)) then
    bif (List.take 2 s == [48, 120]) then
      (.p (.str (List.drop 2 s)), [])
    else
      (.p (.str s), [])
  else
    (.p (.str s), [])

set_option maxHeartbeats 0 in
set_option maxRecDepth 20000 in
theorem tpA_rc (hT : TabOk Pd Gd T) (s : List Nat)  : RC Pd Gd 75 [.p (.str s), .p (.str [48, 120])] [] (tpA_t s).1 (tpA_t s).2 := by
  rcases Bool.eq_false_or_eq_true (decide ((↑s.length : Int) ≥ (↑[48, 120].length : Int))) with h1 | h1
  · have h1q := h1
    try simp only [zA, zB, zC, zD, zE, zF, zG, zH, zI, zJ, zK, zL, zM, zN, zO, zP, zQ, zR, zS, zT, zU, zV, zW, zX, zY, zZ] at h1q
    rcases Bool.eq_false_or_eq_true ((List.take 2 s == [48, 120])) with h2 | h2
    · have h2q := h2
      try simp only [zA, zB, zC, zD, zE, zF, zG, zH, zI, zJ, zK, zL, zM, zN, zO, zP, zQ, zR, zS, zT, zU, zV, zW, zX, zY, zZ] at h2q
      refine RC.tree (t := tpA_t s) (r := .p (.str (List.drop 2 s))) (K := []) ((cond_t h1).trans ((cond_t h2).trans (rfl))) (RC.retk (RC.of_runFn hT (tpA_p1 (T := T) s) ?_) rfl)
      simp only [AllT]
      repeat' (first | exact trivial | assumption | exact rfl | apply And.intro)
      all_goals (first | assumption | (simp only [zA, zB, zC, zD, zE, zF, zG, zH, zI, zJ, zK, zL, zM, zN, zO, zP, zQ, zR, zS, zT, zU, zV, zW, zX, zY, zZ]; omega) | (simp only [zA, zB, zC, zD, zE, zF, zG, zH, zI, zJ, zK, zL, zM, zN, zO, zP, zQ, zR, zS, zT, zU, zV, zW, zX, zY, zZ] at *; omega))
    · have h2q := h2
      try simp only [zA, zB, zC, zD, zE, zF, zG, zH, zI, zJ, zK, zL, zM, zN, zO, zP, zQ, zR, zS, zT, zU, zV, zW, zX, zY, zZ] at h2q
      refine RC.tree (t := tpA_t s) (r := .p (.str s)) (K := []) ((cond_t h1).trans ((cond_f h2).trans (rfl))) (RC.retk (RC.of_runFn hT (tpA_p2 (T := T) s) ?_) rfl)
      simp only [AllT]
      repeat' (first | exact trivial | assumption | exact rfl | apply And.intro)
      all_goals (first | assumption | (simp only [zA, zB, zC, zD, zE, zF, zG, zH, zI, zJ, zK, zL, zM, zN, zO, zP, zQ, zR, zS, zT, zU, zV, zW, zX, zY, zZ]; omega) | (simp only [zA, zB, zC, zD, zE, zF, zG, zH, zI, zJ, zK, zL, zM, zN, zO, zP, zQ, zR, zS, zT, zU, zV, zW, zX, zY, zZ] at *; omega))
  · have h1q := h1
    try simp only [zA, zB, zC, zD, zE, zF, zG, zH, zI, zJ, zK, zL, zM, zN, zO, zP, zQ, zR, zS, zT, zU, zV, zW, zX, zY, zZ] at h1q
    refine RC.tree (t := tpA_t s) (r := .p (.str s)) (K := []) ((cond_f h1).trans (rfl)) (RC.retk (RC.of_runFn hT (tpA_p3 (T := T) s) ?_) rfl)
    simp only [AllT]
    repeat' (first | exact trivial | assumption | exact rfl | apply And.intro)
    all_goals (first | assumption | (simp only [zA, zB, zC, zD, zE, zF, zG, zH, zI, zJ, zK, zL, zM, zN, zO, zP, zQ, zR, zS, zT, zU, zV, zW, zX, zY, zZ]; omega) | (simp only [zA, zB, zC, zD, zE, zF, zG, zH, zI, zJ, zK, zL, zM, zN, zO, zP, zQ, zR, zS, zT, zU, zV, zW, zX, zY, zZ] at *; omega))
def tpB_t (s : List Nat) : EV × Heap :=
  bif decide ((↑s.length : Int) ≥ (↑[48, 88].length : Int)) then
    bif (List.take 2 s == [48, 88]) then
      (.p (.str (List.drop 2 s)), [])
    else
      (.p (.str s), [])
  else
    (.p (.str s), [])

set_option maxHeartbeats 0 in
set_option maxRecDepth 20000 in
theorem tpB_rc (hT : TabOk Pd Gd T) (s : List Nat)  : RC Pd Gd 75 [.p (.str s), .p (.str [48, 88])] [] (tpB_t s).1 (tpB_t s).2 := by
  rcases Bool.eq_false_or_eq_true (decide ((↑s.length : Int) ≥ (↑[48, 88].length : Int))) with h1 | h1
  · have h1q := h1
    try simp only [zA, zB, zC, zD, zE, zF, zG, zH, zI, zJ, zK, zL, zM, zN, zO, zP, zQ, zR, zS, zT, zU, zV, zW, zX, zY, zZ] at h1q
    rcases Bool.eq_false_or_eq_true ((List.take 2 s == [48, 88])) with h2 | h2
    · have h2q := h2
      try simp only [zA, zB, zC, zD, zE, zF, zG, zH, zI, zJ, zK, zL, zM, zN, zO, zP, zQ, zR, zS, zT, zU, zV, zW, zX, zY, zZ] at h2q
      refine RC.tree (t := tpB_t s) (r := .p (.str (List.drop 2 s))) (K := []) ((cond_t h1).trans ((cond_t h2).trans (rfl))) (RC.retk (RC.of_runFn hT (tpB_p1 (T := T) s) ?_) rfl)
      simp only [AllT]
      repeat' (first | exact trivial | assumption | exact rfl | apply And.intro)
      all_goals (first | assumption | (simp only [zA, zB, zC, zD, zE, zF, zG, zH, zI, zJ, zK, zL, zM, zN, zO, zP, zQ, zR, zS, zT, zU, zV, zW, zX, zY, zZ]; omega) | (simp only [zA, zB, zC, zD, zE, zF, zG, zH, zI, zJ, zK, zL, zM, zN, zO, zP, zQ, zR, zS, zT, zU, zV, zW, zX, zY, zZ] at *; omega))
    · have h2q := h2
      try simp only [zA, zB, zC, zD, zE, zF, zG, zH, zI, zJ, zK, zL, zM, zN, zO, zP, zQ, zR, zS, zT, zU, zV, zW, zX, zY, zZ] at h2q
      refine RC.tree (t := tpB_t s) (r := .p (.str s)) (K := []) ((cond_t h1).trans ((cond_f h2).trans (rfl))) (RC.retk (RC.of_runFn hT (tpB_p2 (T := T) s) ?_) rfl)
      simp only [AllT]
      repeat' (first | exact trivial | assumption | exact rfl | apply And.intro)
      all_goals (first | assumption | (simp only [zA, zB, zC, zD, zE, zF, zG, zH, zI, zJ, zK, zL, zM, zN, zO, zP, zQ, zR, zS, zT, zU, zV, zW, zX, zY, zZ]; omega) | (simp only [zA, zB, zC, zD, zE, zF, zG, zH, zI, zJ, zK, zL, zM, zN, zO, zP, zQ, zR, zS, zT, zU, zV, zW, zX, zY, zZ] at *; omega))
  · have h1q := h1
    try simp only [zA, zB, zC, zD, zE, zF, zG, zH, zI, zJ, zK, zL, zM, zN, zO, zP, zQ, zR, zS, zT, zU, zV, zW, zX, zY, zZ] at h1q
    refine RC.tree (t := tpB_t s) (r := .p (.str s)) (K := []) ((cond_f h1).trans (rfl)) (RC.retk (RC.of_runFn hT (tpB_p3 (T := T) s) ?_) rfl)
    simp only [AllT]
    repeat' (first | exact trivial | assumption | exact rfl | apply And.intro)
    all_goals (first | assumption | (simp only [zA, zB, zC, zD, zE, zF, zG, zH, zI, zJ, zK, zL, zM, zN, zO, zP, zQ, zR, zS, zT, zU, zV, zW, zX, zY, zZ]; omega) | (simp only [zA, zB, zC, zD, zE, zF, zG, zH, zI, zJ, zK, zL, zM, zN, zO, zP, zQ, zR, zS, zT, zU, zV, zW, zX, zY, zZ] at *; omega))
def tl_t (s d : List Nat) : EV × Heap :=
  bif (s == []) then
    (.p (.str s), [])
  else
    (.p (.str d), [])

set_option maxHeartbeats 0 in
set_option maxRecDepth 20000 in
theorem tl_rc (hT : TabOk Pd Gd T) (s d : List Nat) (hm : RC Pd Gd 84 [.p (.str s), .p (.int .u8 48)] [] (.p (.str d)) []) : RC Pd Gd 74 [.p (.str s), .p (.str [48])] [] (tl_t s d).1 (tl_t s d).2 := by
  rcases Bool.eq_false_or_eq_true ((s == [])) with h1 | h1
  · have h1q := h1
    try simp only [zA, zB, zC, zD, zE, zF, zG, zH, zI, zJ, zK, zL, zM, zN, zO, zP, zQ, zR, zS, zT, zU, zV, zW, zX, zY, zZ] at h1q
    refine RC.tree (t := tl_t s d) (r := .p (.str s)) (K := []) ((cond_t h1).trans (rfl)) (RC.retk (RC.of_runFn hT (tl_p1 (T := T) s d) ?_) rfl)
    simp only [AllT]
    repeat' (first | exact trivial | assumption | exact rfl | apply And.intro)
    all_goals (first | assumption | (simp only [zA, zB, zC, zD, zE, zF, zG, zH, zI, zJ, zK, zL, zM, zN, zO, zP, zQ, zR, zS, zT, zU, zV, zW, zX, zY, zZ]; omega) | (simp only [zA, zB, zC, zD, zE, zF, zG, zH, zI, zJ, zK, zL, zM, zN, zO, zP, zQ, zR, zS, zT, zU, zV, zW, zX, zY, zZ] at *; omega))
  · have h1q := h1
    try simp only [zA, zB, zC, zD, zE, zF, zG, zH, zI, zJ, zK, zL, zM, zN, zO, zP, zQ, zR, zS, zT, zU, zV, zW, zX, zY, zZ] at h1q
    refine RC.tree (t := tl_t s d) (r := .p (.str d)) (K := []) ((cond_f h1).trans (rfl)) (RC.retk (RC.of_runFn hT (tl_p2 (T := T) s d) ?_) rfl)
    simp only [AllT]
    repeat' (first | exact trivial | assumption | exact rfl | apply And.intro)
    all_goals (first | assumption | (simp only [zA, zB, zC, zD, zE, zF, zG, zH, zI, zJ, zK, zL, zM, zN, zO, zP, zQ, zR, zS, zT, zU, zV, zW, zX, zY, zZ]; omega) | (simp only [zA, zB, zC, zD, zE, zF, zG, zH, zI, zJ, zK, zL, zM, zN, zO, zP, zQ, zR, zS, zT, zU, zV, zW, zX, zY, zZ] at *; omega))
def least_t (s a b d : List Nat) : EV × Heap :=
  bif decide ((↑s.length : Int) > 1) then
    bif ((↑(s.getD 1 0) : Int) == 120) then
      (.p (.bool (d == [56, 48, 48, 48, 48, 48, 48, 48, 48, 48, 48, 48, 48, 48, 48, 48])), [])
    else
      bif ((↑(s.getD 1 0) : Int) == 88) then
        (.p (.bool (d == [56, 48, 48, 48, 48, 48, 48, 48, 48, 48, 48, 48, 48, 48, 48, 48])), [])
      else
        bif ((↑(s.getD 0 0) : Int) == 48) then
          (.p (.bool (d == [49, 48, 48, 48, 48, 48, 48, 48, 48, 48, 48, 48, 48, 48, 48, 48, 48, 48, 48, 48, 48, 48])), [])
        else
          (.p (.bool (d == [57, 50, 50, 51, 51, 55, 50, 48, 51, 54, 56, 53, 52, 55, 55, 53, 56, 48, 56])), [])
  else
    bif ((↑(s.getD 0 0) : Int) == 48) then
      (.p (.bool (d == [49, 48, 48, 48, 48, 48, 48, 48, 48, 48, 48, 48, 48, 48, 48, 48, 48, 48, 48, 48, 48, 48])), [])
    else
      (.p (.bool (d == [57, 50, 50, 51, 51, 55, 50, 48, 51, 54, 56, 53, 52, 55, 55, 53, 56, 48, 56])), [])

set_option maxHeartbeats 0 in
set_option maxRecDepth 20000 in
theorem least_rc (hT : TabOk Pd Gd T) (s a b d : List Nat) (h0 : 0 < s.length) (ha : RC Pd Gd 75 [.p (.str s), .p (.str [48, 120])] [] (.p (.str a)) []) (hb : RC Pd Gd 75 [.p (.str a), .p (.str [48, 88])] [] (.p (.str b)) []) (hd : RC Pd Gd 74 [.p (.str b), .p (.str [48])] [] (.p (.str d)) []) : RC Pd Gd 60 [.p (.str s)] [] (least_t s a b d).1 (least_t s a b d).2 := by
  rcases Bool.eq_false_or_eq_true (decide ((↑s.length : Int) > 1)) with h1 | h1
  · have h1q := h1
    try simp only [zA, zB, zC, zD, zE, zF, zG, zH, zI, zJ, zK, zL, zM, zN, zO, zP, zQ, zR, zS, zT, zU, zV, zW, zX, zY, zZ] at h1q
    rcases Bool.eq_false_or_eq_true (((↑(s.getD 1 0) : Int) == 120)) with h2 | h2
    · have h2q := h2
      try simp only [zA, zB, zC, zD, zE, zF, zG, zH, zI, zJ, zK, zL, zM, zN, zO, zP, zQ, zR, zS, zT, zU, zV, zW, zX, zY, zZ] at h2q
      refine RC.tree (t := least_t s a b d) (r := .p (.bool (d == [56, 48, 48, 48, 48, 48, 48, 48, 48, 48, 48, 48, 48, 48, 48, 48]))) (K := []) ((cond_t h1).trans ((cond_t h2).trans (rfl))) (RC.retk (RC.of_runFn hT (least_p1 (T := T) s a b d) ?_) rfl)
      simp only [AllT]
      repeat' (first | exact trivial | assumption | exact rfl | apply And.intro)
      all_goals (first | assumption | (simp only [zA, zB, zC, zD, zE, zF, zG, zH, zI, zJ, zK, zL, zM, zN, zO, zP, zQ, zR, zS, zT, zU, zV, zW, zX, zY, zZ]; omega) | (simp only [zA, zB, zC, zD, zE, zF, zG, zH, zI, zJ, zK, zL, zM, zN, zO, zP, zQ, zR, zS, zT, zU, zV, zW, zX, zY, zZ] at *; omega))
    · have h2q := h2
      try simp only [zA, zB, zC, zD, zE, zF, zG, zH, zI, zJ, zK, zL, zM, zN, zO, zP, zQ, zR, zS, zT, zU, zV, zW, zX, zY, zZ] at h2q
      rcases Bool.eq_false_or_eq_true (((↑(s.getD 1 0) : Int) == 88)) with h3 | h3
      · have h3q := h3
        try simp only [zA, zB, zC, zD, zE, zF, zG, zH, zI, zJ, zK, zL, zM, zN, zO, zP, zQ, zR, zS, zT, zU, zV, zW, zX, zY, zZ] at h3q
        refine RC.tree (t := least_t s a b d) (r := .p (.bool (d == [56, 48, 48, 48, 48, 48, 48, 48, 48, 48, 48, 48, 48, 48, 48, 48]))) (K := []) ((cond_t h1).trans ((cond_f h2).trans ((cond_t h3).trans (rfl)))) (RC.retk (RC.of_runFn hT (least_p2 (T := T) s a b d) ?_) rfl)
        simp only [AllT]
        repeat' (first | exact trivial | assumption | exact rfl | apply And.intro)
        all_goals (first | assumption | (simp only [zA, zB, zC, zD, zE, zF, zG, zH, zI, zJ, zK, zL, zM, zN, zO, zP, zQ, zR, zS, zT, zU, zV, zW, zX, zY, zZ]; omega) | (simp only [zA, zB, zC, zD, zE, zF, zG, zH, zI, zJ, zK, zL, zM, zN, zO, zP, zQ, zR, zS, zT, zU, zV, zW, zX, zY, zZ] at *; omega))
      · have h3q := h3
        try simp only [zA, zB, zC, zD, zE, zF, zG, zH, zI, zJ, zK, zL, zM, zN, zO, zP, zQ, zR, zS, zT, zU, zV, zW, zX, zY, zZ] at h3q
        rcases Bool.eq_false_or_eq_true (((↑(s.getD 0 0) : Int) == 48)) with h4 | h4
        · have h4q := h4
          try simp only [zA, zB, zC, zD, zE, zF, zG, zH, zI, zJ, zK, zL, zM, zN, zO, zP, zQ, zR, zS, zT, zU, zV, zW, zX, zY, zZ] at h4q
          refine RC.tree (t := least_t s a b d) (r := .p (.bool (d == [49, 48, 48, 48, 48, 48, 48, 48, 48, 48, 48, 48, 48, 48, 48, 48, 48, 48, 48, 48, 48, 48]))) (K := []) ((cond_t h1).trans ((cond_f h2).trans ((cond_f h3).trans ((cond_t h4).trans (rfl))))) (RC.retk (RC.of_runFn hT (least_p3 (T := T) s a b d) ?_) rfl)
          simp only [AllT]
          repeat' (first | exact trivial | assumption | exact rfl | apply And.intro)
          all_goals (first | assumption | (simp only [zA, zB, zC, zD, zE, zF, zG, zH, zI, zJ, zK, zL, zM, zN, zO, zP, zQ, zR, zS, zT, zU, zV, zW, zX, zY, zZ]; omega) | (simp only [zA, zB, zC, zD, zE, zF, zG, zH, zI, zJ, zK, zL, zM, zN, zO, zP, zQ, zR, zS, zT, zU, zV, zW, zX, zY, zZ] at *; omega))
        · have h4q := h4
          try simp only [zA, zB, zC, zD, zE, zF, zG, zH, zI, zJ, zK, zL, zM, zN, zO, zP, zQ, zR, zS, zT, zU, zV, zW, zX, zY, zZ] at h4q
          refine RC.tree (t := least_t s a b d) (r := .p (.bool (d == [57, 50, 50, 51, 51, 55, 50, 48, 51, 54, 56, 53, 52, 55, 55, 53, 56, 48, 56]))) (K := []) ((cond_t h1).trans ((cond_f h2).trans ((cond_f h3).trans ((cond_f h4).trans (rfl))))) (RC.retk (RC.of_runFn hT (least_p4 (T := T) s a b d) ?_) rfl)
          simp only [AllT]
          repeat' (first | exact trivial | assumption | exact rfl | apply And.intro)
          all_goals (first | assumption | (simp only [zA, zB, zC, zD, zE, zF, zG, zH, zI, zJ, zK, zL, zM, zN, zO, zP, zQ, zR, zS, zT, zU, zV, zW, zX, zY, zZ]; omega) | (simp only [zA, zB, zC, zD, zE, zF, zG, zH, zI, zJ, zK, zL, zM, zN, zO, zP, zQ, zR, zS, zT, zU, zV, zW, zX, zY, zZ] at *; omega))
  · have h1q := h1
    try simp only [zA, zB, zC, zD, zE, zF, zG, zH, zI, zJ, zK, zL, zM, zN, zO, zP, zQ, zR, zS, zT, zU, zV, zW, zX, zY, zZ] at h1q
    rcases Bool.eq_false_or_eq_true (((↑(s.getD 0 0) : Int) == 48)) with h2 | h2
    · have h2q := h2
      try simp only [zA, zB, zC, zD, zE, zF, zG, zH, zI, zJ, zK, zL, zM, zN, zO, zP, zQ, zR, zS, zT, zU, zV, zW, zX, zY, zZ] at h2q
      refine RC.tree (t := least_t s a b d) (r := .p (.bool (d == [49, 48, 48, 48, 48, 48, 48, 48, 48, 48, 48, 48, 48, 48, 48, 48, 48, 48, 48, 48, 48, 48]))) (K := []) ((cond_f h1).trans ((cond_t h2).trans (rfl))) (RC.retk (RC.of_runFn hT (least_p5 (T := T) s a b d) ?_) rfl)
      simp only [AllT]
      repeat' (first | exact trivial | assumption | exact rfl | apply And.intro)
      all_goals (first | assumption | (simp only [zA, zB, zC, zD, zE, zF, zG, zH, zI, zJ, zK, zL, zM, zN, zO, zP, zQ, zR, zS, zT, zU, zV, zW, zX, zY, zZ]; omega) | (simp only [zA, zB, zC, zD, zE, zF, zG, zH, zI, zJ, zK, zL, zM, zN, zO, zP, zQ, zR, zS, zT, zU, zV, zW, zX, zY, zZ] at *; omega))
    · have h2q := h2
      try simp only [zA, zB, zC, zD, zE, zF, zG, zH, zI, zJ, zK, zL, zM, zN, zO, zP, zQ, zR, zS, zT, zU, zV, zW, zX, zY, zZ] at h2q
      refine RC.tree (t := least_t s a b d) (r := .p (.bool (d == [57, 50, 50, 51, 51, 55, 50, 48, 51, 54, 56, 53, 52, 55, 55, 53, 56, 48, 56]))) (K := []) ((cond_f h1).trans ((cond_f h2).trans (rfl))) (RC.retk (RC.of_runFn hT (least_p6 (T := T) s a b d) ?_) rfl)
      simp only [AllT]
      repeat' (first | exact trivial | assumption | exact rfl | apply And.intro)
      all_goals (first | assumption | (simp only [zA, zB, zC, zD, zE, zF, zG, zH, zI, zJ, zK, zL, zM, zN, zO, zP, zQ, zR, zS, zT, zU, zV, zW, zX, zY, zZ]; omega) | (simp only [zA, zB, zC, zD, zE, zF, zG, zH, zI, zJ, zK, zL, zM, zN, zO, zP, zQ, zR, zS, zT, zU, zV, zW, zX, zY, zZ] at *; omega))
def intg_t (s : List Nat) (n e : Int) (ls : Bool) : EV × Heap :=
  bif (s == []) then
    (.tup [.p (.int .i64 0), .p (.bool true)], [])
  else
    bif ((↑(s.getD 0 0) : Int) == 45) then
      bif (e == 0) then
        (.tup [.p (.int .i64 (0 - n)), .p (.bool true)], [])
      else
        bif (e == 14) then
          bif ls then
            (.tup [.p (.int .i64 (-9223372036854775808)), .p (.bool true)], [])
          else
            (.tup [.p (.int .i64 0), .p (.bool false)], [])
        else
          (.tup [.p (.int .i64 0), .p (.bool false)], [])
    else
      bif ((↑(s.getD 0 0) : Int) == 43) then
        bif (e == 0) then
          (.tup [.p (.int .i64 n), .p (.bool true)], [])
        else
          bif (e == 14) then
            (.tup [.p (.int .i64 0), .p (.bool false)], [])
          else
            (.tup [.p (.int .i64 0), .p (.bool false)], [])
      else
        bif (e == 0) then
          (.tup [.p (.int .i64 n), .p (.bool true)], [])
        else
          bif (e == 14) then
            (.tup [.p (.int .i64 0), .p (.bool false)], [])
          else
            (.tup [.p (.int .i64 0), .p (.bool false)], [])

set_option maxHeartbeats 0 in
set_option maxRecDepth 20000 in
theorem intg_rc (hT : TabOk Pd Gd T) (s : List Nat) (n e : Int) (ls : Bool) (hn : 0 ≤ n ∧ n ≤ 9223372036854775807) (ha : 0 < s.length → RC Pd Gd 59 [.p (.str (intB s))] [] (.tup [.p (.int .i64 n), .p (.int .i64 e)]) []) (hb : 0 < s.length → e = 14 → RC Pd Gd 60 [.p (.str (intB s))] [] (.p (.bool ls)) []) : RC Pd Gd 49 [.p (.str s)] [] (intg_t s n e ls).1 (intg_t s n e ls).2 := by
  rcases Bool.eq_false_or_eq_true ((s == [])) with h1 | h1
  · have h1q := h1
    try simp only [zA, zB, zC, zD, zE, zF, zG, zH, zI, zJ, zK, zL, zM, zN, zO, zP, zQ, zR, zS, zT, zU, zV, zW, zX, zY, zZ] at h1q
    refine RC.tree (t := intg_t s n e ls) (r := .tup [.p (.int .i64 0), .p (.bool true)]) (K := []) ((cond_t h1).trans (rfl)) (RC.retk (RC.of_runFn hT (intg_p1 (T := T) s n e ls) ?_) rfl)
    simp only [AllT]
    repeat' (first | exact trivial | assumption | exact rfl | apply And.intro)
    all_goals (first | assumption | (rw [intB_1 (by omega)] at ha; exact ha (by omega)) | (rw [intB_1 (by omega)] at hb; exact hb (by omega) (by omega)) | (rw [intB_0 (by omega)] at ha; exact ha (by omega)) | (rw [intB_0 (by omega)] at hb; exact hb (by omega) (by omega)) | (simp only [zA, zB, zC, zD, zE, zF, zG, zH, zI, zJ, zK, zL, zM, zN, zO, zP, zQ, zR, zS, zT, zU, zV, zW, zX, zY, zZ]; omega) | (simp only [zA, zB, zC, zD, zE, zF, zG, zH, zI, zJ, zK, zL, zM, zN, zO, zP, zQ, zR, zS, zT, zU, zV, zW, zX, zY, zZ] at *; omega))
  · have h1q := h1
    try simp only [zA, zB, zC, zD, zE, zF, zG, zH, zI, zJ, zK, zL, zM, zN, zO, zP, zQ, zR, zS, zT, zU, zV, zW, zX, zY, zZ] at h1q
    rcases Bool.eq_false_or_eq_true (((↑(s.getD 0 0) : Int) == 45)) with h2 | h2
    · have h2q := h2
      try simp only [zA, zB, zC, zD, zE, zF, zG, zH, zI, zJ, zK, zL, zM, zN, zO, zP, zQ, zR, zS, zT, zU, zV, zW, zX, zY, zZ] at h2q
      rcases Bool.eq_false_or_eq_true ((e == 0)) with h3 | h3
      · have h3q := h3
        try simp only [zA, zB, zC, zD, zE, zF, zG, zH, zI, zJ, zK, zL, zM, zN, zO, zP, zQ, zR, zS, zT, zU, zV, zW, zX, zY, zZ] at h3q
        refine RC.tree (t := intg_t s n e ls) (r := .tup [.p (.int .i64 (0 - n)), .p (.bool true)]) (K := []) ((cond_f h1).trans ((cond_t h2).trans ((cond_t h3).trans (rfl)))) (RC.retk (RC.of_runFn hT (intg_p2 (T := T) s n e ls) ?_) rfl)
        simp only [AllT]
        repeat' (first | exact trivial | assumption | exact rfl | apply And.intro)
        all_goals (first | assumption | (rw [intB_1 (by omega)] at ha; exact ha (by omega)) | (rw [intB_1 (by omega)] at hb; exact hb (by omega) (by omega)) | (rw [intB_0 (by omega)] at ha; exact ha (by omega)) | (rw [intB_0 (by omega)] at hb; exact hb (by omega) (by omega)) | (simp only [zA, zB, zC, zD, zE, zF, zG, zH, zI, zJ, zK, zL, zM, zN, zO, zP, zQ, zR, zS, zT, zU, zV, zW, zX, zY, zZ]; omega) | (simp only [zA, zB, zC, zD, zE, zF, zG, zH, zI, zJ, zK, zL, zM, zN, zO, zP, zQ, zR, zS, zT, zU, zV, zW, zX, zY, zZ] at *; omega))
      · have h3q := h3
        try simp only [zA, zB, zC, zD, zE, zF, zG, zH, zI, zJ, zK, zL, zM, zN, zO, zP, zQ, zR, zS, zT, zU, zV, zW, zX, zY, zZ] at h3q
        rcases Bool.eq_false_or_eq_true ((e == 14)) with h4 | h4
        · have h4q := h4
          try simp only [zA, zB, zC, zD, zE, zF, zG, zH, zI, zJ, zK, zL, zM, zN, zO, zP, zQ, zR, zS, zT, zU, zV, zW, zX, zY, zZ] at h4q
          rcases Bool.eq_false_or_eq_true (ls) with h5 | h5
          · have h5q := h5
            try simp only [zA, zB, zC, zD, zE, zF, zG, zH, zI, zJ, zK, zL, zM, zN, zO, zP, zQ, zR, zS, zT, zU, zV, zW, zX, zY, zZ] at h5q
            refine RC.tree (t := intg_t s n e ls) (r := .tup [.p (.int .i64 (-9223372036854775808)), .p (.bool true)]) (K := []) ((cond_f h1).trans ((cond_t h2).trans ((cond_f h3).trans ((cond_t h4).trans ((cond_t h5).trans (rfl)))))) (RC.retk (RC.of_runFn hT (intg_p9 (T := T) s n e ls) ?_) rfl)
            simp only [AllT]
            repeat' (first | exact trivial | assumption | exact rfl | apply And.intro)
            all_goals (first | assumption | (rw [intB_1 (by omega)] at ha; exact ha (by omega)) | (rw [intB_1 (by omega)] at hb; exact hb (by omega) (by omega)) | (rw [intB_0 (by omega)] at ha; exact ha (by omega)) | (rw [intB_0 (by omega)] at hb; exact hb (by omega) (by omega)) | (simp only [zA, zB, zC, zD, zE, zF, zG, zH, zI, zJ, zK, zL, zM, zN, zO, zP, zQ, zR, zS, zT, zU, zV, zW, zX, zY, zZ]; omega) | (simp only [zA, zB, zC, zD, zE, zF, zG, zH, zI, zJ, zK, zL, zM, zN, zO, zP, zQ, zR, zS, zT, zU, zV, zW, zX, zY, zZ] at *; omega))
          · have h5q := h5
            try simp only [zA, zB, zC, zD, zE, zF, zG, zH, zI, zJ, zK, zL, zM, zN, zO, zP, zQ, zR, zS, zT, zU, zV, zW, zX, zY, zZ] at h5q
            refine RC.tree (t := intg_t s n e ls) (r := .tup [.p (.int .i64 0), .p (.bool false)]) (K := []) ((cond_f h1).trans ((cond_t h2).trans ((cond_f h3).trans ((cond_t h4).trans ((cond_f h5).trans (rfl)))))) (RC.retk (RC.of_runFn hT (intg_p10 (T := T) s n e ls) ?_) rfl)
            simp only [AllT]
            repeat' (first | exact trivial | assumption | exact rfl | apply And.intro)
            all_goals (first | assumption | (rw [intB_1 (by omega)] at ha; exact ha (by omega)) | (rw [intB_1 (by omega)] at hb; exact hb (by omega) (by omega)) | (rw [intB_0 (by omega)] at ha; exact ha (by omega)) | (rw [intB_0 (by omega)] at hb; exact hb (by omega) (by omega)) | (simp only [zA, zB, zC, zD, zE, zF, zG, zH, zI, zJ, zK, zL, zM, zN, zO, zP, zQ, zR, zS, zT, zU, zV, zW, zX, zY, zZ]; omega) | (simp only [zA, zB, zC, zD, zE, zF, zG, zH, zI, zJ, zK, zL, zM, zN, zO, zP, zQ, zR, zS, zT, zU, zV, zW, zX, zY, zZ] at *; omega))
        · have h4q := h4
          try simp only [zA, zB, zC, zD, zE, zF, zG, zH, zI, zJ, zK, zL, zM, zN, zO, zP, zQ, zR, zS, zT, zU, zV, zW, zX, zY, zZ] at h4q
          refine RC.tree (t := intg_t s n e ls) (r := .tup [.p (.int .i64 0), .p (.bool false)]) (K := []) ((cond_f h1).trans ((cond_t h2).trans ((cond_f h3).trans ((cond_f h4).trans (rfl))))) (RC.retk (RC.of_runFn hT (intg_p12 (T := T) s n e ls) ?_) rfl)
          simp only [AllT]
          repeat' (first | exact trivial | assumption | exact rfl | apply And.intro)
          all_goals (first | assumption | (rw [intB_1 (by omega)] at ha; exact ha (by omega)) | (rw [intB_1 (by omega)] at hb; exact hb (by omega) (by omega)) | (rw [intB_0 (by omega)] at ha; exact ha (by omega)) | (rw [intB_0 (by omega)] at hb; exact hb (by omega) (by omega)) | (simp only [zA, zB, zC, zD, zE, zF, zG, zH, zI, zJ, zK, zL, zM, zN, zO, zP, zQ, zR, zS, zT, zU, zV, zW, zX, zY, zZ]; omega) | (simp only [zA, zB, zC, zD, zE, zF, zG, zH, zI, zJ, zK, zL, zM, zN, zO, zP, zQ, zR, zS, zT, zU, zV, zW, zX, zY, zZ] at *; omega))
    · have h2q := h2
      try simp only [zA, zB, zC, zD, zE, zF, zG, zH, zI, zJ, zK, zL, zM, zN, zO, zP, zQ, zR, zS, zT, zU, zV, zW, zX, zY, zZ] at h2q
      rcases Bool.eq_false_or_eq_true (((↑(s.getD 0 0) : Int) == 43)) with h3 | h3
      · have h3q := h3
        try simp only [zA, zB, zC, zD, zE, zF, zG, zH, zI, zJ, zK, zL, zM, zN, zO, zP, zQ, zR, zS, zT, zU, zV, zW, zX, zY, zZ] at h3q
        rcases Bool.eq_false_or_eq_true ((e == 0)) with h4 | h4
        · have h4q := h4
          try simp only [zA, zB, zC, zD, zE, zF, zG, zH, zI, zJ, zK, zL, zM, zN, zO, zP, zQ, zR, zS, zT, zU, zV, zW, zX, zY, zZ] at h4q
          refine RC.tree (t := intg_t s n e ls) (r := .tup [.p (.int .i64 n), .p (.bool true)]) (K := []) ((cond_f h1).trans ((cond_f h2).trans ((cond_t h3).trans ((cond_t h4).trans (rfl))))) (RC.retk (RC.of_runFn hT (intg_p14 (T := T) s n e ls) ?_) rfl)
          simp only [AllT]
          repeat' (first | exact trivial | assumption | exact rfl | apply And.intro)
          all_goals (first | assumption | (rw [intB_1 (by omega)] at ha; exact ha (by omega)) | (rw [intB_1 (by omega)] at hb; exact hb (by omega) (by omega)) | (rw [intB_0 (by omega)] at ha; exact ha (by omega)) | (rw [intB_0 (by omega)] at hb; exact hb (by omega) (by omega)) | (simp only [zA, zB, zC, zD, zE, zF, zG, zH, zI, zJ, zK, zL, zM, zN, zO, zP, zQ, zR, zS, zT, zU, zV, zW, zX, zY, zZ]; omega) | (simp only [zA, zB, zC, zD, zE, zF, zG, zH, zI, zJ, zK, zL, zM, zN, zO, zP, zQ, zR, zS, zT, zU, zV, zW, zX, zY, zZ] at *; omega))
        · have h4q := h4
          try simp only [zA, zB, zC, zD, zE, zF, zG, zH, zI, zJ, zK, zL, zM, zN, zO, zP, zQ, zR, zS, zT, zU, zV, zW, zX, zY, zZ] at h4q
          rcases Bool.eq_false_or_eq_true ((e == 14)) with h5 | h5
          · have h5q := h5
            try simp only [zA, zB, zC, zD, zE, zF, zG, zH, zI, zJ, zK, zL, zM, zN, zO, zP, zQ, zR, zS, zT, zU, zV, zW, zX, zY, zZ] at h5q
            refine RC.tree (t := intg_t s n e ls) (r := .tup [.p (.int .i64 0), .p (.bool false)]) (K := []) ((cond_f h1).trans ((cond_f h2).trans ((cond_t h3).trans ((cond_f h4).trans ((cond_t h5).trans (rfl)))))) (RC.retk (RC.of_runFn hT (intg_p22 (T := T) s n e ls) ?_) rfl)
            simp only [AllT]
            repeat' (first | exact trivial | assumption | exact rfl | apply And.intro)
            all_goals (first | assumption | (rw [intB_1 (by omega)] at ha; exact ha (by omega)) | (rw [intB_1 (by omega)] at hb; exact hb (by omega) (by omega)) | (rw [intB_0 (by omega)] at ha; exact ha (by omega)) | (rw [intB_0 (by omega)] at hb; exact hb (by omega) (by omega)) | (simp only [zA, zB, zC, zD, zE, zF, zG, zH, zI, zJ, zK, zL, zM, zN, zO, zP, zQ, zR, zS, zT, zU, zV, zW, zX, zY, zZ]; omega) | (simp only [zA, zB, zC, zD, zE, zF, zG, zH, zI, zJ, zK, zL, zM, zN, zO, zP, zQ, zR, zS, zT, zU, zV, zW, zX, zY, zZ] at *; omega))
          · have h5q := h5
            try simp only [zA, zB, zC, zD, zE, zF, zG, zH, zI, zJ, zK, zL, zM, zN, zO, zP, zQ, zR, zS, zT, zU, zV, zW, zX, zY, zZ] at h5q
            refine RC.tree (t := intg_t s n e ls) (r := .tup [.p (.int .i64 0), .p (.bool false)]) (K := []) ((cond_f h1).trans ((cond_f h2).trans ((cond_t h3).trans ((cond_f h4).trans ((cond_f h5).trans (rfl)))))) (RC.retk (RC.of_runFn hT (intg_p23 (T := T) s n e ls) ?_) rfl)
            simp only [AllT]
            repeat' (first | exact trivial | assumption | exact rfl | apply And.intro)
            all_goals (first | assumption | (rw [intB_1 (by omega)] at ha; exact ha (by omega)) | (rw [intB_1 (by omega)] at hb; exact hb (by omega) (by omega)) | (rw [intB_0 (by omega)] at ha; exact ha (by omega)) | (rw [intB_0 (by omega)] at hb; exact hb (by omega) (by omega)) | (simp only [zA, zB, zC, zD, zE, zF, zG, zH, zI, zJ, zK, zL, zM, zN, zO, zP, zQ, zR, zS, zT, zU, zV, zW, zX, zY, zZ]; omega) | (simp only [zA, zB, zC, zD, zE, zF, zG, zH, zI, zJ, zK, zL, zM, zN, zO, zP, zQ, zR, zS, zT, zU, zV, zW, zX, zY, zZ] at *; omega))
      · have h3q := h3
        try simp only [zA, zB, zC, zD, zE, zF, zG, zH, zI, zJ, zK, zL, zM, zN, zO, zP, zQ, zR, zS, zT, zU, zV, zW, zX, zY, zZ] at h3q
        rcases Bool.eq_false_or_eq_true ((e == 0)) with h4 | h4
        · have h4q := h4
          try simp only [zA, zB, zC, zD, zE, zF, zG, zH, zI, zJ, zK, zL, zM, zN, zO, zP, zQ, zR, zS, zT, zU, zV, zW, zX, zY, zZ] at h4q
          refine RC.tree (t := intg_t s n e ls) (r := .tup [.p (.int .i64 n), .p (.bool true)]) (K := []) ((cond_f h1).trans ((cond_f h2).trans ((cond_f h3).trans ((cond_t h4).trans (rfl))))) (RC.retk (RC.of_runFn hT (intg_p25 (T := T) s n e ls) ?_) rfl)
          simp only [AllT]
          repeat' (first | exact trivial | assumption | exact rfl | apply And.intro)
          all_goals (first | assumption | (rw [intB_1 (by omega)] at ha; exact ha (by omega)) | (rw [intB_1 (by omega)] at hb; exact hb (by omega) (by omega)) | (rw [intB_0 (by omega)] at ha; exact ha (by omega)) | (rw [intB_0 (by omega)] at hb; exact hb (by omega) (by omega)) | (simp only [zA, zB, zC, zD, zE, zF, zG, zH, zI, zJ, zK, zL, zM, zN, zO, zP, zQ, zR, zS, zT, zU, zV, zW, zX, zY, zZ]; omega) | (simp only [zA, zB, zC, zD, zE, zF, zG, zH, zI, zJ, zK, zL, zM, zN, zO, zP, zQ, zR, zS, zT, zU, zV, zW, zX, zY, zZ] at *; omega))
        · have h4q := h4
          try simp only [zA, zB, zC, zD, zE, zF, zG, zH, zI, zJ, zK, zL, zM, zN, zO, zP, zQ, zR, zS, zT, zU, zV, zW, zX, zY, zZ] at h4q
          rcases Bool.eq_false_or_eq_true ((e == 14)) with h5 | h5
          · have h5q := h5
            try simp only [zA, zB, zC, zD, zE, zF, zG, zH, zI, zJ, zK, zL, zM, zN, zO, zP, zQ, zR, zS, zT, zU, zV, zW, zX, zY, zZ] at h5q
            refine RC.tree (t := intg_t s n e ls) (r := .tup [.p (.int .i64 0), .p (.bool false)]) (K := []) ((cond_f h1).trans ((cond_f h2).trans ((cond_f h3).trans ((cond_f h4).trans ((cond_t h5).trans (rfl)))))) (RC.retk (RC.of_runFn hT (intg_p33 (T := T) s n e ls) ?_) rfl)
            simp only [AllT]
            repeat' (first | exact trivial | assumption | exact rfl | apply And.intro)
            all_goals (first | assumption | (rw [intB_1 (by omega)] at ha; exact ha (by omega)) | (rw [intB_1 (by omega)] at hb; exact hb (by omega) (by omega)) | (rw [intB_0 (by omega)] at ha; exact ha (by omega)) | (rw [intB_0 (by omega)] at hb; exact hb (by omega) (by omega)) | (simp only [zA, zB, zC, zD, zE, zF, zG, zH, zI, zJ, zK, zL, zM, zN, zO, zP, zQ, zR, zS, zT, zU, zV, zW, zX, zY, zZ]; omega) | (simp only [zA, zB, zC, zD, zE, zF, zG, zH, zI, zJ, zK, zL, zM, zN, zO, zP, zQ, zR, zS, zT, zU, zV, zW, zX, zY, zZ] at *; omega))
          · have h5q := h5
            try simp only [zA, zB, zC, zD, zE, zF, zG, zH, zI, zJ, zK, zL, zM, zN, zO, zP, zQ, zR, zS, zT, zU, zV, zW, zX, zY, zZ] at h5q
            refine RC.tree (t := intg_t s n e ls) (r := .tup [.p (.int .i64 0), .p (.bool false)]) (K := []) ((cond_f h1).trans ((cond_f h2).trans ((cond_f h3).trans ((cond_f h4).trans ((cond_f h5).trans (rfl)))))) (RC.retk (RC.of_runFn hT (intg_p34 (T := T) s n e ls) ?_) rfl)
            simp only [AllT]
            repeat' (first | exact trivial | assumption | exact rfl | apply And.intro)
            all_goals (first | assumption | (rw [intB_1 (by omega)] at ha; exact ha (by omega)) | (rw [intB_1 (by omega)] at hb; exact hb (by omega) (by omega)) | (rw [intB_0 (by omega)] at ha; exact ha (by omega)) | (rw [intB_0 (by omega)] at hb; exact hb (by omega) (by omega)) | (simp only [zA, zB, zC, zD, zE, zF, zG, zH, zI, zJ, zK, zL, zM, zN, zO, zP, zQ, zR, zS, zT, zU, zV, zW, zX, zY, zZ]; omega) | (simp only [zA, zB, zC, zD, zE, zF, zG, zH, zI, zJ, zK, zL, zM, zN, zO, zP, zQ, zR, zS, zT, zU, zV, zW, zX, zY, zZ] at *; omega))
set_option maxHeartbeats 0 in
set_option maxRecDepth 20000 in
theorem num_eq (s : List Nat) (n : Nat) (e : Int)  : num_t s n e = (.tup [.p (.int .i64 (numNf n e : Nat)), .p (.int .i64 (numEf n e))], []) := by
  rcases Bool.eq_false_or_eq_true ((e == 0)) with h1 | h1
  · have h1q := h1
    try simp only [zA, zB, zC, zD, zE, zF, zG, zH, zI, zJ, zK, zL, zM, zN, zO, zP, zQ, zR, zS, zT, zU, zV, zW, zX, zY, zZ] at h1q
    rcases Bool.eq_false_or_eq_true (decide ((↑n : Int) > 9223372036854775807)) with h2 | h2
    · have h2q := h2
      try simp only [zA, zB, zC, zD, zE, zF, zG, zH, zI, zJ, zK, zL, zM, zN, zO, zP, zQ, zR, zS, zT, zU, zV, zW, zX, zY, zZ] at h2q
      refine Eq.trans (show num_t s n e = (.tup [.p (.int .i64 0), .p (.int .i64 14)], []) from (cond_t h1).trans ((cond_t h2).trans (rfl))) ?_
      try unfold numNf numEf
      repeat' split
      all_goals (first | (have he : e = 0 := by assumption; subst he; rfl) | rfl | (exfalso; omega) | (simp only [zA, zB, zC, zD, zE, zF, zG, zH, zI, zJ, zK, zL, zM, zN, zO, zP, zQ, zR, zS, zT, zU, zV, zW, zX, zY, zZ] at *; omega) | (exfalso; simp_all; done) | (exfalso; simp_all; omega) | (simp_all; done) | contradiction)
    · have h2q := h2
      try simp only [zA, zB, zC, zD, zE, zF, zG, zH, zI, zJ, zK, zL, zM, zN, zO, zP, zQ, zR, zS, zT, zU, zV, zW, zX, zY, zZ] at h2q
      rcases Bool.eq_false_or_eq_true ((e != 0)) with h3 | h3
      · have h3q := h3
        try simp only [zA, zB, zC, zD, zE, zF, zG, zH, zI, zJ, zK, zL, zM, zN, zO, zP, zQ, zR, zS, zT, zU, zV, zW, zX, zY, zZ] at h3q
        refine Eq.trans (show num_t s n e = (.tup [.p (.int .i64 0), .p (.int .i64 e)], []) from (cond_t h1).trans ((cond_f h2).trans ((cond_t h3).trans (rfl)))) ?_
        try unfold numNf numEf
        repeat' split
        all_goals (first | (have he : e = 0 := by assumption; subst he; rfl) | rfl | (exfalso; omega) | (simp only [zA, zB, zC, zD, zE, zF, zG, zH, zI, zJ, zK, zL, zM, zN, zO, zP, zQ, zR, zS, zT, zU, zV, zW, zX, zY, zZ] at *; omega) | (exfalso; simp_all; done) | (exfalso; simp_all; omega) | (simp_all; done) | contradiction)
      · have h3q := h3
        try simp only [zA, zB, zC, zD, zE, zF, zG, zH, zI, zJ, zK, zL, zM, zN, zO, zP, zQ, zR, zS, zT, zU, zV, zW, zX, zY, zZ] at h3q
        refine Eq.trans (show num_t s n e = (.tup [.p (.int .i64 (↑n : Int)), .p (.int .i64 0)], []) from (cond_t h1).trans ((cond_f h2).trans ((cond_f h3).trans (rfl)))) ?_
        try unfold numNf numEf
        repeat' split
        all_goals (first | (have he : e = 0 := by assumption; subst he; rfl) | rfl | (exfalso; omega) | (simp only [zA, zB, zC, zD, zE, zF, zG, zH, zI, zJ, zK, zL, zM, zN, zO, zP, zQ, zR, zS, zT, zU, zV, zW, zX, zY, zZ] at *; omega) | (exfalso; simp_all; done) | (exfalso; simp_all; omega) | (simp_all; done) | contradiction)
  · have h1q := h1
    try simp only [zA, zB, zC, zD, zE, zF, zG, zH, zI, zJ, zK, zL, zM, zN, zO, zP, zQ, zR, zS, zT, zU, zV, zW, zX, zY, zZ] at h1q
    rcases Bool.eq_false_or_eq_true ((e != 0)) with h2 | h2
    · have h2q := h2
      try simp only [zA, zB, zC, zD, zE, zF, zG, zH, zI, zJ, zK, zL, zM, zN, zO, zP, zQ, zR, zS, zT, zU, zV, zW, zX, zY, zZ] at h2q
      refine Eq.trans (show num_t s n e = (.tup [.p (.int .i64 0), .p (.int .i64 e)], []) from (cond_f h1).trans ((cond_t h2).trans (rfl))) ?_
      try unfold numNf numEf
      repeat' split
      all_goals (first | (have he : e = 0 := by assumption; subst he; rfl) | rfl | (exfalso; omega) | (simp only [zA, zB, zC, zD, zE, zF, zG, zH, zI, zJ, zK, zL, zM, zN, zO, zP, zQ, zR, zS, zT, zU, zV, zW, zX, zY, zZ] at *; omega) | (exfalso; simp_all; done) | (exfalso; simp_all; omega) | (simp_all; done) | contradiction)
    · have h2q := h2
      try simp only [zA, zB, zC, zD, zE, zF, zG, zH, zI, zJ, zK, zL, zM, zN, zO, zP, zQ, zR, zS, zT, zU, zV, zW, zX, zY, zZ] at h2q
      refine Eq.trans (show num_t s n e = (.tup [.p (.int .i64 (↑n : Int)), .p (.int .i64 0)], []) from (cond_f h1).trans ((cond_f h2).trans (rfl))) ?_
      try unfold numNf numEf
      repeat' split
      all_goals (first | (have he : e = 0 := by assumption; subst he; rfl) | rfl | (exfalso; omega) | (simp only [zA, zB, zC, zD, zE, zF, zG, zH, zI, zJ, zK, zL, zM, zN, zO, zP, zQ, zR, zS, zT, zU, zV, zW, zX, zY, zZ] at *; omega) | (exfalso; simp_all; done) | (exfalso; simp_all; omega) | (simp_all; done) | contradiction)
set_option maxHeartbeats 0 in
set_option maxRecDepth 20000 in
theorem tpA_eq (s : List Nat)  : tpA_t s = (.p (.str (dropPre [48, 120] s)), []) := by
  rcases Bool.eq_false_or_eq_true (decide ((↑s.length : Int) ≥ (↑[48, 120].length : Int))) with h1 | h1
  · have h1q := h1
    try simp only [zA, zB, zC, zD, zE, zF, zG, zH, zI, zJ, zK, zL, zM, zN, zO, zP, zQ, zR, zS, zT, zU, zV, zW, zX, zY, zZ, List.length_cons] at h1q
    rcases Bool.eq_false_or_eq_true ((List.take 2 s == [48, 120])) with h2 | h2
    · have h2q := h2
      try simp only [zA, zB, zC, zD, zE, zF, zG, zH, zI, zJ, zK, zL, zM, zN, zO, zP, zQ, zR, zS, zT, zU, zV, zW, zX, zY, zZ, List.length_cons] at h2q
      refine Eq.trans (show tpA_t s = (.p (.str (List.drop 2 s)), []) from (cond_t h1).trans ((cond_t h2).trans (rfl))) ?_
      try unfold dropPre
      repeat' split
      all_goals (first | (exfalso; have hh := congrArg List.length (by assumption : List.take _ s = _); rw [List.length_take] at hh; simp only [List.length_cons, List.length_nil] at *; omega) | (exfalso; exact (by assumption : ¬ _) (by assumption)) | rfl | (exfalso; omega) | (simp only [zA, zB, zC, zD, zE, zF, zG, zH, zI, zJ, zK, zL, zM, zN, zO, zP, zQ, zR, zS, zT, zU, zV, zW, zX, zY, zZ, List.length_cons] at *; omega) | (exfalso; simp_all; done) | (exfalso; simp_all; omega) | (simp_all; done) | contradiction)
    · have h2q := h2
      try simp only [zA, zB, zC, zD, zE, zF, zG, zH, zI, zJ, zK, zL, zM, zN, zO, zP, zQ, zR, zS, zT, zU, zV, zW, zX, zY, zZ, List.length_cons] at h2q
      refine Eq.trans (show tpA_t s = (.p (.str s), []) from (cond_t h1).trans ((cond_f h2).trans (rfl))) ?_
      try unfold dropPre
      repeat' split
      all_goals (first | (exfalso; have hh := congrArg List.length (by assumption : List.take _ s = _); rw [List.length_take] at hh; simp only [List.length_cons, List.length_nil] at *; omega) | (exfalso; exact (by assumption : ¬ _) (by assumption)) | rfl | (exfalso; omega) | (simp only [zA, zB, zC, zD, zE, zF, zG, zH, zI, zJ, zK, zL, zM, zN, zO, zP, zQ, zR, zS, zT, zU, zV, zW, zX, zY, zZ, List.length_cons] at *; omega) | (exfalso; simp_all; done) | (exfalso; simp_all; omega) | (simp_all; done) | contradiction)
  · have h1q := h1
    try simp only [zA, zB, zC, zD, zE, zF, zG, zH, zI, zJ, zK, zL, zM, zN, zO, zP, zQ, zR, zS, zT, zU, zV, zW, zX, zY, zZ, List.length_cons] at h1q
    refine Eq.trans (show tpA_t s = (.p (.str s), []) from (cond_f h1).trans (rfl)) ?_
    try unfold dropPre
    repeat' split
    all_goals (first | (exfalso; have hh := congrArg List.length (by assumption : List.take _ s = _); rw [List.length_take] at hh; simp only [List.length_cons, List.length_nil] at *; omega) | (exfalso; exact (by assumption : ¬ _) (by assumption)) | rfl | (exfalso; omega) | (simp only [zA, zB, zC, zD, zE, zF, zG, zH, zI, zJ, zK, zL, zM, zN, zO, zP, zQ, zR, zS, zT, zU, zV, zW, zX, zY, zZ, List.length_cons] at *; omega) | (exfalso; simp_all; done) | (exfalso; simp_all; omega) | (simp_all; done) | contradiction)
set_option maxHeartbeats 0 in
set_option maxRecDepth 20000 in
theorem tpB_eq (s : List Nat)  : tpB_t s = (.p (.str (dropPre [48, 88] s)), []) := by
  rcases Bool.eq_false_or_eq_true (decide ((↑s.length : Int) ≥ (↑[48, 88].length : Int))) with h1 | h1
  · have h1q := h1
    try simp only [zA, zB, zC, zD, zE, zF, zG, zH, zI, zJ, zK, zL, zM, zN, zO, zP, zQ, zR, zS, zT, zU, zV, zW, zX, zY, zZ, List.length_cons] at h1q
    rcases Bool.eq_false_or_eq_true ((List.take 2 s == [48, 88])) with h2 | h2
    · have h2q := h2
      try simp only [zA, zB, zC, zD, zE, zF, zG, zH, zI, zJ, zK, zL, zM, zN, zO, zP, zQ, zR, zS, zT, zU, zV, zW, zX, zY, zZ, List.length_cons] at h2q
      refine Eq.trans (show tpB_t s = (.p (.str (List.drop 2 s)), []) from (cond_t h1).trans ((cond_t h2).trans (rfl))) ?_
      try unfold dropPre
      repeat' split
      all_goals (first | (exfalso; have hh := congrArg List.length (by assumption : List.take _ s = _); rw [List.length_take] at hh; simp only [List.length_cons, List.length_nil] at *; omega) | (exfalso; exact (by assumption : ¬ _) (by assumption)) | rfl | (exfalso; omega) | (simp only [zA, zB, zC, zD, zE, zF, zG, zH, zI, zJ, zK, zL, zM, zN, zO, zP, zQ, zR, zS, zT, zU, zV, zW, zX, zY, zZ, List.length_cons] at *; omega) | (exfalso; simp_all; done) | (exfalso; simp_all; omega) | (simp_all; done) | contradiction)
    · have h2q := h2
      try simp only [zA, zB, zC, zD, zE, zF, zG, zH, zI, zJ, zK, zL, zM, zN, zO, zP, zQ, zR, zS, zT, zU, zV, zW, zX, zY, zZ, List.length_cons] at h2q
      refine Eq.trans (show tpB_t s = (.p (.str s), []) from (cond_t h1).trans ((cond_f h2).trans (rfl))) ?_
      try unfold dropPre
      repeat' split
      all_goals (first | (exfalso; have hh := congrArg List.length (by assumption : List.take _ s = _); rw [List.length_take] at hh; simp only [List.length_cons, List.length_nil] at *; omega) | (exfalso; exact (by assumption : ¬ _) (by assumption)) | rfl | (exfalso; omega) | (simp only [zA, zB, zC, zD, zE, zF, zG, zH, zI, zJ, zK, zL, zM, zN, zO, zP, zQ, zR, zS, zT, zU, zV, zW, zX, zY, zZ, List.length_cons] at *; omega) | (exfalso; simp_all; done) | (exfalso; simp_all; omega) | (simp_all; done) | contradiction)
  · have h1q := h1
    try simp only [zA, zB, zC, zD, zE, zF, zG, zH, zI, zJ, zK, zL, zM, zN, zO, zP, zQ, zR, zS, zT, zU, zV, zW, zX, zY, zZ, List.length_cons] at h1q
    refine Eq.trans (show tpB_t s = (.p (.str s), []) from (cond_f h1).trans (rfl)) ?_
    try unfold dropPre
    repeat' split
    all_goals (first | (exfalso; have hh := congrArg List.length (by assumption : List.take _ s = _); rw [List.length_take] at hh; simp only [List.length_cons, List.length_nil] at *; omega) | (exfalso; exact (by assumption : ¬ _) (by assumption)) | rfl | (exfalso; omega) | (simp only [zA, zB, zC, zD, zE, zF, zG, zH, zI, zJ, zK, zL, zM, zN, zO, zP, zQ, zR, zS, zT, zU, zV, zW, zX, zY, zZ, List.length_cons] at *; omega) | (exfalso; simp_all; done) | (exfalso; simp_all; omega) | (simp_all; done) | contradiction)
set_option maxHeartbeats 0 in
set_option maxRecDepth 20000 in
theorem least_eq (s a b d : List Nat)  : least_t s a b d = (.p (.bool (leastBf s d)), []) := by
  rcases Bool.eq_false_or_eq_true (decide ((↑s.length : Int) > 1)) with h1 | h1
  · have h1q := h1
    try simp only [zA, zB, zC, zD, zE, zF, zG, zH, zI, zJ, zK, zL, zM, zN, zO, zP, zQ, zR, zS, zT, zU, zV, zW, zX, zY, zZ] at h1q
    rcases Bool.eq_false_or_eq_true (((↑(s.getD 1 0) : Int) == 120)) with h2 | h2
    · have h2q := h2
      try simp only [zA, zB, zC, zD, zE, zF, zG, zH, zI, zJ, zK, zL, zM, zN, zO, zP, zQ, zR, zS, zT, zU, zV, zW, zX, zY, zZ] at h2q
      refine Eq.trans (show least_t s a b d = (.p (.bool (d == [56, 48, 48, 48, 48, 48, 48, 48, 48, 48, 48, 48, 48, 48, 48, 48])), []) from (cond_t h1).trans ((cond_t h2).trans (rfl))) ?_
      try unfold leastBf
      repeat' split
      all_goals (first | rfl | (exfalso; omega) | (simp only [zA, zB, zC, zD, zE, zF, zG, zH, zI, zJ, zK, zL, zM, zN, zO, zP, zQ, zR, zS, zT, zU, zV, zW, zX, zY, zZ] at *; omega) | (exfalso; simp_all; done) | (exfalso; simp_all; omega) | (simp_all; done) | contradiction)
    · have h2q := h2
      try simp only [zA, zB, zC, zD, zE, zF, zG, zH, zI, zJ, zK, zL, zM, zN, zO, zP, zQ, zR, zS, zT, zU, zV, zW, zX, zY, zZ] at h2q
      rcases Bool.eq_false_or_eq_true (((↑(s.getD 1 0) : Int) == 88)) with h3 | h3
      · have h3q := h3
        try simp only [zA, zB, zC, zD, zE, zF, zG, zH, zI, zJ, zK, zL, zM, zN, zO, zP, zQ, zR, zS, zT, zU, zV, zW, zX, zY, zZ] at h3q
        refine Eq.trans (show least_t s a b d = (.p (.bool (d == [56, 48, 48, 48, 48, 48, 48, 48, 48, 48, 48, 48, 48, 48, 48, 48])), []) from (cond_t h1).trans ((cond_f h2).trans ((cond_t h3).trans (rfl)))) ?_
        try unfold leastBf
        repeat' split
        all_goals (first | rfl | (exfalso; omega) | (simp only [zA, zB, zC, zD, zE, zF, zG, zH, zI, zJ, zK, zL, zM, zN, zO, zP, zQ, zR, zS, zT, zU, zV, zW, zX, zY, zZ] at *; omega) | (exfalso; simp_all; done) | (exfalso; simp_all; omega) | (simp_all; done) | contradiction)
      · have h3q := h3
        try simp only [zA, zB, zC, zD, zE, zF, zG, zH, zI, zJ, zK, zL, zM, zN, zO, zP, zQ, zR, zS, zT, zU, zV, zW, zX, zY, zZ] at h3q
        rcases Bool.eq_false_or_eq_true (((↑(s.getD 0 0) : Int) == 48)) with h4 | h4
        · have h4q := h4
          try simp only [zA, zB, zC, zD, zE, zF, zG, zH, zI, zJ, zK, zL, zM, zN, zO, zP, zQ, zR, zS, zT, zU, zV, zW, zX, zY, zZ] at h4q
          refine Eq.trans (show least_t s a b d = (.p (.bool (d == [49, 48, 48, 48, 48, 48, 48, 48, 48, 48, 48, 48, 48, 48, 48, 48, 48, 48, 48, 48, 48, 48])), []) from (cond_t h1).trans ((cond_f h2).trans ((cond_f h3).trans ((cond_t h4).trans (rfl))))) ?_
          try unfold leastBf
          repeat' split
          all_goals (first | rfl | (exfalso; omega) | (simp only [zA, zB, zC, zD, zE, zF, zG, zH, zI, zJ, zK, zL, zM, zN, zO, zP, zQ, zR, zS, zT, zU, zV, zW, zX, zY, zZ] at *; omega) | (exfalso; simp_all; done) | (exfalso; simp_all; omega) | (simp_all; done) | contradiction)
        · have h4q := h4
          try simp only [zA, zB, zC, zD, zE, zF, zG, zH, zI, zJ, zK, zL, zM, zN, zO, zP, zQ, zR, zS, zT, zU, zV, zW, zX, zY, zZ] at h4q
          refine Eq.trans (show least_t s a b d = (.p (.bool (d == [57, 50, 50, 51, 51, 55, 50, 48, 51, 54, 56, 53, 52, 55, 55, 53, 56, 48, 56])), []) from (cond_t h1).trans ((cond_f h2).trans ((cond_f h3).trans ((cond_f h4).trans (rfl))))) ?_
          try unfold leastBf
          repeat' split
          all_goals (first | rfl | (exfalso; omega) | (simp only [zA, zB, zC, zD, zE, zF, zG, zH, zI, zJ, zK, zL, zM, zN, zO, zP, zQ, zR, zS, zT, zU, zV, zW, zX, zY, zZ] at *; omega) | (exfalso; simp_all; done) | (exfalso; simp_all; omega) | (simp_all; done) | contradiction)
  · have h1q := h1
    try simp only [zA, zB, zC, zD, zE, zF, zG, zH, zI, zJ, zK, zL, zM, zN, zO, zP, zQ, zR, zS, zT, zU, zV, zW, zX, zY, zZ] at h1q
    rcases Bool.eq_false_or_eq_true (((↑(s.getD 0 0) : Int) == 48)) with h2 | h2
    · have h2q := h2
      try simp only [zA, zB, zC, zD, zE, zF, zG, zH, zI, zJ, zK, zL, zM, zN, zO, zP, zQ, zR, zS, zT, zU, zV, zW, zX, zY, zZ] at h2q
      refine Eq.trans (show least_t s a b d = (.p (.bool (d == [49, 48, 48, 48, 48, 48, 48, 48, 48, 48, 48, 48, 48, 48, 48, 48, 48, 48, 48, 48, 48, 48])), []) from (cond_f h1).trans ((cond_t h2).trans (rfl))) ?_
      try unfold leastBf
      repeat' split
      all_goals (first | rfl | (exfalso; omega) | (simp only [zA, zB, zC, zD, zE, zF, zG, zH, zI, zJ, zK, zL, zM, zN, zO, zP, zQ, zR, zS, zT, zU, zV, zW, zX, zY, zZ] at *; omega) | (exfalso; simp_all; done) | (exfalso; simp_all; omega) | (simp_all; done) | contradiction)
    · have h2q := h2
      try simp only [zA, zB, zC, zD, zE, zF, zG, zH, zI, zJ, zK, zL, zM, zN, zO, zP, zQ, zR, zS, zT, zU, zV, zW, zX, zY, zZ] at h2q
      refine Eq.trans (show least_t s a b d = (.p (.bool (d == [57, 50, 50, 51, 51, 55, 50, 48, 51, 54, 56, 53, 52, 55, 55, 53, 56, 48, 56])), []) from (cond_f h1).trans ((cond_f h2).trans (rfl))) ?_
      try unfold leastBf
      repeat' split
      all_goals (first | rfl | (exfalso; omega) | (simp only [zA, zB, zC, zD, zE, zF, zG, zH, zI, zJ, zK, zL, zM, zN, zO, zP, zQ, zR, zS, zT, zU, zV, zW, zX, zY, zZ] at *; omega) | (exfalso; simp_all; done) | (exfalso; simp_all; omega) | (simp_all; done) | contradiction)
set_option maxHeartbeats 0 in
set_option maxRecDepth 20000 in
theorem intg_eq (s : List Nat) (n e : Int) (ls : Bool)  : intg_t s n e ls = (.tup [.p (.int .i64 (intNf s n e ls)), .p (.bool (intOf s e ls))], []) := by
  rcases Bool.eq_false_or_eq_true ((s == [])) with h1 | h1
  · have h1q := h1
    try simp only [zA, zB, zC, zD, zE, zF, zG, zH, zI, zJ, zK, zL, zM, zN, zO, zP, zQ, zR, zS, zT, zU, zV, zW, zX, zY, zZ] at h1q
    refine Eq.trans (show intg_t s n e ls = (.tup [.p (.int .i64 0), .p (.bool true)], []) from (cond_t h1).trans (rfl)) ?_
    try unfold intNf intOf
    repeat' split
    all_goals (first | (simp only [Bool.false_eq_true, and_false, false_and] at *; done) | rfl | (exfalso; omega) | (simp only [zA, zB, zC, zD, zE, zF, zG, zH, zI, zJ, zK, zL, zM, zN, zO, zP, zQ, zR, zS, zT, zU, zV, zW, zX, zY, zZ] at *; omega) | (exfalso; simp_all; done) | (exfalso; simp_all; omega) | (simp_all; done) | contradiction)
  · have h1q := h1
    try simp only [zA, zB, zC, zD, zE, zF, zG, zH, zI, zJ, zK, zL, zM, zN, zO, zP, zQ, zR, zS, zT, zU, zV, zW, zX, zY, zZ] at h1q
    rcases Bool.eq_false_or_eq_true (((↑(s.getD 0 0) : Int) == 45)) with h2 | h2
    · have h2q := h2
      try simp only [zA, zB, zC, zD, zE, zF, zG, zH, zI, zJ, zK, zL, zM, zN, zO, zP, zQ, zR, zS, zT, zU, zV, zW, zX, zY, zZ] at h2q
      rcases Bool.eq_false_or_eq_true ((e == 0)) with h3 | h3
      · have h3q := h3
        try simp only [zA, zB, zC, zD, zE, zF, zG, zH, zI, zJ, zK, zL, zM, zN, zO, zP, zQ, zR, zS, zT, zU, zV, zW, zX, zY, zZ] at h3q
        refine Eq.trans (show intg_t s n e ls = (.tup [.p (.int .i64 (0 - n)), .p (.bool true)], []) from (cond_f h1).trans ((cond_t h2).trans ((cond_t h3).trans (rfl)))) ?_
        try unfold intNf intOf
        repeat' split
        all_goals (first | (simp only [Bool.false_eq_true, and_false, false_and] at *; done) | rfl | (exfalso; omega) | (simp only [zA, zB, zC, zD, zE, zF, zG, zH, zI, zJ, zK, zL, zM, zN, zO, zP, zQ, zR, zS, zT, zU, zV, zW, zX, zY, zZ] at *; omega) | (exfalso; simp_all; done) | (exfalso; simp_all; omega) | (simp_all; done) | contradiction)
      · have h3q := h3
        try simp only [zA, zB, zC, zD, zE, zF, zG, zH, zI, zJ, zK, zL, zM, zN, zO, zP, zQ, zR, zS, zT, zU, zV, zW, zX, zY, zZ] at h3q
        rcases Bool.eq_false_or_eq_true ((e == 14)) with h4 | h4
        · have h4q := h4
          try simp only [zA, zB, zC, zD, zE, zF, zG, zH, zI, zJ, zK, zL, zM, zN, zO, zP, zQ, zR, zS, zT, zU, zV, zW, zX, zY, zZ] at h4q
          rcases Bool.eq_false_or_eq_true (ls) with h5 | h5
          · have h5q := h5
            try simp only [zA, zB, zC, zD, zE, zF, zG, zH, zI, zJ, zK, zL, zM, zN, zO, zP, zQ, zR, zS, zT, zU, zV, zW, zX, zY, zZ] at h5q
            refine Eq.trans (show intg_t s n e ls = (.tup [.p (.int .i64 (-9223372036854775808)), .p (.bool true)], []) from (cond_f h1).trans ((cond_t h2).trans ((cond_f h3).trans ((cond_t h4).trans ((cond_t h5).trans (rfl)))))) ?_
            try unfold intNf intOf
            repeat' split
            all_goals (first | (simp only [Bool.false_eq_true, and_false, false_and] at *; done) | rfl | (exfalso; omega) | (simp only [zA, zB, zC, zD, zE, zF, zG, zH, zI, zJ, zK, zL, zM, zN, zO, zP, zQ, zR, zS, zT, zU, zV, zW, zX, zY, zZ] at *; omega) | (exfalso; simp_all; done) | (exfalso; simp_all; omega) | (simp_all; done) | contradiction)
          · have h5q := h5
            try simp only [zA, zB, zC, zD, zE, zF, zG, zH, zI, zJ, zK, zL, zM, zN, zO, zP, zQ, zR, zS, zT, zU, zV, zW, zX, zY, zZ] at h5q
            refine Eq.trans (show intg_t s n e ls = (.tup [.p (.int .i64 0), .p (.bool false)], []) from (cond_f h1).trans ((cond_t h2).trans ((cond_f h3).trans ((cond_t h4).trans ((cond_f h5).trans (rfl)))))) ?_
            try unfold intNf intOf
            repeat' split
            all_goals (first | (simp only [Bool.false_eq_true, and_false, false_and] at *; done) | rfl | (exfalso; omega) | (simp only [zA, zB, zC, zD, zE, zF, zG, zH, zI, zJ, zK, zL, zM, zN, zO, zP, zQ, zR, zS, zT, zU, zV, zW, zX, zY, zZ] at *; omega) | (exfalso; simp_all; done) | (exfalso; simp_all; omega) | (simp_all; done) | contradiction)
        · have h4q := h4
          try simp only [zA, zB, zC, zD, zE, zF, zG, zH, zI, zJ, zK, zL, zM, zN, zO, zP, zQ, zR, zS, zT, zU, zV, zW, zX, zY, zZ] at h4q
          refine Eq.trans (show intg_t s n e ls = (.tup [.p (.int .i64 0), .p (.bool false)], []) from (cond_f h1).trans ((cond_t h2).trans ((cond_f h3).trans ((cond_f h4).trans (rfl))))) ?_
          try unfold intNf intOf
          repeat' split
          all_goals (first | (simp only [Bool.false_eq_true, and_false, false_and] at *; done) | rfl | (exfalso; omega) | (simp only [zA, zB, zC, zD, zE, zF, zG, zH, zI, zJ, zK, zL, zM, zN, zO, zP, zQ, zR, zS, zT, zU, zV, zW, zX, zY, zZ] at *; omega) | (exfalso; simp_all; done) | (exfalso; simp_all; omega) | (simp_all; done) | contradiction)
    · have h2q := h2
      try simp only [zA, zB, zC, zD, zE, zF, zG, zH, zI, zJ, zK, zL, zM, zN, zO, zP, zQ, zR, zS, zT, zU, zV, zW, zX, zY, zZ] at h2q
      rcases Bool.eq_false_or_eq_true (((↑(s.getD 0 0) : Int) == 43)) with h3 | h3
      · have h3q := h3
        try simp only [zA, zB, zC, zD, zE, zF, zG, zH, zI, zJ, zK, zL, zM, zN, zO, zP, zQ, zR, zS, zT, zU, zV, zW, zX, zY, zZ] at h3q
        rcases Bool.eq_false_or_eq_true ((e == 0)) with h4 | h4
        · have h4q := h4
          try simp only [zA, zB, zC, zD, zE, zF, zG, zH, zI, zJ, zK, zL, zM, zN, zO, zP, zQ, zR, zS, zT, zU, zV, zW, zX, zY, zZ] at h4q
          refine Eq.trans (show intg_t s n e ls = (.tup [.p (.int .i64 n), .p (.bool true)], []) from (cond_f h1).trans ((cond_f h2).trans ((cond_t h3).trans ((cond_t h4).trans (rfl))))) ?_
          try unfold intNf intOf
          repeat' split
          all_goals (first | (simp only [Bool.false_eq_true, and_false, false_and] at *; done) | rfl | (exfalso; omega) | (simp only [zA, zB, zC, zD, zE, zF, zG, zH, zI, zJ, zK, zL, zM, zN, zO, zP, zQ, zR, zS, zT, zU, zV, zW, zX, zY, zZ] at *; omega) | (exfalso; simp_all; done) | (exfalso; simp_all; omega) | (simp_all; done) | contradiction)
        · have h4q := h4
          try simp only [zA, zB, zC, zD, zE, zF, zG, zH, zI, zJ, zK, zL, zM, zN, zO, zP, zQ, zR, zS, zT, zU, zV, zW, zX, zY, zZ] at h4q
          rcases Bool.eq_false_or_eq_true ((e == 14)) with h5 | h5
          · have h5q := h5
            try simp only [zA, zB, zC, zD, zE, zF, zG, zH, zI, zJ, zK, zL, zM, zN, zO, zP, zQ, zR, zS, zT, zU, zV, zW, zX, zY, zZ] at h5q
            refine Eq.trans (show intg_t s n e ls = (.tup [.p (.int .i64 0), .p (.bool false)], []) from (cond_f h1).trans ((cond_f h2).trans ((cond_t h3).trans ((cond_f h4).trans ((cond_t h5).trans (rfl)))))) ?_
            try unfold intNf intOf
            repeat' split
            all_goals (first | (simp only [Bool.false_eq_true, and_false, false_and] at *; done) | rfl | (exfalso; omega) | (simp only [zA, zB, zC, zD, zE, zF, zG, zH, zI, zJ, zK, zL, zM, zN, zO, zP, zQ, zR, zS, zT, zU, zV, zW, zX, zY, zZ] at *; omega) | (exfalso; simp_all; done) | (exfalso; simp_all; omega) | (simp_all; done) | contradiction)
          · have h5q := h5
            try simp only [zA, zB, zC, zD, zE, zF, zG, zH, zI, zJ, zK, zL, zM, zN, zO, zP, zQ, zR, zS, zT, zU, zV, zW, zX, zY, zZ] at h5q
            refine Eq.trans (show intg_t s n e ls = (.tup [.p (.int .i64 0), .p (.bool false)], []) from (cond_f h1).trans ((cond_f h2).trans ((cond_t h3).trans ((cond_f h4).trans ((cond_f h5).trans (rfl)))))) ?_
            try unfold intNf intOf
            repeat' split
            all_goals (first | (simp only [Bool.false_eq_true, and_false, false_and] at *; done) | rfl | (exfalso; omega) | (simp only [zA, zB, zC, zD, zE, zF, zG, zH, zI, zJ, zK, zL, zM, zN, zO, zP, zQ, zR, zS, zT, zU, zV, zW, zX, zY, zZ] at *; omega) | (exfalso; simp_all; done) | (exfalso; simp_all; omega) | (simp_all; done) | contradiction)
      · have h3q := h3
        try simp only [zA, zB, zC, zD, zE, zF, zG, zH, zI, zJ, zK, zL, zM, zN, zO, zP, zQ, zR, zS, zT, zU, zV, zW, zX, zY, zZ] at h3q
        rcases Bool.eq_false_or_eq_true ((e == 0)) with h4 | h4
        · have h4q := h4
          try simp only [zA, zB, zC, zD, zE, zF, zG, zH, zI, zJ, zK, zL, zM, zN, zO, zP, zQ, zR, zS, zT, zU, zV, zW, zX, zY, zZ] at h4q
          refine Eq.trans (show intg_t s n e ls = (.tup [.p (.int .i64 n), .p (.bool true)], []) from (cond_f h1).trans ((cond_f h2).trans ((cond_f h3).trans ((cond_t h4).trans (rfl))))) ?_
          try unfold intNf intOf
          repeat' split
          all_goals (first | (simp only [Bool.false_eq_true, and_false, false_and] at *; done) | rfl | (exfalso; omega) | (simp only [zA, zB, zC, zD, zE, zF, zG, zH, zI, zJ, zK, zL, zM, zN, zO, zP, zQ, zR, zS, zT, zU, zV, zW, zX, zY, zZ] at *; omega) | (exfalso; simp_all; done) | (exfalso; simp_all; omega) | (simp_all; done) | contradiction)
        · have h4q := h4
          try simp only [zA, zB, zC, zD, zE, zF, zG, zH, zI, zJ, zK, zL, zM, zN, zO, zP, zQ, zR, zS, zT, zU, zV, zW, zX, zY, zZ] at h4q
          rcases Bool.eq_false_or_eq_true ((e == 14)) with h5 | h5
          · have h5q := h5
            try simp only [zA, zB, zC, zD, zE, zF, zG, zH, zI, zJ, zK, zL, zM, zN, zO, zP, zQ, zR, zS, zT, zU, zV, zW, zX, zY, zZ] at h5q
            refine Eq.trans (show intg_t s n e ls = (.tup [.p (.int .i64 0), .p (.bool false)], []) from (cond_f h1).trans ((cond_f h2).trans ((cond_f h3).trans ((cond_f h4).trans ((cond_t h5).trans (rfl)))))) ?_
            try unfold intNf intOf
            repeat' split
            all_goals (first | (simp only [Bool.false_eq_true, and_false, false_and] at *; done) | rfl | (exfalso; omega) | (simp only [zA, zB, zC, zD, zE, zF, zG, zH, zI, zJ, zK, zL, zM, zN, zO, zP, zQ, zR, zS, zT, zU, zV, zW, zX, zY, zZ] at *; omega) | (exfalso; simp_all; done) | (exfalso; simp_all; omega) | (simp_all; done) | contradiction)
          · have h5q := h5
            try simp only [zA, zB, zC, zD, zE, zF, zG, zH, zI, zJ, zK, zL, zM, zN, zO, zP, zQ, zR, zS, zT, zU, zV, zW, zX, zY, zZ] at h5q
            refine Eq.trans (show intg_t s n e ls = (.tup [.p (.int .i64 0), .p (.bool false)], []) from (cond_f h1).trans ((cond_f h2).trans ((cond_f h3).trans ((cond_f h4).trans ((cond_f h5).trans (rfl)))))) ?_
            try unfold intNf intOf
            repeat' split
            all_goals (first | (simp only [Bool.false_eq_true, and_false, false_and] at *; done) | rfl | (exfalso; omega) | (simp only [zA, zB, zC, zD, zE, zF, zG, zH, zI, zJ, zK, zL, zM, zN, zO, zP, zQ, zR, zS, zT, zU, zV, zW, zX, zY, zZ] at *; omega) | (exfalso; simp_all; done) | (exfalso; simp_all; omega) | (simp_all; done) | contradiction)

theorem num_ok (hT : TabOk Pd Gd T) (s : List Nat) (hs : ∀ x ∈ s, x < 256) (hl : s.length ≤ 1000000000000) : RC Pd Gd 59 [.p (.str s)] [] (.tup [.p (.int .i64 (numN s : Nat)), .p (.int .i64 (numE s))]) [] := by
  have hm := mag_rc hT s hs hl
  rw [mgE_eq] at hm
  have h := num_rc hT s (mgS s).n (mgS s).e hm
  rw [num_eq] at h
  exact h

def tlFr (s : List Nat) : Fr := [(0, .p (.str s)), (1, .p (.int .u8 48)), (2, .und)]
theorem tl_loop (hT : TabOk Pd Gd T) : ∀ s : List Nat, s.length ≤ 1000000000000 → LC Pd Gd 17 0 (tlFr s) [] (loopAt Pd 84 0) (.exit 0) (tlFr (trim0 s)) [] := by
  intro s
  induction s with
  | nil => intro _; exact LC.leave hT (tlL_l3 (T := T) []) ⟨rfl, trivial⟩ (by simp)
  | cons c r ih =>
    intro hl
    rw [List.length_cons] at hl
    by_cases h : c = 48
    · have e : trim0 (c :: r) = trim0 r := by unfold trim0; rw [List.dropWhile_cons, h]; rfl
      rw [e]
      refine LC.go hT (tlL_l1 (T := T) (c :: r)) ?_ (ih (by omega))
      simp only [AllT]
      repeat' (first | exact trivial | exact rfl | apply And.intro)
      all_goals (simp only [List.length_cons, Bool.true_and, decide_eq_true_eq, beq_iff_eq, h, List.getD_cons_zero]; omega)
    · have e : trim0 (c :: r) = c :: r := by unfold trim0; rw [List.dropWhile_cons, if_neg (by simp [h])]
      rw [e]
      refine LC.leave hT (tlL_l2 (T := T) (c :: r)) ?_ (by simp)
      simp only [AllT]
      repeat' (first | exact trivial | exact rfl | apply And.intro)
      all_goals (simp only [List.length_cons, Bool.true_and, decide_eq_true_eq, beq_eq_false_iff_ne, ne_eq, List.getD_cons_zero]; omega)

theorem trim84_ok (hT : TabOk Pd Gd T) (s : List Nat) (hl : s.length ≤ 1000000000000) : RC Pd Gd 84 [.p (.str s), .p (.int .u8 48)] [] (.p (.str (trim0 s))) [] :=
  RC.of_runFn hT (tlW_p1 (T := T) s (trim0 s)) ⟨tl_loop hT s hl, trivial⟩

theorem trim_ok (hT : TabOk Pd Gd T) (s : List Nat) (hl : s.length ≤ 1000000000000) : RC Pd Gd 74 [.p (.str s), .p (.str [48])] [] (.p (.str (trim0 s))) [] := by
  have h := tl_rc hT s (trim0 s) (trim84_ok hT s hl)
  have e : tl_t s (trim0 s) = (.p (.str (trim0 s)), []) := by
    unfold tl_t
    cases s with
    | nil => rfl
    | cons c r => rfl
  rw [e] at h
  exact h

theorem preA_ok (hT : TabOk Pd Gd T) (s : List Nat) : RC Pd Gd 75 [.p (.str s), .p (.str [48, 120])] [] (.p (.str (dropPre [48, 120] s))) [] := by
  have h := tpA_rc hT s
  rw [tpA_eq] at h
  exact h
theorem preB_ok (hT : TabOk Pd Gd T) (s : List Nat) : RC Pd Gd 75 [.p (.str s), .p (.str [48, 88])] [] (.p (.str (dropPre [48, 88] s))) [] := by
  have h := tpB_rc hT s
  rw [tpB_eq] at h
  exact h
theorem dropPre_len (p s : List Nat) : (dropPre p s).length ≤ s.length := by
  unfold dropPre; split <;> simp

theorem least_ok (hT : TabOk Pd Gd T) (s : List Nat) (h0 : 0 < s.length) (hl : s.length ≤ 1000000000000) : RC Pd Gd 60 [.p (.str s)] [] (.p (.bool (leastB s))) [] := by
  have l1 := dropPre_len [48, 120] s
  have l2 := dropPre_len [48, 88] (dropPre [48, 120] s)
  have h := least_rc hT s _ _ _ h0 (preA_ok hT s) (preB_ok hT _) (trim_ok hT _ (by omega))
  rw [least_eq] at h
  exact h

theorem MG.e_val (m : MG) : m.e = 0 ∨ m.e = 14 ∨ m.e = 6 := by cases m <;> simp [MG.e]
theorem numE_14 {s : List Nat} (h : numE s = 14) : 0 < s.length := by
  cases s with
  | nil => exfalso; revert h; decide
  | cons c r => simp

theorem int_ok (hT : TabOk Pd Gd T) (s : List Nat) (hs : ∀ x ∈ s, x < 256) (hl : s.length ≤ 1000000000000) : RC Pd Gd 49 [.p (.str s)] [] (.tup [.p (.int .i64 (intN s)), .p (.bool (intO s))]) [] := by
  have l1 := intB_len s
  have hn := numN_le (intB s)
  have h := intg_rc hT s (numN (intB s) : Nat) (numE (intB s)) (leastB (intB s)) (by omega)
    (fun _ => num_ok hT _ (fun x hx => hs x (intB_mem s hx)) (by omega)) (fun _ h14 => least_ok hT _ (numE_14 h14) (by omega))
  rw [intg_eq] at h
  exact h

end
end Go.Vc
