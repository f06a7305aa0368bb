/- Own texts of the proof, put together: VdFmt. -/
import Derived.Test.YtibbjfmgglmkkaaDoorVdBase
/- VdRept -/
namespace Go.Vc
set_option linter.unusedVariables false
set_option linter.unusedSimpArgs false
section
variable {G : Glob} {T : Tab}
theorem mul_p1 (n : Int) : runFn Pd G T 100000 false [.inl] 55 [.p (.int .u64 1), .p (.int .u64 n)] [] = some ([fitsK .u64 (1 * n) = true, fitsK .u64 (0 * n.fdiv 4294967296 + (0 * ibit BinOp.and .u64 n 4294967295 + (1 * ibit BinOp.and .u64 n 4294967295).fdiv 4294967296).fdiv 4294967296 + (ibit BinOp.and .u64 (0 * ibit BinOp.and .u64 n 4294967295 + (1 * ibit BinOp.and .u64 n 4294967295).fdiv 4294967296) 4294967295 + 1 * n.fdiv 4294967296).fdiv 4294967296) = true, true = true, fitsK .u64 (0 * n.fdiv 4294967296 + (0 * ibit BinOp.and .u64 n 4294967295 + (1 * ibit BinOp.and .u64 n 4294967295).fdiv 4294967296).fdiv 4294967296) = true, fitsK .u64 (0 * n.fdiv 4294967296) = true, fitsK .u64 (ibit BinOp.and .u64 (0 * ibit BinOp.and .u64 n 4294967295 + (1 * ibit BinOp.and .u64 n 4294967295).fdiv 4294967296) 4294967295 + 1 * n.fdiv 4294967296) = true, fitsK .u64 (1 * n.fdiv 4294967296) = true, true = true, fitsK .u64 (0 * ibit BinOp.and .u64 n 4294967295 + (1 * ibit BinOp.and .u64 n 4294967295).fdiv 4294967296) = true, true = true, fitsK .u64 (0 * ibit BinOp.and .u64 n 4294967295) = true, fitsK .u64 (1 * ibit BinOp.and .u64 n 4294967295) = true, true = true, true = true], .tup [.p (.int .u64 (0 * n.fdiv 4294967296 + (0 * ibit BinOp.and .u64 n 4294967295 + (1 * ibit BinOp.and .u64 n 4294967295).fdiv 4294967296).fdiv 4294967296 + (ibit BinOp.and .u64 (0 * ibit BinOp.and .u64 n 4294967295 + (1 * ibit BinOp.and .u64 n 4294967295).fdiv 4294967296) 4294967295 + 1 * n.fdiv 4294967296).fdiv 4294967296)), .p (.int .u64 (1 * n))], []) := by kernel_rfl

theorem reptS0_p1 (n : Int) : runFn Pd G T 100000 false [.br true] 45 [.p (.str [32]), .p (.int .i64 n)] [] = some ([(n == 0) = true], .p (.str []), []) := by kernel_rfl

theorem reptS0_p2 (n : Int) : runFn Pd G T 100000 false [.br false, .br true] 45 [.p (.str [32]), .p (.int .i64 n)] [] = some ([(n == 1) = true, (n == 0) = false], .p (.str [32]), []) := by kernel_rfl

theorem reptS1_p1 (n : Int) : runFn Pd G T 100000 false [.br false, .br false, .br false, .callv (.tup [.p (.int .u64 0), .p (.int .u64 n)]) [], .br false, .br false, .br false, .br true, .br true, .br true, .inl, .inl, .br true, .br true] 45 [.p (.str [32]), .p (.int .i64 n)] [] = some ([(decide (0 ≤ n) && decide (n ≤ (↑(128 : Nat) : Int))) = true, true = true, true = true, true = true, decide (n ≤ 128) = true, true = true, true = true, true = true, false = false, fitsK .i64 n = true, decide (n > 9223372036854775807) = false, false = false, RC Pd G 55 [.p (.int .u64 1), .p (.int .u64 n)] [] (.tup [.p (.int .u64 0), .p (.int .u64 n)]) [], fitsK .u64 n = true, true = true, decide (n < 0) = false, (n == 1) = false, (n == 0) = false], .p (.str (List.take n.toNat (List.replicate 128 32))), []) := by kernel_rfl

theorem reptS2_p2 (n : Int) (res : List Nat) : runW Pd G T 100000 false [.br false, .br false, .br false, .callv (.tup [.p (.int .u64 0), .p (.int .u64 n)]) [], .br false, .br false, .br false, .br true, .br true, .br false, .br false, .br false, .br false, .br false, .br false, .inl, .inl, .br false, .br true, .inl, .inl, .inl, .tr 999999 (Tr.weak [9, 8, 7, 4, 0, 1] [] [0, 2]), .code (.exit 3) [(9, .ptr 0 0), (8, .p (.int .i64 n)), (7, .p (.int .i64 n)), (4, .p (.str [])), (0, .p (.str [32])), (1, .p (.int .i64 n))] [some (.cells [.ptr 0 0, .nsl 1 res.length 1] (.obj 39)), some (.bytes res 5)], .inl] [] [] 45 [.p (.str [32]), .p (.int .i64 n)] [] = some ([some (some (Blk.cells [.ptr 0 0, .nsl 1 res.length 1] (.obj 39))) = some (some (Blk.cells [.ptr 0 0, .nsl 1 res.length 1] (.obj 39))), (decide ((↑res.length : Int) = (↑res.length : Int)) && decide (res.length ≤ 1099511627776)) = true, LC Pd G 125 0 [(9, .ptr 0 0), (8, .p (.int .i64 n)), (7, .p (.int .i64 n)), (4, .p (.str [])), (0, .p (.str [32])), (1, .p (.int .i64 n))] [some (.cells [.ptr 0 0, .nsl 1 1 1] (.obj 39)), some (.bytes [32] 5)] (loopAt Pd 45 0) (.exit 3) [(9, .ptr 0 0), (8, .p (.int .i64 n)), (7, .p (.int .i64 n)), (4, .p (.str [])), (0, .p (.str [32])), (1, .p (.int .i64 n))] [some (.cells [.ptr 0 0, .nsl 1 res.length 1] (.obj 39)), some (.bytes res 5)], true = true, true = true, true = true, some (some (Blk.cells [.ptr 0 0, .p .nils] (.obj 39))) = some (some (Blk.cells [.ptr 0 0, .p .nils] (.obj 39))), (decide (0 < (2 * 0 + n).toNat) && true) = true, IsExt Pd 43 (Extern.BytealgMakeNoZero.makeNoZero #[3] #[37]) ∧ 0 ≤ 2 * 0 + n ∧ 2 * 0 + n ≤ 1099511627776, fitsK .i64 (0 + n) = true, true = true, decide (0 - 0 < n) = true, true = true, decide (n < 0) = false, true = true, true = true, IsExt Pd 42 Extern.AbiNoEscape.same, true = true, decide (n > 8192) = false, decide (n ≤ 64) = false, decide (n ≤ 128) = false, decide (n ≤ 64) = false, decide (n ≤ 128) = false, decide (n ≤ 128) = false, true = true, true = true, true = true, false = false, fitsK .i64 n = true, decide (n > 9223372036854775807) = false, false = false, RC Pd G 55 [.p (.int .u64 1), .p (.int .u64 n)] [] (.tup [.p (.int .u64 0), .p (.int .u64 n)]) [], fitsK .u64 n = true, true = true, decide (n < 0) = false, (n == 1) = false, (n == 0) = false], .p (.str res), []) := by kernel_rfl

theorem reptZ1_p1 (n : Int) : runFn Pd G T 100000 false [.br false, .br false, .br false, .callv (.tup [.p (.int .u64 0), .p (.int .u64 n)]) [], .br false, .br false, .br false, .br false, .br false, .br true, .br true, .br true, .inl, .inl, .br true, .br false, .br true, .inl, .inl, .br true, .br false, .br true, .inl, .inl, .br true, .br true] 45 [.p (.str [48]), .p (.int .i64 n)] [] = some ([(decide (0 ≤ n) && decide (n ≤ (↑(64 : Nat) : Int))) = true, true = true, true = true, true = true, decide (n ≤ 64) = true, false = false, true = true, true = true, decide (n ≤ 128) = true, false = false, true = true, true = true, decide (n ≤ 128) = true, true = true, true = true, false = false, false = false, true = true, false = false, fitsK .i64 n = true, decide (n > 9223372036854775807) = false, false = false, RC Pd G 55 [.p (.int .u64 1), .p (.int .u64 n)] [] (.tup [.p (.int .u64 0), .p (.int .u64 n)]) [], fitsK .u64 n = true, true = true, decide (n < 0) = false, (n == 1) = false, (n == 0) = false], .p (.str (List.take n.toNat (List.replicate 64 48))), []) := by kernel_rfl

theorem reptZ0_p1 (n : Int) : runFn Pd G T 100000 false [.br true] 45 [.p (.str [48]), .p (.int .i64 n)] [] = some ([(n == 0) = true], .p (.str []), []) := by kernel_rfl

theorem reptZ0_p2 (n : Int) : runFn Pd G T 100000 false [.br false, .br true] 45 [.p (.str [48]), .p (.int .i64 n)] [] = some ([(n == 1) = true, (n == 0) = false], .p (.str [48]), []) := by kernel_rfl

theorem reptZ2_p2 (n : Int) (res : List Nat) : runW Pd G T 100000 false [.br false, .br false, .br false, .callv (.tup [.p (.int .u64 0), .p (.int .u64 n)]) [], .br false, .br false, .br false, .br false, .br false, .br true, .br true, .br false, .br false, .br false, .br false, .br false, .br false, .inl, .inl, .br false, .br true, .inl, .inl, .inl, .tr 999999 (Tr.weak [9, 8, 7, 4, 0, 1] [] [0, 2]), .code (.exit 3) [(9, .ptr 0 0), (8, .p (.int .i64 n)), (7, .p (.int .i64 n)), (4, .p (.str [])), (0, .p (.str [48])), (1, .p (.int .i64 n))] [some (.cells [.ptr 0 0, .nsl 1 res.length 1] (.obj 39)), some (.bytes res 5)], .inl] [] [] 45 [.p (.str [48]), .p (.int .i64 n)] [] = some ([some (some (Blk.cells [.ptr 0 0, .nsl 1 res.length 1] (.obj 39))) = some (some (Blk.cells [.ptr 0 0, .nsl 1 res.length 1] (.obj 39))), (decide ((↑res.length : Int) = (↑res.length : Int)) && decide (res.length ≤ 1099511627776)) = true, LC Pd G 125 0 [(9, .ptr 0 0), (8, .p (.int .i64 n)), (7, .p (.int .i64 n)), (4, .p (.str [])), (0, .p (.str [48])), (1, .p (.int .i64 n))] [some (.cells [.ptr 0 0, .nsl 1 1 1] (.obj 39)), some (.bytes [48] 5)] (loopAt Pd 45 0) (.exit 3) [(9, .ptr 0 0), (8, .p (.int .i64 n)), (7, .p (.int .i64 n)), (4, .p (.str [])), (0, .p (.str [48])), (1, .p (.int .i64 n))] [some (.cells [.ptr 0 0, .nsl 1 res.length 1] (.obj 39)), some (.bytes res 5)], true = true, true = true, true = true, some (some (Blk.cells [.ptr 0 0, .p .nils] (.obj 39))) = some (some (Blk.cells [.ptr 0 0, .p .nils] (.obj 39))), (decide (0 < (2 * 0 + n).toNat) && true) = true, IsExt Pd 43 (Extern.BytealgMakeNoZero.makeNoZero #[3] #[37]) ∧ 0 ≤ 2 * 0 + n ∧ 2 * 0 + n ≤ 1099511627776, fitsK .i64 (0 + n) = true, true = true, decide (0 - 0 < n) = true, true = true, decide (n < 0) = false, true = true, true = true, IsExt Pd 42 Extern.AbiNoEscape.same, true = true, decide (n > 8192) = false, decide (n ≤ 64) = false, decide (n ≤ 128) = false, decide (n ≤ 64) = false, decide (n ≤ 128) = false, decide (n ≤ 128) = false, true = true, true = true, false = false, false = false, true = true, false = false, fitsK .i64 n = true, decide (n > 9223372036854775807) = false, false = false, RC Pd G 55 [.p (.int .u64 1), .p (.int .u64 n)] [] (.tup [.p (.int .u64 0), .p (.int .u64 n)]) [], fitsK .u64 n = true, true = true, decide (n < 0) = false, (n == 1) = false, (n == 0) = false], .p (.str res), []) := by kernel_rfl

theorem reptZ3_p2 (n : Int) (res : List Nat) : runW Pd G T 100000 false [.br false, .br false, .br false, .callv (.tup [.p (.int .u64 0), .p (.int .u64 n)]) [], .br false, .br false, .br false, .br false, .br false, .br true, .br true, .br true, .inl, .inl, .br true, .br false, .br true, .inl, .inl, .br true, .br false, .br false, .br true, .inl, .inl, .br true, .br false, .br false, .br false, .inl, .inl, .br false, .br true, .inl, .inl, .inl, .tr 999999 (Tr.weak [9, 8, 7, 4, 0, 1] [] [0, 2]), .code (.exit 3) [(9, .ptr 0 0), (8, .p (.int .i64 n)), (7, .p (.int .i64 n)), (4, .p (.str [])), (0, .p (.str [48])), (1, .p (.int .i64 n))] [some (.cells [.ptr 0 0, .nsl 1 res.length 1] (.obj 39)), some (.bytes res 5)], .inl] [] [] 45 [.p (.str [48]), .p (.int .i64 n)] [] = some ([some (some (Blk.cells [.ptr 0 0, .nsl 1 res.length 1] (.obj 39))) = some (some (Blk.cells [.ptr 0 0, .nsl 1 res.length 1] (.obj 39))), (decide ((↑res.length : Int) = (↑res.length : Int)) && decide (res.length ≤ 1099511627776)) = true, LC Pd G 125 0 [(9, .ptr 0 0), (8, .p (.int .i64 n)), (7, .p (.int .i64 n)), (4, .p (.str [])), (0, .p (.str [48])), (1, .p (.int .i64 n))] [some (.cells [.ptr 0 0, .nsl 1 1 1] (.obj 39)), some (.bytes [48] 5)] (loopAt Pd 45 0) (.exit 3) [(9, .ptr 0 0), (8, .p (.int .i64 n)), (7, .p (.int .i64 n)), (4, .p (.str [])), (0, .p (.str [48])), (1, .p (.int .i64 n))] [some (.cells [.ptr 0 0, .nsl 1 res.length 1] (.obj 39)), some (.bytes res 5)], true = true, true = true, true = true, some (some (Blk.cells [.ptr 0 0, .p .nils] (.obj 39))) = some (some (Blk.cells [.ptr 0 0, .p .nils] (.obj 39))), (decide (0 < (2 * 0 + n).toNat) && true) = true, IsExt Pd 43 (Extern.BytealgMakeNoZero.makeNoZero #[3] #[37]) ∧ 0 ≤ 2 * 0 + n ∧ 2 * 0 + n ≤ 1099511627776, fitsK .i64 (0 + n) = true, true = true, decide (0 - 0 < n) = true, true = true, decide (n < 0) = false, true = true, true = true, IsExt Pd 42 Extern.AbiNoEscape.same, true = true, decide (n > 8192) = false, decide (n ≤ 64) = false, false = false, true = true, true = true, decide (n ≤ 128) = true, decide (n ≤ 64) = false, false = false, true = true, true = true, decide (n ≤ 128) = true, false = false, true = true, true = true, decide (n ≤ 128) = true, true = true, true = true, false = false, false = false, true = true, false = false, fitsK .i64 n = true, decide (n > 9223372036854775807) = false, false = false, RC Pd G 55 [.p (.int .u64 1), .p (.int .u64 n)] [] (.tup [.p (.int .u64 0), .p (.int .u64 n)]) [], fitsK .u64 n = true, true = true, decide (n < 0) = false, (n == 1) = false, (n == 0) = false], .p (.str res), []) := by kernel_rfl

theorem reptL_l1 (s out : List Nat) (n m k : Int) : runC Pd G T 100000 false [.inl, .br true, .inl, .inl, .inl, .inl, .inl] 125 0 [(9, .ptr 0 0), (8, .p (.int .i64 m)), (7, .p (.int .i64 n)), (4, .p (.str [])), (0, .p (.str s)), (1, .p (.int .i64 k))] [some (.cells [.ptr 0 0, .nsl 1 out.length 1] (.obj 39)), some (.bytes out 5)] (loopAt Pd 45 0) [9, 8, 7, 4, 0, 1] [] [0, 2] = some ([true = true, (true && decide (out.length = out.length) && decide (out.length + (subStr out none (some (if m < if (↑out.length : Int) < n - (↑out.length : Int) then (↑out.length : Int) else n - (↑out.length : Int) then m else if (↑out.length : Int) < n - (↑out.length : Int) then (↑out.length : Int) else n - (↑out.length : Int)))).length ≤ 1099511627776)) = true, (decide (0 ≤ if m < if (↑out.length : Int) < n - (↑out.length : Int) then (↑out.length : Int) else n - (↑out.length : Int) then m else if (↑out.length : Int) < n - (↑out.length : Int) then (↑out.length : Int) else n - (↑out.length : Int)) && decide ((if m < if (↑out.length : Int) < n - (↑out.length : Int) then (↑out.length : Int) else n - (↑out.length : Int) then m else if (↑out.length : Int) < n - (↑out.length : Int) then (↑out.length : Int) else n - (↑out.length : Int)) ≤ (↑out.length : Int))) = true, some (some (Blk.cells [.ptr 0 0, .nsl 1 out.length 1] (.obj 39))) = some (some (Blk.cells [.ptr 0 0, .nsl 1 out.length 1] (.obj 39))), (decide ((↑out.length : Int) = (↑out.length : Int)) && decide (out.length ≤ 1099511627776)) = true, fitsK .i64 (n - (↑out.length : Int)) = true, decide ((↑out.length : Int) < n) = true], .normal, [(9, .ptr 0 0), (8, .p (.int .i64 m)), (7, .p (.int .i64 n)), (4, .p (.str [])), (0, .p (.str s)), (1, .p (.int .i64 k))], [some (.cells [.ptr 0 0, .nsl 1 (out ++ List.take (if m < if (↑out.length : Int) < n - (↑out.length : Int) then (↑out.length : Int) else n - (↑out.length : Int) then m else if (↑out.length : Int) < n - (↑out.length : Int) then (↑out.length : Int) else n - (↑out.length : Int)).toNat out).length 1] (.obj 39)), some (.bytes (out ++ List.take (if m < if (↑out.length : Int) < n - (↑out.length : Int) then (↑out.length : Int) else n - (↑out.length : Int) then m else if (↑out.length : Int) < n - (↑out.length : Int) then (↑out.length : Int) else n - (↑out.length : Int)).toNat out) 5)]) := by kernel_rfl

theorem reptL_l2 (s out : List Nat) (n m k : Int) : runC Pd G T 100000 false [.inl, .br false] 125 0 [(9, .ptr 0 0), (8, .p (.int .i64 m)), (7, .p (.int .i64 n)), (4, .p (.str [])), (0, .p (.str s)), (1, .p (.int .i64 k))] [some (.cells [.ptr 0 0, .nsl 1 out.length 1] (.obj 39)), some (.bytes out 5)] (loopAt Pd 45 0) [9, 8, 7, 4, 0, 1] [] [0, 1] = some ([decide ((↑out.length : Int) < n) = false], .exit 3, [(9, .ptr 0 0), (8, .p (.int .i64 m)), (7, .p (.int .i64 n)), (4, .p (.str [])), (0, .p (.str s)), (1, .p (.int .i64 k))], [some (.cells [.ptr 0 0, .nsl 1 out.length 1] (.obj 39)), some (.bytes out 5)]) := by kernel_rfl


theorem max_u64 : IntKind.u64.max = 18446744073709551615 := by decide
theorem min_u64 : IntKind.u64.min = 0 := by decide
theorem max_u8 : IntKind.u8.max = 255 := by decide
theorem min_u8 : IntKind.u8.min = 0 := by decide

theorem ibit_and_low (n : Nat) (h : n < 4294967296) : ibit BinOp.and .u64 (n : Int) 4294967295 = (n : Int) := by
  have e1 : (BitVec.ofInt 64 (n : Int)) = BitVec.ofNat 64 n := by
    apply BitVec.eq_of_toNat_eq
    simp
  have e2 : (BitVec.ofInt 64 (4294967295 : Int)) = BitVec.ofNat 64 4294967295 := by decide
  show IntKind.u64.wrap ((BitVec.ofInt 64 (n : Int) &&& BitVec.ofInt 64 (4294967295 : Int)).toNat : Int) = _
  rw [e1, e2, BitVec.toNat_and]
  have h3 : (BitVec.ofNat 64 n).toNat = n := by simp; omega
  have h4 : (BitVec.ofNat 64 4294967295).toNat = 4294967295 := by decide
  rw [h3, h4]
  have h5 : n &&& 4294967295 = n := by
    have := Nat.and_two_pow_sub_one_eq_mod n 32
    rw [show (2 : Nat) ^ 32 - 1 = 4294967295 by decide] at this
    rw [this]
    exact Nat.mod_eq_of_lt (by simpa using h)
  rw [h5]
  exact wrap_fits (by unfold fitsK; rw [max_u64, min_u64]; simp; omega)

theorem mul_rc (hT : TabOk Pd G T) (n : Nat) (h : n < 4294967296) : RC Pd G 55 [.p (.int .u64 1), .p (.int .u64 (n : Nat))] [] (.tup [.p (.int .u64 0), .p (.int .u64 (n : Nat))]) [] := by
  have hi := ibit_and_low n h
  have hd : (n : Int).fdiv 4294967296 = 0 := by
    rw [Int.fdiv_eq_ediv_of_nonneg _ (by omega)]
    omega
  have h0 : ibit BinOp.and .u64 0 4294967295 = 0 := by simpa using ibit_and_low 0 (by omega)
  have key := mul_p1 (G := G) (T := T) (n : Int)
  simp only [hi, hd, Int.one_mul, Int.zero_mul, Int.zero_add, Int.mul_zero, Int.add_zero, Int.zero_fdiv, h0] at key
  refine RC.of_runFn hT key ?_
  simp only [AllT]
  repeat' (first | exact trivial | exact rfl | apply And.intro)
  all_goals (simp only [fitsK, max_i64, min_i64, max_u64, min_u64, Bool.and_eq_true, decide_eq_true_eq, decide_eq_false_iff_not, beq_eq_false_iff_ne, ne_eq, and_true, true_and]; omega)

def reptFr (s : List Nat) (n : Int) : Fr := [(9, .ptr 0 0), (8, .p (.int .i64 n)), (7, .p (.int .i64 n)), (4, .p (.str [])), (0, .p (.str s)), (1, .p (.int .i64 n))]

theorem take_rep (b m k : Nat) (h : k ≤ m) : List.take k (List.replicate m b) = List.replicate k b := by
  rw [List.take_replicate, Nat.min_eq_left h]

theorem rept_loop (hT : TabOk Pd G T) (s : List Nat) (b n : Nat) (hn : n ≤ 1000000) : ∀ (d m : Nat), m + d = n → 0 < m →
    LC Pd G 125 0 (reptFr s n) (bldH (List.replicate m b)) (loopAt Pd 45 0) (.exit 3) (reptFr s n) (bldH (List.replicate n b)) := by
  intro d
  induction d using Nat.strongRecOn with
  | _ d ih =>
    intro m hm h0
    have hl : (List.replicate m b).length = m := List.length_replicate
    by_cases hd : m < n
    · generalize hc : min m (n - m) = c
      have hc0 : 0 < c := by omega
      have hcm : c ≤ m := by omega
      have he : (if (n : Int) < (if ((List.replicate m b).length : Int) < (n : Int) - ((List.replicate m b).length : Int) then ((List.replicate m b).length : Int) else (n : Int) - ((List.replicate m b).length : Int)) then (n : Int)
          else (if ((List.replicate m b).length : Int) < (n : Int) - ((List.replicate m b).length : Int) then ((List.replicate m b).length : Int) else (n : Int) - ((List.replicate m b).length : Int))) = ((c : Nat) : Int) := by
        rw [hl]
        split <;> split at * <;> omega
      have key := reptL_l1 (G := G) (T := T) s (List.replicate m b) n n n
      simp only [he] at key
      have h2 : List.replicate m b ++ List.take (c : Int).toNat (List.replicate m b) = List.replicate (m + c) b := by
        rw [Int.toNat_natCast, take_rep b m c hcm, List.replicate_append_replicate]
      rw [h2] at key
      refine LC.go hT key ?_ (ih (d - c) (by omega) (m + c) (by omega) (by omega))
      simp only [subStr, Int.toNat_natCast, take_rep b m c hcm, hl, List.length_replicate, AllT]
      repeat' (first | exact trivial | exact rfl | apply And.intro)
      all_goals (simp only [fitsK, max_i64, min_i64, max_u64, min_u64, Bool.and_eq_true, decide_eq_true_eq, decide_eq_false_iff_not, beq_eq_false_iff_ne, ne_eq, and_true, true_and]; omega)
    · have hmn : m = n := by omega
      subst hmn
      exact LC.leave hT (reptL_l2 s (List.replicate m b) m m m) ⟨by rw [hl]; simp, trivial⟩ (by simp)

set_option maxRecDepth 20000 in
theorem reptS_rc (hT : TabOk Pd G T) (n : Nat) (hn : n ≤ 8000) : RC Pd G 45 [.p (.str [32]), .p (.int .i64 (n : Nat))] [] (.p (.str (List.replicate n 32))) [] := by
  have hmul := mul_rc (G := G) hT n (by omega)
  rcases Nat.lt_or_ge n 2 with h2 | h2
  · rcases (by omega : n = 0 ∨ n = 1) with rfl | rfl
    · exact RC.of_runFn hT (reptS0_p1 0) ⟨rfl, trivial⟩
    · exact RC.of_runFn hT (reptS0_p2 1) ⟨rfl, rfl, trivial⟩
  · rcases Nat.lt_or_ge n 129 with h3 | h3
    · have key := reptS1_p1 (G := G) (T := T) (n : Int)
      have e : ∀ l : List Nat, l = List.replicate 128 32 → List.take (n : Int).toNat l = List.replicate n 32 := by
        rintro l rfl
        rw [Int.toNat_natCast, take_rep 32 128 n (by omega)]
      rw [e _ rfl] at key
      refine RC.of_runFn hT key ?_
      simp only [AllT]
      repeat' (first | exact trivial | exact hmul | exact rfl | apply And.intro)
      all_goals (simp only [fitsK, max_i64, min_i64, max_u64, min_u64, Bool.and_eq_true, decide_eq_true_eq, decide_eq_false_iff_not, beq_eq_false_iff_ne, ne_eq, and_true, true_and]; omega)
    · have key := reptS2_p2 (G := G) (T := T) n (List.replicate n 32)
      refine RC.of_run hT key ?_
      have hlc := rept_loop (G := G) hT [32] 32 n (by omega) (n - 1) 1 (by omega) (by omega)
      simp only [AllT, List.length_replicate]
      repeat' (first | exact trivial | exact hmul | exact rfl | exact isExt42 | exact isExt43 | apply And.intro)
      all_goals try (simp only [fitsK, max_i64, min_i64, max_u64, min_u64, Bool.and_eq_true, decide_eq_true_eq, decide_eq_false_iff_not, beq_eq_false_iff_ne, ne_eq, and_true, true_and]; omega)
      all_goals try omega
      all_goals (simp only [bldH, reptFr, List.length_replicate] at hlc; exact hlc)

set_option maxRecDepth 20000 in
theorem reptZ_rc (hT : TabOk Pd G T) (n : Nat) (hn : n ≤ 8000) : RC Pd G 45 [.p (.str [48]), .p (.int .i64 (n : Nat))] [] (.p (.str (List.replicate n 48))) [] := by
  have hmul := mul_rc (G := G) hT n (by omega)
  have hlc := fun h => rept_loop (G := G) hT [48] 48 n (by omega) (n - 1) 1 h (by omega)
  rcases Nat.lt_or_ge n 2 with h2 | h2
  · rcases (by omega : n = 0 ∨ n = 1) with rfl | rfl
    · exact RC.of_runFn hT (reptZ0_p1 0) ⟨rfl, trivial⟩
    · exact RC.of_runFn hT (reptZ0_p2 1) ⟨rfl, rfl, trivial⟩
  · rcases Nat.lt_or_ge n 65 with h3 | h3
    · have key := reptZ1_p1 (G := G) (T := T) (n : Int)
      have e : ∀ l : List Nat, l = List.replicate 64 48 → List.take (n : Int).toNat l = List.replicate n 48 := by
        rintro l rfl
        rw [Int.toNat_natCast, take_rep 48 64 n (by omega)]
      rw [e _ rfl] at key
      refine RC.of_runFn hT key ?_
      simp only [AllT]
      repeat' (first | exact trivial | exact hmul | exact rfl | apply And.intro)
      all_goals (simp only [fitsK, max_i64, min_i64, max_u64, min_u64, Bool.and_eq_true, decide_eq_true_eq, decide_eq_false_iff_not, beq_eq_false_iff_ne, ne_eq, and_true, true_and]; omega)
    · have hlc := hlc (by omega)
      rcases Nat.lt_or_ge n 129 with h4 | h4
      · have key := reptZ3_p2 (G := G) (T := T) n (List.replicate n 48)
        refine RC.of_run hT key ?_
        simp only [AllT, List.length_replicate]
        repeat' (first | exact trivial | exact hmul | exact rfl | exact isExt42 | exact isExt43 | apply And.intro)
        all_goals try (simp only [fitsK, max_i64, min_i64, max_u64, min_u64, Bool.and_eq_true, decide_eq_true_eq, decide_eq_false_iff_not, beq_eq_false_iff_ne, ne_eq, and_true, true_and]; omega)
        all_goals try omega
        all_goals (simp only [bldH, reptFr, List.length_replicate] at hlc; exact hlc)
      · have key := reptZ2_p2 (G := G) (T := T) n (List.replicate n 48)
        refine RC.of_run hT key ?_
        simp only [AllT, List.length_replicate]
        repeat' (first | exact trivial | exact hmul | exact rfl | exact isExt42 | exact isExt43 | apply And.intro)
        all_goals try (simp only [fitsK, max_i64, min_i64, max_u64, min_u64, Bool.and_eq_true, decide_eq_true_eq, decide_eq_false_iff_not, beq_eq_false_iff_ne, ne_eq, and_true, true_and]; omega)
        all_goals try omega
        all_goals (simp only [bldH, reptFr, List.length_replicate] at hlc; exact hlc)
end
end Go.Vc

/- VdFmt1 -/
namespace Go.Vc
set_option linter.unusedVariables false
set_option linter.unusedSimpArgs false
section
variable {G : Glob} {T : Tab}
theorem complain_p1 (out : List Nat) (n : Nat) (ps : List PV) (used done : Bool) (msg s : List Nat) : runFn Pd G T 100000 false [.br true] 24 [.ptr 0 0, .p (.str s)] [some (.cells [.mptr 0 0, .nsl 1 out.length 1, .p (.lst n ps), .p (.bool used), .p (.bool done), .p (.str msg)] (.obj 41)), some (.bytes out 5)] = some ([true = true, (msg == []) = true], .tup [], [some (.cells [.mptr 0 0, .nsl 1 out.length 1, .p (.lst n ps), .p (.bool used), .p (.bool done), .p (.str s)] (.obj 41)), some (.bytes out 5)]) := by kernel_rfl

theorem complain_p2 (out : List Nat) (n : Nat) (ps : List PV) (used done : Bool) (msg s : List Nat) : runFn Pd G T 100000 false [.br false] 24 [.ptr 0 0, .p (.str s)] [some (.cells [.mptr 0 0, .nsl 1 out.length 1, .p (.lst n ps), .p (.bool used), .p (.bool done), .p (.str msg)] (.obj 41)), some (.bytes out 5)] = some ([(msg == []) = false], .tup [], [some (.cells [.mptr 0 0, .nsl 1 out.length 1, .p (.lst n ps), .p (.bool used), .p (.bool done), .p (.str msg)] (.obj 41)), some (.bytes out 5)]) := by kernel_rfl

theorem addn_p1 (out : List Nat) (n : Nat) (ps : List PV) (used done : Bool) (msg s : List Nat) : runW Pd G T 100000 false [.inl, .br true, .inl, .br true, .tr 888888 (Tr.may 0 0 0 0), .tr 888888 Tr.dk] [] [1] 22 [.ptr 0 0, .p (.str s)] [some (.cells [.p .nilp, .nsl 1 out.length 1, .p (.lst n ps), .p (.bool used), .p (.bool done), .p (.str msg)] (.obj 41)), some (.bytes out 5)] = some ([true = true, true = true, (msg == []) = true, decide ((↑out.length : Int) + (↑s.length : Int) > 65536) = true, fitsK .i64 ((↑out.length : Int) + (↑s.length : Int)) = true], .tup [], [some (.cells [.mptr 0 0, .nsl 2 out.length 1, .p (.lst n ps), .p (.bool used), .p (.bool true), .p (.str [111, 117, 116, 112, 117, 116, 32, 116, 111, 111, 32, 108, 111, 110, 103])] (.obj 41)), none, some (.bytes out 5)]) := by kernel_rfl

theorem addn_p2 (out : List Nat) (n : Nat) (ps : List PV) (used done : Bool) (msg s : List Nat) : runW Pd G T 100000 false [.inl, .br true, .inl, .br false, .tr 888888 (Tr.may 0 0 0 0), .tr 888888 Tr.dk] [] [1] 22 [.ptr 0 0, .p (.str s)] [some (.cells [.p .nilp, .nsl 1 out.length 1, .p (.lst n ps), .p (.bool used), .p (.bool done), .p (.str msg)] (.obj 41)), some (.bytes out 5)] = some ([true = true, (msg == []) = false, decide ((↑out.length : Int) + (↑s.length : Int) > 65536) = true, fitsK .i64 ((↑out.length : Int) + (↑s.length : Int)) = true], .tup [], [some (.cells [.mptr 0 0, .nsl 2 out.length 1, .p (.lst n ps), .p (.bool used), .p (.bool true), .p (.str msg)] (.obj 41)), none, some (.bytes out 5)]) := by kernel_rfl

theorem addn_p3 (out : List Nat) (n : Nat) (ps : List PV) (used done : Bool) (msg s : List Nat) : runW Pd G T 100000 false [.inl, .br false, .inl, .inl, .tr 888888 (Tr.may 0 0 0 0), .tr 888888 Tr.dk] [] [2] 22 [.ptr 0 0, .p (.str s)] [some (.cells [.p .nilp, .nsl 1 out.length 1, .p (.lst n ps), .p (.bool used), .p (.bool done), .p (.str msg)] (.obj 41)), some (.bytes out 5)] = some ([true = true, (true && decide (out.length = out.length) && decide (out.length + s.length ≤ 1099511627776)) = true, true = true, true = true, IsExt Pd 42 Extern.AbiNoEscape.same, true = true, decide ((↑out.length : Int) + (↑s.length : Int) > 65536) = false, fitsK .i64 ((↑out.length : Int) + (↑s.length : Int)) = true], .tup [], [some (.cells [.mptr 0 0, .nsl 2 (out ++ s).length 1, .p (.lst n ps), .p (.bool used), .p (.bool done), .p (.str msg)] (.obj 41)), none, some (.bytes (out ++ s) 5)]) := by kernel_rfl

theorem addp_p1 (out : List Nat) (n : Nat) (ps : List PV) (used done : Bool) (msg s : List Nat) : runW Pd G T 100000 false [.inl, .br true, .inl, .br true, .tr 888888 (Tr.may 0 0 0 0), .tr 888888 Tr.dk] [] [1] 22 [.ptr 0 0, .p (.str s)] [some (.cells [.ptr 0 0, .nsl 1 out.length 1, .p (.lst n ps), .p (.bool used), .p (.bool done), .p (.str msg)] (.obj 41)), some (.bytes out 5)] = some ([true = true, true = true, (msg == []) = true, decide ((↑out.length : Int) + (↑s.length : Int) > 65536) = true, fitsK .i64 ((↑out.length : Int) + (↑s.length : Int)) = true], .tup [], [some (.cells [.mptr 0 0, .nsl 2 out.length 1, .p (.lst n ps), .p (.bool used), .p (.bool true), .p (.str [111, 117, 116, 112, 117, 116, 32, 116, 111, 111, 32, 108, 111, 110, 103])] (.obj 41)), none, some (.bytes out 5)]) := by kernel_rfl

theorem addp_p2 (out : List Nat) (n : Nat) (ps : List PV) (used done : Bool) (msg s : List Nat) : runW Pd G T 100000 false [.inl, .br true, .inl, .br false, .tr 888888 (Tr.may 0 0 0 0), .tr 888888 Tr.dk] [] [1] 22 [.ptr 0 0, .p (.str s)] [some (.cells [.ptr 0 0, .nsl 1 out.length 1, .p (.lst n ps), .p (.bool used), .p (.bool done), .p (.str msg)] (.obj 41)), some (.bytes out 5)] = some ([true = true, (msg == []) = false, decide ((↑out.length : Int) + (↑s.length : Int) > 65536) = true, fitsK .i64 ((↑out.length : Int) + (↑s.length : Int)) = true], .tup [], [some (.cells [.mptr 0 0, .nsl 2 out.length 1, .p (.lst n ps), .p (.bool used), .p (.bool true), .p (.str msg)] (.obj 41)), none, some (.bytes out 5)]) := by kernel_rfl

theorem addp_p3 (out : List Nat) (n : Nat) (ps : List PV) (used done : Bool) (msg s : List Nat) : runW Pd G T 100000 false [.inl, .br false, .inl, .inl, .tr 888888 (Tr.may 0 0 0 0), .tr 888888 Tr.dk] [] [2] 22 [.ptr 0 0, .p (.str s)] [some (.cells [.ptr 0 0, .nsl 1 out.length 1, .p (.lst n ps), .p (.bool used), .p (.bool done), .p (.str msg)] (.obj 41)), some (.bytes out 5)] = some ([true = true, (true && decide (out.length = out.length) && decide (out.length + s.length ≤ 1099511627776)) = true, decide ((↑out.length : Int) + (↑s.length : Int) > 65536) = false, fitsK .i64 ((↑out.length : Int) + (↑s.length : Int)) = true], .tup [], [some (.cells [.mptr 0 0, .nsl 2 (out ++ s).length 1, .p (.lst n ps), .p (.bool used), .p (.bool done), .p (.str msg)] (.obj 41)), none, some (.bytes (out ++ s) 5)]) := by kernel_rfl

theorem operand_p1 (out : List Nat) (n : Nat) (ps : List PV) (used done : Bool) (msg x : List Nat) : runFn Pd G T 100000 false [.br true, .tr 888888 Tr.dk] 36 [.ptr 0 0] [some (.cells [.mptr 0 0, .nsl 1 out.length 1, .p (.lst n ps), .p (.bool used), .p (.bool done), .p (.str msg)] (.obj 41)), some (.bytes out 5)] = some ([((↑n : Int) == 0) = true], .p (.str []), [some (.cells [.mptr 0 0, .nsl 1 out.length 1, .p (.lst n ps), .p (.bool used), .p (.bool done), .p (.str msg)] (.obj 41)), some (.bytes out 5)]) := by kernel_rfl

theorem operand_p2 (out : List Nat) (n : Nat) (ps : List PV) (used done : Bool) (msg x : List Nat) : runFn Pd G T 100000 false [.br false, .is 15 (.p (.str x)), .tr 888888 Tr.dk] 36 [.ptr 0 0] [some (.cells [.mptr 0 0, .nsl 1 out.length 1, .p (.lst n ps), .p (.bool used), .p (.bool done), .p (.str msg)] (.obj 41)), some (.bytes out 5)] = some ([true = true, true = true, (true && decide (1 ≤ (↑n : Int))) = true, Claim Pd G [(14, .p (.elem ps 0)), (13, .p (.lst n ps)), (12, .ptr 0 2), (11, .ptr 0 0), (10, .ptr 0 0), (9, .p (.bool ((↑n : Int) == 0))), (8, .p (.int .i64 (↑n : Int))), (7, .p (.lst n ps)), (6, .ptr 0 2), (5, .ptr 0 0), (4, .ptr 0 0), (2, .p (.str [])), (0, .ptr 0 0)] [some (.cells [.mptr 0 0, .nsl 1 out.length 1, .p (.lst n ps), .p (.bool used), .p (.bool done), .p (.str msg)] (.obj 41)), some (.bytes out 5)] { dst := some 15, op := Op.load 9 (Operand.tmp 14), type := 9, pos := "format.go:107", after := #[{ on := 4, ground := Ground.data }], guard := none } (.p (.str x)), (true && decide (0 < (↑n : Int))) = true, ((↑n : Int) == 0) = false], .p (.str x), [some (.cells [.mptr 0 0, .nsl 1 out.length 1, .p (.lst (n - 1) (List.drop 1 (List.take (n * 1) ps))), .p (.bool true), .p (.bool done), .p (.str msg)] (.obj 41)), some (.bytes out 5)]) := by kernel_rfl

theorem cut_p1 (s : List Nat) (mi ze pl : Bool) (wi pr : Int) (ex : Bool) (le ln : Int) : runW Pd G T 100000 false [.br true, .br true] [] [] 37 [.p (.agg [.bool mi, .bool ze, .bool pl, .int .i64 wi, .int .i64 pr, .bool ex, .int .u8 le, .int .i64 ln]), .p (.str s)] [] = some ([(decide (0 ≤ pr) && decide (pr ≤ (↑s.length : Int))) = true, decide ((↑s.length : Int) > pr) = true, ex = true], .p (.str (List.take pr.toNat s)), []) := by kernel_rfl

theorem cut_p2 (s : List Nat) (mi ze pl : Bool) (wi pr : Int) (ex : Bool) (le ln : Int) : runW Pd G T 100000 false [.br true, .br false] [] [] 37 [.p (.agg [.bool mi, .bool ze, .bool pl, .int .i64 wi, .int .i64 pr, .bool ex, .int .u8 le, .int .i64 ln]), .p (.str s)] [] = some ([decide ((↑s.length : Int) > pr) = false, ex = true], .p (.str s), []) := by kernel_rfl

theorem cut_p3 (s : List Nat) (mi ze pl : Bool) (wi pr : Int) (ex : Bool) (le ln : Int) : runW Pd G T 100000 false [.br false] [] [] 37 [.p (.agg [.bool mi, .bool ze, .bool pl, .int .i64 wi, .int .i64 pr, .bool ex, .int .u8 le, .int .i64 ln]), .p (.str s)] [] = some ([ex = false], .p (.str s), []) := by kernel_rfl

theorem fill_p1 (s r : List Nat) (mi ze pl : Bool) (wi pr : Int) (ex : Bool) (le ln : Int) : runW Pd G T 100000 false [.br true] [] [] 35 [.p (.agg [.bool mi, .bool ze, .bool pl, .int .i64 wi, .int .i64 pr, .bool ex, .int .u8 le, .int .i64 ln]), .p (.str s)] [] = some ([decide (wi - (↑s.length : Int) ≤ 0) = true, fitsK .i64 (wi - (↑s.length : Int)) = true], .p (.str s), []) := by kernel_rfl

theorem fill_p2 (s r : List Nat) (mi ze pl : Bool) (wi pr : Int) (ex : Bool) (le ln : Int) : runW Pd G T 100000 false [.br false, .br true, .callv (.p (.str r)) []] [] [] 35 [.p (.agg [.bool mi, .bool ze, .bool pl, .int .i64 wi, .int .i64 pr, .bool ex, .int .u8 le, .int .i64 ln]), .p (.str s)] [] = some ([decide (s.length + r.length ≤ 4611686018427387904) = true, RC Pd G 45 [.p (.str [32]), .p (.int .i64 (wi - (↑s.length : Int)))] [] (.p (.str r)) [], mi = true, decide (wi - (↑s.length : Int) ≤ 0) = false, fitsK .i64 (wi - (↑s.length : Int)) = true], .p (.str (s ++ r)), []) := by kernel_rfl

theorem fill_p3 (s r : List Nat) (mi ze pl : Bool) (wi pr : Int) (ex : Bool) (le ln : Int) : runW Pd G T 100000 false [.br false, .br false, .callv (.p (.str r)) []] [] [] 35 [.p (.agg [.bool mi, .bool ze, .bool pl, .int .i64 wi, .int .i64 pr, .bool ex, .int .u8 le, .int .i64 ln]), .p (.str s)] [] = some ([decide (r.length + s.length ≤ 4611686018427387904) = true, RC Pd G 45 [.p (.str [32]), .p (.int .i64 (wi - (↑s.length : Int)))] [] (.p (.str r)) [], mi = false, decide (wi - (↑s.length : Int) ≤ 0) = false, fitsK .i64 (wi - (↑s.length : Int)) = true], .p (.str (r ++ s)), []) := by kernel_rfl

theorem simple_p1 (c : Int) : runFn Pd G T 100000 false [.br true] 29 [.p (.int .u8 c)] [] = some ([(c == 92) = true], .tup [.p (.str [92]), .kb true], []) := by kernel_rfl

theorem simple_p2 (c : Int) : runFn Pd G T 100000 false [.br false, .br true] 29 [.p (.int .u8 c)] [] = some ([(c == 97) = true, (c == 92) = false], .tup [.p (.str [7]), .kb true], []) := by kernel_rfl

theorem simple_p3 (c : Int) : runFn Pd G T 100000 false [.br false, .br false, .br true] 29 [.p (.int .u8 c)] [] = some ([(c == 98) = true, (c == 97) = false, (c == 92) = false], .tup [.p (.str [8]), .kb true], []) := by kernel_rfl

theorem simple_p4 (c : Int) : runFn Pd G T 100000 false [.br false, .br false, .br false, .br true] 29 [.p (.int .u8 c)] [] = some ([(c == 102) = true, (c == 98) = false, (c == 97) = false, (c == 92) = false], .tup [.p (.str [12]), .kb true], []) := by kernel_rfl

theorem simple_p5 (c : Int) : runFn Pd G T 100000 false [.br false, .br false, .br false, .br false, .br true] 29 [.p (.int .u8 c)] [] = some ([(c == 110) = true, (c == 102) = false, (c == 98) = false, (c == 97) = false, (c == 92) = false], .tup [.p (.str [10]), .kb true], []) := by kernel_rfl

theorem simple_p6 (c : Int) : runFn Pd G T 100000 false [.br false, .br false, .br false, .br false, .br false, .br true] 29 [.p (.int .u8 c)] [] = some ([(c == 114) = true, (c == 110) = false, (c == 102) = false, (c == 98) = false, (c == 97) = false, (c == 92) = false], .tup [.p (.str [13]), .kb true], []) := by kernel_rfl

theorem simple_p7 (c : Int) : runFn Pd G T 100000 false [.br false, .br false, .br false, .br false, .br false, .br false, .br true] 29 [.p (.int .u8 c)] [] = some ([(c == 116) = true, (c == 114) = false, (c == 110) = false, (c == 102) = false, (c == 98) = false, (c == 97) = false, (c == 92) = false], .tup [.p (.str [9]), .kb true], []) := by kernel_rfl

theorem simple_p8 (c : Int) : runFn Pd G T 100000 false [.br false, .br false, .br false, .br false, .br false, .br false, .br false, .br true] 29 [.p (.int .u8 c)] [] = some ([(c == 118) = true, (c == 116) = false, (c == 114) = false, (c == 110) = false, (c == 102) = false, (c == 98) = false, (c == 97) = false, (c == 92) = false], .tup [.p (.str [11]), .kb true], []) := by kernel_rfl

theorem simple_p9 (c : Int) : runFn Pd G T 100000 false [.br false, .br false, .br false, .br false, .br false, .br false, .br false, .br false] 29 [.p (.int .u8 c)] [] = some ([(c == 118) = false, (c == 116) = false, (c == 114) = false, (c == 110) = false, (c == 102) = false, (c == 98) = false, (c == 97) = false, (c == 92) = false], .tup [.p (.str []), .kb false], []) := by kernel_rfl

theorem octL_l1 (s : List Nat) (n : Int) (pos : Nat) : runC Pd G T 100000 false [.br true, .br true] 29 0 [(8, .it 0), (7, .p (.str s)), (4, .p (.int .i64 0)), (0, .p (.str s)), (1, .p (.int .i64 n))] [some (.iter s pos)] (loopAt Pd 30 0) [8, 7, 4, 0, 1] [] [0] = some ([((↑pos : Int) == n) = true, decide (pos < s.length) = true, decide (pos < s.length) = true], .ret, [(8, .it 0), (7, .p (.str s)), (4, .p (.int .i64 (↑pos : Int))), (0, .p (.str s)), (1, .p (.int .i64 n))], [some (.iter s (pos + (decodeL s pos).snd))]) := by kernel_rfl

theorem octL_l2 (s : List Nat) (n : Int) (pos : Nat) : runC Pd G T 100000 false [.br true, .br false, .br true] 29 0 [(8, .it 0), (7, .p (.str s)), (4, .p (.int .i64 0)), (0, .p (.str s)), (1, .p (.int .i64 n))] [some (.iter s pos)] (loopAt Pd 30 0) [8, 7, 4, 0, 1] [] [0] = some ([decide ((↑(decodeL s pos).fst : Int) < 48) = true, ((↑pos : Int) == n) = false, decide (pos < s.length) = true, decide (pos < s.length) = true], .ret, [(8, .it 0), (7, .p (.str s)), (4, .p (.int .i64 (↑pos : Int))), (0, .p (.str s)), (1, .p (.int .i64 n))], [some (.iter s (pos + (decodeL s pos).snd))]) := by kernel_rfl

theorem octL_l3 (s : List Nat) (n : Int) (pos : Nat) : runC Pd G T 100000 false [.br true, .br false, .br false, .br true] 29 0 [(8, .it 0), (7, .p (.str s)), (4, .p (.int .i64 0)), (0, .p (.str s)), (1, .p (.int .i64 n))] [some (.iter s pos)] (loopAt Pd 30 0) [8, 7, 4, 0, 1] [] [0] = some ([decide ((↑(decodeL s pos).fst : Int) > 55) = true, decide ((↑(decodeL s pos).fst : Int) < 48) = false, ((↑pos : Int) == n) = false, decide (pos < s.length) = true, decide (pos < s.length) = true], .ret, [(8, .it 0), (7, .p (.str s)), (4, .p (.int .i64 (↑pos : Int))), (0, .p (.str s)), (1, .p (.int .i64 n))], [some (.iter s (pos + (decodeL s pos).snd))]) := by kernel_rfl

theorem octL_l4 (s : List Nat) (n : Int) (pos : Nat) : runC Pd G T 100000 false [.br true, .br false, .br false, .br false] 29 0 [(8, .it 0), (7, .p (.str s)), (4, .p (.int .i64 0)), (0, .p (.str s)), (1, .p (.int .i64 n))] [some (.iter s pos)] (loopAt Pd 30 0) [8, 7, 4, 0, 1] [] [0] = some ([decide ((↑(decodeL s pos).fst : Int) > 55) = false, decide ((↑(decodeL s pos).fst : Int) < 48) = false, ((↑pos : Int) == n) = false, decide (pos < s.length) = true, decide (pos < s.length) = true], .normal, [(8, .it 0), (7, .p (.str s)), (4, .p (.int .i64 0)), (0, .p (.str s)), (1, .p (.int .i64 n))], [some (.iter s (pos + (decodeL s pos).snd))]) := by kernel_rfl

theorem octL_l5 (s : List Nat) (n : Int) (pos : Nat) : runC Pd G T 100000 false [.br false] 29 0 [(8, .it 0), (7, .p (.str s)), (4, .p (.int .i64 0)), (0, .p (.str s)), (1, .p (.int .i64 n))] [some (.iter s pos)] (loopAt Pd 30 0) [8, 7, 4, 0, 1] [] [0] = some ([decide (s.length ≤ pos) = true, decide (pos < s.length) = false], .exit 0, [(8, .it 0), (7, .p (.str s)), (4, .p (.int .i64 0)), (0, .p (.str s)), (1, .p (.int .i64 n))], [some (.iter s pos)]) := by kernel_rfl

theorem codeL_l1 (s : List Nat) (i n : Int) : runC Pd G T 100000 false [.br true] 24 0 [(7, .p (.int .i64 i)), (6, .p (.int .i64 (↑s.length : Int))), (5, .p (.str s)), (3, .p (.int .i64 n)), (2, .p (.str [])), (0, .p (.str s))] [] (loopAt Pd 31 0) [7, 6, 5, 3, 2, 0] [] [] = some ([fitsK .i64 (i + 1) = true, fitsK .i64 (8 * n + ((↑(s.getD i.toNat 0) : Int) - 48)) = true, fitsK .i64 ((↑(s.getD i.toNat 0) : Int) - 48) = true, fitsK .u8 ((↑(s.getD i.toNat 0) : Int) - 48) = true, (decide (0 ≤ i) && decide (i < (↑s.length : Int))) = true, fitsK .i64 (8 * n) = true, decide (i < (↑s.length : Int)) = true], .normal, [(7, .p (.int .i64 (i + 1))), (6, .p (.int .i64 (↑s.length : Int))), (5, .p (.str s)), (3, .p (.int .i64 (8 * n + ((↑(s.getD i.toNat 0) : Int) - 48)))), (2, .p (.str [])), (0, .p (.str s))], []) := by kernel_rfl

theorem codeL_l2 (s : List Nat) (i n : Int) : runC Pd G T 100000 false [.br false] 24 0 [(7, .p (.int .i64 i)), (6, .p (.int .i64 (↑s.length : Int))), (5, .p (.str s)), (3, .p (.int .i64 n)), (2, .p (.str [])), (0, .p (.str s))] [] (loopAt Pd 31 0) [7, 6, 5, 3, 2, 0] [] [] = some ([decide (i < (↑s.length : Int)) = false], .exit 0, [(7, .p (.int .i64 i)), (6, .p (.int .i64 (↑s.length : Int))), (5, .p (.str s)), (3, .p (.int .i64 n)), (2, .p (.str [])), (0, .p (.str s))], []) := by kernel_rfl

theorem countL_l1 (s : List Nat) (i n : Int) : runC Pd G T 100000 false [.br true, .br true, .br true] 38 0 [(6, .p (.int .i64 i)), (5, .p (.int .i64 n)), (4, .kb false), (3, .p (.int .i64 0)), (2, .p (.int .i64 0)), (0, .p (.str s))] [] (loopAt Pd 34 0) [6, 5, 4, 3, 2, 0] [] [] = some ([fitsK .i64 (i + 1) = true, fitsK .i64 (10 * n + ((↑(s.getD i.toNat 0) : Int) - 48)) = true, fitsK .i64 ((↑(s.getD i.toNat 0) : Int) - 48) = true, fitsK .u8 ((↑(s.getD i.toNat 0) : Int) - 48) = true, (decide (0 ≤ i) && decide (i < (↑s.length : Int))) = true, fitsK .i64 (10 * n) = true, decide ((↑(s.getD i.toNat 0) : Int) ≤ 57) = true, (decide (0 ≤ i) && decide (i < (↑s.length : Int))) = true, decide ((↑(s.getD i.toNat 0) : Int) ≥ 48) = true, (decide (0 ≤ i) && decide (i < (↑s.length : Int))) = true, decide (i < (↑s.length : Int)) = true], .normal, [(6, .p (.int .i64 (i + 1))), (5, .p (.int .i64 (if 10 * n + ((↑(s.getD i.toNat 0) : Int) - 48) < 4097 then 10 * n + ((↑(s.getD i.toNat 0) : Int) - 48) else 4097))), (4, .kb false), (3, .p (.int .i64 0)), (2, .p (.int .i64 0)), (0, .p (.str s))], []) := by kernel_rfl

theorem countL_l2 (s : List Nat) (i n : Int) : runC Pd G T 100000 false [.br true, .br true, .br false] 38 0 [(6, .p (.int .i64 i)), (5, .p (.int .i64 n)), (4, .kb false), (3, .p (.int .i64 0)), (2, .p (.int .i64 0)), (0, .p (.str s))] [] (loopAt Pd 34 0) [6, 5, 4, 3, 2, 0] [] [] = some ([decide ((↑(s.getD i.toNat 0) : Int) ≤ 57) = false, (decide (0 ≤ i) && decide (i < (↑s.length : Int))) = true, decide ((↑(s.getD i.toNat 0) : Int) ≥ 48) = true, (decide (0 ≤ i) && decide (i < (↑s.length : Int))) = true, decide (i < (↑s.length : Int)) = true], .exit 0, [(6, .p (.int .i64 i)), (5, .p (.int .i64 n)), (4, .kb false), (3, .p (.int .i64 0)), (2, .p (.int .i64 0)), (0, .p (.str s))], []) := by kernel_rfl

theorem countL_l3 (s : List Nat) (i n : Int) : runC Pd G T 100000 false [.br true, .br false] 38 0 [(6, .p (.int .i64 i)), (5, .p (.int .i64 n)), (4, .kb false), (3, .p (.int .i64 0)), (2, .p (.int .i64 0)), (0, .p (.str s))] [] (loopAt Pd 34 0) [6, 5, 4, 3, 2, 0] [] [] = some ([decide ((↑(s.getD i.toNat 0) : Int) ≥ 48) = false, (decide (0 ≤ i) && decide (i < (↑s.length : Int))) = true, decide (i < (↑s.length : Int)) = true], .exit 0, [(6, .p (.int .i64 i)), (5, .p (.int .i64 n)), (4, .kb false), (3, .p (.int .i64 0)), (2, .p (.int .i64 0)), (0, .p (.str s))], []) := by kernel_rfl

theorem countL_l4 (s : List Nat) (i n : Int) : runC Pd G T 100000 false [.br false] 38 0 [(6, .p (.int .i64 i)), (5, .p (.int .i64 n)), (4, .kb false), (3, .p (.int .i64 0)), (2, .p (.int .i64 0)), (0, .p (.str s))] [] (loopAt Pd 34 0) [6, 5, 4, 3, 2, 0] [] [] = some ([decide (i < (↑s.length : Int)) = false], .exit 0, [(6, .p (.int .i64 i)), (5, .p (.int .i64 n)), (4, .kb false), (3, .p (.int .i64 0)), (2, .p (.int .i64 0)), (0, .p (.str s))], []) := by kernel_rfl

theorem oct1_p1 (s : List Nat) (n : Int) (pos : Nat) : runW Pd G T 100000 false [.tr 999999 (Tr.weak [8, 7, 4, 0, 1] [] [0]), .code (.exit 0) [(8, .it 0), (7, .p (.str s)), (4, .p (.int .i64 0)), (0, .p (.str s)), (1, .p (.int .i64 n))] [some (.iter s pos)]] [] [] 30 [.p (.str s), .p (.int .i64 n)] [] = some ([LC Pd G 29 0 [(8, .it 0), (7, .p (.str s)), (4, .p (.int .i64 0)), (0, .p (.str s)), (1, .p (.int .i64 n))] [some (.iter s 0)] (loopAt Pd 30 0) (.exit 0) [(8, .it 0), (7, .p (.str s)), (4, .p (.int .i64 0)), (0, .p (.str s)), (1, .p (.int .i64 n))] [some (.iter s pos)]], .p (.int .i64 (if (↑s.length : Int) < n then (↑s.length : Int) else n)), []) := by kernel_rfl

theorem oct2_p1 (s : List Nat) (n : Int) (pos : Nat) (r : Int) : runW Pd G T 100000 false [.tr 999999 (Tr.weak [8, 7, 4, 0, 1] [] [0]), .code .ret [(8, .it 0), (7, .p (.str s)), (4, .p (.int .i64 r)), (0, .p (.str s)), (1, .p (.int .i64 n))] [some (.iter s pos)]] [] [] 30 [.p (.str s), .p (.int .i64 n)] [] = some ([LC Pd G 29 0 [(8, .it 0), (7, .p (.str s)), (4, .p (.int .i64 0)), (0, .p (.str s)), (1, .p (.int .i64 n))] [some (.iter s 0)] (loopAt Pd 30 0) .ret [(8, .it 0), (7, .p (.str s)), (4, .p (.int .i64 r)), (0, .p (.str s)), (1, .p (.int .i64 n))] [some (.iter s pos)]], .p (.int .i64 r), []) := by kernel_rfl

theorem code_p1 (s : List Nat) (m : Int) : runW Pd G T 100000 false [.tr 999999 (Tr.weak [7, 6, 5, 3, 2, 0] [] []), .code (.exit 0) [(7, .p (.int .i64 (↑s.length : Int))), (6, .p (.int .i64 (↑s.length : Int))), (5, .p (.str s)), (3, .p (.int .i64 m)), (2, .p (.str [])), (0, .p (.str s))] []] [] [] 31 [.p (.str s)] [] = some ([true = true, fitsK .u8 (m.tmod 256) = true, true = true, LC Pd G 24 0 [(7, .p (.int .i64 0)), (6, .p (.int .i64 (↑s.length : Int))), (5, .p (.str s)), (3, .p (.int .i64 0)), (2, .p (.str [])), (0, .p (.str s))] [] (loopAt Pd 31 0) (.exit 0) [(7, .p (.int .i64 (↑s.length : Int))), (6, .p (.int .i64 (↑s.length : Int))), (5, .p (.str s)), (3, .p (.int .i64 m)), (2, .p (.str [])), (0, .p (.str s))] []], .p (.str [(m.tmod 256).toNat % 256]), []) := by kernel_rfl

theorem count_p1 (s : List Nat) (k m : Int) : runFn Pd G T 100000 false [.tr 999999 (Tr.weak [6, 5, 4, 3, 2, 0] [] []), .code (.exit 0) [(6, .p (.int .i64 k)), (5, .p (.int .i64 m)), (4, .kb false), (3, .p (.int .i64 0)), (2, .p (.int .i64 0)), (0, .p (.str s))] []] 34 [.p (.str s)] [] = some ([LC Pd G 38 0 [(6, .p (.int .i64 0)), (5, .p (.int .i64 0)), (4, .kb false), (3, .p (.int .i64 0)), (2, .p (.int .i64 0)), (0, .p (.str s))] [] (loopAt Pd 34 0) (.exit 0) [(6, .p (.int .i64 k)), (5, .p (.int .i64 m)), (4, .kb false), (3, .p (.int .i64 0)), (2, .p (.int .i64 0)), (0, .p (.str s))] []], .tup [.p (.int .i64 m), .p (.int .i64 k), .p (.bool (decide (m ≤ 4096)))], []) := by kernel_rfl


/-- A conversion. -/
structure Cv where
  mi : Bool
  ze : Bool
  pl : Bool
  wi : Nat
  pr : Nat
  ex : Bool
  le : Nat
  ln : Nat

def Cv.pv (c : Cv) : PV := .agg [.bool c.mi, .bool c.ze, .bool c.pl, .int .i64 (c.wi : Nat), .int .i64 (c.pr : Nat), .bool c.ex, .int .u8 (c.le : Nat), .int .i64 (c.ln : Nat)]

/-- A printer. -/
structure PS where
  out : List Nat
  left : List (List Nat)
  used : Bool
  done : Bool
  msg : List Nat

def PHa (a : EV) (s : PS) : Heap := [some (.cells [a, .nsl 1 s.out.length 1, .p (.lst s.left.length (s.left.map PV.str)), .p (.bool s.used), .p (.bool s.done), .p (.str s.msg)] (.obj 41)), some (.bytes s.out 5)]
def PH (s : PS) : Heap := PHa (.mptr 0 0) s
def PH2 (s : PS) : Heap := [some (.cells [.mptr 0 0, .nsl 2 s.out.length 1, .p (.lst s.left.length (s.left.map PV.str)), .p (.bool s.used), .p (.bool s.done), .p (.str s.msg)] (.obj 41)), none, some (.bytes s.out 5)]

def compS (m s : List Nat) : List Nat := if m = [] then s else m

theorem complain_rc (hT : TabOk Pd G T) (st : PS) (s : List Nat) : RC Pd G 24 [.ptr 0 0, .p (.str s)] (PH st) (.tup []) (PH { st with msg := compS st.msg s }) := by
  by_cases h : st.msg = []
  · have := RC.of_runFn hT (complain_p1 (G := G) st.out st.left.length (st.left.map PV.str) st.used st.done st.msg s) ⟨rfl, by simp [h], trivial⟩
    simpa only [PH, PHa, compS, h, if_true] using this
  · have := RC.of_runFn hT (complain_p2 (G := G) st.out st.left.length (st.left.map PV.str) st.used st.done st.msg s) ⟨by simpa using h, trivial⟩
    simpa only [PH, PHa, compS, h, if_false] using this

def tooLong : List Nat := [111, 117, 116, 112, 117, 116, 32, 116, 111, 111, 32, 108, 111, 110, 103]

def addS (st : PS) (s : List Nat) : PS :=
  if st.out.length + s.length > 65536 then { st with done := true, msg := compS st.msg tooLong } else { st with out := st.out ++ s }

theorem add_rc (hT : TabOk Pd G T) (st : PS) (s : List Nat) (h1 : st.out.length ≤ 65536) (h2 : s.length ≤ 1000000000) : RC Pd G 22 [.ptr 0 0, .p (.str s)] (PH st) (.tup []) (PH2 (addS st s)) := by
  have hf : fitsK .i64 ((st.out.length : Int) + (s.length : Int)) = true := by simp only [fitsK, min_i64, max_i64, Bool.and_eq_true, decide_eq_true_eq]; omega
  have hn := @addn_p1 G T st.out st.left.length (st.left.map PV.str) st.used st.done st.msg s
  have hn2 := @addn_p2 G T st.out st.left.length (st.left.map PV.str) st.used st.done st.msg s
  have hn3 := @addn_p3 G T st.out st.left.length (st.left.map PV.str) st.used st.done st.msg s
  have hp := @addp_p1 G T st.out st.left.length (st.left.map PV.str) st.used st.done st.msg s
  have hp2 := @addp_p2 G T st.out st.left.length (st.left.map PV.str) st.used st.done st.msg s
  have hp3 := @addp_p3 G T st.out st.left.length (st.left.map PV.str) st.used st.done st.msg s
  refine RC.may (i := 0) (off := 0) (j := 0) (jo := 0) rfl rfl ?_ ?_
  · by_cases h : st.out.length + s.length > 65536
    · have hb : decide ((st.out.length : Int) + (s.length : Int) > 65536) = true := by simp only [decide_eq_true_eq]; omega
      by_cases hm : st.msg = []
      · have := RC.of_run hT hn ⟨rfl, rfl, by simp [hm], hb, hf, trivial⟩
        have e : addS st s = { st with done := true, msg := tooLong } := by unfold addS compS; rw [if_pos h, if_pos hm]
        rw [e]; exact this
      · have := RC.of_run hT hn2 ⟨rfl, by simpa using hm, hb, hf, trivial⟩
        have e : addS st s = { st with done := true } := by unfold addS compS; rw [if_pos h, if_neg hm]
        rw [e]; exact this
    · have hb : decide ((st.out.length : Int) + (s.length : Int) > 65536) = false := by simp only [decide_eq_false_iff_not]; omega
      have := RC.of_run hT hn3 ⟨rfl, by simp; omega, rfl, rfl, isExt42, rfl, hb, hf, trivial⟩
      have e : addS st s = { st with out := st.out ++ s } := by unfold addS; rw [if_neg h]
      rw [e]; exact this
  · by_cases h : st.out.length + s.length > 65536
    · have hb : decide ((st.out.length : Int) + (s.length : Int) > 65536) = true := by simp only [decide_eq_true_eq]; omega
      by_cases hm : st.msg = []
      · have := RC.of_run hT hp ⟨rfl, rfl, by simp [hm], hb, hf, trivial⟩
        have e : addS st s = { st with done := true, msg := tooLong } := by unfold addS compS; rw [if_pos h, if_pos hm]
        rw [e]; exact this
      · have := RC.of_run hT hp2 ⟨rfl, by simpa using hm, hb, hf, trivial⟩
        have e : addS st s = { st with done := true } := by unfold addS compS; rw [if_pos h, if_neg hm]
        rw [e]; exact this
    · have hb : decide ((st.out.length : Int) + (s.length : Int) > 65536) = false := by simp only [decide_eq_false_iff_not]; omega
      have := RC.of_run hT hp3 ⟨rfl, by simp; omega, hb, hf, trivial⟩
      have e : addS st s = { st with out := st.out ++ s } := by unfold addS; rw [if_neg h]
      rw [e]; exact this

def opS (st : PS) : PS :=
  match st.left with
  | [] => st
  | _ :: r => { st with left := r, used := true }

theorem operand_rc (hT : TabOk Pd G T) (st : PS) : RC Pd G 36 [.ptr 0 0] (PH st) (.p (.str (st.left.headD []))) (PH (opS st)) := by
  obtain ⟨out, left, used, done, msg⟩ := st
  cases left with
  | nil => exact RC.of_runFn hT (operand_p1 (G := G) out 0 [] used done msg []) ⟨rfl, trivial⟩
  | cons x r =>
    have := RC.of_runFn hT (operand_p2 (G := G) out (x :: r).length ((x :: r).map PV.str) used done msg x) ⟨rfl, rfl, by simp only [List.length_cons, Bool.true_and, decide_eq_true_eq]; omega, claim_str (t := 9) rfl (by kernel_rfl) rfl rfl, by simp only [List.length_cons, Bool.true_and, decide_eq_true_eq]; omega, by rw [beq_eq_false_iff_ne]; simp only [List.length_cons]; omega, trivial⟩
    have e : List.drop 1 (List.take ((x :: r).length * 1) (List.map PV.str (x :: r))) = r.map PV.str := by
      simp only [Nat.mul_one, List.map_cons, List.length_cons, List.take_succ_cons, List.drop_succ_cons, List.drop_zero]
      exact List.take_of_length_le (by simp)
    rw [e] at this
    exact this

def cutS (c : Cv) (s : List Nat) : List Nat := if c.ex then s.take c.pr else s

theorem cut_rc (hT : TabOk Pd G T) (c : Cv) (s : List Nat) : RC Pd G 37 [.p c.pv, .p (.str s)] [] (.p (.str (cutS c s))) [] := by
  by_cases h : c.ex = true
  · by_cases h2 : c.pr < s.length
    · have := RC.of_run hT (cut_p1 (G := G) s c.mi c.ze c.pl c.wi c.pr c.ex c.le c.ln) ⟨by simp; omega, by simp only [decide_eq_true_eq]; omega, h, trivial⟩
      simpa [Cv.pv, cutS, h] using this
    · have := RC.of_run hT (cut_p2 (G := G) s c.mi c.ze c.pl c.wi c.pr c.ex c.le c.ln) ⟨by simp only [decide_eq_false_iff_not]; omega, h, trivial⟩
      simpa [Cv.pv, cutS, h, List.take_of_length_le (Nat.le_of_not_lt h2)] using this
  · have h' : c.ex = false := by simpa using h
    have := RC.of_run hT (cut_p3 (G := G) s c.mi c.ze c.pl c.wi c.pr c.ex c.le c.ln) ⟨h', trivial⟩
    simpa [Cv.pv, cutS, h'] using this

def fillS (c : Cv) (s : List Nat) : List Nat :=
  if c.mi then s ++ List.replicate (c.wi - s.length) 32 else List.replicate (c.wi - s.length) 32 ++ s

theorem fill_rc (hT : TabOk Pd G T) (c : Cv) (s : List Nat) (hw : c.wi ≤ 5000) (hs : s.length ≤ 1000000000) : RC Pd G 35 [.p c.pv, .p (.str s)] [] (.p (.str (fillS c s))) [] := by
  have hf : fitsK .i64 ((c.wi : Int) - (s.length : Int)) = true := by simp only [fitsK, min_i64, max_i64, Bool.and_eq_true, decide_eq_true_eq]; omega
  by_cases h : c.wi ≤ s.length
  · have := RC.of_run hT (fill_p1 (G := G) s [] c.mi c.ze c.pl c.wi c.pr c.ex c.le c.ln) ⟨by simp only [decide_eq_true_eq]; omega, hf, trivial⟩
    have e : c.wi - s.length = 0 := by omega
    simpa [Cv.pv, fillS, e] using this
  · have hr := reptS_rc (G := G) hT (c.wi - s.length) (by omega)
    have e : ((c.wi - s.length : Nat) : Int) = (c.wi : Int) - (s.length : Int) := by omega
    rw [e] at hr
    cases hm : c.mi with
    | true =>
      have := RC.of_run hT (fill_p2 (G := G) s (List.replicate (c.wi - s.length) 32) c.mi c.ze c.pl c.wi c.pr c.ex c.le c.ln) ⟨by simp; omega, hr, hm, by simp only [decide_eq_false_iff_not]; omega, hf, trivial⟩
      simpa [Cv.pv, fillS, hm] using this
    | false =>
      have := RC.of_run hT (fill_p3 (G := G) s (List.replicate (c.wi - s.length) 32) c.mi c.ze c.pl c.wi c.pr c.ex c.le c.ln) ⟨by simp; omega, hr, hm, by simp only [decide_eq_false_iff_not]; omega, hf, trivial⟩
      simpa [Cv.pv, fillS, hm] using this

def simpS (c : Nat) : Option (List Nat) :=
  if c = 92 then some [92] else if c = 97 then some [7] else if c = 98 then some [8] else if c = 102 then some [12] else if c = 110 then some [10]
  else if c = 114 then some [13] else if c = 116 then some [9] else if c = 118 then some [11] else none

def optT : Option (List Nat) → EV
  | some s => .tup [.p (.str s), .kb true]
  | none => .tup [.p (.str []), .kb false]

theorem simple_rc (hT : TabOk Pd G T) (c : Nat) : RC Pd G 29 [.p (.int .u8 (c : Nat))] [] (optT (simpS c)) [] := by
  have n (k : Nat) (h : ¬ c = k) : (((c : Nat) : Int) == ((k : Nat) : Int)) = false := by rw [beq_eq_false_iff_ne]; omega
  by_cases h1 : c = 92
  · subst h1; exact RC.of_runFn hT (simple_p1 _) ⟨rfl, trivial⟩
  by_cases h2 : c = 97
  · subst h2; exact RC.of_runFn hT (simple_p2 _) ⟨rfl, rfl, trivial⟩
  by_cases h3 : c = 98
  · subst h3; exact RC.of_runFn hT (simple_p3 _) ⟨rfl, rfl, rfl, trivial⟩
  by_cases h4 : c = 102
  · subst h4; exact RC.of_runFn hT (simple_p4 _) ⟨rfl, rfl, rfl, rfl, trivial⟩
  by_cases h5 : c = 110
  · subst h5; exact RC.of_runFn hT (simple_p5 _) ⟨rfl, rfl, rfl, rfl, rfl, trivial⟩
  by_cases h6 : c = 114
  · subst h6; exact RC.of_runFn hT (simple_p6 _) ⟨rfl, rfl, rfl, rfl, rfl, rfl, trivial⟩
  by_cases h7 : c = 116
  · subst h7; exact RC.of_runFn hT (simple_p7 _) ⟨rfl, rfl, rfl, rfl, rfl, rfl, rfl, trivial⟩
  by_cases h8 : c = 118
  · subst h8; exact RC.of_runFn hT (simple_p8 _) ⟨rfl, rfl, rfl, rfl, rfl, rfl, rfl, rfl, trivial⟩
  have := RC.of_runFn hT (simple_p9 (G := G) (c : Int)) ⟨n 118 h8, n 116 h7, n 114 h6, n 110 h5, n 102 h4, n 98 h3, n 97 h2, n 92 h1, trivial⟩
  have e : simpS c = none := by simp [simpS, h1, h2, h3, h4, h5, h6, h7, h8]
  rw [e]
  exact this

/-- How many of the first bytes, at most n, are octal digits. -/
def octN : Nat → List Nat → Nat
  | 0, _ => 0
  | _ + 1, [] => 0
  | n + 1, c :: r => if 48 ≤ c ∧ c ≤ 55 then octN n r + 1 else 0

theorem octN_le (n : Nat) (s : List Nat) : octN n s ≤ n ∧ octN n s ≤ s.length := by
  induction n generalizing s with
  | zero => simp [octN]
  | succ n ih =>
    cases s with
    | nil => simp [octN]
    | cons c r =>
      unfold octN
      split
      · have := ih r; simp; omega
      · simp

theorem octN_dig (n : Nat) (s : List Nat) : ∀ x ∈ s.take (octN n s), 48 ≤ x ∧ x ≤ 55 := by
  induction n generalizing s with
  | zero => simp [octN]
  | succ n ih =>
    cases s with
    | nil => simp
    | cons c r =>
      unfold octN
      split
      · rename_i h
        intro x hx
        simp only [List.take_succ_cons, List.mem_cons] at hx
        rcases hx with rfl | hx
        · exact h
        · exact ih r x hx
      · simp

theorem decodeL_small {s : List Nat} {i : Nat} (h : s.getD i 0 < 128) : decodeL s i = (s.getD i 0, 1) := by
  unfold decodeL
  simp only [h, if_true]

theorem decodeL_big {s : List Nat} {i : Nat} (h : 128 ≤ s.getD i 0) : 128 ≤ (decodeL s i).1 := by
  unfold decodeL
  simp only [Nat.not_lt.2 h, if_false]
  have hr : Utf8.runeError = 65533 := rfl
  split
  · split
    · rename_i h1; simpa using h1
    · simp [hr]
  · split
    · split
      · rename_i h1; simp at h1; simp; omega
      · simp [hr]
    · split
      · split
        · rename_i h1; simp at h1; simp; omega
        · simp [hr]
      · simp [hr]

def octFr (s : List Nat) (n r : Int) : Fr := [(8, .it 0), (7, .p (.str s)), (4, .p (.int .i64 r)), (0, .p (.str s)), (1, .p (.int .i64 n))]

theorem oct_loop (hT : TabOk Pd G T) (s : List Nat) (n : Nat) : ∀ (d pos : Nat), pos + d = n → pos ≤ s.length →
    (∃ p, LC Pd G 29 0 (octFr s n 0) [some (.iter s pos)] (loopAt Pd 30 0) .ret (octFr s n ((pos + octN d (s.drop pos) : Nat) : Int)) [some (.iter s p)]) ∨
    (s.length ≤ n ∧ pos + octN d (s.drop pos) = s.length ∧ LC Pd G 29 0 (octFr s n 0) [some (.iter s pos)] (loopAt Pd 30 0) (.exit 0) (octFr s n 0) [some (.iter s s.length)]) := by
  intro d
  induction d with
  | zero =>
    intro pos hp hl
    by_cases h : pos < s.length
    · left
      refine ⟨_, LC.leave hT (octL_l1 (G := G) s n pos) ⟨?_, by simpa using h, by simpa using h, trivial⟩ (by simp)⟩
      have : pos = n := by omega
      simp [this]
    · have e : pos = s.length := by omega
      right
      refine ⟨by omega, by simp [octN, e], ?_⟩
      subst e
      exact LC.leave hT (octL_l5 (G := G) s n s.length) ⟨by simp, by simp, trivial⟩ (by simp)
  | succ d ih =>
    intro pos hp hl
    by_cases h : pos < s.length
    · have hne : (((pos : Nat) : Int) == (n : Int)) = false := by rw [beq_eq_false_iff_ne]; omega
      have hlt : decide (pos < s.length) = true := by simpa using h
      have hdrop : s.drop pos = s.getD pos 0 :: s.drop (pos + 1) := by
        rw [List.drop_eq_getElem_cons h, List.getD_eq_getElem?_getD, List.getElem?_eq_getElem h]
        rfl
      by_cases hs : s.getD pos 0 < 128
      · have hd := decodeL_small hs
        by_cases h1 : s.getD pos 0 < 48
        · left
          have := octL_l2 (G := G) (T := T) s n pos
          have e : octN (d + 1) (s.drop pos) = 0 := by rw [hdrop]; simp only [octN]; rw [if_neg (by omega)]
          rw [e, Nat.add_zero]
          exact ⟨_, LC.leave hT this ⟨by rw [hd]; simp only [decide_eq_true_eq]; omega, hne, hlt, hlt, trivial⟩ (by simp)⟩
        · by_cases h2 : 55 < s.getD pos 0
          · left
            have := octL_l3 (G := G) (T := T) s n pos
            have e : octN (d + 1) (s.drop pos) = 0 := by rw [hdrop]; simp only [octN]; rw [if_neg (by omega)]
            rw [e, Nat.add_zero]
            exact ⟨_, LC.leave hT this ⟨by rw [hd]; simp only [decide_eq_true_eq]; omega, by rw [hd]; simp only [decide_eq_false_iff_not]; omega, hne, hlt, hlt, trivial⟩ (by simp)⟩
          · have key := octL_l4 (G := G) (T := T) s n pos
            rw [hd] at key
            have e : octN (d + 1) (s.drop pos) = octN d (s.drop (pos + 1)) + 1 := by rw [hdrop]; simp only [octN]; rw [if_pos (by omega)]
            have ob : AllT [decide (((s.getD pos 0 : Nat) : Int) > 55) = false, decide (((s.getD pos 0 : Nat) : Int) < 48) = false, (((pos : Nat) : Int) == (n : Int)) = false, decide (pos < s.length) = true, decide (pos < s.length) = true] :=
              ⟨by simp only [decide_eq_false_iff_not]; omega, by simp only [decide_eq_false_iff_not]; omega, hne, hlt, hlt, trivial⟩
            rcases ih (pos + 1) (by omega) (by omega) with ⟨p, h3⟩ | ⟨h3, h4, h5⟩
            · left
              refine ⟨p, ?_⟩
              rw [e, show pos + (octN d (s.drop (pos + 1)) + 1) = pos + 1 + octN d (s.drop (pos + 1)) by omega]
              exact LC.go hT key ob h3
            · right
              refine ⟨h3, by rw [e]; omega, LC.go hT key ob h5⟩
      · left
        have hb := decodeL_big (s := s) (i := pos) (by omega)
        have := octL_l3 (G := G) (T := T) s n pos
        have e : octN (d + 1) (s.drop pos) = 0 := by rw [hdrop]; simp only [octN]; rw [if_neg (by omega)]
        rw [e, Nat.add_zero]
        exact ⟨_, LC.leave hT this ⟨by simp only [decide_eq_true_eq]; omega, by simp only [decide_eq_false_iff_not]; omega, hne, hlt, hlt, trivial⟩ (by simp)⟩
    · have e : pos = s.length := by omega
      right
      subst e
      exact ⟨by omega, by simp [octN], LC.leave hT (octL_l5 (G := G) s n s.length) ⟨by simp, by simp, trivial⟩ (by simp)⟩

theorem octal_rc (hT : TabOk Pd G T) (s : List Nat) (n : Nat) : RC Pd G 30 [.p (.str s), .p (.int .i64 (n : Nat))] [] (.p (.int .i64 (octN n s : Nat))) [] := by
  rcases oct_loop (G := G) hT s n n 0 (by omega) (by omega) with ⟨p, h⟩ | ⟨h1, h2, h3⟩
  · rw [Nat.zero_add, List.drop_zero] at h
    exact RC.of_run hT (oct2_p1 s n p (octN n s : Nat)) ⟨h, trivial⟩
  · rw [Nat.zero_add, List.drop_zero] at h2
    have := RC.of_run hT (oct1_p1 (G := G) s n s.length) ⟨h3, trivial⟩
    rw [h2]
    have e : (if ((s.length : Nat) : Int) < ((n : Nat) : Int) then ((s.length : Nat) : Int) else ((n : Nat) : Int)) = ((s.length : Nat) : Int) := by split <;> omega
    rw [e] at this
    exact this

def codeV (s : List Nat) (n : Nat) : Nat := s.foldl (fun n c => 8 * n + (c - 48)) n

theorem getD_drop (s : List Nat) (i : Nat) (h : i < s.length) : s.drop i = s.getD i 0 :: s.drop (i + 1) := by
  rw [List.drop_eq_getElem_cons h, List.getD_eq_getElem?_getD, List.getElem?_eq_getElem h]
  rfl

theorem code_loop (hT : TabOk Pd G T) (s : List Nat) (hd : ∀ x ∈ s, 48 ≤ x ∧ x ≤ 55) (hl3 : s.length ≤ 3) : ∀ (k i n : Nat), i + k = s.length → n < 8 ^ (3 - k) → k ≤ 3 →
    LC Pd G 24 0 [(7, .p (.int .i64 (i : Nat))), (6, .p (.int .i64 (s.length : Nat))), (5, .p (.str s)), (3, .p (.int .i64 (n : Nat))), (2, .p (.str [])), (0, .p (.str s))] [] (loopAt Pd 31 0) (.exit 0)
      [(7, .p (.int .i64 (s.length : Nat))), (6, .p (.int .i64 (s.length : Nat))), (5, .p (.str s)), (3, .p (.int .i64 (codeV (s.drop i) n : Nat))), (2, .p (.str [])), (0, .p (.str s))] [] := by
  intro k
  induction k with
  | zero =>
    intro i n hi hn hk
    have e : i = s.length := by omega
    subst e
    have e2 : codeV (s.drop s.length) n = n := by simp [codeV]
    rw [e2]
    exact LC.leave hT (codeL_l2 (G := G) s s.length n) ⟨by simp, trivial⟩ (by simp)
  | succ k ih =>
    intro i n hi hn hk
    have h : i < s.length := by omega
    have hx := hd (s.getD i 0) (by rw [List.getD_eq_getElem?_getD, List.getElem?_eq_getElem h]; exact List.getElem_mem h)
    have key := codeL_l1 (G := G) (T := T) s i n
    have e1 : (8 * (n : Int) + (((s.getD (i : Int).toNat 0 : Nat) : Int) - 48)) = ((8 * n + (s.getD i 0 - 48) : Nat) : Int) := by
      rw [Int.toNat_natCast]; omega
    have e0 : s.getD (i : Int).toNat 0 = s.getD i 0 := by rw [Int.toNat_natCast]
    have hx' := hx.2
    have h1 := ih (i + 1) (8 * n + (s.getD i 0 - 48)) (by omega) (by
      rcases (by omega : k = 0 ∨ k = 1 ∨ k = 2) with rfl | rfl | rfl
      · simp only [show 8 ^ (3 - (0 + 1)) = 64 by decide, show 8 ^ (3 - 0) = 512 by decide] at hn ⊢; omega
      · simp only [show 8 ^ (3 - (1 + 1)) = 8 by decide, show 8 ^ (3 - 1) = 64 by decide] at hn ⊢; omega
      · simp only [show 8 ^ (3 - (2 + 1)) = 1 by decide, show 8 ^ (3 - 2) = 8 by decide] at hn ⊢; omega) (by omega)
    have hb : n < 64 := by
      rcases (by omega : k = 0 ∨ k = 1 ∨ k = 2) with rfl | rfl | rfl
      · simp only [show 8 ^ (3 - (0 + 1)) = 64 by decide] at hn; omega
      · simp only [show 8 ^ (3 - (1 + 1)) = 8 by decide] at hn; omega
      · simp only [show 8 ^ (3 - (2 + 1)) = 1 by decide] at hn; omega
    rw [getD_drop s i h]
    rw [e1, e0] at key
    refine LC.go hT key ?_ (by rw [Int.natCast_add] at h1; exact h1)
    refine ⟨?_, ?_, ?_, ?_, ?_, ?_, ?_, trivial⟩
    all_goals (simp only [fitsK, max_i64, min_i64, max_u8, min_u8, Bool.and_eq_true, decide_eq_true_eq]; omega)

theorem codeV_lt (s : List Nat) (hd : ∀ x ∈ s, 48 ≤ x ∧ x ≤ 55) (n : Nat) : codeV s n < (n + 1) * 8 ^ s.length := by
  induction s generalizing n with
  | nil => simp [codeV]
  | cons c r ih =>
    have h1 := ih (fun x hx => hd x (by simp [hx])) (8 * n + (c - 48))
    have h2 := hd c (by simp)
    have h3 : 8 * n + (c - 48) + 1 ≤ (n + 1) * 8 := by omega
    have h4 := Nat.mul_le_mul_right (8 ^ r.length) h3
    have e : (n + 1) * 8 ^ (c :: r).length = (n + 1) * 8 * 8 ^ r.length := by rw [List.length_cons, Nat.pow_succ]; ac_rfl
    rw [e]
    exact Nat.lt_of_lt_of_le h1 h4

/-- The byte of octal digits. -/
def codeS (s : List Nat) : List Nat := [codeV s 0 % 256]

theorem code_rc (hT : TabOk Pd G T) (s : List Nat) (hd : ∀ x ∈ s, 48 ≤ x ∧ x ≤ 55) (hl : s.length ≤ 3) : RC Pd G 31 [.p (.str s)] [] (.p (.str (codeS s))) [] := by
  have h1 := code_loop (G := G) hT s hd hl s.length 0 0 (by omega) (Nat.pos_of_ne_zero (by simp)) hl
  rw [List.drop_zero] at h1
  have key := code_p1 (G := G) (T := T) s (codeV s 0 : Nat)
  have e1 : ((codeV s 0 : Nat) : Int).tmod 256 = ((codeV s 0 % 256 : Nat) : Int) := by
    rw [Int.tmod_eq_emod_of_nonneg (by omega)]; omega
  rw [e1] at key
  have e2 : [((codeV s 0 % 256 : Nat) : Int).toNat % 256] = codeS s := by
    rw [Int.toNat_natCast, codeS]; simp
  rw [e2] at key
  refine RC.of_run hT key ⟨rfl, ?_, rfl, h1, trivial⟩
  simp only [fitsK, max_u8, min_u8, Bool.and_eq_true, decide_eq_true_eq]; omega

/-- The decimal digits ahead. -/
def digs : List Nat → List Nat
  | [] => []
  | c :: r => if 48 ≤ c ∧ c ≤ 57 then c :: digs r else []

def cntV (s : List Nat) (n : Nat) : Nat := s.foldl (fun n c => if 10 * n + (c - 48) < 4097 then 10 * n + (c - 48) else 4097) n

theorem cntV_le (s : List Nat) (n : Nat) (h : n ≤ 4097) : cntV s n ≤ 4097 := by
  induction s generalizing n with
  | nil => exact h
  | cons c r ih => exact ih _ (by show (if 10 * n + (c - 48) < 4097 then 10 * n + (c - 48) else 4097) ≤ 4097; split <;> omega)

theorem digs_le (s : List Nat) : (digs s).length ≤ s.length := by
  induction s with
  | nil => simp [digs]
  | cons c r ih => unfold digs; split <;> simp <;> omega

theorem count_loop (hT : TabOk Pd G T) (s : List Nat) (hs : s.length ≤ 1000000000) : ∀ (k i n : Nat), i + k = s.length → n ≤ 4097 →
    LC Pd G 38 0 [(6, .p (.int .i64 (i : Nat))), (5, .p (.int .i64 (n : Nat))), (4, .kb false), (3, .p (.int .i64 0)), (2, .p (.int .i64 0)), (0, .p (.str s))] [] (loopAt Pd 34 0) (.exit 0)
      [(6, .p (.int .i64 (i + (digs (s.drop i)).length : Nat))), (5, .p (.int .i64 (cntV (digs (s.drop i)) n : Nat))), (4, .kb false), (3, .p (.int .i64 0)), (2, .p (.int .i64 0)), (0, .p (.str s))] [] := by
  intro k
  induction k with
  | zero =>
    intro i n hi hn
    have e : i = s.length := by omega
    subst e
    have e2 : digs (s.drop s.length) = [] := by simp [digs]
    rw [e2]
    exact LC.leave hT (countL_l4 (G := G) s s.length n) ⟨by simp, trivial⟩ (by simp)
  | succ k ih =>
    intro i n hi hn
    have h : i < s.length := by omega
    have e0 : s.getD (i : Int).toNat 0 = s.getD i 0 := by rw [Int.toNat_natCast]
    rw [getD_drop s i h]
    by_cases h1 : s.getD i 0 < 48
    · have key := countL_l3 (G := G) (T := T) s i n
      rw [e0] at key
      have e2 : digs (s.getD i 0 :: s.drop (i + 1)) = [] := by rw [digs]; rw [if_neg (by omega)]
      rw [e2]
      exact LC.leave hT key ⟨by simp only [decide_eq_false_iff_not]; omega, by simp; omega, by simp; omega, trivial⟩ (by simp)
    · by_cases h2 : 57 < s.getD i 0
      · have key := countL_l2 (G := G) (T := T) s i n
        rw [e0] at key
        have e2 : digs (s.getD i 0 :: s.drop (i + 1)) = [] := by rw [digs]; rw [if_neg (by omega)]
        rw [e2]
        exact LC.leave hT key ⟨by simp only [decide_eq_false_iff_not]; omega, by simp; omega, by simp only [decide_eq_true_eq]; omega, by simp; omega, by simp; omega, trivial⟩ (by simp)
      · have key := countL_l1 (G := G) (T := T) s i n
        have e1 : (10 * (n : Int) + (((s.getD i 0 : Nat) : Int) - 48)) = ((10 * n + (s.getD i 0 - 48) : Nat) : Int) := by omega
        have e3 : (if ((10 * n + (s.getD i 0 - 48) : Nat) : Int) < 4097 then ((10 * n + (s.getD i 0 - 48) : Nat) : Int) else 4097) = (((if 10 * n + (s.getD i 0 - 48) < 4097 then 10 * n + (s.getD i 0 - 48) else 4097) : Nat) : Int) := by
          split <;> split <;> omega
        rw [e0, e1, e3] at key
        have e2 : digs (s.getD i 0 :: s.drop (i + 1)) = s.getD i 0 :: digs (s.drop (i + 1)) := by rw [digs]; rw [if_pos (by omega)]
        have hh := ih (i + 1) (if 10 * n + (s.getD i 0 - 48) < 4097 then 10 * n + (s.getD i 0 - 48) else 4097) (by omega) (by split <;> omega)
        rw [e2]
        have e4 : i + (s.getD i 0 :: digs (s.drop (i + 1))).length = i + 1 + (digs (s.drop (i + 1))).length := by simp only [List.length_cons]; omega
        rw [e4]
        refine LC.go hT key ?_ (by rw [Int.natCast_add i 1] at hh; exact hh)
        refine ⟨?_, ?_, ?_, ?_, ?_, ?_, ?_, ?_, ?_, ?_, ?_, trivial⟩
        all_goals (simp only [fitsK, max_i64, min_i64, max_u8, min_u8, Bool.and_eq_true, decide_eq_true_eq]; omega)

theorem count_rc (hT : TabOk Pd G T) (s : List Nat) (hs : s.length ≤ 1000000000) :
    RC Pd G 34 [.p (.str s)] [] (.tup [.p (.int .i64 (cntV (digs s) 0 : Nat)), .p (.int .i64 ((digs s).length : Nat)), .p (.bool (decide (cntV (digs s) 0 ≤ 4096)))]) [] := by
  have h := count_loop (G := G) hT s hs s.length 0 0 (by omega) (by omega)
  rw [List.drop_zero, Nat.zero_add] at h
  have := RC.of_runFn hT (count_p1 (G := G) s ((digs s).length : Nat) (cntV (digs s) 0 : Nat)) ⟨h, trivial⟩
  have e : decide (cntV (digs s) 0 ≤ 4096) = decide (((cntV (digs s) 0 : Nat) : Int) ≤ 4096) := by
    by_cases h : cntV (digs s) 0 ≤ 4096
    · simp only [h, decide_true]; symm; simp only [decide_eq_true_eq]; omega
    · simp only [h, decide_false]; symm; simp only [decide_eq_false_iff_not]; omega
  rw [e]
  exact this
end
end Go.Vc

/- VdPrintf -/
namespace Go.Vc
set_option linter.unusedVariables false
set_option linter.unusedSimpArgs false
section
variable {G : Glob} {T : Tab}
theorem printfL_l1 (m : Nat) (ps : List PV) (x out : List Nat) (left : List (List Nat)) (used done : Bool) (msg : List Nat) (out' : List Nat) (left' : List (List Nat)) (used' done' : Bool) (msg' : List Nat) : runC Pd G T 100000 false [.br true, .br true, .br true, .is 41 (.p (.str x)), .callv (.tup []) [some (.cells [.mptr 0 0, .nsl 2 out'.length 1, .p (.lst left'.length (List.map PV.str left')), .p (.bool used'), .p (.bool done'), .p (.str msg')] (.obj 41)), none, some (.bytes out' 5)], .tr 888888 Tr.dk] 57 0 [(5, .ptr 0 0), (4, .p (.int .i64 0)), (3, .p (.str [])), (2, .p (.str [])), (0, .p (.lst m ps))] [some (.cells [.mptr 0 0, .nsl 1 out.length 1, .p (.lst left.length (List.map PV.str left)), .p (.bool used), .p (.bool done), .p (.str msg)] (.obj 41)), some (.bytes out 5)] (loopAt Pd 11 0) [5, 4, 3, 2, 0] [] [0, 2] = some ([RC Pd G 15 [.ptr 0 0, .p (.str x)] [some (.cells [.mptr 0 0, .nsl 1 out.length 1, .p (.lst left.length (List.map PV.str left)), .p (.bool used), .p (.bool done), .p (.str msg)] (.obj 41)), some (.bytes out 5)] (.tup []) [some (.cells [.mptr 0 0, .nsl 2 out'.length 1, .p (.lst left'.length (List.map PV.str left')), .p (.bool used'), .p (.bool done'), .p (.str msg')] (.obj 41)), none, some (.bytes out' 5)], Claim Pd G [(40, .p (.elem ps 0)), (39, .p (.lst m ps)), (38, .ptr 0 0), (37, .p (.bool (decide ((↑left.length : Int) > 0)))), (36, .p (.bool (decide ((↑left.length : Int) > 0)))), (30, .kb true), (35, .p (.int .i64 (↑left.length : Int))), (30, .kb true), (34, .p (.lst left.length (List.map PV.str left))), (30, .kb true), (33, .ptr 0 2), (30, .kb true), (32, .ptr 0 0), (30, .kb true), (31, .ptr 0 0), (30, .kb true), (30, .p (.bool used)), (29, .p (.bool used)), (28, .p (.bool used)), (24, .kb true), (27, .ptr 0 3), (24, .kb true), (26, .ptr 0 0), (24, .kb true), (25, .ptr 0 0), (24, .kb true), (24, .p (.bool !done)), (23, .p (.bool !done)), (22, .p (.bool done)), (21, .ptr 0 4), (20, .ptr 0 0), (19, .ptr 0 0), (5, .ptr 0 0), (4, .p (.int .i64 0)), (3, .p (.str [])), (2, .p (.str [])), (0, .p (.lst m ps))] [some (.cells [.mptr 0 0, .nsl 1 out.length 1, .p (.lst left.length (List.map PV.str left)), .p (.bool used), .p (.bool done), .p (.str msg)] (.obj 41)), some (.bytes out 5)] { dst := some 41, op := Op.load 9 (Operand.tmp 40), type := 9, pos := "format.go:337", after := #[{ on := 2, ground := Ground.data }], guard := none } (.p (.str x)), (true && decide (0 < (↑m : Int))) = true, decide ((↑left.length : Int) > 0) = true, used = true, (!done) = true], .normal, [(5, .ptr 0 0), (4, .p (.int .i64 0)), (3, .p (.str [])), (2, .p (.str [])), (0, .p (.lst m ps))], [some (.cells [.mptr 0 0, .nsl 1 out'.length 1, .p (.lst left'.length (List.map PV.str left')), .p (.bool used'), .p (.bool done'), .p (.str msg')] (.obj 41)), some (.bytes out' 5)]) := by kernel_rfl

theorem printfL_l2 (m : Nat) (ps : List PV) (x out : List Nat) (left : List (List Nat)) (used done : Bool) (msg : List Nat) (out' : List Nat) (left' : List (List Nat)) (used' done' : Bool) (msg' : List Nat) : runC Pd G T 100000 false [.br true, .br true, .br false, .tr 888888 Tr.dk] 57 0 [(5, .ptr 0 0), (4, .p (.int .i64 0)), (3, .p (.str [])), (2, .p (.str [])), (0, .p (.lst m ps))] [some (.cells [.mptr 0 0, .nsl 1 out.length 1, .p (.lst left.length (List.map PV.str left)), .p (.bool used), .p (.bool done), .p (.str msg)] (.obj 41)), some (.bytes out 5)] (loopAt Pd 11 0) [5, 4, 3, 2, 0] [] [0, 1] = some ([decide ((↑left.length : Int) > 0) = false, used = true, (!done) = true], .exit 0, [(5, .ptr 0 0), (4, .p (.int .i64 0)), (3, .p (.str [])), (2, .p (.str [])), (0, .p (.lst m ps))], [some (.cells [.mptr 0 0, .nsl 1 out.length 1, .p (.lst left.length (List.map PV.str left)), .p (.bool used), .p (.bool done), .p (.str msg)] (.obj 41)), some (.bytes out 5)]) := by kernel_rfl

theorem printfL_l3 (m : Nat) (ps : List PV) (x out : List Nat) (left : List (List Nat)) (used done : Bool) (msg : List Nat) (out' : List Nat) (left' : List (List Nat)) (used' done' : Bool) (msg' : List Nat) : runC Pd G T 100000 false [.br true, .br false, .tr 888888 Tr.dk] 57 0 [(5, .ptr 0 0), (4, .p (.int .i64 0)), (3, .p (.str [])), (2, .p (.str [])), (0, .p (.lst m ps))] [some (.cells [.mptr 0 0, .nsl 1 out.length 1, .p (.lst left.length (List.map PV.str left)), .p (.bool used), .p (.bool done), .p (.str msg)] (.obj 41)), some (.bytes out 5)] (loopAt Pd 11 0) [5, 4, 3, 2, 0] [] [0, 1] = some ([used = false, (!done) = true], .exit 0, [(5, .ptr 0 0), (4, .p (.int .i64 0)), (3, .p (.str [])), (2, .p (.str [])), (0, .p (.lst m ps))], [some (.cells [.mptr 0 0, .nsl 1 out.length 1, .p (.lst left.length (List.map PV.str left)), .p (.bool used), .p (.bool done), .p (.str msg)] (.obj 41)), some (.bytes out 5)]) := by kernel_rfl

theorem printfL_l4 (m : Nat) (ps : List PV) (x out : List Nat) (left : List (List Nat)) (used done : Bool) (msg : List Nat) (out' : List Nat) (left' : List (List Nat)) (used' done' : Bool) (msg' : List Nat) : runC Pd G T 100000 false [.br false, .tr 888888 Tr.dk] 57 0 [(5, .ptr 0 0), (4, .p (.int .i64 0)), (3, .p (.str [])), (2, .p (.str [])), (0, .p (.lst m ps))] [some (.cells [.mptr 0 0, .nsl 1 out.length 1, .p (.lst left.length (List.map PV.str left)), .p (.bool used), .p (.bool done), .p (.str msg)] (.obj 41)), some (.bytes out 5)] (loopAt Pd 11 0) [5, 4, 3, 2, 0] [] [0, 1] = some ([(!done) = false], .exit 0, [(5, .ptr 0 0), (4, .p (.int .i64 0)), (3, .p (.str [])), (2, .p (.str [])), (0, .p (.lst m ps))], [some (.cells [.mptr 0 0, .nsl 1 out.length 1, .p (.lst left.length (List.map PV.str left)), .p (.bool used), .p (.bool done), .p (.str msg)] (.obj 41)), some (.bytes out 5)]) := by kernel_rfl

theorem printf_p1 (l : List (List Nat)) (x out : List Nat) (left : List (List Nat)) (used done : Bool) (msg : List Nat) (out' : List Nat) (left' : List (List Nat)) (used' done' : Bool) (msg' : List Nat) : runW Pd G T 100000 false [.br false, .tr 5 (Tr.nil 0 1 5), .tr 5 (Tr.may 0 0 0 0), .tr 5 Tr.dk, .is 17 (.p (.str x)), .callv (.tup []) [some (.cells [.mptr 0 0, .nsl 2 out.length 1, .p (.lst left.length (List.map PV.str left)), .p (.bool used), .p (.bool done), .p (.str msg)] (.obj 41)), none, some (.bytes out 5)], .tr 999999 (Tr.weak [5, 4, 3, 2, 0] [] [0, 2]), .tr 999999 Tr.dk, .code (.exit 0) [(5, .ptr 0 0), (4, .p (.int .i64 0)), (3, .p (.str [])), (2, .p (.str [])), (0, .p (.lst l.length (List.map PV.str l)))] [some (.cells [.mptr 0 0, .nsl 1 out'.length 1, .p (.lst left'.length (List.map PV.str left')), .p (.bool used'), .p (.bool done'), .p (.str msg')] (.obj 41)), some (.bytes out' 5)], .br true, .inl] [] [] 11 [.p (.lst l.length (List.map PV.str l))] [] = some ([some (some (Blk.cells [.mptr 0 0, .nsl 1 out'.length 1, .p (.lst left'.length (List.map PV.str left')), .p (.bool used'), .p (.bool done'), .p (.str msg')] (.obj 41))) = some (some (Blk.cells [.mptr 0 0, .nsl 1 out'.length 1, .p (.lst left'.length (List.map PV.str left')), .p (.bool used'), .p (.bool done'), .p (.str msg')] (.obj 41))), some (some (Blk.cells [.mptr 0 0, .nsl 1 out'.length 1, .p (.lst left'.length (List.map PV.str left')), .p (.bool used'), .p (.bool done'), .p (.str msg')] (.obj 41))) = some (some (Blk.cells [.mptr 0 0, .nsl 1 out'.length 1, .p (.lst left'.length (List.map PV.str left')), .p (.bool used'), .p (.bool done'), .p (.str msg')] (.obj 41))), (decide ((↑out'.length : Int) = (↑out'.length : Int)) && decide (out'.length ≤ 1099511627776)) = true, (!msg' == []) = true, LC Pd G 57 0 [(5, .ptr 0 0), (4, .p (.int .i64 0)), (3, .p (.str [])), (2, .p (.str [])), (0, .p (.lst l.length (List.map PV.str l)))] [some (.cells [.mptr 0 0, .nsl 1 out.length 1, .p (.lst left.length (List.map PV.str left)), .p (.bool used), .p (.bool done), .p (.str msg)] (.obj 41)), some (.bytes out 5)] (loopAt Pd 11 0) (.exit 0) [(5, .ptr 0 0), (4, .p (.int .i64 0)), (3, .p (.str [])), (2, .p (.str [])), (0, .p (.lst l.length (List.map PV.str l)))] [some (.cells [.mptr 0 0, .nsl 1 out'.length 1, .p (.lst left'.length (List.map PV.str left')), .p (.bool used'), .p (.bool done'), .p (.str msg')] (.obj 41)), some (.bytes out' 5)], RC Pd G 15 [.ptr 0 0, .p (.str x)] [some (.cells [.mptr 0 0, .nsl 1 0 1, .p (.lst (l.length - 1) (List.drop 1 (List.take (l.length * 1) (List.map PV.str l)))), .p (.bool false), .p (.bool false), .p (.str [])] (.obj 41)), some (.bytes [] 5)] (.tup []) [some (.cells [.mptr 0 0, .nsl 2 out.length 1, .p (.lst left.length (List.map PV.str left)), .p (.bool used), .p (.bool done), .p (.str msg)] (.obj 41)), none, some (.bytes out 5)], Claim Pd G [(16, .p (.elem (List.map PV.str l) 0)), (15, .p (.lst l.length (List.map PV.str l))), (14, .ptr 0 0), (5, .ptr 0 0), (13, .ptr 0 0), (12, .p (.agg [.nilp, .nils, .lst (l.length - 1) (List.drop 1 (List.take (l.length * 1) (List.map PV.str l))), .bool false, .bool false, .str []])), (11, .p (.lst (l.length - 1) (List.drop 1 (List.take (l.length * 1) (List.map PV.str l))))), (10, .p (.lst l.length (List.map PV.str l))), (9, .p (.bool ((↑l.length : Int) == 0))), (8, .p (.int .i64 (↑l.length : Int))), (7, .p (.lst l.length (List.map PV.str l))), (4, .p (.int .i64 0)), (3, .p (.str [])), (2, .p (.str [])), (0, .p (.lst l.length (List.map PV.str l)))] [some (.cells [.mptr 0 0, .nsl 1 0 1, .p (.lst (l.length - 1) (List.drop 1 (List.take (l.length * 1) (List.map PV.str l)))), .p (.bool false), .p (.bool false), .p (.str [])] (.obj 41)), some (.bytes [] 5)] { dst := some 17, op := Op.load 9 (Operand.tmp 16), type := 9, pos := "format.go:335", after := #[{ on := 2, ground := Ground.data }], guard := none } (.p (.str x)), (true && decide (0 < (↑l.length : Int))) = true, (true && decide (1 ≤ (↑l.length : Int))) = true, ((↑l.length : Int) == 0) = false], .tup [.p (.str out'), .p (.str msg'), .p (.int .i64 1)], []) := by kernel_rfl

theorem printf_p2 (l : List (List Nat)) (x out : List Nat) (left : List (List Nat)) (used done : Bool) (msg : List Nat) (out' : List Nat) (left' : List (List Nat)) (used' done' : Bool) (msg' : List Nat) : runW Pd G T 100000 false [.br false, .tr 5 (Tr.nil 0 1 5), .tr 5 (Tr.may 0 0 0 0), .tr 5 Tr.dk, .is 17 (.p (.str x)), .callv (.tup []) [some (.cells [.mptr 0 0, .nsl 2 out.length 1, .p (.lst left.length (List.map PV.str left)), .p (.bool used), .p (.bool done), .p (.str msg)] (.obj 41)), none, some (.bytes out 5)], .tr 999999 (Tr.weak [5, 4, 3, 2, 0] [] [0, 2]), .tr 999999 Tr.dk, .code (.exit 0) [(5, .ptr 0 0), (4, .p (.int .i64 0)), (3, .p (.str [])), (2, .p (.str [])), (0, .p (.lst l.length (List.map PV.str l)))] [some (.cells [.mptr 0 0, .nsl 1 out'.length 1, .p (.lst left'.length (List.map PV.str left')), .p (.bool used'), .p (.bool done'), .p (.str msg')] (.obj 41)), some (.bytes out' 5)], .br false, .inl] [] [] 11 [.p (.lst l.length (List.map PV.str l))] [] = some ([some (some (Blk.cells [.mptr 0 0, .nsl 1 out'.length 1, .p (.lst left'.length (List.map PV.str left')), .p (.bool used'), .p (.bool done'), .p (.str msg')] (.obj 41))) = some (some (Blk.cells [.mptr 0 0, .nsl 1 out'.length 1, .p (.lst left'.length (List.map PV.str left')), .p (.bool used'), .p (.bool done'), .p (.str msg')] (.obj 41))), some (some (Blk.cells [.mptr 0 0, .nsl 1 out'.length 1, .p (.lst left'.length (List.map PV.str left')), .p (.bool used'), .p (.bool done'), .p (.str msg')] (.obj 41))) = some (some (Blk.cells [.mptr 0 0, .nsl 1 out'.length 1, .p (.lst left'.length (List.map PV.str left')), .p (.bool used'), .p (.bool done'), .p (.str msg')] (.obj 41))), (decide ((↑out'.length : Int) = (↑out'.length : Int)) && decide (out'.length ≤ 1099511627776)) = true, (!msg' == []) = false, LC Pd G 57 0 [(5, .ptr 0 0), (4, .p (.int .i64 0)), (3, .p (.str [])), (2, .p (.str [])), (0, .p (.lst l.length (List.map PV.str l)))] [some (.cells [.mptr 0 0, .nsl 1 out.length 1, .p (.lst left.length (List.map PV.str left)), .p (.bool used), .p (.bool done), .p (.str msg)] (.obj 41)), some (.bytes out 5)] (loopAt Pd 11 0) (.exit 0) [(5, .ptr 0 0), (4, .p (.int .i64 0)), (3, .p (.str [])), (2, .p (.str [])), (0, .p (.lst l.length (List.map PV.str l)))] [some (.cells [.mptr 0 0, .nsl 1 out'.length 1, .p (.lst left'.length (List.map PV.str left')), .p (.bool used'), .p (.bool done'), .p (.str msg')] (.obj 41)), some (.bytes out' 5)], RC Pd G 15 [.ptr 0 0, .p (.str x)] [some (.cells [.mptr 0 0, .nsl 1 0 1, .p (.lst (l.length - 1) (List.drop 1 (List.take (l.length * 1) (List.map PV.str l)))), .p (.bool false), .p (.bool false), .p (.str [])] (.obj 41)), some (.bytes [] 5)] (.tup []) [some (.cells [.mptr 0 0, .nsl 2 out.length 1, .p (.lst left.length (List.map PV.str left)), .p (.bool used), .p (.bool done), .p (.str msg)] (.obj 41)), none, some (.bytes out 5)], Claim Pd G [(16, .p (.elem (List.map PV.str l) 0)), (15, .p (.lst l.length (List.map PV.str l))), (14, .ptr 0 0), (5, .ptr 0 0), (13, .ptr 0 0), (12, .p (.agg [.nilp, .nils, .lst (l.length - 1) (List.drop 1 (List.take (l.length * 1) (List.map PV.str l))), .bool false, .bool false, .str []])), (11, .p (.lst (l.length - 1) (List.drop 1 (List.take (l.length * 1) (List.map PV.str l))))), (10, .p (.lst l.length (List.map PV.str l))), (9, .p (.bool ((↑l.length : Int) == 0))), (8, .p (.int .i64 (↑l.length : Int))), (7, .p (.lst l.length (List.map PV.str l))), (4, .p (.int .i64 0)), (3, .p (.str [])), (2, .p (.str [])), (0, .p (.lst l.length (List.map PV.str l)))] [some (.cells [.mptr 0 0, .nsl 1 0 1, .p (.lst (l.length - 1) (List.drop 1 (List.take (l.length * 1) (List.map PV.str l)))), .p (.bool false), .p (.bool false), .p (.str [])] (.obj 41)), some (.bytes [] 5)] { dst := some 17, op := Op.load 9 (Operand.tmp 16), type := 9, pos := "format.go:335", after := #[{ on := 2, ground := Ground.data }], guard := none } (.p (.str x)), (true && decide (0 < (↑l.length : Int))) = true, (true && decide (1 ≤ (↑l.length : Int))) = true, ((↑l.length : Int) == 0) = false], .tup [.p (.str out'), .p (.str msg'), .p (.int .i64 0)], []) := by kernel_rfl

theorem printf0_p1 (l : List (List Nat)) : runFn Pd G T 100000 false [.br true] 11 [.p (.lst 0 [])] [] = some ([true = true], .tup [.p (.str []), .p (.str [109, 105, 115, 115, 105, 110, 103, 32, 102, 111, 114, 109, 97, 116]), .p (.int .i64 2)], []) := by kernel_rfl


/-- The passes that follow the first. -/
def runP (pass : PS → PS) : Nat → PS → PS
  | 0, st => st
  | k + 1, st => if st.done = false ∧ st.used = true ∧ st.left ≠ [] then runP pass k (pass st) else st

/-- What a pass does, for printers of a kind. -/
structure PassOk (G : Glob) (f : List Nat) (pass : PS → PS) (Good : PS → Prop) : Prop where
  rc : ∀ st, Good st → st.done = false → RC Pd G 15 [.ptr 0 0, .p (.str f)] (PH st) (.tup []) (PH2 (pass st))
  good : ∀ st, Good st → st.done = false → Good (pass st)
  dec : ∀ st, Good st → st.done = false → (pass st).used = true → (pass st).left.length < st.left.length

def prFr (m : Nat) (ps : List PV) : Fr := [(5, .ptr 0 0), (4, .p (.int .i64 0)), (3, .p (.str [])), (2, .p (.str [])), (0, .p (.lst m ps))]

theorem printf_loop (hT : TabOk Pd G T) {f : List Nat} {pass : PS → PS} {good : PS → Prop} (hp : PassOk G f pass good) (m : Nat) (ps : List PV) (hm : 0 < m) (hf : ps[0]? = some (.str f)) :
    ∀ (k : Nat) (st : PS), good st → (st.used = true → st.left.length ≤ k) →
      LC Pd G 57 0 (prFr m ps) (PH st) (loopAt Pd 11 0) (.exit 0) (prFr m ps) (PH (runP pass k st)) := by
  intro k
  induction k with
  | zero =>
    intro st hg hk
    obtain ⟨out, left, used, done, msg⟩ := st
    show LC Pd G 57 0 (prFr m ps) (PH _) (loopAt Pd 11 0) (.exit 0) (prFr m ps) (PH ⟨out, left, used, done, msg⟩)
    cases hd : done with
    | true => exact LC.leave hT (printfL_l4 (G := G) m ps f out left used true msg out left used true msg) ⟨rfl, trivial⟩ (by simp)
    | false =>
      cases hu : used with
      | false => exact LC.leave hT (printfL_l3 (G := G) m ps f out left false false msg out left used false msg) ⟨rfl, rfl, trivial⟩ (by simp)
      | true =>
        have h0 := hk (by rw [hu])
        simp only [Nat.le_zero, List.length_eq_zero_iff] at h0
        subst h0
        exact LC.leave hT (printfL_l2 (G := G) m ps f out [] true false msg out [] used false msg) ⟨rfl, rfl, rfl, trivial⟩ (by simp)
  | succ k ih =>
    intro st hg hk
    unfold runP
    by_cases h : st.done = false ∧ st.used = true ∧ st.left ≠ []
    · rw [if_pos h]
      have hdec := hp.dec st hg h.1
      have hk' := hk h.2.1
      generalize hst' : pass st = st' at *
      have hrc := hp.rc st hg h.1
      have hg' := hp.good st hg h.1
      rw [hst'] at hrc hg'
      have h1 := ih st' hg' (fun hu => by have := hdec hu; omega)
      obtain ⟨out, left, used, done, msg⟩ := st
      obtain ⟨out', left', used', done', msg'⟩ := st'
      simp only at h hk' hdec
      obtain ⟨rfl, rfl, hl⟩ := h
      have hpos : 0 < left.length := List.length_pos_iff.2 hl
      refine LC.go hT (printfL_l1 (G := G) m ps f out left true false msg out' left' used' done' msg') ⟨hrc, claim_str (t := 9) rfl (by kernel_rfl) rfl hf, by simpa using hm, by simp only [decide_eq_true_eq]; omega, rfl, rfl, trivial⟩ h1
    · rw [if_neg h]
      obtain ⟨out, left, used, done, msg⟩ := st
      simp only at h
      cases hd : done with
      | true => exact LC.leave hT (printfL_l4 (G := G) m ps f out left used true msg out left used true msg) ⟨rfl, trivial⟩ (by simp)
      | false =>
        cases hu : used with
        | false => exact LC.leave hT (printfL_l3 (G := G) m ps f out left false false msg out left used false msg) ⟨rfl, rfl, trivial⟩ (by simp)
        | true =>
          have h0 : left = [] := by
            by_cases hl : left = []
            · exact hl
            · exact absurd ⟨hd, hu, hl⟩ h
          subst h0
          exact LC.leave hT (printfL_l2 (G := G) m ps f out [] true false msg out [] used false msg) ⟨rfl, rfl, rfl, trivial⟩ (by simp)

def startP (q : List (List Nat)) : PS := ⟨[], q, false, false, []⟩

def printfS (pass : PS → PS) (q : List (List Nat)) : PS := runP pass q.length (pass (startP q))

theorem printf_rc (hT : TabOk Pd G T) {f : List Nat} {pass : PS → PS} {good : PS → Prop} (hp : PassOk G f pass good) (q : List (List Nat)) (hg : good (startP q)) (hq : q.length ≤ 1000000) (ho : (printfS pass q).out.length ≤ 65536) :
    RC Pd G 11 [.p (.lst (f :: q).length ((f :: q).map PV.str))] [] (.tup [.p (.str (printfS pass q).out), .p (.str (printfS pass q).msg), .p (.int .i64 (if (printfS pass q).msg = [] then 0 else 1))]) [] := by
  have hrc := hp.rc _ hg rfl
  have hg' := hp.good _ hg rfl
  have hdec := hp.dec _ hg rfl
  have hlc := printf_loop hT hp (f :: q).length ((f :: q).map PV.str) (by simp) rfl q.length (pass (startP q)) hg' (fun hu => by have h1 := hdec hu; have h2 : (startP q).left.length = q.length := rfl; omega)
  generalize hr : printfS pass q = r at *
  have hr' : runP pass q.length (pass (startP q)) = r := hr
  rw [hr'] at hlc
  generalize hs : pass (startP q) = st at *
  obtain ⟨out, left, used, done, msg⟩ := st
  obtain ⟨out', left', used', done', msg'⟩ := r
  have e1 : List.drop 1 (List.take ((f :: q).length * 1) (List.map PV.str (f :: q))) = q.map PV.str := by
    simp only [Nat.mul_one, List.map_cons, List.length_cons, List.take_succ_cons, List.drop_succ_cons, List.drop_zero]
    exact List.take_of_length_le (by simp)
  have e2 : (f :: q).length - 1 = q.length := by simp
  have hc : Claim Pd G _ _ _ (.p (.str f)) := claim_str (G := G) (P := Pd) (t := 9) (o := { dst := some 17, op := Op.load 9 (Operand.tmp 16), type := 9, pos := "format.go:335", after := #[{ on := 2, ground := Ground.data }], guard := none }) (H := []) (fr := [(16, .p (.elem ((f :: q).map PV.str) 0))]) rfl (by kernel_rfl) rfl rfl
  have hpos : (0 : Int) < ((f :: q).length : Nat) := by simp only [List.length_cons]; omega
  by_cases hmsg : msg' = []
  · have key := printf_p2 (G := G) (T := T) (f :: q) f out left used done msg out' left' used' done' msg'
    rw [e1, e2] at key
    rw [hmsg] at key hlc ⊢
    rw [if_pos rfl]
    exact RC.of_run hT key ⟨rfl, rfl, by simp at ho ⊢; omega, rfl, hlc, hrc, claim_str (t := 9) rfl (by kernel_rfl) rfl rfl, by simp only [Bool.true_and, decide_eq_true_eq]; omega, by simp only [Bool.true_and, decide_eq_true_eq]; omega, by rw [beq_eq_false_iff_ne]; omega, trivial⟩
  · have key := printf_p1 (G := G) (T := T) (f :: q) f out left used done msg out' left' used' done' msg'
    rw [e1, e2] at key
    rw [if_neg hmsg]
    exact RC.of_run hT key ⟨rfl, rfl, by simp at ho ⊢; omega, by simpa using hmsg, hlc, hrc, claim_str (t := 9) rfl (by kernel_rfl) rfl rfl, by simp only [Bool.true_and, decide_eq_true_eq]; omega, by simp only [Bool.true_and, decide_eq_true_eq]; omega, by rw [beq_eq_false_iff_ne]; omega, trivial⟩
end
end Go.Vc
