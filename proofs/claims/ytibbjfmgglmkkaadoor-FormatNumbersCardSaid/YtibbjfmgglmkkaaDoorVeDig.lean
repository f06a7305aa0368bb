/- Own texts of the proof, put together: VeDig. -/
import Derived.Test.YtibbjfmgglmkkaaDoorVeMag
import Derived.Lib.ItoaLen
import Derived.Test.YtibbjfmgglmkkaaDoorVdPass
/- VeDig0 -/
namespace Go.Vc
open Go.Sort

def fillI (mi : Bool) (wi : Int) (s : List Nat) : List Nat :=
  bif mi then s ++ List.replicate (wi - (s.length : Nat)).toNat 32 else List.replicate (wi - (s.length : Nat)).toNat 32 ++ s
theorem fillI_eq (c : Cv) (s : List Nat) : fillI c.mi (c.wi : Nat) s = fillS c s := by
  unfold fillI fillS
  have e : ((c.wi : Nat) - (s.length : Nat) : Int).toNat = c.wi - s.length := by omega
  rw [e]
  cases c.mi <;> rfl
theorem fillS_len (c : Cv) (s : List Nat) : (fillS c s).length = max c.wi s.length := by
  unfold fillS; split <;> simp <;> omega

/-- The last part of digits: zeros up to the width; the sign; blanks up to the width. -/
def dgCf (mi ze ex : Bool) (wi : Int) (g s : List Nat) : List Nat :=
  fillI mi wi (g ++ (if ze = true ∧ mi = false ∧ ex = false then List.replicate (wi - (g.length : Nat) - (s.length : Nat)).toNat 48 ++ s else s))
/-- Zeros up to the precision. -/
def dgBf (mi ze ex : Bool) (wi pr : Int) (g s : List Nat) : List Nat :=
  dgCf mi ze ex wi g (if ex = true then List.replicate (pr - (s.length : Nat)).toNat 48 ++ s else s)
def dgAf (mi ze ex : Bool) (wi pr n : Int) (g s : List Nat) : List Nat :=
  dgBf mi ze ex wi pr g (if ex = true ∧ pr = 0 ∧ n = 0 then [] else s)
/-- A number as a word of 64 bits. -/
def u64 (n : Int) : Nat := (n % 18446744073709551616).toNat
theorem u64_lt (n : Int) : u64 n < 18446744073709551616 := by unfold u64; omega
def dgMf (mi ze pl ex : Bool) (wi pr le n : Int) : List Nat :=
  if le = 100 ∨ le = 105 then
    (if n < 0 then dgAf mi ze ex wi pr n [45] ((itoaS n).drop 1)
     else if pl = true then dgAf mi ze ex wi pr n [43] (itoaS n) else dgAf mi ze ex wi pr n [] (itoaS n))
  else if le = 120 then dgAf mi ze ex wi pr n [] (fbS 16 (u64 n))
  else if le = 111 then dgAf mi ze ex wi pr n [] (fbS 8 (u64 n))
  else dgAf mi ze ex wi pr n [] (decS (u64 n))
def digS (c : Cv) (n : Int) : List Nat := dgMf c.mi c.ze c.pl c.ex (c.wi : Nat) (c.pr : Nat) (c.le : Nat) n
end Go.Vc

/- VeDig -/
namespace Go.Vc
open Go.Sort
set_option linter.unusedVariables false
set_option linter.unusedSimpArgs false

theorem itoaS_len (n : Int) (h0 : -9223372036854775808 ≤ n) (h1 : n ≤ 9223372036854775807) : (itoaS n).length ≤ 100 := by
  have := Lib.itoa_length_le n h0 h1
  unfold itoaS; rw [List.length_map]; omega
theorem decDigits_pos (u : Nat) : 0 < (Lib.decDigits u).length := by
  rw [Lib.decDigits]; split <;> simp
theorem itoaS_pos (n : Int) : 0 < (itoaS n).length := by
  unfold itoaS Lib.itoa
  rw [List.length_map]
  have h1 := decDigits_pos n.natAbs
  have h2 := decDigits_pos n.toNat
  split
  · simp
  · omega
theorem decS_len (u : Nat) (h : u < 18446744073709551616) : (decS u).length ≤ 100 := by
  unfold decS; rw [List.length_map, Lib.decDigits_length]
  have := Lib.nDigits_le20 u h
  omega
theorem fbS_len_le (b : Nat) (hb : 2 ≤ b) : ∀ (k u : Nat), u < b ^ (k + 1) → (fbS b u).length ≤ k + 1 := by
  intro k
  induction k with
  | zero => intro u h; rw [fbS, dif_pos (.inl (by simpa using h))]; simp
  | succ k ih =>
    intro u h
    rw [fbS]
    split
    · simp
    · rw [List.length_append, List.length_singleton]
      have := ih (u / b) (by rw [Nat.div_lt_iff_lt_mul (by omega)]; rw [Nat.pow_succ] at h; exact h)
      omega
theorem fb16_len (u : Nat) (h : u < 18446744073709551616) : (fbS 16 u).length ≤ 100 := by
  have := fbS_len_le 16 (by omega) 15 u (Nat.lt_of_lt_of_le h (by decide))
  omega
theorem fb8_len (u : Nat) (h : u < 18446744073709551616) : (fbS 8 u).length ≤ 100 := by
  have := fbS_len_le 8 (by omega) 21 u (Nat.lt_of_lt_of_le h (by decide))
  omega
theorem wrap_u64 (n : Int) : IntKind.u64.wrap n = ((u64 n : Nat) : Int) := by
  unfold u64
  simp only [IntKind.wrap, IntKind.signed, IntKind.bits]
  simp
  omega

section
variable {T : Tab}
theorem reptZ_i (hT : TabOk Pd Gd T) (k : Int) (h0 : 0 < k) (h1 : k ≤ 8000) : RC Pd Gd 45 [.p (.str [48]), .p (.int .i64 k)] [] (.p (.str (List.replicate k.toNat 48))) [] := by
  obtain ⟨n, rfl⟩ : ∃ n : Nat, k = n := ⟨k.toNat, by omega⟩
  have := reptZ_rc (G := Gd) hT n (by omega)
  simpa using this

theorem dgC_l1 (mi ze pl : Bool) (wi pr : Int) (ex : Bool) (le ln n : Int) (g s : List Nat) : runC Pd Gd T 100000 false [.br true, .br true, .br true, .br true, .callv (.p (.str (List.replicate (wi - (↑g.length : Int) - (↑s.length : Int)).toNat 48))) [], .callv (.p (.str (fillI mi wi (g ++ (List.replicate (wi - (↑g.length : Int) - (↑s.length : Int)).toNat 48 ++ s))))) []] 94 0 [(1, .p (.int .i64 n)), (2, .ptr 0 0), (5, .p (.str g)), (6, .p (.str s))] [some (.cells [.p (.bool mi), .p (.bool ze), .p (.bool pl), .p (.int .i64 wi), .p (.int .i64 pr), .p (.bool ex), .p (.int .u8 le), .p (.int .i64 ln)] (.obj 56))] (codeAt Pd 39 21) [4] [] [] = some ([RC Pd Gd 35 [.p (.agg [.bool mi, .bool ze, .bool pl, .int .i64 wi, .int .i64 pr, .bool ex, .int .u8 le, .int .i64 ln]), .p (.str (g ++ (List.replicate (wi - (↑g.length : Int) - (↑s.length : Int)).toNat 48 ++ s)))] [] (.p (.str (fillI mi wi (g ++ (List.replicate (wi - (↑g.length : Int) - (↑s.length : Int)).toNat 48 ++ s))))) [], decide (g.length + (List.replicate (wi - (↑g.length : Int) - (↑s.length : Int)).toNat 48 ++ s).length ≤ 4611686018427387904) = true, true = true, decide ((List.replicate (wi - (↑g.length : Int) - (↑s.length : Int)).toNat 48).length + s.length ≤ 4611686018427387904) = true, RC Pd Gd 45 [.p (.str [48]), .p (.int .i64 (wi - (↑g.length : Int) - (↑s.length : Int)))] [] (.p (.str (List.replicate (wi - (↑g.length : Int) - (↑s.length : Int)).toNat 48))) [], decide (wi - (↑g.length : Int) - (↑s.length : Int) > 0) = true, (!ex) = true, (!mi) = true, ze = true, fitsK .i64 (wi - (↑g.length : Int) - (↑s.length : Int)) = true, fitsK .i64 (wi - (↑g.length : Int)) = true], .ret, [(4, .p (.str (fillI mi wi (g ++ (List.replicate (wi - (↑g.length : Int) - (↑s.length : Int)).toNat 48 ++ s)))))], []) := by kernel_rfl
theorem dgC_l2 (mi ze pl : Bool) (wi pr : Int) (ex : Bool) (le ln n : Int) (g s : List Nat) : runC Pd Gd T 100000 false [.br true, .br true, .br true, .br false, .callv (.p (.str (fillI mi wi (g ++ s)))) []] 94 0 [(1, .p (.int .i64 n)), (2, .ptr 0 0), (5, .p (.str g)), (6, .p (.str s))] [some (.cells [.p (.bool mi), .p (.bool ze), .p (.bool pl), .p (.int .i64 wi), .p (.int .i64 pr), .p (.bool ex), .p (.int .u8 le), .p (.int .i64 ln)] (.obj 56))] (codeAt Pd 39 21) [4] [] [] = some ([RC Pd Gd 35 [.p (.agg [.bool mi, .bool ze, .bool pl, .int .i64 wi, .int .i64 pr, .bool ex, .int .u8 le, .int .i64 ln]), .p (.str (g ++ s))] [] (.p (.str (fillI mi wi (g ++ s)))) [], decide (g.length + s.length ≤ 4611686018427387904) = true, true = true, decide (wi - (↑g.length : Int) - (↑s.length : Int) > 0) = false, (!ex) = true, (!mi) = true, ze = true, fitsK .i64 (wi - (↑g.length : Int) - (↑s.length : Int)) = true, fitsK .i64 (wi - (↑g.length : Int)) = true], .ret, [(4, .p (.str (fillI mi wi (g ++ s))))], []) := by kernel_rfl
theorem dgC_l3 (mi ze pl : Bool) (wi pr : Int) (ex : Bool) (le ln n : Int) (g s : List Nat) : runC Pd Gd T 100000 false [.br true, .br true, .br false, .callv (.p (.str (fillI mi wi (g ++ s)))) []] 94 0 [(1, .p (.int .i64 n)), (2, .ptr 0 0), (5, .p (.str g)), (6, .p (.str s))] [some (.cells [.p (.bool mi), .p (.bool ze), .p (.bool pl), .p (.int .i64 wi), .p (.int .i64 pr), .p (.bool ex), .p (.int .u8 le), .p (.int .i64 ln)] (.obj 56))] (codeAt Pd 39 21) [4] [] [] = some ([RC Pd Gd 35 [.p (.agg [.bool mi, .bool ze, .bool pl, .int .i64 wi, .int .i64 pr, .bool ex, .int .u8 le, .int .i64 ln]), .p (.str (g ++ s))] [] (.p (.str (fillI mi wi (g ++ s)))) [], decide (g.length + s.length ≤ 4611686018427387904) = true, true = true, (!ex) = false, (!mi) = true, ze = true, fitsK .i64 (wi - (↑g.length : Int) - (↑s.length : Int)) = true, fitsK .i64 (wi - (↑g.length : Int)) = true], .ret, [(4, .p (.str (fillI mi wi (g ++ s))))], []) := by kernel_rfl
theorem dgC_l4 (mi ze pl : Bool) (wi pr : Int) (ex : Bool) (le ln n : Int) (g s : List Nat) : runC Pd Gd T 100000 false [.br true, .br false, .callv (.p (.str (fillI mi wi (g ++ s)))) []] 94 0 [(1, .p (.int .i64 n)), (2, .ptr 0 0), (5, .p (.str g)), (6, .p (.str s))] [some (.cells [.p (.bool mi), .p (.bool ze), .p (.bool pl), .p (.int .i64 wi), .p (.int .i64 pr), .p (.bool ex), .p (.int .u8 le), .p (.int .i64 ln)] (.obj 56))] (codeAt Pd 39 21) [4] [] [] = some ([RC Pd Gd 35 [.p (.agg [.bool mi, .bool ze, .bool pl, .int .i64 wi, .int .i64 pr, .bool ex, .int .u8 le, .int .i64 ln]), .p (.str (g ++ s))] [] (.p (.str (fillI mi wi (g ++ s)))) [], decide (g.length + s.length ≤ 4611686018427387904) = true, true = true, (!mi) = false, ze = true, fitsK .i64 (wi - (↑g.length : Int) - (↑s.length : Int)) = true, fitsK .i64 (wi - (↑g.length : Int)) = true], .ret, [(4, .p (.str (fillI mi wi (g ++ s))))], []) := by kernel_rfl
theorem dgC_l5 (mi ze pl : Bool) (wi pr : Int) (ex : Bool) (le ln n : Int) (g s : List Nat) : runC Pd Gd T 100000 false [.br false, .callv (.p (.str (fillI mi wi (g ++ s)))) []] 94 0 [(1, .p (.int .i64 n)), (2, .ptr 0 0), (5, .p (.str g)), (6, .p (.str s))] [some (.cells [.p (.bool mi), .p (.bool ze), .p (.bool pl), .p (.int .i64 wi), .p (.int .i64 pr), .p (.bool ex), .p (.int .u8 le), .p (.int .i64 ln)] (.obj 56))] (codeAt Pd 39 21) [4] [] [] = some ([RC Pd Gd 35 [.p (.agg [.bool mi, .bool ze, .bool pl, .int .i64 wi, .int .i64 pr, .bool ex, .int .u8 le, .int .i64 ln]), .p (.str (g ++ s))] [] (.p (.str (fillI mi wi (g ++ s)))) [], decide (g.length + s.length ≤ 4611686018427387904) = true, true = true, ze = false, fitsK .i64 (wi - (↑g.length : Int) - (↑s.length : Int)) = true, fitsK .i64 (wi - (↑g.length : Int)) = true], .ret, [(4, .p (.str (fillI mi wi (g ++ s))))], []) := by kernel_rfl
theorem dgB_l1 (mi ze pl : Bool) (wi pr : Int) (ex : Bool) (le ln n : Int) (g s : List Nat) : runC Pd Gd T 100000 false [.br true, .br true, .callv (.p (.str (List.replicate (pr - (↑s.length : Int)).toNat 48))) [], .tr 500021 (Tr.weak [1, 2, 5, 6] [] [0]), .cut 21 .ret [(4, .p (.str (dgCf mi ze ex wi g (List.replicate (pr - (↑s.length : Int)).toNat 48 ++ s))))] []] 94 0 [(1, .p (.int .i64 n)), (2, .ptr 0 0), (5, .p (.str g)), (6, .p (.str s))] [some (.cells [.p (.bool mi), .p (.bool ze), .p (.bool pl), .p (.int .i64 wi), .p (.int .i64 pr), .p (.bool ex), .p (.int .u8 le), .p (.int .i64 ln)] (.obj 56))] (codeAt Pd 39 18) [4] [] [] = some ([CC Pd Gd 94 0 [(1, .p (.int .i64 n)), (2, .ptr 0 0), (5, .p (.str g)), (6, .p (.str (List.replicate (pr - (↑s.length : Int)).toNat 48 ++ s)))] [some (.cells [.p (.bool mi), .p (.bool ze), .p (.bool pl), .p (.int .i64 wi), .p (.int .i64 pr), .p (.bool ex), .p (.int .u8 le), .p (.int .i64 ln)] (.obj 56))] (codeAt Pd 39 21) .ret [(4, .p (.str (dgCf mi ze ex wi g (List.replicate (pr - (↑s.length : Int)).toNat 48 ++ s))))] [], decide ((List.replicate (pr - (↑s.length : Int)).toNat 48).length + s.length ≤ 4611686018427387904) = true, RC Pd Gd 45 [.p (.str [48]), .p (.int .i64 (pr - (↑s.length : Int)))] [] (.p (.str (List.replicate (pr - (↑s.length : Int)).toNat 48))) [], decide (pr - (↑s.length : Int) > 0) = true, ex = true, fitsK .i64 (pr - (↑s.length : Int)) = true], .ret, [(4, .p (.str (dgCf mi ze ex wi g (List.replicate (pr - (↑s.length : Int)).toNat 48 ++ s))))], []) := by kernel_rfl
theorem dgB_l2 (mi ze pl : Bool) (wi pr : Int) (ex : Bool) (le ln n : Int) (g s : List Nat) : runC Pd Gd T 100000 false [.br true, .br false, .tr 500021 (Tr.weak [1, 2, 5, 6] [] [0]), .cut 21 .ret [(4, .p (.str (dgCf mi ze ex wi g s)))] []] 94 0 [(1, .p (.int .i64 n)), (2, .ptr 0 0), (5, .p (.str g)), (6, .p (.str s))] [some (.cells [.p (.bool mi), .p (.bool ze), .p (.bool pl), .p (.int .i64 wi), .p (.int .i64 pr), .p (.bool ex), .p (.int .u8 le), .p (.int .i64 ln)] (.obj 56))] (codeAt Pd 39 18) [4] [] [] = some ([CC Pd Gd 94 0 [(1, .p (.int .i64 n)), (2, .ptr 0 0), (5, .p (.str g)), (6, .p (.str s))] [some (.cells [.p (.bool mi), .p (.bool ze), .p (.bool pl), .p (.int .i64 wi), .p (.int .i64 pr), .p (.bool ex), .p (.int .u8 le), .p (.int .i64 ln)] (.obj 56))] (codeAt Pd 39 21) .ret [(4, .p (.str (dgCf mi ze ex wi g s)))] [], decide (pr - (↑s.length : Int) > 0) = false, ex = true, fitsK .i64 (pr - (↑s.length : Int)) = true], .ret, [(4, .p (.str (dgCf mi ze ex wi g s)))], []) := by kernel_rfl
theorem dgB_l3 (mi ze pl : Bool) (wi pr : Int) (ex : Bool) (le ln n : Int) (g s : List Nat) : runC Pd Gd T 100000 false [.br false, .tr 500021 (Tr.weak [1, 2, 5, 6] [] [0]), .cut 21 .ret [(4, .p (.str (dgCf mi ze ex wi g s)))] []] 94 0 [(1, .p (.int .i64 n)), (2, .ptr 0 0), (5, .p (.str g)), (6, .p (.str s))] [some (.cells [.p (.bool mi), .p (.bool ze), .p (.bool pl), .p (.int .i64 wi), .p (.int .i64 pr), .p (.bool ex), .p (.int .u8 le), .p (.int .i64 ln)] (.obj 56))] (codeAt Pd 39 18) [4] [] [] = some ([CC Pd Gd 94 0 [(1, .p (.int .i64 n)), (2, .ptr 0 0), (5, .p (.str g)), (6, .p (.str s))] [some (.cells [.p (.bool mi), .p (.bool ze), .p (.bool pl), .p (.int .i64 wi), .p (.int .i64 pr), .p (.bool ex), .p (.int .u8 le), .p (.int .i64 ln)] (.obj 56))] (codeAt Pd 39 21) .ret [(4, .p (.str (dgCf mi ze ex wi g s)))] [], ex = false, fitsK .i64 (pr - (↑s.length : Int)) = true], .ret, [(4, .p (.str (dgCf mi ze ex wi g s)))], []) := by kernel_rfl
theorem dgA_l1 (mi ze pl : Bool) (wi pr : Int) (ex : Bool) (le ln n : Int) (g s : List Nat) : runC Pd Gd T 100000 false [.br true, .br true, .br true, .tr 500018 (Tr.weak [1, 2, 5, 6] [] [0]), .cut 18 .ret [(4, .p (.str (dgBf mi ze ex wi pr g [])))] []] 94 0 [(1, .p (.int .i64 n)), (2, .ptr 0 0), (5, .p (.str g)), (6, .p (.str s))] [some (.cells [.p (.bool mi), .p (.bool ze), .p (.bool pl), .p (.int .i64 wi), .p (.int .i64 pr), .p (.bool ex), .p (.int .u8 le), .p (.int .i64 ln)] (.obj 56))] (codeAt Pd 39 16) [4] [] [] = some ([CC Pd Gd 94 0 [(1, .p (.int .i64 n)), (2, .ptr 0 0), (5, .p (.str g)), (6, .p (.str []))] [some (.cells [.p (.bool mi), .p (.bool ze), .p (.bool pl), .p (.int .i64 wi), .p (.int .i64 pr), .p (.bool ex), .p (.int .u8 le), .p (.int .i64 ln)] (.obj 56))] (codeAt Pd 39 18) .ret [(4, .p (.str (dgBf mi ze ex wi pr g [])))] [], (n == 0) = true, (pr == 0) = true, ex = true], .ret, [(4, .p (.str (dgBf mi ze ex wi pr g [])))], []) := by kernel_rfl
theorem dgA_l2 (mi ze pl : Bool) (wi pr : Int) (ex : Bool) (le ln n : Int) (g s : List Nat) : runC Pd Gd T 100000 false [.br true, .br true, .br false, .tr 500018 (Tr.weak [1, 2, 5, 6] [] [0]), .cut 18 .ret [(4, .p (.str (dgBf mi ze ex wi pr g s)))] []] 94 0 [(1, .p (.int .i64 n)), (2, .ptr 0 0), (5, .p (.str g)), (6, .p (.str s))] [some (.cells [.p (.bool mi), .p (.bool ze), .p (.bool pl), .p (.int .i64 wi), .p (.int .i64 pr), .p (.bool ex), .p (.int .u8 le), .p (.int .i64 ln)] (.obj 56))] (codeAt Pd 39 16) [4] [] [] = some ([CC Pd Gd 94 0 [(1, .p (.int .i64 n)), (2, .ptr 0 0), (5, .p (.str g)), (6, .p (.str s))] [some (.cells [.p (.bool mi), .p (.bool ze), .p (.bool pl), .p (.int .i64 wi), .p (.int .i64 pr), .p (.bool ex), .p (.int .u8 le), .p (.int .i64 ln)] (.obj 56))] (codeAt Pd 39 18) .ret [(4, .p (.str (dgBf mi ze ex wi pr g s)))] [], (n == 0) = false, (pr == 0) = true, ex = true], .ret, [(4, .p (.str (dgBf mi ze ex wi pr g s)))], []) := by kernel_rfl
theorem dgA_l3 (mi ze pl : Bool) (wi pr : Int) (ex : Bool) (le ln n : Int) (g s : List Nat) : runC Pd Gd T 100000 false [.br true, .br false, .tr 500018 (Tr.weak [1, 2, 5, 6] [] [0]), .cut 18 .ret [(4, .p (.str (dgBf mi ze ex wi pr g s)))] []] 94 0 [(1, .p (.int .i64 n)), (2, .ptr 0 0), (5, .p (.str g)), (6, .p (.str s))] [some (.cells [.p (.bool mi), .p (.bool ze), .p (.bool pl), .p (.int .i64 wi), .p (.int .i64 pr), .p (.bool ex), .p (.int .u8 le), .p (.int .i64 ln)] (.obj 56))] (codeAt Pd 39 16) [4] [] [] = some ([CC Pd Gd 94 0 [(1, .p (.int .i64 n)), (2, .ptr 0 0), (5, .p (.str g)), (6, .p (.str s))] [some (.cells [.p (.bool mi), .p (.bool ze), .p (.bool pl), .p (.int .i64 wi), .p (.int .i64 pr), .p (.bool ex), .p (.int .u8 le), .p (.int .i64 ln)] (.obj 56))] (codeAt Pd 39 18) .ret [(4, .p (.str (dgBf mi ze ex wi pr g s)))] [], (pr == 0) = false, ex = true], .ret, [(4, .p (.str (dgBf mi ze ex wi pr g s)))], []) := by kernel_rfl
theorem dgA_l4 (mi ze pl : Bool) (wi pr : Int) (ex : Bool) (le ln n : Int) (g s : List Nat) : runC Pd Gd T 100000 false [.br false, .tr 500018 (Tr.weak [1, 2, 5, 6] [] [0]), .cut 18 .ret [(4, .p (.str (dgBf mi ze ex wi pr g s)))] []] 94 0 [(1, .p (.int .i64 n)), (2, .ptr 0 0), (5, .p (.str g)), (6, .p (.str s))] [some (.cells [.p (.bool mi), .p (.bool ze), .p (.bool pl), .p (.int .i64 wi), .p (.int .i64 pr), .p (.bool ex), .p (.int .u8 le), .p (.int .i64 ln)] (.obj 56))] (codeAt Pd 39 16) [4] [] [] = some ([CC Pd Gd 94 0 [(1, .p (.int .i64 n)), (2, .ptr 0 0), (5, .p (.str g)), (6, .p (.str s))] [some (.cells [.p (.bool mi), .p (.bool ze), .p (.bool pl), .p (.int .i64 wi), .p (.int .i64 pr), .p (.bool ex), .p (.int .u8 le), .p (.int .i64 ln)] (.obj 56))] (codeAt Pd 39 18) .ret [(4, .p (.str (dgBf mi ze ex wi pr g s)))] [], ex = false], .ret, [(4, .p (.str (dgBf mi ze ex wi pr g s)))], []) := by kernel_rfl
theorem dgM_p1 (mi ze pl : Bool) (wi pr : Int) (ex : Bool) (le ln n : Int) : runFn Pd Gd T 100000 false [.br true, .br true, .callv (.p (.str (itoaS n))) [], .br true, .tr 500016 (Tr.weak [1, 2, 5, 6] [] [0]), .cut 16 .ret [(4, .p (.str (dgAf mi ze ex wi pr n [45] (List.drop 1 (itoaS n)))))] []] 39 [.p (.agg [.bool mi, .bool ze, .bool pl, .int .i64 wi, .int .i64 pr, .bool ex, .int .u8 le, .int .i64 ln]), .p (.int .i64 n)] [] = some ([CC Pd Gd 94 0 [(1, .p (.int .i64 n)), (2, .ptr 0 0), (5, .p (.str [45])), (6, .p (.str (List.drop 1 (itoaS n))))] [some (.cells [.p (.bool mi), .p (.bool ze), .p (.bool pl), .p (.int .i64 wi), .p (.int .i64 pr), .p (.bool ex), .p (.int .u8 le), .p (.int .i64 ln)] (.obj 56))] (codeAt Pd 39 16) .ret [(4, .p (.str (dgAf mi ze ex wi pr n [45] (List.drop 1 (itoaS n)))))] [], (true && decide (1 ≤ (↑(itoaS n).length : Int))) = true, decide (n < 0) = true, RC Pd Gd 47 [.p (.int .i64 n)] [] (.p (.str (itoaS n))) [], (le == 100) = true, (le == 100) = true], .p (.str (dgAf mi ze ex wi pr n [45] (List.drop 1 (itoaS n)))), []) := by kernel_rfl
theorem dgM_p2 (mi ze pl : Bool) (wi pr : Int) (ex : Bool) (le ln n : Int) : runFn Pd Gd T 100000 false [.br true, .br true, .callv (.p (.str (itoaS n))) [], .br false, .br true, .tr 500016 (Tr.weak [1, 2, 5, 6] [] [0]), .cut 16 .ret [(4, .p (.str (dgAf mi ze ex wi pr n [43] (itoaS n))))] []] 39 [.p (.agg [.bool mi, .bool ze, .bool pl, .int .i64 wi, .int .i64 pr, .bool ex, .int .u8 le, .int .i64 ln]), .p (.int .i64 n)] [] = some ([CC Pd Gd 94 0 [(1, .p (.int .i64 n)), (2, .ptr 0 0), (5, .p (.str [43])), (6, .p (.str (itoaS n)))] [some (.cells [.p (.bool mi), .p (.bool ze), .p (.bool pl), .p (.int .i64 wi), .p (.int .i64 pr), .p (.bool ex), .p (.int .u8 le), .p (.int .i64 ln)] (.obj 56))] (codeAt Pd 39 16) .ret [(4, .p (.str (dgAf mi ze ex wi pr n [43] (itoaS n))))] [], pl = true, decide (n < 0) = false, RC Pd Gd 47 [.p (.int .i64 n)] [] (.p (.str (itoaS n))) [], (le == 100) = true, (le == 100) = true], .p (.str (dgAf mi ze ex wi pr n [43] (itoaS n))), []) := by kernel_rfl
theorem dgM_p3 (mi ze pl : Bool) (wi pr : Int) (ex : Bool) (le ln n : Int) : runFn Pd Gd T 100000 false [.br true, .br true, .callv (.p (.str (itoaS n))) [], .br false, .br false, .tr 500016 (Tr.weak [1, 2, 5, 6] [] [0]), .cut 16 .ret [(4, .p (.str (dgAf mi ze ex wi pr n [] (itoaS n))))] []] 39 [.p (.agg [.bool mi, .bool ze, .bool pl, .int .i64 wi, .int .i64 pr, .bool ex, .int .u8 le, .int .i64 ln]), .p (.int .i64 n)] [] = some ([CC Pd Gd 94 0 [(1, .p (.int .i64 n)), (2, .ptr 0 0), (5, .p (.str [])), (6, .p (.str (itoaS n)))] [some (.cells [.p (.bool mi), .p (.bool ze), .p (.bool pl), .p (.int .i64 wi), .p (.int .i64 pr), .p (.bool ex), .p (.int .u8 le), .p (.int .i64 ln)] (.obj 56))] (codeAt Pd 39 16) .ret [(4, .p (.str (dgAf mi ze ex wi pr n [] (itoaS n))))] [], pl = false, decide (n < 0) = false, RC Pd Gd 47 [.p (.int .i64 n)] [] (.p (.str (itoaS n))) [], (le == 100) = true, (le == 100) = true], .p (.str (dgAf mi ze ex wi pr n [] (itoaS n))), []) := by kernel_rfl
theorem dgM_p7 (mi ze pl : Bool) (wi pr : Int) (ex : Bool) (le ln n : Int) : runFn Pd Gd T 100000 false [.br false, .br true, .callv (.p (.str (itoaS n))) [], .br true, .tr 500016 (Tr.weak [1, 2, 5, 6] [] [0]), .cut 16 .ret [(4, .p (.str (dgAf mi ze ex wi pr n [45] (List.drop 1 (itoaS n)))))] []] 39 [.p (.agg [.bool mi, .bool ze, .bool pl, .int .i64 wi, .int .i64 pr, .bool ex, .int .u8 le, .int .i64 ln]), .p (.int .i64 n)] [] = some ([CC Pd Gd 94 0 [(1, .p (.int .i64 n)), (2, .ptr 0 0), (5, .p (.str [45])), (6, .p (.str (List.drop 1 (itoaS n))))] [some (.cells [.p (.bool mi), .p (.bool ze), .p (.bool pl), .p (.int .i64 wi), .p (.int .i64 pr), .p (.bool ex), .p (.int .u8 le), .p (.int .i64 ln)] (.obj 56))] (codeAt Pd 39 16) .ret [(4, .p (.str (dgAf mi ze ex wi pr n [45] (List.drop 1 (itoaS n)))))] [], (true && decide (1 ≤ (↑(itoaS n).length : Int))) = true, decide (n < 0) = true, RC Pd Gd 47 [.p (.int .i64 n)] [] (.p (.str (itoaS n))) [], (le == 105) = true, (le == 100) = false], .p (.str (dgAf mi ze ex wi pr n [45] (List.drop 1 (itoaS n)))), []) := by kernel_rfl
theorem dgM_p8 (mi ze pl : Bool) (wi pr : Int) (ex : Bool) (le ln n : Int) : runFn Pd Gd T 100000 false [.br false, .br true, .callv (.p (.str (itoaS n))) [], .br false, .br true, .tr 500016 (Tr.weak [1, 2, 5, 6] [] [0]), .cut 16 .ret [(4, .p (.str (dgAf mi ze ex wi pr n [43] (itoaS n))))] []] 39 [.p (.agg [.bool mi, .bool ze, .bool pl, .int .i64 wi, .int .i64 pr, .bool ex, .int .u8 le, .int .i64 ln]), .p (.int .i64 n)] [] = some ([CC Pd Gd 94 0 [(1, .p (.int .i64 n)), (2, .ptr 0 0), (5, .p (.str [43])), (6, .p (.str (itoaS n)))] [some (.cells [.p (.bool mi), .p (.bool ze), .p (.bool pl), .p (.int .i64 wi), .p (.int .i64 pr), .p (.bool ex), .p (.int .u8 le), .p (.int .i64 ln)] (.obj 56))] (codeAt Pd 39 16) .ret [(4, .p (.str (dgAf mi ze ex wi pr n [43] (itoaS n))))] [], pl = true, decide (n < 0) = false, RC Pd Gd 47 [.p (.int .i64 n)] [] (.p (.str (itoaS n))) [], (le == 105) = true, (le == 100) = false], .p (.str (dgAf mi ze ex wi pr n [43] (itoaS n))), []) := by kernel_rfl
theorem dgM_p9 (mi ze pl : Bool) (wi pr : Int) (ex : Bool) (le ln n : Int) : runFn Pd Gd T 100000 false [.br false, .br true, .callv (.p (.str (itoaS n))) [], .br false, .br false, .tr 500016 (Tr.weak [1, 2, 5, 6] [] [0]), .cut 16 .ret [(4, .p (.str (dgAf mi ze ex wi pr n [] (itoaS n))))] []] 39 [.p (.agg [.bool mi, .bool ze, .bool pl, .int .i64 wi, .int .i64 pr, .bool ex, .int .u8 le, .int .i64 ln]), .p (.int .i64 n)] [] = some ([CC Pd Gd 94 0 [(1, .p (.int .i64 n)), (2, .ptr 0 0), (5, .p (.str [])), (6, .p (.str (itoaS n)))] [some (.cells [.p (.bool mi), .p (.bool ze), .p (.bool pl), .p (.int .i64 wi), .p (.int .i64 pr), .p (.bool ex), .p (.int .u8 le), .p (.int .i64 ln)] (.obj 56))] (codeAt Pd 39 16) .ret [(4, .p (.str (dgAf mi ze ex wi pr n [] (itoaS n))))] [], pl = false, decide (n < 0) = false, RC Pd Gd 47 [.p (.int .i64 n)] [] (.p (.str (itoaS n))) [], (le == 105) = true, (le == 100) = false], .p (.str (dgAf mi ze ex wi pr n [] (itoaS n))), []) := by kernel_rfl
theorem dgMx_p1 (mi ze pl : Bool) (wi pr : Int) (ex : Bool) (le ln n : Int) : runFn Pd Gd T 100000 false [.br false, .br false, .br true, .wrap 28, .callv (.p (.str (fbS 16 (u64 n)))) [], .tr 500016 (Tr.weak [1, 2, 5, 6] [] [0]), .cut 16 .ret [(4, .p (.str (dgAf mi ze ex wi pr n [] (fbS 16 (u64 n)))))] []] 39 [.p (.agg [.bool mi, .bool ze, .bool pl, .int .i64 wi, .int .i64 pr, .bool ex, .int .u8 le, .int .i64 ln]), .p (.int .i64 n)] [] = some ([CC Pd Gd 94 0 [(1, .p (.int .i64 n)), (2, .ptr 0 0), (5, .p (.str [])), (6, .p (.str (fbS 16 (u64 n))))] [some (.cells [.p (.bool mi), .p (.bool ze), .p (.bool pl), .p (.int .i64 wi), .p (.int .i64 pr), .p (.bool ex), .p (.int .u8 le), .p (.int .i64 ln)] (.obj 56))] (codeAt Pd 39 16) .ret [(4, .p (.str (dgAf mi ze ex wi pr n [] (fbS 16 (u64 n)))))] [], RC Pd Gd 48 [.p (.int .u64 (IntKind.u64.wrap n)), .p (.int .i64 16)] [] (.p (.str (fbS 16 (u64 n)))) [], (le == 120) = true, (le == 105) = false, (le == 100) = false], .p (.str (dgAf mi ze ex wi pr n [] (fbS 16 (u64 n)))), []) := by kernel_rfl
theorem dgMo_p1 (mi ze pl : Bool) (wi pr : Int) (ex : Bool) (le ln n : Int) : runFn Pd Gd T 100000 false [.br false, .br false, .br false, .br true, .wrap 33, .callv (.p (.str (fbS 8 (u64 n)))) [], .tr 500016 (Tr.weak [1, 2, 5, 6] [] [0]), .cut 16 .ret [(4, .p (.str (dgAf mi ze ex wi pr n [] (fbS 8 (u64 n)))))] []] 39 [.p (.agg [.bool mi, .bool ze, .bool pl, .int .i64 wi, .int .i64 pr, .bool ex, .int .u8 le, .int .i64 ln]), .p (.int .i64 n)] [] = some ([CC Pd Gd 94 0 [(1, .p (.int .i64 n)), (2, .ptr 0 0), (5, .p (.str [])), (6, .p (.str (fbS 8 (u64 n))))] [some (.cells [.p (.bool mi), .p (.bool ze), .p (.bool pl), .p (.int .i64 wi), .p (.int .i64 pr), .p (.bool ex), .p (.int .u8 le), .p (.int .i64 ln)] (.obj 56))] (codeAt Pd 39 16) .ret [(4, .p (.str (dgAf mi ze ex wi pr n [] (fbS 8 (u64 n)))))] [], RC Pd Gd 48 [.p (.int .u64 (IntKind.u64.wrap n)), .p (.int .i64 8)] [] (.p (.str (fbS 8 (u64 n)))) [], (le == 111) = true, (le == 120) = false, (le == 105) = false, (le == 100) = false], .p (.str (dgAf mi ze ex wi pr n [] (fbS 8 (u64 n)))), []) := by kernel_rfl
theorem dgMd_p1 (mi ze pl : Bool) (wi pr : Int) (ex : Bool) (le ln n : Int) : runFn Pd Gd T 100000 false [.br false, .br false, .br false, .br false, .wrap 12, .callv (.p (.str (decS (u64 n)))) [], .tr 500016 (Tr.weak [1, 2, 5, 6] [] [0]), .cut 16 .ret [(4, .p (.str (dgAf mi ze ex wi pr n [] (decS (u64 n)))))] []] 39 [.p (.agg [.bool mi, .bool ze, .bool pl, .int .i64 wi, .int .i64 pr, .bool ex, .int .u8 le, .int .i64 ln]), .p (.int .i64 n)] [] = some ([CC Pd Gd 94 0 [(1, .p (.int .i64 n)), (2, .ptr 0 0), (5, .p (.str [])), (6, .p (.str (decS (u64 n))))] [some (.cells [.p (.bool mi), .p (.bool ze), .p (.bool pl), .p (.int .i64 wi), .p (.int .i64 pr), .p (.bool ex), .p (.int .u8 le), .p (.int .i64 ln)] (.obj 56))] (codeAt Pd 39 16) .ret [(4, .p (.str (dgAf mi ze ex wi pr n [] (decS (u64 n)))))] [], RC Pd Gd 48 [.p (.int .u64 (IntKind.u64.wrap n)), .p (.int .i64 10)] [] (.p (.str (decS (u64 n)))) [], (le == 111) = false, (le == 120) = false, (le == 105) = false, (le == 100) = false], .p (.str (dgAf mi ze ex wi pr n [] (decS (u64 n)))), []) := by kernel_rfl
def dgC_t (mi ze pl : Bool) (wi pr : Int) (ex : Bool) (le ln n : Int) (g s : List Nat) : Fr × Heap :=
  bif ze then
    bif (!mi) then
      bif (!ex) then
        bif decide (wi - (↑g.length : Int) - (↑s.length : Int) > 0) then
          ([(4, .p (.str (fillI mi wi (g ++ (List.replicate (wi - (↑g.length : Int) - (↑s.length : Int)).toNat 48 ++ s)))))], [])
        else
          ([(4, .p (.str (fillI mi wi (g ++ s))))], [])
      else
        ([(4, .p (.str (fillI mi wi (g ++ s))))], [])
    else
      ([(4, .p (.str (fillI mi wi (g ++ s))))], [])
  else
    ([(4, .p (.str (fillI mi wi (g ++ s))))], [])

set_option maxHeartbeats 0 in
set_option maxRecDepth 20000 in
theorem dgC_cc (hT : TabOk Pd Gd T) (mi ze pl : Bool) (wi pr : Int) (ex : Bool) (le ln n : Int) (g s : List Nat) (hf : ∀ x : List Nat, x.length ≤ 1000000 → RC Pd Gd 35 [.p (.agg [.bool mi, .bool ze, .bool pl, .int .i64 wi, .int .i64 pr, .bool ex, .int .u8 le, .int .i64 ln]), .p (.str x)] [] (.p (.str (fillI mi wi x))) []) (hw : 0 ≤ wi ∧ wi ≤ 5000) (hp : 0 ≤ pr ∧ pr ≤ 5000) (hg : g.length ≤ 1) (hs : s.length ≤ 20000) : CC Pd Gd 94 0 [(1, .p (.int .i64 n)), (2, .ptr 0 0), (5, .p (.str g)), (6, .p (.str s))] [some (.cells [.p (.bool mi), .p (.bool ze), .p (.bool pl), .p (.int .i64 wi), .p (.int .i64 pr), .p (.bool ex), .p (.int .u8 le), .p (.int .i64 ln)] (.obj 56))] (codeAt Pd 39 21) .ret (dgC_t mi ze pl wi pr ex le ln n g s).1 (dgC_t mi ze pl wi pr ex le ln n g s).2 := by
  rcases Bool.eq_false_or_eq_true (ze) with h1 | h1
  · have h1q := h1
    try simp only [zA, zB, zC, zD, zE, zF, zG, zH, zI, zJ, zK, zL, zM, zN, zO, zP, zQ, zR, zS, zT, zU, zV, zW, zX, zY, zZ] at h1q
    rcases Bool.eq_false_or_eq_true ((!mi)) with h2 | h2
    · have h2q := h2
      try simp only [zA, zB, zC, zD, zE, zF, zG, zH, zI, zJ, zK, zL, zM, zN, zO, zP, zQ, zR, zS, zT, zU, zV, zW, zX, zY, zZ] at h2q
      rcases Bool.eq_false_or_eq_true ((!ex)) with h3 | h3
      · have h3q := h3
        try simp only [zA, zB, zC, zD, zE, zF, zG, zH, zI, zJ, zK, zL, zM, zN, zO, zP, zQ, zR, zS, zT, zU, zV, zW, zX, zY, zZ] at h3q
        rcases Bool.eq_false_or_eq_true (decide (wi - (↑g.length : Int) - (↑s.length : Int) > 0)) with h4 | h4
        · have h4q := h4
          try simp only [zA, zB, zC, zD, zE, zF, zG, zH, zI, zJ, zK, zL, zM, zN, zO, zP, zQ, zR, zS, zT, zU, zV, zW, zX, zY, zZ] at h4q
          refine CC.tree (t := dgC_t mi ze pl wi pr ex le ln n g s) (fr1 := [(4, .p (.str (fillI mi wi (g ++ (List.replicate (wi - (↑g.length : Int) - (↑s.length : Int)).toNat 48 ++ s)))))]) (K := []) ((cond_t h1).trans ((cond_t h2).trans ((cond_t h3).trans ((cond_t h4).trans (rfl))))) (CC.of_run hT (dgC_l1 (T := T) mi ze pl wi pr ex le ln n g s) ?_)
          simp only [AllT]
          repeat' (first | exact trivial | assumption | exact rfl | apply And.intro)
          all_goals (first | assumption | exact reptZ_i hT _ (by omega) (by omega) | exact hf _ (by first | omega | (simp only [List.length_append, List.length_replicate, List.length_nil, List.length_cons]; omega)) | (simp only [zA, zB, zC, zD, zE, zF, zG, zH, zI, zJ, zK, zL, zM, zN, zO, zP, zQ, zR, zS, zT, zU, zV, zW, zX, zY, zZ]; omega) | (simp only [zA, zB, zC, zD, zE, zF, zG, zH, zI, zJ, zK, zL, zM, zN, zO, zP, zQ, zR, zS, zT, zU, zV, zW, zX, zY, zZ] at *; omega))
        · have h4q := h4
          try simp only [zA, zB, zC, zD, zE, zF, zG, zH, zI, zJ, zK, zL, zM, zN, zO, zP, zQ, zR, zS, zT, zU, zV, zW, zX, zY, zZ] at h4q
          refine CC.tree (t := dgC_t mi ze pl wi pr ex le ln n g s) (fr1 := [(4, .p (.str (fillI mi wi (g ++ s))))]) (K := []) ((cond_t h1).trans ((cond_t h2).trans ((cond_t h3).trans ((cond_f h4).trans (rfl))))) (CC.of_run hT (dgC_l2 (T := T) mi ze pl wi pr ex le ln n g s) ?_)
          simp only [AllT]
          repeat' (first | exact trivial | assumption | exact rfl | apply And.intro)
          all_goals (first | assumption | exact reptZ_i hT _ (by omega) (by omega) | exact hf _ (by first | omega | (simp only [List.length_append, List.length_replicate, List.length_nil, List.length_cons]; omega)) | (simp only [zA, zB, zC, zD, zE, zF, zG, zH, zI, zJ, zK, zL, zM, zN, zO, zP, zQ, zR, zS, zT, zU, zV, zW, zX, zY, zZ]; omega) | (simp only [zA, zB, zC, zD, zE, zF, zG, zH, zI, zJ, zK, zL, zM, zN, zO, zP, zQ, zR, zS, zT, zU, zV, zW, zX, zY, zZ] at *; omega))
      · have h3q := h3
        try simp only [zA, zB, zC, zD, zE, zF, zG, zH, zI, zJ, zK, zL, zM, zN, zO, zP, zQ, zR, zS, zT, zU, zV, zW, zX, zY, zZ] at h3q
        refine CC.tree (t := dgC_t mi ze pl wi pr ex le ln n g s) (fr1 := [(4, .p (.str (fillI mi wi (g ++ s))))]) (K := []) ((cond_t h1).trans ((cond_t h2).trans ((cond_f h3).trans (rfl)))) (CC.of_run hT (dgC_l3 (T := T) mi ze pl wi pr ex le ln n g s) ?_)
        simp only [AllT]
        repeat' (first | exact trivial | assumption | exact rfl | apply And.intro)
        all_goals (first | assumption | exact reptZ_i hT _ (by omega) (by omega) | exact hf _ (by first | omega | (simp only [List.length_append, List.length_replicate, List.length_nil, List.length_cons]; omega)) | (simp only [zA, zB, zC, zD, zE, zF, zG, zH, zI, zJ, zK, zL, zM, zN, zO, zP, zQ, zR, zS, zT, zU, zV, zW, zX, zY, zZ]; omega) | (simp only [zA, zB, zC, zD, zE, zF, zG, zH, zI, zJ, zK, zL, zM, zN, zO, zP, zQ, zR, zS, zT, zU, zV, zW, zX, zY, zZ] at *; omega))
    · have h2q := h2
      try simp only [zA, zB, zC, zD, zE, zF, zG, zH, zI, zJ, zK, zL, zM, zN, zO, zP, zQ, zR, zS, zT, zU, zV, zW, zX, zY, zZ] at h2q
      refine CC.tree (t := dgC_t mi ze pl wi pr ex le ln n g s) (fr1 := [(4, .p (.str (fillI mi wi (g ++ s))))]) (K := []) ((cond_t h1).trans ((cond_f h2).trans (rfl))) (CC.of_run hT (dgC_l4 (T := T) mi ze pl wi pr ex le ln n g s) ?_)
      simp only [AllT]
      repeat' (first | exact trivial | assumption | exact rfl | apply And.intro)
      all_goals (first | assumption | exact reptZ_i hT _ (by omega) (by omega) | exact hf _ (by first | omega | (simp only [List.length_append, List.length_replicate, List.length_nil, List.length_cons]; omega)) | (simp only [zA, zB, zC, zD, zE, zF, zG, zH, zI, zJ, zK, zL, zM, zN, zO, zP, zQ, zR, zS, zT, zU, zV, zW, zX, zY, zZ]; omega) | (simp only [zA, zB, zC, zD, zE, zF, zG, zH, zI, zJ, zK, zL, zM, zN, zO, zP, zQ, zR, zS, zT, zU, zV, zW, zX, zY, zZ] at *; omega))
  · have h1q := h1
    try simp only [zA, zB, zC, zD, zE, zF, zG, zH, zI, zJ, zK, zL, zM, zN, zO, zP, zQ, zR, zS, zT, zU, zV, zW, zX, zY, zZ] at h1q
    refine CC.tree (t := dgC_t mi ze pl wi pr ex le ln n g s) (fr1 := [(4, .p (.str (fillI mi wi (g ++ s))))]) (K := []) ((cond_f h1).trans (rfl)) (CC.of_run hT (dgC_l5 (T := T) mi ze pl wi pr ex le ln n g s) ?_)
    simp only [AllT]
    repeat' (first | exact trivial | assumption | exact rfl | apply And.intro)
    all_goals (first | assumption | exact reptZ_i hT _ (by omega) (by omega) | exact hf _ (by first | omega | (simp only [List.length_append, List.length_replicate, List.length_nil, List.length_cons]; omega)) | (simp only [zA, zB, zC, zD, zE, zF, zG, zH, zI, zJ, zK, zL, zM, zN, zO, zP, zQ, zR, zS, zT, zU, zV, zW, zX, zY, zZ]; omega) | (simp only [zA, zB, zC, zD, zE, zF, zG, zH, zI, zJ, zK, zL, zM, zN, zO, zP, zQ, zR, zS, zT, zU, zV, zW, zX, zY, zZ] at *; omega))
set_option maxHeartbeats 0 in
set_option maxRecDepth 20000 in
theorem dgC_eq (mi ze pl : Bool) (wi pr : Int) (ex : Bool) (le ln n : Int) (g s : List Nat)  : dgC_t mi ze pl wi pr ex le ln n g s = ([(4, .p (.str (dgCf mi ze ex wi g s)))], []) := by
  rcases Bool.eq_false_or_eq_true (ze) with h1 | h1
  · have h1q := h1
    try simp only [zA, zB, zC, zD, zE, zF, zG, zH, zI, zJ, zK, zL, zM, zN, zO, zP, zQ, zR, zS, zT, zU, zV, zW, zX, zY, zZ] at h1q
    rcases Bool.eq_false_or_eq_true ((!mi)) with h2 | h2
    · have h2q := h2
      try simp only [zA, zB, zC, zD, zE, zF, zG, zH, zI, zJ, zK, zL, zM, zN, zO, zP, zQ, zR, zS, zT, zU, zV, zW, zX, zY, zZ] at h2q
      rcases Bool.eq_false_or_eq_true ((!ex)) with h3 | h3
      · have h3q := h3
        try simp only [zA, zB, zC, zD, zE, zF, zG, zH, zI, zJ, zK, zL, zM, zN, zO, zP, zQ, zR, zS, zT, zU, zV, zW, zX, zY, zZ] at h3q
        rcases Bool.eq_false_or_eq_true (decide (wi - (↑g.length : Int) - (↑s.length : Int) > 0)) with h4 | h4
        · have h4q := h4
          try simp only [zA, zB, zC, zD, zE, zF, zG, zH, zI, zJ, zK, zL, zM, zN, zO, zP, zQ, zR, zS, zT, zU, zV, zW, zX, zY, zZ] at h4q
          refine Eq.trans (show dgC_t mi ze pl wi pr ex le ln n g s = ([(4, .p (.str (fillI mi wi (g ++ (List.replicate (wi - (↑g.length : Int) - (↑s.length : Int)).toNat 48 ++ s)))))], []) from (cond_t h1).trans ((cond_t h2).trans ((cond_t h3).trans ((cond_t h4).trans (rfl))))) ?_
          try unfold dgCf
          repeat' split
          all_goals (first | rfl | (have e : (wi - (g.length : Int) - (s.length : Int)).toNat = 0 := (by omega); rw [e]; rfl) | (simp_all; done) | rfl | (exfalso; omega) | (simp only [zA, zB, zC, zD, zE, zF, zG, zH, zI, zJ, zK, zL, zM, zN, zO, zP, zQ, zR, zS, zT, zU, zV, zW, zX, zY, zZ] at *; omega) | (exfalso; simp_all; done) | (exfalso; simp_all; omega) | (simp_all; done) | contradiction)
        · have h4q := h4
          try simp only [zA, zB, zC, zD, zE, zF, zG, zH, zI, zJ, zK, zL, zM, zN, zO, zP, zQ, zR, zS, zT, zU, zV, zW, zX, zY, zZ] at h4q
          refine Eq.trans (show dgC_t mi ze pl wi pr ex le ln n g s = ([(4, .p (.str (fillI mi wi (g ++ s))))], []) from (cond_t h1).trans ((cond_t h2).trans ((cond_t h3).trans ((cond_f h4).trans (rfl))))) ?_
          try unfold dgCf
          repeat' split
          all_goals (first | rfl | (have e : (wi - (g.length : Int) - (s.length : Int)).toNat = 0 := (by omega); rw [e]; rfl) | (simp_all; done) | rfl | (exfalso; omega) | (simp only [zA, zB, zC, zD, zE, zF, zG, zH, zI, zJ, zK, zL, zM, zN, zO, zP, zQ, zR, zS, zT, zU, zV, zW, zX, zY, zZ] at *; omega) | (exfalso; simp_all; done) | (exfalso; simp_all; omega) | (simp_all; done) | contradiction)
      · have h3q := h3
        try simp only [zA, zB, zC, zD, zE, zF, zG, zH, zI, zJ, zK, zL, zM, zN, zO, zP, zQ, zR, zS, zT, zU, zV, zW, zX, zY, zZ] at h3q
        refine Eq.trans (show dgC_t mi ze pl wi pr ex le ln n g s = ([(4, .p (.str (fillI mi wi (g ++ s))))], []) from (cond_t h1).trans ((cond_t h2).trans ((cond_f h3).trans (rfl)))) ?_
        try unfold dgCf
        repeat' split
        all_goals (first | rfl | (have e : (wi - (g.length : Int) - (s.length : Int)).toNat = 0 := (by omega); rw [e]; rfl) | (simp_all; done) | rfl | (exfalso; omega) | (simp only [zA, zB, zC, zD, zE, zF, zG, zH, zI, zJ, zK, zL, zM, zN, zO, zP, zQ, zR, zS, zT, zU, zV, zW, zX, zY, zZ] at *; omega) | (exfalso; simp_all; done) | (exfalso; simp_all; omega) | (simp_all; done) | contradiction)
    · have h2q := h2
      try simp only [zA, zB, zC, zD, zE, zF, zG, zH, zI, zJ, zK, zL, zM, zN, zO, zP, zQ, zR, zS, zT, zU, zV, zW, zX, zY, zZ] at h2q
      refine Eq.trans (show dgC_t mi ze pl wi pr ex le ln n g s = ([(4, .p (.str (fillI mi wi (g ++ s))))], []) from (cond_t h1).trans ((cond_f h2).trans (rfl))) ?_
      try unfold dgCf
      repeat' split
      all_goals (first | rfl | (have e : (wi - (g.length : Int) - (s.length : Int)).toNat = 0 := (by omega); rw [e]; rfl) | (simp_all; done) | rfl | (exfalso; omega) | (simp only [zA, zB, zC, zD, zE, zF, zG, zH, zI, zJ, zK, zL, zM, zN, zO, zP, zQ, zR, zS, zT, zU, zV, zW, zX, zY, zZ] at *; omega) | (exfalso; simp_all; done) | (exfalso; simp_all; omega) | (simp_all; done) | contradiction)
  · have h1q := h1
    try simp only [zA, zB, zC, zD, zE, zF, zG, zH, zI, zJ, zK, zL, zM, zN, zO, zP, zQ, zR, zS, zT, zU, zV, zW, zX, zY, zZ] at h1q
    refine Eq.trans (show dgC_t mi ze pl wi pr ex le ln n g s = ([(4, .p (.str (fillI mi wi (g ++ s))))], []) from (cond_f h1).trans (rfl)) ?_
    try unfold dgCf
    repeat' split
    all_goals (first | rfl | (have e : (wi - (g.length : Int) - (s.length : Int)).toNat = 0 := (by omega); rw [e]; rfl) | (simp_all; done) | rfl | (exfalso; omega) | (simp only [zA, zB, zC, zD, zE, zF, zG, zH, zI, zJ, zK, zL, zM, zN, zO, zP, zQ, zR, zS, zT, zU, zV, zW, zX, zY, zZ] at *; omega) | (exfalso; simp_all; done) | (exfalso; simp_all; omega) | (simp_all; done) | contradiction)

theorem dgC_ok (hT : TabOk Pd Gd T) (mi ze pl : Bool) (wi pr : Int) (ex : Bool) (le ln n : Int) (g s : List Nat) (hf : ∀ x : List Nat, x.length ≤ 1000000 → RC Pd Gd 35 [.p (.agg [.bool mi, .bool ze, .bool pl, .int .i64 wi, .int .i64 pr, .bool ex, .int .u8 le, .int .i64 ln]), .p (.str x)] [] (.p (.str (fillI mi wi x))) []) (hw : 0 ≤ wi ∧ wi ≤ 5000) (hp : 0 ≤ pr ∧ pr ≤ 5000) (hg : g.length ≤ 1) (hs : s.length ≤ 20000) :
    CC Pd Gd 94 0 [(1, .p (.int .i64 n)), (2, .ptr 0 0), (5, .p (.str g)), (6, .p (.str s))] [some (.cells [.p (.bool mi), .p (.bool ze), .p (.bool pl), .p (.int .i64 wi), .p (.int .i64 pr), .p (.bool ex), .p (.int .u8 le), .p (.int .i64 ln)] (.obj 56))] (codeAt Pd 39 21) .ret [(4, .p (.str (dgCf mi ze ex wi g s)))] [] := by
  have h := dgC_cc hT mi ze pl wi pr ex le ln n g s hf hw hp hg hs
  rw [dgC_eq] at h
  exact h
def dgB_t (mi ze pl : Bool) (wi pr : Int) (ex : Bool) (le ln n : Int) (g s : List Nat) : Fr × Heap :=
  bif ex then
    bif decide (pr - (↑s.length : Int) > 0) then
      ([(4, .p (.str (dgCf mi ze ex wi g (List.replicate (pr - (↑s.length : Int)).toNat 48 ++ s))))], [])
    else
      ([(4, .p (.str (dgCf mi ze ex wi g s)))], [])
  else
    ([(4, .p (.str (dgCf mi ze ex wi g s)))], [])

set_option maxHeartbeats 0 in
set_option maxRecDepth 20000 in
theorem dgB_cc (hT : TabOk Pd Gd T) (mi ze pl : Bool) (wi pr : Int) (ex : Bool) (le ln n : Int) (g s : List Nat) (hf : ∀ x : List Nat, x.length ≤ 1000000 → RC Pd Gd 35 [.p (.agg [.bool mi, .bool ze, .bool pl, .int .i64 wi, .int .i64 pr, .bool ex, .int .u8 le, .int .i64 ln]), .p (.str x)] [] (.p (.str (fillI mi wi x))) []) (hw : 0 ≤ wi ∧ wi ≤ 5000) (hp : 0 ≤ pr ∧ pr ≤ 5000) (hg : g.length ≤ 1) (hs : s.length ≤ 10000) : CC Pd Gd 94 0 [(1, .p (.int .i64 n)), (2, .ptr 0 0), (5, .p (.str g)), (6, .p (.str s))] [some (.cells [.p (.bool mi), .p (.bool ze), .p (.bool pl), .p (.int .i64 wi), .p (.int .i64 pr), .p (.bool ex), .p (.int .u8 le), .p (.int .i64 ln)] (.obj 56))] (codeAt Pd 39 18) .ret (dgB_t mi ze pl wi pr ex le ln n g s).1 (dgB_t mi ze pl wi pr ex le ln n g s).2 := by
  rcases Bool.eq_false_or_eq_true (ex) with h1 | h1
  · have h1q := h1
    try simp only [zA, zB, zC, zD, zE, zF, zG, zH, zI, zJ, zK, zL, zM, zN, zO, zP, zQ, zR, zS, zT, zU, zV, zW, zX, zY, zZ] at h1q
    rcases Bool.eq_false_or_eq_true (decide (pr - (↑s.length : Int) > 0)) with h2 | h2
    · have h2q := h2
      try simp only [zA, zB, zC, zD, zE, zF, zG, zH, zI, zJ, zK, zL, zM, zN, zO, zP, zQ, zR, zS, zT, zU, zV, zW, zX, zY, zZ] at h2q
      refine CC.tree (t := dgB_t mi ze pl wi pr ex le ln n g s) (fr1 := [(4, .p (.str (dgCf mi ze ex wi g (List.replicate (pr - (↑s.length : Int)).toNat 48 ++ s))))]) (K := []) ((cond_t h1).trans ((cond_t h2).trans (rfl))) (CC.of_run hT (dgB_l1 (T := T) mi ze pl wi pr ex le ln n g s) ?_)
      simp only [AllT]
      repeat' (first | exact trivial | assumption | exact rfl | apply And.intro)
      all_goals (first | assumption | exact reptZ_i hT _ (by omega) (by omega) | exact dgC_ok hT mi ze pl wi pr ex le ln n g _ hf hw hp hg (by first | omega | (simp only [List.length_append, List.length_replicate, List.length_nil, List.length_cons]; omega)) | (simp only [zA, zB, zC, zD, zE, zF, zG, zH, zI, zJ, zK, zL, zM, zN, zO, zP, zQ, zR, zS, zT, zU, zV, zW, zX, zY, zZ]; omega) | (simp only [zA, zB, zC, zD, zE, zF, zG, zH, zI, zJ, zK, zL, zM, zN, zO, zP, zQ, zR, zS, zT, zU, zV, zW, zX, zY, zZ] at *; omega))
    · have h2q := h2
      try simp only [zA, zB, zC, zD, zE, zF, zG, zH, zI, zJ, zK, zL, zM, zN, zO, zP, zQ, zR, zS, zT, zU, zV, zW, zX, zY, zZ] at h2q
      refine CC.tree (t := dgB_t mi ze pl wi pr ex le ln n g s) (fr1 := [(4, .p (.str (dgCf mi ze ex wi g s)))]) (K := []) ((cond_t h1).trans ((cond_f h2).trans (rfl))) (CC.of_run hT (dgB_l2 (T := T) mi ze pl wi pr ex le ln n g s) ?_)
      simp only [AllT]
      repeat' (first | exact trivial | assumption | exact rfl | apply And.intro)
      all_goals (first | assumption | exact reptZ_i hT _ (by omega) (by omega) | exact dgC_ok hT mi ze pl wi pr ex le ln n g _ hf hw hp hg (by first | omega | (simp only [List.length_append, List.length_replicate, List.length_nil, List.length_cons]; omega)) | (simp only [zA, zB, zC, zD, zE, zF, zG, zH, zI, zJ, zK, zL, zM, zN, zO, zP, zQ, zR, zS, zT, zU, zV, zW, zX, zY, zZ]; omega) | (simp only [zA, zB, zC, zD, zE, zF, zG, zH, zI, zJ, zK, zL, zM, zN, zO, zP, zQ, zR, zS, zT, zU, zV, zW, zX, zY, zZ] at *; omega))
  · have h1q := h1
    try simp only [zA, zB, zC, zD, zE, zF, zG, zH, zI, zJ, zK, zL, zM, zN, zO, zP, zQ, zR, zS, zT, zU, zV, zW, zX, zY, zZ] at h1q
    refine CC.tree (t := dgB_t mi ze pl wi pr ex le ln n g s) (fr1 := [(4, .p (.str (dgCf mi ze ex wi g s)))]) (K := []) ((cond_f h1).trans (rfl)) (CC.of_run hT (dgB_l3 (T := T) mi ze pl wi pr ex le ln n g s) ?_)
    simp only [AllT]
    repeat' (first | exact trivial | assumption | exact rfl | apply And.intro)
    all_goals (first | assumption | exact reptZ_i hT _ (by omega) (by omega) | exact dgC_ok hT mi ze pl wi pr ex le ln n g _ hf hw hp hg (by first | omega | (simp only [List.length_append, List.length_replicate, List.length_nil, List.length_cons]; omega)) | (simp only [zA, zB, zC, zD, zE, zF, zG, zH, zI, zJ, zK, zL, zM, zN, zO, zP, zQ, zR, zS, zT, zU, zV, zW, zX, zY, zZ]; omega) | (simp only [zA, zB, zC, zD, zE, zF, zG, zH, zI, zJ, zK, zL, zM, zN, zO, zP, zQ, zR, zS, zT, zU, zV, zW, zX, zY, zZ] at *; omega))
set_option maxHeartbeats 0 in
set_option maxRecDepth 20000 in
theorem dgB_eq (mi ze pl : Bool) (wi pr : Int) (ex : Bool) (le ln n : Int) (g s : List Nat)  : dgB_t mi ze pl wi pr ex le ln n g s = ([(4, .p (.str (dgBf mi ze ex wi pr g s)))], []) := by
  rcases Bool.eq_false_or_eq_true (ex) with h1 | h1
  · have h1q := h1
    try simp only [zA, zB, zC, zD, zE, zF, zG, zH, zI, zJ, zK, zL, zM, zN, zO, zP, zQ, zR, zS, zT, zU, zV, zW, zX, zY, zZ] at h1q
    rcases Bool.eq_false_or_eq_true (decide (pr - (↑s.length : Int) > 0)) with h2 | h2
    · have h2q := h2
      try simp only [zA, zB, zC, zD, zE, zF, zG, zH, zI, zJ, zK, zL, zM, zN, zO, zP, zQ, zR, zS, zT, zU, zV, zW, zX, zY, zZ] at h2q
      refine Eq.trans (show dgB_t mi ze pl wi pr ex le ln n g s = ([(4, .p (.str (dgCf mi ze ex wi g (List.replicate (pr - (↑s.length : Int)).toNat 48 ++ s))))], []) from (cond_t h1).trans ((cond_t h2).trans (rfl))) ?_
      try unfold dgBf
      repeat' split
      all_goals (first | rfl | (have e : (pr - (s.length : Int)).toNat = 0 := (by omega); rw [e]; rfl) | (exfalso; simp_all; done) | (simp_all; done) | rfl | (exfalso; omega) | (simp only [zA, zB, zC, zD, zE, zF, zG, zH, zI, zJ, zK, zL, zM, zN, zO, zP, zQ, zR, zS, zT, zU, zV, zW, zX, zY, zZ] at *; omega) | (exfalso; simp_all; done) | (exfalso; simp_all; omega) | (simp_all; done) | contradiction)
    · have h2q := h2
      try simp only [zA, zB, zC, zD, zE, zF, zG, zH, zI, zJ, zK, zL, zM, zN, zO, zP, zQ, zR, zS, zT, zU, zV, zW, zX, zY, zZ] at h2q
      refine Eq.trans (show dgB_t mi ze pl wi pr ex le ln n g s = ([(4, .p (.str (dgCf mi ze ex wi g s)))], []) from (cond_t h1).trans ((cond_f h2).trans (rfl))) ?_
      try unfold dgBf
      repeat' split
      all_goals (first | rfl | (have e : (pr - (s.length : Int)).toNat = 0 := (by omega); rw [e]; rfl) | (exfalso; simp_all; done) | (simp_all; done) | rfl | (exfalso; omega) | (simp only [zA, zB, zC, zD, zE, zF, zG, zH, zI, zJ, zK, zL, zM, zN, zO, zP, zQ, zR, zS, zT, zU, zV, zW, zX, zY, zZ] at *; omega) | (exfalso; simp_all; done) | (exfalso; simp_all; omega) | (simp_all; done) | contradiction)
  · have h1q := h1
    try simp only [zA, zB, zC, zD, zE, zF, zG, zH, zI, zJ, zK, zL, zM, zN, zO, zP, zQ, zR, zS, zT, zU, zV, zW, zX, zY, zZ] at h1q
    refine Eq.trans (show dgB_t mi ze pl wi pr ex le ln n g s = ([(4, .p (.str (dgCf mi ze ex wi g s)))], []) from (cond_f h1).trans (rfl)) ?_
    try unfold dgBf
    repeat' split
    all_goals (first | rfl | (have e : (pr - (s.length : Int)).toNat = 0 := (by omega); rw [e]; rfl) | (exfalso; simp_all; done) | (simp_all; done) | rfl | (exfalso; omega) | (simp only [zA, zB, zC, zD, zE, zF, zG, zH, zI, zJ, zK, zL, zM, zN, zO, zP, zQ, zR, zS, zT, zU, zV, zW, zX, zY, zZ] at *; omega) | (exfalso; simp_all; done) | (exfalso; simp_all; omega) | (simp_all; done) | contradiction)

theorem dgB_ok (hT : TabOk Pd Gd T) (mi ze pl : Bool) (wi pr : Int) (ex : Bool) (le ln n : Int) (g s : List Nat) (hf : ∀ x : List Nat, x.length ≤ 1000000 → RC Pd Gd 35 [.p (.agg [.bool mi, .bool ze, .bool pl, .int .i64 wi, .int .i64 pr, .bool ex, .int .u8 le, .int .i64 ln]), .p (.str x)] [] (.p (.str (fillI mi wi x))) []) (hw : 0 ≤ wi ∧ wi ≤ 5000) (hp : 0 ≤ pr ∧ pr ≤ 5000) (hg : g.length ≤ 1) (hs : s.length ≤ 10000) :
    CC Pd Gd 94 0 [(1, .p (.int .i64 n)), (2, .ptr 0 0), (5, .p (.str g)), (6, .p (.str s))] [some (.cells [.p (.bool mi), .p (.bool ze), .p (.bool pl), .p (.int .i64 wi), .p (.int .i64 pr), .p (.bool ex), .p (.int .u8 le), .p (.int .i64 ln)] (.obj 56))] (codeAt Pd 39 18) .ret [(4, .p (.str (dgBf mi ze ex wi pr g s)))] [] := by
  have h := dgB_cc hT mi ze pl wi pr ex le ln n g s hf hw hp hg hs
  rw [dgB_eq] at h
  exact h
def dgA_t (mi ze pl : Bool) (wi pr : Int) (ex : Bool) (le ln n : Int) (g s : List Nat) : Fr × Heap :=
  bif ex then
    bif (pr == 0) then
      bif (n == 0) then
        ([(4, .p (.str (dgBf mi ze ex wi pr g [])))], [])
      else
        ([(4, .p (.str (dgBf mi ze ex wi pr g s)))], [])
    else
      ([(4, .p (.str (dgBf mi ze ex wi pr g s)))], [])
  else
    ([(4, .p (.str (dgBf mi ze ex wi pr g s)))], [])

set_option maxHeartbeats 0 in
set_option maxRecDepth 20000 in
theorem dgA_cc (hT : TabOk Pd Gd T) (mi ze pl : Bool) (wi pr : Int) (ex : Bool) (le ln n : Int) (g s : List Nat) (hf : ∀ x : List Nat, x.length ≤ 1000000 → RC Pd Gd 35 [.p (.agg [.bool mi, .bool ze, .bool pl, .int .i64 wi, .int .i64 pr, .bool ex, .int .u8 le, .int .i64 ln]), .p (.str x)] [] (.p (.str (fillI mi wi x))) []) (hw : 0 ≤ wi ∧ wi ≤ 5000) (hp : 0 ≤ pr ∧ pr ≤ 5000) (hg : g.length ≤ 1) (hs : s.length ≤ 10000) : CC Pd Gd 94 0 [(1, .p (.int .i64 n)), (2, .ptr 0 0), (5, .p (.str g)), (6, .p (.str s))] [some (.cells [.p (.bool mi), .p (.bool ze), .p (.bool pl), .p (.int .i64 wi), .p (.int .i64 pr), .p (.bool ex), .p (.int .u8 le), .p (.int .i64 ln)] (.obj 56))] (codeAt Pd 39 16) .ret (dgA_t mi ze pl wi pr ex le ln n g s).1 (dgA_t mi ze pl wi pr ex le ln n g s).2 := by
  rcases Bool.eq_false_or_eq_true (ex) with h1 | h1
  · have h1q := h1
    try simp only [zA, zB, zC, zD, zE, zF, zG, zH, zI, zJ, zK, zL, zM, zN, zO, zP, zQ, zR, zS, zT, zU, zV, zW, zX, zY, zZ] at h1q
    rcases Bool.eq_false_or_eq_true ((pr == 0)) with h2 | h2
    · have h2q := h2
      try simp only [zA, zB, zC, zD, zE, zF, zG, zH, zI, zJ, zK, zL, zM, zN, zO, zP, zQ, zR, zS, zT, zU, zV, zW, zX, zY, zZ] at h2q
      rcases Bool.eq_false_or_eq_true ((n == 0)) with h3 | h3
      · have h3q := h3
        try simp only [zA, zB, zC, zD, zE, zF, zG, zH, zI, zJ, zK, zL, zM, zN, zO, zP, zQ, zR, zS, zT, zU, zV, zW, zX, zY, zZ] at h3q
        refine CC.tree (t := dgA_t mi ze pl wi pr ex le ln n g s) (fr1 := [(4, .p (.str (dgBf mi ze ex wi pr g [])))]) (K := []) ((cond_t h1).trans ((cond_t h2).trans ((cond_t h3).trans (rfl)))) (CC.of_run hT (dgA_l1 (T := T) mi ze pl wi pr ex le ln n g s) ?_)
        simp only [AllT]
        repeat' (first | exact trivial | assumption | exact rfl | apply And.intro)
        all_goals (first | assumption | exact dgB_ok hT mi ze pl wi pr ex le ln n g _ hf hw hp hg (by first | omega | (simp only [List.length_append, List.length_replicate, List.length_nil, List.length_cons]; omega)) | (simp only [zA, zB, zC, zD, zE, zF, zG, zH, zI, zJ, zK, zL, zM, zN, zO, zP, zQ, zR, zS, zT, zU, zV, zW, zX, zY, zZ]; omega) | (simp only [zA, zB, zC, zD, zE, zF, zG, zH, zI, zJ, zK, zL, zM, zN, zO, zP, zQ, zR, zS, zT, zU, zV, zW, zX, zY, zZ] at *; omega))
      · have h3q := h3
        try simp only [zA, zB, zC, zD, zE, zF, zG, zH, zI, zJ, zK, zL, zM, zN, zO, zP, zQ, zR, zS, zT, zU, zV, zW, zX, zY, zZ] at h3q
        refine CC.tree (t := dgA_t mi ze pl wi pr ex le ln n g s) (fr1 := [(4, .p (.str (dgBf mi ze ex wi pr g s)))]) (K := []) ((cond_t h1).trans ((cond_t h2).trans ((cond_f h3).trans (rfl)))) (CC.of_run hT (dgA_l2 (T := T) mi ze pl wi pr ex le ln n g s) ?_)
        simp only [AllT]
        repeat' (first | exact trivial | assumption | exact rfl | apply And.intro)
        all_goals (first | assumption | exact dgB_ok hT mi ze pl wi pr ex le ln n g _ hf hw hp hg (by first | omega | (simp only [List.length_append, List.length_replicate, List.length_nil, List.length_cons]; omega)) | (simp only [zA, zB, zC, zD, zE, zF, zG, zH, zI, zJ, zK, zL, zM, zN, zO, zP, zQ, zR, zS, zT, zU, zV, zW, zX, zY, zZ]; omega) | (simp only [zA, zB, zC, zD, zE, zF, zG, zH, zI, zJ, zK, zL, zM, zN, zO, zP, zQ, zR, zS, zT, zU, zV, zW, zX, zY, zZ] at *; omega))
    · have h2q := h2
      try simp only [zA, zB, zC, zD, zE, zF, zG, zH, zI, zJ, zK, zL, zM, zN, zO, zP, zQ, zR, zS, zT, zU, zV, zW, zX, zY, zZ] at h2q
      refine CC.tree (t := dgA_t mi ze pl wi pr ex le ln n g s) (fr1 := [(4, .p (.str (dgBf mi ze ex wi pr g s)))]) (K := []) ((cond_t h1).trans ((cond_f h2).trans (rfl))) (CC.of_run hT (dgA_l3 (T := T) mi ze pl wi pr ex le ln n g s) ?_)
      simp only [AllT]
      repeat' (first | exact trivial | assumption | exact rfl | apply And.intro)
      all_goals (first | assumption | exact dgB_ok hT mi ze pl wi pr ex le ln n g _ hf hw hp hg (by first | omega | (simp only [List.length_append, List.length_replicate, List.length_nil, List.length_cons]; omega)) | (simp only [zA, zB, zC, zD, zE, zF, zG, zH, zI, zJ, zK, zL, zM, zN, zO, zP, zQ, zR, zS, zT, zU, zV, zW, zX, zY, zZ]; omega) | (simp only [zA, zB, zC, zD, zE, zF, zG, zH, zI, zJ, zK, zL, zM, zN, zO, zP, zQ, zR, zS, zT, zU, zV, zW, zX, zY, zZ] at *; omega))
  · have h1q := h1
    try simp only [zA, zB, zC, zD, zE, zF, zG, zH, zI, zJ, zK, zL, zM, zN, zO, zP, zQ, zR, zS, zT, zU, zV, zW, zX, zY, zZ] at h1q
    refine CC.tree (t := dgA_t mi ze pl wi pr ex le ln n g s) (fr1 := [(4, .p (.str (dgBf mi ze ex wi pr g s)))]) (K := []) ((cond_f h1).trans (rfl)) (CC.of_run hT (dgA_l4 (T := T) mi ze pl wi pr ex le ln n g s) ?_)
    simp only [AllT]
    repeat' (first | exact trivial | assumption | exact rfl | apply And.intro)
    all_goals (first | assumption | exact dgB_ok hT mi ze pl wi pr ex le ln n g _ hf hw hp hg (by first | omega | (simp only [List.length_append, List.length_replicate, List.length_nil, List.length_cons]; omega)) | (simp only [zA, zB, zC, zD, zE, zF, zG, zH, zI, zJ, zK, zL, zM, zN, zO, zP, zQ, zR, zS, zT, zU, zV, zW, zX, zY, zZ]; omega) | (simp only [zA, zB, zC, zD, zE, zF, zG, zH, zI, zJ, zK, zL, zM, zN, zO, zP, zQ, zR, zS, zT, zU, zV, zW, zX, zY, zZ] at *; omega))
set_option maxHeartbeats 0 in
set_option maxRecDepth 20000 in
theorem dgA_eq (mi ze pl : Bool) (wi pr : Int) (ex : Bool) (le ln n : Int) (g s : List Nat)  : dgA_t mi ze pl wi pr ex le ln n g s = ([(4, .p (.str (dgAf mi ze ex wi pr n g s)))], []) := by
  rcases Bool.eq_false_or_eq_true (ex) with h1 | h1
  · have h1q := h1
    try simp only [zA, zB, zC, zD, zE, zF, zG, zH, zI, zJ, zK, zL, zM, zN, zO, zP, zQ, zR, zS, zT, zU, zV, zW, zX, zY, zZ] at h1q
    rcases Bool.eq_false_or_eq_true ((pr == 0)) with h2 | h2
    · have h2q := h2
      try simp only [zA, zB, zC, zD, zE, zF, zG, zH, zI, zJ, zK, zL, zM, zN, zO, zP, zQ, zR, zS, zT, zU, zV, zW, zX, zY, zZ] at h2q
      rcases Bool.eq_false_or_eq_true ((n == 0)) with h3 | h3
      · have h3q := h3
        try simp only [zA, zB, zC, zD, zE, zF, zG, zH, zI, zJ, zK, zL, zM, zN, zO, zP, zQ, zR, zS, zT, zU, zV, zW, zX, zY, zZ] at h3q
        refine Eq.trans (show dgA_t mi ze pl wi pr ex le ln n g s = ([(4, .p (.str (dgBf mi ze ex wi pr g [])))], []) from (cond_t h1).trans ((cond_t h2).trans ((cond_t h3).trans (rfl)))) ?_
        try unfold dgAf
        repeat' split
        all_goals (first | (exfalso; simp_all; done) | (exfalso; simp_all; omega) | (simp_all; done) | rfl | (exfalso; omega) | (simp only [zA, zB, zC, zD, zE, zF, zG, zH, zI, zJ, zK, zL, zM, zN, zO, zP, zQ, zR, zS, zT, zU, zV, zW, zX, zY, zZ] at *; omega) | (exfalso; simp_all; done) | (exfalso; simp_all; omega) | (simp_all; done) | contradiction)
      · have h3q := h3
        try simp only [zA, zB, zC, zD, zE, zF, zG, zH, zI, zJ, zK, zL, zM, zN, zO, zP, zQ, zR, zS, zT, zU, zV, zW, zX, zY, zZ] at h3q
        refine Eq.trans (show dgA_t mi ze pl wi pr ex le ln n g s = ([(4, .p (.str (dgBf mi ze ex wi pr g s)))], []) from (cond_t h1).trans ((cond_t h2).trans ((cond_f h3).trans (rfl)))) ?_
        try unfold dgAf
        repeat' split
        all_goals (first | (exfalso; simp_all; done) | (exfalso; simp_all; omega) | (simp_all; done) | rfl | (exfalso; omega) | (simp only [zA, zB, zC, zD, zE, zF, zG, zH, zI, zJ, zK, zL, zM, zN, zO, zP, zQ, zR, zS, zT, zU, zV, zW, zX, zY, zZ] at *; omega) | (exfalso; simp_all; done) | (exfalso; simp_all; omega) | (simp_all; done) | contradiction)
    · have h2q := h2
      try simp only [zA, zB, zC, zD, zE, zF, zG, zH, zI, zJ, zK, zL, zM, zN, zO, zP, zQ, zR, zS, zT, zU, zV, zW, zX, zY, zZ] at h2q
      refine Eq.trans (show dgA_t mi ze pl wi pr ex le ln n g s = ([(4, .p (.str (dgBf mi ze ex wi pr g s)))], []) from (cond_t h1).trans ((cond_f h2).trans (rfl))) ?_
      try unfold dgAf
      repeat' split
      all_goals (first | (exfalso; simp_all; done) | (exfalso; simp_all; omega) | (simp_all; done) | rfl | (exfalso; omega) | (simp only [zA, zB, zC, zD, zE, zF, zG, zH, zI, zJ, zK, zL, zM, zN, zO, zP, zQ, zR, zS, zT, zU, zV, zW, zX, zY, zZ] at *; omega) | (exfalso; simp_all; done) | (exfalso; simp_all; omega) | (simp_all; done) | contradiction)
  · have h1q := h1
    try simp only [zA, zB, zC, zD, zE, zF, zG, zH, zI, zJ, zK, zL, zM, zN, zO, zP, zQ, zR, zS, zT, zU, zV, zW, zX, zY, zZ] at h1q
    refine Eq.trans (show dgA_t mi ze pl wi pr ex le ln n g s = ([(4, .p (.str (dgBf mi ze ex wi pr g s)))], []) from (cond_f h1).trans (rfl)) ?_
    try unfold dgAf
    repeat' split
    all_goals (first | (exfalso; simp_all; done) | (exfalso; simp_all; omega) | (simp_all; done) | rfl | (exfalso; omega) | (simp only [zA, zB, zC, zD, zE, zF, zG, zH, zI, zJ, zK, zL, zM, zN, zO, zP, zQ, zR, zS, zT, zU, zV, zW, zX, zY, zZ] at *; omega) | (exfalso; simp_all; done) | (exfalso; simp_all; omega) | (simp_all; done) | contradiction)

theorem dgA_ok (hT : TabOk Pd Gd T) (mi ze pl : Bool) (wi pr : Int) (ex : Bool) (le ln n : Int) (g s : List Nat) (hf : ∀ x : List Nat, x.length ≤ 1000000 → RC Pd Gd 35 [.p (.agg [.bool mi, .bool ze, .bool pl, .int .i64 wi, .int .i64 pr, .bool ex, .int .u8 le, .int .i64 ln]), .p (.str x)] [] (.p (.str (fillI mi wi x))) []) (hw : 0 ≤ wi ∧ wi ≤ 5000) (hp : 0 ≤ pr ∧ pr ≤ 5000) (hg : g.length ≤ 1) (hs : s.length ≤ 10000) :
    CC Pd Gd 94 0 [(1, .p (.int .i64 n)), (2, .ptr 0 0), (5, .p (.str g)), (6, .p (.str s))] [some (.cells [.p (.bool mi), .p (.bool ze), .p (.bool pl), .p (.int .i64 wi), .p (.int .i64 pr), .p (.bool ex), .p (.int .u8 le), .p (.int .i64 ln)] (.obj 56))] (codeAt Pd 39 16) .ret [(4, .p (.str (dgAf mi ze ex wi pr n g s)))] [] := by
  have h := dgA_cc hT mi ze pl wi pr ex le ln n g s hf hw hp hg hs
  rw [dgA_eq] at h
  exact h
def dgM_t (mi ze pl : Bool) (wi pr : Int) (ex : Bool) (le ln n : Int) : EV × Heap :=
  bif (le == 100) then
    bif decide (n < 0) then
      (.p (.str (dgAf mi ze ex wi pr n [45] (List.drop 1 (itoaS n)))), [])
    else
      bif pl then
        (.p (.str (dgAf mi ze ex wi pr n [43] (itoaS n))), [])
      else
        (.p (.str (dgAf mi ze ex wi pr n [] (itoaS n))), [])
  else
    bif (le == 105) then
      bif decide (n < 0) then
        (.p (.str (dgAf mi ze ex wi pr n [45] (List.drop 1 (itoaS n)))), [])
      else
        bif pl then
          (.p (.str (dgAf mi ze ex wi pr n [43] (itoaS n))), [])
        else
          (.p (.str (dgAf mi ze ex wi pr n [] (itoaS n))), [])
    else
      bif (le == 120) then
        (.p (.str (dgAf mi ze ex wi pr n [] (fbS 16 (u64 n)))), [])
      else
        bif (le == 111) then
          (.p (.str (dgAf mi ze ex wi pr n [] (fbS 8 (u64 n)))), [])
        else
          (.p (.str (dgAf mi ze ex wi pr n [] (decS (u64 n)))), [])

set_option maxHeartbeats 0 in
set_option maxRecDepth 20000 in
theorem dgM_rc (hT : TabOk Pd Gd T) (mi ze pl : Bool) (wi pr : Int) (ex : Bool) (le ln n : Int) (hf : ∀ x : List Nat, x.length ≤ 1000000 → RC Pd Gd 35 [.p (.agg [.bool mi, .bool ze, .bool pl, .int .i64 wi, .int .i64 pr, .bool ex, .int .u8 le, .int .i64 ln]), .p (.str x)] [] (.p (.str (fillI mi wi x))) []) (hw : 0 ≤ wi ∧ wi ≤ 5000) (hp : 0 ≤ pr ∧ pr ≤ 5000) (hn : -9223372036854775808 ≤ n ∧ n ≤ 9223372036854775807) : RC Pd Gd 39 [.p (.agg [.bool mi, .bool ze, .bool pl, .int .i64 wi, .int .i64 pr, .bool ex, .int .u8 le, .int .i64 ln]), .p (.int .i64 n)] [] (dgM_t mi ze pl wi pr ex le ln n).1 (dgM_t mi ze pl wi pr ex le ln n).2 := by
  have q1 := itoaS_len n hn.1 hn.2
  have q2 := itoaS_pos n
  have q3 := decS_len (u64 n) (u64_lt n)
  have q4 := fb16_len (u64 n) (u64_lt n)
  have q5 := fb8_len (u64 n) (u64_lt n)
  rcases Bool.eq_false_or_eq_true ((le == 100)) with h1 | h1
  · have h1q := h1
    try simp only [zA, zB, zC, zD, zE, zF, zG, zH, zI, zJ, zK, zL, zM, zN, zO, zP, zQ, zR, zS, zT, zU, zV, zW, zX, zY, zZ] at h1q
    rcases Bool.eq_false_or_eq_true (decide (n < 0)) with h2 | h2
    · have h2q := h2
      try simp only [zA, zB, zC, zD, zE, zF, zG, zH, zI, zJ, zK, zL, zM, zN, zO, zP, zQ, zR, zS, zT, zU, zV, zW, zX, zY, zZ] at h2q
      refine RC.tree (t := dgM_t mi ze pl wi pr ex le ln n) (r := .p (.str (dgAf mi ze ex wi pr n [45] (List.drop 1 (itoaS n))))) (K := []) ((cond_t h1).trans ((cond_t h2).trans (rfl))) (RC.retk (RC.of_runFn hT (dgM_p1 (T := T) mi ze pl wi pr ex le ln n) ?_) rfl)
      simp only [AllT]
      repeat' (first | exact trivial | assumption | exact rfl | apply And.intro)
      all_goals (first | assumption | exact itoa_rc n hn.1 hn.2 | (rw [wrap_u64]; exact fmt16_rc hT _ (u64_lt n)) | (rw [wrap_u64]; exact fmt8_rc hT _ (u64_lt n)) | (rw [wrap_u64]; exact fmt10_rc hT _ (u64_lt n)) | exact dgA_ok hT mi ze pl wi pr ex le ln n _ _ hf hw hp (by simp) (by first | omega | (simp only [List.length_drop]; omega)) | (simp only [zA, zB, zC, zD, zE, zF, zG, zH, zI, zJ, zK, zL, zM, zN, zO, zP, zQ, zR, zS, zT, zU, zV, zW, zX, zY, zZ]; omega) | (simp only [zA, zB, zC, zD, zE, zF, zG, zH, zI, zJ, zK, zL, zM, zN, zO, zP, zQ, zR, zS, zT, zU, zV, zW, zX, zY, zZ] at *; omega))
    · have h2q := h2
      try simp only [zA, zB, zC, zD, zE, zF, zG, zH, zI, zJ, zK, zL, zM, zN, zO, zP, zQ, zR, zS, zT, zU, zV, zW, zX, zY, zZ] at h2q
      rcases Bool.eq_false_or_eq_true (pl) with h3 | h3
      · have h3q := h3
        try simp only [zA, zB, zC, zD, zE, zF, zG, zH, zI, zJ, zK, zL, zM, zN, zO, zP, zQ, zR, zS, zT, zU, zV, zW, zX, zY, zZ] at h3q
        refine RC.tree (t := dgM_t mi ze pl wi pr ex le ln n) (r := .p (.str (dgAf mi ze ex wi pr n [43] (itoaS n)))) (K := []) ((cond_t h1).trans ((cond_f h2).trans ((cond_t h3).trans (rfl)))) (RC.retk (RC.of_runFn hT (dgM_p2 (T := T) mi ze pl wi pr ex le ln n) ?_) rfl)
        simp only [AllT]
        repeat' (first | exact trivial | assumption | exact rfl | apply And.intro)
        all_goals (first | assumption | exact itoa_rc n hn.1 hn.2 | (rw [wrap_u64]; exact fmt16_rc hT _ (u64_lt n)) | (rw [wrap_u64]; exact fmt8_rc hT _ (u64_lt n)) | (rw [wrap_u64]; exact fmt10_rc hT _ (u64_lt n)) | exact dgA_ok hT mi ze pl wi pr ex le ln n _ _ hf hw hp (by simp) (by first | omega | (simp only [List.length_drop]; omega)) | (simp only [zA, zB, zC, zD, zE, zF, zG, zH, zI, zJ, zK, zL, zM, zN, zO, zP, zQ, zR, zS, zT, zU, zV, zW, zX, zY, zZ]; omega) | (simp only [zA, zB, zC, zD, zE, zF, zG, zH, zI, zJ, zK, zL, zM, zN, zO, zP, zQ, zR, zS, zT, zU, zV, zW, zX, zY, zZ] at *; omega))
      · have h3q := h3
        try simp only [zA, zB, zC, zD, zE, zF, zG, zH, zI, zJ, zK, zL, zM, zN, zO, zP, zQ, zR, zS, zT, zU, zV, zW, zX, zY, zZ] at h3q
        refine RC.tree (t := dgM_t mi ze pl wi pr ex le ln n) (r := .p (.str (dgAf mi ze ex wi pr n [] (itoaS n)))) (K := []) ((cond_t h1).trans ((cond_f h2).trans ((cond_f h3).trans (rfl)))) (RC.retk (RC.of_runFn hT (dgM_p3 (T := T) mi ze pl wi pr ex le ln n) ?_) rfl)
        simp only [AllT]
        repeat' (first | exact trivial | assumption | exact rfl | apply And.intro)
        all_goals (first | assumption | exact itoa_rc n hn.1 hn.2 | (rw [wrap_u64]; exact fmt16_rc hT _ (u64_lt n)) | (rw [wrap_u64]; exact fmt8_rc hT _ (u64_lt n)) | (rw [wrap_u64]; exact fmt10_rc hT _ (u64_lt n)) | exact dgA_ok hT mi ze pl wi pr ex le ln n _ _ hf hw hp (by simp) (by first | omega | (simp only [List.length_drop]; omega)) | (simp only [zA, zB, zC, zD, zE, zF, zG, zH, zI, zJ, zK, zL, zM, zN, zO, zP, zQ, zR, zS, zT, zU, zV, zW, zX, zY, zZ]; omega) | (simp only [zA, zB, zC, zD, zE, zF, zG, zH, zI, zJ, zK, zL, zM, zN, zO, zP, zQ, zR, zS, zT, zU, zV, zW, zX, zY, zZ] at *; omega))
  · have h1q := h1
    try simp only [zA, zB, zC, zD, zE, zF, zG, zH, zI, zJ, zK, zL, zM, zN, zO, zP, zQ, zR, zS, zT, zU, zV, zW, zX, zY, zZ] at h1q
    rcases Bool.eq_false_or_eq_true ((le == 105)) with h2 | h2
    · have h2q := h2
      try simp only [zA, zB, zC, zD, zE, zF, zG, zH, zI, zJ, zK, zL, zM, zN, zO, zP, zQ, zR, zS, zT, zU, zV, zW, zX, zY, zZ] at h2q
      rcases Bool.eq_false_or_eq_true (decide (n < 0)) with h3 | h3
      · have h3q := h3
        try simp only [zA, zB, zC, zD, zE, zF, zG, zH, zI, zJ, zK, zL, zM, zN, zO, zP, zQ, zR, zS, zT, zU, zV, zW, zX, zY, zZ] at h3q
        refine RC.tree (t := dgM_t mi ze pl wi pr ex le ln n) (r := .p (.str (dgAf mi ze ex wi pr n [45] (List.drop 1 (itoaS n))))) (K := []) ((cond_f h1).trans ((cond_t h2).trans ((cond_t h3).trans (rfl)))) (RC.retk (RC.of_runFn hT (dgM_p7 (T := T) mi ze pl wi pr ex le ln n) ?_) rfl)
        simp only [AllT]
        repeat' (first | exact trivial | assumption | exact rfl | apply And.intro)
        all_goals (first | assumption | exact itoa_rc n hn.1 hn.2 | (rw [wrap_u64]; exact fmt16_rc hT _ (u64_lt n)) | (rw [wrap_u64]; exact fmt8_rc hT _ (u64_lt n)) | (rw [wrap_u64]; exact fmt10_rc hT _ (u64_lt n)) | exact dgA_ok hT mi ze pl wi pr ex le ln n _ _ hf hw hp (by simp) (by first | omega | (simp only [List.length_drop]; omega)) | (simp only [zA, zB, zC, zD, zE, zF, zG, zH, zI, zJ, zK, zL, zM, zN, zO, zP, zQ, zR, zS, zT, zU, zV, zW, zX, zY, zZ]; omega) | (simp only [zA, zB, zC, zD, zE, zF, zG, zH, zI, zJ, zK, zL, zM, zN, zO, zP, zQ, zR, zS, zT, zU, zV, zW, zX, zY, zZ] at *; omega))
      · have h3q := h3
        try simp only [zA, zB, zC, zD, zE, zF, zG, zH, zI, zJ, zK, zL, zM, zN, zO, zP, zQ, zR, zS, zT, zU, zV, zW, zX, zY, zZ] at h3q
        rcases Bool.eq_false_or_eq_true (pl) with h4 | h4
        · have h4q := h4
          try simp only [zA, zB, zC, zD, zE, zF, zG, zH, zI, zJ, zK, zL, zM, zN, zO, zP, zQ, zR, zS, zT, zU, zV, zW, zX, zY, zZ] at h4q
          refine RC.tree (t := dgM_t mi ze pl wi pr ex le ln n) (r := .p (.str (dgAf mi ze ex wi pr n [43] (itoaS n)))) (K := []) ((cond_f h1).trans ((cond_t h2).trans ((cond_f h3).trans ((cond_t h4).trans (rfl))))) (RC.retk (RC.of_runFn hT (dgM_p8 (T := T) mi ze pl wi pr ex le ln n) ?_) rfl)
          simp only [AllT]
          repeat' (first | exact trivial | assumption | exact rfl | apply And.intro)
          all_goals (first | assumption | exact itoa_rc n hn.1 hn.2 | (rw [wrap_u64]; exact fmt16_rc hT _ (u64_lt n)) | (rw [wrap_u64]; exact fmt8_rc hT _ (u64_lt n)) | (rw [wrap_u64]; exact fmt10_rc hT _ (u64_lt n)) | exact dgA_ok hT mi ze pl wi pr ex le ln n _ _ hf hw hp (by simp) (by first | omega | (simp only [List.length_drop]; omega)) | (simp only [zA, zB, zC, zD, zE, zF, zG, zH, zI, zJ, zK, zL, zM, zN, zO, zP, zQ, zR, zS, zT, zU, zV, zW, zX, zY, zZ]; omega) | (simp only [zA, zB, zC, zD, zE, zF, zG, zH, zI, zJ, zK, zL, zM, zN, zO, zP, zQ, zR, zS, zT, zU, zV, zW, zX, zY, zZ] at *; omega))
        · have h4q := h4
          try simp only [zA, zB, zC, zD, zE, zF, zG, zH, zI, zJ, zK, zL, zM, zN, zO, zP, zQ, zR, zS, zT, zU, zV, zW, zX, zY, zZ] at h4q
          refine RC.tree (t := dgM_t mi ze pl wi pr ex le ln n) (r := .p (.str (dgAf mi ze ex wi pr n [] (itoaS n)))) (K := []) ((cond_f h1).trans ((cond_t h2).trans ((cond_f h3).trans ((cond_f h4).trans (rfl))))) (RC.retk (RC.of_runFn hT (dgM_p9 (T := T) mi ze pl wi pr ex le ln n) ?_) rfl)
          simp only [AllT]
          repeat' (first | exact trivial | assumption | exact rfl | apply And.intro)
          all_goals (first | assumption | exact itoa_rc n hn.1 hn.2 | (rw [wrap_u64]; exact fmt16_rc hT _ (u64_lt n)) | (rw [wrap_u64]; exact fmt8_rc hT _ (u64_lt n)) | (rw [wrap_u64]; exact fmt10_rc hT _ (u64_lt n)) | exact dgA_ok hT mi ze pl wi pr ex le ln n _ _ hf hw hp (by simp) (by first | omega | (simp only [List.length_drop]; omega)) | (simp only [zA, zB, zC, zD, zE, zF, zG, zH, zI, zJ, zK, zL, zM, zN, zO, zP, zQ, zR, zS, zT, zU, zV, zW, zX, zY, zZ]; omega) | (simp only [zA, zB, zC, zD, zE, zF, zG, zH, zI, zJ, zK, zL, zM, zN, zO, zP, zQ, zR, zS, zT, zU, zV, zW, zX, zY, zZ] at *; omega))
    · have h2q := h2
      try simp only [zA, zB, zC, zD, zE, zF, zG, zH, zI, zJ, zK, zL, zM, zN, zO, zP, zQ, zR, zS, zT, zU, zV, zW, zX, zY, zZ] at h2q
      rcases Bool.eq_false_or_eq_true ((le == 120)) with h3 | h3
      · have h3q := h3
        try simp only [zA, zB, zC, zD, zE, zF, zG, zH, zI, zJ, zK, zL, zM, zN, zO, zP, zQ, zR, zS, zT, zU, zV, zW, zX, zY, zZ] at h3q
        refine RC.tree (t := dgM_t mi ze pl wi pr ex le ln n) (r := .p (.str (dgAf mi ze ex wi pr n [] (fbS 16 (u64 n))))) (K := []) ((cond_f h1).trans ((cond_f h2).trans ((cond_t h3).trans (rfl)))) (RC.retk (RC.of_runFn hT (dgMx_p1 (T := T) mi ze pl wi pr ex le ln n) ?_) rfl)
        simp only [AllT]
        repeat' (first | exact trivial | assumption | exact rfl | apply And.intro)
        all_goals (first | assumption | exact itoa_rc n hn.1 hn.2 | (rw [wrap_u64]; exact fmt16_rc hT _ (u64_lt n)) | (rw [wrap_u64]; exact fmt8_rc hT _ (u64_lt n)) | (rw [wrap_u64]; exact fmt10_rc hT _ (u64_lt n)) | exact dgA_ok hT mi ze pl wi pr ex le ln n _ _ hf hw hp (by simp) (by first | omega | (simp only [List.length_drop]; omega)) | (simp only [zA, zB, zC, zD, zE, zF, zG, zH, zI, zJ, zK, zL, zM, zN, zO, zP, zQ, zR, zS, zT, zU, zV, zW, zX, zY, zZ]; omega) | (simp only [zA, zB, zC, zD, zE, zF, zG, zH, zI, zJ, zK, zL, zM, zN, zO, zP, zQ, zR, zS, zT, zU, zV, zW, zX, zY, zZ] at *; omega))
      · have h3q := h3
        try simp only [zA, zB, zC, zD, zE, zF, zG, zH, zI, zJ, zK, zL, zM, zN, zO, zP, zQ, zR, zS, zT, zU, zV, zW, zX, zY, zZ] at h3q
        rcases Bool.eq_false_or_eq_true ((le == 111)) with h4 | h4
        · have h4q := h4
          try simp only [zA, zB, zC, zD, zE, zF, zG, zH, zI, zJ, zK, zL, zM, zN, zO, zP, zQ, zR, zS, zT, zU, zV, zW, zX, zY, zZ] at h4q
          refine RC.tree (t := dgM_t mi ze pl wi pr ex le ln n) (r := .p (.str (dgAf mi ze ex wi pr n [] (fbS 8 (u64 n))))) (K := []) ((cond_f h1).trans ((cond_f h2).trans ((cond_f h3).trans ((cond_t h4).trans (rfl))))) (RC.retk (RC.of_runFn hT (dgMo_p1 (T := T) mi ze pl wi pr ex le ln n) ?_) rfl)
          simp only [AllT]
          repeat' (first | exact trivial | assumption | exact rfl | apply And.intro)
          all_goals (first | assumption | exact itoa_rc n hn.1 hn.2 | (rw [wrap_u64]; exact fmt16_rc hT _ (u64_lt n)) | (rw [wrap_u64]; exact fmt8_rc hT _ (u64_lt n)) | (rw [wrap_u64]; exact fmt10_rc hT _ (u64_lt n)) | exact dgA_ok hT mi ze pl wi pr ex le ln n _ _ hf hw hp (by simp) (by first | omega | (simp only [List.length_drop]; omega)) | (simp only [zA, zB, zC, zD, zE, zF, zG, zH, zI, zJ, zK, zL, zM, zN, zO, zP, zQ, zR, zS, zT, zU, zV, zW, zX, zY, zZ]; omega) | (simp only [zA, zB, zC, zD, zE, zF, zG, zH, zI, zJ, zK, zL, zM, zN, zO, zP, zQ, zR, zS, zT, zU, zV, zW, zX, zY, zZ] at *; omega))
        · have h4q := h4
          try simp only [zA, zB, zC, zD, zE, zF, zG, zH, zI, zJ, zK, zL, zM, zN, zO, zP, zQ, zR, zS, zT, zU, zV, zW, zX, zY, zZ] at h4q
          refine RC.tree (t := dgM_t mi ze pl wi pr ex le ln n) (r := .p (.str (dgAf mi ze ex wi pr n [] (decS (u64 n))))) (K := []) ((cond_f h1).trans ((cond_f h2).trans ((cond_f h3).trans ((cond_f h4).trans (rfl))))) (RC.retk (RC.of_runFn hT (dgMd_p1 (T := T) mi ze pl wi pr ex le ln n) ?_) rfl)
          simp only [AllT]
          repeat' (first | exact trivial | assumption | exact rfl | apply And.intro)
          all_goals (first | assumption | exact itoa_rc n hn.1 hn.2 | (rw [wrap_u64]; exact fmt16_rc hT _ (u64_lt n)) | (rw [wrap_u64]; exact fmt8_rc hT _ (u64_lt n)) | (rw [wrap_u64]; exact fmt10_rc hT _ (u64_lt n)) | exact dgA_ok hT mi ze pl wi pr ex le ln n _ _ hf hw hp (by simp) (by first | omega | (simp only [List.length_drop]; omega)) | (simp only [zA, zB, zC, zD, zE, zF, zG, zH, zI, zJ, zK, zL, zM, zN, zO, zP, zQ, zR, zS, zT, zU, zV, zW, zX, zY, zZ]; omega) | (simp only [zA, zB, zC, zD, zE, zF, zG, zH, zI, zJ, zK, zL, zM, zN, zO, zP, zQ, zR, zS, zT, zU, zV, zW, zX, zY, zZ] at *; omega))
set_option maxHeartbeats 0 in
set_option maxRecDepth 20000 in
theorem dgM_eq (mi ze pl : Bool) (wi pr : Int) (ex : Bool) (le ln n : Int)  : dgM_t mi ze pl wi pr ex le ln n = (.p (.str (dgMf mi ze pl ex wi pr le n)), []) := by
  rcases Bool.eq_false_or_eq_true ((le == 100)) with h1 | h1
  · have h1q := h1
    try simp only [zA, zB, zC, zD, zE, zF, zG, zH, zI, zJ, zK, zL, zM, zN, zO, zP, zQ, zR, zS, zT, zU, zV, zW, zX, zY, zZ] at h1q
    rcases Bool.eq_false_or_eq_true (decide (n < 0)) with h2 | h2
    · have h2q := h2
      try simp only [zA, zB, zC, zD, zE, zF, zG, zH, zI, zJ, zK, zL, zM, zN, zO, zP, zQ, zR, zS, zT, zU, zV, zW, zX, zY, zZ] at h2q
      refine Eq.trans (show dgM_t mi ze pl wi pr ex le ln n = (.p (.str (dgAf mi ze ex wi pr n [45] (List.drop 1 (itoaS n)))), []) from (cond_t h1).trans ((cond_t h2).trans (rfl))) ?_
      try unfold dgMf
      repeat' split
      all_goals (first | (exfalso; simp_all; done) | rfl | (exfalso; omega) | (simp only [zA, zB, zC, zD, zE, zF, zG, zH, zI, zJ, zK, zL, zM, zN, zO, zP, zQ, zR, zS, zT, zU, zV, zW, zX, zY, zZ] at *; omega) | (exfalso; simp_all; done) | (exfalso; simp_all; omega) | (simp_all; done) | contradiction)
    · have h2q := h2
      try simp only [zA, zB, zC, zD, zE, zF, zG, zH, zI, zJ, zK, zL, zM, zN, zO, zP, zQ, zR, zS, zT, zU, zV, zW, zX, zY, zZ] at h2q
      rcases Bool.eq_false_or_eq_true (pl) with h3 | h3
      · have h3q := h3
        try simp only [zA, zB, zC, zD, zE, zF, zG, zH, zI, zJ, zK, zL, zM, zN, zO, zP, zQ, zR, zS, zT, zU, zV, zW, zX, zY, zZ] at h3q
        refine Eq.trans (show dgM_t mi ze pl wi pr ex le ln n = (.p (.str (dgAf mi ze ex wi pr n [43] (itoaS n))), []) from (cond_t h1).trans ((cond_f h2).trans ((cond_t h3).trans (rfl)))) ?_
        try unfold dgMf
        repeat' split
        all_goals (first | (exfalso; simp_all; done) | rfl | (exfalso; omega) | (simp only [zA, zB, zC, zD, zE, zF, zG, zH, zI, zJ, zK, zL, zM, zN, zO, zP, zQ, zR, zS, zT, zU, zV, zW, zX, zY, zZ] at *; omega) | (exfalso; simp_all; done) | (exfalso; simp_all; omega) | (simp_all; done) | contradiction)
      · have h3q := h3
        try simp only [zA, zB, zC, zD, zE, zF, zG, zH, zI, zJ, zK, zL, zM, zN, zO, zP, zQ, zR, zS, zT, zU, zV, zW, zX, zY, zZ] at h3q
        refine Eq.trans (show dgM_t mi ze pl wi pr ex le ln n = (.p (.str (dgAf mi ze ex wi pr n [] (itoaS n))), []) from (cond_t h1).trans ((cond_f h2).trans ((cond_f h3).trans (rfl)))) ?_
        try unfold dgMf
        repeat' split
        all_goals (first | (exfalso; simp_all; done) | rfl | (exfalso; omega) | (simp only [zA, zB, zC, zD, zE, zF, zG, zH, zI, zJ, zK, zL, zM, zN, zO, zP, zQ, zR, zS, zT, zU, zV, zW, zX, zY, zZ] at *; omega) | (exfalso; simp_all; done) | (exfalso; simp_all; omega) | (simp_all; done) | contradiction)
  · have h1q := h1
    try simp only [zA, zB, zC, zD, zE, zF, zG, zH, zI, zJ, zK, zL, zM, zN, zO, zP, zQ, zR, zS, zT, zU, zV, zW, zX, zY, zZ] at h1q
    rcases Bool.eq_false_or_eq_true ((le == 105)) with h2 | h2
    · have h2q := h2
      try simp only [zA, zB, zC, zD, zE, zF, zG, zH, zI, zJ, zK, zL, zM, zN, zO, zP, zQ, zR, zS, zT, zU, zV, zW, zX, zY, zZ] at h2q
      rcases Bool.eq_false_or_eq_true (decide (n < 0)) with h3 | h3
      · have h3q := h3
        try simp only [zA, zB, zC, zD, zE, zF, zG, zH, zI, zJ, zK, zL, zM, zN, zO, zP, zQ, zR, zS, zT, zU, zV, zW, zX, zY, zZ] at h3q
        refine Eq.trans (show dgM_t mi ze pl wi pr ex le ln n = (.p (.str (dgAf mi ze ex wi pr n [45] (List.drop 1 (itoaS n)))), []) from (cond_f h1).trans ((cond_t h2).trans ((cond_t h3).trans (rfl)))) ?_
        try unfold dgMf
        repeat' split
        all_goals (first | (exfalso; simp_all; done) | rfl | (exfalso; omega) | (simp only [zA, zB, zC, zD, zE, zF, zG, zH, zI, zJ, zK, zL, zM, zN, zO, zP, zQ, zR, zS, zT, zU, zV, zW, zX, zY, zZ] at *; omega) | (exfalso; simp_all; done) | (exfalso; simp_all; omega) | (simp_all; done) | contradiction)
      · have h3q := h3
        try simp only [zA, zB, zC, zD, zE, zF, zG, zH, zI, zJ, zK, zL, zM, zN, zO, zP, zQ, zR, zS, zT, zU, zV, zW, zX, zY, zZ] at h3q
        rcases Bool.eq_false_or_eq_true (pl) with h4 | h4
        · have h4q := h4
          try simp only [zA, zB, zC, zD, zE, zF, zG, zH, zI, zJ, zK, zL, zM, zN, zO, zP, zQ, zR, zS, zT, zU, zV, zW, zX, zY, zZ] at h4q
          refine Eq.trans (show dgM_t mi ze pl wi pr ex le ln n = (.p (.str (dgAf mi ze ex wi pr n [43] (itoaS n))), []) from (cond_f h1).trans ((cond_t h2).trans ((cond_f h3).trans ((cond_t h4).trans (rfl))))) ?_
          try unfold dgMf
          repeat' split
          all_goals (first | (exfalso; simp_all; done) | rfl | (exfalso; omega) | (simp only [zA, zB, zC, zD, zE, zF, zG, zH, zI, zJ, zK, zL, zM, zN, zO, zP, zQ, zR, zS, zT, zU, zV, zW, zX, zY, zZ] at *; omega) | (exfalso; simp_all; done) | (exfalso; simp_all; omega) | (simp_all; done) | contradiction)
        · have h4q := h4
          try simp only [zA, zB, zC, zD, zE, zF, zG, zH, zI, zJ, zK, zL, zM, zN, zO, zP, zQ, zR, zS, zT, zU, zV, zW, zX, zY, zZ] at h4q
          refine Eq.trans (show dgM_t mi ze pl wi pr ex le ln n = (.p (.str (dgAf mi ze ex wi pr n [] (itoaS n))), []) from (cond_f h1).trans ((cond_t h2).trans ((cond_f h3).trans ((cond_f h4).trans (rfl))))) ?_
          try unfold dgMf
          repeat' split
          all_goals (first | (exfalso; simp_all; done) | rfl | (exfalso; omega) | (simp only [zA, zB, zC, zD, zE, zF, zG, zH, zI, zJ, zK, zL, zM, zN, zO, zP, zQ, zR, zS, zT, zU, zV, zW, zX, zY, zZ] at *; omega) | (exfalso; simp_all; done) | (exfalso; simp_all; omega) | (simp_all; done) | contradiction)
    · have h2q := h2
      try simp only [zA, zB, zC, zD, zE, zF, zG, zH, zI, zJ, zK, zL, zM, zN, zO, zP, zQ, zR, zS, zT, zU, zV, zW, zX, zY, zZ] at h2q
      rcases Bool.eq_false_or_eq_true ((le == 120)) with h3 | h3
      · have h3q := h3
        try simp only [zA, zB, zC, zD, zE, zF, zG, zH, zI, zJ, zK, zL, zM, zN, zO, zP, zQ, zR, zS, zT, zU, zV, zW, zX, zY, zZ] at h3q
        refine Eq.trans (show dgM_t mi ze pl wi pr ex le ln n = (.p (.str (dgAf mi ze ex wi pr n [] (fbS 16 (u64 n)))), []) from (cond_f h1).trans ((cond_f h2).trans ((cond_t h3).trans (rfl)))) ?_
        try unfold dgMf
        repeat' split
        all_goals (first | (exfalso; simp_all; done) | rfl | (exfalso; omega) | (simp only [zA, zB, zC, zD, zE, zF, zG, zH, zI, zJ, zK, zL, zM, zN, zO, zP, zQ, zR, zS, zT, zU, zV, zW, zX, zY, zZ] at *; omega) | (exfalso; simp_all; done) | (exfalso; simp_all; omega) | (simp_all; done) | contradiction)
      · have h3q := h3
        try simp only [zA, zB, zC, zD, zE, zF, zG, zH, zI, zJ, zK, zL, zM, zN, zO, zP, zQ, zR, zS, zT, zU, zV, zW, zX, zY, zZ] at h3q
        rcases Bool.eq_false_or_eq_true ((le == 111)) with h4 | h4
        · have h4q := h4
          try simp only [zA, zB, zC, zD, zE, zF, zG, zH, zI, zJ, zK, zL, zM, zN, zO, zP, zQ, zR, zS, zT, zU, zV, zW, zX, zY, zZ] at h4q
          refine Eq.trans (show dgM_t mi ze pl wi pr ex le ln n = (.p (.str (dgAf mi ze ex wi pr n [] (fbS 8 (u64 n)))), []) from (cond_f h1).trans ((cond_f h2).trans ((cond_f h3).trans ((cond_t h4).trans (rfl))))) ?_
          try unfold dgMf
          repeat' split
          all_goals (first | (exfalso; simp_all; done) | rfl | (exfalso; omega) | (simp only [zA, zB, zC, zD, zE, zF, zG, zH, zI, zJ, zK, zL, zM, zN, zO, zP, zQ, zR, zS, zT, zU, zV, zW, zX, zY, zZ] at *; omega) | (exfalso; simp_all; done) | (exfalso; simp_all; omega) | (simp_all; done) | contradiction)
        · have h4q := h4
          try simp only [zA, zB, zC, zD, zE, zF, zG, zH, zI, zJ, zK, zL, zM, zN, zO, zP, zQ, zR, zS, zT, zU, zV, zW, zX, zY, zZ] at h4q
          refine Eq.trans (show dgM_t mi ze pl wi pr ex le ln n = (.p (.str (dgAf mi ze ex wi pr n [] (decS (u64 n)))), []) from (cond_f h1).trans ((cond_f h2).trans ((cond_f h3).trans ((cond_f h4).trans (rfl))))) ?_
          try unfold dgMf
          repeat' split
          all_goals (first | (exfalso; simp_all; done) | rfl | (exfalso; omega) | (simp only [zA, zB, zC, zD, zE, zF, zG, zH, zI, zJ, zK, zL, zM, zN, zO, zP, zQ, zR, zS, zT, zU, zV, zW, zX, zY, zZ] at *; omega) | (exfalso; simp_all; done) | (exfalso; simp_all; omega) | (simp_all; done) | contradiction)

theorem digits_rc (hT : TabOk Pd Gd T) (c : Cv) (n : Int) (hw : c.wi ≤ 5000) (hp : c.pr ≤ 5000) (hn : -9223372036854775808 ≤ n ∧ n ≤ 9223372036854775807) : RC Pd Gd 39 [.p c.pv, .p (.int .i64 n)] [] (.p (.str (digS c n))) [] := by
  have h := dgM_rc hT c.mi c.ze c.pl (c.wi : Nat) (c.pr : Nat) c.ex (c.le : Nat) (c.ln : Nat) n (fun x hx => by rw [fillI_eq]; exact fill_rc hT c x hw (by omega)) (by omega) (by omega) hn
  rw [dgM_eq] at h
  exact h
end
end Go.Vc

/- VeFm0 -/
namespace Go.Vc
open Go.Sort

def simT (c : Nat) : List Nat := (simpS c).getD []
def simB (c : Nat) : Bool := (simpS c).isSome
theorem simple_rc2 {T : Tab} (hT : TabOk Pd Gd T) (c : Nat) : RC Pd Gd 29 [.p (.int .u8 (c : Nat))] [] (.tup [.p (.str (simT c)), .p (.bool (simB c))]) [] := by
  have h := simple_rc (G := Gd) hT c
  unfold simT simB
  cases e : simpS c with
  | none => rw [e] at h; exact h.retk rfl
  | some t => rw [e] at h; exact h.retk rfl

def bldM (out : List Nat) : Heap := [some (.cells [.mptr 0 0, .nsl 1 out.length 1] (.obj 39)), some (.bytes out 5)]
def bldM2 (out : List Nat) : Heap := [some (.cells [.mptr 0 0, .nsl 2 out.length 1] (.obj 39)), none, some (.bytes out 5)]

/-- The escape with which a format begins: its text, its length. -/
def escT (s : List Nat) : List Nat :=
  if s.length < 2 then s else if simB (s.getD 1 0) = true then simT (s.getD 1 0)
  else if 0 < octN 3 (s.drop 1) then codeS ((s.take (1 + octN 3 (s.drop 1))).drop 1) else s.take 1
def escN (s : List Nat) : Nat :=
  if s.length < 2 then s.length else if simB (s.getD 1 0) = true then 2
  else if 0 < octN 3 (s.drop 1) then 1 + octN 3 (s.drop 1) else 1

def notNum : List Nat := [58, 32, 110, 111, 116, 32, 97, 32, 110, 117, 109, 98, 101, 114]
def numV (s : List Nat) : Int := if 0 < s.length ∧ (s.getD 0 0 = 39 ∨ s.getD 0 0 = 34) then (if s.length = 1 then 0 else (s.getD 1 0 : Nat)) else intN s
def numM (msg s : List Nat) : List Nat := if 0 < s.length ∧ (s.getD 0 0 = 39 ∨ s.getD 0 0 = 34) then msg else if intO s = true then msg else compS msg (s ++ notNum)

/-- An operand with its escapes: the text and whether the output ends. -/
def esdF : Nat → List Nat → List Nat → List Nat × Bool
  | 0, _, out => (out, false)
  | k + 1, s, out =>
    if s = [] then (out, false)
    else if s.getD 0 0 ≠ 92 ∨ s.length = 1 then esdF k (s.drop 1) (out ++ [s.getD 0 0])
    else if s.getD 1 0 = 99 then (out, true)
    else if s.getD 1 0 = 48 then esdF k (s.drop (2 + octN 3 (s.drop 2))) (out ++ codeS ((s.take (2 + octN 3 (s.drop 2))).drop 2))
    else if simB (s.getD 1 0) = true then esdF k (s.drop 2) (out ++ simT (s.getD 1 0))
    else esdF k (s.drop 1) (out ++ [s.getD 0 0])
def esdT (s : List Nat) : List Nat := (esdF s.length s []).1
def esdB (s : List Nat) : Bool := (esdF s.length s []).2
end Go.Vc

/- VeFm -/
namespace Go.Vc
open Go.Sort
set_option linter.unusedVariables false
set_option linter.unusedSimpArgs false

theorem getD_lt {s : List Nat} (hs : ∀ x ∈ s, x < 256) (i : Nat) : s.getD i 0 < 256 := by
  rw [List.getD_eq_getElem?_getD]
  cases h : s[i]? with
  | none => simp
  | some x => exact hs x (List.mem_of_getElem? h)

theorem octN_take : ∀ (n : Nat) (s : List Nat), ∀ x ∈ s.take (octN n s), 48 ≤ x ∧ x ≤ 55 := by
  intro n
  induction n with
  | zero => intro s x h; simp [octN] at h
  | succ n ih =>
    intro s x h
    cases s with
    | nil => simp [octN] at h
    | cons c r =>
      unfold octN at h
      split at h
      · rename_i hc
        rw [List.take_succ_cons] at h
        rcases List.mem_cons.1 h with rfl | h
        · exact hc
        · exact ih r x h
      · simp at h
theorem oct_take (s : List Nat) (k n : Nat) (h : n = octN 3 (s.drop k)) : ∀ x ∈ (s.take (k + n)).drop k, 48 ≤ x ∧ x ≤ 55 := by
  intro x hx
  rw [List.drop_take, Nat.add_sub_cancel_left, h] at hx
  exact octN_take 3 _ x hx

section
variable {T : Tab}

theorem nmb_p1 (out : List Nat) (left : List (List Nat)) (used done : Bool) (msg s : List Nat) : runFn Pd Gd T 100000 false [.br true, .br true, .br true, .tr 888888 Tr.dk] 40 [.ptr 0 0, .p (.str s)] [some (.cells [.mptr 0 0, .nsl 1 out.length 1, .p (.lst left.length (List.map PV.str left)), .p (.bool used), .p (.bool done), .p (.str msg)] (.obj 41)), some (.bytes out 5)] = some ([((↑s.length : Int) == 1) = true, ((↑(s.getD 0 0) : Int) == 39) = true, (true && decide (0 < (↑s.length : Int))) = true, (!s == []) = true], .p (.int .i64 0), [some (.cells [.mptr 0 0, .nsl 1 out.length 1, .p (.lst left.length (List.map PV.str left)), .p (.bool used), .p (.bool done), .p (.str msg)] (.obj 41)), some (.bytes out 5)]) := by kernel_rfl
theorem nmb_p2 (out : List Nat) (left : List (List Nat)) (used done : Bool) (msg s : List Nat) : runFn Pd Gd T 100000 false [.br true, .br true, .br false, .tr 888888 Tr.dk] 40 [.ptr 0 0, .p (.str s)] [some (.cells [.mptr 0 0, .nsl 1 out.length 1, .p (.lst left.length (List.map PV.str left)), .p (.bool used), .p (.bool done), .p (.str msg)] (.obj 41)), some (.bytes out 5)] = some ([fitsK .i64 (↑(s.getD 1 0) : Int) = true, (true && decide (1 < (↑s.length : Int))) = true, ((↑s.length : Int) == 1) = false, ((↑(s.getD 0 0) : Int) == 39) = true, (true && decide (0 < (↑s.length : Int))) = true, (!s == []) = true], .p (.int .i64 (↑(s.getD 1 0) : Int)), [some (.cells [.mptr 0 0, .nsl 1 out.length 1, .p (.lst left.length (List.map PV.str left)), .p (.bool used), .p (.bool done), .p (.str msg)] (.obj 41)), some (.bytes out 5)]) := by kernel_rfl
theorem nmb_p3 (out : List Nat) (left : List (List Nat)) (used done : Bool) (msg s : List Nat) : runFn Pd Gd T 100000 false [.br true, .br false, .br true, .br true, .tr 888888 Tr.dk] 40 [.ptr 0 0, .p (.str s)] [some (.cells [.mptr 0 0, .nsl 1 out.length 1, .p (.lst left.length (List.map PV.str left)), .p (.bool used), .p (.bool done), .p (.str msg)] (.obj 41)), some (.bytes out 5)] = some ([((↑s.length : Int) == 1) = true, ((↑(s.getD 0 0) : Int) == 34) = true, (true && decide (0 < (↑s.length : Int))) = true, ((↑(s.getD 0 0) : Int) == 39) = false, (true && decide (0 < (↑s.length : Int))) = true, (!s == []) = true], .p (.int .i64 0), [some (.cells [.mptr 0 0, .nsl 1 out.length 1, .p (.lst left.length (List.map PV.str left)), .p (.bool used), .p (.bool done), .p (.str msg)] (.obj 41)), some (.bytes out 5)]) := by kernel_rfl
theorem nmb_p4 (out : List Nat) (left : List (List Nat)) (used done : Bool) (msg s : List Nat) : runFn Pd Gd T 100000 false [.br true, .br false, .br true, .br false, .tr 888888 Tr.dk] 40 [.ptr 0 0, .p (.str s)] [some (.cells [.mptr 0 0, .nsl 1 out.length 1, .p (.lst left.length (List.map PV.str left)), .p (.bool used), .p (.bool done), .p (.str msg)] (.obj 41)), some (.bytes out 5)] = some ([fitsK .i64 (↑(s.getD 1 0) : Int) = true, (true && decide (1 < (↑s.length : Int))) = true, ((↑s.length : Int) == 1) = false, ((↑(s.getD 0 0) : Int) == 34) = true, (true && decide (0 < (↑s.length : Int))) = true, ((↑(s.getD 0 0) : Int) == 39) = false, (true && decide (0 < (↑s.length : Int))) = true, (!s == []) = true], .p (.int .i64 (↑(s.getD 1 0) : Int)), [some (.cells [.mptr 0 0, .nsl 1 out.length 1, .p (.lst left.length (List.map PV.str left)), .p (.bool used), .p (.bool done), .p (.str msg)] (.obj 41)), some (.bytes out 5)]) := by kernel_rfl
theorem nmb_p5 (out : List Nat) (left : List (List Nat)) (used done : Bool) (msg s : List Nat) : runFn Pd Gd T 100000 false [.br true, .br false, .br false, .callv (.tup [.p (.int .i64 (intN s)), .p (.bool (intO s))]) [], .br true, .callv (.tup []) [some (.cells [.mptr 0 0, .nsl 1 out.length 1, .p (.lst left.length (List.map PV.str left)), .p (.bool used), .p (.bool done), .p (.str (compS msg (s ++ [58, 32, 110, 111, 116, 32, 97, 32, 110, 117, 109, 98, 101, 114])))] (.obj 41)), some (.bytes out 5)], .tr 888888 Tr.dk] 40 [.ptr 0 0, .p (.str s)] [some (.cells [.mptr 0 0, .nsl 1 out.length 1, .p (.lst left.length (List.map PV.str left)), .p (.bool used), .p (.bool done), .p (.str msg)] (.obj 41)), some (.bytes out 5)] = some ([RC Pd Gd 24 [.ptr 0 0, .p (.str (s ++ [58, 32, 110, 111, 116, 32, 97, 32, 110, 117, 109, 98, 101, 114]))] [some (.cells [.mptr 0 0, .nsl 1 out.length 1, .p (.lst left.length (List.map PV.str left)), .p (.bool used), .p (.bool done), .p (.str msg)] (.obj 41)), some (.bytes out 5)] (.tup []) [some (.cells [.mptr 0 0, .nsl 1 out.length 1, .p (.lst left.length (List.map PV.str left)), .p (.bool used), .p (.bool done), .p (.str (compS msg (s ++ [58, 32, 110, 111, 116, 32, 97, 32, 110, 117, 109, 98, 101, 114])))] (.obj 41)), some (.bytes out 5)], decide (s.length + 14 ≤ 4611686018427387904) = true, (!intO s) = true, RC Pd Gd 49 [.p (.str s)] [] (.tup [.p (.int .i64 (intN s)), .p (.bool (intO s))]) [], ((↑(s.getD 0 0) : Int) == 34) = false, (true && decide (0 < (↑s.length : Int))) = true, ((↑(s.getD 0 0) : Int) == 39) = false, (true && decide (0 < (↑s.length : Int))) = true, (!s == []) = true], .p (.int .i64 (intN s)), [some (.cells [.mptr 0 0, .nsl 1 out.length 1, .p (.lst left.length (List.map PV.str left)), .p (.bool used), .p (.bool done), .p (.str (compS msg (s ++ [58, 32, 110, 111, 116, 32, 97, 32, 110, 117, 109, 98, 101, 114])))] (.obj 41)), some (.bytes out 5)]) := by kernel_rfl
theorem nmb_p6 (out : List Nat) (left : List (List Nat)) (used done : Bool) (msg s : List Nat) : runFn Pd Gd T 100000 false [.br true, .br false, .br false, .callv (.tup [.p (.int .i64 (intN s)), .p (.bool (intO s))]) [], .br false, .tr 888888 Tr.dk] 40 [.ptr 0 0, .p (.str s)] [some (.cells [.mptr 0 0, .nsl 1 out.length 1, .p (.lst left.length (List.map PV.str left)), .p (.bool used), .p (.bool done), .p (.str msg)] (.obj 41)), some (.bytes out 5)] = some ([(!intO s) = false, RC Pd Gd 49 [.p (.str s)] [] (.tup [.p (.int .i64 (intN s)), .p (.bool (intO s))]) [], ((↑(s.getD 0 0) : Int) == 34) = false, (true && decide (0 < (↑s.length : Int))) = true, ((↑(s.getD 0 0) : Int) == 39) = false, (true && decide (0 < (↑s.length : Int))) = true, (!s == []) = true], .p (.int .i64 (intN s)), [some (.cells [.mptr 0 0, .nsl 1 out.length 1, .p (.lst left.length (List.map PV.str left)), .p (.bool used), .p (.bool done), .p (.str msg)] (.obj 41)), some (.bytes out 5)]) := by kernel_rfl
theorem nmb_p7 (out : List Nat) (left : List (List Nat)) (used done : Bool) (msg s : List Nat) : runFn Pd Gd T 100000 false [.br false, .callv (.tup [.p (.int .i64 (intN s)), .p (.bool (intO s))]) [], .br true, .callv (.tup []) [some (.cells [.mptr 0 0, .nsl 1 out.length 1, .p (.lst left.length (List.map PV.str left)), .p (.bool used), .p (.bool done), .p (.str (compS msg (s ++ [58, 32, 110, 111, 116, 32, 97, 32, 110, 117, 109, 98, 101, 114])))] (.obj 41)), some (.bytes out 5)], .tr 888888 Tr.dk] 40 [.ptr 0 0, .p (.str s)] [some (.cells [.mptr 0 0, .nsl 1 out.length 1, .p (.lst left.length (List.map PV.str left)), .p (.bool used), .p (.bool done), .p (.str msg)] (.obj 41)), some (.bytes out 5)] = some ([RC Pd Gd 24 [.ptr 0 0, .p (.str (s ++ [58, 32, 110, 111, 116, 32, 97, 32, 110, 117, 109, 98, 101, 114]))] [some (.cells [.mptr 0 0, .nsl 1 out.length 1, .p (.lst left.length (List.map PV.str left)), .p (.bool used), .p (.bool done), .p (.str msg)] (.obj 41)), some (.bytes out 5)] (.tup []) [some (.cells [.mptr 0 0, .nsl 1 out.length 1, .p (.lst left.length (List.map PV.str left)), .p (.bool used), .p (.bool done), .p (.str (compS msg (s ++ [58, 32, 110, 111, 116, 32, 97, 32, 110, 117, 109, 98, 101, 114])))] (.obj 41)), some (.bytes out 5)], decide (s.length + 14 ≤ 4611686018427387904) = true, (!intO s) = true, RC Pd Gd 49 [.p (.str s)] [] (.tup [.p (.int .i64 (intN s)), .p (.bool (intO s))]) [], (!s == []) = false], .p (.int .i64 (intN s)), [some (.cells [.mptr 0 0, .nsl 1 out.length 1, .p (.lst left.length (List.map PV.str left)), .p (.bool used), .p (.bool done), .p (.str (compS msg (s ++ [58, 32, 110, 111, 116, 32, 97, 32, 110, 117, 109, 98, 101, 114])))] (.obj 41)), some (.bytes out 5)]) := by kernel_rfl
theorem nmb_p8 (out : List Nat) (left : List (List Nat)) (used done : Bool) (msg s : List Nat) : runFn Pd Gd T 100000 false [.br false, .callv (.tup [.p (.int .i64 (intN s)), .p (.bool (intO s))]) [], .br false, .tr 888888 Tr.dk] 40 [.ptr 0 0, .p (.str s)] [some (.cells [.mptr 0 0, .nsl 1 out.length 1, .p (.lst left.length (List.map PV.str left)), .p (.bool used), .p (.bool done), .p (.str msg)] (.obj 41)), some (.bytes out 5)] = some ([(!intO s) = false, RC Pd Gd 49 [.p (.str s)] [] (.tup [.p (.int .i64 (intN s)), .p (.bool (intO s))]) [], (!s == []) = false], .p (.int .i64 (intN s)), [some (.cells [.mptr 0 0, .nsl 1 out.length 1, .p (.lst left.length (List.map PV.str left)), .p (.bool used), .p (.bool done), .p (.str msg)] (.obj 41)), some (.bytes out 5)]) := by kernel_rfl
theorem esc_p1 (s : List Nat) : runFn Pd Gd T 100000 false [.br true] 21 [.p (.str s)] [] = some ([decide ((↑s.length : Int) < 2) = true], .tup [.p (.str s), .p (.int .i64 (↑s.length : Int))], []) := by kernel_rfl
theorem esc_p2 (s : List Nat) : runFn Pd Gd T 100000 false [.br false, .callv (.tup [.p (.str (simT (s.getD 1 0))), .p (.bool (simB (s.getD 1 0)))]) [], .br true] 21 [.p (.str s)] [] = some ([simB (s.getD 1 0) = true, RC Pd Gd 29 [.p (.int .u8 (↑(s.getD 1 0) : Int))] [] (.tup [.p (.str (simT (s.getD 1 0))), .p (.bool (simB (s.getD 1 0)))]) [], (true && decide (1 < (↑s.length : Int))) = true, decide ((↑s.length : Int) < 2) = false], .tup [.p (.str (simT (s.getD 1 0))), .p (.int .i64 2)], []) := by kernel_rfl
theorem esc_p3 (s : List Nat) : runFn Pd Gd T 100000 false [.br false, .callv (.tup [.p (.str (simT (s.getD 1 0))), .p (.bool (simB (s.getD 1 0)))]) [], .br false, .callv (.p (.int .i64 (↑(octN 3 (List.drop 1 s)) : Int))) [], .br true, .callv (.p (.str (codeS (List.drop 1 (List.take (1 + octN 3 (List.drop 1 s)) s))))) []] 21 [.p (.str s)] [] = some ([fitsK .i64 (1 + (↑(octN 3 (List.drop 1 s)) : Int)) = true, RC Pd Gd 31 [.p (.str (List.drop 1 (List.take (1 + octN 3 (List.drop 1 s)) s)))] [] (.p (.str (codeS (List.drop 1 (List.take (1 + octN 3 (List.drop 1 s)) s))))) [], (true && decide (1 ≤ 1 + (↑(octN 3 (List.drop 1 s)) : Int)) && decide (1 + (↑(octN 3 (List.drop 1 s)) : Int) ≤ (↑s.length : Int))) = true, fitsK .i64 (1 + (↑(octN 3 (List.drop 1 s)) : Int)) = true, decide ((↑(octN 3 (List.drop 1 s)) : Int) > 0) = true, RC Pd Gd 30 [.p (.str (List.drop 1 s)), .p (.int .i64 3)] [] (.p (.int .i64 (↑(octN 3 (List.drop 1 s)) : Int))) [], (true && decide (1 ≤ (↑s.length : Int))) = true, simB (s.getD 1 0) = false, RC Pd Gd 29 [.p (.int .u8 (↑(s.getD 1 0) : Int))] [] (.tup [.p (.str (simT (s.getD 1 0))), .p (.bool (simB (s.getD 1 0)))]) [], (true && decide (1 < (↑s.length : Int))) = true, decide ((↑s.length : Int) < 2) = false], .tup [.p (.str (codeS (List.drop 1 (List.take (1 + octN 3 (List.drop 1 s)) s)))), .p (.int .i64 (1 + (↑(octN 3 (List.drop 1 s)) : Int)))], []) := by kernel_rfl
theorem esc_p4 (s : List Nat) : runFn Pd Gd T 100000 false [.br false, .callv (.tup [.p (.str (simT (s.getD 1 0))), .p (.bool (simB (s.getD 1 0)))]) [], .br false, .callv (.p (.int .i64 (↑(octN 3 (List.drop 1 s)) : Int))) [], .br false] 21 [.p (.str s)] [] = some ([(true && decide (1 ≤ (↑s.length : Int))) = true, decide ((↑(octN 3 (List.drop 1 s)) : Int) > 0) = false, RC Pd Gd 30 [.p (.str (List.drop 1 s)), .p (.int .i64 3)] [] (.p (.int .i64 (↑(octN 3 (List.drop 1 s)) : Int))) [], (true && decide (1 ≤ (↑s.length : Int))) = true, simB (s.getD 1 0) = false, RC Pd Gd 29 [.p (.int .u8 (↑(s.getD 1 0) : Int))] [] (.tup [.p (.str (simT (s.getD 1 0))), .p (.bool (simB (s.getD 1 0)))]) [], (true && decide (1 < (↑s.length : Int))) = true, decide ((↑s.length : Int) < 2) = false], .tup [.p (.str (List.take 1 s)), .p (.int .i64 1)], []) := by kernel_rfl
theorem wbn_p1 (out : List Nat) (c : Nat) : runW Pd Gd T 100000 false [.inl, .tr 888888 (Tr.may 0 0 0 0), .tr 888888 Tr.dk] [] [3] 46 [.ptr 0 0, .p (.int .u8 (↑c : Int))] [some (.cells [.p .nilp, .nsl 1 out.length 1] (.obj 39)), some (.bytes out 5)] = some ([true = true, (true && decide ((↑c : Int) < 256) && true && true && decide (out.length = out.length) && decide (out.length + [c].length ≤ 1099511627776)) = true, true = true, true = true, IsExt Pd 42 Extern.AbiNoEscape.same, true = true], .p .nili, [some (.cells [.mptr 0 0, .nsl 2 (out ++ [c]).length 1] (.obj 39)), none, some (.bytes (out ++ [c]) 5)]) := by kernel_rfl
theorem wsn_p1 (out x : List Nat) : runW Pd Gd T 100000 false [.inl, .tr 888888 (Tr.may 0 0 0 0), .tr 888888 Tr.dk] [] [2] 20 [.ptr 0 0, .p (.str x)] [some (.cells [.p .nilp, .nsl 1 out.length 1] (.obj 39)), some (.bytes out 5)] = some ([true = true, (true && decide (out.length = out.length) && decide (out.length + x.length ≤ 1099511627776)) = true, true = true, true = true, IsExt Pd 42 Extern.AbiNoEscape.same, true = true], .tup [.p (.int .i64 (↑x.length : Int)), .p .nili], [some (.cells [.mptr 0 0, .nsl 2 (out ++ x).length 1] (.obj 39)), none, some (.bytes (out ++ x) 5)]) := by kernel_rfl
theorem wbp_p1 (out : List Nat) (c : Nat) : runW Pd Gd T 100000 false [.inl, .tr 888888 (Tr.may 0 0 0 0), .tr 888888 Tr.dk] [] [3] 46 [.ptr 0 0, .p (.int .u8 (↑c : Int))] [some (.cells [.ptr 0 0, .nsl 1 out.length 1] (.obj 39)), some (.bytes out 5)] = some ([true = true, (true && decide ((↑c : Int) < 256) && true && true && decide (out.length = out.length) && decide (out.length + [c].length ≤ 1099511627776)) = true], .p .nili, [some (.cells [.mptr 0 0, .nsl 2 (out ++ [c]).length 1] (.obj 39)), none, some (.bytes (out ++ [c]) 5)]) := by kernel_rfl
theorem wsp_p1 (out x : List Nat) : runW Pd Gd T 100000 false [.inl, .tr 888888 (Tr.may 0 0 0 0), .tr 888888 Tr.dk] [] [2] 20 [.ptr 0 0, .p (.str x)] [some (.cells [.ptr 0 0, .nsl 1 out.length 1] (.obj 39)), some (.bytes out 5)] = some ([true = true, (true && decide (out.length = out.length) && decide (out.length + x.length ≤ 1099511627776)) = true], .tup [.p (.int .i64 (↑x.length : Int)), .p .nili], [some (.cells [.mptr 0 0, .nsl 2 (out ++ x).length 1] (.obj 39)), none, some (.bytes (out ++ x) 5)]) := by kernel_rfl
theorem bst_p1 (out : List Nat) : runFn Pd Gd T 100000 false [] 16 [.ptr 0 0] [some (.cells [.mptr 0 0, .nsl 1 out.length 1] (.obj 39)), some (.bytes out 5)] = some ([some (some (Blk.cells [.mptr 0 0, .nsl 1 out.length 1] (.obj 39))) = some (some (Blk.cells [.mptr 0 0, .nsl 1 out.length 1] (.obj 39))), (decide ((↑out.length : Int) = (↑out.length : Int)) && decide (out.length ≤ 1099511627776)) = true], .p (.str out), [some (.cells [.mptr 0 0, .nsl 1 out.length 1] (.obj 39)), some (.bytes out 5)]) := by kernel_rfl
def nmb_t (out : List Nat) (left : List (List Nat)) (used done : Bool) (msg s : List Nat) : EV × Heap :=
  bif (!s == []) then
    bif ((↑(s.getD 0 0) : Int) == 39) then
      bif ((↑s.length : Int) == 1) then
        (.p (.int .i64 0), [some (.cells [.mptr 0 0, .nsl 1 out.length 1, .p (.lst left.length (List.map PV.str left)), .p (.bool used), .p (.bool done), .p (.str msg)] (.obj 41)), some (.bytes out 5)])
      else
        (.p (.int .i64 (↑(s.getD 1 0) : Int)), [some (.cells [.mptr 0 0, .nsl 1 out.length 1, .p (.lst left.length (List.map PV.str left)), .p (.bool used), .p (.bool done), .p (.str msg)] (.obj 41)), some (.bytes out 5)])
    else
      bif ((↑(s.getD 0 0) : Int) == 34) then
        bif ((↑s.length : Int) == 1) then
          (.p (.int .i64 0), [some (.cells [.mptr 0 0, .nsl 1 out.length 1, .p (.lst left.length (List.map PV.str left)), .p (.bool used), .p (.bool done), .p (.str msg)] (.obj 41)), some (.bytes out 5)])
        else
          (.p (.int .i64 (↑(s.getD 1 0) : Int)), [some (.cells [.mptr 0 0, .nsl 1 out.length 1, .p (.lst left.length (List.map PV.str left)), .p (.bool used), .p (.bool done), .p (.str msg)] (.obj 41)), some (.bytes out 5)])
      else
        bif (!intO s) then
          (.p (.int .i64 (intN s)), [some (.cells [.mptr 0 0, .nsl 1 out.length 1, .p (.lst left.length (List.map PV.str left)), .p (.bool used), .p (.bool done), .p (.str (compS msg (s ++ [58, 32, 110, 111, 116, 32, 97, 32, 110, 117, 109, 98, 101, 114])))] (.obj 41)), some (.bytes out 5)])
        else
          (.p (.int .i64 (intN s)), [some (.cells [.mptr 0 0, .nsl 1 out.length 1, .p (.lst left.length (List.map PV.str left)), .p (.bool used), .p (.bool done), .p (.str msg)] (.obj 41)), some (.bytes out 5)])
  else
    bif (!intO s) then
      (.p (.int .i64 (intN s)), [some (.cells [.mptr 0 0, .nsl 1 out.length 1, .p (.lst left.length (List.map PV.str left)), .p (.bool used), .p (.bool done), .p (.str (compS msg (s ++ [58, 32, 110, 111, 116, 32, 97, 32, 110, 117, 109, 98, 101, 114])))] (.obj 41)), some (.bytes out 5)])
    else
      (.p (.int .i64 (intN s)), [some (.cells [.mptr 0 0, .nsl 1 out.length 1, .p (.lst left.length (List.map PV.str left)), .p (.bool used), .p (.bool done), .p (.str msg)] (.obj 41)), some (.bytes out 5)])

set_option maxHeartbeats 0 in
set_option maxRecDepth 20000 in
theorem nmb_rc (hT : TabOk Pd Gd T) (out : List Nat) (left : List (List Nat)) (used done : Bool) (msg s : List Nat) (hs : ∀ x ∈ s, x < 256) (hl : s.length ≤ 1000000000) : RC Pd Gd 40 [.ptr 0 0, .p (.str s)] [some (.cells [.mptr 0 0, .nsl 1 out.length 1, .p (.lst left.length (List.map PV.str left)), .p (.bool used), .p (.bool done), .p (.str msg)] (.obj 41)), some (.bytes out 5)] (nmb_t out left used done msg s).1 (nmb_t out left used done msg s).2 := by
  have g1 : s.getD 1 0 < 256 := getD_lt hs 1
  rcases Bool.eq_false_or_eq_true ((!s == [])) with h1 | h1
  · have h1q := h1
    try simp only [zA, zB, zC, zD, zE, zF, zG, zH, zI, zJ, zK, zL, zM, zN, zO, zP, zQ, zR, zS, zT, zU, zV, zW, zX, zY, zZ] at h1q
    rcases Bool.eq_false_or_eq_true (((↑(s.getD 0 0) : Int) == 39)) with h2 | h2
    · have h2q := h2
      try simp only [zA, zB, zC, zD, zE, zF, zG, zH, zI, zJ, zK, zL, zM, zN, zO, zP, zQ, zR, zS, zT, zU, zV, zW, zX, zY, zZ] at h2q
      rcases Bool.eq_false_or_eq_true (((↑s.length : Int) == 1)) with h3 | h3
      · have h3q := h3
        try simp only [zA, zB, zC, zD, zE, zF, zG, zH, zI, zJ, zK, zL, zM, zN, zO, zP, zQ, zR, zS, zT, zU, zV, zW, zX, zY, zZ] at h3q
        refine RC.tree (t := nmb_t out left used done msg s) (r := .p (.int .i64 0)) (K := [some (.cells [.mptr 0 0, .nsl 1 out.length 1, .p (.lst left.length (List.map PV.str left)), .p (.bool used), .p (.bool done), .p (.str msg)] (.obj 41)), some (.bytes out 5)]) ((cond_t h1).trans ((cond_t h2).trans ((cond_t h3).trans (rfl)))) (RC.retk (RC.of_runFn hT (nmb_p1 (T := T) out left used done msg s) ?_) rfl)
        simp only [AllT]
        repeat' (first | exact trivial | assumption | exact rfl | apply And.intro)
        all_goals (first | assumption | exact int_ok hT s hs (by omega) | exact complain_rc (G := Gd) hT ⟨out, left, used, done, msg⟩ _ | (simp only [zA, zB, zC, zD, zE, zF, zG, zH, zI, zJ, zK, zL, zM, zN, zO, zP, zQ, zR, zS, zT, zU, zV, zW, zX, zY, zZ]; omega) | (simp only [zA, zB, zC, zD, zE, zF, zG, zH, zI, zJ, zK, zL, zM, zN, zO, zP, zQ, zR, zS, zT, zU, zV, zW, zX, zY, zZ] at *; omega))
      · have h3q := h3
        try simp only [zA, zB, zC, zD, zE, zF, zG, zH, zI, zJ, zK, zL, zM, zN, zO, zP, zQ, zR, zS, zT, zU, zV, zW, zX, zY, zZ] at h3q
        refine RC.tree (t := nmb_t out left used done msg s) (r := .p (.int .i64 (↑(s.getD 1 0) : Int))) (K := [some (.cells [.mptr 0 0, .nsl 1 out.length 1, .p (.lst left.length (List.map PV.str left)), .p (.bool used), .p (.bool done), .p (.str msg)] (.obj 41)), some (.bytes out 5)]) ((cond_t h1).trans ((cond_t h2).trans ((cond_f h3).trans (rfl)))) (RC.retk (RC.of_runFn hT (nmb_p2 (T := T) out left used done msg s) ?_) rfl)
        simp only [AllT]
        repeat' (first | exact trivial | assumption | exact rfl | apply And.intro)
        all_goals (first | assumption | exact int_ok hT s hs (by omega) | exact complain_rc (G := Gd) hT ⟨out, left, used, done, msg⟩ _ | (simp only [zA, zB, zC, zD, zE, zF, zG, zH, zI, zJ, zK, zL, zM, zN, zO, zP, zQ, zR, zS, zT, zU, zV, zW, zX, zY, zZ]; omega) | (simp only [zA, zB, zC, zD, zE, zF, zG, zH, zI, zJ, zK, zL, zM, zN, zO, zP, zQ, zR, zS, zT, zU, zV, zW, zX, zY, zZ] at *; omega))
    · have h2q := h2
      try simp only [zA, zB, zC, zD, zE, zF, zG, zH, zI, zJ, zK, zL, zM, zN, zO, zP, zQ, zR, zS, zT, zU, zV, zW, zX, zY, zZ] at h2q
      rcases Bool.eq_false_or_eq_true (((↑(s.getD 0 0) : Int) == 34)) with h3 | h3
      · have h3q := h3
        try simp only [zA, zB, zC, zD, zE, zF, zG, zH, zI, zJ, zK, zL, zM, zN, zO, zP, zQ, zR, zS, zT, zU, zV, zW, zX, zY, zZ] at h3q
        rcases Bool.eq_false_or_eq_true (((↑s.length : Int) == 1)) with h4 | h4
        · have h4q := h4
          try simp only [zA, zB, zC, zD, zE, zF, zG, zH, zI, zJ, zK, zL, zM, zN, zO, zP, zQ, zR, zS, zT, zU, zV, zW, zX, zY, zZ] at h4q
          refine RC.tree (t := nmb_t out left used done msg s) (r := .p (.int .i64 0)) (K := [some (.cells [.mptr 0 0, .nsl 1 out.length 1, .p (.lst left.length (List.map PV.str left)), .p (.bool used), .p (.bool done), .p (.str msg)] (.obj 41)), some (.bytes out 5)]) ((cond_t h1).trans ((cond_f h2).trans ((cond_t h3).trans ((cond_t h4).trans (rfl))))) (RC.retk (RC.of_runFn hT (nmb_p3 (T := T) out left used done msg s) ?_) rfl)
          simp only [AllT]
          repeat' (first | exact trivial | assumption | exact rfl | apply And.intro)
          all_goals (first | assumption | exact int_ok hT s hs (by omega) | exact complain_rc (G := Gd) hT ⟨out, left, used, done, msg⟩ _ | (simp only [zA, zB, zC, zD, zE, zF, zG, zH, zI, zJ, zK, zL, zM, zN, zO, zP, zQ, zR, zS, zT, zU, zV, zW, zX, zY, zZ]; omega) | (simp only [zA, zB, zC, zD, zE, zF, zG, zH, zI, zJ, zK, zL, zM, zN, zO, zP, zQ, zR, zS, zT, zU, zV, zW, zX, zY, zZ] at *; omega))
        · have h4q := h4
          try simp only [zA, zB, zC, zD, zE, zF, zG, zH, zI, zJ, zK, zL, zM, zN, zO, zP, zQ, zR, zS, zT, zU, zV, zW, zX, zY, zZ] at h4q
          refine RC.tree (t := nmb_t out left used done msg s) (r := .p (.int .i64 (↑(s.getD 1 0) : Int))) (K := [some (.cells [.mptr 0 0, .nsl 1 out.length 1, .p (.lst left.length (List.map PV.str left)), .p (.bool used), .p (.bool done), .p (.str msg)] (.obj 41)), some (.bytes out 5)]) ((cond_t h1).trans ((cond_f h2).trans ((cond_t h3).trans ((cond_f h4).trans (rfl))))) (RC.retk (RC.of_runFn hT (nmb_p4 (T := T) out left used done msg s) ?_) rfl)
          simp only [AllT]
          repeat' (first | exact trivial | assumption | exact rfl | apply And.intro)
          all_goals (first | assumption | exact int_ok hT s hs (by omega) | exact complain_rc (G := Gd) hT ⟨out, left, used, done, msg⟩ _ | (simp only [zA, zB, zC, zD, zE, zF, zG, zH, zI, zJ, zK, zL, zM, zN, zO, zP, zQ, zR, zS, zT, zU, zV, zW, zX, zY, zZ]; omega) | (simp only [zA, zB, zC, zD, zE, zF, zG, zH, zI, zJ, zK, zL, zM, zN, zO, zP, zQ, zR, zS, zT, zU, zV, zW, zX, zY, zZ] at *; omega))
      · have h3q := h3
        try simp only [zA, zB, zC, zD, zE, zF, zG, zH, zI, zJ, zK, zL, zM, zN, zO, zP, zQ, zR, zS, zT, zU, zV, zW, zX, zY, zZ] at h3q
        rcases Bool.eq_false_or_eq_true ((!intO s)) with h4 | h4
        · have h4q := h4
          try simp only [zA, zB, zC, zD, zE, zF, zG, zH, zI, zJ, zK, zL, zM, zN, zO, zP, zQ, zR, zS, zT, zU, zV, zW, zX, zY, zZ] at h4q
          refine RC.tree (t := nmb_t out left used done msg s) (r := .p (.int .i64 (intN s))) (K := [some (.cells [.mptr 0 0, .nsl 1 out.length 1, .p (.lst left.length (List.map PV.str left)), .p (.bool used), .p (.bool done), .p (.str (compS msg (s ++ [58, 32, 110, 111, 116, 32, 97, 32, 110, 117, 109, 98, 101, 114])))] (.obj 41)), some (.bytes out 5)]) ((cond_t h1).trans ((cond_f h2).trans ((cond_f h3).trans ((cond_t h4).trans (rfl))))) (RC.retk (RC.of_runFn hT (nmb_p5 (T := T) out left used done msg s) ?_) rfl)
          simp only [AllT]
          repeat' (first | exact trivial | assumption | exact rfl | apply And.intro)
          all_goals (first | assumption | exact int_ok hT s hs (by omega) | exact complain_rc (G := Gd) hT ⟨out, left, used, done, msg⟩ _ | (simp only [zA, zB, zC, zD, zE, zF, zG, zH, zI, zJ, zK, zL, zM, zN, zO, zP, zQ, zR, zS, zT, zU, zV, zW, zX, zY, zZ]; omega) | (simp only [zA, zB, zC, zD, zE, zF, zG, zH, zI, zJ, zK, zL, zM, zN, zO, zP, zQ, zR, zS, zT, zU, zV, zW, zX, zY, zZ] at *; omega))
        · have h4q := h4
          try simp only [zA, zB, zC, zD, zE, zF, zG, zH, zI, zJ, zK, zL, zM, zN, zO, zP, zQ, zR, zS, zT, zU, zV, zW, zX, zY, zZ] at h4q
          refine RC.tree (t := nmb_t out left used done msg s) (r := .p (.int .i64 (intN s))) (K := [some (.cells [.mptr 0 0, .nsl 1 out.length 1, .p (.lst left.length (List.map PV.str left)), .p (.bool used), .p (.bool done), .p (.str msg)] (.obj 41)), some (.bytes out 5)]) ((cond_t h1).trans ((cond_f h2).trans ((cond_f h3).trans ((cond_f h4).trans (rfl))))) (RC.retk (RC.of_runFn hT (nmb_p6 (T := T) out left used done msg s) ?_) rfl)
          simp only [AllT]
          repeat' (first | exact trivial | assumption | exact rfl | apply And.intro)
          all_goals (first | assumption | exact int_ok hT s hs (by omega) | exact complain_rc (G := Gd) hT ⟨out, left, used, done, msg⟩ _ | (simp only [zA, zB, zC, zD, zE, zF, zG, zH, zI, zJ, zK, zL, zM, zN, zO, zP, zQ, zR, zS, zT, zU, zV, zW, zX, zY, zZ]; omega) | (simp only [zA, zB, zC, zD, zE, zF, zG, zH, zI, zJ, zK, zL, zM, zN, zO, zP, zQ, zR, zS, zT, zU, zV, zW, zX, zY, zZ] at *; omega))
  · have h1q := h1
    try simp only [zA, zB, zC, zD, zE, zF, zG, zH, zI, zJ, zK, zL, zM, zN, zO, zP, zQ, zR, zS, zT, zU, zV, zW, zX, zY, zZ] at h1q
    rcases Bool.eq_false_or_eq_true ((!intO s)) with h2 | h2
    · have h2q := h2
      try simp only [zA, zB, zC, zD, zE, zF, zG, zH, zI, zJ, zK, zL, zM, zN, zO, zP, zQ, zR, zS, zT, zU, zV, zW, zX, zY, zZ] at h2q
      refine RC.tree (t := nmb_t out left used done msg s) (r := .p (.int .i64 (intN s))) (K := [some (.cells [.mptr 0 0, .nsl 1 out.length 1, .p (.lst left.length (List.map PV.str left)), .p (.bool used), .p (.bool done), .p (.str (compS msg (s ++ [58, 32, 110, 111, 116, 32, 97, 32, 110, 117, 109, 98, 101, 114])))] (.obj 41)), some (.bytes out 5)]) ((cond_f h1).trans ((cond_t h2).trans (rfl))) (RC.retk (RC.of_runFn hT (nmb_p7 (T := T) out left used done msg s) ?_) rfl)
      simp only [AllT]
      repeat' (first | exact trivial | assumption | exact rfl | apply And.intro)
      all_goals (first | assumption | exact int_ok hT s hs (by omega) | exact complain_rc (G := Gd) hT ⟨out, left, used, done, msg⟩ _ | (simp only [zA, zB, zC, zD, zE, zF, zG, zH, zI, zJ, zK, zL, zM, zN, zO, zP, zQ, zR, zS, zT, zU, zV, zW, zX, zY, zZ]; omega) | (simp only [zA, zB, zC, zD, zE, zF, zG, zH, zI, zJ, zK, zL, zM, zN, zO, zP, zQ, zR, zS, zT, zU, zV, zW, zX, zY, zZ] at *; omega))
    · have h2q := h2
      try simp only [zA, zB, zC, zD, zE, zF, zG, zH, zI, zJ, zK, zL, zM, zN, zO, zP, zQ, zR, zS, zT, zU, zV, zW, zX, zY, zZ] at h2q
      refine RC.tree (t := nmb_t out left used done msg s) (r := .p (.int .i64 (intN s))) (K := [some (.cells [.mptr 0 0, .nsl 1 out.length 1, .p (.lst left.length (List.map PV.str left)), .p (.bool used), .p (.bool done), .p (.str msg)] (.obj 41)), some (.bytes out 5)]) ((cond_f h1).trans ((cond_f h2).trans (rfl))) (RC.retk (RC.of_runFn hT (nmb_p8 (T := T) out left used done msg s) ?_) rfl)
      simp only [AllT]
      repeat' (first | exact trivial | assumption | exact rfl | apply And.intro)
      all_goals (first | assumption | exact int_ok hT s hs (by omega) | exact complain_rc (G := Gd) hT ⟨out, left, used, done, msg⟩ _ | (simp only [zA, zB, zC, zD, zE, zF, zG, zH, zI, zJ, zK, zL, zM, zN, zO, zP, zQ, zR, zS, zT, zU, zV, zW, zX, zY, zZ]; omega) | (simp only [zA, zB, zC, zD, zE, zF, zG, zH, zI, zJ, zK, zL, zM, zN, zO, zP, zQ, zR, zS, zT, zU, zV, zW, zX, zY, zZ] at *; omega))
set_option maxHeartbeats 0 in
set_option maxRecDepth 20000 in
theorem nmb_eq (out : List Nat) (left : List (List Nat)) (used done : Bool) (msg s : List Nat)  : nmb_t out left used done msg s = (.p (.int .i64 (numV s)), [some (.cells [.mptr 0 0, .nsl 1 out.length 1, .p (.lst left.length (List.map PV.str left)), .p (.bool used), .p (.bool done), .p (.str (numM msg s))] (.obj 41)), some (.bytes out 5)]) := by
  rcases Bool.eq_false_or_eq_true ((!s == [])) with h1 | h1
  · have h1q := h1
    try simp only [zA, zB, zC, zD, zE, zF, zG, zH, zI, zJ, zK, zL, zM, zN, zO, zP, zQ, zR, zS, zT, zU, zV, zW, zX, zY, zZ] at h1q
    rcases Bool.eq_false_or_eq_true (((↑(s.getD 0 0) : Int) == 39)) with h2 | h2
    · have h2q := h2
      try simp only [zA, zB, zC, zD, zE, zF, zG, zH, zI, zJ, zK, zL, zM, zN, zO, zP, zQ, zR, zS, zT, zU, zV, zW, zX, zY, zZ] at h2q
      rcases Bool.eq_false_or_eq_true (((↑s.length : Int) == 1)) with h3 | h3
      · have h3q := h3
        try simp only [zA, zB, zC, zD, zE, zF, zG, zH, zI, zJ, zK, zL, zM, zN, zO, zP, zQ, zR, zS, zT, zU, zV, zW, zX, zY, zZ] at h3q
        refine Eq.trans (show nmb_t out left used done msg s = (.p (.int .i64 0), [some (.cells [.mptr 0 0, .nsl 1 out.length 1, .p (.lst left.length (List.map PV.str left)), .p (.bool used), .p (.bool done), .p (.str msg)] (.obj 41)), some (.bytes out 5)]) from (cond_t h1).trans ((cond_t h2).trans ((cond_t h3).trans (rfl)))) ?_
        try unfold numV numM
        repeat' split
        all_goals (first | rfl | (exfalso; omega) | (simp only [zA, zB, zC, zD, zE, zF, zG, zH, zI, zJ, zK, zL, zM, zN, zO, zP, zQ, zR, zS, zT, zU, zV, zW, zX, zY, zZ] at *; omega) | (exfalso; simp_all; done) | (exfalso; simp_all; omega) | (simp_all; done) | contradiction)
      · have h3q := h3
        try simp only [zA, zB, zC, zD, zE, zF, zG, zH, zI, zJ, zK, zL, zM, zN, zO, zP, zQ, zR, zS, zT, zU, zV, zW, zX, zY, zZ] at h3q
        refine Eq.trans (show nmb_t out left used done msg s = (.p (.int .i64 (↑(s.getD 1 0) : Int)), [some (.cells [.mptr 0 0, .nsl 1 out.length 1, .p (.lst left.length (List.map PV.str left)), .p (.bool used), .p (.bool done), .p (.str msg)] (.obj 41)), some (.bytes out 5)]) from (cond_t h1).trans ((cond_t h2).trans ((cond_f h3).trans (rfl)))) ?_
        try unfold numV numM
        repeat' split
        all_goals (first | rfl | (exfalso; omega) | (simp only [zA, zB, zC, zD, zE, zF, zG, zH, zI, zJ, zK, zL, zM, zN, zO, zP, zQ, zR, zS, zT, zU, zV, zW, zX, zY, zZ] at *; omega) | (exfalso; simp_all; done) | (exfalso; simp_all; omega) | (simp_all; done) | contradiction)
    · have h2q := h2
      try simp only [zA, zB, zC, zD, zE, zF, zG, zH, zI, zJ, zK, zL, zM, zN, zO, zP, zQ, zR, zS, zT, zU, zV, zW, zX, zY, zZ] at h2q
      rcases Bool.eq_false_or_eq_true (((↑(s.getD 0 0) : Int) == 34)) with h3 | h3
      · have h3q := h3
        try simp only [zA, zB, zC, zD, zE, zF, zG, zH, zI, zJ, zK, zL, zM, zN, zO, zP, zQ, zR, zS, zT, zU, zV, zW, zX, zY, zZ] at h3q
        rcases Bool.eq_false_or_eq_true (((↑s.length : Int) == 1)) with h4 | h4
        · have h4q := h4
          try simp only [zA, zB, zC, zD, zE, zF, zG, zH, zI, zJ, zK, zL, zM, zN, zO, zP, zQ, zR, zS, zT, zU, zV, zW, zX, zY, zZ] at h4q
          refine Eq.trans (show nmb_t out left used done msg s = (.p (.int .i64 0), [some (.cells [.mptr 0 0, .nsl 1 out.length 1, .p (.lst left.length (List.map PV.str left)), .p (.bool used), .p (.bool done), .p (.str msg)] (.obj 41)), some (.bytes out 5)]) from (cond_t h1).trans ((cond_f h2).trans ((cond_t h3).trans ((cond_t h4).trans (rfl))))) ?_
          try unfold numV numM
          repeat' split
          all_goals (first | rfl | (exfalso; omega) | (simp only [zA, zB, zC, zD, zE, zF, zG, zH, zI, zJ, zK, zL, zM, zN, zO, zP, zQ, zR, zS, zT, zU, zV, zW, zX, zY, zZ] at *; omega) | (exfalso; simp_all; done) | (exfalso; simp_all; omega) | (simp_all; done) | contradiction)
        · have h4q := h4
          try simp only [zA, zB, zC, zD, zE, zF, zG, zH, zI, zJ, zK, zL, zM, zN, zO, zP, zQ, zR, zS, zT, zU, zV, zW, zX, zY, zZ] at h4q
          refine Eq.trans (show nmb_t out left used done msg s = (.p (.int .i64 (↑(s.getD 1 0) : Int)), [some (.cells [.mptr 0 0, .nsl 1 out.length 1, .p (.lst left.length (List.map PV.str left)), .p (.bool used), .p (.bool done), .p (.str msg)] (.obj 41)), some (.bytes out 5)]) from (cond_t h1).trans ((cond_f h2).trans ((cond_t h3).trans ((cond_f h4).trans (rfl))))) ?_
          try unfold numV numM
          repeat' split
          all_goals (first | rfl | (exfalso; omega) | (simp only [zA, zB, zC, zD, zE, zF, zG, zH, zI, zJ, zK, zL, zM, zN, zO, zP, zQ, zR, zS, zT, zU, zV, zW, zX, zY, zZ] at *; omega) | (exfalso; simp_all; done) | (exfalso; simp_all; omega) | (simp_all; done) | contradiction)
      · have h3q := h3
        try simp only [zA, zB, zC, zD, zE, zF, zG, zH, zI, zJ, zK, zL, zM, zN, zO, zP, zQ, zR, zS, zT, zU, zV, zW, zX, zY, zZ] at h3q
        rcases Bool.eq_false_or_eq_true ((!intO s)) with h4 | h4
        · have h4q := h4
          try simp only [zA, zB, zC, zD, zE, zF, zG, zH, zI, zJ, zK, zL, zM, zN, zO, zP, zQ, zR, zS, zT, zU, zV, zW, zX, zY, zZ] at h4q
          refine Eq.trans (show nmb_t out left used done msg s = (.p (.int .i64 (intN s)), [some (.cells [.mptr 0 0, .nsl 1 out.length 1, .p (.lst left.length (List.map PV.str left)), .p (.bool used), .p (.bool done), .p (.str (compS msg (s ++ [58, 32, 110, 111, 116, 32, 97, 32, 110, 117, 109, 98, 101, 114])))] (.obj 41)), some (.bytes out 5)]) from (cond_t h1).trans ((cond_f h2).trans ((cond_f h3).trans ((cond_t h4).trans (rfl))))) ?_
          try unfold numV numM
          repeat' split
          all_goals (first | rfl | (exfalso; omega) | (simp only [zA, zB, zC, zD, zE, zF, zG, zH, zI, zJ, zK, zL, zM, zN, zO, zP, zQ, zR, zS, zT, zU, zV, zW, zX, zY, zZ] at *; omega) | (exfalso; simp_all; done) | (exfalso; simp_all; omega) | (simp_all; done) | contradiction)
        · have h4q := h4
          try simp only [zA, zB, zC, zD, zE, zF, zG, zH, zI, zJ, zK, zL, zM, zN, zO, zP, zQ, zR, zS, zT, zU, zV, zW, zX, zY, zZ] at h4q
          refine Eq.trans (show nmb_t out left used done msg s = (.p (.int .i64 (intN s)), [some (.cells [.mptr 0 0, .nsl 1 out.length 1, .p (.lst left.length (List.map PV.str left)), .p (.bool used), .p (.bool done), .p (.str msg)] (.obj 41)), some (.bytes out 5)]) from (cond_t h1).trans ((cond_f h2).trans ((cond_f h3).trans ((cond_f h4).trans (rfl))))) ?_
          try unfold numV numM
          repeat' split
          all_goals (first | rfl | (exfalso; omega) | (simp only [zA, zB, zC, zD, zE, zF, zG, zH, zI, zJ, zK, zL, zM, zN, zO, zP, zQ, zR, zS, zT, zU, zV, zW, zX, zY, zZ] at *; omega) | (exfalso; simp_all; done) | (exfalso; simp_all; omega) | (simp_all; done) | contradiction)
  · have h1q := h1
    try simp only [zA, zB, zC, zD, zE, zF, zG, zH, zI, zJ, zK, zL, zM, zN, zO, zP, zQ, zR, zS, zT, zU, zV, zW, zX, zY, zZ] at h1q
    rcases Bool.eq_false_or_eq_true ((!intO s)) with h2 | h2
    · have h2q := h2
      try simp only [zA, zB, zC, zD, zE, zF, zG, zH, zI, zJ, zK, zL, zM, zN, zO, zP, zQ, zR, zS, zT, zU, zV, zW, zX, zY, zZ] at h2q
      refine Eq.trans (show nmb_t out left used done msg s = (.p (.int .i64 (intN s)), [some (.cells [.mptr 0 0, .nsl 1 out.length 1, .p (.lst left.length (List.map PV.str left)), .p (.bool used), .p (.bool done), .p (.str (compS msg (s ++ [58, 32, 110, 111, 116, 32, 97, 32, 110, 117, 109, 98, 101, 114])))] (.obj 41)), some (.bytes out 5)]) from (cond_f h1).trans ((cond_t h2).trans (rfl))) ?_
      try unfold numV numM
      repeat' split
      all_goals (first | rfl | (exfalso; omega) | (simp only [zA, zB, zC, zD, zE, zF, zG, zH, zI, zJ, zK, zL, zM, zN, zO, zP, zQ, zR, zS, zT, zU, zV, zW, zX, zY, zZ] at *; omega) | (exfalso; simp_all; done) | (exfalso; simp_all; omega) | (simp_all; done) | contradiction)
    · have h2q := h2
      try simp only [zA, zB, zC, zD, zE, zF, zG, zH, zI, zJ, zK, zL, zM, zN, zO, zP, zQ, zR, zS, zT, zU, zV, zW, zX, zY, zZ] at h2q
      refine Eq.trans (show nmb_t out left used done msg s = (.p (.int .i64 (intN s)), [some (.cells [.mptr 0 0, .nsl 1 out.length 1, .p (.lst left.length (List.map PV.str left)), .p (.bool used), .p (.bool done), .p (.str msg)] (.obj 41)), some (.bytes out 5)]) from (cond_f h1).trans ((cond_f h2).trans (rfl))) ?_
      try unfold numV numM
      repeat' split
      all_goals (first | rfl | (exfalso; omega) | (simp only [zA, zB, zC, zD, zE, zF, zG, zH, zI, zJ, zK, zL, zM, zN, zO, zP, zQ, zR, zS, zT, zU, zV, zW, zX, zY, zZ] at *; omega) | (exfalso; simp_all; done) | (exfalso; simp_all; omega) | (simp_all; done) | contradiction)

theorem number_rc (hT : TabOk Pd Gd T) (st : PS) (s : List Nat) (hs : ∀ x ∈ s, x < 256) (hl : s.length ≤ 1000000000) : RC Pd Gd 40 [.ptr 0 0, .p (.str s)] (PH st) (.p (.int .i64 (numV s))) (PH { st with msg := numM st.msg s }) := by
  obtain ⟨out, left, used, done, msg⟩ := st
  have h := nmb_rc hT out left used done msg s hs hl
  rw [nmb_eq] at h
  exact h
def esc_t (s : List Nat) : EV × Heap :=
  bif decide ((↑s.length : Int) < 2) then
    (.tup [.p (.str s), .p (.int .i64 (↑s.length : Int))], [])
  else
    bif simB (s.getD 1 0) then
      (.tup [.p (.str (simT (s.getD 1 0))), .p (.int .i64 2)], [])
    else
      bif decide ((↑(octN 3 (List.drop 1 s)) : Int) > 0) then
        (.tup [.p (.str (codeS (List.drop 1 (List.take (1 + octN 3 (List.drop 1 s)) s)))), .p (.int .i64 (1 + (↑(octN 3 (List.drop 1 s)) : Int)))], [])
      else
        (.tup [.p (.str (List.take 1 s)), .p (.int .i64 1)], [])

set_option maxHeartbeats 0 in
set_option maxRecDepth 20000 in
theorem esc_rc (hT : TabOk Pd Gd T) (s : List Nat) (hs : ∀ x ∈ s, x < 256) (hl : s.length ≤ 1000000000) : RC Pd Gd 21 [.p (.str s)] [] (esc_t s).1 (esc_t s).2 := by
  have g1 := octN_le 3 (List.drop 1 s)
  rw [List.length_drop] at g1
  rcases Bool.eq_false_or_eq_true (decide ((↑s.length : Int) < 2)) with h1 | h1
  · have h1q := h1
    try simp only [zA, zB, zC, zD, zE, zF, zG, zH, zI, zJ, zK, zL, zM, zN, zO, zP, zQ, zR, zS, zT, zU, zV, zW, zX, zY, zZ] at h1q
    refine RC.tree (t := esc_t s) (r := .tup [.p (.str s), .p (.int .i64 (↑s.length : Int))]) (K := []) ((cond_t h1).trans (rfl)) (RC.retk (RC.of_runFn hT (esc_p1 (T := T) s) ?_) rfl)
    simp only [AllT]
    repeat' (first | exact trivial | assumption | exact rfl | apply And.intro)
    all_goals (first | assumption | exact simple_rc2 hT _ | exact octal_rc (G := Gd) hT _ 3 | exact code_rc (G := Gd) hT _ (oct_take s 1 _ rfl) (by rw [List.length_drop, List.length_take]; omega) | (simp only [zA, zB, zC, zD, zE, zF, zG, zH, zI, zJ, zK, zL, zM, zN, zO, zP, zQ, zR, zS, zT, zU, zV, zW, zX, zY, zZ]; omega) | (simp only [zA, zB, zC, zD, zE, zF, zG, zH, zI, zJ, zK, zL, zM, zN, zO, zP, zQ, zR, zS, zT, zU, zV, zW, zX, zY, zZ] at *; omega))
  · have h1q := h1
    try simp only [zA, zB, zC, zD, zE, zF, zG, zH, zI, zJ, zK, zL, zM, zN, zO, zP, zQ, zR, zS, zT, zU, zV, zW, zX, zY, zZ] at h1q
    rcases Bool.eq_false_or_eq_true (simB (s.getD 1 0)) with h2 | h2
    · have h2q := h2
      try simp only [zA, zB, zC, zD, zE, zF, zG, zH, zI, zJ, zK, zL, zM, zN, zO, zP, zQ, zR, zS, zT, zU, zV, zW, zX, zY, zZ] at h2q
      refine RC.tree (t := esc_t s) (r := .tup [.p (.str (simT (s.getD 1 0))), .p (.int .i64 2)]) (K := []) ((cond_f h1).trans ((cond_t h2).trans (rfl))) (RC.retk (RC.of_runFn hT (esc_p2 (T := T) s) ?_) rfl)
      simp only [AllT]
      repeat' (first | exact trivial | assumption | exact rfl | apply And.intro)
      all_goals (first | assumption | exact simple_rc2 hT _ | exact octal_rc (G := Gd) hT _ 3 | exact code_rc (G := Gd) hT _ (oct_take s 1 _ rfl) (by rw [List.length_drop, List.length_take]; omega) | (simp only [zA, zB, zC, zD, zE, zF, zG, zH, zI, zJ, zK, zL, zM, zN, zO, zP, zQ, zR, zS, zT, zU, zV, zW, zX, zY, zZ]; omega) | (simp only [zA, zB, zC, zD, zE, zF, zG, zH, zI, zJ, zK, zL, zM, zN, zO, zP, zQ, zR, zS, zT, zU, zV, zW, zX, zY, zZ] at *; omega))
    · have h2q := h2
      try simp only [zA, zB, zC, zD, zE, zF, zG, zH, zI, zJ, zK, zL, zM, zN, zO, zP, zQ, zR, zS, zT, zU, zV, zW, zX, zY, zZ] at h2q
      rcases Bool.eq_false_or_eq_true (decide ((↑(octN 3 (List.drop 1 s)) : Int) > 0)) with h3 | h3
      · have h3q := h3
        try simp only [zA, zB, zC, zD, zE, zF, zG, zH, zI, zJ, zK, zL, zM, zN, zO, zP, zQ, zR, zS, zT, zU, zV, zW, zX, zY, zZ] at h3q
        refine RC.tree (t := esc_t s) (r := .tup [.p (.str (codeS (List.drop 1 (List.take (1 + octN 3 (List.drop 1 s)) s)))), .p (.int .i64 (1 + (↑(octN 3 (List.drop 1 s)) : Int)))]) (K := []) ((cond_f h1).trans ((cond_f h2).trans ((cond_t h3).trans (rfl)))) (RC.retk (RC.of_runFn hT (esc_p3 (T := T) s) ?_) rfl)
        simp only [AllT]
        repeat' (first | exact trivial | assumption | exact rfl | apply And.intro)
        all_goals (first | assumption | exact simple_rc2 hT _ | exact octal_rc (G := Gd) hT _ 3 | exact code_rc (G := Gd) hT _ (oct_take s 1 _ rfl) (by rw [List.length_drop, List.length_take]; omega) | (simp only [zA, zB, zC, zD, zE, zF, zG, zH, zI, zJ, zK, zL, zM, zN, zO, zP, zQ, zR, zS, zT, zU, zV, zW, zX, zY, zZ]; omega) | (simp only [zA, zB, zC, zD, zE, zF, zG, zH, zI, zJ, zK, zL, zM, zN, zO, zP, zQ, zR, zS, zT, zU, zV, zW, zX, zY, zZ] at *; omega))
      · have h3q := h3
        try simp only [zA, zB, zC, zD, zE, zF, zG, zH, zI, zJ, zK, zL, zM, zN, zO, zP, zQ, zR, zS, zT, zU, zV, zW, zX, zY, zZ] at h3q
        refine RC.tree (t := esc_t s) (r := .tup [.p (.str (List.take 1 s)), .p (.int .i64 1)]) (K := []) ((cond_f h1).trans ((cond_f h2).trans ((cond_f h3).trans (rfl)))) (RC.retk (RC.of_runFn hT (esc_p4 (T := T) s) ?_) rfl)
        simp only [AllT]
        repeat' (first | exact trivial | assumption | exact rfl | apply And.intro)
        all_goals (first | assumption | exact simple_rc2 hT _ | exact octal_rc (G := Gd) hT _ 3 | exact code_rc (G := Gd) hT _ (oct_take s 1 _ rfl) (by rw [List.length_drop, List.length_take]; omega) | (simp only [zA, zB, zC, zD, zE, zF, zG, zH, zI, zJ, zK, zL, zM, zN, zO, zP, zQ, zR, zS, zT, zU, zV, zW, zX, zY, zZ]; omega) | (simp only [zA, zB, zC, zD, zE, zF, zG, zH, zI, zJ, zK, zL, zM, zN, zO, zP, zQ, zR, zS, zT, zU, zV, zW, zX, zY, zZ] at *; omega))
set_option maxHeartbeats 0 in
set_option maxRecDepth 20000 in
theorem esc_eq (s : List Nat)  : esc_t s = (.tup [.p (.str (escT s)), .p (.int .i64 (escN s : Nat))], []) := by
  rcases Bool.eq_false_or_eq_true (decide ((↑s.length : Int) < 2)) with h1 | h1
  · have h1q := h1
    try simp only [zA, zB, zC, zD, zE, zF, zG, zH, zI, zJ, zK, zL, zM, zN, zO, zP, zQ, zR, zS, zT, zU, zV, zW, zX, zY, zZ] at h1q
    refine Eq.trans (show esc_t s = (.tup [.p (.str s), .p (.int .i64 (↑s.length : Int))], []) from (cond_t h1).trans (rfl)) ?_
    try unfold escT escN
    repeat' split
    all_goals (first | rfl | (exfalso; omega) | (simp only [zA, zB, zC, zD, zE, zF, zG, zH, zI, zJ, zK, zL, zM, zN, zO, zP, zQ, zR, zS, zT, zU, zV, zW, zX, zY, zZ] at *; omega) | (exfalso; simp_all; done) | (exfalso; simp_all; omega) | (simp_all; done) | contradiction)
  · have h1q := h1
    try simp only [zA, zB, zC, zD, zE, zF, zG, zH, zI, zJ, zK, zL, zM, zN, zO, zP, zQ, zR, zS, zT, zU, zV, zW, zX, zY, zZ] at h1q
    rcases Bool.eq_false_or_eq_true (simB (s.getD 1 0)) with h2 | h2
    · have h2q := h2
      try simp only [zA, zB, zC, zD, zE, zF, zG, zH, zI, zJ, zK, zL, zM, zN, zO, zP, zQ, zR, zS, zT, zU, zV, zW, zX, zY, zZ] at h2q
      refine Eq.trans (show esc_t s = (.tup [.p (.str (simT (s.getD 1 0))), .p (.int .i64 2)], []) from (cond_f h1).trans ((cond_t h2).trans (rfl))) ?_
      try unfold escT escN
      repeat' split
      all_goals (first | rfl | (exfalso; omega) | (simp only [zA, zB, zC, zD, zE, zF, zG, zH, zI, zJ, zK, zL, zM, zN, zO, zP, zQ, zR, zS, zT, zU, zV, zW, zX, zY, zZ] at *; omega) | (exfalso; simp_all; done) | (exfalso; simp_all; omega) | (simp_all; done) | contradiction)
    · have h2q := h2
      try simp only [zA, zB, zC, zD, zE, zF, zG, zH, zI, zJ, zK, zL, zM, zN, zO, zP, zQ, zR, zS, zT, zU, zV, zW, zX, zY, zZ] at h2q
      rcases Bool.eq_false_or_eq_true (decide ((↑(octN 3 (List.drop 1 s)) : Int) > 0)) with h3 | h3
      · have h3q := h3
        try simp only [zA, zB, zC, zD, zE, zF, zG, zH, zI, zJ, zK, zL, zM, zN, zO, zP, zQ, zR, zS, zT, zU, zV, zW, zX, zY, zZ] at h3q
        refine Eq.trans (show esc_t s = (.tup [.p (.str (codeS (List.drop 1 (List.take (1 + octN 3 (List.drop 1 s)) s)))), .p (.int .i64 (1 + (↑(octN 3 (List.drop 1 s)) : Int)))], []) from (cond_f h1).trans ((cond_f h2).trans ((cond_t h3).trans (rfl)))) ?_
        try unfold escT escN
        repeat' split
        all_goals (first | rfl | (exfalso; omega) | (simp only [zA, zB, zC, zD, zE, zF, zG, zH, zI, zJ, zK, zL, zM, zN, zO, zP, zQ, zR, zS, zT, zU, zV, zW, zX, zY, zZ] at *; omega) | (exfalso; simp_all; done) | (exfalso; simp_all; omega) | (simp_all; done) | contradiction)
      · have h3q := h3
        try simp only [zA, zB, zC, zD, zE, zF, zG, zH, zI, zJ, zK, zL, zM, zN, zO, zP, zQ, zR, zS, zT, zU, zV, zW, zX, zY, zZ] at h3q
        refine Eq.trans (show esc_t s = (.tup [.p (.str (List.take 1 s)), .p (.int .i64 1)], []) from (cond_f h1).trans ((cond_f h2).trans ((cond_f h3).trans (rfl)))) ?_
        try unfold escT escN
        repeat' split
        all_goals (first | rfl | (exfalso; omega) | (simp only [zA, zB, zC, zD, zE, zF, zG, zH, zI, zJ, zK, zL, zM, zN, zO, zP, zQ, zR, zS, zT, zU, zV, zW, zX, zY, zZ] at *; omega) | (exfalso; simp_all; done) | (exfalso; simp_all; omega) | (simp_all; done) | contradiction)

theorem escape_rc (hT : TabOk Pd Gd T) (s : List Nat) (hs : ∀ x ∈ s, x < 256) (hl : s.length ≤ 1000000000) : RC Pd Gd 21 [.p (.str s)] [] (.tup [.p (.str (escT s)), .p (.int .i64 (escN s : Nat))]) [] := by
  have h := esc_rc hT s hs hl
  rw [esc_eq] at h
  exact h

theorem wb_rc (hT : TabOk Pd Gd T) (out : List Nat) (c : Nat) (hc : c < 256) (hl : out.length ≤ 1000000000) : RC Pd Gd 46 [.ptr 0 0, .p (.int .u8 (c : Nat))] (bldM out) (.p .nili) (bldM2 (out ++ [c])) := by
  refine RC.may (i := 0) (off := 0) (j := 0) (jo := 0) rfl rfl ?_ ?_
  · refine RC.of_run hT (wbn_p1 (T := T) out c) ?_
    simp only [AllT]
    repeat' (first | exact trivial | exact isExt42 | apply And.intro)
    all_goals (first | (simp; done) | (simp; omega))
  · refine RC.of_run hT (wbp_p1 (T := T) out c) ?_
    simp only [AllT]
    repeat' (first | exact trivial | exact isExt42 | apply And.intro)
    all_goals (first | (simp; done) | (simp; omega))

theorem ws_rc (hT : TabOk Pd Gd T) (out x : List Nat) (hc : x.length ≤ 1000000000) (hl : out.length ≤ 1000000000) : RC Pd Gd 20 [.ptr 0 0, .p (.str x)] (bldM out) (.tup [.p (.int .i64 (x.length : Nat)), .p .nili]) (bldM2 (out ++ x)) := by
  refine RC.may (i := 0) (off := 0) (j := 0) (jo := 0) rfl rfl ?_ ?_
  · refine RC.of_run hT (wsn_p1 (T := T) out x) ?_
    simp only [AllT]
    repeat' (first | exact trivial | exact isExt42 | apply And.intro)
    all_goals (first | (simp; done) | (simp; omega))
  · refine RC.of_run hT (wsp_p1 (T := T) out x) ?_
    simp only [AllT]
    repeat' (first | exact trivial | exact isExt42 | apply And.intro)
    all_goals (first | (simp; done) | (simp; omega))

theorem bst_rc (hT : TabOk Pd Gd T) (out : List Nat) (hl : out.length ≤ 1000000000) : RC Pd Gd 16 [.ptr 0 0] (bldM out) (.p (.str out)) (bldM out) := by
  refine RC.of_runFn hT (bst_p1 (T := T) out) ?_
  simp only [AllT]
  repeat' (first | exact trivial | apply And.intro)
  all_goals (first | (simp; done) | (simp; omega))
end
end Go.Vc

/- VeEsd -/
namespace Go.Vc
open Go.Sort
set_option linter.unusedVariables false
set_option linter.unusedSimpArgs false

theorem simT_len (c : Nat) : (simT c).length ≤ 1 := by
  unfold simT simpS
  repeat' split
  all_goals simp
theorem esdF_len : ∀ (k : Nat) (s out : List Nat), (esdF k s out).1.length ≤ out.length + k := by
  intro k
  induction k with
  | zero => intro s out; simp [esdF]
  | succ k ih =>
    intro s out
    unfold esdF
    have hs := simT_len (s.getD 1 0)
    have hc : ∀ x : List Nat, (codeS x).length = 1 := fun x => rfl
    repeat' split
    all_goals first
      | (simp; done)
      | (simp; omega)
      | (refine Nat.le_trans (ih _ _) ?_; simp only [List.length_append, List.length_cons, List.length_nil, hc]; omega)

section
variable {T : Tab}

theorem esdL_l1 (s out : List Nat) : runC Pd Gd T 100000 false [.br true, .br true, .callv (.p .nili) [some (.cells [.mptr 0 0, .nsl 2 (out ++ [s.getD 0 0]).length 1] (.obj 39)), none, some (.bytes (out ++ [s.getD 0 0]) 5)]] 60 0 [(0, .p (.str s)), (2, .p (.str [])), (3, .kb false), (4, .ptr 0 0)] [some (.cells [.mptr 0 0, .nsl 1 out.length 1] (.obj 39)), some (.bytes out 5)] (loopAt Pd 38 0) [0, 2, 3, 4] [] [0, 2] = some ([(true && decide (1 ≤ (↑s.length : Int))) = true, RC Pd Gd 46 [.ptr 0 0, .p (.int .u8 (↑(s.getD 0 0) : Int))] [some (.cells [.mptr 0 0, .nsl 1 out.length 1] (.obj 39)), some (.bytes out 5)] (.p .nili) [some (.cells [.mptr 0 0, .nsl 2 (out ++ [s.getD 0 0]).length 1] (.obj 39)), none, some (.bytes (out ++ [s.getD 0 0]) 5)], (true && decide (0 < (↑s.length : Int))) = true, ((↑(s.getD 0 0) : Int) != 92) = true, (true && decide (0 < (↑s.length : Int))) = true, (!s == []) = true], .normal, [(0, .p (.str (List.drop 1 s))), (2, .p (.str [])), (3, .kb false), (4, .ptr 0 0)], [some (.cells [.mptr 0 0, .nsl 1 (out ++ [s.getD 0 0]).length 1] (.obj 39)), some (.bytes (out ++ [s.getD 0 0]) 5)]) := by kernel_rfl
theorem esdL_l2 (s out : List Nat) : runC Pd Gd T 100000 false [.br true, .br false, .br true, .callv (.p .nili) [some (.cells [.mptr 0 0, .nsl 2 (out ++ [s.getD 0 0]).length 1] (.obj 39)), none, some (.bytes (out ++ [s.getD 0 0]) 5)]] 60 0 [(0, .p (.str s)), (2, .p (.str [])), (3, .kb false), (4, .ptr 0 0)] [some (.cells [.mptr 0 0, .nsl 1 out.length 1] (.obj 39)), some (.bytes out 5)] (loopAt Pd 38 0) [0, 2, 3, 4] [] [0, 2] = some ([(true && decide (1 ≤ (↑s.length : Int))) = true, RC Pd Gd 46 [.ptr 0 0, .p (.int .u8 (↑(s.getD 0 0) : Int))] [some (.cells [.mptr 0 0, .nsl 1 out.length 1] (.obj 39)), some (.bytes out 5)] (.p .nili) [some (.cells [.mptr 0 0, .nsl 2 (out ++ [s.getD 0 0]).length 1] (.obj 39)), none, some (.bytes (out ++ [s.getD 0 0]) 5)], (true && decide (0 < (↑s.length : Int))) = true, ((↑s.length : Int) == 1) = true, ((↑(s.getD 0 0) : Int) != 92) = false, (true && decide (0 < (↑s.length : Int))) = true, (!s == []) = true], .normal, [(0, .p (.str (List.drop 1 s))), (2, .p (.str [])), (3, .kb false), (4, .ptr 0 0)], [some (.cells [.mptr 0 0, .nsl 1 (out ++ [s.getD 0 0]).length 1] (.obj 39)), some (.bytes (out ++ [s.getD 0 0]) 5)]) := by kernel_rfl
theorem esdL_l3 (s out : List Nat) : runC Pd Gd T 100000 false [.br true, .br false, .br false, .br true, .callv (.p (.str out)) [some (.cells [.mptr 0 0, .nsl 1 out.length 1] (.obj 39)), some (.bytes out 5)]] 60 0 [(0, .p (.str s)), (2, .p (.str [])), (3, .kb false), (4, .ptr 0 0)] [some (.cells [.mptr 0 0, .nsl 1 out.length 1] (.obj 39)), some (.bytes out 5)] (loopAt Pd 38 0) [0, 2, 3, 4] [] [0, 1] = some ([RC Pd Gd 16 [.ptr 0 0] [some (.cells [.mptr 0 0, .nsl 1 out.length 1] (.obj 39)), some (.bytes out 5)] (.p (.str out)) [some (.cells [.mptr 0 0, .nsl 1 out.length 1] (.obj 39)), some (.bytes out 5)], ((↑(s.getD 1 0) : Int) == 99) = true, (true && decide (1 < (↑s.length : Int))) = true, ((↑s.length : Int) == 1) = false, ((↑(s.getD 0 0) : Int) != 92) = false, (true && decide (0 < (↑s.length : Int))) = true, (!s == []) = true], .ret, [(0, .p (.str s)), (2, .p (.str out)), (3, .kb true), (4, .ptr 0 0)], [some (.cells [.mptr 0 0, .nsl 1 out.length 1] (.obj 39)), some (.bytes out 5)]) := by kernel_rfl
theorem esdL_l4 (s out : List Nat) : runC Pd Gd T 100000 false [.br true, .br false, .br false, .br false, .br true, .callv (.p (.int .i64 (↑(octN 3 (List.drop 2 s)) : Int))) [], .callv (.p (.str (codeS (List.drop 2 (List.take (2 + octN 3 (List.drop 2 s)) s))))) [], .callv (.tup [.p (.int .i64 1), .p .nili]) [some (.cells [.mptr 0 0, .nsl 2 (out ++ codeS (List.drop 2 (List.take (2 + octN 3 (List.drop 2 s)) s))).length 1] (.obj 39)), none, some (.bytes (out ++ codeS (List.drop 2 (List.take (2 + octN 3 (List.drop 2 s)) s))) 5)]] 60 0 [(0, .p (.str s)), (2, .p (.str [])), (3, .kb false), (4, .ptr 0 0)] [some (.cells [.mptr 0 0, .nsl 1 out.length 1] (.obj 39)), some (.bytes out 5)] (loopAt Pd 38 0) [0, 2, 3, 4] [] [0, 2] = some ([(true && decide (2 + (↑(octN 3 (List.drop 2 s)) : Int) ≤ (↑s.length : Int))) = true, fitsK .i64 (2 + (↑(octN 3 (List.drop 2 s)) : Int)) = true, RC Pd Gd 20 [.ptr 0 0, .p (.str (codeS (List.drop 2 (List.take (2 + octN 3 (List.drop 2 s)) s))))] [some (.cells [.mptr 0 0, .nsl 1 out.length 1] (.obj 39)), some (.bytes out 5)] (.tup [.p (.int .i64 1), .p .nili]) [some (.cells [.mptr 0 0, .nsl 2 (out ++ codeS (List.drop 2 (List.take (2 + octN 3 (List.drop 2 s)) s))).length 1] (.obj 39)), none, some (.bytes (out ++ codeS (List.drop 2 (List.take (2 + octN 3 (List.drop 2 s)) s))) 5)], RC Pd Gd 31 [.p (.str (List.drop 2 (List.take (2 + octN 3 (List.drop 2 s)) s)))] [] (.p (.str (codeS (List.drop 2 (List.take (2 + octN 3 (List.drop 2 s)) s))))) [], (true && decide (2 ≤ 2 + (↑(octN 3 (List.drop 2 s)) : Int)) && decide (2 + (↑(octN 3 (List.drop 2 s)) : Int) ≤ (↑s.length : Int))) = true, fitsK .i64 (2 + (↑(octN 3 (List.drop 2 s)) : Int)) = true, RC Pd Gd 30 [.p (.str (List.drop 2 s)), .p (.int .i64 3)] [] (.p (.int .i64 (↑(octN 3 (List.drop 2 s)) : Int))) [], (true && decide (2 ≤ (↑s.length : Int))) = true, ((↑(s.getD 1 0) : Int) == 48) = true, (true && decide (1 < (↑s.length : Int))) = true, ((↑(s.getD 1 0) : Int) == 99) = false, (true && decide (1 < (↑s.length : Int))) = true, ((↑s.length : Int) == 1) = false, ((↑(s.getD 0 0) : Int) != 92) = false, (true && decide (0 < (↑s.length : Int))) = true, (!s == []) = true], .normal, [(0, .p (.str (List.drop (2 + octN 3 (List.drop 2 s)) s))), (2, .p (.str [])), (3, .kb false), (4, .ptr 0 0)], [some (.cells [.mptr 0 0, .nsl 1 (out ++ codeS (List.drop 2 (List.take (2 + octN 3 (List.drop 2 s)) s))).length 1] (.obj 39)), some (.bytes (out ++ codeS (List.drop 2 (List.take (2 + octN 3 (List.drop 2 s)) s))) 5)]) := by kernel_rfl
theorem esdL_l5 (s out : List Nat) : runC Pd Gd T 100000 false [.br true, .br false, .br false, .br false, .br false, .callv (.tup [.p (.str (simT (s.getD 1 0))), .p (.bool (simB (s.getD 1 0)))]) [], .br true, .callv (.tup [.p (.int .i64 (↑(simT (s.getD 1 0)).length : Int)), .p .nili]) [some (.cells [.mptr 0 0, .nsl 2 (out ++ simT (s.getD 1 0)).length 1] (.obj 39)), none, some (.bytes (out ++ simT (s.getD 1 0)) 5)]] 60 0 [(0, .p (.str s)), (2, .p (.str [])), (3, .kb false), (4, .ptr 0 0)] [some (.cells [.mptr 0 0, .nsl 1 out.length 1] (.obj 39)), some (.bytes out 5)] (loopAt Pd 38 0) [0, 2, 3, 4] [] [0, 2] = some ([(true && decide (2 ≤ (↑s.length : Int))) = true, RC Pd Gd 20 [.ptr 0 0, .p (.str (simT (s.getD 1 0)))] [some (.cells [.mptr 0 0, .nsl 1 out.length 1] (.obj 39)), some (.bytes out 5)] (.tup [.p (.int .i64 (↑(simT (s.getD 1 0)).length : Int)), .p .nili]) [some (.cells [.mptr 0 0, .nsl 2 (out ++ simT (s.getD 1 0)).length 1] (.obj 39)), none, some (.bytes (out ++ simT (s.getD 1 0)) 5)], simB (s.getD 1 0) = true, RC Pd Gd 29 [.p (.int .u8 (↑(s.getD 1 0) : Int))] [] (.tup [.p (.str (simT (s.getD 1 0))), .p (.bool (simB (s.getD 1 0)))]) [], (true && decide (1 < (↑s.length : Int))) = true, ((↑(s.getD 1 0) : Int) == 48) = false, (true && decide (1 < (↑s.length : Int))) = true, ((↑(s.getD 1 0) : Int) == 99) = false, (true && decide (1 < (↑s.length : Int))) = true, ((↑s.length : Int) == 1) = false, ((↑(s.getD 0 0) : Int) != 92) = false, (true && decide (0 < (↑s.length : Int))) = true, (!s == []) = true], .normal, [(0, .p (.str (List.drop 2 s))), (2, .p (.str [])), (3, .kb false), (4, .ptr 0 0)], [some (.cells [.mptr 0 0, .nsl 1 (out ++ simT (s.getD 1 0)).length 1] (.obj 39)), some (.bytes (out ++ simT (s.getD 1 0)) 5)]) := by kernel_rfl
theorem esdL_l6 (s out : List Nat) : runC Pd Gd T 100000 false [.br true, .br false, .br false, .br false, .br false, .callv (.tup [.p (.str (simT (s.getD 1 0))), .p (.bool (simB (s.getD 1 0)))]) [], .br false, .callv (.p .nili) [some (.cells [.mptr 0 0, .nsl 2 (out ++ [s.getD 0 0]).length 1] (.obj 39)), none, some (.bytes (out ++ [s.getD 0 0]) 5)]] 60 0 [(0, .p (.str s)), (2, .p (.str [])), (3, .kb false), (4, .ptr 0 0)] [some (.cells [.mptr 0 0, .nsl 1 out.length 1] (.obj 39)), some (.bytes out 5)] (loopAt Pd 38 0) [0, 2, 3, 4] [] [0, 2] = some ([(true && decide (1 ≤ (↑s.length : Int))) = true, RC Pd Gd 46 [.ptr 0 0, .p (.int .u8 (↑(s.getD 0 0) : Int))] [some (.cells [.mptr 0 0, .nsl 1 out.length 1] (.obj 39)), some (.bytes out 5)] (.p .nili) [some (.cells [.mptr 0 0, .nsl 2 (out ++ [s.getD 0 0]).length 1] (.obj 39)), none, some (.bytes (out ++ [s.getD 0 0]) 5)], (true && decide (0 < (↑s.length : Int))) = true, simB (s.getD 1 0) = false, RC Pd Gd 29 [.p (.int .u8 (↑(s.getD 1 0) : Int))] [] (.tup [.p (.str (simT (s.getD 1 0))), .p (.bool (simB (s.getD 1 0)))]) [], (true && decide (1 < (↑s.length : Int))) = true, ((↑(s.getD 1 0) : Int) == 48) = false, (true && decide (1 < (↑s.length : Int))) = true, ((↑(s.getD 1 0) : Int) == 99) = false, (true && decide (1 < (↑s.length : Int))) = true, ((↑s.length : Int) == 1) = false, ((↑(s.getD 0 0) : Int) != 92) = false, (true && decide (0 < (↑s.length : Int))) = true, (!s == []) = true], .normal, [(0, .p (.str (List.drop 1 s))), (2, .p (.str [])), (3, .kb false), (4, .ptr 0 0)], [some (.cells [.mptr 0 0, .nsl 1 (out ++ [s.getD 0 0]).length 1] (.obj 39)), some (.bytes (out ++ [s.getD 0 0]) 5)]) := by kernel_rfl
theorem esdL_l7 (s out : List Nat) : runC Pd Gd T 100000 false [.br false] 60 0 [(0, .p (.str s)), (2, .p (.str [])), (3, .kb false), (4, .ptr 0 0)] [some (.cells [.mptr 0 0, .nsl 1 out.length 1] (.obj 39)), some (.bytes out 5)] (loopAt Pd 38 0) [0, 2, 3, 4] [] [0, 1] = some ([(!s == []) = false], .exit 0, [(0, .p (.str s)), (2, .p (.str [])), (3, .kb false), (4, .ptr 0 0)], [some (.cells [.mptr 0 0, .nsl 1 out.length 1] (.obj 39)), some (.bytes out 5)]) := by kernel_rfl
theorem esdW_p1 (s s1 out : List Nat) : runW Pd Gd T 100000 false [.tr 999999 (Tr.nil 0 1 5), .tr 999999 (Tr.may 0 0 0 0), .tr 999999 (Tr.weak [0, 2, 3, 4] [] [0, 1]), .code (.exit 0) [(0, .p (.str s1)), (2, .p (.str [])), (3, .kb false), (4, .ptr 0 0)] [some (.cells [.mptr 0 0, .nsl 1 out.length 1] (.obj 39)), some (.bytes out 5)], .callv (.p (.str out)) [some (.cells [.mptr 0 0, .nsl 1 out.length 1] (.obj 39)), some (.bytes out 5)]] [] [] 38 [.p (.str s)] [] = some ([RC Pd Gd 16 [.ptr 0 0] [some (.cells [.mptr 0 0, .nsl 1 out.length 1] (.obj 39)), some (.bytes out 5)] (.p (.str out)) [some (.cells [.mptr 0 0, .nsl 1 out.length 1] (.obj 39)), some (.bytes out 5)], LC Pd Gd 60 0 [(0, .p (.str s)), (2, .p (.str [])), (3, .kb false), (4, .ptr 0 0)] [some (.cells [.mptr 0 0, .nsl 1 0 1] (.obj 39)), some (.bytes [] 5)] (loopAt Pd 38 0) (.exit 0) [(0, .p (.str s1)), (2, .p (.str [])), (3, .kb false), (4, .ptr 0 0)] [some (.cells [.mptr 0 0, .nsl 1 out.length 1] (.obj 39)), some (.bytes out 5)]], .tup [.p (.str out), .kb false], []) := by kernel_rfl
theorem esdR_p1 (s s1 out : List Nat) : runW Pd Gd T 100000 false [.tr 999999 (Tr.nil 0 1 5), .tr 999999 (Tr.may 0 0 0 0), .tr 999999 (Tr.weak [0, 2, 3, 4] [] [0, 1]), .code .ret [(0, .p (.str s1)), (2, .p (.str out)), (3, .kb true), (4, .ptr 0 0)] [some (.cells [.mptr 0 0, .nsl 1 out.length 1] (.obj 39)), some (.bytes out 5)]] [] [] 38 [.p (.str s)] [] = some ([LC Pd Gd 60 0 [(0, .p (.str s)), (2, .p (.str [])), (3, .kb false), (4, .ptr 0 0)] [some (.cells [.mptr 0 0, .nsl 1 0 1] (.obj 39)), some (.bytes [] 5)] (loopAt Pd 38 0) .ret [(0, .p (.str s1)), (2, .p (.str out)), (3, .kb true), (4, .ptr 0 0)] [some (.cells [.mptr 0 0, .nsl 1 out.length 1] (.obj 39)), some (.bytes out 5)]], .tup [.p (.str out), .kb true], []) := by kernel_rfl
set_option maxHeartbeats 0 in
set_option maxRecDepth 20000 in
theorem esdL_l1_ok (hT : TabOk Pd Gd T) (s out : List Nat) (hs : ∀ x ∈ s, x < 256) (hl : s.length ≤ 1000000) (ho : out.length ≤ 1000000) (h1 : ((!s == [])) = true) (h2 : (((↑(s.getD 0 0) : Int) != 92)) = true) {e : Ex} {fr1 : Fr} {H1 : Heap} (hK : LC Pd Gd 60 0 [(0, .p (.str (List.drop 1 s))), (2, .p (.str [])), (3, .kb false), (4, .ptr 0 0)] [some (.cells [.mptr 0 0, .nsl 1 (out ++ [s.getD 0 0]).length 1] (.obj 39)), some (.bytes (out ++ [s.getD 0 0]) 5)] (loopAt Pd 38 0) e fr1 H1) : LC Pd Gd 60 0 [(0, .p (.str s)), (2, .p (.str [])), (3, .kb false), (4, .ptr 0 0)] [some (.cells [.mptr 0 0, .nsl 1 out.length 1] (.obj 39)), some (.bytes out 5)] (loopAt Pd 38 0) e fr1 H1 := by
  have h1q := h1
  try simp only [zA, zB, zC, zD, zE, zF, zG, zH, zI, zJ, zK, zL, zM, zN, zO, zP, zQ, zR, zS, zT, zU, zV, zW, zX, zY, zZ] at h1q
  have h2q := h2
  try simp only [zA, zB, zC, zD, zE, zF, zG, zH, zI, zJ, zK, zL, zM, zN, zO, zP, zQ, zR, zS, zT, zU, zV, zW, zX, zY, zZ] at h2q
  have g1 := octN_le 3 (List.drop 2 s)
  rw [List.length_drop] at g1
  have g2 := simT_len (s.getD 1 0)
  have g3 := getD_lt hs 0
  refine LC.go hT (esdL_l1 (T := T) s out) ?_ hK
  simp only [AllT]
  repeat' (first | exact trivial | assumption | exact rfl | apply And.intro)
  all_goals (first | assumption | exact wb_rc hT _ _ g3 (by omega) | exact ws_rc hT _ _ (by first | omega | (show 1 ≤ _; omega)) (by omega) | exact simple_rc2 hT _ | exact octal_rc (G := Gd) hT _ 3 | exact code_rc (G := Gd) hT _ (oct_take s 2 _ rfl) (by rw [List.length_drop, List.length_take]; omega) | exact bst_rc hT _ (by omega) | (simp only [zA, zB, zC, zD, zE, zF, zG, zH, zI, zJ, zK, zL, zM, zN, zO, zP, zQ, zR, zS, zT, zU, zV, zW, zX, zY, zZ]; omega) | (simp only [zA, zB, zC, zD, zE, zF, zG, zH, zI, zJ, zK, zL, zM, zN, zO, zP, zQ, zR, zS, zT, zU, zV, zW, zX, zY, zZ] at *; omega))

set_option maxHeartbeats 0 in
set_option maxRecDepth 20000 in
theorem esdL_l2_ok (hT : TabOk Pd Gd T) (s out : List Nat) (hs : ∀ x ∈ s, x < 256) (hl : s.length ≤ 1000000) (ho : out.length ≤ 1000000) (h1 : ((!s == [])) = true) (h2 : (((↑(s.getD 0 0) : Int) != 92)) = false) (h3 : (((↑s.length : Int) == 1)) = true) {e : Ex} {fr1 : Fr} {H1 : Heap} (hK : LC Pd Gd 60 0 [(0, .p (.str (List.drop 1 s))), (2, .p (.str [])), (3, .kb false), (4, .ptr 0 0)] [some (.cells [.mptr 0 0, .nsl 1 (out ++ [s.getD 0 0]).length 1] (.obj 39)), some (.bytes (out ++ [s.getD 0 0]) 5)] (loopAt Pd 38 0) e fr1 H1) : LC Pd Gd 60 0 [(0, .p (.str s)), (2, .p (.str [])), (3, .kb false), (4, .ptr 0 0)] [some (.cells [.mptr 0 0, .nsl 1 out.length 1] (.obj 39)), some (.bytes out 5)] (loopAt Pd 38 0) e fr1 H1 := by
  have h1q := h1
  try simp only [zA, zB, zC, zD, zE, zF, zG, zH, zI, zJ, zK, zL, zM, zN, zO, zP, zQ, zR, zS, zT, zU, zV, zW, zX, zY, zZ] at h1q
  have h2q := h2
  try simp only [zA, zB, zC, zD, zE, zF, zG, zH, zI, zJ, zK, zL, zM, zN, zO, zP, zQ, zR, zS, zT, zU, zV, zW, zX, zY, zZ] at h2q
  have h3q := h3
  try simp only [zA, zB, zC, zD, zE, zF, zG, zH, zI, zJ, zK, zL, zM, zN, zO, zP, zQ, zR, zS, zT, zU, zV, zW, zX, zY, zZ] at h3q
  have g1 := octN_le 3 (List.drop 2 s)
  rw [List.length_drop] at g1
  have g2 := simT_len (s.getD 1 0)
  have g3 := getD_lt hs 0
  refine LC.go hT (esdL_l2 (T := T) s out) ?_ hK
  simp only [AllT]
  repeat' (first | exact trivial | assumption | exact rfl | apply And.intro)
  all_goals (first | assumption | exact wb_rc hT _ _ g3 (by omega) | exact ws_rc hT _ _ (by first | omega | (show 1 ≤ _; omega)) (by omega) | exact simple_rc2 hT _ | exact octal_rc (G := Gd) hT _ 3 | exact code_rc (G := Gd) hT _ (oct_take s 2 _ rfl) (by rw [List.length_drop, List.length_take]; omega) | exact bst_rc hT _ (by omega) | (simp only [zA, zB, zC, zD, zE, zF, zG, zH, zI, zJ, zK, zL, zM, zN, zO, zP, zQ, zR, zS, zT, zU, zV, zW, zX, zY, zZ]; omega) | (simp only [zA, zB, zC, zD, zE, zF, zG, zH, zI, zJ, zK, zL, zM, zN, zO, zP, zQ, zR, zS, zT, zU, zV, zW, zX, zY, zZ] at *; omega))

set_option maxHeartbeats 0 in
set_option maxRecDepth 20000 in
theorem esdL_l3_ok (hT : TabOk Pd Gd T) (s out : List Nat) (hs : ∀ x ∈ s, x < 256) (hl : s.length ≤ 1000000) (ho : out.length ≤ 1000000) (h1 : ((!s == [])) = true) (h2 : (((↑(s.getD 0 0) : Int) != 92)) = false) (h3 : (((↑s.length : Int) == 1)) = false) (h4 : (((↑(s.getD 1 0) : Int) == 99)) = true) : LC Pd Gd 60 0 [(0, .p (.str s)), (2, .p (.str [])), (3, .kb false), (4, .ptr 0 0)] [some (.cells [.mptr 0 0, .nsl 1 out.length 1] (.obj 39)), some (.bytes out 5)] (loopAt Pd 38 0) .ret [(0, .p (.str s)), (2, .p (.str out)), (3, .kb true), (4, .ptr 0 0)] [some (.cells [.mptr 0 0, .nsl 1 out.length 1] (.obj 39)), some (.bytes out 5)] := by
  have h1q := h1
  try simp only [zA, zB, zC, zD, zE, zF, zG, zH, zI, zJ, zK, zL, zM, zN, zO, zP, zQ, zR, zS, zT, zU, zV, zW, zX, zY, zZ] at h1q
  have h2q := h2
  try simp only [zA, zB, zC, zD, zE, zF, zG, zH, zI, zJ, zK, zL, zM, zN, zO, zP, zQ, zR, zS, zT, zU, zV, zW, zX, zY, zZ] at h2q
  have h3q := h3
  try simp only [zA, zB, zC, zD, zE, zF, zG, zH, zI, zJ, zK, zL, zM, zN, zO, zP, zQ, zR, zS, zT, zU, zV, zW, zX, zY, zZ] at h3q
  have h4q := h4
  try simp only [zA, zB, zC, zD, zE, zF, zG, zH, zI, zJ, zK, zL, zM, zN, zO, zP, zQ, zR, zS, zT, zU, zV, zW, zX, zY, zZ] at h4q
  have g1 := octN_le 3 (List.drop 2 s)
  rw [List.length_drop] at g1
  have g2 := simT_len (s.getD 1 0)
  have g3 := getD_lt hs 0
  refine LC.leave hT (esdL_l3 (T := T) s out) ?_ (by simp)
  simp only [AllT]
  repeat' (first | exact trivial | assumption | exact rfl | apply And.intro)
  all_goals (first | assumption | exact wb_rc hT _ _ g3 (by omega) | exact ws_rc hT _ _ (by first | omega | (show 1 ≤ _; omega)) (by omega) | exact simple_rc2 hT _ | exact octal_rc (G := Gd) hT _ 3 | exact code_rc (G := Gd) hT _ (oct_take s 2 _ rfl) (by rw [List.length_drop, List.length_take]; omega) | exact bst_rc hT _ (by omega) | (simp only [zA, zB, zC, zD, zE, zF, zG, zH, zI, zJ, zK, zL, zM, zN, zO, zP, zQ, zR, zS, zT, zU, zV, zW, zX, zY, zZ]; omega) | (simp only [zA, zB, zC, zD, zE, zF, zG, zH, zI, zJ, zK, zL, zM, zN, zO, zP, zQ, zR, zS, zT, zU, zV, zW, zX, zY, zZ] at *; omega))

set_option maxHeartbeats 0 in
set_option maxRecDepth 20000 in
theorem esdL_l4_ok (hT : TabOk Pd Gd T) (s out : List Nat) (hs : ∀ x ∈ s, x < 256) (hl : s.length ≤ 1000000) (ho : out.length ≤ 1000000) (h1 : ((!s == [])) = true) (h2 : (((↑(s.getD 0 0) : Int) != 92)) = false) (h3 : (((↑s.length : Int) == 1)) = false) (h4 : (((↑(s.getD 1 0) : Int) == 99)) = false) (h5 : (((↑(s.getD 1 0) : Int) == 48)) = true) {e : Ex} {fr1 : Fr} {H1 : Heap} (hK : LC Pd Gd 60 0 [(0, .p (.str (List.drop (2 + octN 3 (List.drop 2 s)) s))), (2, .p (.str [])), (3, .kb false), (4, .ptr 0 0)] [some (.cells [.mptr 0 0, .nsl 1 (out ++ codeS (List.drop 2 (List.take (2 + octN 3 (List.drop 2 s)) s))).length 1] (.obj 39)), some (.bytes (out ++ codeS (List.drop 2 (List.take (2 + octN 3 (List.drop 2 s)) s))) 5)] (loopAt Pd 38 0) e fr1 H1) : LC Pd Gd 60 0 [(0, .p (.str s)), (2, .p (.str [])), (3, .kb false), (4, .ptr 0 0)] [some (.cells [.mptr 0 0, .nsl 1 out.length 1] (.obj 39)), some (.bytes out 5)] (loopAt Pd 38 0) e fr1 H1 := by
  have h1q := h1
  try simp only [zA, zB, zC, zD, zE, zF, zG, zH, zI, zJ, zK, zL, zM, zN, zO, zP, zQ, zR, zS, zT, zU, zV, zW, zX, zY, zZ] at h1q
  have h2q := h2
  try simp only [zA, zB, zC, zD, zE, zF, zG, zH, zI, zJ, zK, zL, zM, zN, zO, zP, zQ, zR, zS, zT, zU, zV, zW, zX, zY, zZ] at h2q
  have h3q := h3
  try simp only [zA, zB, zC, zD, zE, zF, zG, zH, zI, zJ, zK, zL, zM, zN, zO, zP, zQ, zR, zS, zT, zU, zV, zW, zX, zY, zZ] at h3q
  have h4q := h4
  try simp only [zA, zB, zC, zD, zE, zF, zG, zH, zI, zJ, zK, zL, zM, zN, zO, zP, zQ, zR, zS, zT, zU, zV, zW, zX, zY, zZ] at h4q
  have h5q := h5
  try simp only [zA, zB, zC, zD, zE, zF, zG, zH, zI, zJ, zK, zL, zM, zN, zO, zP, zQ, zR, zS, zT, zU, zV, zW, zX, zY, zZ] at h5q
  have g1 := octN_le 3 (List.drop 2 s)
  rw [List.length_drop] at g1
  have g2 := simT_len (s.getD 1 0)
  have g3 := getD_lt hs 0
  refine LC.go hT (esdL_l4 (T := T) s out) ?_ hK
  simp only [AllT]
  repeat' (first | exact trivial | assumption | exact rfl | apply And.intro)
  all_goals (first | assumption | exact wb_rc hT _ _ g3 (by omega) | exact ws_rc hT _ _ (by first | omega | (show 1 ≤ _; omega)) (by omega) | exact simple_rc2 hT _ | exact octal_rc (G := Gd) hT _ 3 | exact code_rc (G := Gd) hT _ (oct_take s 2 _ rfl) (by rw [List.length_drop, List.length_take]; omega) | exact bst_rc hT _ (by omega) | (simp only [zA, zB, zC, zD, zE, zF, zG, zH, zI, zJ, zK, zL, zM, zN, zO, zP, zQ, zR, zS, zT, zU, zV, zW, zX, zY, zZ]; omega) | (simp only [zA, zB, zC, zD, zE, zF, zG, zH, zI, zJ, zK, zL, zM, zN, zO, zP, zQ, zR, zS, zT, zU, zV, zW, zX, zY, zZ] at *; omega))

set_option maxHeartbeats 0 in
set_option maxRecDepth 20000 in
theorem esdL_l5_ok (hT : TabOk Pd Gd T) (s out : List Nat) (hs : ∀ x ∈ s, x < 256) (hl : s.length ≤ 1000000) (ho : out.length ≤ 1000000) (h1 : ((!s == [])) = true) (h2 : (((↑(s.getD 0 0) : Int) != 92)) = false) (h3 : (((↑s.length : Int) == 1)) = false) (h4 : (((↑(s.getD 1 0) : Int) == 99)) = false) (h5 : (((↑(s.getD 1 0) : Int) == 48)) = false) (h6 : (simB (s.getD 1 0)) = true) {e : Ex} {fr1 : Fr} {H1 : Heap} (hK : LC Pd Gd 60 0 [(0, .p (.str (List.drop 2 s))), (2, .p (.str [])), (3, .kb false), (4, .ptr 0 0)] [some (.cells [.mptr 0 0, .nsl 1 (out ++ simT (s.getD 1 0)).length 1] (.obj 39)), some (.bytes (out ++ simT (s.getD 1 0)) 5)] (loopAt Pd 38 0) e fr1 H1) : LC Pd Gd 60 0 [(0, .p (.str s)), (2, .p (.str [])), (3, .kb false), (4, .ptr 0 0)] [some (.cells [.mptr 0 0, .nsl 1 out.length 1] (.obj 39)), some (.bytes out 5)] (loopAt Pd 38 0) e fr1 H1 := by
  have h1q := h1
  try simp only [zA, zB, zC, zD, zE, zF, zG, zH, zI, zJ, zK, zL, zM, zN, zO, zP, zQ, zR, zS, zT, zU, zV, zW, zX, zY, zZ] at h1q
  have h2q := h2
  try simp only [zA, zB, zC, zD, zE, zF, zG, zH, zI, zJ, zK, zL, zM, zN, zO, zP, zQ, zR, zS, zT, zU, zV, zW, zX, zY, zZ] at h2q
  have h3q := h3
  try simp only [zA, zB, zC, zD, zE, zF, zG, zH, zI, zJ, zK, zL, zM, zN, zO, zP, zQ, zR, zS, zT, zU, zV, zW, zX, zY, zZ] at h3q
  have h4q := h4
  try simp only [zA, zB, zC, zD, zE, zF, zG, zH, zI, zJ, zK, zL, zM, zN, zO, zP, zQ, zR, zS, zT, zU, zV, zW, zX, zY, zZ] at h4q
  have h5q := h5
  try simp only [zA, zB, zC, zD, zE, zF, zG, zH, zI, zJ, zK, zL, zM, zN, zO, zP, zQ, zR, zS, zT, zU, zV, zW, zX, zY, zZ] at h5q
  have h6q := h6
  try simp only [zA, zB, zC, zD, zE, zF, zG, zH, zI, zJ, zK, zL, zM, zN, zO, zP, zQ, zR, zS, zT, zU, zV, zW, zX, zY, zZ] at h6q
  have g1 := octN_le 3 (List.drop 2 s)
  rw [List.length_drop] at g1
  have g2 := simT_len (s.getD 1 0)
  have g3 := getD_lt hs 0
  refine LC.go hT (esdL_l5 (T := T) s out) ?_ hK
  simp only [AllT]
  repeat' (first | exact trivial | assumption | exact rfl | apply And.intro)
  all_goals (first | assumption | exact wb_rc hT _ _ g3 (by omega) | exact ws_rc hT _ _ (by first | omega | (show 1 ≤ _; omega)) (by omega) | exact simple_rc2 hT _ | exact octal_rc (G := Gd) hT _ 3 | exact code_rc (G := Gd) hT _ (oct_take s 2 _ rfl) (by rw [List.length_drop, List.length_take]; omega) | exact bst_rc hT _ (by omega) | (simp only [zA, zB, zC, zD, zE, zF, zG, zH, zI, zJ, zK, zL, zM, zN, zO, zP, zQ, zR, zS, zT, zU, zV, zW, zX, zY, zZ]; omega) | (simp only [zA, zB, zC, zD, zE, zF, zG, zH, zI, zJ, zK, zL, zM, zN, zO, zP, zQ, zR, zS, zT, zU, zV, zW, zX, zY, zZ] at *; omega))

set_option maxHeartbeats 0 in
set_option maxRecDepth 20000 in
theorem esdL_l6_ok (hT : TabOk Pd Gd T) (s out : List Nat) (hs : ∀ x ∈ s, x < 256) (hl : s.length ≤ 1000000) (ho : out.length ≤ 1000000) (h1 : ((!s == [])) = true) (h2 : (((↑(s.getD 0 0) : Int) != 92)) = false) (h3 : (((↑s.length : Int) == 1)) = false) (h4 : (((↑(s.getD 1 0) : Int) == 99)) = false) (h5 : (((↑(s.getD 1 0) : Int) == 48)) = false) (h6 : (simB (s.getD 1 0)) = false) {e : Ex} {fr1 : Fr} {H1 : Heap} (hK : LC Pd Gd 60 0 [(0, .p (.str (List.drop 1 s))), (2, .p (.str [])), (3, .kb false), (4, .ptr 0 0)] [some (.cells [.mptr 0 0, .nsl 1 (out ++ [s.getD 0 0]).length 1] (.obj 39)), some (.bytes (out ++ [s.getD 0 0]) 5)] (loopAt Pd 38 0) e fr1 H1) : LC Pd Gd 60 0 [(0, .p (.str s)), (2, .p (.str [])), (3, .kb false), (4, .ptr 0 0)] [some (.cells [.mptr 0 0, .nsl 1 out.length 1] (.obj 39)), some (.bytes out 5)] (loopAt Pd 38 0) e fr1 H1 := by
  have h1q := h1
  try simp only [zA, zB, zC, zD, zE, zF, zG, zH, zI, zJ, zK, zL, zM, zN, zO, zP, zQ, zR, zS, zT, zU, zV, zW, zX, zY, zZ] at h1q
  have h2q := h2
  try simp only [zA, zB, zC, zD, zE, zF, zG, zH, zI, zJ, zK, zL, zM, zN, zO, zP, zQ, zR, zS, zT, zU, zV, zW, zX, zY, zZ] at h2q
  have h3q := h3
  try simp only [zA, zB, zC, zD, zE, zF, zG, zH, zI, zJ, zK, zL, zM, zN, zO, zP, zQ, zR, zS, zT, zU, zV, zW, zX, zY, zZ] at h3q
  have h4q := h4
  try simp only [zA, zB, zC, zD, zE, zF, zG, zH, zI, zJ, zK, zL, zM, zN, zO, zP, zQ, zR, zS, zT, zU, zV, zW, zX, zY, zZ] at h4q
  have h5q := h5
  try simp only [zA, zB, zC, zD, zE, zF, zG, zH, zI, zJ, zK, zL, zM, zN, zO, zP, zQ, zR, zS, zT, zU, zV, zW, zX, zY, zZ] at h5q
  have h6q := h6
  try simp only [zA, zB, zC, zD, zE, zF, zG, zH, zI, zJ, zK, zL, zM, zN, zO, zP, zQ, zR, zS, zT, zU, zV, zW, zX, zY, zZ] at h6q
  have g1 := octN_le 3 (List.drop 2 s)
  rw [List.length_drop] at g1
  have g2 := simT_len (s.getD 1 0)
  have g3 := getD_lt hs 0
  refine LC.go hT (esdL_l6 (T := T) s out) ?_ hK
  simp only [AllT]
  repeat' (first | exact trivial | assumption | exact rfl | apply And.intro)
  all_goals (first | assumption | exact wb_rc hT _ _ g3 (by omega) | exact ws_rc hT _ _ (by first | omega | (show 1 ≤ _; omega)) (by omega) | exact simple_rc2 hT _ | exact octal_rc (G := Gd) hT _ 3 | exact code_rc (G := Gd) hT _ (oct_take s 2 _ rfl) (by rw [List.length_drop, List.length_take]; omega) | exact bst_rc hT _ (by omega) | (simp only [zA, zB, zC, zD, zE, zF, zG, zH, zI, zJ, zK, zL, zM, zN, zO, zP, zQ, zR, zS, zT, zU, zV, zW, zX, zY, zZ]; omega) | (simp only [zA, zB, zC, zD, zE, zF, zG, zH, zI, zJ, zK, zL, zM, zN, zO, zP, zQ, zR, zS, zT, zU, zV, zW, zX, zY, zZ] at *; omega))

set_option maxHeartbeats 0 in
set_option maxRecDepth 20000 in
theorem esdL_l7_ok (hT : TabOk Pd Gd T) (s out : List Nat) (hs : ∀ x ∈ s, x < 256) (hl : s.length ≤ 1000000) (ho : out.length ≤ 1000000) (h1 : ((!s == [])) = false) : LC Pd Gd 60 0 [(0, .p (.str s)), (2, .p (.str [])), (3, .kb false), (4, .ptr 0 0)] [some (.cells [.mptr 0 0, .nsl 1 out.length 1] (.obj 39)), some (.bytes out 5)] (loopAt Pd 38 0) (.exit 0) [(0, .p (.str s)), (2, .p (.str [])), (3, .kb false), (4, .ptr 0 0)] [some (.cells [.mptr 0 0, .nsl 1 out.length 1] (.obj 39)), some (.bytes out 5)] := by
  have h1q := h1
  try simp only [zA, zB, zC, zD, zE, zF, zG, zH, zI, zJ, zK, zL, zM, zN, zO, zP, zQ, zR, zS, zT, zU, zV, zW, zX, zY, zZ] at h1q
  have g1 := octN_le 3 (List.drop 2 s)
  rw [List.length_drop] at g1
  have g2 := simT_len (s.getD 1 0)
  have g3 := getD_lt hs 0
  refine LC.leave hT (esdL_l7 (T := T) s out) ?_ (by simp)
  simp only [AllT]
  repeat' (first | exact trivial | assumption | exact rfl | apply And.intro)
  all_goals (first | assumption | exact wb_rc hT _ _ g3 (by omega) | exact ws_rc hT _ _ (by first | omega | (show 1 ≤ _; omega)) (by omega) | exact simple_rc2 hT _ | exact octal_rc (G := Gd) hT _ 3 | exact code_rc (G := Gd) hT _ (oct_take s 2 _ rfl) (by rw [List.length_drop, List.length_take]; omega) | exact bst_rc hT _ (by omega) | (simp only [zA, zB, zC, zD, zE, zF, zG, zH, zI, zJ, zK, zL, zM, zN, zO, zP, zQ, zR, zS, zT, zU, zV, zW, zX, zY, zZ]; omega) | (simp only [zA, zB, zC, zD, zE, zF, zG, zH, zI, zJ, zK, zL, zM, zN, zO, zP, zQ, zR, zS, zT, zU, zV, zW, zX, zY, zZ] at *; omega))


def edFr (s r : List Nat) (b : Bool) : Fr := [(0, .p (.str s)), (2, .p (.str r)), (3, .kb b), (4, .ptr 0 0)]
def edQ (s out : List Nat) : List Nat × Bool → Prop
  | (o, false) => ∃ s1, LC Pd Gd 60 0 (edFr s [] false) (bldM out) (loopAt Pd 38 0) (.exit 0) (edFr s1 [] false) (bldM o)
  | (o, true) => ∃ s1, LC Pd Gd 60 0 (edFr s [] false) (bldM out) (loopAt Pd 38 0) .ret (edFr s1 o true) (bldM o)
theorem edQ_go {s out s' out' : List Nat} {r : List Nat × Bool} (h : edQ s' out' r)
    (g : ∀ {e : Ex} {fr1 : Fr} {H1 : Heap}, LC Pd Gd 60 0 (edFr s' [] false) (bldM out') (loopAt Pd 38 0) e fr1 H1 → LC Pd Gd 60 0 (edFr s [] false) (bldM out) (loopAt Pd 38 0) e fr1 H1) : edQ s out r := by
  obtain ⟨o, b⟩ := r
  cases b with
  | false => obtain ⟨s1, h⟩ := h; exact ⟨s1, g h⟩
  | true => obtain ⟨s1, h⟩ := h; exact ⟨s1, g h⟩

theorem esd_loop (hT : TabOk Pd Gd T) : ∀ (k : Nat) (s out : List Nat), (∀ x ∈ s, x < 256) → s.length ≤ k → k ≤ 1000000 → out.length + k ≤ 1000000 → edQ s out (esdF k s out) := by
  intro k
  induction k with
  | zero =>
    intro s out hs hk h1 h2
    have : s = [] := List.length_eq_zero_iff.1 (by omega)
    subst this
    exact ⟨[], esdL_l7_ok hT [] out hs (by simp) (by omega) rfl⟩
  | succ k ih =>
    intro s out hs hk h1 h2
    unfold esdF
    by_cases c1 : s = []
    · rw [if_pos c1]
      exact ⟨s, esdL_l7_ok hT s out hs (by omega) (by omega) (by first | assumption | (simp only [zA, zB, zC, zD, zE, zF, zG, zH, zI, zJ, zK, zL, zM, zN, zO, zP, zQ, zR, zS, zT, zU, zV, zW, zX, zY, zZ]; omega) | (simp_all; done) | (simp_all; omega))⟩
    rw [if_neg c1]
    have hpos : 0 < s.length := List.length_pos_iff.2 c1
    have hd : ∀ n, ∀ x ∈ s.drop n, x < 256 := fun n x hx => hs x (List.mem_of_mem_drop hx)
    have g1 := octN_le 3 (List.drop 2 s)
    rw [List.length_drop] at g1
    have g2 := simT_len (s.getD 1 0)
    have b0 : (!s == []) = true := by rw [beq_eq_false_iff_ne.2 c1]; rfl
    by_cases c2 : s.getD 0 0 = 92
    · have b2 : (((s.getD 0 0 : Nat) : Int) != 92) = false := by rw [c2]; rfl
      by_cases c3 : s.length = 1
      · have b3 : (((s.length : Nat) : Int) == 1) = true := by rw [c3]; rfl
        rw [if_pos (.inr c3)]
        exact edQ_go (ih (s.drop 1) (out ++ [s.getD 0 0]) (hd 1) (by rw [List.length_drop]; omega) (by omega) (by rw [List.length_append, List.length_singleton]; omega)) (esdL_l2_ok hT s out hs (by omega) (by omega) b0 b2 b3)
      · have b3 : (((s.length : Nat) : Int) == 1) = false := by rw [beq_eq_false_iff_ne]; omega
        rw [if_neg (by omega)]
        by_cases c4 : s.getD 1 0 = 99
        · have b4 : (((s.getD 1 0 : Nat) : Int) == 99) = true := by rw [c4]; rfl
          rw [if_pos c4]
          exact ⟨s, esdL_l3_ok hT s out hs (by omega) (by omega) b0 b2 b3 b4⟩
        · have b4 : (((s.getD 1 0 : Nat) : Int) == 99) = false := by rw [beq_eq_false_iff_ne]; omega
          rw [if_neg c4]
          by_cases c5 : s.getD 1 0 = 48
          · have b5 : (((s.getD 1 0 : Nat) : Int) == 48) = true := by rw [c5]; rfl
            rw [if_pos c5]
            exact edQ_go (ih _ _ (hd _) (by rw [List.length_drop]; omega) (by omega) (by rw [List.length_append]; show _ + 1 + k ≤ _; omega)) (esdL_l4_ok hT s out hs (by omega) (by omega) b0 b2 b3 b4 b5)
          · have b5 : (((s.getD 1 0 : Nat) : Int) == 48) = false := by rw [beq_eq_false_iff_ne]; omega
            rw [if_neg c5]
            by_cases c6 : simB (s.getD 1 0) = true
            · rw [if_pos c6]
              exact edQ_go (ih _ _ (hd _) (by rw [List.length_drop]; omega) (by omega) (by rw [List.length_append]; omega)) (esdL_l5_ok hT s out hs (by omega) (by omega) b0 b2 b3 b4 b5 c6)
            · rw [if_neg c6]
              exact edQ_go (ih _ _ (hd _) (by rw [List.length_drop]; omega) (by omega) (by rw [List.length_append, List.length_singleton]; omega)) (esdL_l6_ok hT s out hs (by omega) (by omega) b0 b2 b3 b4 b5 (by simpa using c6))
    · have b2 : (((s.getD 0 0 : Nat) : Int) != 92) = true := by rw [bne_t]; omega
      rw [if_pos (.inl c2)]
      exact edQ_go (ih (s.drop 1) (out ++ [s.getD 0 0]) (hd 1) (by rw [List.length_drop]; omega) (by omega) (by rw [List.length_append, List.length_singleton]; omega)) (esdL_l1_ok hT s out hs (by omega) (by omega) b0 b2)

theorem escaped_rc (hT : TabOk Pd Gd T) (s : List Nat) (hs : ∀ x ∈ s, x < 256) (hl : s.length ≤ 500000) : RC Pd Gd 38 [.p (.str s)] [] (.tup [.p (.str (esdT s)), .p (.bool (esdB s))]) [] := by
  have h := esd_loop hT s.length s [] hs (by omega) (by omega) (by simp; omega)
  have hlen := esdF_len s.length s []
  unfold esdT esdB
  generalize esdF s.length s [] = r at *
  obtain ⟨o, b⟩ := r
  simp only [List.length_nil, Nat.zero_add] at hlen
  cases b with
  | false =>
    obtain ⟨s1, h⟩ := h
    exact RC.retk (RC.of_run hT (esdW_p1 (T := T) s s1 o) ⟨bst_rc hT _ (by omega), h, trivial⟩) rfl
  | true =>
    obtain ⟨s1, h⟩ := h
    exact RC.retk (RC.of_run hT (esdR_p1 (T := T) s s1 o) ⟨h, trivial⟩) rfl
end
end Go.Vc
