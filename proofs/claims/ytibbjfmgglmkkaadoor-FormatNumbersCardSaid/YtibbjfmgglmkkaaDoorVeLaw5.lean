/- Own texts of the proof, put together: VeLaw5. -/
import Derived.Test.YtibbjfmgglmkkaaDoorVeRead
import Derived.Test.YtibbjfmgglmkkaaDoorVdPass
/- VeNumP -/
namespace Go.Vc
open Go.Sort
set_option linter.unusedVariables false
set_option linter.unusedSimpArgs false

def puNext (b c : Nat) : PU → PU
  | .ok m => match digP c with
    | none => .syn
    | some d => if b ≤ d then .syn else if 18446744073709551615 < m * b + d then .rng else .ok (m * b + d)
  | e => e
theorem puS_snoc (b c : Nat) : ∀ (s : List Nat) (n : Nat), puS b (s ++ [c]) n = puNext b c (puS b s n) := by
  intro s
  induction s with
  | nil =>
    intro n
    simp only [List.nil_append, puS, puNext]
    cases digP c <;> rfl
  | cons x r ih =>
    intro n
    simp only [List.cons_append, puS]
    cases digP x with
    | none => rfl
    | some d =>
      simp only
      split
      · rfl
      · split
        · rfl
        · exact ih _

theorem dgS_dig {d : Nat} (h : d < 16) : digP (dgS d) = some d ∧ dgS d ≠ 95 ∧ dgS d ≠ 43 ∧ dgS d < 256 ∧ 48 ≤ dgS d := by
  have : ∀ d < 16, (digP (dgS d) == some d && dgS d != 95 && dgS d != 43 && decide (dgS d < 256) && decide (48 ≤ dgS d)) = true := by decide +kernel
  have := this d h
  simp only [Bool.and_eq_true, beq_iff_eq, bne_iff_ne, ne_eq, decide_eq_true_eq] at this
  exact ⟨this.1.1.1.1, this.1.1.1.2, this.1.1.2, this.1.2, this.2⟩

theorem fbS_snoc (b u : Nat) (hb : 2 ≤ b) (h : ¬ u < b) : fbS b u = fbS b (u / b) ++ [dgS (u % b)] := by
  rw [fbS, dif_neg (by omega)]
theorem fbS_one (b u : Nat) (h : u < b) : fbS b u = [dgS u] := by
  rw [fbS, dif_pos (.inl h)]

theorem puS_fbS (b : Nat) (hb : 2 ≤ b) (hb2 : b ≤ 16) : ∀ (k u : Nat), u ≤ k → u < 18446744073709551616 → puS b (fbS b u) 0 = .ok u := by
  intro k
  induction k with
  | zero =>
    intro u hk hu
    have : u = 0 := by omega
    subst this
    rw [fbS_one b 0 (by omega)]
    simp only [puS, (dgS_dig (d := 0) (by omega)).1]
    rw [if_neg (by omega), if_neg (by omega)]
    simp
  | succ k ih =>
    intro u hk hu
    by_cases h : u < b
    · rw [fbS_one b u h]
      simp only [puS, (dgS_dig (d := u) (by omega)).1]
      rw [if_neg (by omega), if_neg (by omega)]
      simp
    · rw [fbS_snoc b u hb h, puS_snoc]
      have h1 : u / b < u := Nat.div_lt_self (by omega) (by omega)
      rw [ih (u / b) (by omega) (by omega)]
      have h2 : u % b < b := Nat.mod_lt _ (by omega)
      have h3 : u / b * b + u % b = u := by rw [Nat.mul_comm]; exact Nat.div_add_mod u b
      simp only [puNext, (dgS_dig (d := u % b) (by omega)).1]
      rw [if_neg (by omega), h3, if_neg (by omega)]

theorem dgS_dec {d : Nat} (h : d < 10) : (UInt8.ofNat (48 + d)).toNat = dgS d := by
  have : ∀ d < 10, ((UInt8.ofNat (48 + d)).toNat == dgS d) = true := by decide +kernel
  simpa using this d h
theorem decS_fbS : ∀ (k u : Nat), u ≤ k → decS u = fbS 10 u := by
  intro k
  induction k with
  | zero =>
    intro u hk
    have : u = 0 := by omega
    subst this
    rw [fbS_one 10 0 (by omega)]
    unfold decS
    rw [Lib.decDigits, dif_pos (by omega)]
    rfl
  | succ k ih =>
    intro u hk
    by_cases h : u < 10
    · rw [fbS_one 10 u h]
      unfold decS
      rw [Lib.decDigits, dif_pos h]
      simp only [List.map_cons, List.map_nil, dgS_dec h]
    · rw [fbS_snoc 10 u (by omega) h, ← ih (u / 10) (by omega)]
      unfold decS
      rw [Lib.decDigits, dif_neg h, List.map_append]
      simp only [List.map_cons, List.map_nil, dgS_dec (show u % 10 < 10 by omega)]

theorem fbS_mem (b : Nat) (hb : 2 ≤ b) (hb2 : b ≤ 16) : ∀ (k u : Nat), u ≤ k → ∀ x ∈ fbS b u, ∃ d, d < b ∧ x = dgS d := by
  intro k
  induction k with
  | zero =>
    intro u hk x hx
    rw [fbS_one b u (by omega)] at hx
    exact ⟨u, by omega, by simpa using hx⟩
  | succ k ih =>
    intro u hk x hx
    by_cases h : u < b
    · rw [fbS_one b u h] at hx
      exact ⟨u, h, by simpa using hx⟩
    · rw [fbS_snoc b u hb h, List.mem_append] at hx
      have h1 : u / b < u := Nat.div_lt_self (by omega) (by omega)
      rcases hx with hx | hx
      · exact ih (u / b) (by omega) x hx
      · exact ⟨u % b, Nat.mod_lt _ (by omega), by simpa using hx⟩
theorem fbS_pos (b u : Nat) : 0 < (fbS b u).length := by
  rw [fbS]; split <;> simp
theorem fbS_head (b : Nat) (hb : 2 ≤ b) (hb2 : b ≤ 16) : ∀ (k u : Nat), u ≤ k → 0 < u → ∃ d, 0 < d ∧ d < b ∧ (fbS b u).getD 0 0 = dgS d := by
  intro k
  induction k with
  | zero => intro u hk h; omega
  | succ k ih =>
    intro u hk h0
    by_cases h : u < b
    · rw [fbS_one b u h]
      exact ⟨u, h0, h, rfl⟩
    · rw [fbS_snoc b u hb h]
      have h1 : u / b < u := Nat.div_lt_self (by omega) (by omega)
      obtain ⟨d, q1, q2, q3⟩ := ih (u / b) (by omega) (Nat.div_pos (by omega) (by omega))
      refine ⟨d, q1, q2, ?_⟩
      rw [← q3, List.getD_eq_getElem?_getD, List.getD_eq_getElem?_getD, List.getElem?_append_left (fbS_pos b _)]
theorem fbS_ok (b u : Nat) (hb : 2 ≤ b) (hb2 : b ≤ 16) : (fbS b u).any badC = false ∧ (∀ x ∈ fbS b u, x < 256) := by
  have h := fbS_mem b hb hb2 u u (Nat.le_refl _)
  constructor
  · rw [List.any_eq_false]
    intro x hx
    obtain ⟨d, q1, rfl⟩ := h x hx
    have q := dgS_dig (d := d) (by omega)
    unfold badC
    simp [q.2.1, q.2.2.1]
  · intro x hx
    obtain ⟨d, q1, rfl⟩ := h x hx
    exact (dgS_dig (d := d) (by omega)).2.2.2.1

theorem mgD_fbS (b u : Nat) (hb : 2 ≤ b) (hb2 : b ≤ 16) (hu : u < 18446744073709551616) : mgD b (fbS b u) = .ok u := by
  have h1 := (fbS_ok b u hb hb2).1
  have h2 := fbS_pos b u
  have h3 : fbS b u ≠ [] := fun e => by rw [e] at h2; simp at h2
  unfold mgD pu1
  rw [h1, if_neg h3, puS_fbS b hb hb2 u u (Nat.le_refl _) hu]
  rfl

theorem dgS_low {d : Nat} (h0 : 0 < d) (h : d < 10) : 49 ≤ dgS d ∧ dgS d ≤ 57 := by
  have : ∀ d < 10, d = 0 ∨ (decide (49 ≤ dgS d) && decide (dgS d ≤ 57)) = true := by decide +kernel
  rcases this d h with h1 | h1
  · omega
  · simpa using h1
theorem mgS_dec (u : Nat) (hu : u < 18446744073709551616) : mgS (decS u) = .ok u := by
  rw [decS_fbS u u (Nat.le_refl _)]
  have hp := fbS_pos 10 u
  have hne : fbS 10 u ≠ [] := fun e => by rw [e] at hp; simp at hp
  by_cases h0 : u = 0
  · subst h0
    rw [fbS_one 10 0 (by omega)]
    rfl
  · obtain ⟨d, q1, q2, q3⟩ := fbS_head 10 (by omega) (by omega) u u (Nat.le_refl _) (by omega)
    have q4 := dgS_low q1 q2
    unfold mgS
    rw [q3, if_neg (by rintro (h | h | h) <;> first | exact hne h | omega), if_neg (by omega)]
    exact mgD_fbS 10 u (by omega) (by omega) hu
theorem num_dec (u : Nat) (hu : u < 18446744073709551616) : numE (decS u) = (if u ≤ 9223372036854775807 then 0 else 14) ∧ (u ≤ 9223372036854775807 → numN (decS u) = u) := by
  unfold numE numN
  rw [mgS_dec u hu]
  refine ⟨rfl, fun h => ?_⟩
  unfold numNf
  rw [if_pos ⟨rfl, h⟩]
  rfl
theorem dec_big : decS 9223372036854775808 = [57, 50, 50, 51, 51, 55, 50, 48, 51, 54, 56, 53, 52, 55, 55, 53, 56, 48, 56] := by
  unfold decS
  simp [Lib.decDigits]
theorem decS_head (u : Nat) : (decS u).getD 0 0 ≠ 45 ∧ (decS u).getD 0 0 ≠ 43 ∧ 48 ≤ (decS u).getD 0 0 ∧ 0 < (decS u).length := by
  rw [decS_fbS u u (Nat.le_refl _)]
  have hp := fbS_pos 10 u
  by_cases h0 : u = 0
  · subst h0
    rw [fbS_one 10 0 (by omega)]
    decide
  · obtain ⟨d, q1, q2, q3⟩ := fbS_head 10 (by omega) (by omega) u u (Nat.le_refl _) (by omega)
    have q4 := dgS_low q1 q2
    rw [q3]
    omega
theorem itoaS_nat (u : Nat) : itoaS (u : Int) = decS u := by
  unfold itoaS decS Lib.itoa
  rw [if_neg (by omega)]
  rfl
theorem itoaS_neg (u : Nat) (h : 0 < u) : itoaS (-(u : Int)) = 45 :: decS u := by
  unfold itoaS decS Lib.itoa
  rw [if_pos (by omega)]
  simp
theorem int_itoa (n : Int) (h0 : -9223372036854775808 ≤ n) (h1 : n ≤ 9223372036854775807) : intN (itoaS n) = n ∧ intO (itoaS n) = true := by
  by_cases hn : n < 0
  · obtain ⟨u, rfl, hu⟩ : ∃ u : Nat, n = -(u : Int) ∧ 0 < u := ⟨n.natAbs, by omega, by omega⟩
    rw [itoaS_neg u hu]
    have e1 : intB (45 :: decS u) = decS u := by unfold intB; rw [if_pos (.inl rfl)]; rfl
    obtain ⟨q1, q2⟩ := num_dec u (by omega)
    unfold intN intO intNf intOf
    rw [e1, q1]
    have hl : ¬ (45 :: decS u).length = 0 := by simp
    have hg : (45 :: decS u).getD 0 0 = 45 := rfl
    rw [if_neg hl, if_neg hl]
    by_cases hu2 : u ≤ 9223372036854775807
    · rw [if_pos hu2, if_pos rfl, if_pos rfl, if_pos hg, q2 hu2]
      exact ⟨by omega, rfl⟩
    · have hu3 : u = 9223372036854775808 := by omega
      have hle : leastB (decS u) = true := by
        rw [hu3, dec_big]; decide +kernel
      have z1 : ¬ ((14 : Int) = 0) := by decide
      rw [if_neg hu2, if_neg z1, if_neg z1, if_pos ⟨rfl, hg, hle⟩, if_pos ⟨rfl, hg, hle⟩, hu3]
      exact ⟨rfl, rfl⟩
  · obtain ⟨u, rfl⟩ : ∃ u : Nat, n = u := ⟨n.toNat, by omega⟩
    rw [itoaS_nat u]
    obtain ⟨w1, w2, w3, w4⟩ := decS_head u
    have e1 : intB (decS u) = decS u := by unfold intB; rw [if_neg (fun h => h.elim w1 w2)]
    obtain ⟨q1, q2⟩ := num_dec u (by omega)
    have hu2 : u ≤ 9223372036854775807 := by omega
    unfold intN intO intNf intOf
    have hl2 : ¬ (decS u).length = 0 := by omega
    rw [e1, q1, if_pos hu2, if_neg hl2, if_neg hl2, if_pos rfl, if_pos rfl, if_neg w1, q2 hu2]
    exact ⟨rfl, rfl⟩
theorem itoaS_head (n : Int) : (itoaS n).getD 0 0 = 45 ∨ 48 ≤ (itoaS n).getD 0 0 := by
  by_cases hn : n < 0
  · obtain ⟨u, rfl, hu⟩ : ∃ u : Nat, n = -(u : Int) ∧ 0 < u := ⟨n.natAbs, by omega, by omega⟩
    rw [itoaS_neg u hu]; exact .inl rfl
  · obtain ⟨u, rfl⟩ : ∃ u : Nat, n = u := ⟨n.toNat, by omega⟩
    rw [itoaS_nat u]; exact .inr (decS_head u).2.2.1
theorem numV_itoa (n : Int) (h0 : -9223372036854775808 ≤ n) (h1 : n ≤ 9223372036854775807) (m : List Nat) : numV (itoaS n) = n ∧ numM m (itoaS n) = m := by
  have hh := itoaS_head n
  obtain ⟨q1, q2⟩ := int_itoa n h0 h1
  have hc : ¬ (0 < (itoaS n).length ∧ ((itoaS n).getD 0 0 = 39 ∨ (itoaS n).getD 0 0 = 34)) := by omega
  unfold numV numM
  rw [if_neg hc, if_neg hc, q1, q2]
  exact ⟨rfl, by simp⟩
end Go.Vc

/- VeNumW -/
namespace Go.Vc
open Go.Sort
set_option linter.unusedVariables false
set_option linter.unusedSimpArgs false

theorem tdiv10 (u : Nat) : (u : Int).tdiv 10 = ((u / 10 : Nat) : Int) := (Int.ofNat_tdiv u 10).symm
theorem tmod10 (u : Nat) : (u : Int).tmod 10 = ((u % 10 : Nat) : Int) := (Int.ofNat_tmod u 10).symm
theorem dig48 {d : Nat} (h : d < 10) : (48 + (d : Int)).toNat % 256 = dgS d := by
  have : ∀ d < 10, ((48 + d) % 256 == dgS d) = true := by decide +kernel
  have h1 := this d h
  rw [beq_iff_eq] at h1
  have h2 : (48 + (d : Int)).toNat = 48 + d := by omega
  rw [h2, h1]
section
variable {T : Tab}

theorem r5L_l1 (n : Int) (o : List Nat) : runC Pd Gd T 100000 false [.br true] 23 0 [(0, .p (.int .u64 n)), (2, .p (.str [])), (3, .p (.str o))] [] (loopAt Pd 17 0) [0, 2, 3] [] [] = some ([(true && fitsK .u64 (n.tdiv 10)) = true, decide ([(48 + n.tmod 10).toNat % 256].length + o.length ≤ 4611686018427387904) = true, true = true, fitsK .u8 (48 + n.tmod 10) = true, fitsK .u64 (48 + n.tmod 10) = true, true = true, decide (n > 9) = true], .normal, [(0, .p (.int .u64 (n.tdiv 10))), (2, .p (.str [])), (3, .p (.str ([(48 + n.tmod 10).toNat % 256] ++ o)))], []) := by kernel_rfl
theorem r5L_l2 (n : Int) (o : List Nat) : runC Pd Gd T 100000 false [.br false] 23 0 [(0, .p (.int .u64 n)), (2, .p (.str [])), (3, .p (.str o))] [] (loopAt Pd 17 0) [0, 2, 3] [] [] = some ([decide (n > 9) = false], .exit 0, [(0, .p (.int .u64 n)), (2, .p (.str [])), (3, .p (.str o))], []) := by kernel_rfl
theorem r5W_p1 (n m : Int) (o : List Nat) : runW Pd Gd T 100000 false [.tr 999999 (Tr.weak [0, 2, 3] [] []), .code (.exit 0) [(0, .p (.int .u64 m)), (2, .p (.str [])), (3, .p (.str o))] []] [] [] 17 [.p (.int .u64 n)] [] = some ([decide ([(48 + m).toNat % 256].length + o.length ≤ 4611686018427387904) = true, true = true, fitsK .u8 (48 + m) = true, fitsK .u64 (48 + m) = true, LC Pd Gd 23 0 [(0, .p (.int .u64 n)), (2, .p (.str [])), (3, .p (.str []))] [] (loopAt Pd 17 0) (.exit 0) [(0, .p (.int .u64 m)), (2, .p (.str [])), (3, .p (.str o))] []], .p (.str ([(48 + m).toNat % 256] ++ o)), []) := by kernel_rfl
theorem r5D_p1 (n : Int) (o : List Nat) : runFn Pd Gd T 100000 false [.br true, .callv (.p (.str o)) []] 12 [.p (.int .i64 n)] [] = some ([decide ((bytesOf { data := #[45] }).length + o.length ≤ 4611686018427387904) = true, RC Pd Gd 17 [.p (.int .u64 (0 - (n + 1) + 1))] [] (.p (.str o)) [], fitsK .u64 (0 - (n + 1) + 1) = true, fitsK .u64 (0 - (n + 1)) = true, fitsK .i64 (0 - (n + 1)) = true, fitsK .i64 (n + 1) = true, decide (n < 0) = true], .p (.str ([45] ++ o)), []) := by kernel_rfl
theorem r5D_p2 (n : Int) (o : List Nat) : runFn Pd Gd T 100000 false [.br false, .callv (.p (.str o)) []] 12 [.p (.int .i64 n)] [] = some ([RC Pd Gd 17 [.p (.int .u64 n)] [] (.p (.str o)) [], fitsK .u64 n = true, decide (n < 0) = false], .p (.str o), []) := by kernel_rfl

theorem r5va_p1 (c b : Int) : runFn Pd Gd T 100000 false [.inl, .br true, .br true, .br false] 41 [.p (.int .u8 c), .p (.int .i64 b)] [] = some ([decide (c - 48 ≥ b) = false, fitsK .i64 (c - 48) = true, fitsK .u8 (c - 48) = true, decide (c ≤ 57) = true, decide (c ≥ 48) = true], .p (.int .i64 (c - 48)), []) := by kernel_rfl
theorem r5vb_p1 (c b : Int) : runFn Pd Gd T 100000 false [.inl, .br true, .br false, .br true, .br true, .br false] 41 [.p (.int .u8 c), .p (.int .i64 b)] [] = some ([decide (c - 97 + 10 ≥ b) = false, fitsK .i64 (c - 97 + 10) = true, fitsK .i64 (c - 97) = true, fitsK .u8 (c - 97) = true, decide (c ≤ 102) = true, decide (c ≥ 97) = true, decide (c ≤ 57) = false, decide (c ≥ 48) = true], .p (.int .i64 (c - 97 + 10)), []) := by kernel_rfl
theorem r6k_p1 (s : List Nat) (n e : Int) : runFn Pd Gd T 100000 false [.br false, .br false, .br false, .callv (.tup [.p (.int .u64 n), .p (.int .i64 e)]) []] 18 [.p (.str s)] [] = some ([RC Pd Gd 26 [.p (.str s)] [] (.tup [.p (.int .u64 n), .p (.int .i64 e)]) [], decide ((↑(s.getD 0 0) : Int) > 57) = false, (true && decide (0 < (↑s.length : Int))) = true, decide ((↑(s.getD 0 0) : Int) < 48) = false, (true && decide (0 < (↑s.length : Int))) = true, (s == []) = false], .tup [.p (.int .u64 n), .p (.int .i64 e)], []) := by kernel_rfl
theorem r6n_p1 (s : List Nat) (n : Int) : runFn Pd Gd T 100000 false [.callv (.tup [.p (.int .u64 n), .p (.int .i64 0)]) [], .br true, .br false, .br false] 13 [.p (.str s)] [] = some ([fitsK .i64 n = true, false = false, decide (n > 9223372036854775807) = false, true = true, RC Pd Gd 18 [.p (.str s)] [] (.tup [.p (.int .u64 n), .p (.int .i64 0)]) []], .tup [.p (.int .i64 n), .p (.int .i64 0)], []) := by kernel_rfl
theorem c0L_l2 (s : List Nat) (b i d : Int) : runC Pd Gd T 100000 false [.br true, .callv (.p (.int .i64 d)) [], .br false] 79 0 [(0, .p (.str s)), (2, .p (.int .u64 0)), (3, .p (.int .i64 0)), (4, .p (.int .i64 b)), (5, .p (.int .i64 i))] [] (loopAt Pd 26 0) [0, 2, 3, 4, 5] [] [] = some ([fitsK .i64 (i + 1) = true, decide (d < 0) = false, RC Pd Gd 41 [.p (.int .u8 (↑(s.getD i.toNat 0) : Int)), .p (.int .i64 b)] [] (.p (.int .i64 d)) [], (decide (0 ≤ i) && decide (i < (↑s.length : Int))) = true, decide (i < (↑s.length : Int)) = true], .normal, [(0, .p (.str s)), (2, .p (.int .u64 0)), (3, .p (.int .i64 0)), (4, .p (.int .i64 b)), (5, .p (.int .i64 (i + 1)))], []) := by kernel_rfl
theorem c0L_l3 (s : List Nat) (b i d : Int) : runC Pd Gd T 100000 false [.br false] 79 0 [(0, .p (.str s)), (2, .p (.int .u64 0)), (3, .p (.int .i64 0)), (4, .p (.int .i64 b)), (5, .p (.int .i64 i))] [] (loopAt Pd 26 0) [0, 2, 3, 4, 5] [] [] = some ([decide (i < (↑s.length : Int)) = false], .exit 0, [(0, .p (.str s)), (2, .p (.int .u64 0)), (3, .p (.int .i64 0)), (4, .p (.int .i64 b)), (5, .p (.int .i64 i))], []) := by kernel_rfl
theorem c1L_l2 (s : List Nat) (b n i d : Int) : runC Pd Gd T 100000 false [.br true, .callv (.p (.int .i64 d)) [], .br false] 79 0 [(0, .p (.str s)), (2, .p (.int .u64 0)), (3, .p (.int .i64 0)), (4, .p (.int .i64 b)), (6, .p (.int .u64 n)), (7, .p (.int .i64 i))] [] (loopAt Pd 26 1) [0, 2, 3, 4, 6, 7] [] [] = some ([fitsK .i64 (i + 1) = true, fitsK .u64 (n * b + d) = true, fitsK .u64 (n * b) = true, fitsK .u64 b = true, decide (n > (9223372036854775808 - d).tdiv b) = false, (!decide (b = 0) && fitsK .u64 ((9223372036854775808 - d).tdiv b)) = true, fitsK .u64 b = true, fitsK .u64 (9223372036854775808 - d) = true, fitsK .u64 d = true, RC Pd Gd 41 [.p (.int .u8 (↑(s.getD i.toNat 0) : Int)), .p (.int .i64 b)] [] (.p (.int .i64 d)) [], (decide (0 ≤ i) && decide (i < (↑s.length : Int))) = true, decide (i < (↑s.length : Int)) = true], .normal, [(0, .p (.str s)), (2, .p (.int .u64 0)), (3, .p (.int .i64 0)), (4, .p (.int .i64 b)), (6, .p (.int .u64 (n * b + d))), (7, .p (.int .i64 (i + 1)))], []) := by kernel_rfl
theorem c1L_l3 (s : List Nat) (b n i d : Int) : runC Pd Gd T 100000 false [.br false] 79 0 [(0, .p (.str s)), (2, .p (.int .u64 0)), (3, .p (.int .i64 0)), (4, .p (.int .i64 b)), (6, .p (.int .u64 n)), (7, .p (.int .i64 i))] [] (loopAt Pd 26 1) [0, 2, 3, 4, 6, 7] [] [] = some ([decide (i < (↑s.length : Int)) = false], .exit 2, [(0, .p (.str s)), (2, .p (.int .u64 0)), (3, .p (.int .i64 0)), (4, .p (.int .i64 b)), (6, .p (.int .u64 n)), (7, .p (.int .i64 i))], []) := by kernel_rfl
theorem cHx_p1 (s : List Nat) (n : Int) : runFn Pd Gd T 100000 false [.br true, .br true, .br true, .br false, .tr 999999 (Tr.weak [0, 2, 3, 4, 5] [] []), .code (.exit 0) [(0, .p (.str (List.drop 2 s))), (2, .p (.int .u64 0)), (3, .p (.int .i64 0)), (4, .p (.int .i64 16)), (5, .p (.int .i64 (↑(List.drop 2 s).length : Int)))] [], .tr 999999 (Tr.weak [0, 2, 3, 4, 6, 7] [] []), .code (.exit 2) [(0, .p (.str (List.drop 2 s))), (2, .p (.int .u64 0)), (3, .p (.int .i64 0)), (4, .p (.int .i64 16)), (6, .p (.int .u64 n)), (7, .p (.int .i64 (↑(List.drop 2 s).length : Int)))] []] 26 [.p (.str s)] [] = some ([LC Pd Gd 79 0 [(0, .p (.str (List.drop 2 s))), (2, .p (.int .u64 0)), (3, .p (.int .i64 0)), (4, .p (.int .i64 16)), (6, .p (.int .u64 0)), (7, .p (.int .i64 0))] [] (loopAt Pd 26 1) (.exit 2) [(0, .p (.str (List.drop 2 s))), (2, .p (.int .u64 0)), (3, .p (.int .i64 0)), (4, .p (.int .i64 16)), (6, .p (.int .u64 n)), (7, .p (.int .i64 (↑(List.drop 2 s).length : Int)))] [], LC Pd Gd 79 0 [(0, .p (.str (List.drop 2 s))), (2, .p (.int .u64 0)), (3, .p (.int .i64 0)), (4, .p (.int .i64 16)), (5, .p (.int .i64 0))] [] (loopAt Pd 26 0) (.exit 0) [(0, .p (.str (List.drop 2 s))), (2, .p (.int .u64 0)), (3, .p (.int .i64 0)), (4, .p (.int .i64 16)), (5, .p (.int .i64 (↑(List.drop 2 s).length : Int)))] [], (List.drop 2 s == []) = false, (true && decide (2 ≤ (↑s.length : Int))) = true, ((↑(s.getD 1 0) : Int) == 120) = true, (true && decide (1 < (↑s.length : Int))) = true, ((↑(s.getD 0 0) : Int) == 48) = true, (true && decide (0 < (↑s.length : Int))) = true, decide ((↑s.length : Int) > 2) = true], .tup [.p (.int .u64 n), .p (.int .i64 0)], []) := by kernel_rfl
theorem cOa_p1 (s : List Nat) (n : Int) : runFn Pd Gd T 100000 false [.br true, .br true, .br false, .br false, .br true, .br true, .br false, .tr 999999 (Tr.weak [0, 2, 3, 4, 5] [] []), .code (.exit 0) [(0, .p (.str (List.drop 1 s))), (2, .p (.int .u64 0)), (3, .p (.int .i64 0)), (4, .p (.int .i64 8)), (5, .p (.int .i64 (↑(List.drop 1 s).length : Int)))] [], .tr 999999 (Tr.weak [0, 2, 3, 4, 6, 7] [] []), .code (.exit 2) [(0, .p (.str (List.drop 1 s))), (2, .p (.int .u64 0)), (3, .p (.int .i64 0)), (4, .p (.int .i64 8)), (6, .p (.int .u64 n)), (7, .p (.int .i64 (↑(List.drop 1 s).length : Int)))] []] 26 [.p (.str s)] [] = some ([LC Pd Gd 79 0 [(0, .p (.str (List.drop 1 s))), (2, .p (.int .u64 0)), (3, .p (.int .i64 0)), (4, .p (.int .i64 8)), (6, .p (.int .u64 0)), (7, .p (.int .i64 0))] [] (loopAt Pd 26 1) (.exit 2) [(0, .p (.str (List.drop 1 s))), (2, .p (.int .u64 0)), (3, .p (.int .i64 0)), (4, .p (.int .i64 8)), (6, .p (.int .u64 n)), (7, .p (.int .i64 (↑(List.drop 1 s).length : Int)))] [], LC Pd Gd 79 0 [(0, .p (.str (List.drop 1 s))), (2, .p (.int .u64 0)), (3, .p (.int .i64 0)), (4, .p (.int .i64 8)), (5, .p (.int .i64 0))] [] (loopAt Pd 26 0) (.exit 0) [(0, .p (.str (List.drop 1 s))), (2, .p (.int .u64 0)), (3, .p (.int .i64 0)), (4, .p (.int .i64 8)), (5, .p (.int .i64 (↑(List.drop 1 s).length : Int)))] [], (List.drop 1 s == []) = false, (true && decide (1 ≤ (↑s.length : Int))) = true, ((↑(s.getD 0 0) : Int) == 48) = true, (true && decide (0 < (↑s.length : Int))) = true, decide ((↑s.length : Int) > 1) = true, ((↑(s.getD 1 0) : Int) == 88) = false, (true && decide (1 < (↑s.length : Int))) = true, ((↑(s.getD 1 0) : Int) == 120) = false, (true && decide (1 < (↑s.length : Int))) = true, ((↑(s.getD 0 0) : Int) == 48) = true, (true && decide (0 < (↑s.length : Int))) = true, decide ((↑s.length : Int) > 2) = true], .tup [.p (.int .u64 n), .p (.int .i64 0)], []) := by kernel_rfl
theorem cOb_p1 (s : List Nat) (n : Int) : runFn Pd Gd T 100000 false [.br false, .br true, .br true, .br false, .tr 999999 (Tr.weak [0, 2, 3, 4, 5] [] []), .code (.exit 0) [(0, .p (.str (List.drop 1 s))), (2, .p (.int .u64 0)), (3, .p (.int .i64 0)), (4, .p (.int .i64 8)), (5, .p (.int .i64 (↑(List.drop 1 s).length : Int)))] [], .tr 999999 (Tr.weak [0, 2, 3, 4, 6, 7] [] []), .code (.exit 2) [(0, .p (.str (List.drop 1 s))), (2, .p (.int .u64 0)), (3, .p (.int .i64 0)), (4, .p (.int .i64 8)), (6, .p (.int .u64 n)), (7, .p (.int .i64 (↑(List.drop 1 s).length : Int)))] []] 26 [.p (.str s)] [] = some ([LC Pd Gd 79 0 [(0, .p (.str (List.drop 1 s))), (2, .p (.int .u64 0)), (3, .p (.int .i64 0)), (4, .p (.int .i64 8)), (6, .p (.int .u64 0)), (7, .p (.int .i64 0))] [] (loopAt Pd 26 1) (.exit 2) [(0, .p (.str (List.drop 1 s))), (2, .p (.int .u64 0)), (3, .p (.int .i64 0)), (4, .p (.int .i64 8)), (6, .p (.int .u64 n)), (7, .p (.int .i64 (↑(List.drop 1 s).length : Int)))] [], LC Pd Gd 79 0 [(0, .p (.str (List.drop 1 s))), (2, .p (.int .u64 0)), (3, .p (.int .i64 0)), (4, .p (.int .i64 8)), (5, .p (.int .i64 0))] [] (loopAt Pd 26 0) (.exit 0) [(0, .p (.str (List.drop 1 s))), (2, .p (.int .u64 0)), (3, .p (.int .i64 0)), (4, .p (.int .i64 8)), (5, .p (.int .i64 (↑(List.drop 1 s).length : Int)))] [], (List.drop 1 s == []) = false, (true && decide (1 ≤ (↑s.length : Int))) = true, ((↑(s.getD 0 0) : Int) == 48) = true, (true && decide (0 < (↑s.length : Int))) = true, decide ((↑s.length : Int) > 1) = true, decide ((↑s.length : Int) > 2) = false], .tup [.p (.int .u64 n), .p (.int .i64 0)], []) := by kernel_rfl

def r5Fr (n : Int) (o : List Nat) : Fr := [(0, .p (.int .u64 n)), (2, .p (.str [])), (3, .p (.str o))]
theorem r5_loop (hT : TabOk Pd Gd T) : ∀ (j u : Nat) (o : List Nat), u < 10 ^ (j + 1) → u < 18446744073709551616 → o.length + j ≤ 1000 → ∃ (m : Nat) (o' : List Nat), m < 10 ∧ dgS m :: o' = fbS 10 u ++ o ∧ o'.length ≤ 1000 ∧
    LC Pd Gd 23 0 (r5Fr u o) [] (loopAt Pd 17 0) (.exit 0) (r5Fr m o') [] := by
  have leaf : ∀ (u : Nat) (o : List Nat), u < 10 → LC Pd Gd 23 0 (r5Fr u o) [] (loopAt Pd 17 0) (.exit 0) (r5Fr u o) [] := fun u o h =>
    LC.leave hT (r5L_l2 (T := T) (u : Int) o) ⟨by rw [decide_eq_false_iff_not]; omega, trivial⟩ (by simp)
  intro j
  induction j with
  | zero =>
    intro u o h hu ho
    have h : u < 10 := by simpa using h
    exact ⟨u, o, h, by rw [fbS_one 10 u h]; rfl, by omega, leaf u o h⟩
  | succ j ih =>
    intro u o h hu ho
    by_cases h1 : u < 10
    · exact ⟨u, o, h1, by rw [fbS_one 10 u h1]; rfl, by omega, leaf u o h1⟩
    · have h2 : u / 10 < 10 ^ (j + 1) := by rw [Nat.div_lt_iff_lt_mul (by omega)]; rw [Nat.pow_succ] at h; exact h
      obtain ⟨m, o', q1, q2, q3, q4⟩ := ih (u / 10) (dgS (u % 10) :: o) h2 (by omega) (by rw [List.length_cons]; omega)
      refine ⟨m, o', q1, ?_, q3, ?_⟩
      · rw [q2, fbS_snoc 10 u (by omega) h1, List.append_assoc]; rfl
      · have key := r5L_l1 (T := T) (u : Int) o
        have hm : u % 10 < 10 := by omega
        rw [tmod10, tdiv10, dig48 hm] at key
        refine LC.go hT key ?_ q4
        simp only [AllT, List.length_cons, List.length_nil]
        repeat' (first | exact trivial | apply And.intro)
        all_goals (first | (simp only [zA, zB, zC, zD, zE, zF, zG, zH, zI, zJ, zK, zL, zM, zN, zO, zP, zQ, zR, zS, zT, zU, zV, zW, zX, zY, zZ]; omega) | rfl)

theorem r5digits_rc (hT : TabOk Pd Gd T) (u : Nat) (hu : u < 18446744073709551616) : RC Pd Gd 17 [.p (.int .u64 (u : Nat))] [] (.p (.str (decS u))) [] := by
  obtain ⟨m, o', q1, q2, q3, q4⟩ := r5_loop hT 19 u [] (Nat.lt_of_lt_of_le hu (by decide)) hu (by simp)
  have key := r5W_p1 (T := T) (u : Int) (m : Int) o'
  rw [dig48 q1] at key
  rw [List.append_nil, ← decS_fbS u u (Nat.le_refl _)] at q2
  rw [← q2]
  refine RC.of_run hT key ⟨?_, rfl, ?_, ?_, q4, trivial⟩
  all_goals (simp only [zA, zB, zC, zD, zE, zF, zG, zH, zI, zJ, zK, zL, zM, zN, zO, zP, zQ, zR, zS, zT, zU, zV, zW, zX, zY, zZ]; omega)
theorem decimal_rc (hT : TabOk Pd Gd T) (n : Int) (h0 : -9223372036854775808 ≤ n) (h1 : n ≤ 9223372036854775807) : RC Pd Gd 12 [.p (.int .i64 n)] [] (.p (.str (itoaS n))) [] := by
  by_cases hn : n < 0
  · obtain ⟨u, rfl, hu⟩ : ∃ u : Nat, n = -(u : Int) ∧ 0 < u := ⟨n.natAbs, by omega, by omega⟩
    have hd := r5digits_rc hT u (by omega)
    have hl := decS_len u (by omega)
    have key := r5D_p1 (T := T) (-(u : Int)) (decS u)
    have e : (0 - (-(u : Int) + 1) + 1) = (u : Int) := by omega
    rw [e] at key
    rw [itoaS_neg u hu]
    refine RC.of_runFn hT key ⟨?_, hd, ?_, ?_, ?_, ?_, ?_, trivial⟩
    · rw [decide_eq_true_eq]; show 1 + _ ≤ _; omega
    all_goals (simp only [zA, zB, zC, zD, zE, zF, zG, zH, zI, zJ, zK, zL, zM, zN, zO, zP, zQ, zR, zS, zT, zU, zV, zW, zX, zY, zZ]; omega)
  · obtain ⟨u, rfl⟩ : ∃ u : Nat, n = u := ⟨n.toNat, by omega⟩
    have hd := r5digits_rc hT u (by omega)
    rw [itoaS_nat u]
    refine RC.of_runFn hT (r5D_p2 (T := T) (u : Int) (decS u)) ⟨hd, ?_, ?_, trivial⟩
    all_goals (simp only [zA, zB, zC, zD, zE, zF, zG, zH, zI, zJ, zK, zL, zM, zN, zO, zP, zQ, zR, zS, zT, zU, zV, zW, zX, zY, zZ]; omega)

/-! ### Number -/
theorem val_rc (hT : TabOk Pd Gd T) (d b : Nat) (hd : d < b) (hb : b ≤ 16) : RC Pd Gd 41 [.p (.int .u8 (dgS d : Nat)), .p (.int .i64 (b : Nat))] [] (.p (.int .i64 (d : Nat))) [] := by
  have hv : ∀ d < 16, (d < 10 ∧ dgS d = 48 + d) ∨ (10 ≤ d ∧ dgS d = 87 + d) := by decide +kernel
  rcases hv d (by omega) with ⟨h1, h2⟩ | ⟨h1, h2⟩
  · have key := r5va_p1 (T := T) (dgS d : Nat) (b : Nat)
    have e : ((dgS d : Nat) : Int) - 48 = (d : Nat) := by omega
    rw [e] at key
    refine RC.of_runFn hT key ⟨?_, ?_, ?_, ?_, ?_, trivial⟩
    all_goals (simp only [zA, zB, zC, zD, zE, zF, zG, zH, zI, zJ, zK, zL, zM, zN, zO, zP, zQ, zR, zS, zT, zU, zV, zW, zX, zY, zZ]; omega)
  · have key := r5vb_p1 (T := T) (dgS d : Nat) (b : Nat)
    have e : ((dgS d : Nat) : Int) - 97 + 10 = (d : Nat) := by omega
    rw [e] at key
    refine RC.of_runFn hT key ⟨?_, ?_, ?_, ?_, ?_, ?_, ?_, ?_, trivial⟩
    all_goals (simp only [zA, zB, zC, zD, zE, zF, zG, zH, zI, zJ, zK, zL, zM, zN, zO, zP, zQ, zR, zS, zT, zU, zV, zW, zX, zY, zZ]; omega)

def dV (c : Nat) : Nat := (digP c).getD 0
def vS (b : Nat) (s : List Nat) (n : Nat) : Nat := s.foldl (fun n c => n * b + dV c) n
theorem vS_snoc (b c : Nat) (s : List Nat) (n : Nat) : vS b (s ++ [c]) n = vS b s n * b + dV c := by
  unfold vS; rw [List.foldl_append]; rfl
theorem vS_fbS (b : Nat) (hb : 2 ≤ b) (hb2 : b ≤ 16) : ∀ (k u : Nat), u ≤ k → vS b (fbS b u) 0 = u := by
  have one : ∀ u, u < b → vS b [dgS u] 0 = u := fun u h => by
    show 0 * b + dV (dgS u) = u
    unfold dV
    rw [(dgS_dig (d := u) (by omega)).1]; simp
  intro k
  induction k with
  | zero => intro u hk; rw [fbS_one b u (by omega)]; exact one u (by omega)
  | succ k ih =>
    intro u hk
    by_cases h : u < b
    · rw [fbS_one b u h]; exact one u h
    · have h1 : u / b < u := Nat.div_lt_self (by omega) (by omega)
      have h2 : u % b < b := Nat.mod_lt _ (by omega)
      rw [fbS_snoc b u hb h, vS_snoc, ih (u / b) (by omega)]
      unfold dV
      rw [(dgS_dig (d := u % b) (by omega)).1]
      show u / b * b + u % b = u
      rw [Nat.mul_comm]; exact Nat.div_add_mod u b
theorem vS_mono (b : Nat) (hb : 1 ≤ b) (s : List Nat) : ∀ n, n ≤ vS b s n := by
  induction s with
  | nil => intro n; exact Nat.le_refl _
  | cons c r ih =>
    intro n
    have h1 := ih (n * b + dV c)
    have h2 : n * 1 ≤ n * b := Nat.mul_le_mul_left n hb
    show n ≤ vS b r (n * b + dV c)
    omega
theorem vS_take (b : Nat) (hb : 1 ≤ b) (s : List Nat) (i : Nat) : vS b (s.take i) 0 ≤ vS b s 0 := by
  have h : vS b s 0 = vS b (s.drop i) (vS b (s.take i) 0) := by
    unfold vS
    rw [← List.foldl_append, List.take_append_drop]
  rw [h]
  exact vS_mono b hb _ _

def cFr (s : List Nat) (b i : Int) : Fr := [(0, .p (.str s)), (2, .p (.int .u64 0)), (3, .p (.int .i64 0)), (4, .p (.int .i64 b)), (5, .p (.int .i64 i))]
def cFr1 (s : List Nat) (b n i : Int) : Fr := [(0, .p (.str s)), (2, .p (.int .u64 0)), (3, .p (.int .i64 0)), (4, .p (.int .i64 b)), (6, .p (.int .u64 n)), (7, .p (.int .i64 i))]
theorem c0_loop (hT : TabOk Pd Gd T) (s : List Nat) (b : Nat) (hb : b ≤ 16) (hs : ∀ x ∈ s, ∃ d, d < b ∧ x = dgS d) (hl : s.length ≤ 1000) : ∀ (k i : Nat), i + k = s.length →
    LC Pd Gd 79 0 (cFr s b i) [] (loopAt Pd 26 0) (.exit 0) (cFr s b s.length) [] := by
  intro k
  induction k with
  | zero =>
    intro i hi
    have : i = s.length := by omega
    subst this
    exact LC.leave hT (c0L_l3 (T := T) s b (s.length : Nat) 0) ⟨by simp, trivial⟩ (by simp)
  | succ k ih =>
    intro i hi
    have hlt : i < s.length := by omega
    obtain ⟨d, q1, q2⟩ := hs (s.getD i 0) (by rw [List.getD_eq_getElem?_getD, List.getElem?_eq_getElem hlt]; exact List.getElem_mem hlt)
    have hv := val_rc hT d b q1 hb
    rw [← q2] at hv
    have key := c0L_l2 (T := T) s b i d
    have e : ((i : Int) + 1) = ((i + 1 : Nat) : Int) := by omega
    rw [Int.toNat_natCast, e] at key
    refine LC.go hT key ⟨?_, ?_, hv, ?_, ?_, trivial⟩ (ih (i + 1) (by omega))
    all_goals (simp only [zA, zB, zC, zD, zE, zF, zG, zH, zI, zJ, zK, zL, zM, zN, zO, zP, zQ, zR, zS, zT, zU, zV, zW, zX, zY, zZ]; omega)
theorem c1_loop (hT : TabOk Pd Gd T) (s : List Nat) (b : Nat) (hb1 : 2 ≤ b) (hb : b ≤ 16) (hs : ∀ x ∈ s, ∃ d, d < b ∧ x = dgS d) (hl : s.length ≤ 1000) (hu : vS b s 0 ≤ 9223372036854775807) : ∀ (k i : Nat), i + k = s.length →
    LC Pd Gd 79 0 (cFr1 s b (vS b (s.take i) 0 : Nat) i) [] (loopAt Pd 26 1) (.exit 2) (cFr1 s b (vS b s 0 : Nat) s.length) [] := by
  intro k
  induction k with
  | zero =>
    intro i hi
    have : i = s.length := by omega
    subst this
    rw [List.take_length]
    exact LC.leave hT (c1L_l3 (T := T) s b (vS b s 0 : Nat) (s.length : Nat) 0) ⟨by simp, trivial⟩ (by simp)
  | succ k ih =>
    intro i hi
    have hlt : i < s.length := by omega
    obtain ⟨d, q1, q2⟩ := hs (s.getD i 0) (by rw [List.getD_eq_getElem?_getD, List.getElem?_eq_getElem hlt]; exact List.getElem_mem hlt)
    have hv := val_rc hT d b q1 hb
    rw [← q2] at hv
    have ht : s.take (i + 1) = s.take i ++ [s.getD i 0] := by
      rw [List.take_add_one, List.getElem?_eq_getElem hlt, List.getD_eq_getElem?_getD, List.getElem?_eq_getElem hlt]; rfl
    have hn : vS b (s.take (i + 1)) 0 = vS b (s.take i) 0 * b + d := by
      rw [ht, vS_snoc, q2]
      unfold dV
      rw [(dgS_dig (d := d) (by omega)).1]; rfl
    have hle := vS_take b (by omega) s (i + 1)
    have ih' := ih (i + 1) (by omega)
    rw [hn] at hle ih'
    generalize vS b (s.take i) 0 = n at *
    have key := c1L_l2 (T := T) s b n i d
    have e : ((i : Int) + 1) = ((i + 1 : Nat) : Int) := by omega
    have e2 : ((n : Int) * (b : Int) + (d : Int)) = ((n * b + d : Nat) : Int) := by rw [Int.natCast_add, Int.natCast_mul]
    have e3 : ((n : Int) * (b : Int)) = ((n * b : Nat) : Int) := by rw [Int.natCast_mul]
    have e4 : ((9223372036854775808 : Int) - (d : Int)) = ((9223372036854775808 - d : Nat) : Int) := by omega
    have e5 : (((9223372036854775808 - d : Nat) : Int).tdiv (b : Int)) = (((9223372036854775808 - d) / b : Nat) : Int) := (Int.ofNat_tdiv _ _).symm
    rw [Int.toNat_natCast, e, e2, e3, e4, e5] at key
    have h6 : n ≤ (9223372036854775808 - d) / b := by rw [Nat.le_div_iff_mul_le (by omega)]; omega
    have h7 : (9223372036854775808 - d) / b ≤ 9223372036854775808 - d := Nat.div_le_self _ _
    refine LC.go hT key ⟨?_, ?_, ?_, ?_, ?_, ?_, ?_, ?_, ?_, hv, ?_, ?_, trivial⟩ ih'
    all_goals first
      | (simp only [zA, zB, zC, zD, zE, zF, zG, zH, zI, zJ, zK, zL, zM, zN, zO, zP, zQ, zR, zS, zT, zU, zV, zW, zX, zY, zZ]; omega)
      | (rw [Bool.and_eq_true]; refine ⟨?_, ?_⟩ <;> (simp only [zA, zB, zC, zD, zE, zF, zG, zH, zI, zJ, zK, zL, zM, zN, zO, zP, zQ, zR, zS, zT, zU, zV, zW, zX, zY, zZ]; omega))

theorem number_x_rc (hT : TabOk Pd Gd T) (u : Nat) (hu : u ≤ 9223372036854775807) : RC Pd Gd 13 [.p (.str (48 :: 120 :: fbS 16 u))] [] (.tup [.p (.int .i64 (u : Nat)), .p (.int .i64 0)]) [] := by
  have hm := fbS_mem 16 (by omega) (by omega) u u (Nat.le_refl _)
  have hl := fb16_len u (by omega)
  have hp := fbS_pos 16 u
  have hv := vS_fbS 16 (by omega) (by omega) u u (Nat.le_refl _)
  have l0 := c0_loop hT (fbS 16 u) 16 (by omega) hm (by omega) _ 0 (by rw [Nat.zero_add])
  have l1 := c1_loop hT (fbS 16 u) 16 (by omega) (by omega) hm (by omega) (by rw [hv]; exact hu) _ 0 (by rw [Nat.zero_add])
  rw [hv] at l1
  have hne : (fbS 16 u == []) = false := beq_eq_false_iff_ne.2 (fun e => by rw [e] at hp; simp at hp)
  have hc : RC Pd Gd 26 [.p (.str (48 :: 120 :: fbS 16 u))] [] (.tup [.p (.int .u64 (u : Nat)), .p (.int .i64 0)]) [] := by
    refine RC.of_runFn hT (cHx_p1 (T := T) (48 :: 120 :: fbS 16 u) (u : Nat)) ⟨l1, l0, hne, ?_, rfl, ?_, rfl, ?_, ?_, trivial⟩
    all_goals (simp only [zA, zB, zC, zD, zE, zF, zG, zH, zI, zJ, zK, zL, zM, zN, zO, zP, zQ, zR, zS, zT, zU, zV, zW, zX, zY, zZ]; omega)
  have hk : RC Pd Gd 18 [.p (.str (48 :: 120 :: fbS 16 u))] [] (.tup [.p (.int .u64 (u : Nat)), .p (.int .i64 0)]) [] := by
    refine RC.of_runFn hT (r6k_p1 (T := T) (48 :: 120 :: fbS 16 u) (u : Nat) 0) ⟨hc, rfl, ?_, rfl, ?_, rfl, trivial⟩
    all_goals (simp only [zA, zB, zC, zD, zE, zF, zG, zH, zI, zJ, zK, zL, zM, zN, zO, zP, zQ, zR, zS, zT, zU, zV, zW, zX, zY, zZ]; omega)
  refine RC.of_runFn hT (r6n_p1 (T := T) (48 :: 120 :: fbS 16 u) (u : Nat)) ⟨?_, rfl, ?_, rfl, hk, trivial⟩
  all_goals (simp only [zA, zB, zC, zD, zE, zF, zG, zH, zI, zJ, zK, zL, zM, zN, zO, zP, zQ, zR, zS, zT, zU, zV, zW, zX, zY, zZ]; omega)

theorem number_o_rc (hT : TabOk Pd Gd T) (u : Nat) (hu : u ≤ 9223372036854775807) : RC Pd Gd 13 [.p (.str (48 :: fbS 8 u))] [] (.tup [.p (.int .i64 (u : Nat)), .p (.int .i64 0)]) [] := by
  have hm := fbS_mem 8 (by omega) (by omega) u u (Nat.le_refl _)
  have hl := fb8_len u (by omega)
  have hp := fbS_pos 8 u
  have hv := vS_fbS 8 (by omega) (by omega) u u (Nat.le_refl _)
  have l0 := c0_loop hT (fbS 8 u) 8 (by omega) hm (by omega) _ 0 (by rw [Nat.zero_add])
  have l1 := c1_loop hT (fbS 8 u) 8 (by omega) (by omega) hm (by omega) (by rw [hv]; exact hu) _ 0 (by rw [Nat.zero_add])
  rw [hv] at l1
  have hne : (fbS 8 u == []) = false := beq_eq_false_iff_ne.2 (fun e => by rw [e] at hp; simp at hp)
  obtain ⟨d, q1, q2⟩ : ∃ d, d < 8 ∧ (fbS 8 u).getD 0 0 = dgS d := by
    obtain ⟨d, q1, q2⟩ := hm ((fbS 8 u).getD 0 0) (by rw [List.getD_eq_getElem?_getD, List.getElem?_eq_getElem hp]; exact List.getElem_mem hp)
    exact ⟨d, q1, q2⟩
  have hd8 : ∀ d < 8, dgS d ≤ 57 := by decide +kernel
  have h57 := hd8 d q1
  have e1 : (48 :: fbS 8 u).getD 1 0 = (fbS 8 u).getD 0 0 := rfl
  have hc : RC Pd Gd 26 [.p (.str (48 :: fbS 8 u))] [] (.tup [.p (.int .u64 (u : Nat)), .p (.int .i64 0)]) [] := by
    by_cases h2 : 2 < (48 :: fbS 8 u).length
    · have key := cOa_p1 (T := T) (48 :: fbS 8 u) (u : Nat)
      rw [e1, q2] at key
      refine RC.of_runFn hT key ⟨l1, l0, hne, ?_, rfl, ?_, ?_, ?_, ?_, ?_, ?_, rfl, ?_, ?_, trivial⟩
      all_goals (simp only [zA, zB, zC, zD, zE, zF, zG, zH, zI, zJ, zK, zL, zM, zN, zO, zP, zQ, zR, zS, zT, zU, zV, zW, zX, zY, zZ] at *; omega)
    · refine RC.of_runFn hT (cOb_p1 (T := T) (48 :: fbS 8 u) (u : Nat)) ⟨l1, l0, hne, ?_, rfl, ?_, ?_, ?_, trivial⟩
      all_goals (simp only [zA, zB, zC, zD, zE, zF, zG, zH, zI, zJ, zK, zL, zM, zN, zO, zP, zQ, zR, zS, zT, zU, zV, zW, zX, zY, zZ] at *; omega)
  have hk : RC Pd Gd 18 [.p (.str (48 :: fbS 8 u))] [] (.tup [.p (.int .u64 (u : Nat)), .p (.int .i64 0)]) [] := by
    refine RC.of_runFn hT (r6k_p1 (T := T) (48 :: fbS 8 u) (u : Nat) 0) ⟨hc, rfl, ?_, rfl, ?_, rfl, trivial⟩
    all_goals (simp only [zA, zB, zC, zD, zE, zF, zG, zH, zI, zJ, zK, zL, zM, zN, zO, zP, zQ, zR, zS, zT, zU, zV, zW, zX, zY, zZ]; omega)
  refine RC.of_runFn hT (r6n_p1 (T := T) (48 :: fbS 8 u) (u : Nat)) ⟨?_, rfl, ?_, rfl, hk, trivial⟩
  all_goals (simp only [zA, zB, zC, zD, zE, zF, zG, zH, zI, zJ, zK, zL, zM, zN, zO, zP, zQ, zR, zS, zT, zU, zV, zW, zX, zY, zZ]; omega)
end
end Go.Vc

/- VeLaw5 -/
namespace Go.Vc
open Go.Sort
set_option linter.unusedVariables false
set_option linter.unusedSimpArgs false

theorem addS_short {st : PS} {x : List Nat} (h : st.out.length + x.length ≤ 65536) : addS st x = { st with out := st.out ++ x } := by
  unfold addS; rw [if_neg (by omega)]
theorem pgF_plain {k c : Nat} {r : List Nat} {st : PS} (h1 : c ≠ 92) (h2 : c ≠ 37) (hd : st.done = false) : pgF (k + 1) (c :: r) st = pgF k r (addS st [c]) := by
  show (if c :: r = [] then st else if st.done = true then st else if c = 92 then _ else if c = 37 then _ else pgF k r (addS st [c])) = _
  rw [if_neg (by simp), if_neg (by rw [hd]; simp), if_neg h1, if_neg h2]
theorem pgF_conv {k : Nat} {r : List Nat} {st : PS} {c : Cv} (h : rdS (37 :: r) = (c, true)) (hd : st.done = false) : pgF (k + 1) (37 :: r) st = pgF k ((37 :: r).drop c.ln) (convF c st) := by
  show (if 37 :: r = [] then st else if st.done = true then st else if (37 : Nat) = 92 then _ else if (37 : Nat) = 37 then
    (if (rdS (37 :: r)).2 = true then pgF k ((37 :: r).drop (rdS (37 :: r)).1.ln) (convF (rdS (37 :: r)).1 st) else _) else _) = _
  rw [if_neg (by simp), if_neg (by rw [hd]; simp), if_neg (by decide), if_pos rfl, h, if_pos rfl]
theorem pgF_nil (k : Nat) (st : PS) : pgF k [] st = st := by
  cases k with
  | zero => rfl
  | succ k => show (if ([] : List Nat) = [] then st else _) = st; rw [if_pos rfl]
theorem convF_num {c : Cv} {n : Int} {o : List Nat} {us : Bool} (h0 : -9223372036854775808 ≤ n) (h1 : n ≤ 9223372036854775807) (hc : c.le ≠ 37 ∧ c.le ≠ 99 ∧ c.le ≠ 115 ∧ c.le ≠ 98) (hl : o.length + (digS c n).length ≤ 65536) :
    convF c ⟨o, [itoaS n], us, false, []⟩ = ⟨o ++ digS c n, [], true, false, []⟩ := by
  obtain ⟨q1, q2⟩ := numV_itoa n h0 h1 []
  unfold convF
  rw [if_neg hc.1, if_neg hc.2.1, if_neg hc.2.2.1, if_neg hc.2.2.2]
  have e1 : opX ⟨o, [itoaS n], us, false, []⟩ = itoaS n := rfl
  have e2 : opS ⟨o, [itoaS n], us, false, []⟩ = ⟨o, [], true, false, []⟩ := rfl
  rw [e1, e2, q1]
  show addS ⟨o, [], true, false, numM [] (itoaS n)⟩ (digS c n) = _
  rw [q2, addS_short hl]
theorem printf1 {f s : List Nat} {r : PS} (h : passG f (startP [s]) = r) (hl : r.left = []) : printfS (passG f) [s] = r := by
  show runP (passG f) 1 (passG f (startP [s])) = r
  rw [h]
  unfold runP
  rw [if_neg (fun h => h.2.2 hl)]

theorem dgAf_blank (ze : Bool) (w : Nat) (hz : ze = true → w = 0) (n : Int) (g s : List Nat) : dgAf false ze false (w : Nat) 0 n g s = List.replicate (w - (g ++ s).length) 32 ++ (g ++ s) := by
  have e0 : (if ze = true ∧ false = false ∧ false = false then List.replicate (((w : Nat) : Int) - (g.length : Nat) - (s.length : Nat)).toNat 48 ++ s else s) = s := by
    split
    · rename_i h
      have e : (((w : Nat) : Int) - (g.length : Nat) - (s.length : Nat)).toNat = 0 := by have := hz h.1; omega
      rw [e]; rfl
    · rfl
  have e1 : (((w : Nat) : Int) - ((g ++ s).length : Nat)).toNat = w - (g ++ s).length := by omega
  unfold dgAf dgBf dgCf fillI
  simp only [Bool.false_eq_true, false_and, if_false, cond_false]
  simp only [Bool.false_eq_true, and_self, and_true] at e0 ⊢
  rw [e0, e1]
theorem itoaS_cons {n : Int} (h : n < 0) : [45] ++ (itoaS n).drop 1 = itoaS n := by
  obtain ⟨u, rfl, hu⟩ : ∃ u : Nat, n = -(u : Int) ∧ 0 < u := ⟨n.natAbs, by omega, by omega⟩
  rw [itoaS_neg u hu]; rfl
theorem digS_dec (ze : Bool) (w le ln : Nat) (hle : le = 100 ∨ le = 105) (hz : ze = true → w = 0) (n : Int) : digS ⟨false, ze, false, w, 0, false, le, ln⟩ n = List.replicate (w - (itoaS n).length) 32 ++ itoaS n := by
  show dgMf false ze false false (w : Nat) 0 (le : Nat) n = _
  unfold dgMf
  rw [if_pos (by omega)]
  by_cases h : n < 0
  · rw [if_pos h, dgAf_blank ze w hz, itoaS_cons h]
  · rw [if_neg h, if_neg (by simp), dgAf_blank ze w hz]; rfl
theorem digS_hex (ln u : Nat) (hu : u < 18446744073709551616) : digS ⟨false, false, false, 0, 0, false, 120, ln⟩ (u : Int) = fbS 16 u := by
  show dgMf false false false false 0 0 120 (u : Int) = _
  have e : u64 (u : Int) = u := by unfold u64; omega
  unfold dgMf
  rw [if_neg (by decide), if_pos rfl, e]
  have := dgAf_blank false 0 (fun h => by cases h) (u : Int) [] (fbS 16 u)
  rw [Nat.zero_sub] at this
  exact this
theorem digS_oct (ln u : Nat) (hu : u < 18446744073709551616) : digS ⟨false, false, false, 0, 0, false, 111, ln⟩ (u : Int) = fbS 8 u := by
  show dgMf false false false false 0 0 111 (u : Int) = _
  have e : u64 (u : Int) = u := by unfold u64; omega
  unfold dgMf
  rw [if_neg (by decide), if_neg (by decide), if_pos rfl, e]
  have := dgAf_blank false 0 (fun h => by cases h) (u : Int) [] (fbS 8 u)
  rw [Nat.zero_sub] at this
  exact this

/-! ### the formats -/
def dec3 (w : Nat) : List Nat := if w < 10 then [48 + w] else if w < 100 then [48 + w / 10, 48 + w % 10] else [48 + w / 100, 48 + w / 10 % 10, 48 + w % 10]
theorem decS_dec3 (w : Nat) (h : w < 256) : decS w = dec3 w := by
  have hd : ∀ d < 10, dgS d = 48 + d := by decide +kernel
  rw [decS_fbS w w (Nat.le_refl _)]
  unfold dec3
  by_cases h1 : w < 10
  · rw [if_pos h1, fbS_one 10 w h1, hd w h1]
  · rw [if_neg h1, fbS_snoc 10 w (by omega) h1, hd (w % 10) (by omega)]
    by_cases h2 : w < 100
    · rw [if_pos h2, fbS_one 10 (w / 10) (by omega), hd (w / 10) (by omega)]; rfl
    · rw [if_neg h2, fbS_snoc 10 (w / 10) (by omega) (by omega), hd (w / 10 % 10) (by omega), fbS_one 10 (w / 10 / 10) (by omega), hd (w / 10 / 10) (by omega), Nat.div_div_eq_div_mul]; rfl
def cvEq (a b : Cv) : Bool := a.mi == b.mi && a.ze == b.ze && a.pl == b.pl && a.wi == b.wi && a.pr == b.pr && a.ex == b.ex && a.le == b.le && a.ln == b.ln
theorem cvEq_eq {a b : Cv} (h : cvEq a b = true) : a = b := by
  obtain ⟨a1, a2, a3, a4, a5, a6, a7, a8⟩ := a
  obtain ⟨b1, b2, b3, b4, b5, b6, b7, b8⟩ := b
  simp only [cvEq, Bool.and_eq_true, beq_iff_eq] at h
  obtain ⟨⟨⟨⟨⟨⟨⟨h1, h2⟩, h3⟩, h4⟩, h5⟩, h6⟩, h7⟩, h8⟩ := h
  subst h1 h2 h3 h4 h5 h6 h7 h8
  rfl
def cvW (w : Nat) : Cv := ⟨false, w == 0, false, w, 0, false, 105, (dec3 w).length + 2⟩
theorem rdS_w (w : Nat) (h : w < 256) : rdS (37 :: (decS w ++ [105])) = (cvW w, true) := by
  have hc : ∀ w < 256, (cvEq (rdS (37 :: (dec3 w ++ [105]))).1 (cvW w) && (rdS (37 :: (dec3 w ++ [105]))).2) = true := by decide +kernel
  have h1 := hc w h
  rw [Bool.and_eq_true] at h1
  rw [decS_dec3 w h]
  exact Prod.ext (cvEq_eq h1.1) h1.2
theorem rdS_lit (le : Nat) (h : le = 100 ∨ le = 120 ∨ le = 111) : rdS [37, le] = (⟨false, false, false, 0, 0, false, le, 2⟩, true) := by
  have h1 : (cvEq (rdS [37, le]).1 ⟨false, false, false, 0, 0, false, le, 2⟩ && (rdS [37, le]).2) = true := by
    rcases h with rfl | rfl | rfl <;> decide +kernel
  rw [Bool.and_eq_true] at h1
  exact Prod.ext (cvEq_eq h1.1) h1.2
theorem pass_dec (n : Int) (h0 : -9223372036854775808 ≤ n) (h1 : n ≤ 9223372036854775807) : printfS (passG [37, 100]) [itoaS n] = ⟨itoaS n, [], true, false, []⟩ := by
  have hd := digS_dec false 0 100 2 (.inl rfl) (fun h => by cases h) n
  rw [Nat.zero_sub] at hd
  have hd' : digS ⟨false, false, false, 0, 0, false, 100, 2⟩ n = itoaS n := hd
  have hl := itoaS_len n h0 h1
  refine printf1 ?_ rfl
  show pgF 2 [37, 100] ⟨[], [itoaS n], false, false, []⟩ = _
  rw [pgF_conv (rdS_lit 100 (.inl rfl)) rfl, convF_num h0 h1 (by decide) (by rw [hd']; simp; omega), hd']
  exact pgF_nil _ _
theorem pass_w (w : Nat) (hw : w < 256) (n : Int) (h0 : -9223372036854775808 ≤ n) (h1 : n ≤ 9223372036854775807) :
    printfS (passG (37 :: (decS w ++ [105]))) [itoaS n] = ⟨List.replicate (w - (itoaS n).length) 32 ++ itoaS n, [], true, false, []⟩ := by
  have hd : digS (cvW w) n = List.replicate (w - (itoaS n).length) 32 ++ itoaS n := digS_dec (w == 0) w 105 _ (.inr rfl) (fun h => by simpa using h) n
  have hl := itoaS_len n h0 h1
  refine printf1 ?_ rfl
  have hlen : (37 :: (decS w ++ [105])).length = (dec3 w).length + 2 := by rw [decS_dec3 w hw]; simp
  show pgF (37 :: (decS w ++ [105])).length (37 :: (decS w ++ [105])) ⟨[], [itoaS n], false, false, []⟩ = _
  rw [hlen]
  have hdrop : (37 :: (decS w ++ [105])).drop (cvW w).ln = [] := List.drop_eq_nil_of_le (by rw [hlen]; exact Nat.le_refl _)
  rw [pgF_conv (rdS_w w hw) rfl, hdrop, convF_num h0 h1 (show (105 : Nat) ≠ 37 ∧ (105 : Nat) ≠ 99 ∧ (105 : Nat) ≠ 115 ∧ (105 : Nat) ≠ 98 by decide) (by rw [hd]; simp; omega), hd]
  exact pgF_nil _ _
theorem pass_hex (u : Nat) (hu : u ≤ 9223372036854775807) : printfS (passG [48, 120, 37, 120]) [itoaS (u : Int)] = ⟨48 :: 120 :: fbS 16 u, [], true, false, []⟩ := by
  have hd := digS_hex 2 u (by omega)
  have hl := fb16_len u (by omega)
  refine printf1 ?_ rfl
  show pgF 4 [48, 120, 37, 120] ⟨[], [itoaS (u : Int)], false, false, []⟩ = _
  rw [pgF_plain (by decide) (by decide) rfl, addS_short (by simp), pgF_plain (by decide) (by decide) rfl, addS_short (by simp)]
  rw [pgF_conv (rdS_lit 120 (.inr (.inl rfl))) rfl]
  show pgF 1 [] (convF _ ⟨[48, 120], [itoaS (u : Int)], false, false, []⟩) = _
  rw [convF_num (by omega) (by omega) (by decide) (by rw [hd]; simp; omega), hd]
  exact pgF_nil _ _
theorem pass_oct (u : Nat) (hu : u ≤ 9223372036854775807) : printfS (passG [48, 37, 111]) [itoaS (u : Int)] = ⟨48 :: fbS 8 u, [], true, false, []⟩ := by
  have hd := digS_oct 2 u (by omega)
  have hl := fb8_len u (by omega)
  refine printf1 ?_ rfl
  show pgF 3 [48, 37, 111] ⟨[], [itoaS (u : Int)], false, false, []⟩ = _
  rw [pgF_plain (by decide) (by decide) rfl, addS_short (by simp)]
  rw [pgF_conv (rdS_lit 111 (.inr (.inr rfl))) rfl]
  show pgF 1 [] (convF _ ⟨[48], [itoaS (u : Int)], false, false, []⟩) = _
  rw [convF_num (by omega) (by omega) (by decide) (by rw [hd]; simp; omega), hd]
  exact pgF_nil _ _

theorem itoaS_bytes (n : Int) (h0 : -9223372036854775808 ≤ n) (h1 : n ≤ 9223372036854775807) : ∀ x ∈ itoaS n, x < 256 := by
  intro x hx
  unfold itoaS at hx
  obtain ⟨y, _, rfl⟩ := List.mem_map.1 hx
  exact y.toNat_lt
theorem decS_bytes (u : Nat) : ∀ x ∈ decS u, x < 256 := by
  intro x hx
  unfold decS at hx
  obtain ⟨y, _, rfl⟩ := List.mem_map.1 hx
  exact y.toNat_lt

section
variable {T : Tab}
theorem printf_two (hT : TabOk Pd Gd T) {f s o : List Nat} (hf : ∀ x ∈ f, x < 256) (hs : ∀ x ∈ s, x < 256) (hfl : f.length ≤ 1000) (hsl : s.length ≤ 1000) (h : printfS (passG f) [s] = ⟨o, [], true, false, []⟩) :
    RC Pd Gd 11 [.sl 0 0 2 1] [some (.cells [.p (.str f), .p (.str s)] .any)] (.tup [.p (.str o), .p (.str []), .p (.int .i64 0)]) [none] := by
  have h1 := (Printf_rc hT [f, s] (by intro y hy; simp only [List.mem_cons, List.not_mem_nil, or_false] at hy; rcases hy with rfl | rfl; exact hf; exact hs) (by simp) (by intro y hy; simp only [List.mem_cons, List.not_mem_nil, or_false] at hy; rcases hy with rfl | rfl; exact hfl; exact hsl)).1
  have e1 : prO [f, s] = o := by show (printfS (passG f) [s]).out = o; rw [h]
  have e2 : prM [f, s] = [] := by show (printfS (passG f) [s]).msg = []; rw [h]
  have e3 : prN [f, s] = 0 := by show (if (printfS (passG f) [s]).msg = [] then (0 : Int) else 1) = 0; rw [h]; rfl
  rw [e1, e2, e3] at h1
  have h2 := RC.lift h1 [none] rfl rfl
  exact RC.sl_arg (H := [some (.cells (List.map .p [.str f, .str s]) .any)]) (i := 0) rfl h2 (by intro h; cases h)

theorem nl_p4 (n wd : Int) (s w b x o : List Nat) (y z : Int) : runFn Pd Gd T 100000 false [.callv (.p (.str s)) [], .callv (.tup [.p (.str s), .p (.str []), .p (.int .i64 0)]) [none], .callv (.p (.str w)) [], .callv (.tup [.p (.str b), .p (.str []), .p (.int .i64 0)]) [none], .br false, .br false, .br false, .br false, .br false, .tr 999999 (Tr.weak [0, 4, 5, 9, 12] [] []), .code (.exit 0) [(0, .p (.int .i64 n)), (4, .kb false), (5, .p (.str s)), (9, .p (.str b)), (12, .p (.int .i64 ((↑b.length : Int) - (↑s.length : Int))))] [], .br true, .callv (.p (.bool true)) []] 5 [.p (.int .i64 n), .p (.int .u8 wd)] [] = some ([RC Pd Gd 8 [] [] (.p (.bool true)) [], decide (n < 0) = true, LC Pd Gd 135 0 [(0, .p (.int .i64 n)), (4, .kb false), (5, .p (.str s)), (9, .p (.str b)), (12, .p (.int .i64 0))] [] (loopAt Pd 5 0) (.exit 0) [(0, .p (.int .i64 n)), (4, .kb false), (5, .p (.str s)), (9, .p (.str b)), (12, .p (.int .i64 ((↑b.length : Int) - (↑s.length : Int))))] [], (!List.drop ((↑b.length : Int) - (↑s.length : Int)).toNat b == s) = false, (decide (0 ≤ (↑b.length : Int) - (↑s.length : Int)) && decide ((↑b.length : Int) - (↑s.length : Int) ≤ (↑b.length : Int))) = true, fitsK .i64 ((↑b.length : Int) - (↑s.length : Int)) = true, ((↑b.length : Int) != if wd > (↑s.length : Int) then wd else (↑s.length : Int)) = false, fitsK .i64 wd = true, false = false, false = false, (!s == s) = false, RC Pd Gd 11 [.sl 0 0 2 1] [some (.cells [.p (.str ([37] ++ w ++ [105])), .p (.str s)] .any)] (.tup [.p (.str b), .p (.str []), .p (.int .i64 0)]) [none], decide ((bytesOf { data := #[37] } ++ w).length + (bytesOf { data := #[105] }).length ≤ 4611686018427387904) = true, decide ((bytesOf { data := #[37] }).length + w.length ≤ 4611686018427387904) = true, RC Pd Gd 12 [.p (.int .i64 wd)] [] (.p (.str w)) [], fitsK .i64 wd = true, RC Pd Gd 11 [.sl 0 0 2 1] [some (.cells [.p (.str [37, 100]), .p (.str s)] .any)] (.tup [.p (.str s), .p (.str []), .p (.int .i64 0)]) [none], RC Pd Gd 12 [.p (.int .i64 n)] [] (.p (.str s)) []], .p (.bool true), []) := by kernel_rfl
theorem nl_p5 (n wd : Int) (s w b x o : List Nat) (y z : Int) : runW Pd Gd T 100000 false [.callv (.p (.str s)) [], .callv (.tup [.p (.str s), .p (.str []), .p (.int .i64 0)]) [none], .callv (.p (.str w)) [], .callv (.tup [.p (.str b), .p (.str []), .p (.int .i64 0)]) [none], .br false, .br false, .br false, .br false, .br false, .tr 999999 (Tr.weak [0, 4, 5, 9, 12] [] []), .code (.exit 0) [(0, .p (.int .i64 n)), (4, .kb false), (5, .p (.str s)), (9, .p (.str b)), (12, .p (.int .i64 ((↑b.length : Int) - (↑s.length : Int))))] [], .br false, .callv (.tup [.p (.str x), .p (.str []), .p (.int .i64 0)]) [none], .callv (.tup [.p (.str o), .p (.str []), .p (.int .i64 0)]) [none], .callv (.tup [.p (.int .i64 n), .p (.int .i64 0)]) [], .callv (.tup [.p (.int .i64 n), .p (.int .i64 0)]) [], .br true, .br true, .br true, .br true, .callv (.p (.bool true)) []] [] [] 5 [.p (.int .i64 n), .p (.int .u8 wd)] [] = some ([RC Pd Gd 8 [] [] (.p (.bool true)) [], true = true, (n == n) = true, true = true, (n == n) = true, RC Pd Gd 13 [.p (.str o)] [] (.tup [.p (.int .i64 n), .p (.int .i64 0)]) [], RC Pd Gd 13 [.p (.str x)] [] (.tup [.p (.int .i64 n), .p (.int .i64 0)]) [], RC Pd Gd 11 [.sl 0 0 2 1] [some (.cells [.p (.str [48, 37, 111]), .p (.str s)] .any)] (.tup [.p (.str o), .p (.str []), .p (.int .i64 0)]) [none], RC Pd Gd 11 [.sl 0 0 2 1] [some (.cells [.p (.str [48, 120, 37, 120]), .p (.str s)] .any)] (.tup [.p (.str x), .p (.str []), .p (.int .i64 0)]) [none], decide (n < 0) = false, LC Pd Gd 135 0 [(0, .p (.int .i64 n)), (4, .kb false), (5, .p (.str s)), (9, .p (.str b)), (12, .p (.int .i64 0))] [] (loopAt Pd 5 0) (.exit 0) [(0, .p (.int .i64 n)), (4, .kb false), (5, .p (.str s)), (9, .p (.str b)), (12, .p (.int .i64 ((↑b.length : Int) - (↑s.length : Int))))] [], (!List.drop ((↑b.length : Int) - (↑s.length : Int)).toNat b == s) = false, (decide (0 ≤ (↑b.length : Int) - (↑s.length : Int)) && decide ((↑b.length : Int) - (↑s.length : Int) ≤ (↑b.length : Int))) = true, fitsK .i64 ((↑b.length : Int) - (↑s.length : Int)) = true, ((↑b.length : Int) != if wd > (↑s.length : Int) then wd else (↑s.length : Int)) = false, fitsK .i64 wd = true, false = false, false = false, (!s == s) = false, RC Pd Gd 11 [.sl 0 0 2 1] [some (.cells [.p (.str ([37] ++ w ++ [105])), .p (.str s)] .any)] (.tup [.p (.str b), .p (.str []), .p (.int .i64 0)]) [none], decide ((bytesOf { data := #[37] } ++ w).length + (bytesOf { data := #[105] }).length ≤ 4611686018427387904) = true, decide ((bytesOf { data := #[37] }).length + w.length ≤ 4611686018427387904) = true, RC Pd Gd 12 [.p (.int .i64 wd)] [] (.p (.str w)) [], fitsK .i64 wd = true, RC Pd Gd 11 [.sl 0 0 2 1] [some (.cells [.p (.str [37, 100]), .p (.str s)] .any)] (.tup [.p (.str s), .p (.str []), .p (.int .i64 0)]) [none], RC Pd Gd 12 [.p (.int .i64 n)] [] (.p (.str s)) []], .p (.bool true), []) := by kernel_rfl
theorem nlL_l2 (n : Int) (s b : List Nat) (i : Int) : runC Pd Gd T 100000 false [.br true, .br false] 135 0 [(0, .p (.int .i64 n)), (4, .kb false), (5, .p (.str s)), (9, .p (.str b)), (12, .p (.int .i64 i))] [] (loopAt Pd 5 0) [0, 4, 5, 9, 12] [] [] = some ([fitsK .i64 (i + 1) = true, ((↑(b.getD i.toNat 0) : Int) != 32) = false, (decide (0 ≤ i) && decide (i < (↑b.length : Int))) = true, decide (i < (↑b.length : Int) - (↑s.length : Int)) = true, fitsK .i64 ((↑b.length : Int) - (↑s.length : Int)) = true], .normal, [(0, .p (.int .i64 n)), (4, .kb false), (5, .p (.str s)), (9, .p (.str b)), (12, .p (.int .i64 (i + 1)))], []) := by kernel_rfl
theorem nlL_l3 (n : Int) (s b : List Nat) (i : Int) : runC Pd Gd T 100000 false [.br false] 135 0 [(0, .p (.int .i64 n)), (4, .kb false), (5, .p (.str s)), (9, .p (.str b)), (12, .p (.int .i64 i))] [] (loopAt Pd 5 0) [0, 4, 5, 9, 12] [] [] = some ([decide (i < (↑b.length : Int) - (↑s.length : Int)) = false, fitsK .i64 ((↑b.length : Int) - (↑s.length : Int)) = true], .exit 0, [(0, .p (.int .i64 n)), (4, .kb false), (5, .p (.str s)), (9, .p (.str b)), (12, .p (.int .i64 i))], []) := by kernel_rfl

def nlFr (n : Int) (s b : List Nat) (i : Int) : Fr := [(0, .p (.int .i64 n)), (4, .kb false), (5, .p (.str s)), (9, .p (.str b)), (12, .p (.int .i64 i))]
theorem nl_loop (hT : TabOk Pd Gd T) (n : Int) (s : List Nat) (m : Nat) (hm : m ≤ 1000) (hs : s.length ≤ 1000) : ∀ (k i : Nat), i + k = m →
    LC Pd Gd 135 0 (nlFr n s (List.replicate m 32 ++ s) i) [] (loopAt Pd 5 0) (.exit 0) (nlFr n s (List.replicate m 32 ++ s) (((List.replicate m 32 ++ s).length : Nat) - (s.length : Nat) : Int)) [] := by
  intro k
  have hlen : (List.replicate m 32 ++ s).length = m + s.length := by simp
  have hz : (((List.replicate m 32 ++ s).length : Nat) - (s.length : Nat) : Int) = (m : Nat) := by rw [hlen]; omega
  rw [hz]
  induction k with
  | zero =>
    intro i hi
    have : i = m := by omega
    subst this
    refine LC.leave hT (nlL_l3 (T := T) n s (List.replicate i 32 ++ s) (i : Nat)) ⟨?_, ?_, trivial⟩ (by simp)
    · rw [hz, decide_eq_false_iff_not]; omega
    · rw [hz]; simp only [zA, zB, zC, zD, zE, zF, zG, zH, zI, zJ, zK, zL, zM, zN, zO, zP, zQ, zR, zS, zT, zU, zV, zW, zX, zY, zZ]; omega
  | succ k ih =>
    intro i hi
    have hg : (List.replicate m 32 ++ s).getD i 0 = 32 := by
      rw [List.getD_eq_getElem?_getD, List.getElem?_append_left (by simp; omega), List.getElem?_replicate, if_pos (by omega)]
      rfl
    have key := nlL_l2 (T := T) n s (List.replicate m 32 ++ s) (i : Nat)
    have e : ((i : Int) + 1) = ((i + 1 : Nat) : Int) := by omega
    rw [Int.toNat_natCast, hg, hz, e] at key
    refine LC.go hT key ⟨?_, rfl, ?_, ?_, ?_, trivial⟩ (ih (i + 1) (by omega))
    all_goals (try rw [hlen]); (simp only [zA, zB, zC, zD, zE, zF, zG, zH, zI, zJ, zK, zL, zM, zN, zO, zP, zQ, zR, zS, zT, zU, zV, zW, zX, zY, zZ]; omega)

theorem numbersLaw_rc (n : Int) (w : Nat) (h0 : -9223372036854775808 ≤ n) (h1 : n ≤ 9223372036854775807) (hw : w < 256) : RC Pd Gd 5 [.p (.int .i64 n), .p (.int .u8 (w : Nat))] [] (.p (.bool true)) [] := by
  have hT := T0_ok Gd
  have hd := decimal_rc hT n h0 h1
  have hdw := decimal_rc hT (w : Int) (by omega) (by omega)
  rw [itoaS_nat] at hdw
  have hsl := itoaS_len n h0 h1
  have hwl := decS_len w (by omega)
  have hsb := itoaS_bytes n h0 h1
  have hp1 := printf_two hT (f := [37, 100]) (by decide) hsb (by simp) (by omega) (pass_dec n h0 h1)
  have hp2 := printf_two hT (f := 37 :: (decS w ++ [105])) (by
    intro x hx
    simp only [List.mem_cons, List.mem_append, List.not_mem_nil, or_false] at hx
    rcases hx with rfl | hx | rfl
    · decide
    · exact decS_bytes w x hx
    · decide) hsb (by simp; omega) (by omega) (pass_w w hw n h0 h1)
  have hlp := nl_loop hT n (itoaS n) (w - (itoaS n).length) (by omega) (by omega) _ 0 (by rw [Nat.zero_add])
  have hbl : (List.replicate (w - (itoaS n).length) 32 ++ itoaS n).length = w - (itoaS n).length + (itoaS n).length := by simp
  have hdr : List.drop (w - (itoaS n).length) (List.replicate (w - (itoaS n).length) 32 ++ itoaS n) = itoaS n := by
    rw [List.drop_append_of_le_length (by simp)]
    simp
  generalize hs : itoaS n = s at *
  generalize hb : List.replicate (w - s.length) 32 ++ s = b at *
  have hto : ((b.length : Int) - (s.length : Int)).toNat = w - s.length := by omega
  have o1 : (!List.drop ((b.length : Int) - (s.length : Int)).toNat b == s) = false := by rw [hto, hdr]; simp
  have o2 : ((b.length : Int) != if (w : Int) > (s.length : Int) then (w : Int) else (s.length : Int)) = false := by
    rw [bne_f]; split <;> omega
  have o3 : (!s == s) = false := by simp
  by_cases hn : n < 0
  · refine RC.of_runFn hT (nl_p4 (T := T0) n (w : Int) s (decS w) b [] [] 0 0) ?_
    simp only [AllT]
    repeat' (first | exact trivial | exact awake_rc | exact hd | exact hdw | exact hp1 | exact hp2 | exact hlp | exact o1 | exact o2 | exact o3 | apply And.intro)
    all_goals first
      | rfl
      | exact beq_self_eq_true _
      | (simp only [zA, zB, zC, zD, zE, zF, zG, zH, zI, zJ, zK, zL, zM, zN, zO, zP, zQ, zR, zS, zT, zU, zV, zW, zX, zY, zZ]; omega)
      | (rw [decide_eq_true_eq]; show 1 + _ ≤ _; omega)
      | (rw [decide_eq_true_eq]; simp only [List.length_append]; show 1 + _ + 1 ≤ _; omega)
  · obtain ⟨u, rfl⟩ : ∃ u : Nat, n = u := ⟨n.toNat, by omega⟩
    have hu : u ≤ 9223372036854775807 := by omega
    have hx := pass_hex u hu
    have ho := pass_oct u hu
    rw [hs] at hx ho
    have hp3 := printf_two hT (f := [48, 120, 37, 120]) (by decide) hsb (by simp) (by omega) hx
    have hp4 := printf_two hT (f := [48, 37, 111]) (by decide) hsb (by simp) (by omega) ho
    have hx2 := number_x_rc hT u hu
    have ho2 := number_o_rc hT u hu
    refine RC.of_run hT (nl_p5 (T := T0) (u : Int) (w : Int) s (decS w) b (48 :: 120 :: fbS 16 u) (48 :: fbS 8 u) 0 0) ?_
    simp only [AllT]
    repeat' (first | exact trivial | exact awake_rc | exact hd | exact hdw | exact hp1 | exact hp2 | exact hp3 | exact hp4 | exact hx2 | exact ho2 | exact hlp | exact o1 | exact o2 | exact o3 | apply And.intro)
    all_goals first
      | rfl
      | exact beq_self_eq_true _
      | (simp only [zA, zB, zC, zD, zE, zF, zG, zH, zI, zJ, zK, zL, zM, zN, zO, zP, zQ, zR, zS, zT, zU, zV, zW, zX, zY, zZ]; omega)
      | (rw [decide_eq_true_eq]; show 1 + _ ≤ _; omega)
      | (rw [decide_eq_true_eq]; simp only [List.length_append]; show 1 + _ + 1 ≤ _; omega)
end
end Go.Vc
