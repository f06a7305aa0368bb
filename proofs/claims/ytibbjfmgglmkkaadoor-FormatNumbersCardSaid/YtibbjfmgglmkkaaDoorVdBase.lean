/- Own texts of the proof, put together: VdBase. -/
import Derived.Test.YtibbjfmgglmkkaaDoorVcEl
import Derived.Test.YtibbjfmgglmkkaaDoorProg
/- VdJoin2 -/
namespace Go.Vc
set_option linter.unusedVariables false
set_option linter.unusedSimpArgs false

noncomputable abbrev Pd : Program := Go.Proofs.Tryd.prog

section
variable {G : Glob} {T : Tab}

def totLen : List (List Nat) → Nat
  | [] => 0
  | x :: r => x.length + totLen r

theorem totLen_drop (l : List (List Nat)) (i : Nat) (h : i < l.length) : totLen (l.drop i) = (l.getD i []).length + totLen (l.drop (i + 1)) := by
  rw [List.drop_eq_getElem_cons h]
  simp [totLen, List.getD_eq_getElem?_getD, h]

def joinFr1 (l : List (List Nat)) (s : List Nat) (i n : Int) : Fr :=
  [(41, .p (.int .i64 i)), (40, .p (.int .i64 (l.length : Nat))), (39, .p (.lst l.length (l.map PV.str))), (5, .p (.int .i64 n)), (4, .p (.str [])), (0, .p (.lst l.length (l.map PV.str))), (1, .p (.str s))]

theorem join1_go (l : List (List Nat)) (s : List Nat) (i n : Int) (x : List Nat) : runC Pd G T 100000 false [.br true, .is 44 (.p (.str x)), .br false] 75 0 (joinFr1 l s i n) [] (loopAt Pd 14 0) [41, 40, 39, 5, 4, 0, 1] [] [] =
  some ([fitsK .i64 (i + 1) = true, fitsK .i64 (n + (x.length : Nat)) = true, decide (((x.length : Nat) : Int) > 9223372036854775807 - n) = false, fitsK .i64 (9223372036854775807 - n) = true,
      Claim Pd G [(43, .p (.elem (l.map PV.str) (i.toNat * 1))), (42, .p (.bool (decide (i < (l.length : Nat))))), (41, .p (.int .i64 i)), (40, .p (.int .i64 (l.length : Nat))), (39, .p (.lst l.length (l.map PV.str))), (5, .p (.int .i64 n)), (4, .p (.str [])), (0, .p (.lst l.length (l.map PV.str))), (1, .p (.str s))] []
        { dst := some 44, op := Op.load 9 (Operand.tmp 43), type := 9, pos := "strings.go:483", after := #[{ on := 0, ground := Ground.data }], guard := none } (.p (.str x)),
      (decide (0 ≤ i) && decide (i < (l.length : Nat))) = true, decide (i < (l.length : Nat)) = true],
    .normal, joinFr1 l s (i + 1) (n + (x.length : Nat)), []) := by kernel_rfl

theorem join1_leave (l : List (List Nat)) (s : List Nat) (i n : Int) : runC Pd G T 100000 false [.br false] 75 0 (joinFr1 l s i n) [] (loopAt Pd 14 0) [41, 40, 39, 5, 4, 0, 1] [] [] =
  some ([decide (i < (l.length : Nat)) = false], .exit 1, joinFr1 l s i n, []) := by kernel_rfl

theorem join1 (hT : TabOk Pd G T) (l : List (List Nat)) (s : List Nat) : ∀ (k i n : Nat), i + k = l.length → n + totLen (l.drop i) ≤ 1099511627776 → l.length ≤ 1099511627776 →
    LC Pd G 75 0 (joinFr1 l s i n) [] (loopAt Pd 14 0) (.exit 1) (joinFr1 l s l.length ((n + totLen (l.drop i) : Nat) : Int)) [] := by
  intro k
  induction k with
  | zero =>
    intro i n hi hn hl
    have e : i = l.length := by omega
    subst e
    have e2 : n + totLen (l.drop l.length) = n := by simp [totLen]
    rw [e2]
    exact LC.leave hT (join1_leave l s _ _) ⟨by simp, trivial⟩ (by simp)
  | succ k ih =>
    intro i n hi hn hl
    have hlt : i < l.length := by omega
    have ht := totLen_drop l i hlt
    have h1 := ih (i + 1) (n + (l.getD i []).length) (by omega) (by omega) hl
    rw [ht, ← Nat.add_assoc]
    refine LC.go hT (join1_go l s _ _ (l.getD i [])) ⟨?_, ?_, ?_, ?_, ?_, ?_, ?_, trivial⟩ (by simpa using h1)
    · simp [fitsK, min_i64, max_i64]; omega
    · simp only [fitsK, min_i64, max_i64, Bool.and_eq_true, decide_eq_true_eq]; omega
    · simp only [decide_eq_false_iff_not]; omega
    · simp only [fitsK, min_i64, max_i64, Bool.and_eq_true, decide_eq_true_eq]; omega
    · refine claim_str (t := 9) rfl (by kernel_rfl) rfl ?_
      rw [Int.toNat_natCast, Nat.mul_one]
      exact strs_get l i hlt
    · simp; omega
    · simp; omega
/-- Each of a list's strings, with what goes ahead of it. -/
def tailsL (s : List Nat) : List (List Nat) → List Nat
  | [] => []
  | x :: r => s ++ (x ++ tailsL s r)

theorem tailsL_drop (s : List Nat) (l : List (List Nat)) (i : Nat) (h : i < l.length) : tailsL s (l.drop i) = s ++ (l.getD i [] ++ tailsL s (l.drop (i + 1))) := by
  rw [List.drop_eq_getElem_cons h]
  simp [tailsL, List.getD_eq_getElem?_getD, h]

def joinFr2 (ps : List PV) (m : Nat) (s : List Nat) (i : Int) : Fr :=
  [(65, .p (.int .i64 i)), (64, .p (.int .i64 (m : Nat))), (63, .p (.lst m ps)), (8, .ptr 0 0), (4, .p (.str [])), (1, .p (.str s))]

def bldH (out : List Nat) : Heap := [some (.cells [.ptr 0 0, .nsl 1 out.length 1] (.obj 39)), some (.bytes out 5)]

theorem join2_go (ps : List PV) (m : Nat) (s out : List Nat) (i : Int) (x : List Nat) : runC Pd G T 100000 false [.br true, .is 68 (.p (.str x)), .inl, .inl, .inl, .inl] 75 0 (joinFr2 ps m s i) (bldH out) (loopAt Pd 14 1) [65, 64, 63, 8, 4, 1] [] [0, 3] =
  some ([fitsK .i64 (i + 1) = true, true = true, (true && decide ((out ++ s).length = (out ++ s).length) && decide ((out ++ s).length + x.length ≤ 1099511627776)) = true,
      true = true, (true && decide (out.length = out.length) && decide (out.length + s.length ≤ 1099511627776)) = true,
      Claim Pd G [(67, .p (.elem ps (i.toNat * 1))), (66, .p (.bool (decide (i < (m : Nat))))), (65, .p (.int .i64 i)), (64, .p (.int .i64 (m : Nat))), (63, .p (.lst m ps)), (8, .ptr 0 0), (4, .p (.str [])), (1, .p (.str s))] (bldH out)
        { dst := some 68, op := Op.load 9 (Operand.tmp 67), type := 9, pos := "strings.go:493", after := #[{ on := 0, ground := Ground.data }], guard := none } (.p (.str x)),
      (decide (0 ≤ i) && decide (i < (m : Nat))) = true, decide (i < (m : Nat)) = true],
    .normal, joinFr2 ps m s (i + 1), bldH (out ++ s ++ x)) := by kernel_rfl

theorem join2_leave (ps : List PV) (m : Nat) (s out : List Nat) (i : Int) : runC Pd G T 100000 false [.br false] 75 0 (joinFr2 ps m s i) (bldH out) (loopAt Pd 14 1) [65, 64, 63, 8, 4, 1] [] [0, 1] =
  some ([decide (i < (m : Nat)) = false], .exit 3, joinFr2 ps m s i, bldH out) := by kernel_rfl

theorem join2 (hT : TabOk Pd G T) (ps : List PV) (q : List (List Nat)) (s : List Nat) (hq : ∀ i, i < q.length → ps[i]? = some (.str (q.getD i []))) : ∀ (k i : Nat) (out : List Nat), i + k = q.length →
    out.length + (tailsL s (q.drop i)).length ≤ 1099511627776 → q.length ≤ 1099511627776 →
    LC Pd G 75 0 (joinFr2 ps q.length s i) (bldH out) (loopAt Pd 14 1) (.exit 3) (joinFr2 ps q.length s q.length) (bldH (out ++ tailsL s (q.drop i))) := by
  intro k
  induction k with
  | zero =>
    intro i out hi hn hl
    have e : i = q.length := by omega
    subst e
    have e2 : out ++ tailsL s (q.drop q.length) = out := by simp [tailsL]
    rw [e2]
    exact LC.leave hT (join2_leave ps q.length s out _) ⟨by simp, trivial⟩ (by simp)
  | succ k ih =>
    intro i out hi hn hl
    have hlt : i < q.length := by omega
    have ht := tailsL_drop s q i hlt
    rw [ht] at hn ⊢
    simp only [List.length_append] at hn
    have h1 := ih (i + 1) (out ++ s ++ q.getD i []) (by omega) (by simp only [List.length_append]; omega) hl
    rw [show out ++ (s ++ (q.getD i [] ++ tailsL s (q.drop (i + 1)))) = out ++ s ++ q.getD i [] ++ tailsL s (q.drop (i + 1)) by simp]
    refine LC.go hT (join2_go ps q.length s out _ (q.getD i [])) ⟨?_, rfl, ?_, rfl, ?_, ?_, ?_, ?_, trivial⟩ (by simpa using h1)
    · simp [fitsK, min_i64, max_i64]; omega
    · simp only [List.length_append, Bool.and_eq_true, decide_eq_true_eq, true_and]; omega
    · simp only [Bool.and_eq_true, decide_eq_true_eq, true_and]; omega
    · refine claim_str (t := 9) rfl (by kernel_rfl) rfl ?_
      rw [Int.toNat_natCast, Nat.mul_one]
      exact hq i hlt
    · simp; omega
    · simp; omega
theorem join_run (l : List (List Nat)) (s res x : List Nat) (n : Nat) : runW Pd G T 100000 false [Vc.Item.br false, Vc.Item.br false, Vc.Item.br true, Vc.Item.br false,
  Vc.Item.tr 999999 (Tr.weak [41, 40, 39, 5, 4, 0, 1] [] []),
  Vc.Item.code (Ex.exit 1)
    [(41, EV.p (PV.int .i64 (l.length : Int))), (40, EV.p (PV.int .i64 (l.length : Int))),
      (39, EV.p (PV.lst l.length (List.map PV.str l))), (5, EV.p (PV.int .i64 (n : Int))), (4, EV.p (PV.str [])),
      (0, EV.p (PV.lst l.length (List.map PV.str l))), (1, EV.p (PV.str s))]
    [],
  Vc.Item.inl, Vc.Item.inl, Vc.Item.br false, Vc.Item.br true, Vc.Item.inl,
  Vc.Item.is 60 (EV.p (PV.str x)), Vc.Item.inl, Vc.Item.inl,
  Vc.Item.tr 999999 (Tr.weak [65, 64, 63, 8, 4, 1] [] [0, 2]),
  Vc.Item.code (Ex.exit 3)
    [(65, EV.p (PV.int .i64 ((l.length - 1 : Nat) : Int))), (64, EV.p (PV.int .i64 ((l.length - 1 : Nat) : Int))),
      (63, EV.p (PV.lst (l.length - 1) (List.drop 1 (List.take (l.length * 1) (List.map PV.str l))))), (8, EV.ptr 0 0),
      (4, EV.p (PV.str [])), (1, EV.p (PV.str s))]
    [some (Blk.cells [EV.ptr 0 0, EV.nsl 1 res.length 1] (Kd.obj 39)), some (Blk.bytes res 5)],
  Vc.Item.inl] [] [] 14 [EV.p (PV.lst l.length (List.map PV.str l)), EV.p (PV.str s)] [] =
  some
  ([some (some (Blk.cells [EV.ptr 0 0, EV.nsl 1 res.length 1] (Kd.obj 39))) =
        some (some (Blk.cells [EV.ptr 0 0, EV.nsl 1 res.length 1] (Kd.obj 39))),
      (decide (((res.length : Nat) : Int) = ((res.length : Nat) : Int)) && decide (res.length ≤ 1099511627776)) = true,
      LC Pd G 75 0
        [(65, EV.p (PV.int .i64 0)), (64, EV.p (PV.int .i64 ((l.length - 1 : Nat) : Int))),
          (63, EV.p (PV.lst (l.length - 1) (List.drop 1 (List.take (l.length * 1) (List.map PV.str l))))),
          (8, EV.ptr 0 0), (4, EV.p (PV.str [])), (1, EV.p (PV.str s))]
        [some
            (Blk.cells [EV.ptr 0 0, EV.nsl 1 ([] ++ x).length 1] (Kd.obj 39)),
          some (Blk.bytes ([] ++ x) 5)]
        (loopAt Pd 14 1) (Ex.exit 3)
        [(65, EV.p (PV.int .i64 ((l.length - 1 : Nat) : Int))), (64, EV.p (PV.int .i64 ((l.length - 1 : Nat) : Int))),
          (63, EV.p (PV.lst (l.length - 1) (List.drop 1 (List.take (l.length * 1) (List.map PV.str l))))),
          (8, EV.ptr 0 0), (4, EV.p (PV.str [])), (1, EV.p (PV.str s))]
        [some (Blk.cells [EV.ptr 0 0, EV.nsl 1 res.length 1] (Kd.obj 39)), some (Blk.bytes res 5)],
      (true && decide (1 ≤ (l.length : Int))) = true, true = true,
      (true && decide (([] : List Nat).length + x.length ≤ 1099511627776)) = true,
      Claim Pd G
        [(59, EV.p (PV.elem (List.map PV.str l) 0)), (58, EV.p (PV.lst l.length (List.map PV.str l))), (57, EV.tup []),
          (56, EV.p (PV.int .i64 (n : Int))), (8, EV.ptr 0 0), (41, EV.p (PV.int .i64 (l.length : Int))),
          (40, EV.p (PV.int .i64 (l.length : Int))), (39, EV.p (PV.lst l.length (List.map PV.str l))),
          (5, EV.p (PV.int .i64 (n : Int))), (4, EV.p (PV.str [])), (0, EV.p (PV.lst l.length (List.map PV.str l))),
          (1, EV.p (PV.str s))]
        [some (Blk.cells [EV.ptr 0 0, EV.nsl 1 0 1] (Kd.obj 39)), some (Blk.bytes [] 5)]
        { dst := some 60, op := Op.load 9 (Operand.tmp 59), type := 9, pos := "strings.go:492",
          after := #[{ on := 1, ground := Ground.data }], guard := none }
        (EV.p (PV.str x)),
      (true && decide (0 < (l.length : Int))) = true, true = true,
      some (some (Blk.cells [EV.ptr 0 0, EV.p PV.nils] (Kd.obj 39))) =
        some (some (Blk.cells [EV.ptr 0 0, EV.p PV.nils] (Kd.obj 39))),
      (decide (0 < (2 * 0 + (n : Int)).toNat) && true) = true,
      IsExt Pd 43 (Extern.BytealgMakeNoZero.makeNoZero #[3] #[37]) ∧
        0 ≤ 2 * 0 + (n : Int) ∧ 2 * 0 + (n : Int) ≤ 1099511627776,
      fitsK .i64 (0 + (n : Int)) = true, true = true, decide (0 - 0 < (n : Int)) = true, true = true, false = false,
      true = true, true = true, IsExt Pd 42 Extern.AbiNoEscape.same, true = true,
      LC Pd G 75 0
        [(41, EV.p (PV.int .i64 0)), (40, EV.p (PV.int .i64 (l.length : Int))),
          (39, EV.p (PV.lst l.length (List.map PV.str l))),
          (5, EV.p (PV.int .i64 (0 + (s.length : Int) * ((l.length : Int) - 1)))), (4, EV.p (PV.str [])),
          (0, EV.p (PV.lst l.length (List.map PV.str l))), (1, EV.p (PV.str s))]
        [] (loopAt Pd 14 0) (Ex.exit 1)
        [(41, EV.p (PV.int .i64 (l.length : Int))), (40, EV.p (PV.int .i64 (l.length : Int))),
          (39, EV.p (PV.lst l.length (List.map PV.str l))), (5, EV.p (PV.int .i64 (n : Int))), (4, EV.p (PV.str [])),
          (0, EV.p (PV.lst l.length (List.map PV.str l))), (1, EV.p (PV.str s))]
        [],
      fitsK .i64 (0 + (s.length : Int) * ((l.length : Int) - 1)) = true,
      fitsK .i64 ((s.length : Int) * ((l.length : Int) - 1)) = true, fitsK .i64 ((l.length : Int) - 1) = true,
      decide ((s.length : Int) ≥ Int.tdiv 9223372036854775807 ((l.length : Int) - 1)) = false,
      (!decide ((l.length : Int) - 1 = 0) && fitsK .i64 (Int.tdiv 9223372036854775807 ((l.length : Int) - 1))) = true,
      fitsK .i64 ((l.length : Int) - 1) = true, decide ((s.length : Int) > 0) = true, ((l.length : Int) == 1) = false,
      ((l.length : Int) == 0) = false],
    EV.p (PV.str res), []) := by kernel_rfl

set_option maxRecDepth 20000 in
theorem join_two (hT : TabOk Pd G T) (l : List (List Nat)) (s : List Nat) (hl : 2 ≤ l.length) (hl2 : l.length ≤ 1099511627776) (hs : 0 < s.length) (hb : totLen l + s.length * (l.length - 1) ≤ 1099511627776)
    (hx1 : IsExt Pd 42 Extern.AbiNoEscape.same) (hx2 : IsExt Pd 43 (Extern.BytealgMakeNoZero.makeNoZero #[3] #[37])) :
    RC Pd G 14 [.p (.lst l.length (l.map PV.str)), .p (.str s)] [] (.p (.str (l.getD 0 [] ++ tailsL s (l.drop 1)))) [] := by
  generalize hres : l.getD 0 [] ++ tailsL s (l.drop 1) = res
  generalize hn : totLen l + s.length * (l.length - 1) = n at hb
  generalize hx : l.getD 0 [] = x at hres
  have hrun := join_run (G := G) (T := T) l s res x n
  have htl : totLen l = x.length + totLen (l.drop 1) := by
    have := totLen_drop l 0 (by omega)
    rw [List.drop_zero, hx] at this
    exact this
  have htt : ∀ q : List (List Nat), (tailsL s q).length = totLen q + s.length * q.length := by
    intro q
    induction q with
    | nil => simp [tailsL, totLen]
    | cons a q ih => simp only [tailsL, totLen, List.length_append, List.length_cons, ih, Nat.mul_add, Nat.mul_one]; omega
  have hrl : res.length = n := by
    rw [← hres, List.length_append, htt, List.length_drop, ← hn, htl]
    omega
  have hmul : s.length * 1 ≤ s.length * (l.length - 1) := Nat.mul_le_mul_left _ (by omega)
  have hcast : ((s.length * (l.length - 1) : Nat) : Int) = (s.length : Int) * ((l.length : Int) - 1) := by
    rw [Int.natCast_mul]; congr 1; omega
  refine RC.of_run hT hrun ?_
  simp only [AllT]
  repeat' (first | exact trivial | exact hx1 | exact hx2 | apply And.intro)
  all_goals try rfl
  all_goals try (simp only [fitsK, min_i64, max_i64, Bool.and_eq_true, decide_eq_true_eq, decide_eq_false_iff_not, true_and, List.length_nil]; omega)
  · have hj := join2 hT (List.drop 1 (List.take (l.length * 1) (List.map PV.str l))) (l.drop 1) s (fun i hi => by
      simp only [List.length_drop] at hi
      rw [List.getElem?_drop, List.getElem?_take, if_pos (by omega), strs_get l (1 + i) (by omega)]
      simp [List.getD_eq_getElem?_getD, List.getElem?_drop, Nat.add_comm]) (l.length - 1) 0 ([] ++ x) (by simp)
      (by rw [List.drop_zero, htt, List.length_drop]; simp only [List.nil_append]; omega) (by simp; omega)
    simp only [List.length_drop, List.drop_zero, List.nil_append, hres] at hj
    exact hj
  · exact claim_str (t := 9) rfl (by kernel_rfl) rfl (by rw [strs_get l 0 (by omega), hx])
  all_goals try omega
  · have : 0 < n := by omega
    simp; omega
  · have h0 := join1 hT l s l.length 0 (s.length * (l.length - 1)) (by simp) (by rw [List.drop_zero]; omega) hl2
    rw [List.drop_zero] at h0
    have e : s.length * (l.length - 1) + totLen l = n := by omega
    rw [e, hcast] at h0
    rw [Int.zero_add]
    exact h0
  · have hd : (0 : Int) < (l.length : Int) - 1 := by omega
    have hq : (s.length : Int) + 1 ≤ 9223372036854775807 / ((l.length : Int) - 1) := by
      rw [Int.le_ediv_iff_mul_le hd, Int.add_mul, ← hcast]
      omega
    rw [Int.tdiv_eq_ediv_of_nonneg (by omega)]
    simp only [decide_eq_false_iff_not]
    omega
  · have hd : (0 : Int) < (l.length : Int) - 1 := by omega
    have h1 : (0 : Int) ≤ 9223372036854775807 / ((l.length : Int) - 1) := Int.ediv_nonneg (by omega) (by omega)
    have h2 : (9223372036854775807 : Int) / ((l.length : Int) - 1) ≤ 9223372036854775807 := Int.ediv_le_self _ (by omega)
    rw [Int.tdiv_eq_ediv_of_nonneg (by omega)]
    simp only [fitsK, min_i64, max_i64, Bool.and_eq_true, decide_eq_true_eq, Bool.not_eq_true', decide_eq_false_iff_not]
    omega
  all_goals (rw [beq_eq_false_iff_ne]; omega)
theorem join_nil (hT : TabOk Pd G T) (s : List Nat) : RC Pd G 14 [.p .nils, .p (.str s)] [] (.p (.str [])) [] := by
  have h : runFn Pd G T 100000 true [] 14 [.p .nils, .p (.str s)] [] = some ([], .p (.str []), []) := by kernel_rfl
  exact RC.of_runFn hT h trivial

theorem join_one (hT : TabOk Pd G T) (x s : List Nat) : RC Pd G 14 [.p (.lst 1 [.str x]), .p (.str s)] [] (.p (.str x)) [] := by
  have h : runFn Pd G T 100000 true [] 14 [.p (.lst 1 [.str x]), .p (.str s)] [] = some ([], .p (.str x), []) := by kernel_rfl
  exact RC.of_runFn hT h trivial

end
end Go.Vc

/- VeGlob -/
namespace Go.Vc

/-- What the package-level variables hold. -/
def pow10L : List PV := [.int .u64 1, .int .u64 10, .int .u64 100, .int .u64 1000, .int .u64 10000, .int .u64 100000, .int .u64 1000000, .int .u64 10000000, .int .u64 100000000, .int .u64 1000000000, .int .u64 10000000000, .int .u64 100000000000, .int .u64 1000000000000, .int .u64 10000000000000, .int .u64 100000000000000, .int .u64 1000000000000000, .int .u64 10000000000000000, .int .u64 100000000000000000, .int .u64 1000000000000000000, .int .u64 10000000000000000000]
def errSyntaxL : List PV := [.iface 141 (.elem [.str [105, 110, 118, 97, 108, 105, 100, 32, 115, 121, 110, 116, 97, 120]] 0)]
def errRangeL : List PV := [.iface 141 (.elem [.str [118, 97, 108, 117, 101, 32, 111, 117, 116, 32, 111, 102, 32, 114, 97, 110, 103, 101]] 0)]
def B32 : List Int := [0, 1, 28, 2, 29, 14, 24, 3, 30, 22, 20, 15, 25, 17, 4, 8, 31, 27, 13, 23, 21, 19, 16, 7, 26, 12, 18, 6, 11, 5, 10, 9]
def B64 : List Int := [0, 1, 56, 2, 57, 49, 28, 3, 61, 58, 42, 50, 38, 29, 17, 4, 62, 47, 59, 36, 45, 43, 51, 22, 53, 39, 33, 30, 24, 18, 12, 5, 63, 55, 48, 27, 60, 41, 37, 16, 46, 35, 44, 21, 52, 32, 23, 11, 54, 26, 40, 15, 34, 20, 31, 10, 25, 14, 19, 9, 13, 8, 7, 6]
def brn32L : List PV := [.int .u8 0, .int .u8 1, .int .u8 28, .int .u8 2, .int .u8 29, .int .u8 14, .int .u8 24, .int .u8 3, .int .u8 30, .int .u8 22, .int .u8 20, .int .u8 15, .int .u8 25, .int .u8 17, .int .u8 4, .int .u8 8, .int .u8 31, .int .u8 27, .int .u8 13, .int .u8 23, .int .u8 21, .int .u8 19, .int .u8 16, .int .u8 7, .int .u8 26, .int .u8 12, .int .u8 18, .int .u8 6, .int .u8 11, .int .u8 5, .int .u8 10, .int .u8 9]
def brn64L : List PV := [.int .u8 0, .int .u8 1, .int .u8 56, .int .u8 2, .int .u8 57, .int .u8 49, .int .u8 28, .int .u8 3, .int .u8 61, .int .u8 58, .int .u8 42, .int .u8 50, .int .u8 38, .int .u8 29, .int .u8 17, .int .u8 4, .int .u8 62, .int .u8 47, .int .u8 59, .int .u8 36, .int .u8 45, .int .u8 43, .int .u8 51, .int .u8 22, .int .u8 53, .int .u8 39, .int .u8 33, .int .u8 30, .int .u8 24, .int .u8 18, .int .u8 12, .int .u8 5, .int .u8 63, .int .u8 55, .int .u8 48, .int .u8 27, .int .u8 60, .int .u8 41, .int .u8 37, .int .u8 16, .int .u8 46, .int .u8 35, .int .u8 44, .int .u8 21, .int .u8 52, .int .u8 32, .int .u8 23, .int .u8 11, .int .u8 54, .int .u8 26, .int .u8 40, .int .u8 15, .int .u8 34, .int .u8 20, .int .u8 31, .int .u8 10, .int .u8 25, .int .u8 14, .int .u8 19, .int .u8 9, .int .u8 13, .int .u8 8, .int .u8 7, .int .u8 6]
def Gd : Glob := fun g => match g with
  | 1 => some pow10L
  | 2 => some brn32L
  | 3 => some brn64L
  | 4 => some errSyntaxL
  | 5 => some errRangeL
  | _ => none

def T0 : Tab := fun _ => none
theorem T0_ok (G : Glob) : TabOk Pd G T0 := by intro f spec h; cases h
end Go.Vc

/- VdEcho -/
namespace Go.Vc
set_option linter.unusedVariables false
set_option linter.unusedSimpArgs false

section
variable {G : Glob} {T : Tab}

/-- Strings put together with others between them. -/
def joinS (s : List Nat) : List (List Nat) → List Nat
  | [] => []
  | x :: r => x ++ tailsL s r

theorem tailsL_len (s : List Nat) (q : List (List Nat)) : (tailsL s q).length = totLen q + s.length * q.length := by
  induction q with
  | nil => simp [tailsL, totLen]
  | cons a q ih => simp only [tailsL, totLen, List.length_append, List.length_cons, ih, Nat.mul_add, Nat.mul_one]; omega

theorem join_all (hT : TabOk Pd G T) (l : List (List Nat)) (s : List Nat) (hl2 : l.length ≤ 1099511627776) (hs : 0 < s.length) (hb : totLen l + s.length * (l.length - 1) ≤ 1099511627776)
    (hx1 : IsExt Pd 42 Extern.AbiNoEscape.same) (hx2 : IsExt Pd 43 (Extern.BytealgMakeNoZero.makeNoZero #[3] #[37])) (h0 : RC Pd G 14 [.p (.lst 0 []), .p (.str s)] [] (.p (.str [])) []) :
    RC Pd G 14 [.p (.lst l.length (l.map PV.str)), .p (.str s)] [] (.p (.str (joinS s l))) [] := by
  cases l with
  | nil => exact h0
  | cons x r =>
    cases r with
    | nil => simpa [joinS, tailsL] using join_one hT x s
    | cons y r =>
      have := join_two hT (x :: y :: r) s (by simp) hl2 hs hb hx1 hx2
      simpa [joinS] using this

theorem join_zero (hT : TabOk Pd G T) (s : List Nat) : RC Pd G 14 [.p (.lst 0 []), .p (.str s)] [] (.p (.str [])) [] := by
  have h : runFn Pd G T 100000 true [] 14 [.p (.lst 0 []), .p (.str s)] [] = some ([], .p (.str []), []) := by kernel_rfl
  exact RC.of_runFn hT h trivial

theorem isExt42 : IsExt Pd 42 Extern.AbiNoEscape.same := ⟨Go.Proofs.Tryd.f42, by kernel_rfl, by kernel_rfl, by kernel_rfl, by kernel_rfl, by kernel_rfl⟩
theorem isExt43 : IsExt Pd 43 (Extern.BytealgMakeNoZero.makeNoZero #[3] #[37]) := ⟨Go.Proofs.Tryd.f43, by kernel_rfl, by kernel_rfl, by kernel_rfl, by kernel_rfl, by kernel_rfl⟩

def echoFr (l : List (List Nat)) : Fr :=
  [(6, .kb true), (8, .p (.elem (l.map PV.str) (0 : Nat))), (6, .kb true), (7, .p (.lst l.length (l.map PV.str))), (6, .kb true), (6, .p (.bool (decide ((l.length : Int) > 0)))), (5, .p (.bool (decide ((l.length : Int) > 0)))),
    (4, .p (.int .i64 (l.length : Nat))), (3, .p (.lst l.length (l.map PV.str))), (2, .p (.str [])), (0, .p (.lst l.length (l.map PV.str)))]

def echoOp : Oper :=
  { dst := some 9, op := Op.load 9 (Operand.tmp 8), type := 9, pos := "format.go:14", after := #[{ on := 5, ground := Ground.data }, { on := 3, ground := Ground.guard }], guard := some (3, true) }

theorem echo_run1 (l : List (List Nat)) (x r : List Nat) : runFn Pd G T 100000 false [.br true, .is 9 (.p (.str x)), .br true, .call (.p (.str r)) []] 9 [.p (.lst l.length (l.map PV.str))] [] =
  some ([RC Pd G 14 [.p (.lst (l.length - 1) (List.drop 1 (List.take (l.length * 1) (List.map PV.str l)))), .p (.str [32])] [] (.p (.str r)) [],
      (true && decide (1 ≤ (l.length : Int))) = true, (x == [45, 110]) = true, Claim Pd G (echoFr l) [] echoOp (.p (.str x)), (true && decide (0 < (l.length : Int))) = true, decide ((l.length : Int) > 0) = true],
    .p (.str r), []) := by kernel_rfl

theorem echo_run2 (l : List (List Nat)) (x r : List Nat) : runFn Pd G T 100000 false [.br true, .is 9 (.p (.str x)), .br false, .call (.p (.str r)) []] 9 [.p (.lst l.length (l.map PV.str))] [] =
  some ([decide (r.length + 1 ≤ 4611686018427387904) = true, RC Pd G 14 [.p (.lst l.length (l.map PV.str)), .p (.str [32])] [] (.p (.str r)) [],
      (x == [45, 110]) = false, Claim Pd G (echoFr l) [] echoOp (.p (.str x)), (true && decide (0 < (l.length : Int))) = true, decide ((l.length : Int) > 0) = true],
    .p (.str (r ++ [10])), []) := by kernel_rfl

theorem echo_run3 (l : List (List Nat)) (r : List Nat) : runFn Pd G T 100000 false [.br false, .call (.p (.str r)) []] 9 [.p (.lst l.length (l.map PV.str))] [] =
  some ([decide (r.length + 1 ≤ 4611686018427387904) = true, RC Pd G 14 [.p (.lst l.length (l.map PV.str)), .p (.str [32])] [] (.p (.str r)) [],
      decide ((l.length : Int) > 0) = false],
    .p (.str (r ++ [10])), []) := by kernel_rfl

/-- What echo gives. -/
def echoS (l : List (List Nat)) : List Nat :=
  match l with
  | [] => [10]
  | x :: r => if x = [45, 110] then joinS [32] r else joinS [32] (x :: r) ++ [10]

theorem joinS_len (s : List Nat) (l : List (List Nat)) : (joinS s l).length ≤ totLen l + s.length * (l.length - 1) := by
  cases l with
  | nil => simp [joinS]
  | cons x r => simp [joinS, tailsL_len, totLen]; omega

theorem echo_rc (hT : TabOk Pd G T) (l : List (List Nat)) (hl : l.length ≤ 1000000) (hb : totLen l ≤ 1000000000) : RC Pd G 9 [.p (.lst l.length (l.map PV.str))] [] (.p (.str (echoS l))) [] := by
  have hj : ∀ q : List (List Nat), q.length ≤ 1000000 → totLen q ≤ 1000000000 → RC Pd G 14 [.p (.lst q.length (q.map PV.str)), .p (.str [32])] [] (.p (.str (joinS [32] q))) [] :=
    fun q h1 h2 => join_all hT q [32] (by omega) (by simp) (by simp; omega) isExt42 isExt43 (join_zero hT [32])
  cases l with
  | nil => exact RC.of_runFn hT (echo_run3 [] []) ⟨by simp, hj [] (by simp) (by simp [totLen]), by simp, trivial⟩
  | cons x r =>
    have hc : Claim Pd G (echoFr (x :: r)) [] echoOp (.p (.str x)) := claim_str (t := 9) rfl (by kernel_rfl) rfl rfl
    simp only [totLen, List.length_cons] at hl hb
    by_cases hx : x = [45, 110]
    · have := RC.of_runFn hT (echo_run1 (x :: r) x (joinS [32] r)) ⟨by
          have h := hj r (by omega) (by omega)
          have e : List.take r.length (List.map PV.str r) = List.map PV.str r := List.take_of_length_le (by simp)
          simpa [e] using h, by simp; omega, by simp [hx], hc, by simp, by simp, trivial⟩
      simpa [echoS, hx] using this
    · have hlen := joinS_len [32] (x :: r)
      simp only [totLen, List.length_cons, List.length_nil] at hlen
      have := RC.of_runFn hT (echo_run2 (x :: r) x (joinS [32] (x :: r))) ⟨by simp only [decide_eq_true_eq]; omega, hj _ (by simpa using hl) (by simpa [totLen] using hb), by simpa using hx, hc, by simp, by simp, trivial⟩
      simpa [echoS, hx] using this
end
end Go.Vc

/- VdRefEcho -/
namespace Go.Vc
set_option linter.unusedVariables false
set_option linter.unusedSimpArgs false
section
variable {G : Glob} {T : Tab}
theorem refEcho_go1 (ps : List PV) (m : Nat) (e out x : List Nat) (i : Int) : runC Pd G T 100000 false [Vc.Item.br true, Vc.Item.br true,
  Vc.Item.is 31
    (EV.p
      (PV.str
        (x)))] 36 0 [(5, EV.p (PV.int .i64 i)), (4, EV.p (PV.str out)), (3, EV.p (PV.str e)),
  (0, EV.p (PV.lst m ps)), (2, EV.p (PV.str []))] [] (loopAt Pd 10 0) [5, 4, 3, 0, 2] [] [] =
  some
  ([fitsK .i64 (i + 1) = true,
      decide
          ((out ++ bytesOf { data := #[32] }).length + (x).length ≤
            4611686018427387904) =
        true,
      Claim Pd G
        [(30, EV.p (PV.elem ps (i.toNat * 1))), (29, EV.p (PV.int .i64 i)), (28, EV.p (PV.lst m ps)),
          (27, EV.p (PV.str (out ++ [32]))), (4, EV.p (PV.str (out ++ [32]))), (26, EV.p (PV.str (out ++ [32]))),
          (25, EV.p (PV.str out)), (24, EV.p (PV.bool (decide (i > 0)))), (23, EV.p (PV.int .i64 i)),
          (20, EV.p (PV.bool (decide (i < (m : Int))))), (19, EV.p (PV.int .i64 (m : Int))), (18, EV.p (PV.lst m ps)),
          (17, EV.p (PV.int .i64 i)), (5, EV.p (PV.int .i64 i)), (4, EV.p (PV.str out)),
          (3, EV.p (PV.str e)), (0, EV.p (PV.lst m ps)), (2, EV.p (PV.str []))]
        []
        { dst := some 31, op := Op.load 9 (Operand.tmp 30), type := 9, pos := "ref.go:327",
          after := #[{ on := 3, ground := Ground.data }], guard := none }
        (EV.p (PV.str (x))),
      (decide (0 ≤ i) && decide (i < (m : Int))) = true,
      decide (out.length + (bytesOf { data := #[32] }).length ≤ 4611686018427387904) = true, decide (i > 0) = true,
      decide (i < (m : Int)) = true],
    Ex.normal,
    [(5, EV.p (PV.int .i64 (i + 1))), (4, EV.p (PV.str (out ++ [32] ++ x))),
      (3, EV.p (PV.str e)), (0, EV.p (PV.lst m ps)), (2, EV.p (PV.str []))],
    []) := by kernel_rfl
theorem refEcho_go2 (ps : List PV) (m : Nat) (e out x : List Nat) (i : Int) : runC Pd G T 100000 false [Vc.Item.br true, Vc.Item.br false,
  Vc.Item.is 31
    (EV.p
      (PV.str
        (x)))] 36 0 [(5, EV.p (PV.int .i64 i)), (4, EV.p (PV.str out)), (3, EV.p (PV.str e)),
  (0, EV.p (PV.lst m ps)), (2, EV.p (PV.str []))] [] (loopAt Pd 10 0) [5, 4, 3, 0, 2] [] [] =
  some
  ([fitsK .i64 (i + 1) = true,
      decide (out.length + (x).length ≤ 4611686018427387904) = true,
      Claim Pd G
        [(30, EV.p (PV.elem ps (i.toNat * 1))), (29, EV.p (PV.int .i64 i)), (28, EV.p (PV.lst m ps)),
          (27, EV.p (PV.str out)), (24, EV.p (PV.bool (decide (i > 0)))), (23, EV.p (PV.int .i64 i)),
          (20, EV.p (PV.bool (decide (i < (m : Int))))), (19, EV.p (PV.int .i64 (m : Int))), (18, EV.p (PV.lst m ps)),
          (17, EV.p (PV.int .i64 i)), (5, EV.p (PV.int .i64 i)), (4, EV.p (PV.str out)),
          (3, EV.p (PV.str e)), (0, EV.p (PV.lst m ps)), (2, EV.p (PV.str []))]
        []
        { dst := some 31, op := Op.load 9 (Operand.tmp 30), type := 9, pos := "ref.go:327",
          after := #[{ on := 3, ground := Ground.data }], guard := none }
        (EV.p (PV.str (x))),
      (decide (0 ≤ i) && decide (i < (m : Int))) = true, decide (i > 0) = false, decide (i < (m : Int)) = true],
    Ex.normal,
    [(5, EV.p (PV.int .i64 (i + 1))), (4, EV.p (PV.str (out ++ x))),
      (3, EV.p (PV.str e)), (0, EV.p (PV.lst m ps)), (2, EV.p (PV.str []))],
    []) := by kernel_rfl
theorem refEcho_leave (ps : List PV) (m : Nat) (e out : List Nat) (i : Int) : runC Pd G T 100000 false [Vc.Item.br
    false] 36 0 [(5, EV.p (PV.int .i64 i)), (4, EV.p (PV.str out)), (3, EV.p (PV.str e)),
  (0, EV.p (PV.lst m ps)), (2, EV.p (PV.str []))] [] (loopAt Pd 10 0) [5, 4, 3, 0, 2] [] [] =
  some
  ([decide (i < (m : Int)) = false], Ex.exit 0,
    [(5, EV.p (PV.int .i64 i)), (4, EV.p (PV.str out)), (3, EV.p (PV.str e)), (0, EV.p (PV.lst m ps)),
      (2, EV.p (PV.str []))],
    []) := by kernel_rfl

def refEchoFr (ps : List PV) (m : Nat) (e out : List Nat) (i : Int) : Fr :=
  [(5, .p (.int .i64 i)), (4, .p (.str out)), (3, .p (.str e)), (0, .p (.lst m ps)), (2, .p (.str []))]

set_option maxRecDepth 20000 in
theorem refEcho_loop (hT : TabOk Pd G T) (ps : List PV) (q : List (List Nat)) (e : List Nat) (hq : ∀ i, i < q.length → ps[i]? = some (.str (q.getD i []))) : ∀ (k i : Nat) (out : List Nat), i + k = q.length → 0 < i →
    out.length + (tailsL [32] (q.drop i)).length ≤ 1099511627776 → q.length ≤ 1099511627776 →
    LC Pd G 36 0 (refEchoFr ps q.length e out i) [] (loopAt Pd 10 0) (.exit 0) (refEchoFr ps q.length e (out ++ tailsL [32] (q.drop i)) q.length) [] := by
  intro k
  induction k with
  | zero =>
    intro i out hi h0 hn hl
    have ee : i = q.length := by omega
    subst ee
    have e2 : out ++ tailsL [32] (q.drop q.length) = out := by simp [tailsL]
    rw [e2]
    exact LC.leave hT (refEcho_leave ps q.length e out _) ⟨by simp, trivial⟩ (by simp)
  | succ k ih =>
    intro i out hi h0 hn hl
    have hlt : i < q.length := by omega
    have ht := tailsL_drop [32] q i hlt
    rw [ht] at hn ⊢
    simp only [List.length_append, List.length_cons, List.length_nil] at hn
    have h1 := ih (i + 1) (out ++ [32] ++ q.getD i []) (by omega) (by omega) (by simp only [List.length_append, List.length_cons, List.length_nil]; omega) hl
    rw [show out ++ ([32] ++ (q.getD i [] ++ tailsL [32] (q.drop (i + 1)))) = out ++ [32] ++ q.getD i [] ++ tailsL [32] (q.drop (i + 1)) by simp]
    refine LC.go hT (refEcho_go1 ps q.length e out (q.getD i []) _) ?_ (by rw [Int.natCast_add] at h1; exact h1)
    have hb : (bytesOf { data := #[32] }).length = 1 := rfl
    refine ⟨?_, ?_, ?_, ?_, ?_, ?_, ?_, trivial⟩
    · simp only [fitsK, min_i64, max_i64, Bool.and_eq_true, decide_eq_true_eq]; omega
    · simp only [decide_eq_true_eq, List.length_append, hb]; omega
    · refine claim_str (t := 9) rfl (by kernel_rfl) rfl ?_
      rw [Int.toNat_natCast, Nat.mul_one]
      exact hq i hlt
    · simp; omega
    · simp only [decide_eq_true_eq, hb]; omega
    · simp; omega
    · simp; omega
end
end Go.Vc

/- VdShort -/
namespace Go.Vc
set_option linter.unusedVariables false
set_option linter.unusedSimpArgs false
section
variable {G : Glob} {T : Tab}
theorem short_go1 (ps : List PV) (m : Nat) (n k i : Int) (x : List Nat) : runC Pd G T 100000 false [Vc.Item.br true, Vc.Item.br true,
  Vc.Item.is 22 (EV.p (PV.str (x))),
  Vc.Item.br
    true] 30 0 [(7, EV.p (PV.int .i64 i)), (6, EV.kb false), (0, EV.p (PV.lst m ps)),
  (1, EV.p (PV.int .i64 n)), (2, EV.p (PV.int .i64 k))] [] (loopAt Pd 7 0) [7, 6, 0, 1, 2] [] [] =
  some
  ([decide (↑(x).length > k) = true,
      Claim Pd G
        [(21, EV.p (PV.elem ps (i.toNat * 1))), (20, EV.p (PV.int .i64 i)), (19, EV.p (PV.lst m ps)),
          (16, EV.p (PV.bool (decide (i ≤ n)))), (15, EV.p (PV.bool (decide (i ≤ n)))), (12, EV.kb true),
          (14, EV.p (PV.int .i64 n)), (12, EV.kb true), (13, EV.p (PV.int .i64 i)), (12, EV.kb true),
          (12, EV.p (PV.bool (decide (i < (m : Int))))), (11, EV.p (PV.bool (decide (i < (m : Int))))),
          (10, EV.p (PV.int .i64 (m : Int))), (9, EV.p (PV.lst m ps)), (8, EV.p (PV.int .i64 i)),
          (7, EV.p (PV.int .i64 i)), (6, EV.kb false), (0, EV.p (PV.lst m ps)), (1, EV.p (PV.int .i64 n)),
          (2, EV.p (PV.int .i64 k))]
        []
        { dst := some 22, op := Op.load 9 (Operand.tmp 21), type := 9, pos := "ref.go:163",
          after := #[{ on := 2, ground := Ground.data }], guard := none }
        (EV.p (PV.str (x))),
      (decide (0 ≤ i) && decide (i < (m : Int))) = true, decide (i ≤ n) = true, decide (i < (m : Int)) = true],
    Ex.ret,
    [(7, EV.p (PV.int .i64 i)), (6, EV.kb false), (0, EV.p (PV.lst m ps)), (1, EV.p (PV.int .i64 n)),
      (2, EV.p (PV.int .i64 k))],
    []) := by kernel_rfl
theorem short_go2 (ps : List PV) (m : Nat) (n k i : Int) (x : List Nat) : runC Pd G T 100000 false [Vc.Item.br true, Vc.Item.br true,
  Vc.Item.is 22 (EV.p (PV.str (x))),
  Vc.Item.br
    false] 30 0 [(7, EV.p (PV.int .i64 i)), (6, EV.kb false), (0, EV.p (PV.lst m ps)),
  (1, EV.p (PV.int .i64 n)), (2, EV.p (PV.int .i64 k))] [] (loopAt Pd 7 0) [7, 6, 0, 1, 2] [] [] =
  some
  ([fitsK .i64 (i + 1) = true, decide (↑(x).length > k) = false,
      Claim Pd G
        [(21, EV.p (PV.elem ps (i.toNat * 1))), (20, EV.p (PV.int .i64 i)), (19, EV.p (PV.lst m ps)),
          (16, EV.p (PV.bool (decide (i ≤ n)))), (15, EV.p (PV.bool (decide (i ≤ n)))), (12, EV.kb true),
          (14, EV.p (PV.int .i64 n)), (12, EV.kb true), (13, EV.p (PV.int .i64 i)), (12, EV.kb true),
          (12, EV.p (PV.bool (decide (i < (m : Int))))), (11, EV.p (PV.bool (decide (i < (m : Int))))),
          (10, EV.p (PV.int .i64 (m : Int))), (9, EV.p (PV.lst m ps)), (8, EV.p (PV.int .i64 i)),
          (7, EV.p (PV.int .i64 i)), (6, EV.kb false), (0, EV.p (PV.lst m ps)), (1, EV.p (PV.int .i64 n)),
          (2, EV.p (PV.int .i64 k))]
        []
        { dst := some 22, op := Op.load 9 (Operand.tmp 21), type := 9, pos := "ref.go:163",
          after := #[{ on := 2, ground := Ground.data }], guard := none }
        (EV.p (PV.str (x))),
      (decide (0 ≤ i) && decide (i < (m : Int))) = true, decide (i ≤ n) = true, decide (i < (m : Int)) = true],
    Ex.normal,
    [(7, EV.p (PV.int .i64 (i + 1))), (6, EV.kb false), (0, EV.p (PV.lst m ps)),
      (1, EV.p (PV.int .i64 n)), (2, EV.p (PV.int .i64 k))],
    []) := by kernel_rfl
theorem short_leave (ps : List PV) (m : Nat) (n k i : Int) : runC Pd G T 100000 false [Vc.Item.br true,
  Vc.Item.br
    false] 30 0 [(7, EV.p (PV.int .i64 i)), (6, EV.kb false), (0, EV.p (PV.lst m ps)),
  (1, EV.p (PV.int .i64 n)), (2, EV.p (PV.int .i64 k))] [] (loopAt Pd 7 0) [7, 6, 0, 1, 2] [] [] =
  some
  ([decide (i ≤ n) = false, decide (i < (m : Int)) = true], Ex.exit 0,
    [(7, EV.p (PV.int .i64 i)), (6, EV.kb false), (0, EV.p (PV.lst m ps)), (1, EV.p (PV.int .i64 n)),
      (2, EV.p (PV.int .i64 k))],
    []) := by kernel_rfl
theorem short_done (ps : List PV) (m : Nat) (n k i : Int) : runC Pd G T 100000 false [Vc.Item.br
    false] 30 0 [(7, EV.p (PV.int .i64 i)), (6, EV.kb false), (0, EV.p (PV.lst m ps)),
  (1, EV.p (PV.int .i64 n)), (2, EV.p (PV.int .i64 k))] [] (loopAt Pd 7 0) [7, 6, 0, 1, 2] [] [] =
  some
  ([decide (i < (m : Int)) = false], Ex.exit 0,
    [(7, EV.p (PV.int .i64 i)), (6, EV.kb false), (0, EV.p (PV.lst m ps)), (1, EV.p (PV.int .i64 n)),
      (2, EV.p (PV.int .i64 k))],
    []) := by kernel_rfl

end
end Go.Vc

/- VdLaw3 -/
namespace Go.Vc
set_option linter.unusedVariables false
set_option linter.unusedSimpArgs false

theorem RC.ret_kb {P : Program} {G : Glob} {f : FuncId} {args : List EV} {H H' : Heap} {b : Bool} (h : RC P G f args H (.kb b) H') : RC P G f args H (.p (.bool b)) H' := by
  intro F regs w vs hh hG hv
  refine Calls.mono (h F regs w vs hh hG hv) ?_
  rintro e w' ⟨u, rfl, regs1, hs⟩
  refine ⟨u, rfl, regs1, hs.hp, hs.ext, ?_, hs.mv, hs.kp, hs.gr⟩
  have := hs.val
  cases this
  exact .p _ _ (.bool b)

section
variable {G : Glob} {T : Tab}

/-! ### ref.Echo, whole -/

theorem refEcho_p1 (l : List (List Nat)) (x res : List Nat) (mm : Int) : runFn Pd G T 100000 false [.br true, .is 12 (.p (.str x)), .br true, .tr 999999 (Tr.weak [5, 4, 3, 0, 2] [] []), .code (.exit 0) [(5, .p (.int .i64 mm)), (4, .p (.str res)), (3, .p (.str [])), (0, .p (.lst (l.length - 1) (List.drop 1 (List.take (l.length * 1) (List.map PV.str l))))), (2, .p (.str []))] []] 10 [.p (.lst l.length (List.map PV.str l))] [] = some ([decide (res.length + ([] : List Nat).length ≤ 4611686018427387904) = true, LC Pd G 36 0 [(5, .p (.int .i64 0)), (4, .p (.str [])), (3, .p (.str [])), (0, .p (.lst (l.length - 1) (List.drop 1 (List.take (l.length * 1) (List.map PV.str l))))), (2, .p (.str []))] [] (loopAt Pd 10 0) (.exit 0) [(5, .p (.int .i64 mm)), (4, .p (.str res)), (3, .p (.str [])), (0, .p (.lst (l.length - 1) (List.drop 1 (List.take (l.length * 1) (List.map PV.str l))))), (2, .p (.str []))] [], (true && decide (1 ≤ (l.length : Int))) = true, (x == [45, 110]) = true, Claim Pd G [(9, .kb true), (11, .p (.elem (List.map PV.str l) 0)), (9, .kb true), (10, .p (.lst l.length (List.map PV.str l))), (9, .kb true), (9, .p (.bool (decide ((l.length : Int) > 0)))), (8, .p (.bool (decide ((l.length : Int) > 0)))), (7, .p (.int .i64 (l.length : Int))), (6, .p (.lst l.length (List.map PV.str l))), (3, .p (.str [10])), (2, .p (.str [])), (0, .p (.lst l.length (List.map PV.str l)))] [] { dst := some 12, op := Op.load 9 (Operand.tmp 11), type := 9, pos := "ref.go:319", after := #[{ on := 5, ground := Ground.data }, { on := 3, ground := Ground.guard }], guard := some (3, true) } (.p (.str x)), (true && decide (0 < (l.length : Int))) = true, decide ((l.length : Int) > 0) = true], .p (.str (res ++ [])), []) := by kernel_rfl

theorem refEcho_p2 (l : List (List Nat)) (x res : List Nat) (mm : Int) : runFn Pd G T 100000 false [.br true, .is 12 (.p (.str x)), .br false, .tr 999999 (Tr.weak [5, 4, 3, 0, 2] [] []), .code (.exit 0) [(5, .p (.int .i64 mm)), (4, .p (.str res)), (3, .p (.str [10])), (0, .p (.lst l.length (List.map PV.str l))), (2, .p (.str []))] []] 10 [.p (.lst l.length (List.map PV.str l))] [] = some ([decide (res.length + [10].length ≤ 4611686018427387904) = true, LC Pd G 36 0 [(5, .p (.int .i64 0)), (4, .p (.str [])), (3, .p (.str [10])), (0, .p (.lst l.length (List.map PV.str l))), (2, .p (.str []))] [] (loopAt Pd 10 0) (.exit 0) [(5, .p (.int .i64 mm)), (4, .p (.str res)), (3, .p (.str [10])), (0, .p (.lst l.length (List.map PV.str l))), (2, .p (.str []))] [], (x == [45, 110]) = false, Claim Pd G [(9, .kb true), (11, .p (.elem (List.map PV.str l) 0)), (9, .kb true), (10, .p (.lst l.length (List.map PV.str l))), (9, .kb true), (9, .p (.bool (decide ((l.length : Int) > 0)))), (8, .p (.bool (decide ((l.length : Int) > 0)))), (7, .p (.int .i64 (l.length : Int))), (6, .p (.lst l.length (List.map PV.str l))), (3, .p (.str [10])), (2, .p (.str [])), (0, .p (.lst l.length (List.map PV.str l)))] [] { dst := some 12, op := Op.load 9 (Operand.tmp 11), type := 9, pos := "ref.go:319", after := #[{ on := 5, ground := Ground.data }, { on := 3, ground := Ground.guard }], guard := some (3, true) } (.p (.str x)), (true && decide (0 < (l.length : Int))) = true, decide ((l.length : Int) > 0) = true], .p (.str (res ++ [10])), []) := by kernel_rfl

theorem refEcho_p3 (l : List (List Nat)) (res : List Nat) (mm : Int) : runFn Pd G T 100000 false [.br false, .tr 999999 (Tr.weak [5, 4, 3, 0, 2] [] []), .code (.exit 0) [(5, .p (.int .i64 mm)), (4, .p (.str res)), (3, .p (.str [10])), (0, .p (.lst l.length (List.map PV.str l))), (2, .p (.str []))] []] 10 [.p (.lst l.length (List.map PV.str l))] [] = some ([decide (res.length + [10].length ≤ 4611686018427387904) = true, LC Pd G 36 0 [(5, .p (.int .i64 0)), (4, .p (.str [])), (3, .p (.str [10])), (0, .p (.lst l.length (List.map PV.str l))), (2, .p (.str []))] [] (loopAt Pd 10 0) (.exit 0) [(5, .p (.int .i64 mm)), (4, .p (.str res)), (3, .p (.str [10])), (0, .p (.lst l.length (List.map PV.str l))), (2, .p (.str []))] [], decide ((l.length : Int) > 0) = false], .p (.str (res ++ [10])), []) := by kernel_rfl

set_option maxRecDepth 20000 in
theorem refEcho_all (hT : TabOk Pd G T) (ps : List PV) (q : List (List Nat)) (e : List Nat) (hq : ∀ i, i < q.length → ps[i]? = some (.str (q.getD i []))) (hb : (joinS [32] q).length ≤ 1099511627776) (hl : q.length ≤ 1099511627776) :
    LC Pd G 36 0 (refEchoFr ps q.length e [] 0) [] (loopAt Pd 10 0) (.exit 0) (refEchoFr ps q.length e (joinS [32] q) q.length) [] := by
  cases q with
  | nil => exact LC.leave hT (refEcho_leave ps 0 e [] 0) ⟨by simp, trivial⟩ (by simp)
  | cons x r =>
    have hb' : (x ++ tailsL [32] r).length ≤ 1099511627776 := hb
    rw [List.length_append] at hb'
    have h1 := refEcho_loop hT ps (x :: r) e hq r.length 1 x (by simp; omega) (by omega) (by simpa using hb') hl
    refine LC.go hT (refEcho_go2 ps (x :: r).length e [] x 0) ?_ h1
    refine ⟨?_, ?_, ?_, ?_, ?_, ?_, trivial⟩
    · simp only [fitsK, min_i64, max_i64]; rfl
    · simp only [decide_eq_true_eq, List.length_nil]; omega
    · refine claim_str (t := 9) rfl (by kernel_rfl) rfl ?_
      exact hq 0 (by simp)
    · simp
    · rfl
    · simp

theorem refEcho_rc (hT : TabOk Pd G T) (l : List (List Nat)) (hl : l.length ≤ 1000000) (hb : totLen l ≤ 1000000000) : RC Pd G 10 [.p (.lst l.length (l.map PV.str))] [] (.p (.str (echoS l))) [] := by
  have hjl : ∀ q : List (List Nat), q.length ≤ 1000000 → totLen q ≤ 1000000000 → (joinS [32] q).length ≤ 2000000000 := by
    intro q h1 h2
    have := joinS_len [32] q
    simp only [List.length_cons, List.length_nil] at this
    omega
  cases l with
  | nil =>
    have := RC.of_runFn hT (refEcho_p3 [] (joinS [32] []) 0) ⟨by simp [joinS], refEcho_all hT _ [] [10] (by intro i hi; simp at hi) (by simp [joinS]) (by simp), by simp, trivial⟩
    exact this
  | cons x r =>
    have hc : ∀ i : Nat, i < (x :: r).length → ((x :: r).map PV.str)[i]? = some (.str ((x :: r).getD i [])) := fun i hi => strs_get (x :: r) i hi
    simp only [totLen, List.length_cons] at hl hb
    by_cases hx : x = [45, 110]
    · have hj := hjl r (by omega) (by omega)
      have e : List.drop 1 (List.take ((x :: r).length * 1) (List.map PV.str (x :: r))) = r.map PV.str := by
        simp only [Nat.mul_one, List.map_cons, List.length_cons, List.take_succ_cons, List.drop_succ_cons, List.drop_zero]
        exact List.take_of_length_le (by simp)
      have hlc := refEcho_all hT (r.map PV.str) r [] (fun i hi => strs_get r i hi) (by omega) (by omega)
      have := RC.of_runFn hT (refEcho_p1 (x :: r) x (joinS [32] r) r.length) ⟨by simp only [decide_eq_true_eq, List.length_nil]; omega, by rw [e]; exact hlc, by simp; omega, by simp [hx],
        claim_str (t := 9) rfl (by kernel_rfl) rfl rfl, by simp, by simp, trivial⟩
      simpa [echoS, hx] using this
    · have hj := hjl (x :: r) (by simpa using hl) (by simpa [totLen] using hb)
      have hlc := refEcho_all hT ((x :: r).map PV.str) (x :: r) [10] hc (by omega) (by simp; omega)
      have := RC.of_runFn hT (refEcho_p2 (x :: r) x (joinS [32] (x :: r)) (x :: r).length) ⟨by simp only [decide_eq_true_eq, List.length_cons, List.length_nil]; omega, hlc, by simpa using hx,
        claim_str (t := 9) rfl (by kernel_rfl) rfl rfl, by simp, by simp, trivial⟩
      simpa [echoS, hx] using this

/-! ### Short, whole -/

theorem short_p1 (l : List (List Nat)) (n k mm : Int) : runFn Pd G T 100000 false [.tr 999999 (Tr.weak [7, 6, 0, 1, 2] [] []), .code (.exit 0) [(7, .p (.int .i64 mm)), (6, .kb false), (0, .p (.lst l.length (List.map PV.str l))), (1, .p (.int .i64 n)), (2, .p (.int .i64 k))] []] 7 [.p (.lst l.length (List.map PV.str l)), .p (.int .i64 n), .p (.int .i64 k)] [] = some ([LC Pd G 30 0 [(7, .p (.int .i64 0)), (6, .kb false), (0, .p (.lst l.length (List.map PV.str l))), (1, .p (.int .i64 n)), (2, .p (.int .i64 k))] [] (loopAt Pd 7 0) (.exit 0) [(7, .p (.int .i64 mm)), (6, .kb false), (0, .p (.lst l.length (List.map PV.str l))), (1, .p (.int .i64 n)), (2, .p (.int .i64 k))] []], .p (.bool (decide ((l.length : Int) ≤ n))), []) := by kernel_rfl
theorem short_p2 (l : List (List Nat)) (n k mm : Int) : runFn Pd G T 100000 false [.tr 999999 (Tr.weak [7, 6, 0, 1, 2] [] []), .code .ret [(7, .p (.int .i64 mm)), (6, .kb false), (0, .p (.lst l.length (List.map PV.str l))), (1, .p (.int .i64 n)), (2, .p (.int .i64 k))] []] 7 [.p (.lst l.length (List.map PV.str l)), .p (.int .i64 n), .p (.int .i64 k)] [] = some ([LC Pd G 30 0 [(7, .p (.int .i64 0)), (6, .kb false), (0, .p (.lst l.length (List.map PV.str l))), (1, .p (.int .i64 n)), (2, .p (.int .i64 k))] [] (loopAt Pd 7 0) .ret [(7, .p (.int .i64 mm)), (6, .kb false), (0, .p (.lst l.length (List.map PV.str l))), (1, .p (.int .i64 n)), (2, .p (.int .i64 k))] []], .kb false, []) := by kernel_rfl

def shortFr (ps : List PV) (m : Nat) (n k i : Int) : Fr :=
  [(7, .p (.int .i64 i)), (6, .kb false), (0, .p (.lst m ps)), (1, .p (.int .i64 n)), (2, .p (.int .i64 k))]

theorem short_loop (hT : TabOk Pd G T) (l : List (List Nat)) (n k : Nat) (hn : n ≤ 1000000) : ∀ (d i : Nat), i + d = n + 1 → i ≤ l.length →
    (∃ j : Nat, j < l.length ∧ k < (l.getD j []).length ∧ LC Pd G 30 0 (shortFr (l.map PV.str) l.length n k i) [] (loopAt Pd 7 0) .ret (shortFr (l.map PV.str) l.length n k j) []) ∨
    (∃ m : Nat, (m = l.length ∨ m = n + 1) ∧ m ≤ l.length ∧ (∀ j, i ≤ j → j < m → (l.getD j []).length ≤ k) ∧ LC Pd G 30 0 (shortFr (l.map PV.str) l.length n k i) [] (loopAt Pd 7 0) (.exit 0) (shortFr (l.map PV.str) l.length n k m) []) := by
  intro d
  induction d with
  | zero =>
    intro i hi hl
    by_cases h : i < l.length
    · exact .inr ⟨i, .inr (by omega), hl, fun j h1 h2 => by omega, LC.leave hT (short_leave _ _ _ _ _) ⟨by simp only [decide_eq_false_iff_not]; omega, by simp only [decide_eq_true_eq]; omega, trivial⟩ (by simp)⟩
    · exact .inr ⟨i, .inl (by omega), hl, fun j h1 h2 => by omega, LC.leave hT (short_done _ _ _ _ _) ⟨by simp only [decide_eq_false_iff_not]; omega, trivial⟩ (by simp)⟩
  | succ d ih =>
    intro i hi hl
    by_cases h : i < l.length
    · have hc : Claim Pd G _ [] _ (.p (.str (l.getD i []))) := claim_str (t := 9) (o := { dst := some 22, op := Op.load 9 (Operand.tmp 21), type := 9, pos := "ref.go:163", after := #[{ on := 2, ground := Ground.data }], guard := none })
        (fr := [(21, EV.p (PV.elem (l.map PV.str) ((i : Int).toNat * 1))), (20, EV.p (PV.int .i64 i)), (19, EV.p (PV.lst l.length (l.map PV.str))),
          (16, EV.p (PV.bool (decide ((i : Int) ≤ n)))), (15, EV.p (PV.bool (decide ((i : Int) ≤ n)))), (12, EV.kb true),
          (14, EV.p (PV.int .i64 n)), (12, EV.kb true), (13, EV.p (PV.int .i64 i)), (12, EV.kb true),
          (12, EV.p (PV.bool (decide ((i : Int) < (l.length : Int))))), (11, EV.p (PV.bool (decide ((i : Int) < (l.length : Int))))),
          (10, EV.p (PV.int .i64 (l.length : Int))), (9, EV.p (PV.lst l.length (l.map PV.str))), (8, EV.p (PV.int .i64 i)),
          (7, EV.p (PV.int .i64 i)), (6, EV.kb false), (0, EV.p (PV.lst l.length (l.map PV.str))), (1, EV.p (PV.int .i64 n)),
          (2, EV.p (PV.int .i64 k))]) rfl (by kernel_rfl) rfl (by rw [Int.toNat_natCast, Nat.mul_one]; exact strs_get l i h)
      by_cases hk : k < (l.getD i []).length
      · refine .inl ⟨i, h, hk, LC.leave hT (short_go1 _ _ _ _ _ (l.getD i [])) ⟨?_, hc, ?_, ?_, ?_, trivial⟩ (by simp)⟩
        · simp only [decide_eq_true_eq]; omega
        · simp; omega
        · simp; omega
        · simp; omega
      · have go : ∀ {ex : Ex} {fr' : Fr}, LC Pd G 30 0 (shortFr (l.map PV.str) l.length n k ((i + 1 : Nat) : Int)) [] (loopAt Pd 7 0) ex fr' [] → LC Pd G 30 0 (shortFr (l.map PV.str) l.length n k i) [] (loopAt Pd 7 0) ex fr' [] := by
          intro ex fr' h1
          refine LC.go hT (short_go2 _ _ _ _ _ (l.getD i [])) ⟨?_, ?_, hc, ?_, ?_, ?_, trivial⟩ (by rw [Int.natCast_add] at h1; exact h1)
          · simp only [fitsK, min_i64, max_i64, Bool.and_eq_true, decide_eq_true_eq]; omega
          · simp only [decide_eq_false_iff_not]; omega
          · simp; omega
          · simp; omega
          · simp; omega
        rcases ih (i + 1) (by omega) (by omega) with ⟨j, h1, h2, h3⟩ | ⟨m, h1, h2, h3, h4⟩
        · exact .inl ⟨j, h1, h2, go h3⟩
        · refine .inr ⟨m, h1, h2, fun j h5 h6 => ?_, go h4⟩
          rcases Nat.lt_or_ge i j with h7 | h7
          · exact h3 j (by omega) h6
          · have : j = i := by omega
            subst this
            omega
    · exact .inr ⟨i, .inl (by omega), hl, fun j h1 h2 => by omega, LC.leave hT (short_done _ _ _ _ _) ⟨by simp only [decide_eq_false_iff_not]; omega, trivial⟩ (by simp)⟩

/-- At most n strings of at most k bytes each. -/
def shortB (l : List (List Nat)) (n k : Nat) : Bool := decide (l.length ≤ n) && l.all (fun x => decide (x.length ≤ k))

theorem short_rc (hT : TabOk Pd G T) (l : List (List Nat)) (n k : Nat) (hn : n ≤ 1000000) :
    RC Pd G 7 [.p (.lst l.length (l.map PV.str)), .p (.int .i64 n), .p (.int .i64 k)] [] (.p (.bool (shortB l n k))) [] := by
  rcases short_loop hT l n k hn (n + 1) 0 (by omega) (by omega) with ⟨j, h1, h2, h3⟩ | ⟨m, h1, h2, h3, h4⟩
  · have hf : shortB l n k = false := by
      unfold shortB
      rw [Bool.and_eq_false_iff]
      right
      rw [List.all_eq_false]
      refine ⟨l.getD j [], ?_, by simp only [decide_eq_true_eq]; omega⟩
      rw [List.getD_eq_getElem?_getD, List.getElem?_eq_getElem h1]
      exact List.getElem_mem h1
    rw [hf]
    exact RC.ret_kb (RC.of_runFn hT (short_p2 l n k j) ⟨h3, trivial⟩)
  · have := RC.of_runFn hT (short_p1 l n k m) ⟨h4, trivial⟩
    have he : shortB l n k = decide ((l.length : Int) ≤ (n : Int)) := by
      unfold shortB
      by_cases hln : l.length ≤ n
      · have hm : m = l.length := by omega
        have : l.all (fun x => decide (x.length ≤ k)) = true := by
          rw [List.all_eq_true]
          intro x hx
          obtain ⟨i, hi, rfl⟩ := List.getElem_of_mem hx
          have := h3 i (by omega) (by omega)
          rw [List.getD_eq_getElem?_getD, List.getElem?_eq_getElem hi] at this
          simpa using this
        rw [this]
        simp [hln, Int.ofNat_le.2 hln]
      · have h5 : ¬ ((l.length : Int) ≤ (n : Int)) := by omega
        simp [hln, h5]
    rw [he]
    exact this

theorem shortB_bounds {l : List (List Nat)} {n k : Nat} (h : shortB l n k = true) : l.length ≤ n ∧ totLen l ≤ l.length * k ∧ ∀ x ∈ l, x.length ≤ k := by
  unfold shortB at h
  simp only [Bool.and_eq_true, decide_eq_true_eq, List.all_eq_true] at h
  refine ⟨h.1, ?_, h.2⟩
  have : ∀ l : List (List Nat), (∀ x ∈ l, x.length ≤ k) → totLen l ≤ l.length * k := by
    intro l
    induction l with
    | nil => intro _; simp [totLen]
    | cons a r ih =>
      intro h
      have h1 := h a (by simp)
      have h2 := ih (fun x hx => h x (by simp [hx]))
      simp only [totLen, List.length_cons, Nat.add_mul, Nat.one_mul]
      omega
  exact this l h.2

/-! ### the law's function -/

theorem awake_run : runW Pd Gd T0 100000 true [] [] [] 8 [] [] =
some
  ([some
          (some
            (Blk.cells
              [EV.ptr 47 0, EV.sl 59 0 1 1, EV.sl 46 2 0 1, EV.kb true, EV.kb false,
                EV.p (PV.str [53, 120, 58, 32, 110, 111, 116, 32, 97, 32, 110, 117, 109, 98, 101, 114])]
              (Kd.obj 41))) =
        some
          (some
            (Blk.cells
              [EV.ptr 47 0, EV.sl 59 0 1 1, EV.sl 46 2 0 1, EV.kb true, EV.kb false,
                EV.p (PV.str [53, 120, 58, 32, 110, 111, 116, 32, 97, 32, 110, 117, 109, 98, 101, 114])]
              (Kd.obj 41))),
      some
          (some
            (Blk.cells
              [EV.ptr 47 0, EV.sl 59 0 1 1, EV.sl 46 2 0 1, EV.kb true, EV.kb false,
                EV.p (PV.str [53, 120, 58, 32, 110, 111, 116, 32, 97, 32, 110, 117, 109, 98, 101, 114])]
              (Kd.obj 41))) =
        some
          (some
            (Blk.cells
              [EV.ptr 47 0, EV.sl 59 0 1 1, EV.sl 46 2 0 1, EV.kb true, EV.kb false,
                EV.p (PV.str [53, 120, 58, 32, 110, 111, 116, 32, 97, 32, 110, 117, 109, 98, 101, 114])]
              (Kd.obj 41))),
      some
          (some
            (Blk.cells
              [EV.p (PV.bool false), EV.p (PV.bool false), EV.p (PV.bool false), EV.p (PV.int .i64 0),
                EV.p (PV.int .i64 0), EV.p (PV.bool false), EV.p (PV.int .u8 100),
                EV.p (PV.int .i64 2)]
              (Kd.obj 56))) =
        some
          (some
            (Blk.cells
              [EV.p (PV.bool false), EV.p (PV.bool false), EV.p (PV.bool false), EV.p (PV.int .i64 0),
                EV.p (PV.int .i64 0), EV.p (PV.bool false), EV.p (PV.int .u8 100),
                EV.p (PV.int .i64 2)]
              (Kd.obj 56))),
      some
          (some
            (Blk.cells
              [EV.p (PV.bool false), EV.p (PV.bool false), EV.p (PV.bool false), EV.p (PV.int .i64 0),
                EV.p (PV.int .i64 0), EV.p (PV.bool false), EV.p (PV.int .u8 100),
                EV.p (PV.int .i64 2)]
              (Kd.obj 56))) =
        some
          (some
            (Blk.cells
              [EV.p (PV.bool false), EV.p (PV.bool false), EV.p (PV.bool false), EV.p (PV.int .i64 0),
                EV.p (PV.int .i64 0), EV.p (PV.bool false), EV.p (PV.int .u8 100),
                EV.p (PV.int .i64 2)]
              (Kd.obj 56))),
      IsExt Pd 42 Extern.AbiNoEscape.same, IsExt Pd 88 Extern.BytealgIndexByte.indexByte,
      IsExt Pd 88 Extern.BytealgIndexByte.indexByte,
      some
          (some
            (Blk.cells [EV.ptr 1 0, EV.sl 45 0 16 1, EV.sl 0 4 0 1, EV.kb true, EV.kb false, EV.p (PV.str [])]
              (Kd.obj 41))) =
        some
          (some
            (Blk.cells [EV.ptr 1 0, EV.sl 45 0 16 1, EV.sl 0 4 0 1, EV.kb true, EV.kb false, EV.p (PV.str [])]
              (Kd.obj 41))),
      some
          (some
            (Blk.cells [EV.ptr 1 0, EV.sl 45 0 16 1, EV.sl 0 4 0 1, EV.kb true, EV.kb false, EV.p (PV.str [])]
              (Kd.obj 41))) =
        some
          (some
            (Blk.cells [EV.ptr 1 0, EV.sl 45 0 16 1, EV.sl 0 4 0 1, EV.kb true, EV.kb false, EV.p (PV.str [])]
              (Kd.obj 41))),
      some
          (some
            (Blk.cells
              [EV.p (PV.bool false), EV.p (PV.bool true), EV.p (PV.bool false), EV.p (PV.int .i64 5),
                EV.p (PV.int .i64 0), EV.p (PV.bool false), EV.p (PV.int .u8 100),
                EV.p (PV.int .i64 4)]
              (Kd.obj 56))) =
        some
          (some
            (Blk.cells
              [EV.p (PV.bool false), EV.p (PV.bool true), EV.p (PV.bool false), EV.p (PV.int .i64 5),
                EV.p (PV.int .i64 0), EV.p (PV.bool false), EV.p (PV.int .u8 100),
                EV.p (PV.int .i64 4)]
              (Kd.obj 56))),
      some
          (some
            (Blk.cells
              [EV.p (PV.bool false), EV.p (PV.bool true), EV.p (PV.bool false), EV.p (PV.int .i64 5),
                EV.p (PV.int .i64 0), EV.p (PV.bool false), EV.p (PV.int .u8 100),
                EV.p (PV.int .i64 4)]
              (Kd.obj 56))) =
        some
          (some
            (Blk.cells
              [EV.p (PV.bool false), EV.p (PV.bool true), EV.p (PV.bool false), EV.p (PV.int .i64 5),
                EV.p (PV.int .i64 0), EV.p (PV.bool false), EV.p (PV.int .u8 100),
                EV.p (PV.int .i64 4)]
              (Kd.obj 56))),
      IsExt Pd 88 Extern.BytealgIndexByte.indexByte, IsExt Pd 88 Extern.BytealgIndexByte.indexByte,
      IsExt Pd 88 Extern.BytealgIndexByte.indexByte,
      some
          (some
            (Blk.cells
              [EV.p (PV.bool false), EV.p (PV.bool false), EV.p (PV.bool false), EV.p (PV.int .i64 0),
                EV.p (PV.int .i64 0), EV.p (PV.bool false), EV.p (PV.int .u8 115),
                EV.p (PV.int .i64 2)]
              (Kd.obj 56))) =
        some
          (some
            (Blk.cells
              [EV.p (PV.bool false), EV.p (PV.bool false), EV.p (PV.bool false), EV.p (PV.int .i64 0),
                EV.p (PV.int .i64 0), EV.p (PV.bool false), EV.p (PV.int .u8 115),
                EV.p (PV.int .i64 2)]
              (Kd.obj 56))),
      some
          (some
            (Blk.cells
              [EV.p (PV.bool false), EV.p (PV.bool false), EV.p (PV.bool false), EV.p (PV.int .i64 0),
                EV.p (PV.int .i64 0), EV.p (PV.bool false), EV.p (PV.int .u8 115),
                EV.p (PV.int .i64 2)]
              (Kd.obj 56))) =
        some
          (some
            (Blk.cells
              [EV.p (PV.bool false), EV.p (PV.bool false), EV.p (PV.bool false), EV.p (PV.int .i64 0),
                EV.p (PV.int .i64 0), EV.p (PV.bool false), EV.p (PV.int .u8 115),
                EV.p (PV.int .i64 2)]
              (Kd.obj 56))),
      some
          (some
            (Blk.cells
              [EV.p (PV.bool false), EV.p (PV.bool false), EV.p (PV.bool false), EV.p (PV.int .i64 0),
                EV.p (PV.int .i64 0), EV.p (PV.bool false), EV.p (PV.int .u8 115),
                EV.p (PV.int .i64 2)]
              (Kd.obj 56))) =
        some
          (some
            (Blk.cells
              [EV.p (PV.bool false), EV.p (PV.bool false), EV.p (PV.bool false), EV.p (PV.int .i64 0),
                EV.p (PV.int .i64 0), EV.p (PV.bool false), EV.p (PV.int .u8 115),
                EV.p (PV.int .i64 2)]
              (Kd.obj 56))),
      IsExt Pd 88 Extern.BytealgIndexByte.indexByte, IsExt Pd 88 Extern.BytealgIndexByte.indexByte,
      some
          (some
            (Blk.cells
              [EV.p (PV.bool false), EV.p (PV.bool true), EV.p (PV.bool false), EV.p (PV.int .i64 5),
                EV.p (PV.int .i64 0), EV.p (PV.bool false), EV.p (PV.int .u8 100),
                EV.p (PV.int .i64 4)]
              (Kd.obj 56))) =
        some
          (some
            (Blk.cells
              [EV.p (PV.bool false), EV.p (PV.bool true), EV.p (PV.bool false), EV.p (PV.int .i64 5),
                EV.p (PV.int .i64 0), EV.p (PV.bool false), EV.p (PV.int .u8 100),
                EV.p (PV.int .i64 4)]
              (Kd.obj 56))),
      some
          (some
            (Blk.cells
              [EV.p (PV.bool false), EV.p (PV.bool true), EV.p (PV.bool false), EV.p (PV.int .i64 5),
                EV.p (PV.int .i64 0), EV.p (PV.bool false), EV.p (PV.int .u8 100),
                EV.p (PV.int .i64 4)]
              (Kd.obj 56))) =
        some
          (some
            (Blk.cells
              [EV.p (PV.bool false), EV.p (PV.bool true), EV.p (PV.bool false), EV.p (PV.int .i64 5),
                EV.p (PV.int .i64 0), EV.p (PV.bool false), EV.p (PV.int .u8 100),
                EV.p (PV.int .i64 4)]
              (Kd.obj 56))),
      IsExt Pd 88 Extern.BytealgIndexByte.indexByte, IsExt Pd 88 Extern.BytealgIndexByte.indexByte,
      IsExt Pd 88 Extern.BytealgIndexByte.indexByte,
      some
          (some
            (Blk.cells
              [EV.p (PV.bool false), EV.p (PV.bool false), EV.p (PV.bool false), EV.p (PV.int .i64 0),
                EV.p (PV.int .i64 0), EV.p (PV.bool false), EV.p (PV.int .u8 115),
                EV.p (PV.int .i64 2)]
              (Kd.obj 56))) =
        some
          (some
            (Blk.cells
              [EV.p (PV.bool false), EV.p (PV.bool false), EV.p (PV.bool false), EV.p (PV.int .i64 0),
                EV.p (PV.int .i64 0), EV.p (PV.bool false), EV.p (PV.int .u8 115),
                EV.p (PV.int .i64 2)]
              (Kd.obj 56))),
      some
          (some
            (Blk.cells
              [EV.p (PV.bool false), EV.p (PV.bool false), EV.p (PV.bool false), EV.p (PV.int .i64 0),
                EV.p (PV.int .i64 0), EV.p (PV.bool false), EV.p (PV.int .u8 115),
                EV.p (PV.int .i64 2)]
              (Kd.obj 56))) =
        some
          (some
            (Blk.cells
              [EV.p (PV.bool false), EV.p (PV.bool false), EV.p (PV.bool false), EV.p (PV.int .i64 0),
                EV.p (PV.int .i64 0), EV.p (PV.bool false), EV.p (PV.int .u8 115),
                EV.p (PV.int .i64 2)]
              (Kd.obj 56))),
      some
          (some
            (Blk.cells
              [EV.p (PV.bool false), EV.p (PV.bool false), EV.p (PV.bool false), EV.p (PV.int .i64 0),
                EV.p (PV.int .i64 0), EV.p (PV.bool false), EV.p (PV.int .u8 115),
                EV.p (PV.int .i64 2)]
              (Kd.obj 56))) =
        some
          (some
            (Blk.cells
              [EV.p (PV.bool false), EV.p (PV.bool false), EV.p (PV.bool false), EV.p (PV.int .i64 0),
                EV.p (PV.int .i64 0), EV.p (PV.bool false), EV.p (PV.int .u8 115),
                EV.p (PV.int .i64 2)]
              (Kd.obj 56))),
      IsExt Pd 42 Extern.AbiNoEscape.same, IsExt Pd 88 Extern.BytealgIndexByte.indexByte,
      IsExt Pd 88 Extern.BytealgIndexByte.indexByte],
    EV.p (PV.bool true), []) := by kernel_rfl

theorem isExt88 : IsExt Pd 88 Extern.BytealgIndexByte.indexByte := ⟨Go.Proofs.Tryd.f88, by kernel_rfl, by kernel_rfl, by kernel_rfl, by kernel_rfl, by kernel_rfl⟩

set_option maxRecDepth 20000 in
theorem awake_rc : RC Pd Gd 8 [] [] (.p (.bool true)) [] := by
  refine RC.of_run (T0_ok Gd) awake_run ?_
  simp only [AllT]
  repeat' (first | exact trivial | exact isExt42 | exact isExt88 | exact rfl | apply And.intro)

theorem echos_p1 (l : List (List Nat)) (b : Bool) : runFn Pd G T 100000 false [.call (.p (.bool b)) [], .br true, .call (.p (.bool true)) []] 3 [.p (.lst l.length (l.map PV.str))] [] = some ([RC Pd G 8 [] [] (.p (.bool true)) [], (!b) = true, RC Pd G 7 [.p (.lst l.length (l.map PV.str)), .p (.int .i64 12), .p (.int .i64 100)] [] (.p (.bool b)) []], .p (.bool true), []) := by kernel_rfl

theorem echos_p2 (l : List (List Nat)) (b : Bool) (x y : List Nat) : runFn Pd G T 100000 false [.call (.p (.bool b)) [], .br false, .call (.p (.str x)) [], .call (.p (.str y)) [], .br true, .call (.p (.bool true)) []] 3 [.p (.lst l.length (l.map PV.str))] [] = some ([RC Pd G 8 [] [] (.p (.bool true)) [], (x == y) = true, RC Pd G 10 [.p (.lst l.length (l.map PV.str))] [] (.p (.str y)) [], RC Pd G 9 [.p (.lst l.length (l.map PV.str))] [] (.p (.str x)) [], (!b) = false, RC Pd G 7 [.p (.lst l.length (l.map PV.str)), .p (.int .i64 12), .p (.int .i64 100)] [] (.p (.bool b)) []], .p (.bool true), []) := by kernel_rfl

theorem echos_rc (l : List (List Nat)) : RC Pd Gd 3 [.p (.lst l.length (l.map PV.str))] [] (.p (.bool true)) [] := by
  have hT := T0_ok Gd
  have hs := short_rc hT l 12 100 (by omega)
  cases hb : shortB l 12 100 with
  | false =>
    rw [hb] at hs
    exact RC.of_runFn hT (echos_p1 l false) ⟨awake_rc, rfl, hs, trivial⟩
  | true =>
    obtain ⟨h1, h2, h3⟩ := shortB_bounds hb
    rw [hb] at hs
    have hl : l.length ≤ 1000000 := by omega
    have ht : totLen l ≤ 1000000000 := by
      have : l.length * 100 ≤ 12 * 100 := Nat.mul_le_mul_right _ h1
      omega
    exact RC.of_runFn hT (echos_p2 l true (echoS l) (echoS l)) ⟨awake_rc, by simp, refEcho_rc hT l hl ht, echo_rc hT l hl ht, rfl, hs, trivial⟩
end
end Go.Vc
