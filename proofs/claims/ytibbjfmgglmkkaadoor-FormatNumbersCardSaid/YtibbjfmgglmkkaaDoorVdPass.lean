/- Own texts of the proof, put together: VdPass. -/
import Derived.Test.YtibbjfmgglmkkaaDoorVdFmt
import Derived.Test.YtibbjfmgglmkkaaDoorVdAny
import Derived.Test.YtibbjfmgglmkkaaDoorVdBase
import Derived.Test.YtibbjfmgglmkkaaDoorVcEl
/- VdPass -/
namespace Go.Vc
set_option linter.unusedVariables false
set_option linter.unusedSimpArgs false

theorem RC.pre_dk {P : Program} {G : Glob} {f : FuncId} {args : List EV} {H H' : Heap} {ret : EV} (h : RC P G f args (H.map dkB) ret H') : RC P G f args H ret H' := by
  intro F regs w vs hh hG hv
  have e1 : tot F regs (H.map dkB) = tot F regs H := by funext r x; unfold tot; rw [owned_dk]
  refine Calls.mono (h F regs w vs hh.dk (by rw [e1]; exact hG) (by rw [e1]; exact hv)) ?_
  rintro e w' ⟨u, rfl, regs1, hs⟩
  have h1 := hs.mv
  have h2 := hs.kp
  have h3 := hs.gr
  rw [e1] at h1
  rw [owned_dk] at h2 h3
  exact ⟨u, rfl, regs1, hs.hp, hs.ext, hs.val, h1, h2, h3⟩

section
variable {G : Glob} {T : Tab}
theorem convS_p1 (mi ze pl : Bool) (wi pr : Int) (ex : Bool) (ln : Int) (out out' : List Nat) (left left' : List (List Nat)) (used used' done done' : Bool) (msg msg' x y z : List Nat) : runW Pd G T 100000 false [.br false, .br false, .br true, .callv (.p (.str x)) [some (.cells [.mptr 0 0, .nsl 1 out.length 1, .p (.lst left'.length (List.map PV.str left')), .p (.bool used'), .p (.bool done), .p (.str msg)] (.obj 41)), some (.bytes out 5)], .callv (.p (.str y)) [], .callv (.p (.str z)) [], .callv (.tup []) [some (.cells [.mptr 0 0, .nsl 2 out'.length 1, .p (.lst left'.length (List.map PV.str left')), .p (.bool used'), .p (.bool done'), .p (.str msg')] (.obj 41)), none, some (.bytes out' 5)], .tr 888888 Tr.dk] [] [3] 25 [.ptr 0 0, .p (.agg [.bool mi, .bool ze, .bool pl, .int .i64 wi, .int .i64 pr, .bool ex, .int .u8 115, .int .i64 ln])] [some (.cells [.mptr 0 0, .nsl 1 out.length 1, .p (.lst left.length (List.map PV.str left)), .p (.bool used), .p (.bool done), .p (.str msg)] (.obj 41)), some (.bytes out 5)] = some ([some (some (Blk.cells [.p (.bool mi), .p (.bool ze), .p (.bool pl), .p (.int .i64 wi), .p (.int .i64 pr), .p (.bool ex), .p (.int .u8 115), .p (.int .i64 ln)] (.obj 56))) = some (some (Blk.cells [.p (.bool mi), .p (.bool ze), .p (.bool pl), .p (.int .i64 wi), .p (.int .i64 pr), .p (.bool ex), .p (.int .u8 115), .p (.int .i64 ln)] (.obj 56))), some (some (Blk.cells [.p (.bool mi), .p (.bool ze), .p (.bool pl), .p (.int .i64 wi), .p (.int .i64 pr), .p (.bool ex), .p (.int .u8 115), .p (.int .i64 ln)] (.obj 56))) = some (some (Blk.cells [.p (.bool mi), .p (.bool ze), .p (.bool pl), .p (.int .i64 wi), .p (.int .i64 pr), .p (.bool ex), .p (.int .u8 115), .p (.int .i64 ln)] (.obj 56))), some (some (Blk.cells [.p (.bool mi), .p (.bool ze), .p (.bool pl), .p (.int .i64 wi), .p (.int .i64 pr), .p (.bool ex), .p (.int .u8 115), .p (.int .i64 ln)] (.obj 56))) = some (some (Blk.cells [.p (.bool mi), .p (.bool ze), .p (.bool pl), .p (.int .i64 wi), .p (.int .i64 pr), .p (.bool ex), .p (.int .u8 115), .p (.int .i64 ln)] (.obj 56))), RC Pd G 22 [.ptr 0 0, .p (.str z)] [some (.cells [.mptr 0 0, .nsl 1 out.length 1, .p (.lst left'.length (List.map PV.str left')), .p (.bool used'), .p (.bool done), .p (.str msg)] (.obj 41)), some (.bytes out 5)] (.tup []) [some (.cells [.mptr 0 0, .nsl 2 out'.length 1, .p (.lst left'.length (List.map PV.str left')), .p (.bool used'), .p (.bool done'), .p (.str msg')] (.obj 41)), none, some (.bytes out' 5)], RC Pd G 35 [.p (.agg [.bool mi, .bool ze, .bool pl, .int .i64 wi, .int .i64 pr, .bool ex, .int .u8 115, .int .i64 ln]), .p (.str y)] [] (.p (.str z)) [], RC Pd G 37 [.p (.agg [.bool mi, .bool ze, .bool pl, .int .i64 wi, .int .i64 pr, .bool ex, .int .u8 115, .int .i64 ln]), .p (.str x)] [] (.p (.str y)) [], RC Pd G 36 [.ptr 0 0] [some (.cells [.mptr 0 0, .nsl 1 out.length 1, .p (.lst left.length (List.map PV.str left)), .p (.bool used), .p (.bool done), .p (.str msg)] (.obj 41)), some (.bytes out 5)] (.p (.str x)) [some (.cells [.mptr 0 0, .nsl 1 out.length 1, .p (.lst left'.length (List.map PV.str left')), .p (.bool used'), .p (.bool done), .p (.str msg)] (.obj 41)), some (.bytes out 5)], true = true, true = true, true = true, false = false, false = false], .tup [], [some (.cells [.mptr 0 0, .nsl 2 out'.length 1, .p (.lst left'.length (List.map PV.str left')), .p (.bool used'), .p (.bool done'), .p (.str msg')] (.obj 41)), none, some (.bytes out' 5)]) := by kernel_rfl

theorem passS_p1 (out out' : List Nat) (left left' : List (List Nat)) (used used' done' : Bool) (msg msg' : List Nat) : runW Pd G T 100000 false [.br true, .br true, .br false, .br true, .callv (.tup [.p (.agg [.bool false, .bool false, .bool false, .int .i64 0, .int .i64 0, .bool false, .int .u8 115, .int .i64 2]), .kb true]) [], .callv (.tup []) [some (.cells [.mptr 0 0, .nsl 2 out'.length 1, .p (.lst left'.length (List.map PV.str left')), .p (.bool used'), .p (.bool done'), .p (.str msg')] (.obj 41)), none, some (.bytes out' 5)], .br false, .tr 888888 Tr.dk] [] [3] 15 [.ptr 0 0, .p (.str [37, 115])] [some (.cells [.mptr 0 0, .nsl 1 out.length 1, .p (.lst left.length (List.map PV.str left)), .p (.bool used), .p (.bool false), .p (.str msg)] (.obj 41)), some (.bytes out 5)] = some ([false = false, true = true, RC Pd G 25 [.ptr 0 0, .p (.agg [.bool false, .bool false, .bool false, .int .i64 0, .int .i64 0, .bool false, .int .u8 115, .int .i64 2])] [some (.cells [.mptr 0 0, .nsl 1 out.length 1, .p (.lst left.length (List.map PV.str left)), .kb false, .p (.bool false), .p (.str msg)] (.obj 41)), some (.bytes out 5)] (.tup []) [some (.cells [.mptr 0 0, .nsl 2 out'.length 1, .p (.lst left'.length (List.map PV.str left')), .p (.bool used'), .p (.bool done'), .p (.str msg')] (.obj 41)), none, some (.bytes out' 5)], true = true, true = true, RC Pd G 23 [.p (.str [37, 115])] [] (.tup [.p (.agg [.bool false, .bool false, .bool false, .int .i64 0, .int .i64 0, .bool false, .int .u8 115, .int .i64 2]), .kb true]) [], true = true, false = false, true = true, true = true, true = true, true = true], .tup [], [some (.cells [.mptr 0 0, .nsl 2 out'.length 1, .p (.lst left'.length (List.map PV.str left')), .p (.bool used'), .p (.bool done'), .p (.str msg')] (.obj 41)), none, some (.bytes out' 5)]) := by kernel_rfl

theorem passL_l3 (s out out' : List Nat) (left : List (List Nat)) (used done done' : Bool) (msg msg' : List Nat) : runC Pd G T 100000 false [.br true, .br true, .br false, .br false, .callv (.tup []) [some (.cells [.mptr 0 0, .nsl 2 out'.length 1, .p (.lst left.length (List.map PV.str left)), .p (.bool used), .p (.bool done'), .p (.str msg')] (.obj 41)), none, some (.bytes out' 5)], .tr 888888 Tr.dk] 62 2 [(0, .ptr 0 0), (1, .p (.str s))] [some (.cells [.mptr 0 0, .nsl 2 out.length 1, .p (.lst left.length (List.map PV.str left)), .p (.bool used), .p (.bool done), .p (.str msg)] (.obj 41)), none, some (.bytes out 5)] (loopAt Pd 15 0) [0, 1] [] [3] = some ([(true && decide (1 ≤ (↑s.length : Int))) = true, RC Pd G 22 [.ptr 0 0, .p (.str (List.take 1 s))] [some (.cells [.mptr 0 0, .nsl 1 out.length 1, .p (.lst left.length (List.map PV.str left)), .p (.bool used), .p (.bool done), .p (.str msg)] (.obj 41)), some (.bytes out 5)] (.tup []) [some (.cells [.mptr 0 0, .nsl 2 out'.length 1, .p (.lst left.length (List.map PV.str left)), .p (.bool used), .p (.bool done'), .p (.str msg')] (.obj 41)), none, some (.bytes out' 5)], (true && decide (1 ≤ (↑s.length : Int))) = true, ((↑(s.getD 0 0) : Int) == 37) = false, ((↑(s.getD 0 0) : Int) == 92) = false, (true && decide (0 < (↑s.length : Int))) = true, (!done) = true, (!s == []) = true], .normal, [(0, .ptr 0 0), (1, .p (.str (List.drop 1 s)))], [some (.cells [.mptr 0 0, .nsl 2 out'.length 1, .p (.lst left.length (List.map PV.str left)), .p (.bool used), .p (.bool done'), .p (.str msg')] (.obj 41)), none, some (.bytes out' 5)]) := by kernel_rfl

theorem passL_l4 (s out out' : List Nat) (left : List (List Nat)) (used done done' : Bool) (msg msg' : List Nat) : runC Pd G T 100000 false [.br true, .br false, .tr 888888 Tr.dk] 62 2 [(0, .ptr 0 0), (1, .p (.str s))] [some (.cells [.mptr 0 0, .nsl 2 out.length 1, .p (.lst left.length (List.map PV.str left)), .p (.bool used), .p (.bool done), .p (.str msg)] (.obj 41)), none, some (.bytes out 5)] (loopAt Pd 15 0) [0, 1] [] [2] = some ([(!done) = false, (!s == []) = true], .exit 0, [(0, .ptr 0 0), (1, .p (.str s))], [some (.cells [.mptr 0 0, .nsl 2 out.length 1, .p (.lst left.length (List.map PV.str left)), .p (.bool used), .p (.bool done), .p (.str msg)] (.obj 41)), none, some (.bytes out 5)]) := by kernel_rfl

theorem passL_l5 (s out out' : List Nat) (left : List (List Nat)) (used done done' : Bool) (msg msg' : List Nat) : runC Pd G T 100000 false [.br false, .tr 888888 Tr.dk] 62 2 [(0, .ptr 0 0), (1, .p (.str s))] [some (.cells [.mptr 0 0, .nsl 2 out.length 1, .p (.lst left.length (List.map PV.str left)), .p (.bool used), .p (.bool done), .p (.str msg)] (.obj 41)), none, some (.bytes out 5)] (loopAt Pd 15 0) [0, 1] [] [2] = some ([(!s == []) = false], .exit 0, [(0, .ptr 0 0), (1, .p (.str s))], [some (.cells [.mptr 0 0, .nsl 2 out.length 1, .p (.lst left.length (List.map PV.str left)), .p (.bool used), .p (.bool done), .p (.str msg)] (.obj 41)), none, some (.bytes out 5)]) := by kernel_rfl

theorem passW_p1 (s out out' : List Nat) (left : List (List Nat)) (used done done' : Bool) (msg msg' s' : List Nat) : runW Pd G T 100000 false [.tr 999999 (Tr.weak [0, 1] [] [1]), .tr 999999 Tr.dk, .code (.exit 0) [(0, .ptr 0 0), (1, .p (.str s'))] [some (.cells [.mptr 0 0, .nsl 2 out'.length 1, .p (.lst left.length (List.map PV.str left)), .p (.bool false), .p (.bool done'), .p (.str msg')] (.obj 41)), none, some (.bytes out' 5)]] [] [2] 15 [.ptr 0 0, .p (.str s)] [some (.cells [.mptr 0 0, .nsl 1 out.length 1, .p (.lst left.length (List.map PV.str left)), .p (.bool used), .p (.bool done), .p (.str msg)] (.obj 41)), some (.bytes out 5)] = some ([LC Pd G 62 2 [(0, .ptr 0 0), (1, .p (.str s))] [some (.cells [.mptr 0 0, .nsl 2 out.length 1, .p (.lst left.length (List.map PV.str left)), .p (.bool false), .p (.bool done), .p (.str msg)] (.obj 41)), none, some (.bytes out 5)] (loopAt Pd 15 0) (.exit 0) [(0, .ptr 0 0), (1, .p (.str s'))] [some (.cells [.mptr 0 0, .nsl 2 out'.length 1, .p (.lst left.length (List.map PV.str left)), .p (.bool false), .p (.bool done'), .p (.str msg')] (.obj 41)), none, some (.bytes out' 5)], true = true], .tup [], [some (.cells [.mptr 0 0, .nsl 2 out'.length 1, .p (.lst left.length (List.map PV.str left)), .p (.bool false), .p (.bool done'), .p (.str msg')] (.obj 41)), none, some (.bytes out' 5)]) := by kernel_rfl


def cvS : Cv := ⟨false, false, false, 0, 0, false, 115, 2⟩

theorem readS_run : runW Pd G T0 100000 true [] [] [] 23 [.p (.str [37, 115])] [] =
  some ([IsExt Pd 88 Extern.BytealgIndexByte.indexByte, IsExt Pd 88 Extern.BytealgIndexByte.indexByte], .tup [.p cvS.pv, .kb true], []) := by kernel_rfl

theorem readS_rc : RC Pd G 23 [.p (.str [37, 115])] [] (.tup [.p cvS.pv, .kb true]) [] := RC.of_run (T0_ok G) readS_run ⟨isExt88', isExt88', trivial⟩

/-- The conversion of an operand as a string. -/
def convSS (c : Cv) (st : PS) : PS := addS (opS st) (fillS c (cutS c (st.left.headD [])))

theorem convS_rc (hT : TabOk Pd G T) (c : Cv) (st : PS) (hc : c.le = 115) (hw : c.wi ≤ 5000) (h1 : st.out.length ≤ 65536) (h2 : (st.left.headD []).length ≤ 1000000) :
    RC Pd G 25 [.ptr 0 0, .p c.pv] (PH st) (.tup []) (PH2 (convSS c st)) := by
  have hop := operand_rc (G := G) hT st
  have hcut := cut_rc (G := G) hT c (st.left.headD [])
  have hcl : (cutS c (st.left.headD [])).length ≤ 1000000 := by
    unfold cutS; split
    · rw [List.length_take]; omega
    · exact h2
  have hfill := fill_rc (G := G) hT c (cutS c (st.left.headD [])) hw (by omega)
  have hfl : (fillS c (cutS c (st.left.headD []))).length ≤ 1000000000 := by
    unfold fillS; split <;> simp only [List.length_append, List.length_replicate] <;> omega
  have ho : (opS st).out = st.out ∧ (opS st).done = st.done ∧ (opS st).msg = st.msg := by
    obtain ⟨out, left, used, done, msg⟩ := st
    cases left <;> exact ⟨rfl, rfl, rfl⟩
  have hadd := add_rc (G := G) hT (opS st) (fillS c (cutS c (st.left.headD []))) (by rw [ho.1]; exact h1) hfl
  have ha : (convSS c st).left = (opS st).left ∧ (convSS c st).used = (opS st).used := by
    unfold convSS addS; split <;> exact ⟨rfl, rfl⟩
  have hst : convSS c st = addS (opS st) (fillS c (cutS c (st.left.headD []))) := rfl
  rw [← hst] at hadd
  generalize fillS c (cutS c (st.left.headD [])) = z at *
  generalize cutS c (st.left.headD []) = y at *
  generalize st.left.headD [] = x at *
  generalize hr : convSS c st = r at *
  generalize ho2 : opS st = o at *
  obtain ⟨mi, ze, pl, wi, pr, ex, le, ln⟩ := c
  simp only at hc
  subst hc
  obtain ⟨out, left, used, done, msg⟩ := st
  obtain ⟨out2, left2, used2, done2, msg2⟩ := o
  obtain ⟨out3, left3, used3, done3, msg3⟩ := r
  simp only at ho ha
  obtain ⟨rfl, rfl, rfl⟩ := ho
  obtain ⟨rfl, rfl⟩ := ha
  exact RC.of_run hT (convS_p1 (G := G) mi ze pl wi pr ex ln out2 out3 left left3 used used3 done2 done3 msg2 msg3 x y z) ⟨rfl, rfl, rfl, hadd, hfill, hcut, hop, rfl, rfl, rfl, rfl, rfl, trivial⟩

/-- One pass of '%s'. -/
def passSS (st : PS) : PS := convSS cvS { st with used := false }

def GoodS (st : PS) : Prop := st.out.length ≤ 65536 ∧ ∀ x ∈ st.left, x.length ≤ 1000000

theorem headD_len {l : List (List Nat)} (h : ∀ x ∈ l, x.length ≤ 1000000) : (l.headD []).length ≤ 1000000 := by
  cases l with
  | nil => simp
  | cons a r => exact h a (by simp)

theorem addS_out (st : PS) (s : List Nat) (h : st.out.length ≤ 65536) : (addS st s).out.length ≤ 65536 := by
  unfold addS; split
  · exact h
  · simp only [List.length_append]; omega

theorem addS_left (st : PS) (s : List Nat) : (addS st s).left = st.left ∧ (addS st s).used = st.used := by
  unfold addS; split <;> exact ⟨rfl, rfl⟩

theorem passS_ok (hT : TabOk Pd G T) : PassOk G [37, 115] passSS GoodS := by
  refine ⟨fun st hg hd => ?_, fun st hg hd => ?_, fun st hg hd hu => ?_⟩
  · have hc := convS_rc (G := G) hT cvS { st with used := false } rfl (by decide) hg.1 (headD_len hg.2)
    have hst : convSS cvS { st with used := false } = passSS st := rfl
    rw [hst] at hc
    generalize passSS st = r at *
    obtain ⟨out, left, used, done, msg⟩ := st
    obtain ⟨out2, left2, used2, done2, msg2⟩ := r
    simp only at hd
    subst hd
    exact RC.of_run hT (passS_p1 (G := G) out out2 left left2 used used2 done2 msg msg2) ⟨rfl, rfl, RC.pre_dk hc, rfl, rfl, readS_rc, rfl, rfl, rfl, rfl, rfl, rfl, trivial⟩
  · refine ⟨?_, ?_⟩
    · unfold passSS convSS
      refine addS_out _ _ ?_
      obtain ⟨out, left, used, done, msg⟩ := st
      cases left <;> exact hg.1
    · intro x hx
      unfold passSS convSS at hx
      rw [(addS_left _ _).1] at hx
      obtain ⟨out, left, used, done, msg⟩ := st
      cases left with
      | nil => simp [opS] at hx
      | cons a r => exact hg.2 x (by simp [opS] at hx; simp [hx])
  · unfold passSS convSS at hu ⊢
    rw [(addS_left _ _).2] at hu
    rw [(addS_left _ _).1]
    obtain ⟨out, left, used, done, msg⟩ := st
    cases left with
    | nil => simp [opS] at hu
    | cons a r => simp [opS]

/-! ### a format without conversions and escapes -/

def plainP : List Nat → PS → PS
  | [], st => st
  | c :: r, st => if st.done = true then st else plainP r (addS st [c])

theorem plain_loop (hT : TabOk Pd G T) (s : List Nat) (hs : ∀ x ∈ s, x ≠ 37 ∧ x ≠ 92) : ∀ (st : PS), st.out.length ≤ 65536 →
    ∃ s', LC Pd G 62 2 [(0, .ptr 0 0), (1, .p (.str s))] (PH2 st) (loopAt Pd 15 0) (.exit 0) [(0, .ptr 0 0), (1, .p (.str s'))] (PH2 (plainP s st)) := by
  induction s with
  | nil =>
    intro st ho
    obtain ⟨out, left, used, done, msg⟩ := st
    exact ⟨[], LC.leave hT (passL_l5 (G := G) [] out out left used done done msg msg) ⟨rfl, trivial⟩ (by simp)⟩
  | cons c r ih =>
    intro st ho
    unfold plainP
    by_cases hd : st.done = true
    · rw [if_pos hd]
      obtain ⟨out, left, used, done, msg⟩ := st
      simp only at hd
      subst hd
      exact ⟨c :: r, LC.leave hT (passL_l4 (G := G) (c :: r) out out left used true true msg msg) ⟨rfl, rfl, trivial⟩ (by simp)⟩
    · rw [if_neg hd]
      have hd' : st.done = false := by simpa using hd
      have hadd := add_rc (G := G) hT st [c] ho (by simp)
      obtain ⟨s', h1⟩ := ih (fun x hx => hs x (by simp [hx])) (addS st [c]) (addS_out _ _ ho)
      refine ⟨s', ?_⟩
      have hl := addS_left st [c]
      generalize addS st [c] = st' at *
      obtain ⟨out, left, used, done, msg⟩ := st
      obtain ⟨out', left', used', done', msg'⟩ := st'
      simp only at hl hd'
      obtain ⟨rfl, rfl⟩ := hl
      subst hd'
      have hc := hs c (by simp)
      have n37 : (((c : Nat) : Int) == 37) = false := by rw [beq_eq_false_iff_ne]; omega
      have n92 : (((c : Nat) : Int) == 92) = false := by rw [beq_eq_false_iff_ne]; omega
      exact LC.go hT (passL_l3 (G := G) (c :: r) out out' left' used' false done' msg msg') ⟨by simp only [List.length_cons, Bool.true_and, decide_eq_true_eq]; omega, hadd, by simp only [List.length_cons, Bool.true_and, decide_eq_true_eq]; omega, n37, n92, by simp only [List.length_cons, Bool.true_and, decide_eq_true_eq]; omega, rfl, rfl, trivial⟩ h1

def passPl (s : List Nat) (st : PS) : PS := plainP s { st with used := false }

theorem plainP_left (s : List Nat) (st : PS) : (plainP s st).left = st.left ∧ (plainP s st).used = st.used := by
  induction s generalizing st with
  | nil => exact ⟨rfl, rfl⟩
  | cons c r ih =>
    unfold plainP
    split
    · exact ⟨rfl, rfl⟩
    · obtain ⟨h1, h2⟩ := ih (addS st [c])
      obtain ⟨h3, h4⟩ := addS_left st [c]
      exact ⟨h1.trans h3, h2.trans h4⟩

theorem plainP_out (s : List Nat) (st : PS) (h : st.out.length ≤ 65536) : (plainP s st).out.length ≤ 65536 := by
  induction s generalizing st with
  | nil => exact h
  | cons c r ih =>
    unfold plainP
    split
    · exact h
    · exact ih _ (addS_out _ _ h)

theorem passPl_ok (hT : TabOk Pd G T) (s : List Nat) (hs : ∀ x ∈ s, x ≠ 37 ∧ x ≠ 92) : PassOk G s (passPl s) (fun st => st.out.length ≤ 65536) := by
  refine ⟨fun st hg hd => ?_, fun st hg hd => plainP_out _ _ hg, fun st hg hd hu => ?_⟩
  · obtain ⟨s', h⟩ := plain_loop (G := G) hT s hs { st with used := false } hg
    have hl := plainP_left s { st with used := false }
    have hst : plainP s { st with used := false } = passPl s st := rfl
    rw [hst] at h hl
    generalize passPl s st = r at *
    obtain ⟨out, left, used, done, msg⟩ := st
    obtain ⟨out2, left2, used2, done2, msg2⟩ := r
    simp only at hl hd
    obtain ⟨rfl, rfl⟩ := hl
    subst hd
    exact RC.of_run hT (passW_p1 (G := G) s out out2 left2 used false done2 msg msg2 s') ⟨h, rfl, trivial⟩
  · unfold passPl at hu
    rw [(plainP_left s _).2] at hu
    cases hu

theorem plainP_fits (s : List Nat) (st : PS) (hd : st.done = false) (h : st.out.length + s.length ≤ 65536) : plainP s st = { st with out := st.out ++ s } := by
  induction s generalizing st with
  | nil => simp [plainP]
  | cons c r ih =>
    simp only [List.length_cons] at h
    have e : addS st [c] = { st with out := st.out ++ [c] } := by
      unfold addS; rw [if_neg (by simp only [List.length_cons, List.length_nil]; omega)]
    unfold plainP
    rw [if_neg (by rw [hd]; simp), e, ih { st with out := st.out ++ [c] } hd (by simp only [List.length_append, List.length_cons, List.length_nil]; omega)]
    simp

theorem printfPl (s : List Nat) (q : List (List Nat)) (h : s.length ≤ 65536) : printfS (passPl s) q = ⟨s, q, false, false, []⟩ := by
  unfold printfS passPl
  rw [plainP_fits s _ rfl (by simpa [startP] using h)]
  cases q.length with
  | zero => rfl
  | succ k => simp [runP, startP]

/-! ### '%s' over operands -/

def catL : List (List Nat) → List Nat
  | [] => []
  | x :: r => x ++ catL r

theorem catL_len (q : List (List Nat)) : (catL q).length = totLen q := by
  induction q with
  | nil => rfl
  | cons x r ih => simp [catL, totLen, ih]

theorem passSS_cons (out x : List Nat) (r : List (List Nat)) (used : Bool) (h : out.length + x.length ≤ 65536) : passSS ⟨out, x :: r, used, false, []⟩ = ⟨out ++ x, r, true, false, []⟩ := by
  have e : fillS cvS (cutS cvS x) = x := by simp [fillS, cutS, cvS]
  show addS ⟨out, r, true, false, []⟩ (fillS cvS (cutS cvS x)) = _
  rw [e]
  unfold addS
  rw [if_neg (by simp only; omega)]

theorem runP_S (q : List (List Nat)) : ∀ (k : Nat) (out : List Nat), q.length ≤ k → out.length + totLen q ≤ 65536 → runP passSS k ⟨out, q, true, false, []⟩ = ⟨out ++ catL q, [], true, false, []⟩ := by
  induction q with
  | nil =>
    intro k out _ _
    cases k with
    | zero => simp [runP, catL]
    | succ k => simp [runP, catL]
  | cons x r ih =>
    intro k out hk ho
    simp only [totLen] at ho
    cases k with
    | zero => simp at hk
    | succ k =>
      unfold runP
      rw [if_pos ⟨rfl, rfl, by simp⟩, passSS_cons out x r true (by omega), ih k (out ++ x) (by simpa using hk) (by simp only [List.length_append]; omega)]
      simp [catL]

theorem printfSS (q : List (List Nat)) (h : totLen q ≤ 65536) : (printfS passSS q).out = catL q ∧ (printfS passSS q).msg = [] := by
  unfold printfS startP
  cases q with
  | nil => exact ⟨rfl, rfl⟩
  | cons x r =>
    simp only [totLen] at h
    rw [passSS_cons [] x r false (by simp; omega), runP_S r _ _ (by simp) (by simp only [List.nil_append]; omega)]
    exact ⟨by simp [catL], rfl⟩
end
end Go.Vc

/- VdSl -/
namespace Go.Vc
set_option linter.unusedVariables false
set_option linter.unusedSimpArgs false

section
variable {P : Program} {G : Glob} {F own : Own} {w : World} {regs : List Reg} {H : Heap}

theorem VEs.toP {ps : List PV} {us : List Value} (h : VEs own w regs (ps.map EV.p) us) : VPs own w ps us := by
  induction ps generalizing us with
  | nil => cases h; exact .nil
  | cons x r ih => cases h with | cons _ u _ us h hs => cases h with | p _ _ h => exact .cons _ _ _ _ h (ih hs)

/-- A contract over no block serves in every heap. -/
theorem RC.lift {f : FuncId} {args : List EV} {ret : EV} (h : RC P G f args [] ret []) (K : Heap) (ha : renEs (upS [] K.length) args = args) (hr : renE (upS [] K.length) ret = ret) : RC P G f args K ret K := by
  have := RC.frame h K [] rfl rfl rfl rfl
  rw [ha, hr] at this
  have e2 : upHeap [] K [] = K := by
    unfold upHeap
    simp [layBack]
  rw [e2] at this
  exact this

theorem RC.sl_arg {f : FuncId} {n i : Nat} {ps : List PV} {k : Kd} {ret : EV} (hi : H[i]? = some (some (.cells (ps.map EV.p) k))) (h : RC P G f [.p (.lst n ps)] (H.set i none) ret (H.set i none)) (hl : n = 0 → ps = []) :
    RC P G f [.sl i 0 n 1] H ret (H.set i none) := by
  intro F regs w vs hh hG hv
  cases hv with | cons _ u _ us hu hs =>
  cases hs
  cases hu with | sl _ _ _ _ g a c hg ht hc ha hf =>
  obtain ⟨⟨e, N, q1, q2, q3⟩, us, q4, q5⟩ := hh.blk i g _ hg hi
  have hk := hh.kill i
  have hm : Moves (tot F regs H) w regs (tot F regs (H.set i none)) w regs := Moves.kill i
  have hus := (q4.moves hm).toP
  have ha0 := ha (.inl rfl)
  subst ha0
  have hlen := q4.len
  simp only [List.length_map] at hlen
  have hno : ∀ j, j < us.length → ¬ tot F regs (H.set i none) g.blk (g.off + j) := by
    rintro j hj (h1 | ⟨i', g', b, h1, h2, h3⟩)
    · exact hh.fr i g _ hg hi g.blk (g.off + j) ⟨rfl, by omega, .inl ht⟩ h1
    · by_cases hii : i' = i
      · subst hii
        rw [List.getElem?_set_self (List.getElem?_eq_some_iff.1 hi).1] at h2
        cases h2
      · rw [List.getElem?_set_ne (fun e => hii e.symm)] at h2
        exact hh.dj i' i g' g b _ hii h1 hg h2 hi g.blk (g.off + j) h3 ⟨rfl, by omega, .inl ht⟩
  have hval : VE (tot F regs (H.set i none)) w regs (.p (.lst n ps)) (.slice (some ⟨g.blk, g.off + 0, none⟩) n c) := by
    refine .p _ _ (.lst n ps _ c us hus hc hl (fun hpos => ⟨g.blk, g.off + 0, rfl, ?_, fun j u hj => ⟨?_, ?_⟩⟩))
    · unfold World.shape? at q1
      rcases Nat.lt_or_ge g.blk w.heap.size with h' | h'
      · exact h'
      · simp [Array.getElem?_eq_none h'] at q1
    · rw [Nat.add_zero]; exact q5 j u hj
    · rw [Nat.add_zero]; exact hno j (List.getElem?_eq_some_iff.1 hj).1
  refine Calls.mono (h F regs w _ hk (hG.moves hm) (.cons _ _ _ _ hval .nil)) ?_
  rintro e' w' ⟨u, rfl, regs', hs⟩
  refine ⟨u, rfl, regs', hs.hp, hs.ext, hs.val, hm.trans hs.mv, ?_, ?_⟩
  · exact (Keeps.refl _ _).trans (fun r x hx => .inl (owned_kill (i := i) hx)) hs.kp
  · exact Grow.trans (Nat.le_refl _) (fun r x hx => .inl (owned_kill (i := i) hx)) hs.gr

theorem allCells_strs (l : List (List Nat)) : allCells (List.map EV.p (List.map PV.str l)) = true := by
  induction l with
  | nil => rfl
  | cons x r ih => simp only [List.map_cons, allCells, ih]; rfl
end
end Go.Vc
