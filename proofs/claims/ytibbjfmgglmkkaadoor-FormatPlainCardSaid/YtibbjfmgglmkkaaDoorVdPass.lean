/- Own texts of the proof, put together: VdPass. -/
import Derived.Test.YtibbjfmgglmkkaaDoorVdFmt
import Derived.Test.YtibbjfmgglmkkaaDoorVdAny
import Derived.Test.YtibbjfmgglmkkaaDoorVdBase
import Derived.Test.YtibbjfmgglmkkaaDoorVcEl
/- VdPass -/
namespace Go.Vc
set_option linter.unusedVariables false
set_option linter.unusedSimpArgs false

theorem RC.pre_dk {P : Program} {G : Glob} {f : FuncId} {args : List EV} {H H' : Heap} {ret : EV} (h : RC P G f args (H.map dkB) ret H') : RC P G f args H ret H' := by
  intro F regs w vs hh hG hv
  have e1 : tot F regs (H.map dkB) = tot F regs H := by funext r x; unfold tot; rw [owned_dk]
  refine Calls.mono (h F regs w vs hh.dk (by rw [e1]; exact hG) (by rw [e1]; exact hv)) ?_
  rintro e w' ⟨u, rfl, regs1, hs⟩
  have h1 := hs.mv
  have h2 := hs.kp
  have h3 := hs.gr
  rw [e1] at h1
  rw [owned_dk] at h2 h3
  exact ⟨u, rfl, regs1, hs.hp, hs.ext, hs.val, h1, h2, h3⟩

section
variable {G : Glob} {T : Tab}
theorem convS_p1 (mi ze pl : Bool) (wi pr : Int) (ex : Bool) (ln : Int) (out out' : List Nat) (left left' : List (List Nat)) (used used' done done' : Bool) (msg msg' x y z : List Nat) : runW Pd G T 100000 false [Vc.Item.br false, Vc.Item.br false, Vc.Item.br true,
  Vc.Item.callv (EV.p (PV.str x))
    [some
        (Blk.cells
          [EV.mptr 0 0, EV.nsl 1 out.length 1, EV.p (PV.lst left'.length (List.map PV.str left')), EV.p (PV.bool used'),
            EV.p (PV.bool done), EV.p (PV.str msg)]
          (Kd.obj 41)),
      some (Blk.bytes out 5)],
  Vc.Item.callv (EV.p (PV.str y)) [], Vc.Item.callv (EV.p (PV.str z)) [],
  Vc.Item.callv (EV.tup [])
    [some
        (Blk.cells
          [EV.mptr 0 0, EV.nsl 2 out'.length 1, EV.p (PV.lst left'.length (List.map PV.str left')),
            EV.p (PV.bool used'), EV.p (PV.bool done'), EV.p (PV.str msg')]
          (Kd.obj 41)),
      none, some (Blk.bytes out' 5)],
  Vc.Item.tr 888888
    Tr.dk] [] [3] 25 [EV.ptr 0 0,
  EV.p
    (PV.agg
      [PV.bool mi, PV.bool ze, PV.bool pl, PV.int .i64 wi, PV.int .i64 pr, PV.bool ex,
        PV.int .u8 115,
        PV.int .i64
          ln])] [some
    (Blk.cells
      [EV.mptr 0 0, EV.nsl 1 out.length 1, EV.p (PV.lst left.length (List.map PV.str left)), EV.p (PV.bool used),
        EV.p (PV.bool done), EV.p (PV.str msg)]
      (Kd.obj 41)),
  some (Blk.bytes out 5)] =
  some
  ([some
          (some
            (Blk.cells
              [EV.p (PV.bool mi), EV.p (PV.bool ze), EV.p (PV.bool pl), EV.p (PV.int .i64 wi),
                EV.p (PV.int .i64 pr), EV.p (PV.bool ex), EV.p (PV.int .u8 115),
                EV.p (PV.int .i64 ln)]
              (Kd.obj 56))) =
        some
          (some
            (Blk.cells
              [EV.p (PV.bool mi), EV.p (PV.bool ze), EV.p (PV.bool pl), EV.p (PV.int .i64 wi),
                EV.p (PV.int .i64 pr), EV.p (PV.bool ex), EV.p (PV.int .u8 115),
                EV.p (PV.int .i64 ln)]
              (Kd.obj 56))),
      some
          (some
            (Blk.cells
              [EV.p (PV.bool mi), EV.p (PV.bool ze), EV.p (PV.bool pl), EV.p (PV.int .i64 wi),
                EV.p (PV.int .i64 pr), EV.p (PV.bool ex), EV.p (PV.int .u8 115),
                EV.p (PV.int .i64 ln)]
              (Kd.obj 56))) =
        some
          (some
            (Blk.cells
              [EV.p (PV.bool mi), EV.p (PV.bool ze), EV.p (PV.bool pl), EV.p (PV.int .i64 wi),
                EV.p (PV.int .i64 pr), EV.p (PV.bool ex), EV.p (PV.int .u8 115),
                EV.p (PV.int .i64 ln)]
              (Kd.obj 56))),
      some
          (some
            (Blk.cells
              [EV.p (PV.bool mi), EV.p (PV.bool ze), EV.p (PV.bool pl), EV.p (PV.int .i64 wi),
                EV.p (PV.int .i64 pr), EV.p (PV.bool ex), EV.p (PV.int .u8 115),
                EV.p (PV.int .i64 ln)]
              (Kd.obj 56))) =
        some
          (some
            (Blk.cells
              [EV.p (PV.bool mi), EV.p (PV.bool ze), EV.p (PV.bool pl), EV.p (PV.int .i64 wi),
                EV.p (PV.int .i64 pr), EV.p (PV.bool ex), EV.p (PV.int .u8 115),
                EV.p (PV.int .i64 ln)]
              (Kd.obj 56))),
      RC Pd G 22 [EV.ptr 0 0, EV.p (PV.str z)]
        [some
            (Blk.cells
              [EV.mptr 0 0, EV.nsl 1 out.length 1, EV.p (PV.lst left'.length (List.map PV.str left')),
                EV.p (PV.bool used'), EV.p (PV.bool done), EV.p (PV.str msg)]
              (Kd.obj 41)),
          some (Blk.bytes out 5)]
        (EV.tup [])
        [some
            (Blk.cells
              [EV.mptr 0 0, EV.nsl 2 out'.length 1, EV.p (PV.lst left'.length (List.map PV.str left')),
                EV.p (PV.bool used'), EV.p (PV.bool done'), EV.p (PV.str msg')]
              (Kd.obj 41)),
          none, some (Blk.bytes out' 5)],
      RC Pd G 35
        [EV.p
            (PV.agg
              [PV.bool mi, PV.bool ze, PV.bool pl, PV.int .i64 wi, PV.int .i64 pr, PV.bool ex,
                PV.int .u8 115, PV.int .i64 ln]),
          EV.p (PV.str y)]
        [] (EV.p (PV.str z)) [],
      RC Pd G 37
        [EV.p
            (PV.agg
              [PV.bool mi, PV.bool ze, PV.bool pl, PV.int .i64 wi, PV.int .i64 pr, PV.bool ex,
                PV.int .u8 115, PV.int .i64 ln]),
          EV.p (PV.str x)]
        [] (EV.p (PV.str y)) [],
      RC Pd G 36 [EV.ptr 0 0]
        [some
            (Blk.cells
              [EV.mptr 0 0, EV.nsl 1 out.length 1, EV.p (PV.lst left.length (List.map PV.str left)),
                EV.p (PV.bool used), EV.p (PV.bool done), EV.p (PV.str msg)]
              (Kd.obj 41)),
          some (Blk.bytes out 5)]
        (EV.p (PV.str x))
        [some
            (Blk.cells
              [EV.mptr 0 0, EV.nsl 1 out.length 1, EV.p (PV.lst left'.length (List.map PV.str left')),
                EV.p (PV.bool used'), EV.p (PV.bool done), EV.p (PV.str msg)]
              (Kd.obj 41)),
          some (Blk.bytes out 5)],
      true = true, true = true, true = true, false = false, false = false],
    EV.tup [],
    [some
        (Blk.cells
          [EV.mptr 0 0, EV.nsl 2 out'.length 1, EV.p (PV.lst left'.length (List.map PV.str left')),
            EV.p (PV.bool used'), EV.p (PV.bool done'), EV.p (PV.str msg')]
          (Kd.obj 41)),
      none, some (Blk.bytes out' 5)]) := by kernel_rfl

theorem passS_p1 (out out' : List Nat) (left left' : List (List Nat)) (used used' done' : Bool) (msg msg' : List Nat) : runW Pd G T 100000 false [Vc.Item.br true, Vc.Item.br true, Vc.Item.br false, Vc.Item.br true,
  Vc.Item.callv
    (EV.tup
      [EV.p
          (PV.agg
            [PV.bool false, PV.bool false, PV.bool false, PV.int .i64 0, PV.int .i64 0, PV.bool false,
              PV.int .u8 115, PV.int .i64 2]),
        EV.kb true])
    [],
  Vc.Item.callv (EV.tup [])
    [some
        (Blk.cells
          [EV.mptr 0 0, EV.nsl 2 out'.length 1, EV.p (PV.lst left'.length (List.map PV.str left')),
            EV.p (PV.bool used'), EV.p (PV.bool done'), EV.p (PV.str msg')]
          (Kd.obj 41)),
      none, some (Blk.bytes out' 5)],
  Vc.Item.br false,
  Vc.Item.tr 888888
    Tr.dk] [] [3] 15 [EV.ptr 0 0,
  EV.p
    (PV.str
      [37,
        115])] [some
    (Blk.cells
      [EV.mptr 0 0, EV.nsl 1 out.length 1, EV.p (PV.lst left.length (List.map PV.str left)), EV.p (PV.bool used),
        EV.p (PV.bool false), EV.p (PV.str msg)]
      (Kd.obj 41)),
  some (Blk.bytes out 5)] =
  some
  ([false = false, true = true,
      RC Pd G 25
        [EV.ptr 0 0,
          EV.p
            (PV.agg
              [PV.bool false, PV.bool false, PV.bool false, PV.int .i64 0, PV.int .i64 0, PV.bool false,
                PV.int .u8 115, PV.int .i64 2])]
        [some
            (Blk.cells
              [EV.mptr 0 0, EV.nsl 1 out.length 1, EV.p (PV.lst left.length (List.map PV.str left)), EV.kb false,
                EV.p (PV.bool false), EV.p (PV.str msg)]
              (Kd.obj 41)),
          some (Blk.bytes out 5)]
        (EV.tup [])
        [some
            (Blk.cells
              [EV.mptr 0 0, EV.nsl 2 out'.length 1, EV.p (PV.lst left'.length (List.map PV.str left')),
                EV.p (PV.bool used'), EV.p (PV.bool done'), EV.p (PV.str msg')]
              (Kd.obj 41)),
          none, some (Blk.bytes out' 5)],
      true = true, true = true,
      RC Pd G 23 [EV.p (PV.str [37, 115])] []
        (EV.tup
          [EV.p
              (PV.agg
                [PV.bool false, PV.bool false, PV.bool false, PV.int .i64 0, PV.int .i64 0, PV.bool false,
                  PV.int .u8 115, PV.int .i64 2]),
            EV.kb true])
        [],
      true = true, false = false, true = true, true = true, true = true, true = true],
    EV.tup [],
    [some
        (Blk.cells
          [EV.mptr 0 0, EV.nsl 2 out'.length 1, EV.p (PV.lst left'.length (List.map PV.str left')),
            EV.p (PV.bool used'), EV.p (PV.bool done'), EV.p (PV.str msg')]
          (Kd.obj 41)),
      none, some (Blk.bytes out' 5)]) := by kernel_rfl

theorem passL_l3 (s out out' : List Nat) (left : List (List Nat)) (used done done' : Bool) (msg msg' : List Nat) : runC Pd G T 100000 false [Vc.Item.br true, Vc.Item.br true, Vc.Item.br false, Vc.Item.br false,
  Vc.Item.callv (EV.tup [])
    [some
        (Blk.cells
          [EV.mptr 0 0, EV.nsl 2 out'.length 1, EV.p (PV.lst left.length (List.map PV.str left)), EV.p (PV.bool used),
            EV.p (PV.bool done'), EV.p (PV.str msg')]
          (Kd.obj 41)),
      none, some (Blk.bytes out' 5)],
  Vc.Item.tr 888888
    Tr.dk] 62 2 [(0, EV.ptr 0 0),
  (1,
    EV.p
      (PV.str
        s))] [some
    (Blk.cells
      [EV.mptr 0 0, EV.nsl 2 out.length 1, EV.p (PV.lst left.length (List.map PV.str left)), EV.p (PV.bool used),
        EV.p (PV.bool done), EV.p (PV.str msg)]
      (Kd.obj 41)),
  none, some (Blk.bytes out 5)] (loopAt Pd 15 0) [0, 1] [] [3] =
  some
  ([(true && decide (1 ≤ (↑s.length : Int))) = true,
      RC Pd G 22 [EV.ptr 0 0, EV.p (PV.str (List.take 1 s))]
        [some
            (Blk.cells
              [EV.mptr 0 0, EV.nsl 1 out.length 1, EV.p (PV.lst left.length (List.map PV.str left)),
                EV.p (PV.bool used), EV.p (PV.bool done), EV.p (PV.str msg)]
              (Kd.obj 41)),
          some (Blk.bytes out 5)]
        (EV.tup [])
        [some
            (Blk.cells
              [EV.mptr 0 0, EV.nsl 2 out'.length 1, EV.p (PV.lst left.length (List.map PV.str left)),
                EV.p (PV.bool used), EV.p (PV.bool done'), EV.p (PV.str msg')]
              (Kd.obj 41)),
          none, some (Blk.bytes out' 5)],
      (true && decide (1 ≤ (↑s.length : Int))) = true, ((↑(s.getD 0 0) : Int) == 37) = false,
      ((↑(s.getD 0 0) : Int) == 92) = false, (true && decide (0 < (↑s.length : Int))) = true, (!done) = true,
      (!s == []) = true],
    Ex.normal, [(0, EV.ptr 0 0), (1, EV.p (PV.str (List.drop 1 s)))],
    [some
        (Blk.cells
          [EV.mptr 0 0, EV.nsl 2 out'.length 1, EV.p (PV.lst left.length (List.map PV.str left)), EV.p (PV.bool used),
            EV.p (PV.bool done'), EV.p (PV.str msg')]
          (Kd.obj 41)),
      none, some (Blk.bytes out' 5)]) := by kernel_rfl

theorem passL_l4 (s out out' : List Nat) (left : List (List Nat)) (used done done' : Bool) (msg msg' : List Nat) : runC Pd G T 100000 false [Vc.Item.br true, Vc.Item.br false,
  Vc.Item.tr 888888
    Tr.dk] 62 2 [(0, EV.ptr 0 0),
  (1,
    EV.p
      (PV.str
        s))] [some
    (Blk.cells
      [EV.mptr 0 0, EV.nsl 2 out.length 1, EV.p (PV.lst left.length (List.map PV.str left)), EV.p (PV.bool used),
        EV.p (PV.bool done), EV.p (PV.str msg)]
      (Kd.obj 41)),
  none, some (Blk.bytes out 5)] (loopAt Pd 15 0) [0, 1] [] [2] =
  some
  ([(!done) = false, (!s == []) = true], Ex.exit 0, [(0, EV.ptr 0 0), (1, EV.p (PV.str s))],
    [some
        (Blk.cells
          [EV.mptr 0 0, EV.nsl 2 out.length 1, EV.p (PV.lst left.length (List.map PV.str left)), EV.p (PV.bool used),
            EV.p (PV.bool done), EV.p (PV.str msg)]
          (Kd.obj 41)),
      none, some (Blk.bytes out 5)]) := by kernel_rfl

theorem passL_l5 (s out out' : List Nat) (left : List (List Nat)) (used done done' : Bool) (msg msg' : List Nat) : runC Pd G T 100000 false [Vc.Item.br false,
  Vc.Item.tr 888888
    Tr.dk] 62 2 [(0, EV.ptr 0 0),
  (1,
    EV.p
      (PV.str
        s))] [some
    (Blk.cells
      [EV.mptr 0 0, EV.nsl 2 out.length 1, EV.p (PV.lst left.length (List.map PV.str left)), EV.p (PV.bool used),
        EV.p (PV.bool done), EV.p (PV.str msg)]
      (Kd.obj 41)),
  none, some (Blk.bytes out 5)] (loopAt Pd 15 0) [0, 1] [] [2] =
  some
  ([(!s == []) = false], Ex.exit 0, [(0, EV.ptr 0 0), (1, EV.p (PV.str s))],
    [some
        (Blk.cells
          [EV.mptr 0 0, EV.nsl 2 out.length 1, EV.p (PV.lst left.length (List.map PV.str left)), EV.p (PV.bool used),
            EV.p (PV.bool done), EV.p (PV.str msg)]
          (Kd.obj 41)),
      none, some (Blk.bytes out 5)]) := by kernel_rfl

theorem passW_p1 (s out out' : List Nat) (left : List (List Nat)) (used done done' : Bool) (msg msg' s' : List Nat) : runW Pd G T 100000 false [Vc.Item.tr 999999 (Tr.weak [0, 1] [] [1]), Vc.Item.tr 999999 Tr.dk,
  Vc.Item.code (Ex.exit 0) [(0, EV.ptr 0 0), (1, EV.p (PV.str s'))]
    [some
        (Blk.cells
          [EV.mptr 0 0, EV.nsl 2 out'.length 1, EV.p (PV.lst left.length (List.map PV.str left)), EV.p (PV.bool false),
            EV.p (PV.bool done'), EV.p (PV.str msg')]
          (Kd.obj 41)),
      none,
      some
        (Blk.bytes out'
          5)]] [] [2] 15 [EV.ptr 0 0,
  EV.p
    (PV.str
      s)] [some
    (Blk.cells
      [EV.mptr 0 0, EV.nsl 1 out.length 1, EV.p (PV.lst left.length (List.map PV.str left)), EV.p (PV.bool used),
        EV.p (PV.bool done), EV.p (PV.str msg)]
      (Kd.obj 41)),
  some (Blk.bytes out 5)] =
  some
  ([LC Pd G 62 2 [(0, EV.ptr 0 0), (1, EV.p (PV.str s))]
        [some
            (Blk.cells
              [EV.mptr 0 0, EV.nsl 2 out.length 1, EV.p (PV.lst left.length (List.map PV.str left)),
                EV.p (PV.bool false), EV.p (PV.bool done), EV.p (PV.str msg)]
              (Kd.obj 41)),
          none, some (Blk.bytes out 5)]
        (loopAt Pd 15 0) (Ex.exit 0) [(0, EV.ptr 0 0), (1, EV.p (PV.str s'))]
        [some
            (Blk.cells
              [EV.mptr 0 0, EV.nsl 2 out'.length 1, EV.p (PV.lst left.length (List.map PV.str left)),
                EV.p (PV.bool false), EV.p (PV.bool done'), EV.p (PV.str msg')]
              (Kd.obj 41)),
          none, some (Blk.bytes out' 5)],
      true = true],
    EV.tup [],
    [some
        (Blk.cells
          [EV.mptr 0 0, EV.nsl 2 out'.length 1, EV.p (PV.lst left.length (List.map PV.str left)), EV.p (PV.bool false),
            EV.p (PV.bool done'), EV.p (PV.str msg')]
          (Kd.obj 41)),
      none, some (Blk.bytes out' 5)]) := by kernel_rfl


def cvS : Cv := ⟨false, false, false, 0, 0, false, 115, 2⟩

theorem readS_run : runW Pd G T0 100000 true [] [] [] 23 [.p (.str [37, 115])] [] =
  some ([IsExt Pd 88 Extern.BytealgIndexByte.indexByte, IsExt Pd 88 Extern.BytealgIndexByte.indexByte], .tup [.p cvS.pv, .kb true], []) := by kernel_rfl

theorem readS_rc : RC Pd G 23 [.p (.str [37, 115])] [] (.tup [.p cvS.pv, .kb true]) [] := RC.of_run (T0_ok G) readS_run ⟨isExt88', isExt88', trivial⟩

/-- The conversion of an operand as a string. -/
def convSS (c : Cv) (st : PS) : PS := addS (opS st) (fillS c (cutS c (st.left.headD [])))

theorem convS_rc (hT : TabOk Pd G T) (c : Cv) (st : PS) (hc : c.le = 115) (hw : c.wi ≤ 5000) (h1 : st.out.length ≤ 65536) (h2 : (st.left.headD []).length ≤ 1000000) :
    RC Pd G 25 [.ptr 0 0, .p c.pv] (PH st) (.tup []) (PH2 (convSS c st)) := by
  have hop := operand_rc (G := G) hT st
  have hcut := cut_rc (G := G) hT c (st.left.headD [])
  have hcl : (cutS c (st.left.headD [])).length ≤ 1000000 := by
    unfold cutS; split
    · rw [List.length_take]; omega
    · exact h2
  have hfill := fill_rc (G := G) hT c (cutS c (st.left.headD [])) hw (by omega)
  have hfl : (fillS c (cutS c (st.left.headD []))).length ≤ 1000000000 := by
    unfold fillS; split <;> simp only [List.length_append, List.length_replicate] <;> omega
  have ho : (opS st).out = st.out ∧ (opS st).done = st.done ∧ (opS st).msg = st.msg := by
    obtain ⟨out, left, used, done, msg⟩ := st
    cases left <;> exact ⟨rfl, rfl, rfl⟩
  have hadd := add_rc (G := G) hT (opS st) (fillS c (cutS c (st.left.headD []))) (by rw [ho.1]; exact h1) hfl
  have ha : (convSS c st).left = (opS st).left ∧ (convSS c st).used = (opS st).used := by
    unfold convSS addS; split <;> exact ⟨rfl, rfl⟩
  have hst : convSS c st = addS (opS st) (fillS c (cutS c (st.left.headD []))) := rfl
  rw [← hst] at hadd
  generalize fillS c (cutS c (st.left.headD [])) = z at *
  generalize cutS c (st.left.headD []) = y at *
  generalize st.left.headD [] = x at *
  generalize hr : convSS c st = r at *
  generalize ho2 : opS st = o at *
  obtain ⟨mi, ze, pl, wi, pr, ex, le, ln⟩ := c
  simp only at hc
  subst hc
  obtain ⟨out, left, used, done, msg⟩ := st
  obtain ⟨out2, left2, used2, done2, msg2⟩ := o
  obtain ⟨out3, left3, used3, done3, msg3⟩ := r
  simp only at ho ha
  obtain ⟨rfl, rfl, rfl⟩ := ho
  obtain ⟨rfl, rfl⟩ := ha
  exact RC.of_run hT (convS_p1 (G := G) mi ze pl wi pr ex ln out2 out3 left left3 used used3 done2 done3 msg2 msg3 x y z) ⟨rfl, rfl, rfl, hadd, hfill, hcut, hop, rfl, rfl, rfl, rfl, rfl, trivial⟩

/-- One pass of '%s'. -/
def passSS (st : PS) : PS := convSS cvS { st with used := false }

def GoodS (st : PS) : Prop := st.out.length ≤ 65536 ∧ ∀ x ∈ st.left, x.length ≤ 1000000

theorem headD_len {l : List (List Nat)} (h : ∀ x ∈ l, x.length ≤ 1000000) : (l.headD []).length ≤ 1000000 := by
  cases l with
  | nil => simp
  | cons a r => exact h a (by simp)

theorem addS_out (st : PS) (s : List Nat) (h : st.out.length ≤ 65536) : (addS st s).out.length ≤ 65536 := by
  unfold addS; split
  · exact h
  · simp only [List.length_append]; omega

theorem addS_left (st : PS) (s : List Nat) : (addS st s).left = st.left ∧ (addS st s).used = st.used := by
  unfold addS; split <;> exact ⟨rfl, rfl⟩

theorem passS_ok (hT : TabOk Pd G T) : PassOk G [37, 115] passSS GoodS := by
  refine ⟨fun st hg hd => ?_, fun st hg hd => ?_, fun st hg hd hu => ?_⟩
  · have hc := convS_rc (G := G) hT cvS { st with used := false } rfl (by decide) hg.1 (headD_len hg.2)
    have hst : convSS cvS { st with used := false } = passSS st := rfl
    rw [hst] at hc
    generalize passSS st = r at *
    obtain ⟨out, left, used, done, msg⟩ := st
    obtain ⟨out2, left2, used2, done2, msg2⟩ := r
    simp only at hd
    subst hd
    exact RC.of_run hT (passS_p1 (G := G) out out2 left left2 used used2 done2 msg msg2) ⟨rfl, rfl, RC.pre_dk hc, rfl, rfl, readS_rc, rfl, rfl, rfl, rfl, rfl, rfl, trivial⟩
  · refine ⟨?_, ?_⟩
    · unfold passSS convSS
      refine addS_out _ _ ?_
      obtain ⟨out, left, used, done, msg⟩ := st
      cases left <;> exact hg.1
    · intro x hx
      unfold passSS convSS at hx
      rw [(addS_left _ _).1] at hx
      obtain ⟨out, left, used, done, msg⟩ := st
      cases left with
      | nil => simp [opS] at hx
      | cons a r => exact hg.2 x (by simp [opS] at hx; simp [hx])
  · unfold passSS convSS at hu ⊢
    rw [(addS_left _ _).2] at hu
    rw [(addS_left _ _).1]
    obtain ⟨out, left, used, done, msg⟩ := st
    cases left with
    | nil => simp [opS] at hu
    | cons a r => simp [opS]

/-! ### a format without conversions and escapes -/

def plainP : List Nat → PS → PS
  | [], st => st
  | c :: r, st => if st.done = true then st else plainP r (addS st [c])

theorem plain_loop (hT : TabOk Pd G T) (s : List Nat) (hs : ∀ x ∈ s, x ≠ 37 ∧ x ≠ 92) : ∀ (st : PS), st.out.length ≤ 65536 →
    ∃ s', LC Pd G 62 2 [(0, .ptr 0 0), (1, .p (.str s))] (PH2 st) (loopAt Pd 15 0) (.exit 0) [(0, .ptr 0 0), (1, .p (.str s'))] (PH2 (plainP s st)) := by
  induction s with
  | nil =>
    intro st ho
    obtain ⟨out, left, used, done, msg⟩ := st
    exact ⟨[], LC.leave hT (passL_l5 (G := G) [] out out left used done done msg msg) ⟨rfl, trivial⟩ (by simp)⟩
  | cons c r ih =>
    intro st ho
    unfold plainP
    by_cases hd : st.done = true
    · rw [if_pos hd]
      obtain ⟨out, left, used, done, msg⟩ := st
      simp only at hd
      subst hd
      exact ⟨c :: r, LC.leave hT (passL_l4 (G := G) (c :: r) out out left used true true msg msg) ⟨rfl, rfl, trivial⟩ (by simp)⟩
    · rw [if_neg hd]
      have hd' : st.done = false := by simpa using hd
      have hadd := add_rc (G := G) hT st [c] ho (by simp)
      obtain ⟨s', h1⟩ := ih (fun x hx => hs x (by simp [hx])) (addS st [c]) (addS_out _ _ ho)
      refine ⟨s', ?_⟩
      have hl := addS_left st [c]
      generalize addS st [c] = st' at *
      obtain ⟨out, left, used, done, msg⟩ := st
      obtain ⟨out', left', used', done', msg'⟩ := st'
      simp only at hl hd'
      obtain ⟨rfl, rfl⟩ := hl
      subst hd'
      have hc := hs c (by simp)
      have n37 : (((c : Nat) : Int) == 37) = false := by rw [beq_eq_false_iff_ne]; omega
      have n92 : (((c : Nat) : Int) == 92) = false := by rw [beq_eq_false_iff_ne]; omega
      exact LC.go hT (passL_l3 (G := G) (c :: r) out out' left' used' false done' msg msg') ⟨by simp only [List.length_cons, Bool.true_and, decide_eq_true_eq]; omega, hadd, by simp only [List.length_cons, Bool.true_and, decide_eq_true_eq]; omega, n37, n92, by simp only [List.length_cons, Bool.true_and, decide_eq_true_eq]; omega, rfl, rfl, trivial⟩ h1

def passPl (s : List Nat) (st : PS) : PS := plainP s { st with used := false }

theorem plainP_left (s : List Nat) (st : PS) : (plainP s st).left = st.left ∧ (plainP s st).used = st.used := by
  induction s generalizing st with
  | nil => exact ⟨rfl, rfl⟩
  | cons c r ih =>
    unfold plainP
    split
    · exact ⟨rfl, rfl⟩
    · obtain ⟨h1, h2⟩ := ih (addS st [c])
      obtain ⟨h3, h4⟩ := addS_left st [c]
      exact ⟨h1.trans h3, h2.trans h4⟩

theorem plainP_out (s : List Nat) (st : PS) (h : st.out.length ≤ 65536) : (plainP s st).out.length ≤ 65536 := by
  induction s generalizing st with
  | nil => exact h
  | cons c r ih =>
    unfold plainP
    split
    · exact h
    · exact ih _ (addS_out _ _ h)

theorem passPl_ok (hT : TabOk Pd G T) (s : List Nat) (hs : ∀ x ∈ s, x ≠ 37 ∧ x ≠ 92) : PassOk G s (passPl s) (fun st => st.out.length ≤ 65536) := by
  refine ⟨fun st hg hd => ?_, fun st hg hd => plainP_out _ _ hg, fun st hg hd hu => ?_⟩
  · obtain ⟨s', h⟩ := plain_loop (G := G) hT s hs { st with used := false } hg
    have hl := plainP_left s { st with used := false }
    have hst : plainP s { st with used := false } = passPl s st := rfl
    rw [hst] at h hl
    generalize passPl s st = r at *
    obtain ⟨out, left, used, done, msg⟩ := st
    obtain ⟨out2, left2, used2, done2, msg2⟩ := r
    simp only at hl hd
    obtain ⟨rfl, rfl⟩ := hl
    subst hd
    exact RC.of_run hT (passW_p1 (G := G) s out out2 left2 used false done2 msg msg2 s') ⟨h, rfl, trivial⟩
  · unfold passPl at hu
    rw [(plainP_left s _).2] at hu
    cases hu

theorem plainP_fits (s : List Nat) (st : PS) (hd : st.done = false) (h : st.out.length + s.length ≤ 65536) : plainP s st = { st with out := st.out ++ s } := by
  induction s generalizing st with
  | nil => simp [plainP]
  | cons c r ih =>
    simp only [List.length_cons] at h
    have e : addS st [c] = { st with out := st.out ++ [c] } := by
      unfold addS; rw [if_neg (by simp only [List.length_cons, List.length_nil]; omega)]
    unfold plainP
    rw [if_neg (by rw [hd]; simp), e, ih { st with out := st.out ++ [c] } hd (by simp only [List.length_append, List.length_cons, List.length_nil]; omega)]
    simp

theorem printfPl (s : List Nat) (q : List (List Nat)) (h : s.length ≤ 65536) : printfS (passPl s) q = ⟨s, q, false, false, []⟩ := by
  unfold printfS passPl
  rw [plainP_fits s _ rfl (by simpa [startP] using h)]
  cases q.length with
  | zero => rfl
  | succ k => simp [runP, startP]

/-! ### '%s' over operands -/

def catL : List (List Nat) → List Nat
  | [] => []
  | x :: r => x ++ catL r

theorem catL_len (q : List (List Nat)) : (catL q).length = totLen q := by
  induction q with
  | nil => rfl
  | cons x r ih => simp [catL, totLen, ih]

theorem passSS_cons (out x : List Nat) (r : List (List Nat)) (used : Bool) (h : out.length + x.length ≤ 65536) : passSS ⟨out, x :: r, used, false, []⟩ = ⟨out ++ x, r, true, false, []⟩ := by
  have e : fillS cvS (cutS cvS x) = x := by simp [fillS, cutS, cvS]
  show addS ⟨out, r, true, false, []⟩ (fillS cvS (cutS cvS x)) = _
  rw [e]
  unfold addS
  rw [if_neg (by simp only; omega)]

theorem runP_S (q : List (List Nat)) : ∀ (k : Nat) (out : List Nat), q.length ≤ k → out.length + totLen q ≤ 65536 → runP passSS k ⟨out, q, true, false, []⟩ = ⟨out ++ catL q, [], true, false, []⟩ := by
  induction q with
  | nil =>
    intro k out _ _
    cases k with
    | zero => simp [runP, catL]
    | succ k => simp [runP, catL]
  | cons x r ih =>
    intro k out hk ho
    simp only [totLen] at ho
    cases k with
    | zero => simp at hk
    | succ k =>
      unfold runP
      rw [if_pos ⟨rfl, rfl, by simp⟩, passSS_cons out x r true (by omega), ih k (out ++ x) (by simpa using hk) (by simp only [List.length_append]; omega)]
      simp [catL]

theorem printfSS (q : List (List Nat)) (h : totLen q ≤ 65536) : (printfS passSS q).out = catL q ∧ (printfS passSS q).msg = [] := by
  unfold printfS startP
  cases q with
  | nil => exact ⟨rfl, rfl⟩
  | cons x r =>
    simp only [totLen] at h
    rw [passSS_cons [] x r false (by simp; omega), runP_S r _ _ (by simp) (by simp only [List.nil_append]; omega)]
    exact ⟨by simp [catL], rfl⟩
end
end Go.Vc

/- VdSl -/
namespace Go.Vc
set_option linter.unusedVariables false
set_option linter.unusedSimpArgs false

section
variable {P : Program} {G : Glob} {F own : Own} {w : World} {regs : List Reg} {H : Heap}

theorem VEs.toP {ps : List PV} {us : List Value} (h : VEs own w regs (ps.map EV.p) us) : VPs own w ps us := by
  induction ps generalizing us with
  | nil => cases h; exact .nil
  | cons x r ih => cases h with | cons _ u _ us h hs => cases h with | p _ _ h => exact .cons _ _ _ _ h (ih hs)

/-- A contract over no block serves in every heap. -/
theorem RC.lift {f : FuncId} {args : List EV} {ret : EV} (h : RC P G f args [] ret []) (K : Heap) (ha : renEs (upS [] K.length) args = args) (hr : renE (upS [] K.length) ret = ret) : RC P G f args K ret K := by
  have := RC.frame h K [] rfl rfl rfl rfl
  rw [ha, hr] at this
  have e2 : upHeap [] K [] = K := by
    unfold upHeap
    simp [layBack]
  rw [e2] at this
  exact this

theorem RC.sl_arg {f : FuncId} {n i : Nat} {ps : List PV} {k : Kd} {ret : EV} (hi : H[i]? = some (some (.cells (ps.map EV.p) k))) (h : RC P G f [.p (.lst n ps)] (H.set i none) ret (H.set i none)) (hl : n = 0 → ps = []) :
    RC P G f [.sl i 0 n 1] H ret (H.set i none) := by
  intro F regs w vs hh hG hv
  cases hv with | cons _ u _ us hu hs =>
  cases hs
  cases hu with | sl _ _ _ _ g a c hg ht hc ha hf =>
  obtain ⟨⟨e, N, q1, q2, q3⟩, us, q4, q5⟩ := hh.blk i g _ hg hi
  have hk := hh.kill i
  have hm : Moves (tot F regs H) w regs (tot F regs (H.set i none)) w regs := Moves.kill i
  have hus := (q4.moves hm).toP
  have ha0 := ha (.inl rfl)
  subst ha0
  have hlen := q4.len
  simp only [List.length_map] at hlen
  have hno : ∀ j, j < us.length → ¬ tot F regs (H.set i none) g.blk (g.off + j) := by
    rintro j hj (h1 | ⟨i', g', b, h1, h2, h3⟩)
    · exact hh.fr i g _ hg hi g.blk (g.off + j) ⟨rfl, by omega, .inl ht⟩ h1
    · by_cases hii : i' = i
      · subst hii
        rw [List.getElem?_set_self (List.getElem?_eq_some_iff.1 hi).1] at h2
        cases h2
      · rw [List.getElem?_set_ne (fun e => hii e.symm)] at h2
        exact hh.dj i' i g' g b _ hii h1 hg h2 hi g.blk (g.off + j) h3 ⟨rfl, by omega, .inl ht⟩
  have hval : VE (tot F regs (H.set i none)) w regs (.p (.lst n ps)) (.slice (some ⟨g.blk, g.off + 0, none⟩) n c) := by
    refine .p _ _ (.lst n ps _ c us hus hc hl (fun hpos => ⟨g.blk, g.off + 0, rfl, ?_, fun j u hj => ⟨?_, ?_⟩⟩))
    · unfold World.shape? at q1
      rcases Nat.lt_or_ge g.blk w.heap.size with h' | h'
      · exact h'
      · simp [Array.getElem?_eq_none h'] at q1
    · rw [Nat.add_zero]; exact q5 j u hj
    · rw [Nat.add_zero]; exact hno j (List.getElem?_eq_some_iff.1 hj).1
  refine Calls.mono (h F regs w _ hk (hG.moves hm) (.cons _ _ _ _ hval .nil)) ?_
  rintro e' w' ⟨u, rfl, regs', hs⟩
  refine ⟨u, rfl, regs', hs.hp, hs.ext, hs.val, hm.trans hs.mv, ?_, ?_⟩
  · exact (Keeps.refl _ _).trans (fun r x hx => .inl (owned_kill (i := i) hx)) hs.kp
  · exact Grow.trans (Nat.le_refl _) (fun r x hx => .inl (owned_kill (i := i) hx)) hs.gr

theorem allCells_strs (l : List (List Nat)) : allCells (List.map EV.p (List.map PV.str l)) = true := by
  induction l with
  | nil => rfl
  | cons x r ih => simp only [List.map_cons, allCells, ih]; rfl
end
end Go.Vc

/- VdLaw4 -/
namespace Go.Vc
set_option linter.unusedVariables false
set_option linter.unusedSimpArgs false
section
variable {G : Glob} {T : Tab}
theorem plL_l1 (s : List Nat) (ps : List PV) (m : Nat) (i : Int) (all x : List Nat) : runC Pd G T 100000 false [Vc.Item.br true,
  Vc.Item.is 33
    (EV.p
      (PV.str
        x))] 94 0 [(6, EV.p (PV.int .i64 i)), (5, EV.p (PV.str all)), (4, EV.kb false),
  (0, EV.p (PV.str s)), (1, EV.p (PV.lst m ps))] [] (loopAt Pd 4 0) [6, 5, 4, 0, 1] [] [] =
  some
  ([fitsK .i64 (i + 1) = true,
      decide (all.length + x.length ≤ 4611686018427387904) = true,
      Claim Pd G
        [(32, EV.p (PV.elem ps (i.toNat * 1))), (31, EV.p (PV.int .i64 i)), (30, EV.p (PV.lst m ps)),
          (29, EV.p (PV.str all)), (26, EV.p (PV.bool (decide (i < (↑m : Int))))),
          (25, EV.p (PV.int .i64 (↑m : Int))), (24, EV.p (PV.lst m ps)), (23, EV.p (PV.int .i64 i)),
          (6, EV.p (PV.int .i64 i)), (5, EV.p (PV.str all)), (4, EV.kb false), (0, EV.p (PV.str s)),
          (1, EV.p (PV.lst m ps))]
        []
        { dst := some 33, op := Op.load 9 (Operand.tmp 32), type := 9, pos := "law.go:46",
          after := #[{ on := 3, ground := Ground.data }], guard := none }
        (EV.p (PV.str x)),
      (decide (0 ≤ i) && decide (i < (↑m : Int))) = true, decide (i < (↑m : Int)) = true],
    Ex.normal,
    [(6, EV.p (PV.int .i64 (i + 1))), (5, EV.p (PV.str (all ++ x))),
      (4, EV.kb false), (0, EV.p (PV.str s)), (1, EV.p (PV.lst m ps))],
    []) := by kernel_rfl

theorem plL_l2 (s : List Nat) (ps : List PV) (m : Nat) (i : Int) (all x : List Nat) : runC Pd G T 100000 false [Vc.Item.br
    false] 94 0 [(6, EV.p (PV.int .i64 i)), (5, EV.p (PV.str all)), (4, EV.kb false), (0, EV.p (PV.str s)),
  (1, EV.p (PV.lst m ps))] [] (loopAt Pd 4 0) [6, 5, 4, 0, 1] [] [] =
  some
  ([decide (i < (↑m : Int)) = false], Ex.exit 0,
    [(6, EV.p (PV.int .i64 i)), (5, EV.p (PV.str all)), (4, EV.kb false), (0, EV.p (PV.str s)),
      (1, EV.p (PV.lst m ps))],
    []) := by kernel_rfl

theorem plM_l1 (s : List Nat) (ps : List PV) (m : Nat) (i : Int) : runC Pd G T 100000 false [Vc.Item.br true, Vc.Item.br true,
  Vc.Item.callv (EV.p (PV.bool true))
    []] 94 0 [(10, EV.p (PV.int .i64 i)), (4, EV.kb false), (0, EV.p (PV.str s)),
  (1, EV.p (PV.lst m ps))] [] (loopAt Pd 4 1) [10, 4, 0, 1] [] [] =
  some
  ([RC Pd G 8 [] [] (EV.p (PV.bool true)) [], ((↑(s.getD i.toNat 0) : Int) == 37) = true,
      (decide (0 ≤ i) && decide (i < (↑s.length : Int))) = true, decide (i < (↑s.length : Int)) = true],
    Ex.ret,
    [(10, EV.p (PV.int .i64 i)), (4, EV.p (PV.bool true)), (0, EV.p (PV.str s)), (1, EV.p (PV.lst m ps))],
    []) := by kernel_rfl

theorem plM_l2 (s : List Nat) (ps : List PV) (m : Nat) (i : Int) : runC Pd G T 100000 false [Vc.Item.br true, Vc.Item.br false, Vc.Item.br true,
  Vc.Item.callv (EV.p (PV.bool true))
    []] 94 0 [(10, EV.p (PV.int .i64 i)), (4, EV.kb false), (0, EV.p (PV.str s)),
  (1, EV.p (PV.lst m ps))] [] (loopAt Pd 4 1) [10, 4, 0, 1] [] [] =
  some
  ([RC Pd G 8 [] [] (EV.p (PV.bool true)) [], ((↑(s.getD i.toNat 0) : Int) == 92) = true,
      (decide (0 ≤ i) && decide (i < (↑s.length : Int))) = true, ((↑(s.getD i.toNat 0) : Int) == 37) = false,
      (decide (0 ≤ i) && decide (i < (↑s.length : Int))) = true, decide (i < (↑s.length : Int)) = true],
    Ex.ret,
    [(10, EV.p (PV.int .i64 i)), (4, EV.p (PV.bool true)), (0, EV.p (PV.str s)), (1, EV.p (PV.lst m ps))],
    []) := by kernel_rfl

theorem plM_l3 (s : List Nat) (ps : List PV) (m : Nat) (i : Int) : runC Pd G T 100000 false [Vc.Item.br true, Vc.Item.br false,
  Vc.Item.br
    false] 94 0 [(10, EV.p (PV.int .i64 i)), (4, EV.kb false), (0, EV.p (PV.str s)),
  (1, EV.p (PV.lst m ps))] [] (loopAt Pd 4 1) [10, 4, 0, 1] [] [] =
  some
  ([fitsK .i64 (i + 1) = true, ((↑(s.getD i.toNat 0) : Int) == 92) = false,
      (decide (0 ≤ i) && decide (i < (↑s.length : Int))) = true, ((↑(s.getD i.toNat 0) : Int) == 37) = false,
      (decide (0 ≤ i) && decide (i < (↑s.length : Int))) = true, decide (i < (↑s.length : Int)) = true],
    Ex.normal,
    [(10, EV.p (PV.int .i64 (i + 1))), (4, EV.kb false), (0, EV.p (PV.str s)), (1, EV.p (PV.lst m ps))],
    []) := by kernel_rfl

theorem plM_l4 (s : List Nat) (ps : List PV) (m : Nat) (i : Int) : runC Pd G T 100000 false [Vc.Item.br
    false] 94 0 [(10, EV.p (PV.int .i64 i)), (4, EV.kb false), (0, EV.p (PV.str s)),
  (1, EV.p (PV.lst m ps))] [] (loopAt Pd 4 1) [10, 4, 0, 1] [] [] =
  some
  ([decide (i < (↑s.length : Int)) = false], Ex.exit 2,
    [(10, EV.p (PV.int .i64 i)), (4, EV.kb false), (0, EV.p (PV.str s)), (1, EV.p (PV.lst m ps))],
    []) := by kernel_rfl

theorem plainA_p1 (s : List Nat) (l : List (List Nat)) (all a m b o : List Nat) (n p i : Int) : runW Pd G T 100000 false [Vc.Item.br false, Vc.Item.callv (EV.p (PV.bool true)) [], Vc.Item.br false,
  Vc.Item.tr 999999 (Tr.weak [6, 5, 4, 0, 1] [] []),
  Vc.Item.code (Ex.exit 0)
    [(6, EV.p (PV.int .i64 (↑l.length : Int))), (5, EV.p (PV.str all)), (4, EV.kb false), (0, EV.p (PV.str s)),
      (1, EV.p (PV.lst l.length (List.map PV.str l)))]
    [],
  Vc.Item.call (EV.tup [EV.p (PV.str a), EV.p (PV.str m), EV.p (PV.int .i64 n)]) [none, none], Vc.Item.br false,
  Vc.Item.br false, Vc.Item.br false, Vc.Item.tr 999999 (Tr.weak [10, 4, 0, 1] [] []),
  Vc.Item.code (Ex.exit 2)
    [(10, EV.p (PV.int .i64 i)), (4, EV.kb false), (0, EV.p (PV.str s)),
      (1, EV.p (PV.lst l.length (List.map PV.str l)))]
    [],
  Vc.Item.call (EV.tup [EV.p (PV.str b), EV.p (PV.str o), EV.p (PV.int .i64 p)]) [none, none], Vc.Item.br true,
  Vc.Item.br true, Vc.Item.br true,
  Vc.Item.callv (EV.p (PV.bool true)) []] [] [] 4 [EV.p (PV.str s), EV.p (PV.lst l.length (List.map PV.str l))] [] =
  some
  ([RC Pd G 8 [] [] (EV.p (PV.bool true)) [], (p == 0) = true, (o == []) = true, (b == s) = true,
      RC Pd G 11 [EV.sl 1 0 (1 + l.length) 1]
        [none,
          some
            (Blk.cells
              (List.map EV.p (PV.str s :: List.map PV.str l))
              Kd.any)]
        (EV.tup [EV.p (PV.str b), EV.p (PV.str o), EV.p (PV.int .i64 p)]) [none, none],
      (allCells (List.map EV.p (List.map PV.str l)) &&
              decide ((List.map EV.p (List.map PV.str l)).length = l.length * 1) &&
            true &&
          (decide ((1 + l.length) * 16 ≤ 1099511627776) && true)) =
        true,
      LC Pd G 94 0
        [(10, EV.p (PV.int .i64 0)), (4, EV.kb false), (0, EV.p (PV.str s)),
          (1, EV.p (PV.lst l.length (List.map PV.str l)))]
        [] (loopAt Pd 4 1) (Ex.exit 2)
        [(10, EV.p (PV.int .i64 i)), (4, EV.kb false), (0, EV.p (PV.str s)),
          (1, EV.p (PV.lst l.length (List.map PV.str l)))]
        [],
      (n != 0) = false, (!m == []) = false, (!a == all) = false,
      RC Pd G 11 [EV.sl 1 0 (1 + l.length) 1]
        [none,
          some
            (Blk.cells
              (List.map EV.p (PV.str [37, 115] :: List.map PV.str l))
              Kd.any)]
        (EV.tup [EV.p (PV.str a), EV.p (PV.str m), EV.p (PV.int .i64 n)]) [none, none],
      (allCells (List.map EV.p (List.map PV.str l)) &&
              decide ((List.map EV.p (List.map PV.str l)).length = l.length * 1) &&
            true &&
          (decide ((1 + l.length) * 16 ≤ 1099511627776) && true)) =
        true,
      LC Pd G 94 0
        [(6, EV.p (PV.int .i64 0)), (5, EV.p (PV.str [])), (4, EV.kb false), (0, EV.p (PV.str s)),
          (1, EV.p (PV.lst l.length (List.map PV.str l)))]
        [] (loopAt Pd 4 0) (Ex.exit 0)
        [(6, EV.p (PV.int .i64 (↑l.length : Int))), (5, EV.p (PV.str all)), (4, EV.kb false),
          (0, EV.p (PV.str s)), (1, EV.p (PV.lst l.length (List.map PV.str l)))]
        [],
      false = false,
      RC Pd G 7 [EV.p (PV.lst l.length (List.map PV.str l)), EV.p (PV.int .i64 8), EV.p (PV.int .i64 60)]
        [] (EV.p (PV.bool true)) [],
      decide ((↑s.length : Int) > 60) = false],
    EV.p (PV.bool true), []) := by kernel_rfl

theorem plainB_p4 (s : List Nat) (l : List (List Nat)) (all a m : List Nat) (n i : Int) : runFn Pd G T 100000 false [Vc.Item.br false, Vc.Item.callv (EV.p (PV.bool true)) [], Vc.Item.br false,
  Vc.Item.tr 999999 (Tr.weak [6, 5, 4, 0, 1] [] []),
  Vc.Item.code (Ex.exit 0)
    [(6, EV.p (PV.int .i64 (↑l.length : Int))), (5, EV.p (PV.str all)), (4, EV.kb false), (0, EV.p (PV.str s)),
      (1, EV.p (PV.lst l.length (List.map PV.str l)))]
    [],
  Vc.Item.call (EV.tup [EV.p (PV.str a), EV.p (PV.str m), EV.p (PV.int .i64 n)]) [none, none], Vc.Item.br false,
  Vc.Item.br false, Vc.Item.br false, Vc.Item.tr 999999 (Tr.weak [10, 4, 0, 1] [] []),
  Vc.Item.code Ex.ret
    [(10, EV.p (PV.int .i64 i)), (4, EV.p (PV.bool true)), (0, EV.p (PV.str s)),
      (1, EV.p (PV.lst l.length (List.map PV.str l)))]
    []] 4 [EV.p (PV.str s), EV.p (PV.lst l.length (List.map PV.str l))] [] =
  some
  ([LC Pd G 94 0
        [(10, EV.p (PV.int .i64 0)), (4, EV.kb false), (0, EV.p (PV.str s)),
          (1, EV.p (PV.lst l.length (List.map PV.str l)))]
        [] (loopAt Pd 4 1) Ex.ret
        [(10, EV.p (PV.int .i64 i)), (4, EV.p (PV.bool true)), (0, EV.p (PV.str s)),
          (1, EV.p (PV.lst l.length (List.map PV.str l)))]
        [],
      (n != 0) = false, (!m == []) = false, (!a == all) = false,
      RC Pd G 11 [EV.sl 1 0 (1 + l.length) 1]
        [none,
          some
            (Blk.cells
              (List.map EV.p (PV.str [37, 115] :: List.map PV.str l))
              Kd.any)]
        (EV.tup [EV.p (PV.str a), EV.p (PV.str m), EV.p (PV.int .i64 n)]) [none, none],
      (allCells (List.map EV.p (List.map PV.str l)) &&
              decide ((List.map EV.p (List.map PV.str l)).length = l.length * 1) &&
            true &&
          (decide ((1 + l.length) * 16 ≤ 1099511627776) && true)) =
        true,
      LC Pd G 94 0
        [(6, EV.p (PV.int .i64 0)), (5, EV.p (PV.str [])), (4, EV.kb false), (0, EV.p (PV.str s)),
          (1, EV.p (PV.lst l.length (List.map PV.str l)))]
        [] (loopAt Pd 4 0) (Ex.exit 0)
        [(6, EV.p (PV.int .i64 (↑l.length : Int))), (5, EV.p (PV.str all)), (4, EV.kb false),
          (0, EV.p (PV.str s)), (1, EV.p (PV.lst l.length (List.map PV.str l)))]
        [],
      false = false,
      RC Pd G 7 [EV.p (PV.lst l.length (List.map PV.str l)), EV.p (PV.int .i64 8), EV.p (PV.int .i64 60)]
        [] (EV.p (PV.bool true)) [],
      decide ((↑s.length : Int) > 60) = false],
    EV.p (PV.bool true), []) := by kernel_rfl

theorem plain_p1 (s : List Nat) (l : List (List Nat)) (b : Bool) : runFn Pd G T 100000 false [Vc.Item.br true,
  Vc.Item.callv (EV.p (PV.bool true)) []] 4 [EV.p (PV.str s), EV.p (PV.lst l.length (List.map PV.str l))] [] =
  some
  ([RC Pd G 8 [] [] (EV.p (PV.bool true)) [], decide ((↑s.length : Int) > 60) = true], EV.p (PV.bool true),
    []) := by kernel_rfl

theorem plain_p2 (s : List Nat) (l : List (List Nat)) (b : Bool) : runFn Pd G T 100000 false [Vc.Item.br false, Vc.Item.callv (EV.p (PV.bool b)) [], Vc.Item.br true,
  Vc.Item.callv (EV.p (PV.bool true)) []] 4 [EV.p (PV.str s), EV.p (PV.lst l.length (List.map PV.str l))] [] =
  some
  ([RC Pd G 8 [] [] (EV.p (PV.bool true)) [], (!b) = true,
      RC Pd G 7 [EV.p (PV.lst l.length (List.map PV.str l)), EV.p (PV.int .i64 8), EV.p (PV.int .i64 60)]
        [] (EV.p (PV.bool b)) [],
      decide ((↑s.length : Int) > 60) = false],
    EV.p (PV.bool true), []) := by kernel_rfl


theorem catL_drop (l : List (List Nat)) (i : Nat) (h : i < l.length) : catL (l.drop i) = l.getD i [] ++ catL (l.drop (i + 1)) := by
  rw [List.drop_eq_getElem_cons h]
  simp [catL, List.getD_eq_getElem?_getD, h]

theorem cat_loop (hT : TabOk Pd G T) (s : List Nat) (l : List (List Nat)) (hl : l.length ≤ 1000000) : ∀ (k i : Nat) (all : List Nat), i + k = l.length → all.length + (catL (l.drop i)).length ≤ 1000000000 →
    LC Pd G 94 0 [(6, .p (.int .i64 (i : Nat))), (5, .p (.str all)), (4, .kb false), (0, .p (.str s)), (1, .p (.lst l.length (l.map PV.str)))] [] (loopAt Pd 4 0) (.exit 0)
      [(6, .p (.int .i64 (l.length : Nat))), (5, .p (.str (all ++ catL (l.drop i)))), (4, .kb false), (0, .p (.str s)), (1, .p (.lst l.length (l.map PV.str)))] [] := by
  intro k
  induction k with
  | zero =>
    intro i all hi ha
    have e : i = l.length := by omega
    subst e
    have e2 : all ++ catL (l.drop l.length) = all := by simp [catL]
    rw [e2]
    exact LC.leave hT (plL_l2 (G := G) s (l.map PV.str) l.length l.length all []) ⟨by simp, trivial⟩ (by simp)
  | succ k ih =>
    intro i all hi ha
    have h : i < l.length := by omega
    rw [catL_drop l i h] at ha ⊢
    simp only [List.length_append] at ha
    have h1 := ih (i + 1) (all ++ l.getD i []) (by omega) (by simp only [List.length_append]; omega)
    rw [← List.append_assoc]
    refine LC.go hT (plL_l1 (G := G) s (l.map PV.str) l.length i all (l.getD i [])) ⟨?_, ?_, ?_, ?_, ?_, trivial⟩ (by rw [Int.natCast_add] at h1; exact h1)
    · simp only [fitsK, min_i64, max_i64, Bool.and_eq_true, decide_eq_true_eq]; omega
    · simp only [decide_eq_true_eq]; omega
    · refine claim_str (t := 9) rfl (by kernel_rfl) rfl ?_
      rw [Int.toNat_natCast, Nat.mul_one]
      exact strs_get l i h
    · simp; omega
    · simp; omega

/-- No conversion and no escape. -/
def isPlain (s : List Nat) : Prop := ∀ x ∈ s, x ≠ 37 ∧ x ≠ 92

theorem scan_loop (hT : TabOk Pd G T) (haw : RC Pd G 8 [] [] (.p (.bool true)) []) (s : List Nat) (m : Nat) (ps : List PV) (hs : s.length ≤ 1000000) : ∀ (k i : Nat), i + k = s.length → (∀ x ∈ s.take i, x ≠ 37 ∧ x ≠ 92) →
    (isPlain s ∧ LC Pd G 94 0 [(10, .p (.int .i64 (i : Nat))), (4, .kb false), (0, .p (.str s)), (1, .p (.lst m ps))] [] (loopAt Pd 4 1) (.exit 2)
      [(10, .p (.int .i64 (s.length : Nat))), (4, .kb false), (0, .p (.str s)), (1, .p (.lst m ps))] []) ∨
    (∃ j : Nat, LC Pd G 94 0 [(10, .p (.int .i64 (i : Nat))), (4, .kb false), (0, .p (.str s)), (1, .p (.lst m ps))] [] (loopAt Pd 4 1) .ret
      [(10, .p (.int .i64 (j : Nat))), (4, .p (.bool true)), (0, .p (.str s)), (1, .p (.lst m ps))] []) := by
  intro k
  induction k with
  | zero =>
    intro i hi hp
    have e : i = s.length := by omega
    subst e
    left
    refine ⟨by rw [List.take_length] at hp; exact hp, LC.leave hT (plM_l4 (G := G) s ps m s.length) ⟨by simp, trivial⟩ (by simp)⟩
  | succ k ih =>
    intro i hi hp
    have h : i < s.length := by omega
    have hb : (decide (0 ≤ (i : Int)) && decide ((i : Int) < (s.length : Int))) = true := by simp; omega
    have hlt : decide ((i : Int) < (s.length : Int)) = true := by simp; omega
    have e0 : s.getD (i : Int).toNat 0 = s.getD i 0 := by rw [Int.toNat_natCast]
    by_cases h1 : s.getD i 0 = 37
    · right
      have key := plM_l1 (G := G) (T := T) s ps m i
      rw [e0, h1] at key
      exact ⟨i, LC.leave hT key ⟨haw, rfl, hb, hlt, trivial⟩ (by simp)⟩
    · have n37 : (((s.getD i 0 : Nat) : Int) == 37) = false := by rw [beq_eq_false_iff_ne]; omega
      by_cases h2 : s.getD i 0 = 92
      · right
        have key := plM_l2 (G := G) (T := T) s ps m i
        rw [e0] at key
        exact ⟨i, LC.leave hT key ⟨haw, by rw [h2]; rfl, hb, n37, hb, hlt, trivial⟩ (by simp)⟩
      · have n92 : (((s.getD i 0 : Nat) : Int) == 92) = false := by rw [beq_eq_false_iff_ne]; omega
        have key := plM_l3 (G := G) (T := T) s ps m i
        rw [e0] at key
        have ob : AllT [fitsK .i64 ((i : Int) + 1) = true, (((s.getD i 0 : Nat) : Int) == 92) = false, (decide (0 ≤ (i : Int)) && decide ((i : Int) < (s.length : Int))) = true, (((s.getD i 0 : Nat) : Int) == 37) = false, (decide (0 ≤ (i : Int)) && decide ((i : Int) < (s.length : Int))) = true, decide ((i : Int) < (s.length : Int)) = true] :=
          ⟨by simp only [fitsK, min_i64, max_i64, Bool.and_eq_true, decide_eq_true_eq]; omega, n92, hb, n37, hb, hlt, trivial⟩
        have hp' : ∀ x ∈ s.take (i + 1), x ≠ 37 ∧ x ≠ 92 := by
          intro x hx
          rw [List.take_add_one, List.mem_append] at hx
          rcases hx with hx | hx
          · exact hp x hx
          · rw [List.getElem?_eq_getElem h] at hx
            simp only [Option.toList_some, List.mem_singleton] at hx
            subst hx
            rw [List.getD_eq_getElem?_getD, List.getElem?_eq_getElem h] at h1 h2
            exact ⟨h1, h2⟩
        rcases ih (i + 1) (by omega) hp' with ⟨h3, h4⟩ | ⟨j, h4⟩
        · exact .inl ⟨h3, LC.go hT key ob (by rw [Int.natCast_add] at h4; exact h4)⟩
        · exact .inr ⟨j, LC.go hT key ob (by rw [Int.natCast_add] at h4; exact h4)⟩

/-- Printf of a row that the caller has made. -/
theorem printf_sl (hT : TabOk Pd G T) {f : List Nat} (l : List (List Nat)) {r m : List Nat} {n : Int} (h : RC Pd G 11 [.p (.lst (f :: l).length ((f :: l).map PV.str))] [] (.tup [.p (.str r), .p (.str m), .p (.int .i64 n)]) []) :
    RC Pd G 11 [.sl 1 0 (1 + l.length) 1] [none, some (.cells (List.map EV.p (PV.str f :: List.map PV.str l)) .any)] (.tup [.p (.str r), .p (.str m), .p (.int .i64 n)]) [none, none] := by
  have h1 := RC.lift h [none, none] rfl rfl
  have e : (f :: l).length = 1 + l.length := by simp only [List.length_cons]; omega
  rw [e] at h1
  exact RC.sl_arg (H := [none, some (.cells (List.map EV.p (PV.str f :: List.map PV.str l)) .any)]) (i := 1) rfl h1 (by omega)

set_option maxRecDepth 20000 in
theorem plainLaw_rc (s : List Nat) (l : List (List Nat)) : RC Pd Gd 4 [.p (.str s), .p (.lst l.length (l.map PV.str))] [] (.p (.bool true)) [] := by
  have hT := T0_ok Gd
  by_cases h60 : s.length > 60
  · exact RC.of_runFn hT (plain_p1 s l true) ⟨awake_rc, by simp only [decide_eq_true_eq]; omega, trivial⟩
  have hs60 : decide ((s.length : Int) > 60) = false := by simp only [decide_eq_false_iff_not]; omega
  have hs := short_rc hT l 8 60 (by omega)
  cases hb : shortB l 8 60 with
  | false =>
    rw [hb] at hs
    exact RC.of_runFn hT (plain_p2 s l false) ⟨awake_rc, rfl, hs, hs60, trivial⟩
  | true =>
    obtain ⟨h1, h2, h3⟩ := shortB_bounds hb
    rw [hb] at hs
    have ht : totLen l ≤ 480 := by
      have : l.length * 60 ≤ 8 * 60 := Nat.mul_le_mul_right _ h1
      omega
    have hcat := cat_loop hT s l (by omega) l.length 0 [] (by omega) (by rw [List.drop_zero, catL_len]; simp; omega)
    rw [List.drop_zero, List.nil_append] at hcat
    have hps := printfSS l (by omega)
    have hp1 := printf_rc hT (passS_ok (G := Gd) hT) l ⟨by simp [startP], fun x hx => by have := h3 x hx; omega⟩ (by omega) (by rw [hps.1, catL_len]; omega)
    rw [hps.1, hps.2, if_pos rfl] at hp1
    have hq1 := printf_sl hT l hp1
    have hob : (allCells (List.map EV.p (List.map PV.str l)) && decide ((List.map EV.p (List.map PV.str l)).length = l.length * 1) && true && (decide ((1 + l.length) * 16 ≤ 1099511627776) && true)) = true := by
      rw [allCells_strs]; simp; omega
    rcases scan_loop hT awake_rc s l.length (l.map PV.str) (by omega) s.length 0 (by omega) (by simp) with ⟨hpl, hsc⟩ | ⟨j, hsc⟩
    · have hpp := printfPl s l (by omega)
      have hp2 := printf_rc hT (passPl_ok (G := Gd) hT s hpl) l (by simp [startP]) (by omega) (by rw [hpp]; simp only; omega)
      rw [hpp] at hp2
      have hq2 := printf_sl hT l hp2
      exact RC.of_run hT (plainA_p1 s l (catL l) (catL l) [] s [] 0 0 s.length) ⟨awake_rc, rfl, rfl, by simp, hq2, hob, hsc, rfl, rfl, by simp, hq1, hob, hcat, rfl, hs, hs60, trivial⟩
    · exact RC.of_runFn hT (plainB_p4 s l (catL l) (catL l) [] 0 j) ⟨hsc, rfl, rfl, by simp, hq1, hob, hcat, rfl, hs, hs60, trivial⟩
end
end Go.Vc
