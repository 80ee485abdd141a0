/- Plain readings of the functions, and that they are what the evaluator does: by program. -/
import Derived.Test.YtefpcbcbjnfhnaaGrRes
import Derived.Test.YtefpcbcbjnfhnaaENV
import Derived.KernelRfl
set_option maxRecDepth 100000
set_option linter.unusedVariables false
namespace Go.Jn
open Go.Gr
noncomputable section
def b7_entry (call : CallA) (n : Nat)    (S : AS) : Option (AV × AS) :=
 callP call 37 [(.int .i64 9)] S fun v2 S1 =>
 callI .i64 call 36 [(.iface 73 (.ptr v2)), (.int .i64 1), (.int .i64 8)] S1 fun v4 S3 =>
 callI .i64 call 15 [(.int .i64 v4)] S3 fun v6 S5 =>
 cond (v6 != 0) (
 some ((.bool false), S5)) (
 callT call 28 [(.iface 73 (.ptr v2)), (.int .i64 1), (.int .i64 8)] S5 fun v8 S7 =>
 atP v8 0 fun v9 =>
 atL v8 1 fun v10a v10l v10c =>
 atI .i64 v8 2 fun v11 =>
 callI .i64 call 15 [(.int .i64 v11)] S7 fun v13 S12 =>
 cond (v13 != 0) (
 some ((.bool false), S12)) (
 cond v9.isNone (
 some ((.bool false), S12)) (
 cond (((v10l : Nat) : Int) != 0) (
 some ((.bool false), S12)) (
 callI .i64 call 34 [(.ptr v9)] S12 fun v15 S14 =>
 cond (v15 != 6) (
 some ((.bool false), S14)) (
 callL call 27 [(.int .u8 97)] S14 fun v17a v17l v17c S16 =>
 newA S16 (.cells [(.int .i64 7), (.sl v17a v17l v17c)]) fun b18 S19 =>
 callT call 26 [(.ptr v9), (.sl (some (.rw b18, 0)) 1 (.ex 1))] S19 fun v21 S20 =>
 atI .u64 v21 0 fun v22 =>
 atI .i64 v21 1 fun v23 =>
 callL call 27 [(.int .u8 98)] S20 fun v25a v25l v25c S24 =>
 newA S24 (.cells [(.int .i64 8), (.sl v25a v25l v25c)]) fun b26 S27 =>
 callT call 26 [(.ptr v9), (.sl (some (.rw b26, 0)) 1 (.ex 1))] S27 fun v29 S28 =>
 atI .u64 v29 0 fun v30 =>
 atI .i64 v29 1 fun v31 =>
 newA S28 (.cells [(.int .i64 2), (.int .i64 3)]) fun b32 S33 =>
 callT call 38 [(.ptr v2), (.sl (some (.rw b32, 0)) 2 (.ex 2))] S33 fun v35 S34 =>
 callT call 28 [(.iface 73 (.ptr v2)), (.int .i64 1), (.int .i64 8)] S34 fun v37 S36 =>
 atP v37 0 fun v38 =>
 atL v37 1 fun v39a v39l v39c =>
 atI .i64 v37 2 fun v40 =>
 callI .i64 call 15 [(.int .i64 v40)] S36 fun v42 S41 =>
 cond (v42 != 0) (
 some ((.bool false), S41)) (
 cond v38.isNone (
 some ((.bool false), S41)) (
 cond (((v39l : Nat) : Int) != 0) (
 some ((.bool false), S41)) (
 callL call 27 [(.int .u8 99)] S41 fun v44a v44l v44c S43 =>
 newA S43 (.cells [(.int .i64 9), (.sl v44a v44l v44c)]) fun b45 S46 =>
 callT call 26 [(.ptr v38), (.sl (some (.rw b45, 0)) 1 (.ex 1))] S46 fun v48 S47 =>
 atI .u64 v48 0 fun v49 =>
 atI .i64 v48 1 fun v50 =>
 callI .i64 call 29 [(.ptr v38)] S47 fun v52 S51 =>
 callT call 38 [(.ptr v2), (.sl none 0 (.ex 0))] S51 fun v54 S53 =>
 callT call 28 [(.iface 73 (.ptr v2)), (.int .i64 1), (.int .i64 8)] S53 fun v56 S55 =>
 atP v56 0 fun v57 =>
 atL v56 1 fun v58a v58l v58c =>
 atI .i64 v56 2 fun v59 =>
 cond (v22 == 1) (
 callI .i64 call 15 [(.int .i64 v23)] S55 fun v61 S60 =>
 cond (v61 == 0) (
 cond (v30 == 2) (
 callI .i64 call 15 [(.int .i64 v31)] S60 fun v63 S62 =>
 cond (v63 == 0) (
 cond (v49 == 1) (
 callI .i64 call 15 [(.int .i64 v50)] S62 fun v65 S64 =>
 cond (v65 == 0) (
 callI .i64 call 15 [(.int .i64 v52)] S64 fun v67 S66 =>
 cond (v67 == 0) (
 callI .i64 call 15 [(.int .i64 v59)] S66 fun v69 S68 =>
 cond (v69 == 0) (
 cond (((v58l : Nat) : Int) == 1) (
 ixSl 1 v58a v58l 0 fun p70 =>
 ldL S68 p70.1 p70.2 fun v71a v71l v71c =>
 cond (((v71l : Nat) : Int) == 1) (
 ixSl 1 v58a v58l 0 fun p72 =>
 ldL S68 p72.1 p72.2 fun v73a v73l v73c =>
 ixSl 2 v73a v73l 0 fun p74 =>
 ldI .i64 S68 p74.1 p74.2 fun v75 =>
 cond (v75 == 9) (
 ixSl 1 v58a v58l 0 fun p76 =>
 ldL S68 p76.1 p76.2 fun v77a v77l v77c =>
 ixSl 2 v77a v77l 0 fun p78 =>
 ldL S68 p78.1 (p78.2 + 1) fun v79a v79l v79c =>
 bytesStr S68 v79a v79l fun s80 =>
 callL call 27 [(.int .u8 99)] S68 fun v82a v82l v82c S81 =>
 bytesStr S81 v79a v79l fun s83 =>
 cond (AV.beq (.str s83) (.str s80)) (
 ldL S81 p78.1 (p78.2 + 1) fun v84a v84l v84c =>
 cond (AV.beq (.sl v84a v84l v84c) (.sl v79a v79l v79c)) (
 ldL S81 p76.1 p76.2 fun v85a v85l v85c =>
 cond (AV.beq (.sl v85a v85l v85c) (.sl v77a v77l v77c)) (
 bytesStr S81 v82a v82l fun s86 =>
 cond (s80 == s86) (
 callI .u64 call 35 [(.ptr v38)] S81 fun v88 S87 =>
 cond (v88 == 3) (
 callI .i64 call 16 [(.int .i64 1)] S87 fun v90 S89 =>
 some ((.bool (v90 == 2)), S89)) (
 some ((.bool false), S87))) (
 some ((.bool false), S81))) none) none) none) (
 some ((.bool false), S68))) (
 some ((.bool false), S68))) (
 some ((.bool false), S68))) (
 some ((.bool false), S68))) (
 some ((.bool false), S66))) (
 some ((.bool false), S64))) (
 some ((.bool false), S62))) (
 some ((.bool false), S62))) (
 some ((.bool false), S60))) (
 some ((.bool false), S60))) (
 some ((.bool false), S55))))))))))

theorem a7_entry (call : CallA) (n : Nat)  (S : AS) : evC E call n 7 (E.at 7 []) 0 (enumT 0 []) S (retK E (E.fn 7)) = b7_entry call n   S := by kernel_rfl
def J7 (call : CallA) (n : Nat)  (S : AS) : Option (AV × AS) := b7_entry call n   S
theorem run7 (o : Orc) (n : Nat) (args : List AV) (S : AS) (ho : o 7 args = none) : evF E o (n + 1) (.fn 7) args S = evC E (evF E o n) n 7 (E.at 7 []) 0 (enumT 0 args) S (retK E (E.fn 7)) := by
  rw [evF, ho]; kernel_rfl
theorem J7_eq (call : CallA) (n : Nat)  (S : AS) : evC E call n 7 (E.at 7 []) 0 (enumT 0 []) S (retK E (E.fn 7)) = J7 call n  S := by
  rw [J7, a7_entry]
theorem F7 {o : Orc} (n : Nat)  (S : AS) (ho : ∀ args, o 7 args = none) : evF E o (n + 1) (.fn 7) [] S = J7 (evF E o n) n  S := (run7 o n [] S (ho _)).trans (J7_eq _ _  S)
def b8_l1_1_1_0_1_0 (call : CallA) (n : Nat)  (l1_1_1_0_1_0 : Option Pos → Option Pos → Nat → Cap → Option Pos → Nat → Cap → Int → Int → AS → Option (AV × AS)) (j1_1_1_1 : Option Pos → Option Pos → Nat → Cap → AS → Option (AV × AS)) (w1 : Option Pos) (w4a : Option Pos) (w4l : Nat) (w4c : Cap) (w79a : Option Pos) (w79l : Nat) (w79c : Cap) (w80 : Int) (w81 : Int) (S : AS) : Option (AV × AS) :=
 cond (decide (w81 < w80)) (
 ixSl 1 w79a w79l w81 fun p31 =>
 ldI .u64 S p31.1 p31.2 fun v32 =>
 callL call 40 [(.sl w4a w4l w4c), (.int .u64 v32), (.int .i64 8)] S fun v34a v34l v34c S33 =>
 l1_1_1_0_1_0 w1 v34a v34l v34c w79a w79l w79c w80 (IntKind.wrap .i64 (w81 + 1)) S33) (
 j1_1_1_1 w1 w4a w4l w4c S)

def b8_j1_1_1_1 (call : CallA) (n : Nat)  (l1_1_1_1_0_1_0 : Option Pos → Option Pos → Nat → Cap → Option Pos → Nat → Cap → Int → Int → AS → Option (AV × AS)) (w1 : Option Pos) (w4a : Option Pos) (w4l : Nat) (w4c : Cap) (S : AS) : Option (AV × AS) :=
 gO w1 fun p35 =>
 ldI .i64 S p35.1 (p35.2 + 4) fun v36 =>
 gO w1 fun p37 =>
 ldI .i64 S p37.1 (p37.2 + 5) fun v38 =>
 gO w1 fun p39 =>
 ldL S p39.1 (p39.2 + 6) fun v40a v40l v40c =>
 newA S (.cells [(.int .i64 v36), (.int .i64 v38), (.int .i64 ((v40l : Nat) : Int))]) fun b41 S42 =>
 l1_1_1_1_0_1_0 w1 w4a w4l w4c (some (.rw b41, 0)) 3 (.ex 3) ((3 : Nat) : Int) 0 S42

def b8_l1_1_1_1_0_1_0 (call : CallA) (n : Nat)  (l1_1_1_1_0_1_0 : Option Pos → Option Pos → Nat → Cap → Option Pos → Nat → Cap → Int → Int → AS → Option (AV × AS)) (j1_1_1_1_1 : Option Pos → Option Pos → Nat → Cap → AS → Option (AV × AS)) (w1 : Option Pos) (w4a : Option Pos) (w4l : Nat) (w4c : Cap) (w96a : Option Pos) (w96l : Nat) (w96c : Cap) (w97 : Int) (w98 : Int) (S : AS) : Option (AV × AS) :=
 cond (decide (w98 < w97)) (
 ixSl 1 w96a w96l w98 fun p43 =>
 ldI .i64 S p43.1 p43.2 fun v44 =>
 callL call 40 [(.sl w4a w4l w4c), (.int .u64 (IntKind.wrap .u64 v44)), (.int .i64 2)] S fun v46a v46l v46c S45 =>
 l1_1_1_1_0_1_0 w1 v46a v46l v46c w96a w96l w96c w97 (IntKind.wrap .i64 (w98 + 1)) S45) (
 j1_1_1_1_1 w1 w4a w4l w4c S)

def b8_j1_1_1_1_1 (call : CallA) (n : Nat)   (w1 : Option Pos) (w4a : Option Pos) (w4l : Nat) (w4c : Cap) (S : AS) : Option (AV × AS) :=
 appendZA 1 1 [(.int .u8 0)] S w4a w4l w4c (IntKind.wrap .i64 (48 - ((w4l : Nat) : Int))) fun v47a v47l v47c S48 =>
 gO w1 fun p49 =>
 ldL S48 p49.1 (p49.2 + 6) fun v50a v50l v50c =>
 appendA 1 1 S48 v47a v47l v47c v50l (firstA S48 1 v50l (.sl v50a v50l v50c)) fun v51a v51l v51c S52 =>
 callL call 41 [(.sl v51a v51l v51c)] S52 fun v54a v54l v54c S53 =>
 some (.tup [(.sl v54a v54l v54c), (.int .i64 0)], S53)

def b8_entry (call : CallA) (n : Nat)  (l1_1_1_0_1_0 : Option Pos → Option Pos → Nat → Cap → Option Pos → Nat → Cap → Int → Int → AS → Option (AV × AS)) (x0 : List AV) (S : AS) : Option (AV × AS) :=
 ifO (x0.length = 7) <|
 newA S (.cells x0) fun b1 S2 =>
 ldI .u64 S2 (.rw b1) 0 fun v3 =>
 cond (v3 == 0) (
 some (.tup [(.sl none 0 (.ex 0)), (.int .i64 81)], S2)) (
 ldI .u64 S2 (.rw b1) 1 fun v4 =>
 cond (v4 == 0) (
 some (.tup [(.sl none 0 (.ex 0)), (.int .i64 81)], S2)) (
 ldI .u64 S2 (.rw b1) 3 fun v5 =>
 cond (v5 == 0) (
 some (.tup [(.sl none 0 (.ex 0)), (.int .i64 81)], S2)) (
 ldI .u64 S2 (.rw b1) 0 fun v6 =>
 ldI .u64 S2 (.rw b1) 1 fun v7 =>
 ldI .u64 S2 (.rw b1) 3 fun v8 =>
 ldI .u64 S2 (.rw b1) 2 fun v9 =>
 newA S2 (.cells [(.int .u64 v6), (.int .u64 v7), (.int .u64 v8), (.int .u64 v9)]) fun b10 S11 =>
 callB call 39 [(.sl (some (.rw b10, 0)) 4 (.ex 4))] S11 fun v13 S12 =>
 cond (!v13) (
 some (.tup [(.sl none 0 (.ex 0)), (.int .i64 81)], S12)) (
 ldI .i64 S12 (.rw b1) 5 fun v14 =>
 cond (decide (v14 < 1)) (
 some (.tup [(.sl none 0 (.ex 0)), (.int .i64 81)], S12)) (
 ldI .i64 S12 (.rw b1) 5 fun v15 =>
 cond (decide (v15 > 100)) (
 some (.tup [(.sl none 0 (.ex 0)), (.int .i64 81)], S12)) (
 ldI .i64 S12 (.rw b1) 4 fun v16 =>
 cond (decide (v16 < 0)) (
 some (.tup [(.sl none 0 (.ex 0)), (.int .i64 81)], S12)) (
 ldI .i64 S12 (.rw b1) 4 fun v17 =>
 ldI .i64 S12 (.rw b1) 5 fun v18 =>
 cond (decide (v17 ≥ v18)) (
 some (.tup [(.sl none 0 (.ex 0)), (.int .i64 81)], S12)) (
 ldL S12 (.rw b1) 6 fun v19a v19l v19c =>
 cond (((v19l : Nat) : Int) == 0) (
 some (.tup [(.sl none 0 (.ex 0)), (.int .i64 81)], S12)) (
 ldL S12 (.rw b1) 6 fun v20a v20l v20c =>
 cond (decide (((v20l : Nat) : Int) > 336)) (
 some (.tup [(.sl none 0 (.ex 0)), (.int .i64 81)], S12)) (
 newA S12 (.cells [(.int .u8 74), (.int .u8 76), (.int .u8 79), (.int .u8 71)]) fun b21 S22 =>
 convLL S22 (some (.rw b21, 0)) 4 (.ex 4) fun v24a v24l v24c S23 =>
 ldI .u64 S23 (.rw b1) 0 fun v25 =>
 ldI .u64 S23 (.rw b1) 1 fun v26 =>
 ldI .u64 S23 (.rw b1) 2 fun v27 =>
 ldI .u64 S23 (.rw b1) 3 fun v28 =>
 newA S23 (.cells [(.int .u64 v25), (.int .u64 v26), (.int .u64 v27), (.int .u64 v28)]) fun b29 S30 =>
 l1_1_1_0_1_0 (some ((.rw b1), 0)) v24a v24l v24c (some (.rw b29, 0)) 4 (.ex 4) ((4 : Nat) : Int) 0 S30))))))))))

def r8_l1_1_1_0_1_0 (call : CallA) (n : Nat)  (m : Nat) (w1 : Option Pos) (w4a : Option Pos) (w4l : Nat) (w4c : Cap) (w79a : Option Pos) (w79l : Nat) (w79c : Cap) (w80 : Int) (w81 : Int) (S : AS) : Option (AV × AS) := loopN (evC E call n 8 (E.at 8 [1, 1, 1, 0, 1, 0, 0]) 0) [1, 4, 79, 80, 81] m [(1, (.ptr w1)), (4, (.sl w4a w4l w4c)), (79, (.sl w79a w79l w79c)), (80, (.int .i64 w80)), (81, (.int .i64 w81))] S (kBlk 0 (kSeq E call n 8 (E.at 8 [1, 1, 1, 1]) 0 (retK E (E.fn 8))))
def r8_j1_1_1_1 (call : CallA) (n : Nat)  (w1 : Option Pos) (w4a : Option Pos) (w4l : Nat) (w4c : Cap) (S : AS) : Option (AV × AS) := evC E call n 8 (E.at 8 [1, 1, 1, 1]) 0 [(1, (.ptr w1)), (4, (.sl w4a w4l w4c))] S (retK E (E.fn 8))
def r8_l1_1_1_1_0_1_0 (call : CallA) (n : Nat)  (m : Nat) (w1 : Option Pos) (w4a : Option Pos) (w4l : Nat) (w4c : Cap) (w96a : Option Pos) (w96l : Nat) (w96c : Cap) (w97 : Int) (w98 : Int) (S : AS) : Option (AV × AS) := loopN (evC E call n 8 (E.at 8 [1, 1, 1, 1, 0, 1, 0, 0]) 2) [1, 4, 96, 97, 98] m [(1, (.ptr w1)), (4, (.sl w4a w4l w4c)), (96, (.sl w96a w96l w96c)), (97, (.int .i64 w97)), (98, (.int .i64 w98))] S (kBlk 2 (kSeq E call n 8 (E.at 8 [1, 1, 1, 1, 1]) 0 (retK E (E.fn 8))))
def r8_j1_1_1_1_1 (call : CallA) (n : Nat)  (w1 : Option Pos) (w4a : Option Pos) (w4l : Nat) (w4c : Cap) (S : AS) : Option (AV × AS) := evC E call n 8 (E.at 8 [1, 1, 1, 1, 1]) 0 [(1, (.ptr w1)), (4, (.sl w4a w4l w4c))] S (retK E (E.fn 8))
theorem a8_l1_1_1_0_1_0 (call : CallA) (n : Nat)  (m : Nat) (w1 : Option Pos) (w4a : Option Pos) (w4l : Nat) (w4c : Cap) (w79a : Option Pos) (w79l : Nat) (w79c : Cap) (w80 : Int) (w81 : Int) (S : AS) : r8_l1_1_1_0_1_0 call n  (m + 1) w1 w4a w4l w4c w79a w79l w79c w80 w81 S = b8_l1_1_1_0_1_0 call n (r8_l1_1_1_0_1_0 call n  m) (r8_j1_1_1_1 call n ) w1 w4a w4l w4c w79a w79l w79c w80 w81 S := by kernel_rfl
theorem a8_j1_1_1_1 (call : CallA) (n : Nat)  (w1 : Option Pos) (w4a : Option Pos) (w4l : Nat) (w4c : Cap) (S : AS) : r8_j1_1_1_1 call n  w1 w4a w4l w4c S = b8_j1_1_1_1 call n (r8_l1_1_1_1_0_1_0 call n  n) w1 w4a w4l w4c S := by kernel_rfl
theorem a8_l1_1_1_1_0_1_0 (call : CallA) (n : Nat)  (m : Nat) (w1 : Option Pos) (w4a : Option Pos) (w4l : Nat) (w4c : Cap) (w96a : Option Pos) (w96l : Nat) (w96c : Cap) (w97 : Int) (w98 : Int) (S : AS) : r8_l1_1_1_1_0_1_0 call n  (m + 1) w1 w4a w4l w4c w96a w96l w96c w97 w98 S = b8_l1_1_1_1_0_1_0 call n (r8_l1_1_1_1_0_1_0 call n  m) (r8_j1_1_1_1_1 call n ) w1 w4a w4l w4c w96a w96l w96c w97 w98 S := by kernel_rfl
theorem a8_j1_1_1_1_1 (call : CallA) (n : Nat)  (w1 : Option Pos) (w4a : Option Pos) (w4l : Nat) (w4c : Cap) (S : AS) : r8_j1_1_1_1_1 call n  w1 w4a w4l w4c S = b8_j1_1_1_1_1 call n  w1 w4a w4l w4c S := by kernel_rfl
theorem a8_entry (call : CallA) (n : Nat) (x0 : List AV) (S : AS) : evC E call n 8 (E.at 8 []) 0 (enumT 0 [(.agg x0)]) S (retK E (E.fn 8)) = b8_entry call n (r8_l1_1_1_0_1_0 call n  n) x0 S := by kernel_rfl
def J8_j1_1_1_1_1 (call : CallA) (n : Nat)  (w1 : Option Pos) (w4a : Option Pos) (w4l : Nat) (w4c : Cap) (S : AS) : Option (AV × AS) := b8_j1_1_1_1_1 call n  w1 w4a w4l w4c S
theorem h8_j1_1_1_1_1 (call : CallA) (n : Nat)  : r8_j1_1_1_1_1 call n  = J8_j1_1_1_1_1 call n  := by
  funext w1 w4a w4l w4c S
  rw [J8_j1_1_1_1_1, a8_j1_1_1_1_1]
def J8_l1_1_1_1_0_1_0 (call : CallA) (n : Nat)  (m : Nat) : Option Pos → Option Pos → Nat → Cap → Option Pos → Nat → Cap → Int → Int → AS → Option (AV × AS) := Nat.rec (motive := fun _ => Option Pos → Option Pos → Nat → Cap → Option Pos → Nat → Cap → Int → Int → AS → Option (AV × AS)) (fun _ _ _ _ _ _ _ _ _ _ => none) (fun mK ih w1 w4a w4l w4c w96a w96l w96c w97 w98 S => b8_l1_1_1_1_0_1_0 call n ih (J8_j1_1_1_1_1 call n ) w1 w4a w4l w4c w96a w96l w96c w97 w98 S) m
theorem J8_l1_1_1_1_0_1_0_succ (call : CallA) (n : Nat)  (m : Nat) (w1 : Option Pos) (w4a : Option Pos) (w4l : Nat) (w4c : Cap) (w96a : Option Pos) (w96l : Nat) (w96c : Cap) (w97 : Int) (w98 : Int) (S : AS) : J8_l1_1_1_1_0_1_0 call n  (m + 1) w1 w4a w4l w4c w96a w96l w96c w97 w98 S = b8_l1_1_1_1_0_1_0 call n (J8_l1_1_1_1_0_1_0 call n  m) (J8_j1_1_1_1_1 call n ) w1 w4a w4l w4c w96a w96l w96c w97 w98 S := rfl
theorem h8_l1_1_1_1_0_1_0 (call : CallA) (n : Nat)  (m : Nat) : r8_l1_1_1_1_0_1_0 call n  m = J8_l1_1_1_1_0_1_0 call n  m := by
  induction m with
  | zero => rfl
  | succ m ih =>
    funext w1 w4a w4l w4c w96a w96l w96c w97 w98 S
    rw [J8_l1_1_1_1_0_1_0_succ, a8_l1_1_1_1_0_1_0, h8_j1_1_1_1_1 call n , ih]
def J8_j1_1_1_1 (call : CallA) (n : Nat)  (w1 : Option Pos) (w4a : Option Pos) (w4l : Nat) (w4c : Cap) (S : AS) : Option (AV × AS) := b8_j1_1_1_1 call n (J8_l1_1_1_1_0_1_0 call n  n) w1 w4a w4l w4c S
theorem h8_j1_1_1_1 (call : CallA) (n : Nat)  : r8_j1_1_1_1 call n  = J8_j1_1_1_1 call n  := by
  funext w1 w4a w4l w4c S
  rw [J8_j1_1_1_1, a8_j1_1_1_1, h8_l1_1_1_1_0_1_0 call n  n]
def J8_l1_1_1_0_1_0 (call : CallA) (n : Nat)  (m : Nat) : Option Pos → Option Pos → Nat → Cap → Option Pos → Nat → Cap → Int → Int → AS → Option (AV × AS) := Nat.rec (motive := fun _ => Option Pos → Option Pos → Nat → Cap → Option Pos → Nat → Cap → Int → Int → AS → Option (AV × AS)) (fun _ _ _ _ _ _ _ _ _ _ => none) (fun mK ih w1 w4a w4l w4c w79a w79l w79c w80 w81 S => b8_l1_1_1_0_1_0 call n ih (J8_j1_1_1_1 call n ) w1 w4a w4l w4c w79a w79l w79c w80 w81 S) m
theorem J8_l1_1_1_0_1_0_succ (call : CallA) (n : Nat)  (m : Nat) (w1 : Option Pos) (w4a : Option Pos) (w4l : Nat) (w4c : Cap) (w79a : Option Pos) (w79l : Nat) (w79c : Cap) (w80 : Int) (w81 : Int) (S : AS) : J8_l1_1_1_0_1_0 call n  (m + 1) w1 w4a w4l w4c w79a w79l w79c w80 w81 S = b8_l1_1_1_0_1_0 call n (J8_l1_1_1_0_1_0 call n  m) (J8_j1_1_1_1 call n ) w1 w4a w4l w4c w79a w79l w79c w80 w81 S := rfl
theorem h8_l1_1_1_0_1_0 (call : CallA) (n : Nat)  (m : Nat) : r8_l1_1_1_0_1_0 call n  m = J8_l1_1_1_0_1_0 call n  m := by
  induction m with
  | zero => rfl
  | succ m ih =>
    funext w1 w4a w4l w4c w79a w79l w79c w80 w81 S
    rw [J8_l1_1_1_0_1_0_succ, a8_l1_1_1_0_1_0, h8_j1_1_1_1 call n , ih]
def J8 (call : CallA) (n : Nat) (x0 : List AV) (S : AS) : Option (AV × AS) := b8_entry call n (J8_l1_1_1_0_1_0 call n  n) x0 S
theorem run8 (o : Orc) (n : Nat) (args : List AV) (S : AS) (ho : o 8 args = none) : evF E o (n + 1) (.fn 8) args S = evC E (evF E o n) n 8 (E.at 8 []) 0 (enumT 0 args) S (retK E (E.fn 8)) := by
  rw [evF, ho]; kernel_rfl
theorem J8_eq (call : CallA) (n : Nat) (x0 : List AV) (S : AS) : evC E call n 8 (E.at 8 []) 0 (enumT 0 [(.agg x0)]) S (retK E (E.fn 8)) = J8 call n x0 S := by
  rw [J8, a8_entry, h8_l1_1_1_0_1_0 call n  n]
theorem F8 {o : Orc} (n : Nat) (x0 : List AV) (S : AS) (ho : ∀ args, o 8 args = none) : evF E o (n + 1) (.fn 8) [(.agg x0)] S = J8 (evF E o n) n x0 S := (run8 o n [(.agg x0)] S (ho _)).trans (J8_eq _ _ x0 S)
def b9_entry (call : CallA) (n : Nat)   (x0 : List AV) (S : AS) : Option (AV × AS) :=
 ifO (x0.length = 7) <|
 newA S (.cells x0) fun b1 S2 =>
 ldI .u64 S2 (.rw b1) 0 fun v3 =>
 cond (v3 == 0) (
 some (.tup [(.sl none 0 (.ex 0)), (.int .i64 81)], S2)) (
 ldI .u64 S2 (.rw b1) 1 fun v4 =>
 cond (v4 == 0) (
 some (.tup [(.sl none 0 (.ex 0)), (.int .i64 81)], S2)) (
 ldI .u64 S2 (.rw b1) 3 fun v5 =>
 cond (v5 == 0) (
 some (.tup [(.sl none 0 (.ex 0)), (.int .i64 81)], S2)) (
 ldI .u64 S2 (.rw b1) 0 fun v6 =>
 cond (decide (v6 > 4611686018427387904)) (
 some (.tup [(.sl none 0 (.ex 0)), (.int .i64 81)], S2)) (
 ldI .u64 S2 (.rw b1) 1 fun v7 =>
 cond (decide (v7 > 4611686018427387904)) (
 some (.tup [(.sl none 0 (.ex 0)), (.int .i64 81)], S2)) (
 ldI .u64 S2 (.rw b1) 3 fun v8 =>
 cond (decide (v8 > 4611686018427387904)) (
 some (.tup [(.sl none 0 (.ex 0)), (.int .i64 81)], S2)) (
 ldI .u64 S2 (.rw b1) 2 fun v9 =>
 cond (decide (v9 > 4611686018427387904)) (
 some (.tup [(.sl none 0 (.ex 0)), (.int .i64 81)], S2)) (
 ldI .i64 S2 (.rw b1) 5 fun v10 =>
 cond (decide (v10 < 1)) (
 some (.tup [(.sl none 0 (.ex 0)), (.int .i64 81)], S2)) (
 ldI .i64 S2 (.rw b1) 5 fun v11 =>
 cond (decide (v11 > 100)) (
 some (.tup [(.sl none 0 (.ex 0)), (.int .i64 81)], S2)) (
 ldI .i64 S2 (.rw b1) 4 fun v12 =>
 cond (decide (v12 < 0)) (
 some (.tup [(.sl none 0 (.ex 0)), (.int .i64 81)], S2)) (
 ldI .i64 S2 (.rw b1) 4 fun v13 =>
 ldI .i64 S2 (.rw b1) 5 fun v14 =>
 cond (decide (v13 ≥ v14)) (
 some (.tup [(.sl none 0 (.ex 0)), (.int .i64 81)], S2)) (
 ldL S2 (.rw b1) 6 fun v15a v15l v15c =>
 cond (decide (((v15l : Nat) : Int) < 1)) (
 some (.tup [(.sl none 0 (.ex 0)), (.int .i64 81)], S2)) (
 ldL S2 (.rw b1) 6 fun v16a v16l v16c =>
 cond (decide (((v16l : Nat) : Int) > 336)) (
 some (.tup [(.sl none 0 (.ex 0)), (.int .i64 81)], S2)) (
 drawA S2 9 fun b17 S18 =>
 layA S18 (b17 + 0) (.cells [(.int .u8 74), (.int .u8 76), (.int .u8 79), (.int .u8 71)]) fun S19 =>
 convLL S19 (some (.rw (b17 + 0), 0)) 4 (.ex 4) fun v21a v21l v21c S20 =>
 ldI .u64 S20 (.rw b1) 0 fun v22 =>
 ldI .u64 S18 (.rw b1) 0 fun v23 =>
 cond (AV.beq (.int .u64 v23) (.int .u64 v22)) (
 callL call 42 [(.sl v21a v21l v21c), (.int .u64 v22), (.int .i64 8)] S20 fun v25a v25l v25c S24 =>
 ldI .u64 S24 (.rw b1) 1 fun v26 =>
 ldI .u64 S20 (.rw b1) 1 fun v27 =>
 cond (AV.beq (.int .u64 v27) (.int .u64 v26)) (
 ldI .u64 S18 (.rw b1) 1 fun v28 =>
 cond (AV.beq (.int .u64 v28) (.int .u64 v26)) (
 callL call 42 [(.sl v25a v25l v25c), (.int .u64 v26), (.int .i64 8)] S24 fun v30a v30l v30c S29 =>
 ldI .u64 S29 (.rw b1) 2 fun v31 =>
 callL call 42 [(.sl v30a v30l v30c), (.int .u64 v31), (.int .i64 8)] S29 fun v33a v33l v33c S32 =>
 ldI .u64 S32 (.rw b1) 3 fun v34 =>
 ldI .u64 S29 (.rw b1) 3 fun v35 =>
 cond (AV.beq (.int .u64 v35) (.int .u64 v34)) (
 callL call 42 [(.sl v33a v33l v33c), (.int .u64 v34), (.int .i64 8)] S32 fun v37a v37l v37c S36 =>
 ldI .i64 S36 (.rw b1) 4 fun v38 =>
 callL call 42 [(.sl v37a v37l v37c), (.int .u64 (IntKind.wrap .u64 v38)), (.int .i64 2)] S36 fun v40a v40l v40c S39 =>
 ldI .i64 S39 (.rw b1) 5 fun v41 =>
 ldI .i64 S36 (.rw b1) 5 fun v42 =>
 cond (AV.beq (.int .i64 v42) (.int .i64 v41)) (
 callL call 42 [(.sl v40a v40l v40c), (.int .u64 (IntKind.wrap .u64 v41)), (.int .i64 2)] S39 fun v44a v44l v44c S43 =>
 ldL S43 (.rw b1) 6 fun v45a v45l v45c =>
 ldL S39 (.rw b1) 6 fun v46a v46l v46c =>
 cond (AV.beq (.sl v46a v46l v46c) (.sl v45a v45l v45c)) (
 ldL S36 (.rw b1) 6 fun v47a v47l v47c =>
 cond (AV.beq (.sl v47a v47l v47c) (.sl v45a v45l v45c)) (
 cond (AV.beq (.int .i64 ((v45l : Nat) : Int)) (.int .i64 ((v45l : Nat) : Int))) (
 cond (AV.beq (.int .i64 ((v45l : Nat) : Int)) (.int .i64 ((v45l : Nat) : Int))) (
 callL call 42 [(.sl v44a v44l v44c), (.int .u64 (IntKind.wrap .u64 ((v45l : Nat) : Int))), (.int .i64 2)] S43 fun v49a v49l v49c S48 =>
 appendZA 1 1 [(.int .u8 0)] S48 v49a v49l v49c 6 fun v50a v50l v50c S51 =>
 ldL S51 (.rw b1) 6 fun v52a v52l v52c =>
 ldL S48 (.rw b1) 6 fun v53a v53l v53c =>
 cond (AV.beq (.sl v53a v53l v53c) (.sl v52a v52l v52c)) (
 appendA 1 1 S51 v50a v50l v50c v52l (firstA S51 1 v52l (.sl v52a v52l v52c)) fun v54a v54l v54c S55 =>
 callL call 43 [(.sl v54a v54l v54c)] S55 fun v57a v57l v57c S56 =>
 some (.tup [(.sl v57a v57l v57c), (.int .i64 0)], S56)) none) none) none) none) none) none) none) none) none) none)))))))))))))

theorem a9_entry (call : CallA) (n : Nat) (x0 : List AV) (S : AS) : evC E call n 9 (E.at 9 []) 0 (enumT 0 [(.agg x0)]) S (retK E (E.fn 9)) = b9_entry call n  x0 S := by kernel_rfl
def J9 (call : CallA) (n : Nat) (x0 : List AV) (S : AS) : Option (AV × AS) := b9_entry call n  x0 S
theorem run9 (o : Orc) (n : Nat) (args : List AV) (S : AS) (ho : o 9 args = none) : evF E o (n + 1) (.fn 9) args S = evC E (evF E o n) n 9 (E.at 9 []) 0 (enumT 0 args) S (retK E (E.fn 9)) := by
  rw [evF, ho]; kernel_rfl
theorem J9_eq (call : CallA) (n : Nat) (x0 : List AV) (S : AS) : evC E call n 9 (E.at 9 []) 0 (enumT 0 [(.agg x0)]) S (retK E (E.fn 9)) = J9 call n x0 S := by
  rw [J9, a9_entry]
theorem F9 {o : Orc} (n : Nat) (x0 : List AV) (S : AS) (ho : ∀ args, o 9 args = none) : evF E o (n + 1) (.fn 9) [(.agg x0)] S = J9 (evF E o n) n x0 S := (run9 o n [(.agg x0)] S (ho _)).trans (J9_eq _ _ x0 S)
def b10_l1_1_1_1_0_1_0 (call : CallA) (n : Nat)  (l1_1_1_1_0_1_0 : Option Pos → Nat → Cap → Option Pos → Nat → Cap → Int → Int → AS → Option (AV × AS)) (j1_1_1_1_1 : Option Pos → Nat → Cap → AS → Option (AV × AS)) (w5a : Option Pos) (w5l : Nat) (w5c : Cap) (w36a : Option Pos) (w36l : Nat) (w36c : Cap) (w37 : Int) (w38 : Int) (S : AS) : Option (AV × AS) :=
 cond (decide (w38 < w37)) (
 ixSl 1 w36a w36l w38 fun p19 =>
 ldI .u64 S p19.1 p19.2 fun v20 =>
 callL call 40 [(.sl w5a w5l w5c), (.int .u64 v20), (.int .i64 8)] S fun v22a v22l v22c S21 =>
 l1_1_1_1_0_1_0 v22a v22l v22c w36a w36l w36c w37 (IntKind.wrap .i64 (w38 + 1)) S21) (
 j1_1_1_1_1 w5a w5l w5c S)

def b10_j1_1_1_1_1 (call : CallA) (n : Nat)   (w5a : Option Pos) (w5l : Nat) (w5c : Cap) (S : AS) : Option (AV × AS) :=
 callL call 41 [(.sl w5a w5l w5c)] S fun v24a v24l v24c S23 =>
 some (.tup [(.sl v24a v24l v24c), (.int .i64 0)], S23)

def b10_entry (call : CallA) (n : Nat)  (l1_1_1_1_0_1_0 : Option Pos → Nat → Cap → Option Pos → Nat → Cap → Int → Int → AS → Option (AV × AS)) (x0 : List AV) (S : AS) : Option (AV × AS) :=
 ifO (x0.length = 6) <|
 newA S (.cells x0) fun b1 S2 =>
 ldI .u64 S2 (.rw b1) 0 fun v3 =>
 ldI .u64 S2 (.rw b1) 1 fun v4 =>
 ldI .u64 S2 (.rw b1) 2 fun v5 =>
 ldI .u64 S2 (.rw b1) 3 fun v6 =>
 ldI .u64 S2 (.rw b1) 4 fun v7 =>
 ldI .u64 S2 (.rw b1) 5 fun v8 =>
 newA S2 (.cells [(.int .u64 v3), (.int .u64 v4), (.int .u64 v5), (.int .u64 v6), (.int .u64 v7), (.int .u64 v8)]) fun b9 S10 =>
 ldI .u64 S10 (.rw b1) 0 fun v11 =>
 cond (v11 == 0) (
 some (.tup [(.sl none 0 (.ex 0)), (.int .i64 81)], S10)) (
 ldI .u64 S10 (.rw b1) 1 fun v12 =>
 cond (v12 == 0) (
 some (.tup [(.sl none 0 (.ex 0)), (.int .i64 81)], S10)) (
 callB call 39 [(.sl (some (.rw b9, 0)) 6 (.ex 6))] S10 fun v14 S13 =>
 cond (!v14) (
 some (.tup [(.sl none 0 (.ex 0)), (.int .i64 81)], S13)) (
 newA S13 (.cells [(.int .u8 74), (.int .u8 83), (.int .u8 85), (.int .u8 80)]) fun b15 S16 =>
 convLL S16 (some (.rw b15, 0)) 4 (.ex 4) fun v18a v18l v18c S17 =>
 l1_1_1_1_0_1_0 v18a v18l v18c (some (.rw b9, 0)) 6 (.ex 6) ((6 : Nat) : Int) 0 S17)))

def r10_l1_1_1_1_0_1_0 (call : CallA) (n : Nat)  (m : Nat) (w5a : Option Pos) (w5l : Nat) (w5c : Cap) (w36a : Option Pos) (w36l : Nat) (w36c : Cap) (w37 : Int) (w38 : Int) (S : AS) : Option (AV × AS) := loopN (evC E call n 10 (E.at 10 [1, 1, 1, 1, 0, 1, 0, 0]) 0) [5, 36, 37, 38] m [(5, (.sl w5a w5l w5c)), (36, (.sl w36a w36l w36c)), (37, (.int .i64 w37)), (38, (.int .i64 w38))] S (kBlk 0 (kSeq E call n 10 (E.at 10 [1, 1, 1, 1, 1]) 0 (retK E (E.fn 10))))
def r10_j1_1_1_1_1 (call : CallA) (n : Nat)  (w5a : Option Pos) (w5l : Nat) (w5c : Cap) (S : AS) : Option (AV × AS) := evC E call n 10 (E.at 10 [1, 1, 1, 1, 1]) 0 [(5, (.sl w5a w5l w5c))] S (retK E (E.fn 10))
theorem a10_l1_1_1_1_0_1_0 (call : CallA) (n : Nat)  (m : Nat) (w5a : Option Pos) (w5l : Nat) (w5c : Cap) (w36a : Option Pos) (w36l : Nat) (w36c : Cap) (w37 : Int) (w38 : Int) (S : AS) : r10_l1_1_1_1_0_1_0 call n  (m + 1) w5a w5l w5c w36a w36l w36c w37 w38 S = b10_l1_1_1_1_0_1_0 call n (r10_l1_1_1_1_0_1_0 call n  m) (r10_j1_1_1_1_1 call n ) w5a w5l w5c w36a w36l w36c w37 w38 S := by kernel_rfl
theorem a10_j1_1_1_1_1 (call : CallA) (n : Nat)  (w5a : Option Pos) (w5l : Nat) (w5c : Cap) (S : AS) : r10_j1_1_1_1_1 call n  w5a w5l w5c S = b10_j1_1_1_1_1 call n  w5a w5l w5c S := by kernel_rfl
theorem a10_entry (call : CallA) (n : Nat) (x0 : List AV) (S : AS) : evC E call n 10 (E.at 10 []) 0 (enumT 0 [(.agg x0)]) S (retK E (E.fn 10)) = b10_entry call n (r10_l1_1_1_1_0_1_0 call n  n) x0 S := by kernel_rfl
def J10_j1_1_1_1_1 (call : CallA) (n : Nat)  (w5a : Option Pos) (w5l : Nat) (w5c : Cap) (S : AS) : Option (AV × AS) := b10_j1_1_1_1_1 call n  w5a w5l w5c S
theorem h10_j1_1_1_1_1 (call : CallA) (n : Nat)  : r10_j1_1_1_1_1 call n  = J10_j1_1_1_1_1 call n  := by
  funext w5a w5l w5c S
  rw [J10_j1_1_1_1_1, a10_j1_1_1_1_1]
def J10_l1_1_1_1_0_1_0 (call : CallA) (n : Nat)  (m : Nat) : Option Pos → Nat → Cap → Option Pos → Nat → Cap → Int → Int → AS → Option (AV × AS) := Nat.rec (motive := fun _ => Option Pos → Nat → Cap → Option Pos → Nat → Cap → Int → Int → AS → Option (AV × AS)) (fun _ _ _ _ _ _ _ _ _ => none) (fun mK ih w5a w5l w5c w36a w36l w36c w37 w38 S => b10_l1_1_1_1_0_1_0 call n ih (J10_j1_1_1_1_1 call n ) w5a w5l w5c w36a w36l w36c w37 w38 S) m
theorem J10_l1_1_1_1_0_1_0_succ (call : CallA) (n : Nat)  (m : Nat) (w5a : Option Pos) (w5l : Nat) (w5c : Cap) (w36a : Option Pos) (w36l : Nat) (w36c : Cap) (w37 : Int) (w38 : Int) (S : AS) : J10_l1_1_1_1_0_1_0 call n  (m + 1) w5a w5l w5c w36a w36l w36c w37 w38 S = b10_l1_1_1_1_0_1_0 call n (J10_l1_1_1_1_0_1_0 call n  m) (J10_j1_1_1_1_1 call n ) w5a w5l w5c w36a w36l w36c w37 w38 S := rfl
theorem h10_l1_1_1_1_0_1_0 (call : CallA) (n : Nat)  (m : Nat) : r10_l1_1_1_1_0_1_0 call n  m = J10_l1_1_1_1_0_1_0 call n  m := by
  induction m with
  | zero => rfl
  | succ m ih =>
    funext w5a w5l w5c w36a w36l w36c w37 w38 S
    rw [J10_l1_1_1_1_0_1_0_succ, a10_l1_1_1_1_0_1_0, h10_j1_1_1_1_1 call n , ih]
def J10 (call : CallA) (n : Nat) (x0 : List AV) (S : AS) : Option (AV × AS) := b10_entry call n (J10_l1_1_1_1_0_1_0 call n  n) x0 S
theorem run10 (o : Orc) (n : Nat) (args : List AV) (S : AS) (ho : o 10 args = none) : evF E o (n + 1) (.fn 10) args S = evC E (evF E o n) n 10 (E.at 10 []) 0 (enumT 0 args) S (retK E (E.fn 10)) := by
  rw [evF, ho]; kernel_rfl
theorem J10_eq (call : CallA) (n : Nat) (x0 : List AV) (S : AS) : evC E call n 10 (E.at 10 []) 0 (enumT 0 [(.agg x0)]) S (retK E (E.fn 10)) = J10 call n x0 S := by
  rw [J10, a10_entry, h10_l1_1_1_1_0_1_0 call n  n]
theorem F10 {o : Orc} (n : Nat) (x0 : List AV) (S : AS) (ho : ∀ args, o 10 args = none) : evF E o (n + 1) (.fn 10) [(.agg x0)] S = J10 (evF E o n) n x0 S := (run10 o n [(.agg x0)] S (ho _)).trans (J10_eq _ _ x0 S)
def b11_entry (call : CallA) (n : Nat)   (x0 : List AV) (S : AS) : Option (AV × AS) :=
 ifO (x0.length = 6) <|
 newA S (.cells x0) fun b1 S2 =>
 ldI .u64 S2 (.rw b1) 0 fun v3 =>
 cond (v3 == 0) (
 some (.tup [(.sl none 0 (.ex 0)), (.int .i64 81)], S2)) (
 ldI .u64 S2 (.rw b1) 1 fun v4 =>
 cond (v4 == 0) (
 some (.tup [(.sl none 0 (.ex 0)), (.int .i64 81)], S2)) (
 ldI .u64 S2 (.rw b1) 0 fun v5 =>
 cond (decide (v5 > 4611686018427387904)) (
 some (.tup [(.sl none 0 (.ex 0)), (.int .i64 81)], S2)) (
 ldI .u64 S2 (.rw b1) 1 fun v6 =>
 cond (decide (v6 > 4611686018427387904)) (
 some (.tup [(.sl none 0 (.ex 0)), (.int .i64 81)], S2)) (
 ldI .u64 S2 (.rw b1) 2 fun v7 =>
 cond (decide (v7 > 4611686018427387904)) (
 some (.tup [(.sl none 0 (.ex 0)), (.int .i64 81)], S2)) (
 ldI .u64 S2 (.rw b1) 3 fun v8 =>
 cond (decide (v8 > 4611686018427387904)) (
 some (.tup [(.sl none 0 (.ex 0)), (.int .i64 81)], S2)) (
 ldI .u64 S2 (.rw b1) 4 fun v9 =>
 cond (decide (v9 > 4611686018427387904)) (
 some (.tup [(.sl none 0 (.ex 0)), (.int .i64 81)], S2)) (
 ldI .u64 S2 (.rw b1) 5 fun v10 =>
 cond (decide (v10 > 4611686018427387904)) (
 some (.tup [(.sl none 0 (.ex 0)), (.int .i64 81)], S2)) (
 drawA S2 9 fun b11 S12 =>
 layA S12 (b11 + 0) (.cells [(.int .u8 74), (.int .u8 83), (.int .u8 85), (.int .u8 80)]) fun S13 =>
 convLL S13 (some (.rw (b11 + 0), 0)) 4 (.ex 4) fun v15a v15l v15c S14 =>
 ldI .u64 S14 (.rw b1) 0 fun v16 =>
 ldI .u64 S12 (.rw b1) 0 fun v17 =>
 cond (AV.beq (.int .u64 v17) (.int .u64 v16)) (
 callL call 42 [(.sl v15a v15l v15c), (.int .u64 v16), (.int .i64 8)] S14 fun v19a v19l v19c S18 =>
 ldI .u64 S18 (.rw b1) 1 fun v20 =>
 ldI .u64 S14 (.rw b1) 1 fun v21 =>
 cond (AV.beq (.int .u64 v21) (.int .u64 v20)) (
 ldI .u64 S12 (.rw b1) 1 fun v22 =>
 cond (AV.beq (.int .u64 v22) (.int .u64 v20)) (
 callL call 42 [(.sl v19a v19l v19c), (.int .u64 v20), (.int .i64 8)] S18 fun v24a v24l v24c S23 =>
 ldI .u64 S23 (.rw b1) 2 fun v25 =>
 callL call 42 [(.sl v24a v24l v24c), (.int .u64 v25), (.int .i64 8)] S23 fun v27a v27l v27c S26 =>
 ldI .u64 S26 (.rw b1) 3 fun v28 =>
 ldI .u64 S23 (.rw b1) 3 fun v29 =>
 cond (AV.beq (.int .u64 v29) (.int .u64 v28)) (
 callL call 42 [(.sl v27a v27l v27c), (.int .u64 v28), (.int .i64 8)] S26 fun v31a v31l v31c S30 =>
 ldI .u64 S30 (.rw b1) 4 fun v32 =>
 callL call 42 [(.sl v31a v31l v31c), (.int .u64 v32), (.int .i64 8)] S30 fun v34a v34l v34c S33 =>
 ldI .u64 S33 (.rw b1) 5 fun v35 =>
 ldI .u64 S30 (.rw b1) 5 fun v36 =>
 cond (AV.beq (.int .u64 v36) (.int .u64 v35)) (
 callL call 42 [(.sl v34a v34l v34c), (.int .u64 v35), (.int .i64 8)] S33 fun v38a v38l v38c S37 =>
 callL call 43 [(.sl v38a v38l v38c)] S37 fun v40a v40l v40c S39 =>
 some (.tup [(.sl v40a v40l v40c), (.int .i64 0)], S39)) none) none) none) none) none))))))))

theorem a11_entry (call : CallA) (n : Nat) (x0 : List AV) (S : AS) : evC E call n 11 (E.at 11 []) 0 (enumT 0 [(.agg x0)]) S (retK E (E.fn 11)) = b11_entry call n  x0 S := by kernel_rfl
def J11 (call : CallA) (n : Nat) (x0 : List AV) (S : AS) : Option (AV × AS) := b11_entry call n  x0 S
theorem run11 (o : Orc) (n : Nat) (args : List AV) (S : AS) (ho : o 11 args = none) : evF E o (n + 1) (.fn 11) args S = evC E (evF E o n) n 11 (E.at 11 []) 0 (enumT 0 args) S (retK E (E.fn 11)) := by
  rw [evF, ho]; kernel_rfl
theorem J11_eq (call : CallA) (n : Nat) (x0 : List AV) (S : AS) : evC E call n 11 (E.at 11 []) 0 (enumT 0 [(.agg x0)]) S (retK E (E.fn 11)) = J11 call n x0 S := by
  rw [J11, a11_entry]
theorem F11 {o : Orc} (n : Nat) (x0 : List AV) (S : AS) (ho : ∀ args, o 11 args = none) : evF E o (n + 1) (.fn 11) [(.agg x0)] S = J11 (evF E o n) n x0 S := (run11 o n [(.agg x0)] S (ho _)).trans (J11_eq _ _ x0 S)
def b12_l1_1_1_0_1_0 (call : CallA) (n : Nat)  (l1_1_1_0_1_0 : Option Pos → Nat → Cap → Int → Option Pos → Nat → Cap → Option Pos → Nat → Cap → Int → Int → AS → Option (AV × AS)) (j1_1_1_1 : Option Pos → Nat → Cap → AS → Option (AV × AS)) (w2a : Option Pos) (w2l : Nat) (w2c : Cap) (w3 : Int) (w4a : Option Pos) (w4l : Nat) (w4c : Cap) (w19a : Option Pos) (w19l : Nat) (w19c : Cap) (w20 : Int) (w21 : Int) (S : AS) : Option (AV × AS) :=
 cond (decide (w21 < w20)) (
 ixSl 2 w19a w19l w21 fun p3 =>
 S.ldn p3.1 p3.2 2 fun g4 =>
 newA S (.cells [(.int .i64 0), (.sl none 0 (.ex 0))]) fun b5 S6 =>
 ifO (g4.length = 2) <|
 S6.stn (.rw b5) 0 g4 fun S7 =>
 ldI .i64 S7 (.rw b5) 0 fun v8 =>
 cond (decide (v8 < 0)) (
 some (.tup [(.sl none 0 (.ex 0)), (.int .i64 82)], S7)) (
 ldI .i64 S7 (.rw b5) 0 fun v9 =>
 cond (decide (v9 ≥ 2147483648)) (
 some (.tup [(.sl none 0 (.ex 0)), (.int .i64 82)], S7)) (
 ldL S7 (.rw b5) 1 fun v10a v10l v10c =>
 cond (((v10l : Nat) : Int) != 384) (
 some (.tup [(.sl none 0 (.ex 0)), (.int .i64 82)], S7)) (
 ldI .i64 S7 (.rw b5) 0 fun v11 =>
 callL call 40 [(.sl w4a w4l w4c), (.int .u64 (IntKind.wrap .u64 v11)), (.int .i64 4)] S7 fun v13a v13l v13c S12 =>
 ldL S12 (.rw b5) 1 fun v14a v14l v14c =>
 ldL S7 (.rw b5) 1 fun v15a v15l v15c =>
 cond (AV.beq (.sl v15a v15l v15c) (.sl v14a v14l v14c)) (
 appendA 1 1 S12 v13a v13l v13c v14l (firstA S12 1 v14l (.sl v14a v14l v14c)) fun v16a v16l v16c S17 =>
 l1_1_1_0_1_0 w2a w2l w2c w3 v16a v16l v16c w19a w19l w19c w20 (IntKind.wrap .i64 (w21 + 1)) S17) none)))) (
 j1_1_1_1 w4a w4l w4c S)

def b12_j1_1_1_1 (call : CallA) (n : Nat)   (w4a : Option Pos) (w4l : Nat) (w4c : Cap) (S : AS) : Option (AV × AS) :=
 some (.tup [(.sl w4a w4l w4c), (.int .i64 0)], S)

def b12_entry (call : CallA) (n : Nat)  (l1_1_1_0_1_0 : Option Pos → Nat → Cap → Int → Option Pos → Nat → Cap → Option Pos → Nat → Cap → Int → Int → AS → Option (AV × AS)) (x0a : Option Pos) (x0l : Nat) (x0c : Cap) (S : AS) : Option (AV × AS) :=
 cond (((x0l : Nat) : Int) == 0) (
 some (.tup [(.sl none 0 (.ex 0)), (.int .i64 82)], S)) (
 cond (decide (((x0l : Nat) : Int) > 64)) (
 some (.tup [(.sl none 0 (.ex 0)), (.int .i64 82)], S)) (
 callL call 40 [(.sl none 0 (.ex 0)), (.int .u64 (IntKind.wrap .u64 ((x0l : Nat) : Int))), (.int .i64 4)] S fun v2a v2l v2c S1 =>
 l1_1_1_0_1_0 none 0 (.ex 0) 0 v2a v2l v2c x0a x0l x0c ((x0l : Nat) : Int) 0 S1))

def r12_l1_1_1_0_1_0 (call : CallA) (n : Nat)  (m : Nat) (w2a : Option Pos) (w2l : Nat) (w2c : Cap) (w3 : Int) (w4a : Option Pos) (w4l : Nat) (w4c : Cap) (w19a : Option Pos) (w19l : Nat) (w19c : Cap) (w20 : Int) (w21 : Int) (S : AS) : Option (AV × AS) := loopN (evC E call n 12 (E.at 12 [1, 1, 1, 0, 1, 0, 0]) 0) [2, 3, 4, 19, 20, 21] m [(2, (.sl w2a w2l w2c)), (3, (.int .i64 w3)), (4, (.sl w4a w4l w4c)), (19, (.sl w19a w19l w19c)), (20, (.int .i64 w20)), (21, (.int .i64 w21))] S (kBlk 0 (kSeq E call n 12 (E.at 12 [1, 1, 1, 1]) 0 (retK E (E.fn 12))))
def r12_j1_1_1_1 (call : CallA) (n : Nat)  (w4a : Option Pos) (w4l : Nat) (w4c : Cap) (S : AS) : Option (AV × AS) := evC E call n 12 (E.at 12 [1, 1, 1, 1]) 0 [(4, (.sl w4a w4l w4c))] S (retK E (E.fn 12))
theorem a12_l1_1_1_0_1_0 (call : CallA) (n : Nat)  (m : Nat) (w2a : Option Pos) (w2l : Nat) (w2c : Cap) (w3 : Int) (w4a : Option Pos) (w4l : Nat) (w4c : Cap) (w19a : Option Pos) (w19l : Nat) (w19c : Cap) (w20 : Int) (w21 : Int) (S : AS) : r12_l1_1_1_0_1_0 call n  (m + 1) w2a w2l w2c w3 w4a w4l w4c w19a w19l w19c w20 w21 S = b12_l1_1_1_0_1_0 call n (r12_l1_1_1_0_1_0 call n  m) (r12_j1_1_1_1 call n ) w2a w2l w2c w3 w4a w4l w4c w19a w19l w19c w20 w21 S := by kernel_rfl
theorem a12_j1_1_1_1 (call : CallA) (n : Nat)  (w4a : Option Pos) (w4l : Nat) (w4c : Cap) (S : AS) : r12_j1_1_1_1 call n  w4a w4l w4c S = b12_j1_1_1_1 call n  w4a w4l w4c S := by kernel_rfl
theorem a12_entry (call : CallA) (n : Nat) (x0a : Option Pos) (x0l : Nat) (x0c : Cap) (S : AS) : evC E call n 12 (E.at 12 []) 0 (enumT 0 [(.sl x0a x0l x0c)]) S (retK E (E.fn 12)) = b12_entry call n (r12_l1_1_1_0_1_0 call n  n) x0a x0l x0c S := by kernel_rfl
def J12_j1_1_1_1 (call : CallA) (n : Nat)  (w4a : Option Pos) (w4l : Nat) (w4c : Cap) (S : AS) : Option (AV × AS) := b12_j1_1_1_1 call n  w4a w4l w4c S
theorem h12_j1_1_1_1 (call : CallA) (n : Nat)  : r12_j1_1_1_1 call n  = J12_j1_1_1_1 call n  := by
  funext w4a w4l w4c S
  rw [J12_j1_1_1_1, a12_j1_1_1_1]
def J12_l1_1_1_0_1_0 (call : CallA) (n : Nat)  (m : Nat) : Option Pos → Nat → Cap → Int → Option Pos → Nat → Cap → Option Pos → Nat → Cap → Int → Int → AS → Option (AV × AS) := Nat.rec (motive := fun _ => Option Pos → Nat → Cap → Int → Option Pos → Nat → Cap → Option Pos → Nat → Cap → Int → Int → AS → Option (AV × AS)) (fun _ _ _ _ _ _ _ _ _ _ _ _ _ => none) (fun mK ih w2a w2l w2c w3 w4a w4l w4c w19a w19l w19c w20 w21 S => b12_l1_1_1_0_1_0 call n ih (J12_j1_1_1_1 call n ) w2a w2l w2c w3 w4a w4l w4c w19a w19l w19c w20 w21 S) m
theorem J12_l1_1_1_0_1_0_succ (call : CallA) (n : Nat)  (m : Nat) (w2a : Option Pos) (w2l : Nat) (w2c : Cap) (w3 : Int) (w4a : Option Pos) (w4l : Nat) (w4c : Cap) (w19a : Option Pos) (w19l : Nat) (w19c : Cap) (w20 : Int) (w21 : Int) (S : AS) : J12_l1_1_1_0_1_0 call n  (m + 1) w2a w2l w2c w3 w4a w4l w4c w19a w19l w19c w20 w21 S = b12_l1_1_1_0_1_0 call n (J12_l1_1_1_0_1_0 call n  m) (J12_j1_1_1_1 call n ) w2a w2l w2c w3 w4a w4l w4c w19a w19l w19c w20 w21 S := rfl
theorem h12_l1_1_1_0_1_0 (call : CallA) (n : Nat)  (m : Nat) : r12_l1_1_1_0_1_0 call n  m = J12_l1_1_1_0_1_0 call n  m := by
  induction m with
  | zero => rfl
  | succ m ih =>
    funext w2a w2l w2c w3 w4a w4l w4c w19a w19l w19c w20 w21 S
    rw [J12_l1_1_1_0_1_0_succ, a12_l1_1_1_0_1_0, h12_j1_1_1_1 call n , ih]
def J12 (call : CallA) (n : Nat) (x0a : Option Pos) (x0l : Nat) (x0c : Cap) (S : AS) : Option (AV × AS) := b12_entry call n (J12_l1_1_1_0_1_0 call n  n) x0a x0l x0c S
theorem run12 (o : Orc) (n : Nat) (args : List AV) (S : AS) (ho : o 12 args = none) : evF E o (n + 1) (.fn 12) args S = evC E (evF E o n) n 12 (E.at 12 []) 0 (enumT 0 args) S (retK E (E.fn 12)) := by
  rw [evF, ho]; kernel_rfl
theorem J12_eq (call : CallA) (n : Nat) (x0a : Option Pos) (x0l : Nat) (x0c : Cap) (S : AS) : evC E call n 12 (E.at 12 []) 0 (enumT 0 [(.sl x0a x0l x0c)]) S (retK E (E.fn 12)) = J12 call n x0a x0l x0c S := by
  rw [J12, a12_entry, h12_l1_1_1_0_1_0 call n  n]
theorem F12 {o : Orc} (n : Nat) (x0a : Option Pos) (x0l : Nat) (x0c : Cap) (S : AS) (ho : ∀ args, o 12 args = none) : evF E o (n + 1) (.fn 12) [(.sl x0a x0l x0c)] S = J12 (evF E o n) n x0a x0l x0c S := (run12 o n [(.sl x0a x0l x0c)] S (ho _)).trans (J12_eq _ _ x0a x0l x0c S)
def b13_l1_1_0_1_0 (call : CallA) (n : Nat)  (l1_1_0_1_0 : Option Pos → Nat → Cap → Option Pos → Nat → Cap → Int → AS → Option (AV × AS)) (w0a : Option Pos) (w0l : Nat) (w0c : Cap) (w3a : Option Pos) (w3l : Nat) (w3c : Cap) (w4 : Int) (S : AS) : Option (AV × AS) :=
 cond (decide (w4 < ((w0l : Nat) : Int))) (
 drawA S 17 fun b1 S2 =>
 ixSl 2 w0a w0l w4 fun p3 =>
 ldI .i64 S2 p3.1 p3.2 fun v4 =>
 ixSl 2 w0a w0l w4 fun p5 =>
 ldL S2 p5.1 (p5.2 + 1) fun v6a v6l v6c =>
 layA S2 (b1 + 6) (.cells []) fun S7 =>
 appendA 1 1 S7 (some (.rw (b1 + 6), 0)) 0 (.ex 0) v6l (firstA S7 1 v6l (.sl v6a v6l v6c)) fun v8a v8l v8c S9 =>
 ldI .i64 S9 p3.1 p3.2 fun v10 =>
 cond (AV.beq (.int .i64 v10) (.int .i64 v4)) (
 layA S9 (b1 + 14) (.cells [(.int .i64 v4), (.sl v8a v8l v8c)]) fun S11 =>
 appendA 2 32 S11 w3a w3l w3c 1 (firstA S11 2 1 (.sl (some (.rw (b1 + 14), 0)) 1 (.ex 1))) fun v12a v12l v12c S13 =>
 l1_1_0_1_0 w0a w0l w0c v12a v12l v12c (IntKind.wrap .i64 (w4 + 1)) S13) none) (
 some ((.sl w3a w3l w3c), S))

def b13_entry (call : CallA) (n : Nat)  (l1_1_0_1_0 : Option Pos → Nat → Cap → Option Pos → Nat → Cap → Int → AS → Option (AV × AS)) (x0a : Option Pos) (x0l : Nat) (x0c : Cap) (S : AS) : Option (AV × AS) :=
 l1_1_0_1_0 x0a x0l x0c none 0 (.ex 0) 0 S

def r13_l1_1_0_1_0 (call : CallA) (n : Nat)  (m : Nat) (w0a : Option Pos) (w0l : Nat) (w0c : Cap) (w3a : Option Pos) (w3l : Nat) (w3c : Cap) (w4 : Int) (S : AS) : Option (AV × AS) := loopN (evC E call n 13 (E.at 13 [1, 1, 0, 1, 0, 0]) 0) [0, 3, 4] m [(0, (.sl w0a w0l w0c)), (3, (.sl w3a w3l w3c)), (4, (.int .i64 w4))] S (kBlk 0 (kSeq E call n 13 (E.at 13 [1, 1, 1]) 0 (retK E (E.fn 13))))
theorem a13_l1_1_0_1_0 (call : CallA) (n : Nat)  (m : Nat) (w0a : Option Pos) (w0l : Nat) (w0c : Cap) (w3a : Option Pos) (w3l : Nat) (w3c : Cap) (w4 : Int) (S : AS) : r13_l1_1_0_1_0 call n  (m + 1) w0a w0l w0c w3a w3l w3c w4 S = b13_l1_1_0_1_0 call n (r13_l1_1_0_1_0 call n  m) w0a w0l w0c w3a w3l w3c w4 S := by kernel_rfl
theorem a13_entry (call : CallA) (n : Nat) (x0a : Option Pos) (x0l : Nat) (x0c : Cap) (S : AS) : evC E call n 13 (E.at 13 []) 0 (enumT 0 [(.sl x0a x0l x0c)]) S (retK E (E.fn 13)) = b13_entry call n (r13_l1_1_0_1_0 call n  n) x0a x0l x0c S := by kernel_rfl
def J13_l1_1_0_1_0 (call : CallA) (n : Nat)  (m : Nat) : Option Pos → Nat → Cap → Option Pos → Nat → Cap → Int → AS → Option (AV × AS) := Nat.rec (motive := fun _ => Option Pos → Nat → Cap → Option Pos → Nat → Cap → Int → AS → Option (AV × AS)) (fun _ _ _ _ _ _ _ _ => none) (fun mK ih w0a w0l w0c w3a w3l w3c w4 S => b13_l1_1_0_1_0 call n ih w0a w0l w0c w3a w3l w3c w4 S) m
theorem J13_l1_1_0_1_0_succ (call : CallA) (n : Nat)  (m : Nat) (w0a : Option Pos) (w0l : Nat) (w0c : Cap) (w3a : Option Pos) (w3l : Nat) (w3c : Cap) (w4 : Int) (S : AS) : J13_l1_1_0_1_0 call n  (m + 1) w0a w0l w0c w3a w3l w3c w4 S = b13_l1_1_0_1_0 call n (J13_l1_1_0_1_0 call n  m) w0a w0l w0c w3a w3l w3c w4 S := rfl
theorem h13_l1_1_0_1_0 (call : CallA) (n : Nat)  (m : Nat) : r13_l1_1_0_1_0 call n  m = J13_l1_1_0_1_0 call n  m := by
  induction m with
  | zero => rfl
  | succ m ih =>
    funext w0a w0l w0c w3a w3l w3c w4 S
    rw [J13_l1_1_0_1_0_succ, a13_l1_1_0_1_0, ih]
def J13 (call : CallA) (n : Nat) (x0a : Option Pos) (x0l : Nat) (x0c : Cap) (S : AS) : Option (AV × AS) := b13_entry call n (J13_l1_1_0_1_0 call n  n) x0a x0l x0c S
theorem run13 (o : Orc) (n : Nat) (args : List AV) (S : AS) (ho : o 13 args = none) : evF E o (n + 1) (.fn 13) args S = evC E (evF E o n) n 13 (E.at 13 []) 0 (enumT 0 args) S (retK E (E.fn 13)) := by
  rw [evF, ho]; kernel_rfl
theorem J13_eq (call : CallA) (n : Nat) (x0a : Option Pos) (x0l : Nat) (x0c : Cap) (S : AS) : evC E call n 13 (E.at 13 []) 0 (enumT 0 [(.sl x0a x0l x0c)]) S (retK E (E.fn 13)) = J13 call n x0a x0l x0c S := by
  rw [J13, a13_entry, h13_l1_1_0_1_0 call n  n]
theorem F13 {o : Orc} (n : Nat) (x0a : Option Pos) (x0l : Nat) (x0c : Cap) (S : AS) (ho : ∀ args, o 13 args = none) : evF E o (n + 1) (.fn 13) [(.sl x0a x0l x0c)] S = J13 (evF E o n) n x0a x0l x0c S := (run13 o n [(.sl x0a x0l x0c)] S (ho _)).trans (J13_eq _ _ x0a x0l x0c S)
def b14_l1_1_1_0_1_0 (call : CallA) (n : Nat)  (l1_1_1_0_1_0 : Option Pos → Nat → Cap → Option Pos → Nat → Cap → Int → Option Pos → Nat → Cap → Int → AS → Option (AV × AS)) (j1_1_1_1 : Option Pos → Nat → Cap → AS → Option (AV × AS)) (w0a : Option Pos) (w0l : Nat) (w0c : Cap) (w2a : Option Pos) (w2l : Nat) (w2c : Cap) (w3 : Int) (w4a : Option Pos) (w4l : Nat) (w4c : Cap) (w5 : Int) (S : AS) : Option (AV × AS) :=
 cond (decide (w5 < ((w0l : Nat) : Int))) (
 ixSl 2 w0a w0l w5 fun p3 =>
 ldI .i64 S p3.1 p3.2 fun v4 =>
 cond (decide (v4 < 0)) (
 some (.tup [(.sl none 0 (.ex 0)), (.int .i64 82)], S)) (
 ixSl 2 w0a w0l w5 fun p5 =>
 ldI .i64 S p5.1 p5.2 fun v6 =>
 cond (decide (v6 > 2147483647)) (
 some (.tup [(.sl none 0 (.ex 0)), (.int .i64 82)], S)) (
 ixSl 2 w0a w0l w5 fun p7 =>
 ldL S p7.1 (p7.2 + 1) fun v8a v8l v8c =>
 cond (((v8l : Nat) : Int) != 384) (
 some (.tup [(.sl none 0 (.ex 0)), (.int .i64 82)], S)) (
 ixSl 2 w0a w0l w5 fun p9 =>
 ldI .i64 S p9.1 p9.2 fun v10 =>
 callL call 42 [(.sl w4a w4l w4c), (.int .u64 (IntKind.wrap .u64 v10)), (.int .i64 4)] S fun v12a v12l v12c S11 =>
 ixSl 2 w0a w0l w5 fun p13 =>
 ldL S11 p13.1 (p13.2 + 1) fun v14a v14l v14c =>
 ldL S p13.1 (p13.2 + 1) fun v15a v15l v15c =>
 cond (AV.beq (.sl v15a v15l v15c) (.sl v14a v14l v14c)) (
 appendA 1 1 S11 v12a v12l v12c v14l (firstA S11 1 v14l (.sl v14a v14l v14c)) fun v16a v16l v16c S17 =>
 l1_1_1_0_1_0 w0a w0l w0c w2a w2l w2c w3 v16a v16l v16c (IntKind.wrap .i64 (w5 + 1)) S17) none)))) (
 j1_1_1_1 w4a w4l w4c S)

def b14_j1_1_1_1 (call : CallA) (n : Nat)   (w4a : Option Pos) (w4l : Nat) (w4c : Cap) (S : AS) : Option (AV × AS) :=
 some (.tup [(.sl w4a w4l w4c), (.int .i64 0)], S)

def b14_entry (call : CallA) (n : Nat)  (l1_1_1_0_1_0 : Option Pos → Nat → Cap → Option Pos → Nat → Cap → Int → Option Pos → Nat → Cap → Int → AS → Option (AV × AS)) (x0a : Option Pos) (x0l : Nat) (x0c : Cap) (S : AS) : Option (AV × AS) :=
 cond (decide (((x0l : Nat) : Int) < 1)) (
 some (.tup [(.sl none 0 (.ex 0)), (.int .i64 82)], S)) (
 cond (decide (((x0l : Nat) : Int) > 64)) (
 some (.tup [(.sl none 0 (.ex 0)), (.int .i64 82)], S)) (
 callL call 42 [(.sl none 0 (.ex 0)), (.int .u64 (IntKind.wrap .u64 ((x0l : Nat) : Int))), (.int .i64 4)] S fun v2a v2l v2c S1 =>
 l1_1_1_0_1_0 x0a x0l x0c none 0 (.ex 0) 0 v2a v2l v2c 0 S1))

def r14_l1_1_1_0_1_0 (call : CallA) (n : Nat)  (m : Nat) (w0a : Option Pos) (w0l : Nat) (w0c : Cap) (w2a : Option Pos) (w2l : Nat) (w2c : Cap) (w3 : Int) (w4a : Option Pos) (w4l : Nat) (w4c : Cap) (w5 : Int) (S : AS) : Option (AV × AS) := loopN (evC E call n 14 (E.at 14 [1, 1, 1, 0, 1, 0, 0]) 0) [0, 2, 3, 4, 5] m [(0, (.sl w0a w0l w0c)), (2, (.sl w2a w2l w2c)), (3, (.int .i64 w3)), (4, (.sl w4a w4l w4c)), (5, (.int .i64 w5))] S (kBlk 0 (kSeq E call n 14 (E.at 14 [1, 1, 1, 1]) 0 (retK E (E.fn 14))))
def r14_j1_1_1_1 (call : CallA) (n : Nat)  (w4a : Option Pos) (w4l : Nat) (w4c : Cap) (S : AS) : Option (AV × AS) := evC E call n 14 (E.at 14 [1, 1, 1, 1]) 0 [(4, (.sl w4a w4l w4c))] S (retK E (E.fn 14))
theorem a14_l1_1_1_0_1_0 (call : CallA) (n : Nat)  (m : Nat) (w0a : Option Pos) (w0l : Nat) (w0c : Cap) (w2a : Option Pos) (w2l : Nat) (w2c : Cap) (w3 : Int) (w4a : Option Pos) (w4l : Nat) (w4c : Cap) (w5 : Int) (S : AS) : r14_l1_1_1_0_1_0 call n  (m + 1) w0a w0l w0c w2a w2l w2c w3 w4a w4l w4c w5 S = b14_l1_1_1_0_1_0 call n (r14_l1_1_1_0_1_0 call n  m) (r14_j1_1_1_1 call n ) w0a w0l w0c w2a w2l w2c w3 w4a w4l w4c w5 S := by kernel_rfl
theorem a14_j1_1_1_1 (call : CallA) (n : Nat)  (w4a : Option Pos) (w4l : Nat) (w4c : Cap) (S : AS) : r14_j1_1_1_1 call n  w4a w4l w4c S = b14_j1_1_1_1 call n  w4a w4l w4c S := by kernel_rfl
theorem a14_entry (call : CallA) (n : Nat) (x0a : Option Pos) (x0l : Nat) (x0c : Cap) (S : AS) : evC E call n 14 (E.at 14 []) 0 (enumT 0 [(.sl x0a x0l x0c)]) S (retK E (E.fn 14)) = b14_entry call n (r14_l1_1_1_0_1_0 call n  n) x0a x0l x0c S := by kernel_rfl
def J14_j1_1_1_1 (call : CallA) (n : Nat)  (w4a : Option Pos) (w4l : Nat) (w4c : Cap) (S : AS) : Option (AV × AS) := b14_j1_1_1_1 call n  w4a w4l w4c S
theorem h14_j1_1_1_1 (call : CallA) (n : Nat)  : r14_j1_1_1_1 call n  = J14_j1_1_1_1 call n  := by
  funext w4a w4l w4c S
  rw [J14_j1_1_1_1, a14_j1_1_1_1]
def J14_l1_1_1_0_1_0 (call : CallA) (n : Nat)  (m : Nat) : Option Pos → Nat → Cap → Option Pos → Nat → Cap → Int → Option Pos → Nat → Cap → Int → AS → Option (AV × AS) := Nat.rec (motive := fun _ => Option Pos → Nat → Cap → Option Pos → Nat → Cap → Int → Option Pos → Nat → Cap → Int → AS → Option (AV × AS)) (fun _ _ _ _ _ _ _ _ _ _ _ _ => none) (fun mK ih w0a w0l w0c w2a w2l w2c w3 w4a w4l w4c w5 S => b14_l1_1_1_0_1_0 call n ih (J14_j1_1_1_1 call n ) w0a w0l w0c w2a w2l w2c w3 w4a w4l w4c w5 S) m
theorem J14_l1_1_1_0_1_0_succ (call : CallA) (n : Nat)  (m : Nat) (w0a : Option Pos) (w0l : Nat) (w0c : Cap) (w2a : Option Pos) (w2l : Nat) (w2c : Cap) (w3 : Int) (w4a : Option Pos) (w4l : Nat) (w4c : Cap) (w5 : Int) (S : AS) : J14_l1_1_1_0_1_0 call n  (m + 1) w0a w0l w0c w2a w2l w2c w3 w4a w4l w4c w5 S = b14_l1_1_1_0_1_0 call n (J14_l1_1_1_0_1_0 call n  m) (J14_j1_1_1_1 call n ) w0a w0l w0c w2a w2l w2c w3 w4a w4l w4c w5 S := rfl
theorem h14_l1_1_1_0_1_0 (call : CallA) (n : Nat)  (m : Nat) : r14_l1_1_1_0_1_0 call n  m = J14_l1_1_1_0_1_0 call n  m := by
  induction m with
  | zero => rfl
  | succ m ih =>
    funext w0a w0l w0c w2a w2l w2c w3 w4a w4l w4c w5 S
    rw [J14_l1_1_1_0_1_0_succ, a14_l1_1_1_0_1_0, h14_j1_1_1_1 call n , ih]
def J14 (call : CallA) (n : Nat) (x0a : Option Pos) (x0l : Nat) (x0c : Cap) (S : AS) : Option (AV × AS) := b14_entry call n (J14_l1_1_1_0_1_0 call n  n) x0a x0l x0c S
theorem run14 (o : Orc) (n : Nat) (args : List AV) (S : AS) (ho : o 14 args = none) : evF E o (n + 1) (.fn 14) args S = evC E (evF E o n) n 14 (E.at 14 []) 0 (enumT 0 args) S (retK E (E.fn 14)) := by
  rw [evF, ho]; kernel_rfl
theorem J14_eq (call : CallA) (n : Nat) (x0a : Option Pos) (x0l : Nat) (x0c : Cap) (S : AS) : evC E call n 14 (E.at 14 []) 0 (enumT 0 [(.sl x0a x0l x0c)]) S (retK E (E.fn 14)) = J14 call n x0a x0l x0c S := by
  rw [J14, a14_entry, h14_l1_1_1_0_1_0 call n  n]
theorem F14 {o : Orc} (n : Nat) (x0a : Option Pos) (x0l : Nat) (x0c : Cap) (S : AS) (ho : ∀ args, o 14 args = none) : evF E o (n + 1) (.fn 14) [(.sl x0a x0l x0c)] S = J14 (evF E o n) n x0a x0l x0c S := (run14 o n [(.sl x0a x0l x0c)] S (ho _)).trans (J14_eq _ _ x0a x0l x0c S)
def b15_entry (call : CallA) (n : Nat)   (x0 : Int) (S : AS) : Option (AV × AS) :=
 some ((.int .i64 x0), S)

theorem a15_entry (call : CallA) (n : Nat) (x0 : Int) (S : AS) : evC E call n 15 (E.at 15 []) 0 (enumT 0 [(.int .i64 x0)]) S (retK E (E.fn 15)) = b15_entry call n  x0 S := by kernel_rfl
def J15 (call : CallA) (n : Nat) (x0 : Int) (S : AS) : Option (AV × AS) := b15_entry call n  x0 S
theorem run15 (o : Orc) (n : Nat) (args : List AV) (S : AS) (ho : o 15 args = none) : evF E o (n + 1) (.fn 15) args S = evC E (evF E o n) n 15 (E.at 15 []) 0 (enumT 0 args) S (retK E (E.fn 15)) := by
  rw [evF, ho]; kernel_rfl
theorem J15_eq (call : CallA) (n : Nat) (x0 : Int) (S : AS) : evC E call n 15 (E.at 15 []) 0 (enumT 0 [(.int .i64 x0)]) S (retK E (E.fn 15)) = J15 call n x0 S := by
  rw [J15, a15_entry]
theorem F15 {o : Orc} (n : Nat) (x0 : Int) (S : AS) (ho : ∀ args, o 15 args = none) : evF E o (n + 1) (.fn 15) [(.int .i64 x0)] S = J15 (evF E o n) n x0 S := (run15 o n [(.int .i64 x0)] S (ho _)).trans (J15_eq _ _ x0 S)
def b16_entry (call : CallA) (n : Nat)   (x0 : Int) (S : AS) : Option (AV × AS) :=
 cond (decide (x0 < 1)) (
 some ((.int .i64 0), S)) (
 cond (decide (x0 > 64)) (
 some ((.int .i64 0), S)) (
 some ((.int .i64 (IntKind.wrap .i64 (Int.tdiv (IntKind.wrap .i64 ((IntKind.wrap .i64 ((IntKind.wrap .i64 (4 + (IntKind.wrap .i64 (x0 * 388)))) + 336)) - 1)) 336))), S)))

theorem a16_entry (call : CallA) (n : Nat) (x0 : Int) (S : AS) : evC E call n 16 (E.at 16 []) 0 (enumT 0 [(.int .i64 x0)]) S (retK E (E.fn 16)) = b16_entry call n  x0 S := by kernel_rfl
def J16 (call : CallA) (n : Nat) (x0 : Int) (S : AS) : Option (AV × AS) := b16_entry call n  x0 S
theorem run16 (o : Orc) (n : Nat) (args : List AV) (S : AS) (ho : o 16 args = none) : evF E o (n + 1) (.fn 16) args S = evC E (evF E o n) n 16 (E.at 16 []) 0 (enumT 0 args) S (retK E (E.fn 16)) := by
  rw [evF, ho]; kernel_rfl
theorem J16_eq (call : CallA) (n : Nat) (x0 : Int) (S : AS) : evC E call n 16 (E.at 16 []) 0 (enumT 0 [(.int .i64 x0)]) S (retK E (E.fn 16)) = J16 call n x0 S := by
  rw [J16, a16_entry]
theorem F16 {o : Orc} (n : Nat) (x0 : Int) (S : AS) (ho : ∀ args, o 16 args = none) : evF E o (n + 1) (.fn 16) [(.int .i64 x0)] S = J16 (evF E o n) n x0 S := (run16 o n [(.int .i64 x0)] S (ho _)).trans (J16_eq _ _ x0 S)
def b17_entry (call : CallA) (n : Nat)   (x0 : Int) (S : AS) : Option (AV × AS) :=
 cond (decide (x0 < 1)) (
 some ((.int .i64 0), S)) (
 cond (decide (x0 > 64)) (
 some ((.int .i64 0), S)) (
 some ((.int .i64 (IntKind.wrap .i64 (Int.tdiv (IntKind.wrap .i64 ((IntKind.wrap .i64 ((IntKind.wrap .i64 (4 + (IntKind.wrap .i64 (388 * x0)))) + 336)) - 1)) 336))), S)))

theorem a17_entry (call : CallA) (n : Nat) (x0 : Int) (S : AS) : evC E call n 17 (E.at 17 []) 0 (enumT 0 [(.int .i64 x0)]) S (retK E (E.fn 17)) = b17_entry call n  x0 S := by kernel_rfl
def J17 (call : CallA) (n : Nat) (x0 : Int) (S : AS) : Option (AV × AS) := b17_entry call n  x0 S
theorem run17 (o : Orc) (n : Nat) (args : List AV) (S : AS) (ho : o 17 args = none) : evF E o (n + 1) (.fn 17) args S = evC E (evF E o n) n 17 (E.at 17 []) 0 (enumT 0 args) S (retK E (E.fn 17)) := by
  rw [evF, ho]; kernel_rfl
theorem J17_eq (call : CallA) (n : Nat) (x0 : Int) (S : AS) : evC E call n 17 (E.at 17 []) 0 (enumT 0 [(.int .i64 x0)]) S (retK E (E.fn 17)) = J17 call n x0 S := by
  rw [J17, a17_entry]
theorem F17 {o : Orc} (n : Nat) (x0 : Int) (S : AS) (ho : ∀ args, o 17 args = none) : evF E o (n + 1) (.fn 17) [(.int .i64 x0)] S = J17 (evF E o n) n x0 S := (run17 o n [(.int .i64 x0)] S (ho _)).trans (J17_eq _ _ x0 S)
def b18_entry (call : CallA) (n : Nat)   (x0a : Option Pos) (x0l : Nat) (x0c : Cap) (S : AS) : Option (AV × AS) :=
 newA S (.cells [(.int .u64 0), (.int .u64 0), (.int .u64 0), (.int .u64 0), (.int .i64 0), (.int .i64 0), (.sl none 0 (.ex 0))]) fun b1 S2 =>
 cond (((x0l : Nat) : Int) != 384) (
 S2.stn (.rw b1) 0 [(.int .u64 0), (.int .u64 0), (.int .u64 0), (.int .u64 0), (.int .i64 0), (.int .i64 0), (.sl none 0 (.ex 0))] fun S3 =>
 S3.ldn (.rw b1) 0 7 fun g4 =>
 some (.tup [(.agg g4), (.int .i64 81)], S3)) (
 slSl 1 x0a x0l x0c (some 40) (some 42) none fun v5a v5l v5c =>
 callI .u64 call 44 [(.sl v5a v5l v5c)] S2 fun v7 S6 =>
 drawA S6 28 fun b8 S9 =>
 slSl 1 x0a x0l x0c (some 4) (some 12) none fun v10a v10l v10c =>
 callI .u64 call 44 [(.sl v10a v10l v10c)] S9 fun v12 S11 =>
 slSl 1 x0a x0l x0c (some 12) (some 20) none fun v13a v13l v13c =>
 callI .u64 call 44 [(.sl v13a v13l v13c)] S11 fun v15 S14 =>
 slSl 1 x0a x0l x0c (some 20) (some 28) none fun v16a v16l v16c =>
 callI .u64 call 44 [(.sl v16a v16l v16c)] S14 fun v18 S17 =>
 slSl 1 x0a x0l x0c (some 28) (some 36) none fun v19a v19l v19c =>
 callI .u64 call 44 [(.sl v19a v19l v19c)] S17 fun v21 S20 =>
 slSl 1 x0a x0l x0c (some 36) (some 38) none fun v22a v22l v22c =>
 callI .u64 call 44 [(.sl v22a v22l v22c)] S20 fun v24 S23 =>
 slSl 1 x0a x0l x0c (some 38) (some 40) none fun v25a v25l v25c =>
 callI .u64 call 44 [(.sl v25a v25l v25c)] S23 fun v27 S26 =>
 slSl 1 x0a x0l x0c (some 48) (some (IntKind.wrap .i64 (48 + (if 336 < (IntKind.wrap .i64 v7) then 336 else (IntKind.wrap .i64 v7))))) none fun v28a v28l v28c =>
 callL call 45 [(.sl v28a v28l v28c)] S26 fun v30a v30l v30c S29 =>
 layA S29 (b8 + 26) (.cells [(.int .u64 0), (.int .u64 0), (.int .u64 0), (.int .u64 0), (.int .i64 0), (.int .i64 0), (.sl none 0 (.ex 0))]) fun S31 =>
 S31.stn (.rw (b8 + 26)) 0 [(.int .u64 v12), (.int .u64 v15), (.int .u64 v18), (.int .u64 v21), (.int .i64 (IntKind.wrap .i64 v24)), (.int .i64 (IntKind.wrap .i64 v27)), (.sl v30a v30l v30c)] fun S32 =>
 S32.ldn (.rw (b8 + 26)) 0 7 fun g33 =>
 callT call 8 [(.agg g33)] S32 fun v35 S34 =>
 atL v35 0 fun v36a v36l v36c =>
 atI .i64 v35 1 fun v37 =>
 cond (v37 != 0) (
 S34.stn (.rw b1) 0 [(.int .u64 0), (.int .u64 0), (.int .u64 0), (.int .u64 0), (.int .i64 0), (.int .i64 0), (.sl none 0 (.ex 0))] fun S38 =>
 S38.ldn (.rw b1) 0 7 fun g39 =>
 some (.tup [(.agg g39), (.int .i64 81)], S38)) (
 callB call 46 [(.sl v36a v36l v36c), (.sl x0a x0l x0c)] S34 fun v41 S40 =>
 cond (!v41) (
 S40.stn (.rw b1) 0 [(.int .u64 0), (.int .u64 0), (.int .u64 0), (.int .u64 0), (.int .i64 0), (.int .i64 0), (.sl none 0 (.ex 0))] fun S42 =>
 S42.ldn (.rw b1) 0 7 fun g43 =>
 some (.tup [(.agg g43), (.int .i64 81)], S42)) (
 S40.ldn (.rw (b8 + 26)) 0 7 fun g44 =>
 ifO (g44.length = 7) <|
 S40.stn (.rw b1) 0 g44 fun S45 =>
 S45.ldn (.rw b1) 0 7 fun g46 =>
 some (.tup [(.agg g46), (.int .i64 0)], S45))))

theorem a18_entry (call : CallA) (n : Nat) (x0a : Option Pos) (x0l : Nat) (x0c : Cap) (S : AS) : evC E call n 18 (E.at 18 []) 0 (enumT 0 [(.sl x0a x0l x0c)]) S (retK E (E.fn 18)) = b18_entry call n  x0a x0l x0c S := by kernel_rfl
def J18 (call : CallA) (n : Nat) (x0a : Option Pos) (x0l : Nat) (x0c : Cap) (S : AS) : Option (AV × AS) := b18_entry call n  x0a x0l x0c S
theorem run18 (o : Orc) (n : Nat) (args : List AV) (S : AS) (ho : o 18 args = none) : evF E o (n + 1) (.fn 18) args S = evC E (evF E o n) n 18 (E.at 18 []) 0 (enumT 0 args) S (retK E (E.fn 18)) := by
  rw [evF, ho]; kernel_rfl
theorem J18_eq (call : CallA) (n : Nat) (x0a : Option Pos) (x0l : Nat) (x0c : Cap) (S : AS) : evC E call n 18 (E.at 18 []) 0 (enumT 0 [(.sl x0a x0l x0c)]) S (retK E (E.fn 18)) = J18 call n x0a x0l x0c S := by
  rw [J18, a18_entry]
theorem F18 {o : Orc} (n : Nat) (x0a : Option Pos) (x0l : Nat) (x0c : Cap) (S : AS) (ho : ∀ args, o 18 args = none) : evF E o (n + 1) (.fn 18) [(.sl x0a x0l x0c)] S = J18 (evF E o n) n x0a x0l x0c S := (run18 o n [(.sl x0a x0l x0c)] S (ho _)).trans (J18_eq _ _ x0a x0l x0c S)
end
end Go.Jn
