/- Plain readings of the functions, and that they are what the evaluator does: by program. -/
import Derived.Test.YtcepfilbiahdjaaGrRes
import Derived.Test.YtcepfilbiahdjaaENV
import Derived.KernelRfl
set_option maxRecDepth 100000
set_option linter.unusedVariables false
namespace Go.Jn
open Go.Gr
noncomputable section
def b66_entry (call : CallA) (n : Nat)   (x0 : List AV) (S : AS) : Option (AV × AS) :=
 ifO (x0.length = 7) <|
 newA S (.cells x0) fun b1 S2 =>
 ldI .u64 S2 (.rw b1) 0 fun v3 =>
 cond (v3 == 0) (
 some (.tup [(.sl none 0 (.ex 0)), (.int .i64 81)], S2)) (
 ldI .u64 S2 (.rw b1) 1 fun v4 =>
 cond (v4 == 0) (
 some (.tup [(.sl none 0 (.ex 0)), (.int .i64 81)], S2)) (
 ldI .u64 S2 (.rw b1) 3 fun v5 =>
 cond (v5 == 0) (
 some (.tup [(.sl none 0 (.ex 0)), (.int .i64 81)], S2)) (
 ldI .u64 S2 (.rw b1) 0 fun v6 =>
 cond (decide (v6 > 4611686018427387904)) (
 some (.tup [(.sl none 0 (.ex 0)), (.int .i64 81)], S2)) (
 ldI .u64 S2 (.rw b1) 1 fun v7 =>
 cond (decide (v7 > 4611686018427387904)) (
 some (.tup [(.sl none 0 (.ex 0)), (.int .i64 81)], S2)) (
 ldI .u64 S2 (.rw b1) 3 fun v8 =>
 cond (decide (v8 > 4611686018427387904)) (
 some (.tup [(.sl none 0 (.ex 0)), (.int .i64 81)], S2)) (
 ldI .u64 S2 (.rw b1) 2 fun v9 =>
 cond (decide (v9 > 4611686018427387904)) (
 some (.tup [(.sl none 0 (.ex 0)), (.int .i64 81)], S2)) (
 ldI .i64 S2 (.rw b1) 5 fun v10 =>
 cond (decide (v10 < 1)) (
 some (.tup [(.sl none 0 (.ex 0)), (.int .i64 81)], S2)) (
 ldI .i64 S2 (.rw b1) 5 fun v11 =>
 cond (decide (v11 > 100)) (
 some (.tup [(.sl none 0 (.ex 0)), (.int .i64 81)], S2)) (
 ldI .i64 S2 (.rw b1) 4 fun v12 =>
 cond (decide (v12 < 0)) (
 some (.tup [(.sl none 0 (.ex 0)), (.int .i64 81)], S2)) (
 ldI .i64 S2 (.rw b1) 4 fun v13 =>
 ldI .i64 S2 (.rw b1) 5 fun v14 =>
 cond (decide (v13 ≥ v14)) (
 some (.tup [(.sl none 0 (.ex 0)), (.int .i64 81)], S2)) (
 ldL S2 (.rw b1) 6 fun v15a v15l v15c =>
 cond (decide (((v15l : Nat) : Int) < 1)) (
 some (.tup [(.sl none 0 (.ex 0)), (.int .i64 81)], S2)) (
 ldL S2 (.rw b1) 6 fun v16a v16l v16c =>
 cond (decide (((v16l : Nat) : Int) > 336)) (
 some (.tup [(.sl none 0 (.ex 0)), (.int .i64 81)], S2)) (
 drawA S2 9 fun b17 S18 =>
 layA S18 (b17 + 0) (.cells [(.int .u8 74), (.int .u8 76), (.int .u8 79), (.int .u8 71)]) fun S19 =>
 convLL S19 (some (.rw (b17 + 0), 0)) 4 (.ex 4) fun v21a v21l v21c S20 =>
 ldI .u64 S20 (.rw b1) 0 fun v22 =>
 ldI .u64 S18 (.rw b1) 0 fun v23 =>
 cond (AV.beq (.int .u64 v23) (.int .u64 v22)) (
 callL call 32 [(.sl v21a v21l v21c), (.int .u64 v22), (.int .i64 8)] S20 fun v25a v25l v25c S24 =>
 ldI .u64 S24 (.rw b1) 1 fun v26 =>
 ldI .u64 S20 (.rw b1) 1 fun v27 =>
 cond (AV.beq (.int .u64 v27) (.int .u64 v26)) (
 ldI .u64 S18 (.rw b1) 1 fun v28 =>
 cond (AV.beq (.int .u64 v28) (.int .u64 v26)) (
 callL call 32 [(.sl v25a v25l v25c), (.int .u64 v26), (.int .i64 8)] S24 fun v30a v30l v30c S29 =>
 ldI .u64 S29 (.rw b1) 2 fun v31 =>
 callL call 32 [(.sl v30a v30l v30c), (.int .u64 v31), (.int .i64 8)] S29 fun v33a v33l v33c S32 =>
 ldI .u64 S32 (.rw b1) 3 fun v34 =>
 ldI .u64 S29 (.rw b1) 3 fun v35 =>
 cond (AV.beq (.int .u64 v35) (.int .u64 v34)) (
 callL call 32 [(.sl v33a v33l v33c), (.int .u64 v34), (.int .i64 8)] S32 fun v37a v37l v37c S36 =>
 ldI .i64 S36 (.rw b1) 4 fun v38 =>
 callL call 32 [(.sl v37a v37l v37c), (.int .u64 (IntKind.wrap .u64 v38)), (.int .i64 2)] S36 fun v40a v40l v40c S39 =>
 ldI .i64 S39 (.rw b1) 5 fun v41 =>
 ldI .i64 S36 (.rw b1) 5 fun v42 =>
 cond (AV.beq (.int .i64 v42) (.int .i64 v41)) (
 callL call 32 [(.sl v40a v40l v40c), (.int .u64 (IntKind.wrap .u64 v41)), (.int .i64 2)] S39 fun v44a v44l v44c S43 =>
 ldL S43 (.rw b1) 6 fun v45a v45l v45c =>
 ldL S39 (.rw b1) 6 fun v46a v46l v46c =>
 cond (AV.beq (.sl v46a v46l v46c) (.sl v45a v45l v45c)) (
 ldL S36 (.rw b1) 6 fun v47a v47l v47c =>
 cond (AV.beq (.sl v47a v47l v47c) (.sl v45a v45l v45c)) (
 cond (AV.beq (.int .i64 ((v45l : Nat) : Int)) (.int .i64 ((v45l : Nat) : Int))) (
 cond (AV.beq (.int .i64 ((v45l : Nat) : Int)) (.int .i64 ((v45l : Nat) : Int))) (
 callL call 32 [(.sl v44a v44l v44c), (.int .u64 (IntKind.wrap .u64 ((v45l : Nat) : Int))), (.int .i64 2)] S43 fun v49a v49l v49c S48 =>
 appendZA 1 1 [(.int .u8 0)] S48 v49a v49l v49c 6 fun v50a v50l v50c S51 =>
 ldL S51 (.rw b1) 6 fun v52a v52l v52c =>
 ldL S48 (.rw b1) 6 fun v53a v53l v53c =>
 cond (AV.beq (.sl v53a v53l v53c) (.sl v52a v52l v52c)) (
 appendA 1 1 S51 v50a v50l v50c v52l (firstA S51 1 v52l (.sl v52a v52l v52c)) fun v54a v54l v54c S55 =>
 callL call 58 [(.sl v54a v54l v54c)] S55 fun v57a v57l v57c S56 =>
 some (.tup [(.sl v57a v57l v57c), (.int .i64 0)], S56)) none) none) none) none) none) none) none) none) none) none)))))))))))))

theorem a66_entry (call : CallA) (n : Nat) (x0 : List AV) (S : AS) : evC E call n 66 (E.at 66 []) 0 (enumT 0 [(.agg x0)]) S (retK E (E.fn 66)) = b66_entry call n  x0 S := by kernel_rfl
def J66 (call : CallA) (n : Nat) (x0 : List AV) (S : AS) : Option (AV × AS) := b66_entry call n  x0 S
theorem run66 (o : Orc) (n : Nat) (args : List AV) (S : AS) (ho : o 66 args = none) : evF E o (n + 1) (.fn 66) args S = evC E (evF E o n) n 66 (E.at 66 []) 0 (enumT 0 args) S (retK E (E.fn 66)) := by
  rw [evF, ho]; kernel_rfl
theorem J66_eq (call : CallA) (n : Nat) (x0 : List AV) (S : AS) : evC E call n 66 (E.at 66 []) 0 (enumT 0 [(.agg x0)]) S (retK E (E.fn 66)) = J66 call n x0 S := by
  rw [J66, a66_entry]
theorem F66 {o : Orc} (n : Nat) (x0 : List AV) (S : AS) (ho : ∀ args, o 66 args = none) : evF E o (n + 1) (.fn 66) [(.agg x0)] S = J66 (evF E o n) n x0 S := (run66 o n [(.agg x0)] S (ho _)).trans (J66_eq _ _ x0 S)
def b67_entry (call : CallA) (n : Nat)   (x0 : Option Pos) (x1 : Int) (S : AS) : Option (AV × AS) :=
 gO x0 fun p1 =>
 ldI .i64 S p1.1 (p1.2 + 1) fun v2 =>
 gO x0 fun p3 =>
 ldI .i64 S p3.1 (p3.2 + 2) fun v4 =>
 nz (IntKind.wrap .u64 (IntKind.wrap .i64 (v4 - 2))) <|
 some ((.int .i64 (IntKind.wrap .i64 ((IntKind.wrap .i64 (v2 + 2)) + (IntKind.wrap .i64 (Int.tmod x1 (IntKind.wrap .u64 (IntKind.wrap .i64 (v4 - 2)))))))), S)

theorem a67_entry (call : CallA) (n : Nat) (x0 : Option Pos) (x1 : Int) (S : AS) : evC E call n 67 (E.at 67 []) 0 (enumT 0 [(.ptr x0), (.int .u64 x1)]) S (retK E (E.fn 67)) = b67_entry call n  x0 x1 S := by kernel_rfl
def J67 (call : CallA) (n : Nat) (x0 : Option Pos) (x1 : Int) (S : AS) : Option (AV × AS) := b67_entry call n  x0 x1 S
theorem run67 (o : Orc) (n : Nat) (args : List AV) (S : AS) (ho : o 67 args = none) : evF E o (n + 1) (.fn 67) args S = evC E (evF E o n) n 67 (E.at 67 []) 0 (enumT 0 args) S (retK E (E.fn 67)) := by
  rw [evF, ho]; kernel_rfl
theorem J67_eq (call : CallA) (n : Nat) (x0 : Option Pos) (x1 : Int) (S : AS) : evC E call n 67 (E.at 67 []) 0 (enumT 0 [(.ptr x0), (.int .u64 x1)]) S (retK E (E.fn 67)) = J67 call n x0 x1 S := by
  rw [J67, a67_entry]
theorem F67 {o : Orc} (n : Nat) (x0 : Option Pos) (x1 : Int) (S : AS) (ho : ∀ args, o 67 args = none) : evF E o (n + 1) (.fn 67) [(.ptr x0), (.int .u64 x1)] S = J67 (evF E o n) n x0 x1 S := (run67 o n [(.ptr x0), (.int .u64 x1)] S (ho _)).trans (J67_eq _ _ x0 x1 S)
def b68_l1_1_1_0_1_0 (call : CallA) (n : Nat)  (l1_1_1_0_1_0 : Option Pos → Nat → Cap → Option Pos → Option Pos → Int → AS → Option (AV × AS)) (j1_1_1_1 : Option Pos → Nat → Cap → Option Pos → Option Pos → AS → Option (AV × AS)) (w0a : Option Pos) (w0l : Nat) (w0c : Cap) (w2 : Option Pos) (w4 : Option Pos) (w13 : Int) (S : AS) : Option (AV × AS) :=
 cond (decide (w13 < 6)) (
 slSl 1 w0a w0l w0c (some (IntKind.wrap .i64 (4 + (IntKind.wrap .i64 (8 * w13))))) (some (IntKind.wrap .i64 (12 + (IntKind.wrap .i64 (8 * w13))))) none fun v7a v7l v7c =>
 callI .u64 call 77 [(.sl v7a v7l v7c)] S fun v9 S8 =>
 gO w4 fun p11 =>
 ixArr 1 p11 6 w13 fun p10 =>
 S8.stn p10.1 p10.2 [(.int .u64 v9)] fun S12 =>
 l1_1_1_0_1_0 w0a w0l w0c w2 w4 (IntKind.wrap .i64 (w13 + 1)) S12) (
 j1_1_1_1 w0a w0l w0c w2 w4 S)

def b68_j1_1_1_1 (call : CallA) (n : Nat)   (w0a : Option Pos) (w0l : Nat) (w0c : Cap) (w2 : Option Pos) (w4 : Option Pos) (S : AS) : Option (AV × AS) :=
 gO w4 fun p14 =>
 ixArr 1 p14 6 0 fun p13 =>
 ldI .u64 S p13.1 p13.2 fun v15 =>
 gO w4 fun p17 =>
 ixArr 1 p17 6 1 fun p16 =>
 ldI .u64 S p16.1 p16.2 fun v18 =>
 gO w4 fun p20 =>
 ixArr 1 p20 6 2 fun p19 =>
 ldI .u64 S p19.1 p19.2 fun v21 =>
 gO w4 fun p23 =>
 ixArr 1 p23 6 3 fun p22 =>
 ldI .u64 S p22.1 p22.2 fun v24 =>
 gO w4 fun p26 =>
 ixArr 1 p26 6 4 fun p25 =>
 ldI .u64 S p25.1 p25.2 fun v27 =>
 gO w4 fun p29 =>
 ixArr 1 p29 6 5 fun p28 =>
 ldI .u64 S p28.1 p28.2 fun v30 =>
 newA S (.cells [(.int .u64 0), (.int .u64 0), (.int .u64 0), (.int .u64 0), (.int .u64 0), (.int .u64 0)]) fun b31 S32 =>
 S32.stn (.rw b31) 0 [(.int .u64 v15), (.int .u64 v18), (.int .u64 v21), (.int .u64 v24), (.int .u64 v27), (.int .u64 v30)] fun S33 =>
 S33.ldn (.rw b31) 0 6 fun g34 =>
 callT call 41 [(.agg g34)] S33 fun v36 S35 =>
 atL v36 0 fun v37a v37l v37c =>
 atI .i64 v36 1 fun v38 =>
 cond (v38 != 0) (
 gO w2 fun p40 =>
 S35.stn p40.1 p40.2 [(.int .u64 0), (.int .u64 0), (.int .u64 0), (.int .u64 0), (.int .u64 0), (.int .u64 0)] fun S39 =>
 gO w2 fun p41 =>
 S39.ldn p41.1 p41.2 6 fun g42 =>
 some (.tup [(.agg g42), (.int .i64 81)], S39)) (
 callB call 78 [(.sl v37a v37l v37c), (.sl w0a w0l w0c)] S35 fun v44 S43 =>
 cond (!v44) (
 gO w2 fun p46 =>
 S43.stn p46.1 p46.2 [(.int .u64 0), (.int .u64 0), (.int .u64 0), (.int .u64 0), (.int .u64 0), (.int .u64 0)] fun S45 =>
 gO w2 fun p47 =>
 S45.ldn p47.1 p47.2 6 fun g48 =>
 some (.tup [(.agg g48), (.int .i64 81)], S45)) (
 S43.ldn (.rw b31) 0 6 fun g49 =>
 gO w2 fun p51 =>
 ifO (g49.length = 6) <|
 S43.stn p51.1 p51.2 g49 fun S50 =>
 gO w2 fun p52 =>
 S50.ldn p52.1 p52.2 6 fun g53 =>
 some (.tup [(.agg g53), (.int .i64 0)], S50)))

def b68_entry (call : CallA) (n : Nat)  (l1_1_1_0_1_0 : Option Pos → Nat → Cap → Option Pos → Option Pos → Int → AS → Option (AV × AS)) (x0a : Option Pos) (x0l : Nat) (x0c : Cap) (S : AS) : Option (AV × AS) :=
 newA S (.cells [(.int .u64 0), (.int .u64 0), (.int .u64 0), (.int .u64 0), (.int .u64 0), (.int .u64 0)]) fun b1 S2 =>
 cond (((x0l : Nat) : Int) != 384) (
 S2.stn (.rw b1) 0 [(.int .u64 0), (.int .u64 0), (.int .u64 0), (.int .u64 0), (.int .u64 0), (.int .u64 0)] fun S3 =>
 S3.ldn (.rw b1) 0 6 fun g4 =>
 some (.tup [(.agg g4), (.int .i64 81)], S3)) (
 newA S2 (.cells [(.int .u64 0), (.int .u64 0), (.int .u64 0), (.int .u64 0), (.int .u64 0), (.int .u64 0)]) fun b5 S6 =>
 l1_1_1_0_1_0 x0a x0l x0c (some ((.rw b1), 0)) (some ((.rw b5), 0)) 0 S6)

def r68_l1_1_1_0_1_0 (call : CallA) (n : Nat)  (m : Nat) (w0a : Option Pos) (w0l : Nat) (w0c : Cap) (w2 : Option Pos) (w4 : Option Pos) (w13 : Int) (S : AS) : Option (AV × AS) := loopN (evC E call n 68 (E.at 68 [1, 1, 1, 0, 1, 0, 0]) 0) [0, 2, 4, 13] m [(0, (.sl w0a w0l w0c)), (2, (.ptr w2)), (4, (.ptr w4)), (13, (.int .i64 w13))] S (kBlk 0 (kSeq E call n 68 (E.at 68 [1, 1, 1, 1]) 0 (retK E (E.fn 68))))
def r68_j1_1_1_1 (call : CallA) (n : Nat)  (w0a : Option Pos) (w0l : Nat) (w0c : Cap) (w2 : Option Pos) (w4 : Option Pos) (S : AS) : Option (AV × AS) := evC E call n 68 (E.at 68 [1, 1, 1, 1]) 0 [(0, (.sl w0a w0l w0c)), (2, (.ptr w2)), (4, (.ptr w4))] S (retK E (E.fn 68))
theorem a68_l1_1_1_0_1_0 (call : CallA) (n : Nat)  (m : Nat) (w0a : Option Pos) (w0l : Nat) (w0c : Cap) (w2 : Option Pos) (w4 : Option Pos) (w13 : Int) (S : AS) : r68_l1_1_1_0_1_0 call n  (m + 1) w0a w0l w0c w2 w4 w13 S = b68_l1_1_1_0_1_0 call n (r68_l1_1_1_0_1_0 call n  m) (r68_j1_1_1_1 call n ) w0a w0l w0c w2 w4 w13 S := by kernel_rfl
theorem a68_j1_1_1_1 (call : CallA) (n : Nat)  (w0a : Option Pos) (w0l : Nat) (w0c : Cap) (w2 : Option Pos) (w4 : Option Pos) (S : AS) : r68_j1_1_1_1 call n  w0a w0l w0c w2 w4 S = b68_j1_1_1_1 call n  w0a w0l w0c w2 w4 S := by kernel_rfl
theorem a68_entry (call : CallA) (n : Nat) (x0a : Option Pos) (x0l : Nat) (x0c : Cap) (S : AS) : evC E call n 68 (E.at 68 []) 0 (enumT 0 [(.sl x0a x0l x0c)]) S (retK E (E.fn 68)) = b68_entry call n (r68_l1_1_1_0_1_0 call n  n) x0a x0l x0c S := by kernel_rfl
def J68_j1_1_1_1 (call : CallA) (n : Nat)  (w0a : Option Pos) (w0l : Nat) (w0c : Cap) (w2 : Option Pos) (w4 : Option Pos) (S : AS) : Option (AV × AS) := b68_j1_1_1_1 call n  w0a w0l w0c w2 w4 S
theorem h68_j1_1_1_1 (call : CallA) (n : Nat)  : r68_j1_1_1_1 call n  = J68_j1_1_1_1 call n  := by
  funext w0a w0l w0c w2 w4 S
  rw [J68_j1_1_1_1, a68_j1_1_1_1]
def J68_l1_1_1_0_1_0 (call : CallA) (n : Nat)  (m : Nat) : Option Pos → Nat → Cap → Option Pos → Option Pos → Int → AS → Option (AV × AS) := Nat.rec (motive := fun _ => Option Pos → Nat → Cap → Option Pos → Option Pos → Int → AS → Option (AV × AS)) (fun _ _ _ _ _ _ _ => none) (fun mK ih w0a w0l w0c w2 w4 w13 S => b68_l1_1_1_0_1_0 call n ih (J68_j1_1_1_1 call n ) w0a w0l w0c w2 w4 w13 S) m
theorem J68_l1_1_1_0_1_0_succ (call : CallA) (n : Nat)  (m : Nat) (w0a : Option Pos) (w0l : Nat) (w0c : Cap) (w2 : Option Pos) (w4 : Option Pos) (w13 : Int) (S : AS) : J68_l1_1_1_0_1_0 call n  (m + 1) w0a w0l w0c w2 w4 w13 S = b68_l1_1_1_0_1_0 call n (J68_l1_1_1_0_1_0 call n  m) (J68_j1_1_1_1 call n ) w0a w0l w0c w2 w4 w13 S := rfl
theorem h68_l1_1_1_0_1_0 (call : CallA) (n : Nat)  (m : Nat) : r68_l1_1_1_0_1_0 call n  m = J68_l1_1_1_0_1_0 call n  m := by
  induction m with
  | zero => rfl
  | succ m ih =>
    funext w0a w0l w0c w2 w4 w13 S
    rw [J68_l1_1_1_0_1_0_succ, a68_l1_1_1_0_1_0, h68_j1_1_1_1 call n , ih]
def J68 (call : CallA) (n : Nat) (x0a : Option Pos) (x0l : Nat) (x0c : Cap) (S : AS) : Option (AV × AS) := b68_entry call n (J68_l1_1_1_0_1_0 call n  n) x0a x0l x0c S
theorem run68 (o : Orc) (n : Nat) (args : List AV) (S : AS) (ho : o 68 args = none) : evF E o (n + 1) (.fn 68) args S = evC E (evF E o n) n 68 (E.at 68 []) 0 (enumT 0 args) S (retK E (E.fn 68)) := by
  rw [evF, ho]; kernel_rfl
theorem J68_eq (call : CallA) (n : Nat) (x0a : Option Pos) (x0l : Nat) (x0c : Cap) (S : AS) : evC E call n 68 (E.at 68 []) 0 (enumT 0 [(.sl x0a x0l x0c)]) S (retK E (E.fn 68)) = J68 call n x0a x0l x0c S := by
  rw [J68, a68_entry, h68_l1_1_1_0_1_0 call n  n]
theorem F68 {o : Orc} (n : Nat) (x0a : Option Pos) (x0l : Nat) (x0c : Cap) (S : AS) (ho : ∀ args, o 68 args = none) : evF E o (n + 1) (.fn 68) [(.sl x0a x0l x0c)] S = J68 (evF E o n) n x0a x0l x0c S := (run68 o n [(.sl x0a x0l x0c)] S (ho _)).trans (J68_eq _ _ x0a x0l x0c S)
def b69_entry (call : CallA) (n : Nat)   (x0a : Option Pos) (x0l : Nat) (x0c : Cap) (S : AS) : Option (AV × AS) :=
 newA S (.cells [(.int .u64 0), (.int .u64 0), (.int .u64 0), (.int .u64 0), (.int .i64 0), (.int .i64 0), (.sl none 0 (.ex 0))]) fun b1 S2 =>
 cond (((x0l : Nat) : Int) != 384) (
 S2.stn (.rw b1) 0 [(.int .u64 0), (.int .u64 0), (.int .u64 0), (.int .u64 0), (.int .i64 0), (.int .i64 0), (.sl none 0 (.ex 0))] fun S3 =>
 S3.ldn (.rw b1) 0 7 fun g4 =>
 some (.tup [(.agg g4), (.int .i64 81)], S3)) (
 slSl 1 x0a x0l x0c (some 40) (some 42) none fun v5a v5l v5c =>
 callI .u64 call 77 [(.sl v5a v5l v5c)] S2 fun v7 S6 =>
 drawA S6 28 fun b8 S9 =>
 slSl 1 x0a x0l x0c (some 4) (some 12) none fun v10a v10l v10c =>
 callI .u64 call 77 [(.sl v10a v10l v10c)] S9 fun v12 S11 =>
 slSl 1 x0a x0l x0c (some 12) (some 20) none fun v13a v13l v13c =>
 callI .u64 call 77 [(.sl v13a v13l v13c)] S11 fun v15 S14 =>
 slSl 1 x0a x0l x0c (some 20) (some 28) none fun v16a v16l v16c =>
 callI .u64 call 77 [(.sl v16a v16l v16c)] S14 fun v18 S17 =>
 slSl 1 x0a x0l x0c (some 28) (some 36) none fun v19a v19l v19c =>
 callI .u64 call 77 [(.sl v19a v19l v19c)] S17 fun v21 S20 =>
 slSl 1 x0a x0l x0c (some 36) (some 38) none fun v22a v22l v22c =>
 callI .u64 call 77 [(.sl v22a v22l v22c)] S20 fun v24 S23 =>
 slSl 1 x0a x0l x0c (some 38) (some 40) none fun v25a v25l v25c =>
 callI .u64 call 77 [(.sl v25a v25l v25c)] S23 fun v27 S26 =>
 slSl 1 x0a x0l x0c (some 48) (some (IntKind.wrap .i64 (48 + (if 336 < (IntKind.wrap .i64 v7) then 336 else (IntKind.wrap .i64 v7))))) none fun v28a v28l v28c =>
 callL call 79 [(.sl v28a v28l v28c)] S26 fun v30a v30l v30c S29 =>
 layA S29 (b8 + 26) (.cells [(.int .u64 0), (.int .u64 0), (.int .u64 0), (.int .u64 0), (.int .i64 0), (.int .i64 0), (.sl none 0 (.ex 0))]) fun S31 =>
 S31.stn (.rw (b8 + 26)) 0 [(.int .u64 v12), (.int .u64 v15), (.int .u64 v18), (.int .u64 v21), (.int .i64 (IntKind.wrap .i64 v24)), (.int .i64 (IntKind.wrap .i64 v27)), (.sl v30a v30l v30c)] fun S32 =>
 S32.ldn (.rw (b8 + 26)) 0 7 fun g33 =>
 callT call 36 [(.agg g33)] S32 fun v35 S34 =>
 atL v35 0 fun v36a v36l v36c =>
 atI .i64 v35 1 fun v37 =>
 cond (v37 != 0) (
 S34.stn (.rw b1) 0 [(.int .u64 0), (.int .u64 0), (.int .u64 0), (.int .u64 0), (.int .i64 0), (.int .i64 0), (.sl none 0 (.ex 0))] fun S38 =>
 S38.ldn (.rw b1) 0 7 fun g39 =>
 some (.tup [(.agg g39), (.int .i64 81)], S38)) (
 callB call 78 [(.sl v36a v36l v36c), (.sl x0a x0l x0c)] S34 fun v41 S40 =>
 cond (!v41) (
 S40.stn (.rw b1) 0 [(.int .u64 0), (.int .u64 0), (.int .u64 0), (.int .u64 0), (.int .i64 0), (.int .i64 0), (.sl none 0 (.ex 0))] fun S42 =>
 S42.ldn (.rw b1) 0 7 fun g43 =>
 some (.tup [(.agg g43), (.int .i64 81)], S42)) (
 S40.ldn (.rw (b8 + 26)) 0 7 fun g44 =>
 ifO (g44.length = 7) <|
 S40.stn (.rw b1) 0 g44 fun S45 =>
 S45.ldn (.rw b1) 0 7 fun g46 =>
 some (.tup [(.agg g46), (.int .i64 0)], S45))))

theorem a69_entry (call : CallA) (n : Nat) (x0a : Option Pos) (x0l : Nat) (x0c : Cap) (S : AS) : evC E call n 69 (E.at 69 []) 0 (enumT 0 [(.sl x0a x0l x0c)]) S (retK E (E.fn 69)) = b69_entry call n  x0a x0l x0c S := by kernel_rfl
def J69 (call : CallA) (n : Nat) (x0a : Option Pos) (x0l : Nat) (x0c : Cap) (S : AS) : Option (AV × AS) := b69_entry call n  x0a x0l x0c S
theorem run69 (o : Orc) (n : Nat) (args : List AV) (S : AS) (ho : o 69 args = none) : evF E o (n + 1) (.fn 69) args S = evC E (evF E o n) n 69 (E.at 69 []) 0 (enumT 0 args) S (retK E (E.fn 69)) := by
  rw [evF, ho]; kernel_rfl
theorem J69_eq (call : CallA) (n : Nat) (x0a : Option Pos) (x0l : Nat) (x0c : Cap) (S : AS) : evC E call n 69 (E.at 69 []) 0 (enumT 0 [(.sl x0a x0l x0c)]) S (retK E (E.fn 69)) = J69 call n x0a x0l x0c S := by
  rw [J69, a69_entry]
theorem F69 {o : Orc} (n : Nat) (x0a : Option Pos) (x0l : Nat) (x0c : Cap) (S : AS) (ho : ∀ args, o 69 args = none) : evF E o (n + 1) (.fn 69) [(.sl x0a x0l x0c)] S = J69 (evF E o n) n x0a x0l x0c S := (run69 o n [(.sl x0a x0l x0c)] S (ho _)).trans (J69_eq _ _ x0a x0l x0c S)
def b70_entry (call : CallA) (n : Nat)   (x0 : List AV) (x1 : List AV) (S : AS) : Option (AV × AS) :=
 ifO (x0.length = 2) <|
 newA S (.cells x0) fun b1 S2 =>
 ifO (x1.length = 2) <|
 newA S2 (.cells x1) fun b3 S4 =>
 ldI .u64 S4 (.rw b1) 0 fun v5 =>
 ldI .u64 S4 (.rw b3) 0 fun v6 =>
 cond (decide (v5 > v6)) (
 some ((.bool true), S4)) (
 ldI .u64 S4 (.rw b1) 0 fun v7 =>
 ldI .u64 S4 (.rw b3) 0 fun v8 =>
 cond (v7 == v8) (
 ldI .u64 S4 (.rw b1) 1 fun v9 =>
 ldI .u64 S4 (.rw b3) 1 fun v10 =>
 some ((.bool (decide (v9 > v10))), S4)) (
 some ((.bool false), S4)))

theorem a70_entry (call : CallA) (n : Nat) (x0 : List AV) (x1 : List AV) (S : AS) : evC E call n 70 (E.at 70 []) 0 (enumT 0 [(.agg x0), (.agg x1)]) S (retK E (E.fn 70)) = b70_entry call n  x0 x1 S := by kernel_rfl
def J70 (call : CallA) (n : Nat) (x0 : List AV) (x1 : List AV) (S : AS) : Option (AV × AS) := b70_entry call n  x0 x1 S
theorem run70 (o : Orc) (n : Nat) (args : List AV) (S : AS) (ho : o 70 args = none) : evF E o (n + 1) (.fn 70) args S = evC E (evF E o n) n 70 (E.at 70 []) 0 (enumT 0 args) S (retK E (E.fn 70)) := by
  rw [evF, ho]; kernel_rfl
theorem J70_eq (call : CallA) (n : Nat) (x0 : List AV) (x1 : List AV) (S : AS) : evC E call n 70 (E.at 70 []) 0 (enumT 0 [(.agg x0), (.agg x1)]) S (retK E (E.fn 70)) = J70 call n x0 x1 S := by
  rw [J70, a70_entry]
theorem F70 {o : Orc} (n : Nat) (x0 : List AV) (x1 : List AV) (S : AS) (ho : ∀ args, o 70 args = none) : evF E o (n + 1) (.fn 70) [(.agg x0), (.agg x1)] S = J70 (evF E o n) n x0 x1 S := (run70 o n [(.agg x0), (.agg x1)] S (ho _)).trans (J70_eq _ _ x0 x1 S)
def b71_l1_1_1_1_1_0_1_0 (call : CallA) (n : Nat)  (l1_1_1_1_1_0_1_0 : Option Pos → Nat → Cap → Option Pos → Nat → Cap → AS → Option (AV × AS)) (j1_1_1_1_1_1 : Option Pos → Nat → Cap → AS → Option (AV × AS)) (w5a : Option Pos) (w5l : Nat) (w5c : Cap) (w6a : Option Pos) (w6l : Nat) (w6c : Cap) (S : AS) : Option (AV × AS) :=
 cond (decide (((w6l : Nat) : Int) > 0)) (
 drawA S 12 fun b5 S6 =>
 slSl 1 w6a w6l w6c none (some 4) none fun v7a v7l v7c =>
 callI .u64 call 77 [(.sl v7a v7l v7c)] S6 fun v9 S8 =>
 slSl 1 w6a w6l w6c (some 4) (some 388) none fun v10a v10l v10c =>
 callL call 79 [(.sl v10a v10l v10c)] S8 fun v12a v12l v12c S11 =>
 layA S11 (b5 + 9) (.cells [(.int .i64 (IntKind.wrap .i64 v9)), (.sl v12a v12l v12c)]) fun S13 =>
 appendA 2 32 S13 w5a w5l w5c 1 (firstA S13 2 1 (.sl (some (.rw (b5 + 9), 0)) 1 (.ex 1))) fun v14a v14l v14c S15 =>
 slSl 1 w6a w6l w6c (some 388) none none fun v16a v16l v16c =>
 l1_1_1_1_1_0_1_0 v14a v14l v14c v16a v16l v16c S15) (
 j1_1_1_1_1_1 w5a w5l w5c S)

def b71_j1_1_1_1_1_1 (call : CallA) (n : Nat)   (w5a : Option Pos) (w5l : Nat) (w5c : Cap) (S : AS) : Option (AV × AS) :=
 callT call 33 [(.sl w5a w5l w5c)] S fun v18 S17 =>
 atL v18 0 fun v19a v19l v19c =>
 atI .i64 v18 1 fun v20 =>
 cond (v20 != 0) (
 some (.tup [(.sl none 0 (.ex 0)), (.int .i64 v20)], S17)) (
 some (.tup [(.sl w5a w5l w5c), (.int .i64 0)], S17))

def b71_entry (call : CallA) (n : Nat)  (l1_1_1_1_1_0_1_0 : Option Pos → Nat → Cap → Option Pos → Nat → Cap → AS → Option (AV × AS)) (x0a : Option Pos) (x0l : Nat) (x0c : Cap) (S : AS) : Option (AV × AS) :=
 cond (decide (((x0l : Nat) : Int) < 4)) (
 some (.tup [(.sl none 0 (.ex 0)), (.int .i64 82)], S)) (
 slSl 1 x0a x0l x0c none (some 4) none fun v1a v1l v1c =>
 callI .u64 call 77 [(.sl v1a v1l v1c)] S fun v3 S2 =>
 cond (decide (v3 > 64)) (
 some (.tup [(.sl none 0 (.ex 0)), (.int .i64 82)], S2)) (
 cond ((IntKind.wrap .u64 (IntKind.wrap .i64 (((x0l : Nat) : Int) - 4))) != (IntKind.wrap .u64 (v3 * 388))) (
 some (.tup [(.sl none 0 (.ex 0)), (.int .i64 82)], S2)) (
 slSl 1 x0a x0l x0c (some 4) none none fun v4a v4l v4c =>
 l1_1_1_1_1_0_1_0 none 0 (.ex 0) v4a v4l v4c S2)))

def r71_l1_1_1_1_1_0_1_0 (call : CallA) (n : Nat)  (m : Nat) (w5a : Option Pos) (w5l : Nat) (w5c : Cap) (w6a : Option Pos) (w6l : Nat) (w6c : Cap) (S : AS) : Option (AV × AS) := loopN (evC E call n 71 (E.at 71 [1, 1, 1, 1, 1, 0, 1, 0, 0]) 0) [5, 6] m [(5, (.sl w5a w5l w5c)), (6, (.sl w6a w6l w6c))] S (kBlk 0 (kSeq E call n 71 (E.at 71 [1, 1, 1, 1, 1, 1]) 0 (retK E (E.fn 71))))
def r71_j1_1_1_1_1_1 (call : CallA) (n : Nat)  (w5a : Option Pos) (w5l : Nat) (w5c : Cap) (S : AS) : Option (AV × AS) := evC E call n 71 (E.at 71 [1, 1, 1, 1, 1, 1]) 0 [(5, (.sl w5a w5l w5c))] S (retK E (E.fn 71))
theorem a71_l1_1_1_1_1_0_1_0 (call : CallA) (n : Nat)  (m : Nat) (w5a : Option Pos) (w5l : Nat) (w5c : Cap) (w6a : Option Pos) (w6l : Nat) (w6c : Cap) (S : AS) : r71_l1_1_1_1_1_0_1_0 call n  (m + 1) w5a w5l w5c w6a w6l w6c S = b71_l1_1_1_1_1_0_1_0 call n (r71_l1_1_1_1_1_0_1_0 call n  m) (r71_j1_1_1_1_1_1 call n ) w5a w5l w5c w6a w6l w6c S := by kernel_rfl
theorem a71_j1_1_1_1_1_1 (call : CallA) (n : Nat)  (w5a : Option Pos) (w5l : Nat) (w5c : Cap) (S : AS) : r71_j1_1_1_1_1_1 call n  w5a w5l w5c S = b71_j1_1_1_1_1_1 call n  w5a w5l w5c S := by kernel_rfl
theorem a71_entry (call : CallA) (n : Nat) (x0a : Option Pos) (x0l : Nat) (x0c : Cap) (S : AS) : evC E call n 71 (E.at 71 []) 0 (enumT 0 [(.sl x0a x0l x0c)]) S (retK E (E.fn 71)) = b71_entry call n (r71_l1_1_1_1_1_0_1_0 call n  n) x0a x0l x0c S := by kernel_rfl
def J71_j1_1_1_1_1_1 (call : CallA) (n : Nat)  (w5a : Option Pos) (w5l : Nat) (w5c : Cap) (S : AS) : Option (AV × AS) := b71_j1_1_1_1_1_1 call n  w5a w5l w5c S
theorem h71_j1_1_1_1_1_1 (call : CallA) (n : Nat)  : r71_j1_1_1_1_1_1 call n  = J71_j1_1_1_1_1_1 call n  := by
  funext w5a w5l w5c S
  rw [J71_j1_1_1_1_1_1, a71_j1_1_1_1_1_1]
def J71_l1_1_1_1_1_0_1_0 (call : CallA) (n : Nat)  (m : Nat) : Option Pos → Nat → Cap → Option Pos → Nat → Cap → AS → Option (AV × AS) := Nat.rec (motive := fun _ => Option Pos → Nat → Cap → Option Pos → Nat → Cap → AS → Option (AV × AS)) (fun _ _ _ _ _ _ _ => none) (fun mK ih w5a w5l w5c w6a w6l w6c S => b71_l1_1_1_1_1_0_1_0 call n ih (J71_j1_1_1_1_1_1 call n ) w5a w5l w5c w6a w6l w6c S) m
theorem J71_l1_1_1_1_1_0_1_0_succ (call : CallA) (n : Nat)  (m : Nat) (w5a : Option Pos) (w5l : Nat) (w5c : Cap) (w6a : Option Pos) (w6l : Nat) (w6c : Cap) (S : AS) : J71_l1_1_1_1_1_0_1_0 call n  (m + 1) w5a w5l w5c w6a w6l w6c S = b71_l1_1_1_1_1_0_1_0 call n (J71_l1_1_1_1_1_0_1_0 call n  m) (J71_j1_1_1_1_1_1 call n ) w5a w5l w5c w6a w6l w6c S := rfl
theorem h71_l1_1_1_1_1_0_1_0 (call : CallA) (n : Nat)  (m : Nat) : r71_l1_1_1_1_1_0_1_0 call n  m = J71_l1_1_1_1_1_0_1_0 call n  m := by
  induction m with
  | zero => rfl
  | succ m ih =>
    funext w5a w5l w5c w6a w6l w6c S
    rw [J71_l1_1_1_1_1_0_1_0_succ, a71_l1_1_1_1_1_0_1_0, h71_j1_1_1_1_1_1 call n , ih]
def J71 (call : CallA) (n : Nat) (x0a : Option Pos) (x0l : Nat) (x0c : Cap) (S : AS) : Option (AV × AS) := b71_entry call n (J71_l1_1_1_1_1_0_1_0 call n  n) x0a x0l x0c S
theorem run71 (o : Orc) (n : Nat) (args : List AV) (S : AS) (ho : o 71 args = none) : evF E o (n + 1) (.fn 71) args S = evC E (evF E o n) n 71 (E.at 71 []) 0 (enumT 0 args) S (retK E (E.fn 71)) := by
  rw [evF, ho]; kernel_rfl
theorem J71_eq (call : CallA) (n : Nat) (x0a : Option Pos) (x0l : Nat) (x0c : Cap) (S : AS) : evC E call n 71 (E.at 71 []) 0 (enumT 0 [(.sl x0a x0l x0c)]) S (retK E (E.fn 71)) = J71 call n x0a x0l x0c S := by
  rw [J71, a71_entry, h71_l1_1_1_1_1_0_1_0 call n  n]
theorem F71 {o : Orc} (n : Nat) (x0a : Option Pos) (x0l : Nat) (x0c : Cap) (S : AS) (ho : ∀ args, o 71 args = none) : evF E o (n + 1) (.fn 71) [(.sl x0a x0l x0c)] S = J71 (evF E o n) n x0a x0l x0c S := (run71 o n [(.sl x0a x0l x0c)] S (ho _)).trans (J71_eq _ _ x0a x0l x0c S)
def b72_l1_0 (call : CallA) (n : Nat)  (l1_0 : Option Pos → Nat → Cap → Int → Int → AS → Option (AV × AS)) (w0a : Option Pos) (w0l : Nat) (w0c : Cap) (w1 : Int) (w4 : Int) (S : AS) : Option (AV × AS) :=
 cond (decide (w4 ≥ 0)) (
 ixSl 1 w0a w0l w4 fun p1 =>
 S.stn p1.1 p1.2 [(.int .u8 (IntKind.wrap .u8 w1))] fun S2 =>
 l1_0 w0a w0l w0c (shrI .u64 w1 8) (IntKind.wrap .i64 (w4 - 1)) S2) (
 some (.tup [], S))

def b72_entry (call : CallA) (n : Nat)  (l1_0 : Option Pos → Nat → Cap → Int → Int → AS → Option (AV × AS)) (x0a : Option Pos) (x0l : Nat) (x0c : Cap) (x1 : Int) (S : AS) : Option (AV × AS) :=
 l1_0 x0a x0l x0c x1 (IntKind.wrap .i64 (((x0l : Nat) : Int) - 1)) S

def r72_l1_0 (call : CallA) (n : Nat)  (m : Nat) (w0a : Option Pos) (w0l : Nat) (w0c : Cap) (w1 : Int) (w4 : Int) (S : AS) : Option (AV × AS) := loopN (evC E call n 72 (E.at 72 [1, 0, 0]) 0) [0, 1, 4] m [(0, (.sl w0a w0l w0c)), (1, (.int .u64 w1)), (4, (.int .i64 w4))] S (kBlk 0 (retK E (E.fn 72)))
theorem a72_l1_0 (call : CallA) (n : Nat)  (m : Nat) (w0a : Option Pos) (w0l : Nat) (w0c : Cap) (w1 : Int) (w4 : Int) (S : AS) : r72_l1_0 call n  (m + 1) w0a w0l w0c w1 w4 S = b72_l1_0 call n (r72_l1_0 call n  m) w0a w0l w0c w1 w4 S := by kernel_rfl
theorem a72_entry (call : CallA) (n : Nat) (x0a : Option Pos) (x0l : Nat) (x0c : Cap) (x1 : Int) (S : AS) : evC E call n 72 (E.at 72 []) 0 (enumT 0 [(.sl x0a x0l x0c), (.int .u64 x1)]) S (retK E (E.fn 72)) = b72_entry call n (r72_l1_0 call n  n) x0a x0l x0c x1 S := by kernel_rfl
def J72_l1_0 (call : CallA) (n : Nat)  (m : Nat) : Option Pos → Nat → Cap → Int → Int → AS → Option (AV × AS) := Nat.rec (motive := fun _ => Option Pos → Nat → Cap → Int → Int → AS → Option (AV × AS)) (fun _ _ _ _ _ _ => none) (fun mK ih w0a w0l w0c w1 w4 S => b72_l1_0 call n ih w0a w0l w0c w1 w4 S) m
theorem J72_l1_0_succ (call : CallA) (n : Nat)  (m : Nat) (w0a : Option Pos) (w0l : Nat) (w0c : Cap) (w1 : Int) (w4 : Int) (S : AS) : J72_l1_0 call n  (m + 1) w0a w0l w0c w1 w4 S = b72_l1_0 call n (J72_l1_0 call n  m) w0a w0l w0c w1 w4 S := rfl
theorem h72_l1_0 (call : CallA) (n : Nat)  (m : Nat) : r72_l1_0 call n  m = J72_l1_0 call n  m := by
  induction m with
  | zero => rfl
  | succ m ih =>
    funext w0a w0l w0c w1 w4 S
    rw [J72_l1_0_succ, a72_l1_0, ih]
def J72 (call : CallA) (n : Nat) (x0a : Option Pos) (x0l : Nat) (x0c : Cap) (x1 : Int) (S : AS) : Option (AV × AS) := b72_entry call n (J72_l1_0 call n  n) x0a x0l x0c x1 S
theorem run72 (o : Orc) (n : Nat) (args : List AV) (S : AS) (ho : o 72 args = none) : evF E o (n + 1) (.fn 72) args S = evC E (evF E o n) n 72 (E.at 72 []) 0 (enumT 0 args) S (retK E (E.fn 72)) := by
  rw [evF, ho]; kernel_rfl
theorem J72_eq (call : CallA) (n : Nat) (x0a : Option Pos) (x0l : Nat) (x0c : Cap) (x1 : Int) (S : AS) : evC E call n 72 (E.at 72 []) 0 (enumT 0 [(.sl x0a x0l x0c), (.int .u64 x1)]) S (retK E (E.fn 72)) = J72 call n x0a x0l x0c x1 S := by
  rw [J72, a72_entry, h72_l1_0 call n  n]
theorem F72 {o : Orc} (n : Nat) (x0a : Option Pos) (x0l : Nat) (x0c : Cap) (x1 : Int) (S : AS) (ho : ∀ args, o 72 args = none) : evF E o (n + 1) (.fn 72) [(.sl x0a x0l x0c), (.int .u64 x1)] S = J72 (evF E o n) n x0a x0l x0c x1 S := (run72 o n [(.sl x0a x0l x0c), (.int .u64 x1)] S (ho _)).trans (J72_eq _ _ x0a x0l x0c x1 S)
def b73_l1_1_0_1_0 (call : CallA) (n : Nat)  (l1_1_0_1_0 : Option Pos → Nat → Cap → Int → Int → Int → Int → AS → Option (AV × AS)) (w0a : Option Pos) (w0l : Nat) (w0c : Cap) (w1 : Int) (w2 : Int) (w7 : Int) (w8 : Int) (S : AS) : Option (AV × AS) :=
 cond (decide (w8 < w2)) (
 ixSl 1 w0a w0l (IntKind.wrap .i64 (w1 + w8)) fun p1 =>
 ldI .u8 S p1.1 p1.2 fun v2 =>
 l1_1_0_1_0 w0a w0l w0c w1 w2 (orI .u64 (shlI .u64 w7 8) (IntKind.wrap .u64 v2)) (IntKind.wrap .i64 (w8 + 1)) S) (
 some ((.int .u64 w7), S))

def b73_entry (call : CallA) (n : Nat)  (l1_1_0_1_0 : Option Pos → Nat → Cap → Int → Int → Int → Int → AS → Option (AV × AS)) (x0a : Option Pos) (x0l : Nat) (x0c : Cap) (x1 : Int) (x2 : Int) (S : AS) : Option (AV × AS) :=
 l1_1_0_1_0 x0a x0l x0c x1 x2 0 0 S

def r73_l1_1_0_1_0 (call : CallA) (n : Nat)  (m : Nat) (w0a : Option Pos) (w0l : Nat) (w0c : Cap) (w1 : Int) (w2 : Int) (w7 : Int) (w8 : Int) (S : AS) : Option (AV × AS) := loopN (evC E call n 73 (E.at 73 [1, 1, 0, 1, 0, 0]) 0) [0, 1, 2, 7, 8] m [(0, (.sl w0a w0l w0c)), (1, (.int .i64 w1)), (2, (.int .i64 w2)), (7, (.int .u64 w7)), (8, (.int .i64 w8))] S (kBlk 0 (kSeq E call n 73 (E.at 73 [1, 1, 1]) 0 (retK E (E.fn 73))))
theorem a73_l1_1_0_1_0 (call : CallA) (n : Nat)  (m : Nat) (w0a : Option Pos) (w0l : Nat) (w0c : Cap) (w1 : Int) (w2 : Int) (w7 : Int) (w8 : Int) (S : AS) : r73_l1_1_0_1_0 call n  (m + 1) w0a w0l w0c w1 w2 w7 w8 S = b73_l1_1_0_1_0 call n (r73_l1_1_0_1_0 call n  m) w0a w0l w0c w1 w2 w7 w8 S := by kernel_rfl
theorem a73_entry (call : CallA) (n : Nat) (x0a : Option Pos) (x0l : Nat) (x0c : Cap) (x1 : Int) (x2 : Int) (S : AS) : evC E call n 73 (E.at 73 []) 0 (enumT 0 [(.sl x0a x0l x0c), (.int .i64 x1), (.int .i64 x2)]) S (retK E (E.fn 73)) = b73_entry call n (r73_l1_1_0_1_0 call n  n) x0a x0l x0c x1 x2 S := by kernel_rfl
def J73_l1_1_0_1_0 (call : CallA) (n : Nat)  (m : Nat) : Option Pos → Nat → Cap → Int → Int → Int → Int → AS → Option (AV × AS) := Nat.rec (motive := fun _ => Option Pos → Nat → Cap → Int → Int → Int → Int → AS → Option (AV × AS)) (fun _ _ _ _ _ _ _ _ => none) (fun mK ih w0a w0l w0c w1 w2 w7 w8 S => b73_l1_1_0_1_0 call n ih w0a w0l w0c w1 w2 w7 w8 S) m
theorem J73_l1_1_0_1_0_succ (call : CallA) (n : Nat)  (m : Nat) (w0a : Option Pos) (w0l : Nat) (w0c : Cap) (w1 : Int) (w2 : Int) (w7 : Int) (w8 : Int) (S : AS) : J73_l1_1_0_1_0 call n  (m + 1) w0a w0l w0c w1 w2 w7 w8 S = b73_l1_1_0_1_0 call n (J73_l1_1_0_1_0 call n  m) w0a w0l w0c w1 w2 w7 w8 S := rfl
theorem h73_l1_1_0_1_0 (call : CallA) (n : Nat)  (m : Nat) : r73_l1_1_0_1_0 call n  m = J73_l1_1_0_1_0 call n  m := by
  induction m with
  | zero => rfl
  | succ m ih =>
    funext w0a w0l w0c w1 w2 w7 w8 S
    rw [J73_l1_1_0_1_0_succ, a73_l1_1_0_1_0, ih]
def J73 (call : CallA) (n : Nat) (x0a : Option Pos) (x0l : Nat) (x0c : Cap) (x1 : Int) (x2 : Int) (S : AS) : Option (AV × AS) := b73_entry call n (J73_l1_1_0_1_0 call n  n) x0a x0l x0c x1 x2 S
theorem run73 (o : Orc) (n : Nat) (args : List AV) (S : AS) (ho : o 73 args = none) : evF E o (n + 1) (.fn 73) args S = evC E (evF E o n) n 73 (E.at 73 []) 0 (enumT 0 args) S (retK E (E.fn 73)) := by
  rw [evF, ho]; kernel_rfl
theorem J73_eq (call : CallA) (n : Nat) (x0a : Option Pos) (x0l : Nat) (x0c : Cap) (x1 : Int) (x2 : Int) (S : AS) : evC E call n 73 (E.at 73 []) 0 (enumT 0 [(.sl x0a x0l x0c), (.int .i64 x1), (.int .i64 x2)]) S (retK E (E.fn 73)) = J73 call n x0a x0l x0c x1 x2 S := by
  rw [J73, a73_entry, h73_l1_1_0_1_0 call n  n]
theorem F73 {o : Orc} (n : Nat) (x0a : Option Pos) (x0l : Nat) (x0c : Cap) (x1 : Int) (x2 : Int) (S : AS) (ho : ∀ args, o 73 args = none) : evF E o (n + 1) (.fn 73) [(.sl x0a x0l x0c), (.int .i64 x1), (.int .i64 x2)] S = J73 (evF E o n) n x0a x0l x0c x1 x2 S := (run73 o n [(.sl x0a x0l x0c), (.int .i64 x1), (.int .i64 x2)] S (ho _)).trans (J73_eq _ _ x0a x0l x0c x1 x2 S)
def b74_entry (call : CallA) (n : Nat)   (x0 : Option Pos) (x1 : Int) (S : AS) : Option (AV × AS) :=
 newA S (.cells [(.int .u64 0), (.int .u64 0), (.int .u64 0), (.int .u64 0), (.int .i64 0), (.int .i64 0), (.sl none 0 (.ex 0))]) fun b1 S2 =>
 gO x0 fun p3 =>
 ldP S2 p3.1 p3.2 fun v4 =>
 callI .i64 call 67 [(.ptr x0), (.int .u64 x1)] S2 fun v6 S5 =>
 ldP S5 p3.1 p3.2 fun v7 =>
 cond (AV.beq (.ptr v7) (.ptr v4)) (
 callT call 59 [(.ptr v4), (.int .i64 v6)] S5 fun v9 S8 =>
 atL v9 0 fun v10a v10l v10c =>
 atI .i64 v9 1 fun v11 =>
 callT call 80 [(.sl v10a v10l v10c)] S8 fun v13 S12 =>
 atG 7 v13 0 fun g14 =>
 atI .i64 v13 1 fun v15 =>
 newA S12 (.cells [(.int .u64 0), (.int .u64 0), (.int .u64 0), (.int .u64 0), (.int .i64 0), (.int .i64 0), (.sl none 0 (.ex 0))]) fun b16 S17 =>
 ifO (g14.length = 7) <|
 S17.stn (.rw b16) 0 g14 fun S18 =>
 S18.ldn (.rw b16) 0 7 fun g19 =>
 cond (v15 == 0) (
 ldI .u64 S18 (.rw b16) 2 fun v20 =>
 ifO (g19.length = 7) <|
 S18.stn (.rw b1) 0 g19 fun S21 =>
 ldI .u64 S21 (.rw b16) 2 fun v22 =>
 cond (AV.beq (.int .u64 v22) (.int .u64 v20)) (
 S21.ldn (.rw b1) 0 7 fun g23 =>
 some (.tup [(.agg g23), (.bool (v20 == x1))], S21)) none) (
 ifO (g19.length = 7) <|
 S18.stn (.rw b1) 0 g19 fun S24 =>
 S24.ldn (.rw b1) 0 7 fun g25 =>
 some (.tup [(.agg g25), (.bool false)], S24))) none

theorem a74_entry (call : CallA) (n : Nat) (x0 : Option Pos) (x1 : Int) (S : AS) : evC E call n 74 (E.at 74 []) 0 (enumT 0 [(.ptr x0), (.int .u64 x1)]) S (retK E (E.fn 74)) = b74_entry call n  x0 x1 S := by kernel_rfl
def J74 (call : CallA) (n : Nat) (x0 : Option Pos) (x1 : Int) (S : AS) : Option (AV × AS) := b74_entry call n  x0 x1 S
theorem run74 (o : Orc) (n : Nat) (args : List AV) (S : AS) (ho : o 74 args = none) : evF E o (n + 1) (.fn 74) args S = evC E (evF E o n) n 74 (E.at 74 []) 0 (enumT 0 args) S (retK E (E.fn 74)) := by
  rw [evF, ho]; kernel_rfl
theorem J74_eq (call : CallA) (n : Nat) (x0 : Option Pos) (x1 : Int) (S : AS) : evC E call n 74 (E.at 74 []) 0 (enumT 0 [(.ptr x0), (.int .u64 x1)]) S (retK E (E.fn 74)) = J74 call n x0 x1 S := by
  rw [J74, a74_entry]
theorem F74 {o : Orc} (n : Nat) (x0 : Option Pos) (x1 : Int) (S : AS) (ho : ∀ args, o 74 args = none) : evF E o (n + 1) (.fn 74) [(.ptr x0), (.int .u64 x1)] S = J74 (evF E o n) n x0 x1 S := (run74 o n [(.ptr x0), (.int .u64 x1)] S (ho _)).trans (J74_eq _ _ x0 x1 S)
def b75_entry (call : CallA) (n : Nat)   (x0 : List AV) (x1 : List AV) (S : AS) : Option (AV × AS) :=
 ifO (x0.length = 2) <|
 newA S (.cells x0) fun b1 S2 =>
 ifO (x1.length = 2) <|
 newA S2 (.cells x1) fun b3 S4 =>
 ldI .u64 S4 (.rw b1) 0 fun v5 =>
 ldI .u64 S4 (.rw b3) 0 fun v6 =>
 cond (decide (v5 > v6)) (
 some ((.bool true), S4)) (
 ldI .u64 S4 (.rw b1) 0 fun v7 =>
 ldI .u64 S4 (.rw b3) 0 fun v8 =>
 cond (v7 == v8) (
 ldI .u64 S4 (.rw b1) 1 fun v9 =>
 ldI .u64 S4 (.rw b3) 1 fun v10 =>
 some ((.bool (decide (v9 > v10))), S4)) (
 some ((.bool false), S4)))

theorem a75_entry (call : CallA) (n : Nat) (x0 : List AV) (x1 : List AV) (S : AS) : evC E call n 75 (E.at 75 []) 0 (enumT 0 [(.agg x0), (.agg x1)]) S (retK E (E.fn 75)) = b75_entry call n  x0 x1 S := by kernel_rfl
def J75 (call : CallA) (n : Nat) (x0 : List AV) (x1 : List AV) (S : AS) : Option (AV × AS) := b75_entry call n  x0 x1 S
theorem run75 (o : Orc) (n : Nat) (args : List AV) (S : AS) (ho : o 75 args = none) : evF E o (n + 1) (.fn 75) args S = evC E (evF E o n) n 75 (E.at 75 []) 0 (enumT 0 args) S (retK E (E.fn 75)) := by
  rw [evF, ho]; kernel_rfl
theorem J75_eq (call : CallA) (n : Nat) (x0 : List AV) (x1 : List AV) (S : AS) : evC E call n 75 (E.at 75 []) 0 (enumT 0 [(.agg x0), (.agg x1)]) S (retK E (E.fn 75)) = J75 call n x0 x1 S := by
  rw [J75, a75_entry]
theorem F75 {o : Orc} (n : Nat) (x0 : List AV) (x1 : List AV) (S : AS) (ho : ∀ args, o 75 args = none) : evF E o (n + 1) (.fn 75) [(.agg x0), (.agg x1)] S = J75 (evF E o n) n x0 x1 S := (run75 o n [(.agg x0), (.agg x1)] S (ho _)).trans (J75_eq _ _ x0 x1 S)
def b76_l1_1_1_0_1_0 (call : CallA) (n : Nat)  (l1_1_1_0_1_0 : Option Pos → Nat → Cap → Option Pos → Nat → Cap → Int → Option Pos → Nat → Cap → Int → AS → Option (AV × AS)) (j1_1_1_1 : Option Pos → Nat → Cap → AS → Option (AV × AS)) (w0a : Option Pos) (w0l : Nat) (w0c : Cap) (w2a : Option Pos) (w2l : Nat) (w2c : Cap) (w3 : Int) (w4a : Option Pos) (w4l : Nat) (w4c : Cap) (w5 : Int) (S : AS) : Option (AV × AS) :=
 cond (decide (w5 < ((w0l : Nat) : Int))) (
 callI .u64 call 73 [(.sl w0a w0l w0c), (.int .i64 w5), (.int .i64 4)] S fun v8 S7 =>
 cond (decide (v8 > 2147483647)) (
 some (.tup [(.sl none 0 (.ex 0)), (.int .i64 82)], S7)) (
 newA S7 (.cells []) fun b9 S10 =>
 slSl 1 w0a w0l w0c (some (IntKind.wrap .i64 (w5 + 4))) (some (IntKind.wrap .i64 ((IntKind.wrap .i64 (w5 + 4)) + 384))) none fun v11a v11l v11c =>
 appendA 1 1 S10 (some (.rw b9, 0)) 0 (.ex 0) v11l (firstA S10 1 v11l (.sl v11a v11l v11c)) fun v12a v12l v12c S13 =>
 newA S13 (.cells [(.int .i64 (IntKind.wrap .i64 v8)), (.sl v12a v12l v12c)]) fun b14 S15 =>
 appendA 2 32 S15 w4a w4l w4c 1 (firstA S15 2 1 (.sl (some (.rw b14, 0)) 1 (.ex 1))) fun v16a v16l v16c S17 =>
 l1_1_1_0_1_0 w0a w0l w0c w2a w2l w2c w3 v16a v16l v16c (IntKind.wrap .i64 ((IntKind.wrap .i64 (w5 + 384)) + 4)) S17)) (
 j1_1_1_1 w4a w4l w4c S)

def b76_j1_1_1_1 (call : CallA) (n : Nat)   (w4a : Option Pos) (w4l : Nat) (w4c : Cap) (S : AS) : Option (AV × AS) :=
 some (.tup [(.sl w4a w4l w4c), (.int .i64 0)], S)

def b76_entry (call : CallA) (n : Nat)  (l1_1_1_0_1_0 : Option Pos → Nat → Cap → Option Pos → Nat → Cap → Int → Option Pos → Nat → Cap → Int → AS → Option (AV × AS)) (x0a : Option Pos) (x0l : Nat) (x0c : Cap) (S : AS) : Option (AV × AS) :=
 cond (decide (((x0l : Nat) : Int) < 4)) (
 some (.tup [(.sl none 0 (.ex 0)), (.int .i64 82)], S)) (
 callI .u64 call 73 [(.sl x0a x0l x0c), (.int .i64 0), (.int .i64 4)] S fun v2 S1 =>
 cond (decide (v2 > 64)) (
 some (.tup [(.sl none 0 (.ex 0)), (.int .i64 82)], S1)) (
 callI .u64 call 73 [(.sl x0a x0l x0c), (.int .i64 0), (.int .i64 4)] S1 fun v4 S3 =>
 cond (decide (v4 < 1)) (
 some (.tup [(.sl none 0 (.ex 0)), (.int .i64 82)], S3)) (
 callI .u64 call 73 [(.sl x0a x0l x0c), (.int .i64 0), (.int .i64 4)] S3 fun v6 S5 =>
 cond (((x0l : Nat) : Int) != (IntKind.wrap .i64 (4 + (IntKind.wrap .i64 (388 * (IntKind.wrap .i64 v6)))))) (
 some (.tup [(.sl none 0 (.ex 0)), (.int .i64 82)], S5)) (
 l1_1_1_0_1_0 x0a x0l x0c none 0 (.ex 0) 0 none 0 (.ex 0) 4 S5))))

def r76_l1_1_1_0_1_0 (call : CallA) (n : Nat)  (m : Nat) (w0a : Option Pos) (w0l : Nat) (w0c : Cap) (w2a : Option Pos) (w2l : Nat) (w2c : Cap) (w3 : Int) (w4a : Option Pos) (w4l : Nat) (w4c : Cap) (w5 : Int) (S : AS) : Option (AV × AS) := loopN (evC E call n 76 (E.at 76 [1, 1, 1, 0, 1, 0, 0]) 0) [0, 2, 3, 4, 5] m [(0, (.sl w0a w0l w0c)), (2, (.sl w2a w2l w2c)), (3, (.int .i64 w3)), (4, (.sl w4a w4l w4c)), (5, (.int .i64 w5))] S (kBlk 0 (kSeq E call n 76 (E.at 76 [1, 1, 1, 1]) 0 (retK E (E.fn 76))))
def r76_j1_1_1_1 (call : CallA) (n : Nat)  (w4a : Option Pos) (w4l : Nat) (w4c : Cap) (S : AS) : Option (AV × AS) := evC E call n 76 (E.at 76 [1, 1, 1, 1]) 0 [(4, (.sl w4a w4l w4c))] S (retK E (E.fn 76))
theorem a76_l1_1_1_0_1_0 (call : CallA) (n : Nat)  (m : Nat) (w0a : Option Pos) (w0l : Nat) (w0c : Cap) (w2a : Option Pos) (w2l : Nat) (w2c : Cap) (w3 : Int) (w4a : Option Pos) (w4l : Nat) (w4c : Cap) (w5 : Int) (S : AS) : r76_l1_1_1_0_1_0 call n  (m + 1) w0a w0l w0c w2a w2l w2c w3 w4a w4l w4c w5 S = b76_l1_1_1_0_1_0 call n (r76_l1_1_1_0_1_0 call n  m) (r76_j1_1_1_1 call n ) w0a w0l w0c w2a w2l w2c w3 w4a w4l w4c w5 S := by kernel_rfl
theorem a76_j1_1_1_1 (call : CallA) (n : Nat)  (w4a : Option Pos) (w4l : Nat) (w4c : Cap) (S : AS) : r76_j1_1_1_1 call n  w4a w4l w4c S = b76_j1_1_1_1 call n  w4a w4l w4c S := by kernel_rfl
theorem a76_entry (call : CallA) (n : Nat) (x0a : Option Pos) (x0l : Nat) (x0c : Cap) (S : AS) : evC E call n 76 (E.at 76 []) 0 (enumT 0 [(.sl x0a x0l x0c)]) S (retK E (E.fn 76)) = b76_entry call n (r76_l1_1_1_0_1_0 call n  n) x0a x0l x0c S := by kernel_rfl
def J76_j1_1_1_1 (call : CallA) (n : Nat)  (w4a : Option Pos) (w4l : Nat) (w4c : Cap) (S : AS) : Option (AV × AS) := b76_j1_1_1_1 call n  w4a w4l w4c S
theorem h76_j1_1_1_1 (call : CallA) (n : Nat)  : r76_j1_1_1_1 call n  = J76_j1_1_1_1 call n  := by
  funext w4a w4l w4c S
  rw [J76_j1_1_1_1, a76_j1_1_1_1]
def J76_l1_1_1_0_1_0 (call : CallA) (n : Nat)  (m : Nat) : Option Pos → Nat → Cap → Option Pos → Nat → Cap → Int → Option Pos → Nat → Cap → Int → AS → Option (AV × AS) := Nat.rec (motive := fun _ => Option Pos → Nat → Cap → Option Pos → Nat → Cap → Int → Option Pos → Nat → Cap → Int → AS → Option (AV × AS)) (fun _ _ _ _ _ _ _ _ _ _ _ _ => none) (fun mK ih w0a w0l w0c w2a w2l w2c w3 w4a w4l w4c w5 S => b76_l1_1_1_0_1_0 call n ih (J76_j1_1_1_1 call n ) w0a w0l w0c w2a w2l w2c w3 w4a w4l w4c w5 S) m
theorem J76_l1_1_1_0_1_0_succ (call : CallA) (n : Nat)  (m : Nat) (w0a : Option Pos) (w0l : Nat) (w0c : Cap) (w2a : Option Pos) (w2l : Nat) (w2c : Cap) (w3 : Int) (w4a : Option Pos) (w4l : Nat) (w4c : Cap) (w5 : Int) (S : AS) : J76_l1_1_1_0_1_0 call n  (m + 1) w0a w0l w0c w2a w2l w2c w3 w4a w4l w4c w5 S = b76_l1_1_1_0_1_0 call n (J76_l1_1_1_0_1_0 call n  m) (J76_j1_1_1_1 call n ) w0a w0l w0c w2a w2l w2c w3 w4a w4l w4c w5 S := rfl
theorem h76_l1_1_1_0_1_0 (call : CallA) (n : Nat)  (m : Nat) : r76_l1_1_1_0_1_0 call n  m = J76_l1_1_1_0_1_0 call n  m := by
  induction m with
  | zero => rfl
  | succ m ih =>
    funext w0a w0l w0c w2a w2l w2c w3 w4a w4l w4c w5 S
    rw [J76_l1_1_1_0_1_0_succ, a76_l1_1_1_0_1_0, h76_j1_1_1_1 call n , ih]
def J76 (call : CallA) (n : Nat) (x0a : Option Pos) (x0l : Nat) (x0c : Cap) (S : AS) : Option (AV × AS) := b76_entry call n (J76_l1_1_1_0_1_0 call n  n) x0a x0l x0c S
theorem run76 (o : Orc) (n : Nat) (args : List AV) (S : AS) (ho : o 76 args = none) : evF E o (n + 1) (.fn 76) args S = evC E (evF E o n) n 76 (E.at 76 []) 0 (enumT 0 args) S (retK E (E.fn 76)) := by
  rw [evF, ho]; kernel_rfl
theorem J76_eq (call : CallA) (n : Nat) (x0a : Option Pos) (x0l : Nat) (x0c : Cap) (S : AS) : evC E call n 76 (E.at 76 []) 0 (enumT 0 [(.sl x0a x0l x0c)]) S (retK E (E.fn 76)) = J76 call n x0a x0l x0c S := by
  rw [J76, a76_entry, h76_l1_1_1_0_1_0 call n  n]
theorem F76 {o : Orc} (n : Nat) (x0a : Option Pos) (x0l : Nat) (x0c : Cap) (S : AS) (ho : ∀ args, o 76 args = none) : evF E o (n + 1) (.fn 76) [(.sl x0a x0l x0c)] S = J76 (evF E o n) n x0a x0l x0c S := (run76 o n [(.sl x0a x0l x0c)] S (ho _)).trans (J76_eq _ _ x0a x0l x0c S)
def b77_l1_1_0_1_0 (call : CallA) (n : Nat)  (l1_1_0_1_0 : Int → Option Pos → Nat → Cap → Int → Int → AS → Option (AV × AS)) (w3 : Int) (w6a : Option Pos) (w6l : Nat) (w6c : Cap) (w7 : Int) (w8 : Int) (S : AS) : Option (AV × AS) :=
 cond (decide (w8 < w7)) (
 ixSl 1 w6a w6l w8 fun p1 =>
 ldI .u8 S p1.1 p1.2 fun v2 =>
 l1_1_0_1_0 (orI .u64 (shlI .u64 w3 8) (IntKind.wrap .u64 v2)) w6a w6l w6c w7 (IntKind.wrap .i64 (w8 + 1)) S) (
 some ((.int .u64 w3), S))

def b77_entry (call : CallA) (n : Nat)  (l1_1_0_1_0 : Int → Option Pos → Nat → Cap → Int → Int → AS → Option (AV × AS)) (x0a : Option Pos) (x0l : Nat) (x0c : Cap) (S : AS) : Option (AV × AS) :=
 l1_1_0_1_0 0 x0a x0l x0c ((x0l : Nat) : Int) 0 S

def r77_l1_1_0_1_0 (call : CallA) (n : Nat)  (m : Nat) (w3 : Int) (w6a : Option Pos) (w6l : Nat) (w6c : Cap) (w7 : Int) (w8 : Int) (S : AS) : Option (AV × AS) := loopN (evC E call n 77 (E.at 77 [1, 1, 0, 1, 0, 0]) 0) [3, 6, 7, 8] m [(3, (.int .u64 w3)), (6, (.sl w6a w6l w6c)), (7, (.int .i64 w7)), (8, (.int .i64 w8))] S (kBlk 0 (kSeq E call n 77 (E.at 77 [1, 1, 1]) 0 (retK E (E.fn 77))))
theorem a77_l1_1_0_1_0 (call : CallA) (n : Nat)  (m : Nat) (w3 : Int) (w6a : Option Pos) (w6l : Nat) (w6c : Cap) (w7 : Int) (w8 : Int) (S : AS) : r77_l1_1_0_1_0 call n  (m + 1) w3 w6a w6l w6c w7 w8 S = b77_l1_1_0_1_0 call n (r77_l1_1_0_1_0 call n  m) w3 w6a w6l w6c w7 w8 S := by kernel_rfl
theorem a77_entry (call : CallA) (n : Nat) (x0a : Option Pos) (x0l : Nat) (x0c : Cap) (S : AS) : evC E call n 77 (E.at 77 []) 0 (enumT 0 [(.sl x0a x0l x0c)]) S (retK E (E.fn 77)) = b77_entry call n (r77_l1_1_0_1_0 call n  n) x0a x0l x0c S := by kernel_rfl
def J77_l1_1_0_1_0 (call : CallA) (n : Nat)  (m : Nat) : Int → Option Pos → Nat → Cap → Int → Int → AS → Option (AV × AS) := Nat.rec (motive := fun _ => Int → Option Pos → Nat → Cap → Int → Int → AS → Option (AV × AS)) (fun _ _ _ _ _ _ _ => none) (fun mK ih w3 w6a w6l w6c w7 w8 S => b77_l1_1_0_1_0 call n ih w3 w6a w6l w6c w7 w8 S) m
theorem J77_l1_1_0_1_0_succ (call : CallA) (n : Nat)  (m : Nat) (w3 : Int) (w6a : Option Pos) (w6l : Nat) (w6c : Cap) (w7 : Int) (w8 : Int) (S : AS) : J77_l1_1_0_1_0 call n  (m + 1) w3 w6a w6l w6c w7 w8 S = b77_l1_1_0_1_0 call n (J77_l1_1_0_1_0 call n  m) w3 w6a w6l w6c w7 w8 S := rfl
theorem h77_l1_1_0_1_0 (call : CallA) (n : Nat)  (m : Nat) : r77_l1_1_0_1_0 call n  m = J77_l1_1_0_1_0 call n  m := by
  induction m with
  | zero => rfl
  | succ m ih =>
    funext w3 w6a w6l w6c w7 w8 S
    rw [J77_l1_1_0_1_0_succ, a77_l1_1_0_1_0, ih]
def J77 (call : CallA) (n : Nat) (x0a : Option Pos) (x0l : Nat) (x0c : Cap) (S : AS) : Option (AV × AS) := b77_entry call n (J77_l1_1_0_1_0 call n  n) x0a x0l x0c S
theorem run77 (o : Orc) (n : Nat) (args : List AV) (S : AS) (ho : o 77 args = none) : evF E o (n + 1) (.fn 77) args S = evC E (evF E o n) n 77 (E.at 77 []) 0 (enumT 0 args) S (retK E (E.fn 77)) := by
  rw [evF, ho]; kernel_rfl
theorem J77_eq (call : CallA) (n : Nat) (x0a : Option Pos) (x0l : Nat) (x0c : Cap) (S : AS) : evC E call n 77 (E.at 77 []) 0 (enumT 0 [(.sl x0a x0l x0c)]) S (retK E (E.fn 77)) = J77 call n x0a x0l x0c S := by
  rw [J77, a77_entry, h77_l1_1_0_1_0 call n  n]
theorem F77 {o : Orc} (n : Nat) (x0a : Option Pos) (x0l : Nat) (x0c : Cap) (S : AS) (ho : ∀ args, o 77 args = none) : evF E o (n + 1) (.fn 77) [(.sl x0a x0l x0c)] S = J77 (evF E o n) n x0a x0l x0c S := (run77 o n [(.sl x0a x0l x0c)] S (ho _)).trans (J77_eq _ _ x0a x0l x0c S)
def b78_l1_1_0_1_0 (call : CallA) (n : Nat)  (l1_1_0_1_0 : Option Pos → Nat → Cap → Option Pos → Nat → Cap → Bool → Int → Int → AS → Option (AV × AS)) (w0a : Option Pos) (w0l : Nat) (w0c : Cap) (w1a : Option Pos) (w1l : Nat) (w1c : Cap) (w4 : Bool) (w12 : Int) (w13 : Int) (S : AS) : Option (AV × AS) :=
 cond (decide (w13 < w12)) (
 ixSl 1 w0a w0l w13 fun p1 =>
 ldI .u8 S p1.1 p1.2 fun v2 =>
 ixSl 1 w1a w1l w13 fun p3 =>
 ldI .u8 S p3.1 p3.2 fun v4 =>
 cond (v2 != v4) (
 some ((.bool false), S)) (
 l1_1_0_1_0 w0a w0l w0c w1a w1l w1c w4 w12 (IntKind.wrap .i64 (w13 + 1)) S)) (
 some ((.bool true), S))

def b78_entry (call : CallA) (n : Nat)  (l1_1_0_1_0 : Option Pos → Nat → Cap → Option Pos → Nat → Cap → Bool → Int → Int → AS → Option (AV × AS)) (x0a : Option Pos) (x0l : Nat) (x0c : Cap) (x1a : Option Pos) (x1l : Nat) (x1c : Cap) (S : AS) : Option (AV × AS) :=
 cond (((x0l : Nat) : Int) != ((x1l : Nat) : Int)) (
 some ((.bool false), S)) (
 l1_1_0_1_0 x0a x0l x0c x1a x1l x1c false ((x0l : Nat) : Int) 0 S)

def r78_l1_1_0_1_0 (call : CallA) (n : Nat)  (m : Nat) (w0a : Option Pos) (w0l : Nat) (w0c : Cap) (w1a : Option Pos) (w1l : Nat) (w1c : Cap) (w4 : Bool) (w12 : Int) (w13 : Int) (S : AS) : Option (AV × AS) := loopN (evC E call n 78 (E.at 78 [1, 1, 0, 1, 0, 0]) 0) [0, 1, 4, 12, 13] m [(0, (.sl w0a w0l w0c)), (1, (.sl w1a w1l w1c)), (4, (.bool w4)), (12, (.int .i64 w12)), (13, (.int .i64 w13))] S (kBlk 0 (kSeq E call n 78 (E.at 78 [1, 1, 1]) 0 (retK E (E.fn 78))))
theorem a78_l1_1_0_1_0 (call : CallA) (n : Nat)  (m : Nat) (w0a : Option Pos) (w0l : Nat) (w0c : Cap) (w1a : Option Pos) (w1l : Nat) (w1c : Cap) (w4 : Bool) (w12 : Int) (w13 : Int) (S : AS) : r78_l1_1_0_1_0 call n  (m + 1) w0a w0l w0c w1a w1l w1c w4 w12 w13 S = b78_l1_1_0_1_0 call n (r78_l1_1_0_1_0 call n  m) w0a w0l w0c w1a w1l w1c w4 w12 w13 S := by kernel_rfl
theorem a78_entry (call : CallA) (n : Nat) (x0a : Option Pos) (x0l : Nat) (x0c : Cap) (x1a : Option Pos) (x1l : Nat) (x1c : Cap) (S : AS) : evC E call n 78 (E.at 78 []) 0 (enumT 0 [(.sl x0a x0l x0c), (.sl x1a x1l x1c)]) S (retK E (E.fn 78)) = b78_entry call n (r78_l1_1_0_1_0 call n  n) x0a x0l x0c x1a x1l x1c S := by kernel_rfl
def J78_l1_1_0_1_0 (call : CallA) (n : Nat)  (m : Nat) : Option Pos → Nat → Cap → Option Pos → Nat → Cap → Bool → Int → Int → AS → Option (AV × AS) := Nat.rec (motive := fun _ => Option Pos → Nat → Cap → Option Pos → Nat → Cap → Bool → Int → Int → AS → Option (AV × AS)) (fun _ _ _ _ _ _ _ _ _ _ => none) (fun mK ih w0a w0l w0c w1a w1l w1c w4 w12 w13 S => b78_l1_1_0_1_0 call n ih w0a w0l w0c w1a w1l w1c w4 w12 w13 S) m
theorem J78_l1_1_0_1_0_succ (call : CallA) (n : Nat)  (m : Nat) (w0a : Option Pos) (w0l : Nat) (w0c : Cap) (w1a : Option Pos) (w1l : Nat) (w1c : Cap) (w4 : Bool) (w12 : Int) (w13 : Int) (S : AS) : J78_l1_1_0_1_0 call n  (m + 1) w0a w0l w0c w1a w1l w1c w4 w12 w13 S = b78_l1_1_0_1_0 call n (J78_l1_1_0_1_0 call n  m) w0a w0l w0c w1a w1l w1c w4 w12 w13 S := rfl
theorem h78_l1_1_0_1_0 (call : CallA) (n : Nat)  (m : Nat) : r78_l1_1_0_1_0 call n  m = J78_l1_1_0_1_0 call n  m := by
  induction m with
  | zero => rfl
  | succ m ih =>
    funext w0a w0l w0c w1a w1l w1c w4 w12 w13 S
    rw [J78_l1_1_0_1_0_succ, a78_l1_1_0_1_0, ih]
def J78 (call : CallA) (n : Nat) (x0a : Option Pos) (x0l : Nat) (x0c : Cap) (x1a : Option Pos) (x1l : Nat) (x1c : Cap) (S : AS) : Option (AV × AS) := b78_entry call n (J78_l1_1_0_1_0 call n  n) x0a x0l x0c x1a x1l x1c S
theorem run78 (o : Orc) (n : Nat) (args : List AV) (S : AS) (ho : o 78 args = none) : evF E o (n + 1) (.fn 78) args S = evC E (evF E o n) n 78 (E.at 78 []) 0 (enumT 0 args) S (retK E (E.fn 78)) := by
  rw [evF, ho]; kernel_rfl
theorem J78_eq (call : CallA) (n : Nat) (x0a : Option Pos) (x0l : Nat) (x0c : Cap) (x1a : Option Pos) (x1l : Nat) (x1c : Cap) (S : AS) : evC E call n 78 (E.at 78 []) 0 (enumT 0 [(.sl x0a x0l x0c), (.sl x1a x1l x1c)]) S (retK E (E.fn 78)) = J78 call n x0a x0l x0c x1a x1l x1c S := by
  rw [J78, a78_entry, h78_l1_1_0_1_0 call n  n]
theorem F78 {o : Orc} (n : Nat) (x0a : Option Pos) (x0l : Nat) (x0c : Cap) (x1a : Option Pos) (x1l : Nat) (x1c : Cap) (S : AS) (ho : ∀ args, o 78 args = none) : evF E o (n + 1) (.fn 78) [(.sl x0a x0l x0c), (.sl x1a x1l x1c)] S = J78 (evF E o n) n x0a x0l x0c x1a x1l x1c S := (run78 o n [(.sl x0a x0l x0c), (.sl x1a x1l x1c)] S (ho _)).trans (J78_eq _ _ x0a x0l x0c x1a x1l x1c S)
def b79_entry (call : CallA) (n : Nat)   (x0a : Option Pos) (x0l : Nat) (x0c : Cap) (S : AS) : Option (AV × AS) :=
 cond x0a.isNone (
 some ((.sl none 0 (.ex 0)), S)) (
 newA S (.cells []) fun b1 S2 =>
 appendA 1 1 S2 (some (.rw b1, 0)) 0 (.ex 0) x0l (firstA S2 1 x0l (.sl x0a x0l x0c)) fun v3a v3l v3c S4 =>
 some ((.sl v3a v3l v3c), S4))

theorem a79_entry (call : CallA) (n : Nat) (x0a : Option Pos) (x0l : Nat) (x0c : Cap) (S : AS) : evC E call n 79 (E.at 79 []) 0 (enumT 0 [(.sl x0a x0l x0c)]) S (retK E (E.fn 79)) = b79_entry call n  x0a x0l x0c S := by kernel_rfl
def J79 (call : CallA) (n : Nat) (x0a : Option Pos) (x0l : Nat) (x0c : Cap) (S : AS) : Option (AV × AS) := b79_entry call n  x0a x0l x0c S
theorem run79 (o : Orc) (n : Nat) (args : List AV) (S : AS) (ho : o 79 args = none) : evF E o (n + 1) (.fn 79) args S = evC E (evF E o n) n 79 (E.at 79 []) 0 (enumT 0 args) S (retK E (E.fn 79)) := by
  rw [evF, ho]; kernel_rfl
theorem J79_eq (call : CallA) (n : Nat) (x0a : Option Pos) (x0l : Nat) (x0c : Cap) (S : AS) : evC E call n 79 (E.at 79 []) 0 (enumT 0 [(.sl x0a x0l x0c)]) S (retK E (E.fn 79)) = J79 call n x0a x0l x0c S := by
  rw [J79, a79_entry]
theorem F79 {o : Orc} (n : Nat) (x0a : Option Pos) (x0l : Nat) (x0c : Cap) (S : AS) (ho : ∀ args, o 79 args = none) : evF E o (n + 1) (.fn 79) [(.sl x0a x0l x0c)] S = J79 (evF E o n) n x0a x0l x0c S := (run79 o n [(.sl x0a x0l x0c)] S (ho _)).trans (J79_eq _ _ x0a x0l x0c S)
def b80_entry (call : CallA) (n : Nat)   (x0a : Option Pos) (x0l : Nat) (x0c : Cap) (S : AS) : Option (AV × AS) :=
 newA S (.cells [(.int .u64 0), (.int .u64 0), (.int .u64 0), (.int .u64 0), (.int .i64 0), (.int .i64 0), (.sl none 0 (.ex 0))]) fun b1 S2 =>
 cond (((x0l : Nat) : Int) != 384) (
 S2.stn (.rw b1) 0 [(.int .u64 0), (.int .u64 0), (.int .u64 0), (.int .u64 0), (.int .i64 0), (.int .i64 0), (.sl none 0 (.ex 0))] fun S3 =>
 S3.ldn (.rw b1) 0 7 fun g4 =>
 some (.tup [(.agg g4), (.int .i64 81)], S3)) (
 callI .u64 call 73 [(.sl x0a x0l x0c), (.int .i64 40), (.int .i64 2)] S2 fun v6 S5 =>
 cond (decide ((IntKind.wrap .i64 v6) > 336)) (
 S5.stn (.rw b1) 0 [(.int .u64 0), (.int .u64 0), (.int .u64 0), (.int .u64 0), (.int .i64 0), (.int .i64 0), (.sl none 0 (.ex 0))] fun S7 =>
 S7.ldn (.rw b1) 0 7 fun g8 =>
 some (.tup [(.agg g8), (.int .i64 81)], S7)) (
 drawA S5 23 fun b9 S10 =>
 callI .u64 call 73 [(.sl x0a x0l x0c), (.int .i64 4), (.int .i64 8)] S10 fun v12 S11 =>
 callI .u64 call 73 [(.sl x0a x0l x0c), (.int .i64 12), (.int .i64 8)] S11 fun v14 S13 =>
 callI .u64 call 73 [(.sl x0a x0l x0c), (.int .i64 20), (.int .i64 8)] S13 fun v16 S15 =>
 callI .u64 call 73 [(.sl x0a x0l x0c), (.int .i64 28), (.int .i64 8)] S15 fun v18 S17 =>
 callI .u64 call 73 [(.sl x0a x0l x0c), (.int .i64 36), (.int .i64 2)] S17 fun v20 S19 =>
 callI .u64 call 73 [(.sl x0a x0l x0c), (.int .i64 38), (.int .i64 2)] S19 fun v22 S21 =>
 slSl 1 x0a x0l x0c (some 48) (some (IntKind.wrap .i64 (48 + (IntKind.wrap .i64 v6)))) none fun v23a v23l v23c =>
 layA S21 (b9 + 14) (.cells []) fun S24 =>
 appendA 1 1 S24 (some (.rw (b9 + 14), 0)) 0 (.ex 0) v23l (firstA S24 1 v23l (.sl v23a v23l v23c)) fun v25a v25l v25c S26 =>
 layA S26 (b9 + 21) (.cells [(.int .u64 0), (.int .u64 0), (.int .u64 0), (.int .u64 0), (.int .i64 0), (.int .i64 0), (.sl none 0 (.ex 0))]) fun S27 =>
 S27.stn (.rw (b9 + 21)) 0 [(.int .u64 v12), (.int .u64 v14), (.int .u64 v16), (.int .u64 v18), (.int .i64 (IntKind.wrap .i64 v20)), (.int .i64 (IntKind.wrap .i64 v22)), (.sl v25a v25l v25c)] fun S28 =>
 S28.ldn (.rw (b9 + 21)) 0 7 fun g29 =>
 callT call 66 [(.agg g29)] S28 fun v31 S30 =>
 atL v31 0 fun v32a v32l v32c =>
 atI .i64 v31 1 fun v33 =>
 cond (v33 != 0) (
 S30.stn (.rw b1) 0 [(.int .u64 0), (.int .u64 0), (.int .u64 0), (.int .u64 0), (.int .i64 0), (.int .i64 0), (.sl none 0 (.ex 0))] fun S34 =>
 S34.ldn (.rw b1) 0 7 fun g35 =>
 some (.tup [(.agg g35), (.int .i64 81)], S34)) (
 bytesStr S30 v32a v32l fun s36 =>
 bytesStr S30 x0a x0l fun s37 =>
 cond (!(s36 == s37)) (
 S30.stn (.rw b1) 0 [(.int .u64 0), (.int .u64 0), (.int .u64 0), (.int .u64 0), (.int .i64 0), (.int .i64 0), (.sl none 0 (.ex 0))] fun S38 =>
 S38.ldn (.rw b1) 0 7 fun g39 =>
 some (.tup [(.agg g39), (.int .i64 81)], S38)) (
 S30.ldn (.rw (b9 + 21)) 0 7 fun g40 =>
 ifO (g40.length = 7) <|
 S30.stn (.rw b1) 0 g40 fun S41 =>
 S41.ldn (.rw b1) 0 7 fun g42 =>
 some (.tup [(.agg g42), (.int .i64 0)], S41)))))

theorem a80_entry (call : CallA) (n : Nat) (x0a : Option Pos) (x0l : Nat) (x0c : Cap) (S : AS) : evC E call n 80 (E.at 80 []) 0 (enumT 0 [(.sl x0a x0l x0c)]) S (retK E (E.fn 80)) = b80_entry call n  x0a x0l x0c S := by kernel_rfl
def J80 (call : CallA) (n : Nat) (x0a : Option Pos) (x0l : Nat) (x0c : Cap) (S : AS) : Option (AV × AS) := b80_entry call n  x0a x0l x0c S
theorem run80 (o : Orc) (n : Nat) (args : List AV) (S : AS) (ho : o 80 args = none) : evF E o (n + 1) (.fn 80) args S = evC E (evF E o n) n 80 (E.at 80 []) 0 (enumT 0 args) S (retK E (E.fn 80)) := by
  rw [evF, ho]; kernel_rfl
theorem J80_eq (call : CallA) (n : Nat) (x0a : Option Pos) (x0l : Nat) (x0c : Cap) (S : AS) : evC E call n 80 (E.at 80 []) 0 (enumT 0 [(.sl x0a x0l x0c)]) S (retK E (E.fn 80)) = J80 call n x0a x0l x0c S := by
  rw [J80, a80_entry]
theorem F80 {o : Orc} (n : Nat) (x0a : Option Pos) (x0l : Nat) (x0c : Cap) (S : AS) (ho : ∀ args, o 80 args = none) : evF E o (n + 1) (.fn 80) [(.sl x0a x0l x0c)] S = J80 (evF E o n) n x0a x0l x0c S := (run80 o n [(.sl x0a x0l x0c)] S (ho _)).trans (J80_eq _ _ x0a x0l x0c S)
def b97_entry (call : CallA) (n : Nat)   (x0 : Option Pos) (S : AS) : Option (AV × AS) :=
 gO x0 fun p1 =>
 ldL S p1.1 p1.2 fun v2a v2l v2c =>
 some ((.int .i64 ((v2l : Nat) : Int)), S)

theorem a97_entry (call : CallA) (n : Nat) (x0 : Option Pos) (S : AS) : evC E call n 97 (E.at 97 []) 0 (enumT 0 [(.ptr x0)]) S (retK E (E.fn 97)) = b97_entry call n  x0 S := by kernel_rfl
def J97 (call : CallA) (n : Nat) (x0 : Option Pos) (S : AS) : Option (AV × AS) := b97_entry call n  x0 S
theorem run97 (o : Orc) (n : Nat) (args : List AV) (S : AS) (ho : o 97 args = none) : evF E o (n + 1) (.fn 97) args S = evC E (evF E o n) n 97 (E.at 97 []) 0 (enumT 0 args) S (retK E (E.fn 97)) := by
  rw [evF, ho]; kernel_rfl
theorem J97_eq (call : CallA) (n : Nat) (x0 : Option Pos) (S : AS) : evC E call n 97 (E.at 97 []) 0 (enumT 0 [(.ptr x0)]) S (retK E (E.fn 97)) = J97 call n x0 S := by
  rw [J97, a97_entry]
theorem F97 {o : Orc} (n : Nat) (x0 : Option Pos) (S : AS) (ho : ∀ args, o 97 args = none) : evF E o (n + 1) (.fn 97) [(.ptr x0)] S = J97 (evF E o n) n x0 S := (run97 o n [(.ptr x0)] S (ho _)).trans (J97_eq _ _ x0 S)
end
end Go.Jn
