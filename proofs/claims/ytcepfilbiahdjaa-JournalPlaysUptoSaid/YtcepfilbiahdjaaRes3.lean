/- Plain readings of the functions, and that they are what the evaluator does: by program. -/
import Derived.Test.YtcepfilbiahdjaaGrRes
import Derived.Test.YtcepfilbiahdjaaENV
import Derived.KernelRfl
set_option maxRecDepth 100000
set_option linter.unusedVariables false
namespace Go.Jn
open Go.Gr
noncomputable section
def b36_lZAW (call : CallA) (n : Nat) (lZAW : OP → OP → Nat → Cap → OP → Nat → Cap → Int → Int → AS → RV) (jZAJ : OP → OP → Nat → Cap → AS → RV) (w1 : OP) (w4a : OP) (w4l : Nat) (w4c : Cap) (w79a : OP) (w79l : Nat) (w79c : Cap) (w80 : Int) (w81 : Int) (S : AS) : RV :=
 cond (decide (w81 < w80)) (
 ixSl 1 w79a w79l w81 fun p31 =>
 ldI .u64 S p31.1 p31.2 fun v32 =>
 callL call 56 [(.sl w4a w4l w4c), (.int .u64 v32), (.int .i64 8)] S fun v34a v34l v34c S33 =>
 lZAW w1 v34a v34l v34c w79a w79l w79c w80 (IntKind.wrap .i64 (w81 + 1)) S33) (
 jZAJ w1 w4a w4l w4c S)
def b36_jZAJ (call : CallA) (n : Nat) (lZAZ : OP → OP → Nat → Cap → OP → Nat → Cap → Int → Int → AS → RV) (w1 : OP) (w4a : OP) (w4l : Nat) (w4c : Cap) (S : AS) : RV :=
 gO w1 fun p35 =>
 ldI .i64 S p35.1 (p35.2 + 4) fun v36 =>
 gO w1 fun p37 =>
 ldI .i64 S p37.1 (p37.2 + 5) fun v38 =>
 gO w1 fun p39 =>
 ldL S p39.1 (p39.2 + 6) fun v40a v40l v40c =>
 newA S (.cells [(.int .i64 v36), (.int .i64 v38), (.int .i64 ((v40l : Nat) : Int))]) fun b41 S42 =>
 lZAZ w1 w4a w4l w4c (some (.rw b41, 0)) 3 (.ex 3) ((3 : Nat) : Int) 0 S42
def b36_lZAZ (call : CallA) (n : Nat) (lZAZ : OP → OP → Nat → Cap → OP → Nat → Cap → Int → Int → AS → RV) (jZAK : OP → OP → Nat → Cap → AS → RV) (w1 : OP) (w4a : OP) (w4l : Nat) (w4c : Cap) (w96a : OP) (w96l : Nat) (w96c : Cap) (w97 : Int) (w98 : Int) (S : AS) : RV :=
 cond (decide (w98 < w97)) (
 ixSl 1 w96a w96l w98 fun p43 =>
 ldI .i64 S p43.1 p43.2 fun v44 =>
 callL call 56 [(.sl w4a w4l w4c), (.int .u64 (IntKind.wrap .u64 v44)), (.int .i64 2)] S fun v46a v46l v46c S45 =>
 lZAZ w1 v46a v46l v46c w96a w96l w96c w97 (IntKind.wrap .i64 (w98 + 1)) S45) (
 jZAK w1 w4a w4l w4c S)
def b36_jZAK (call : CallA) (n : Nat)  (w1 : OP) (w4a : OP) (w4l : Nat) (w4c : Cap) (S : AS) : RV :=
 appendZA 1 1 [(.int .u8 0)] S w4a w4l w4c (IntKind.wrap .i64 (48 - ((w4l : Nat) : Int))) fun v47a v47l v47c S48 =>
 gO w1 fun p49 =>
 ldL S48 p49.1 (p49.2 + 6) fun v50a v50l v50c =>
 appendA 1 1 S48 v47a v47l v47c v50l (firstA S48 1 v50l (.sl v50a v50l v50c)) fun v51a v51l v51c S52 =>
 callL call 57 [(.sl v51a v51l v51c)] S52 fun v54a v54l v54c S53 =>
 some (.tup [(.sl v54a v54l v54c), (.int .i64 0)], S53)
def b36_entry (call : CallA) (n : Nat) (lZAW : OP → OP → Nat → Cap → OP → Nat → Cap → Int → Int → AS → RV) (x0 : List AV) (S : AS) : RV :=
 ifO (x0.length = 7) <|
 newA S (.cells x0) fun b1 S2 =>
 ldI .u64 S2 (.rw b1) 0 fun v3 =>
 cond (v3 == 0) (
 some (.tup [(.sl none 0 (.ex 0)), (.int .i64 81)], S2)) (
 ldI .u64 S2 (.rw b1) 1 fun v4 =>
 cond (v4 == 0) (
 some (.tup [(.sl none 0 (.ex 0)), (.int .i64 81)], S2)) (
 ldI .u64 S2 (.rw b1) 3 fun v5 =>
 cond (v5 == 0) (
 some (.tup [(.sl none 0 (.ex 0)), (.int .i64 81)], S2)) (
 ldI .u64 S2 (.rw b1) 0 fun v6 =>
 ldI .u64 S2 (.rw b1) 1 fun v7 =>
 ldI .u64 S2 (.rw b1) 3 fun v8 =>
 ldI .u64 S2 (.rw b1) 2 fun v9 =>
 newA S2 (.cells [(.int .u64 v6), (.int .u64 v7), (.int .u64 v8), (.int .u64 v9)]) fun b10 S11 =>
 callB call 35 [(.sl (some (.rw b10, 0)) 4 (.ex 4))] S11 fun v13 S12 =>
 cond (!v13) (
 some (.tup [(.sl none 0 (.ex 0)), (.int .i64 81)], S12)) (
 ldI .i64 S12 (.rw b1) 5 fun v14 =>
 cond (decide (v14 < 1)) (
 some (.tup [(.sl none 0 (.ex 0)), (.int .i64 81)], S12)) (
 ldI .i64 S12 (.rw b1) 5 fun v15 =>
 cond (decide (v15 > 100)) (
 some (.tup [(.sl none 0 (.ex 0)), (.int .i64 81)], S12)) (
 ldI .i64 S12 (.rw b1) 4 fun v16 =>
 cond (decide (v16 < 0)) (
 some (.tup [(.sl none 0 (.ex 0)), (.int .i64 81)], S12)) (
 ldI .i64 S12 (.rw b1) 4 fun v17 =>
 ldI .i64 S12 (.rw b1) 5 fun v18 =>
 cond (decide (v17 ≥ v18)) (
 some (.tup [(.sl none 0 (.ex 0)), (.int .i64 81)], S12)) (
 ldL S12 (.rw b1) 6 fun v19a v19l v19c =>
 cond (((v19l : Nat) : Int) == 0) (
 some (.tup [(.sl none 0 (.ex 0)), (.int .i64 81)], S12)) (
 ldL S12 (.rw b1) 6 fun v20a v20l v20c =>
 cond (decide (((v20l : Nat) : Int) > 336)) (
 some (.tup [(.sl none 0 (.ex 0)), (.int .i64 81)], S12)) (
 newA S12 (.cells [(.int .u8 74), (.int .u8 76), (.int .u8 79), (.int .u8 71)]) fun b21 S22 =>
 convLL S22 (some (.rw b21, 0)) 4 (.ex 4) fun v24a v24l v24c S23 =>
 ldI .u64 S23 (.rw b1) 0 fun v25 =>
 ldI .u64 S23 (.rw b1) 1 fun v26 =>
 ldI .u64 S23 (.rw b1) 2 fun v27 =>
 ldI .u64 S23 (.rw b1) 3 fun v28 =>
 newA S23 (.cells [(.int .u64 v25), (.int .u64 v26), (.int .u64 v27), (.int .u64 v28)]) fun b29 S30 =>
 lZAW (some ((.rw b1), 0)) v24a v24l v24c (some (.rw b29, 0)) 4 (.ex 4) ((4 : Nat) : Int) 0 S30))))))))))
def r36_lZAW (call : CallA) (n : Nat) (m : Nat) (w1 : OP) (w4a : OP) (w4l : Nat) (w4c : Cap) (w79a : OP) (w79l : Nat) (w79c : Cap) (w80 : Int) (w81 : Int) (S : AS) : RV := loopN (evC E call n 36 (E.at 36 [1, 1, 1, 0, 1, 0, 0]) 0) [1, 4, 79, 80, 81] m [(1, (.ptr w1)), (4, (.sl w4a w4l w4c)), (79, (.sl w79a w79l w79c)), (80, (.int .i64 w80)), (81, (.int .i64 w81))] S (kBlk 0 (kSeq E call n 36 (E.at 36 [1, 1, 1, 1]) 0 (retK E (E.fn 36))))
def r36_jZAJ (call : CallA) (n : Nat) (w1 : OP) (w4a : OP) (w4l : Nat) (w4c : Cap) (S : AS) : RV := evC E call n 36 (E.at 36 [1, 1, 1, 1]) 0 [(1, (.ptr w1)), (4, (.sl w4a w4l w4c))] S (retK E (E.fn 36))
def r36_lZAZ (call : CallA) (n : Nat) (m : Nat) (w1 : OP) (w4a : OP) (w4l : Nat) (w4c : Cap) (w96a : OP) (w96l : Nat) (w96c : Cap) (w97 : Int) (w98 : Int) (S : AS) : RV := loopN (evC E call n 36 (E.at 36 [1, 1, 1, 1, 0, 1, 0, 0]) 2) [1, 4, 96, 97, 98] m [(1, (.ptr w1)), (4, (.sl w4a w4l w4c)), (96, (.sl w96a w96l w96c)), (97, (.int .i64 w97)), (98, (.int .i64 w98))] S (kBlk 2 (kSeq E call n 36 (E.at 36 [1, 1, 1, 1, 1]) 0 (retK E (E.fn 36))))
def r36_jZAK (call : CallA) (n : Nat) (w1 : OP) (w4a : OP) (w4l : Nat) (w4c : Cap) (S : AS) : RV := evC E call n 36 (E.at 36 [1, 1, 1, 1, 1]) 0 [(1, (.ptr w1)), (4, (.sl w4a w4l w4c))] S (retK E (E.fn 36))
theorem a36_lZAW (call : CallA) (n : Nat) (m : Nat) (w1 : OP) (w4a : OP) (w4l : Nat) (w4c : Cap) (w79a : OP) (w79l : Nat) (w79c : Cap) (w80 : Int) (w81 : Int) (S : AS) : r36_lZAW call n (m + 1) w1 w4a w4l w4c w79a w79l w79c w80 w81 S = b36_lZAW call n (r36_lZAW call n m) (r36_jZAJ call n ) w1 w4a w4l w4c w79a w79l w79c w80 w81 S := by kernel_rfl
theorem a36_jZAJ (call : CallA) (n : Nat) (w1 : OP) (w4a : OP) (w4l : Nat) (w4c : Cap) (S : AS) : r36_jZAJ call n w1 w4a w4l w4c S = b36_jZAJ call n (r36_lZAZ call n n) w1 w4a w4l w4c S := by kernel_rfl
theorem a36_lZAZ (call : CallA) (n : Nat) (m : Nat) (w1 : OP) (w4a : OP) (w4l : Nat) (w4c : Cap) (w96a : OP) (w96l : Nat) (w96c : Cap) (w97 : Int) (w98 : Int) (S : AS) : r36_lZAZ call n (m + 1) w1 w4a w4l w4c w96a w96l w96c w97 w98 S = b36_lZAZ call n (r36_lZAZ call n m) (r36_jZAK call n ) w1 w4a w4l w4c w96a w96l w96c w97 w98 S := by kernel_rfl
theorem a36_jZAK (call : CallA) (n : Nat) (w1 : OP) (w4a : OP) (w4l : Nat) (w4c : Cap) (S : AS) : r36_jZAK call n w1 w4a w4l w4c S = b36_jZAK call n w1 w4a w4l w4c S := by kernel_rfl
theorem a36_entry (call : CallA) (n : Nat) (x0 : List AV) (S : AS) : evC E call n 36 (E.at 36 []) 0 (enumT 0 [(.agg x0)]) S (retK E (E.fn 36)) = b36_entry call n (r36_lZAW call n n) x0 S := by kernel_rfl
def J36_jZAK (call : CallA) (n : Nat) (w1 : OP) (w4a : OP) (w4l : Nat) (w4c : Cap) (S : AS) : RV := b36_jZAK call n w1 w4a w4l w4c S
theorem h36_jZAK (call : CallA) (n : Nat) : r36_jZAK call n = J36_jZAK call n := by
 funext w1 w4a w4l w4c S
 rw [J36_jZAK, a36_jZAK]
def J36_lZAZ (call : CallA) (n : Nat) (m : Nat) : OP → OP → Nat → Cap → OP → Nat → Cap → Int → Int → AS → RV := Nat.rec (motive := fun _ => OP → OP → Nat → Cap → OP → Nat → Cap → Int → Int → AS → RV) (fun _ _ _ _ _ _ _ _ _ _ => none) (fun mK ih w1 w4a w4l w4c w96a w96l w96c w97 w98 S => b36_lZAZ call n ih (J36_jZAK call n ) w1 w4a w4l w4c w96a w96l w96c w97 w98 S) m
theorem J36_lZAZ_succ (call : CallA) (n : Nat) (m : Nat) (w1 : OP) (w4a : OP) (w4l : Nat) (w4c : Cap) (w96a : OP) (w96l : Nat) (w96c : Cap) (w97 : Int) (w98 : Int) (S : AS) : J36_lZAZ call n (m + 1) w1 w4a w4l w4c w96a w96l w96c w97 w98 S = b36_lZAZ call n (J36_lZAZ call n m) (J36_jZAK call n ) w1 w4a w4l w4c w96a w96l w96c w97 w98 S := rfl
theorem h36_lZAZ (call : CallA) (n : Nat) (m : Nat) : r36_lZAZ call n m = J36_lZAZ call n m := by
 induction m with
 | zero => rfl
 | succ m ih =>
  funext w1 w4a w4l w4c w96a w96l w96c w97 w98 S
  rw [J36_lZAZ_succ, a36_lZAZ, h36_jZAK call n , ih]
def J36_jZAJ (call : CallA) (n : Nat) (w1 : OP) (w4a : OP) (w4l : Nat) (w4c : Cap) (S : AS) : RV := b36_jZAJ call n (J36_lZAZ call n n) w1 w4a w4l w4c S
theorem h36_jZAJ (call : CallA) (n : Nat) : r36_jZAJ call n = J36_jZAJ call n := by
 funext w1 w4a w4l w4c S
 rw [J36_jZAJ, a36_jZAJ, h36_lZAZ call n n]
def J36_lZAW (call : CallA) (n : Nat) (m : Nat) : OP → OP → Nat → Cap → OP → Nat → Cap → Int → Int → AS → RV := Nat.rec (motive := fun _ => OP → OP → Nat → Cap → OP → Nat → Cap → Int → Int → AS → RV) (fun _ _ _ _ _ _ _ _ _ _ => none) (fun mK ih w1 w4a w4l w4c w79a w79l w79c w80 w81 S => b36_lZAW call n ih (J36_jZAJ call n ) w1 w4a w4l w4c w79a w79l w79c w80 w81 S) m
theorem J36_lZAW_succ (call : CallA) (n : Nat) (m : Nat) (w1 : OP) (w4a : OP) (w4l : Nat) (w4c : Cap) (w79a : OP) (w79l : Nat) (w79c : Cap) (w80 : Int) (w81 : Int) (S : AS) : J36_lZAW call n (m + 1) w1 w4a w4l w4c w79a w79l w79c w80 w81 S = b36_lZAW call n (J36_lZAW call n m) (J36_jZAJ call n ) w1 w4a w4l w4c w79a w79l w79c w80 w81 S := rfl
theorem h36_lZAW (call : CallA) (n : Nat) (m : Nat) : r36_lZAW call n m = J36_lZAW call n m := by
 induction m with
 | zero => rfl
 | succ m ih =>
  funext w1 w4a w4l w4c w79a w79l w79c w80 w81 S
  rw [J36_lZAW_succ, a36_lZAW, h36_jZAJ call n , ih]
def J36 (call : CallA) (n : Nat) (x0 : List AV) (S : AS) : RV := b36_entry call n (J36_lZAW call n n) x0 S
theorem run36 (o : Orc) (n : Nat) (args : List AV) (S : AS) (ho : o 36 args = none) : evF E o (n + 1) (.fn 36) args S = evC E (evF E o n) n 36 (E.at 36 []) 0 (enumT 0 args) S (retK E (E.fn 36)) := by
 rw [evF, ho]; kernel_rfl
theorem J36_eq (call : CallA) (n : Nat) (x0 : List AV) (S : AS) : evC E call n 36 (E.at 36 []) 0 (enumT 0 [(.agg x0)]) S (retK E (E.fn 36)) = J36 call n x0 S := by
 rw [J36, a36_entry, h36_lZAW call n n]
theorem F36 {o : Orc} (n : Nat) (x0 : List AV) (S : AS) (ho : ∀ args, o 36 args = none) : evF E o (n + 1) (.fn 36) [(.agg x0)] S = J36 (evF E o n) n x0 S := (run36 o n [(.agg x0)] S (ho _)).trans (J36_eq _ _ x0 S)
def b37_entry (call : CallA) (n : Nat)  (x0 : OP) (x1 : Int) (S : AS) : RV :=
 gO x0 fun p1 =>
 ldI .i64 S p1.1 (p1.2 + 1) fun v2 =>
 gO x0 fun p3 =>
 ldI .i64 S p3.1 (p3.2 + 2) fun v4 =>
 nz (IntKind.wrap .u64 (IntKind.wrap .i64 (v4 - 2))) <|
 some ((.int .i64 (IntKind.wrap .i64 ((IntKind.wrap .i64 (v2 + 2)) + (IntKind.wrap .i64 (Int.tmod x1 (IntKind.wrap .u64 (IntKind.wrap .i64 (v4 - 2)))))))), S)
def J37 (call : CallA) (n : Nat) (x0 : OP) (x1 : Int) (S : AS) : RV := b37_entry call n x0 x1 S
theorem run37 (o : Orc) (n : Nat) (args : List AV) (S : AS) (ho : o 37 args = none) : evF E o (n + 1) (.fn 37) args S = evC E (evF E o n) n 37 (E.at 37 []) 0 (enumT 0 args) S (retK E (E.fn 37)) := by
 rw [evF, ho]; kernel_rfl
theorem J37_eq (call : CallA) (n : Nat) (x0 : OP) (x1 : Int) (S : AS) : evC E call n 37 (E.at 37 []) 0 (enumT 0 [(.ptr x0), (.int .u64 x1)]) S (retK E (E.fn 37)) = J37 call n x0 x1 S := by kernel_rfl
theorem F37 {o : Orc} (n : Nat) (x0 : OP) (x1 : Int) (S : AS) (ho : ∀ args, o 37 args = none) : evF E o (n + 1) (.fn 37) [(.ptr x0), (.int .u64 x1)] S = J37 (evF E o n) n x0 x1 S := (run37 o n [(.ptr x0), (.int .u64 x1)] S (ho _)).trans (J37_eq _ _ x0 x1 S)
def b38_entry (call : CallA) (n : Nat)  (x0 : OP) (x1 : List AV) (S : AS) : RV :=
 ifO (x1.length = 6) <|
 newA S (.cells x1) fun b1 S2 =>
 gO x0 fun p3 =>
 ldI .u64 S2 p3.1 (p3.2 + 3) fun v4 =>
 S2.stn (.rw b1) 0 [(.int .u64 (IntKind.wrap .u64 (v4 + 1)))] fun S5 =>
 S5.ldn (.rw b1) 0 6 fun g6 =>
 callT call 41 [(.agg g6)] S5 fun v8 S7 =>
 atL v8 0 fun v9a v9l v9c =>
 atI .i64 v8 1 fun v10 =>
 cond (v10 != 0) (
 some ((.int .i64 5), S7)) (
 gO x0 fun p11 =>
 ldI .u64 S7 p11.1 (p11.2 + 3) fun v12 =>
 gO x0 fun p13 =>
 S7.stn p13.1 (p13.2 + 3) [(.int .u64 (IntKind.wrap .u64 (v12 + 1)))] fun S14 =>
 gO x0 fun p15 =>
 ldI .i64 S14 p15.1 (p15.2 + 1) fun v16 =>
 ldI .u64 S14 (.rw b1) 0 fun v17 =>
 cond ((Int.tmod v17 2) == 0) (
 gO x0 fun p18 =>
 ldV S14 p18.1 p18.2 fun v19 =>
 invV E call v19 "Write" [(.int .i64 (IntKind.wrap .i64 (v16 + 1))), (.sl v9a v9l v9c)] S14 fun v21 S20 =>
 gIk .i64 v21 fun v22 =>
 cond (v22 != 0) (
 some ((.int .i64 v22), S20)) (
 gO x0 fun p23 =>
 ldV S20 p23.1 p23.2 fun v24 =>
 invV E call v24 "Flush" [] S20 fun v26 S25 =>
 gIk .i64 v26 fun v27 =>
 cond (v27 != 0) (
 some ((.int .i64 v27), S25)) (
 S25.ldn (.rw b1) 0 6 fun g28 =>
 gO x0 fun p29 =>
 ifO (g28.length = 6) <|
 S25.stn p29.1 (p29.2 + 3) g28 fun S30 =>
 some ((.int .i64 0), S30)))) (
 gO x0 fun p31 =>
 ldV S14 p31.1 p31.2 fun v32 =>
 invV E call v32 "Write" [(.int .i64 v16), (.sl v9a v9l v9c)] S14 fun v34 S33 =>
 gIk .i64 v34 fun v35 =>
 cond (v35 != 0) (
 some ((.int .i64 v35), S33)) (
 gO x0 fun p36 =>
 ldV S33 p36.1 p36.2 fun v37 =>
 invV E call v37 "Flush" [] S33 fun v39 S38 =>
 gIk .i64 v39 fun v40 =>
 cond (v40 != 0) (
 some ((.int .i64 v40), S38)) (
 S38.ldn (.rw b1) 0 6 fun g41 =>
 gO x0 fun p42 =>
 ifO (g41.length = 6) <|
 S38.stn p42.1 (p42.2 + 3) g41 fun S43 =>
 some ((.int .i64 0), S43)))))
def J38 (call : CallA) (n : Nat) (x0 : OP) (x1 : List AV) (S : AS) : RV := b38_entry call n x0 x1 S
theorem run38 (o : Orc) (n : Nat) (args : List AV) (S : AS) (ho : o 38 args = none) : evF E o (n + 1) (.fn 38) args S = evC E (evF E o n) n 38 (E.at 38 []) 0 (enumT 0 args) S (retK E (E.fn 38)) := by
 rw [evF, ho]; kernel_rfl
theorem J38_eq (call : CallA) (n : Nat) (x0 : OP) (x1 : List AV) (S : AS) : evC E call n 38 (E.at 38 []) 0 (enumT 0 [(.ptr x0), (.agg x1)]) S (retK E (E.fn 38)) = J38 call n x0 x1 S := by kernel_rfl
theorem F38 {o : Orc} (n : Nat) (x0 : OP) (x1 : List AV) (S : AS) (ho : ∀ args, o 38 args = none) : evF E o (n + 1) (.fn 38) [(.ptr x0), (.agg x1)] S = J38 (evF E o n) n x0 x1 S := (run38 o n [(.ptr x0), (.agg x1)] S (ho _)).trans (J38_eq _ _ x0 x1 S)
def b39_entry (call : CallA) (n : Nat)  (x0a : OP) (x0l : Nat) (x0c : Cap) (S : AS) : RV :=
 cond x0a.isNone (
 some ((.sl none 0 (.ex 0)), S)) (
 newA S (.cells []) fun b1 S2 =>
 appendA 3 24 S2 (some (.rw b1, 0)) 0 (.ex 0) x0l (firstA S2 3 x0l (.sl x0a x0l x0c)) fun v3a v3l v3c S4 =>
 some ((.sl v3a v3l v3c), S4))
def J39 (call : CallA) (n : Nat) (x0a : OP) (x0l : Nat) (x0c : Cap) (S : AS) : RV := b39_entry call n x0a x0l x0c S
theorem run39 (o : Orc) (n : Nat) (args : List AV) (S : AS) (ho : o 39 args = none) : evF E o (n + 1) (.fn 39) args S = evC E (evF E o n) n 39 (E.at 39 []) 0 (enumT 0 args) S (retK E (E.fn 39)) := by
 rw [evF, ho]; kernel_rfl
theorem J39_eq (call : CallA) (n : Nat) (x0a : OP) (x0l : Nat) (x0c : Cap) (S : AS) : evC E call n 39 (E.at 39 []) 0 (enumT 0 [(.sl x0a x0l x0c)]) S (retK E (E.fn 39)) = J39 call n x0a x0l x0c S := by kernel_rfl
theorem F39 {o : Orc} (n : Nat) (x0a : OP) (x0l : Nat) (x0c : Cap) (S : AS) (ho : ∀ args, o 39 args = none) : evF E o (n + 1) (.fn 39) [(.sl x0a x0l x0c)] S = J39 (evF E o n) n x0a x0l x0c S := (run39 o n [(.sl x0a x0l x0c)] S (ho _)).trans (J39_eq _ _ x0a x0l x0c S)
def b40_entry (call : CallA) (n : Nat)  (x0 : AV) (x1 : Int) (x2 : Int) (S : AS) : RV :=
 ifNil E .eql ty73 x0 fun b1 =>
 cond b1 (
 some ((.int .i64 7), S)) (
 cond (decide (x2 < 6)) (
 some ((.int .i64 2), S)) (
 cond (decide (x1 < 0)) (
 some ((.int .i64 2), S)) (
 invV E call x0 "Len" [] S fun v3 S2 =>
 gIk .i64 v3 fun v4 =>
 cond (decide (x1 > v4)) (
 some ((.int .i64 2), S2)) (
 invV E call x0 "Len" [] S2 fun v6 S5 =>
 gIk .i64 v6 fun v7 =>
 cond (decide (x2 > (IntKind.wrap .i64 (v7 - x1)))) (
 some ((.int .i64 2), S5)) (
 some ((.int .i64 0), S5))))))
def J40 (call : CallA) (n : Nat) (x0 : AV) (x1 : Int) (x2 : Int) (S : AS) : RV := b40_entry call n x0 x1 x2 S
theorem run40 (o : Orc) (n : Nat) (args : List AV) (S : AS) (ho : o 40 args = none) : evF E o (n + 1) (.fn 40) args S = evC E (evF E o n) n 40 (E.at 40 []) 0 (enumT 0 args) S (retK E (E.fn 40)) := by
 rw [evF, ho]; kernel_rfl
theorem J40_eq (call : CallA) (n : Nat) (x0 : AV) (x1 : Int) (x2 : Int) (S : AS) : evC E call n 40 (E.at 40 []) 0 (enumT 0 [x0, (.int .i64 x1), (.int .i64 x2)]) S (retK E (E.fn 40)) = J40 call n x0 x1 x2 S := by kernel_rfl
theorem F40 {o : Orc} (n : Nat) (x0 : AV) (x1 : Int) (x2 : Int) (S : AS) (ho : ∀ args, o 40 args = none) : evF E o (n + 1) (.fn 40) [x0, (.int .i64 x1), (.int .i64 x2)] S = J40 (evF E o n) n x0 x1 x2 S := (run40 o n [x0, (.int .i64 x1), (.int .i64 x2)] S (ho _)).trans (J40_eq _ _ x0 x1 x2 S)
def b41_lZAZ (call : CallA) (n : Nat) (lZAZ : OP → Nat → Cap → OP → Nat → Cap → Int → Int → AS → RV) (jZAK : OP → Nat → Cap → AS → RV) (w5a : OP) (w5l : Nat) (w5c : Cap) (w36a : OP) (w36l : Nat) (w36c : Cap) (w37 : Int) (w38 : Int) (S : AS) : RV :=
 cond (decide (w38 < w37)) (
 ixSl 1 w36a w36l w38 fun p19 =>
 ldI .u64 S p19.1 p19.2 fun v20 =>
 callL call 56 [(.sl w5a w5l w5c), (.int .u64 v20), (.int .i64 8)] S fun v22a v22l v22c S21 =>
 lZAZ v22a v22l v22c w36a w36l w36c w37 (IntKind.wrap .i64 (w38 + 1)) S21) (
 jZAK w5a w5l w5c S)
def b41_jZAK (call : CallA) (n : Nat)  (w5a : OP) (w5l : Nat) (w5c : Cap) (S : AS) : RV :=
 callL call 57 [(.sl w5a w5l w5c)] S fun v24a v24l v24c S23 =>
 some (.tup [(.sl v24a v24l v24c), (.int .i64 0)], S23)
def b41_entry (call : CallA) (n : Nat) (lZAZ : OP → Nat → Cap → OP → Nat → Cap → Int → Int → AS → RV) (x0 : List AV) (S : AS) : RV :=
 ifO (x0.length = 6) <|
 newA S (.cells x0) fun b1 S2 =>
 ldI .u64 S2 (.rw b1) 0 fun v3 =>
 ldI .u64 S2 (.rw b1) 1 fun v4 =>
 ldI .u64 S2 (.rw b1) 2 fun v5 =>
 ldI .u64 S2 (.rw b1) 3 fun v6 =>
 ldI .u64 S2 (.rw b1) 4 fun v7 =>
 ldI .u64 S2 (.rw b1) 5 fun v8 =>
 newA S2 (.cells [(.int .u64 v3), (.int .u64 v4), (.int .u64 v5), (.int .u64 v6), (.int .u64 v7), (.int .u64 v8)]) fun b9 S10 =>
 ldI .u64 S10 (.rw b1) 0 fun v11 =>
 cond (v11 == 0) (
 some (.tup [(.sl none 0 (.ex 0)), (.int .i64 81)], S10)) (
 ldI .u64 S10 (.rw b1) 1 fun v12 =>
 cond (v12 == 0) (
 some (.tup [(.sl none 0 (.ex 0)), (.int .i64 81)], S10)) (
 callB call 35 [(.sl (some (.rw b9, 0)) 6 (.ex 6))] S10 fun v14 S13 =>
 cond (!v14) (
 some (.tup [(.sl none 0 (.ex 0)), (.int .i64 81)], S13)) (
 newA S13 (.cells [(.int .u8 74), (.int .u8 83), (.int .u8 85), (.int .u8 80)]) fun b15 S16 =>
 convLL S16 (some (.rw b15, 0)) 4 (.ex 4) fun v18a v18l v18c S17 =>
 lZAZ v18a v18l v18c (some (.rw b9, 0)) 6 (.ex 6) ((6 : Nat) : Int) 0 S17)))
def r41_lZAZ (call : CallA) (n : Nat) (m : Nat) (w5a : OP) (w5l : Nat) (w5c : Cap) (w36a : OP) (w36l : Nat) (w36c : Cap) (w37 : Int) (w38 : Int) (S : AS) : RV := loopN (evC E call n 41 (E.at 41 [1, 1, 1, 1, 0, 1, 0, 0]) 0) [5, 36, 37, 38] m [(5, (.sl w5a w5l w5c)), (36, (.sl w36a w36l w36c)), (37, (.int .i64 w37)), (38, (.int .i64 w38))] S (kBlk 0 (kSeq E call n 41 (E.at 41 [1, 1, 1, 1, 1]) 0 (retK E (E.fn 41))))
def r41_jZAK (call : CallA) (n : Nat) (w5a : OP) (w5l : Nat) (w5c : Cap) (S : AS) : RV := evC E call n 41 (E.at 41 [1, 1, 1, 1, 1]) 0 [(5, (.sl w5a w5l w5c))] S (retK E (E.fn 41))
theorem a41_lZAZ (call : CallA) (n : Nat) (m : Nat) (w5a : OP) (w5l : Nat) (w5c : Cap) (w36a : OP) (w36l : Nat) (w36c : Cap) (w37 : Int) (w38 : Int) (S : AS) : r41_lZAZ call n (m + 1) w5a w5l w5c w36a w36l w36c w37 w38 S = b41_lZAZ call n (r41_lZAZ call n m) (r41_jZAK call n ) w5a w5l w5c w36a w36l w36c w37 w38 S := by kernel_rfl
theorem a41_jZAK (call : CallA) (n : Nat) (w5a : OP) (w5l : Nat) (w5c : Cap) (S : AS) : r41_jZAK call n w5a w5l w5c S = b41_jZAK call n w5a w5l w5c S := by kernel_rfl
theorem a41_entry (call : CallA) (n : Nat) (x0 : List AV) (S : AS) : evC E call n 41 (E.at 41 []) 0 (enumT 0 [(.agg x0)]) S (retK E (E.fn 41)) = b41_entry call n (r41_lZAZ call n n) x0 S := by kernel_rfl
def J41_jZAK (call : CallA) (n : Nat) (w5a : OP) (w5l : Nat) (w5c : Cap) (S : AS) : RV := b41_jZAK call n w5a w5l w5c S
theorem h41_jZAK (call : CallA) (n : Nat) : r41_jZAK call n = J41_jZAK call n := by
 funext w5a w5l w5c S
 rw [J41_jZAK, a41_jZAK]
def J41_lZAZ (call : CallA) (n : Nat) (m : Nat) : OP → Nat → Cap → OP → Nat → Cap → Int → Int → AS → RV := Nat.rec (motive := fun _ => OP → Nat → Cap → OP → Nat → Cap → Int → Int → AS → RV) (fun _ _ _ _ _ _ _ _ _ => none) (fun mK ih w5a w5l w5c w36a w36l w36c w37 w38 S => b41_lZAZ call n ih (J41_jZAK call n ) w5a w5l w5c w36a w36l w36c w37 w38 S) m
theorem J41_lZAZ_succ (call : CallA) (n : Nat) (m : Nat) (w5a : OP) (w5l : Nat) (w5c : Cap) (w36a : OP) (w36l : Nat) (w36c : Cap) (w37 : Int) (w38 : Int) (S : AS) : J41_lZAZ call n (m + 1) w5a w5l w5c w36a w36l w36c w37 w38 S = b41_lZAZ call n (J41_lZAZ call n m) (J41_jZAK call n ) w5a w5l w5c w36a w36l w36c w37 w38 S := rfl
theorem h41_lZAZ (call : CallA) (n : Nat) (m : Nat) : r41_lZAZ call n m = J41_lZAZ call n m := by
 induction m with
 | zero => rfl
 | succ m ih =>
  funext w5a w5l w5c w36a w36l w36c w37 w38 S
  rw [J41_lZAZ_succ, a41_lZAZ, h41_jZAK call n , ih]
def J41 (call : CallA) (n : Nat) (x0 : List AV) (S : AS) : RV := b41_entry call n (J41_lZAZ call n n) x0 S
theorem run41 (o : Orc) (n : Nat) (args : List AV) (S : AS) (ho : o 41 args = none) : evF E o (n + 1) (.fn 41) args S = evC E (evF E o n) n 41 (E.at 41 []) 0 (enumT 0 args) S (retK E (E.fn 41)) := by
 rw [evF, ho]; kernel_rfl
theorem J41_eq (call : CallA) (n : Nat) (x0 : List AV) (S : AS) : evC E call n 41 (E.at 41 []) 0 (enumT 0 [(.agg x0)]) S (retK E (E.fn 41)) = J41 call n x0 S := by
 rw [J41, a41_entry, h41_lZAZ call n n]
theorem F41 {o : Orc} (n : Nat) (x0 : List AV) (S : AS) (ho : ∀ args, o 41 args = none) : evF E o (n + 1) (.fn 41) [(.agg x0)] S = J41 (evF E o n) n x0 S := (run41 o n [(.agg x0)] S (ho _)).trans (J41_eq _ _ x0 S)
def b42_entry (call : CallA) (n : Nat)  (x0 : OP) (x1 : Int) (x2 : Int) (S : AS) : RV :=
 cond (decide (x2 < 6)) (
 some ((.int .i64 2), S)) (
 cond (decide (x1 < 0)) (
 some ((.int .i64 2), S)) (
 gO x0 fun p1 =>
 ldL S p1.1 p1.2 fun v2a v2l v2c =>
 cond (decide (x2 > ((v2l : Nat) : Int))) (
 some ((.int .i64 2), S)) (
 gO x0 fun p3 =>
 ldL S p3.1 p3.2 fun v4a v4l v4c =>
 cond (decide (x1 > (IntKind.wrap .i64 (((v4l : Nat) : Int) - x2)))) (
 some ((.int .i64 2), S)) (
 some ((.int .i64 0), S)))))
def J42 (call : CallA) (n : Nat) (x0 : OP) (x1 : Int) (x2 : Int) (S : AS) : RV := b42_entry call n x0 x1 x2 S
theorem run42 (o : Orc) (n : Nat) (args : List AV) (S : AS) (ho : o 42 args = none) : evF E o (n + 1) (.fn 42) args S = evC E (evF E o n) n 42 (E.at 42 []) 0 (enumT 0 args) S (retK E (E.fn 42)) := by
 rw [evF, ho]; kernel_rfl
theorem J42_eq (call : CallA) (n : Nat) (x0 : OP) (x1 : Int) (x2 : Int) (S : AS) : evC E call n 42 (E.at 42 []) 0 (enumT 0 [(.ptr x0), (.int .i64 x1), (.int .i64 x2)]) S (retK E (E.fn 42)) = J42 call n x0 x1 x2 S := by kernel_rfl
theorem F42 {o : Orc} (n : Nat) (x0 : OP) (x1 : Int) (x2 : Int) (S : AS) (ho : ∀ args, o 42 args = none) : evF E o (n + 1) (.fn 42) [(.ptr x0), (.int .i64 x1), (.int .i64 x2)] S = J42 (evF E o n) n x0 x1 x2 S := (run42 o n [(.ptr x0), (.int .i64 x1), (.int .i64 x2)] S (ho _)).trans (J42_eq _ _ x0 x1 x2 S)
def b43_jZAJ (call : CallA) (n : Nat)  (w0 : OP) (w1 : Int) (w2a : OP) (w2l : Nat) (w2c : Cap) (S : AS) : RV :=
 drawA S 14 fun b13 S14 =>
 gO w0 fun p15 =>
 ldL S14 p15.1 (p15.2 + 1) fun v16a v16l v16c =>
 bytesStr S14 w2a w2l fun s17 =>
 layA S14 (b13 + 9) (.cells [(.int .i64 w1), (.str s17)]) fun S18 =>
 appendA 2 24 S18 v16a v16l v16c 1 (firstA S18 2 1 (.sl (some (.rw (b13 + 9), 0)) 1 (.ex 1))) fun v19a v19l v19c S20 =>
 gO w0 fun p21 =>
 S20.stn p21.1 (p21.2 + 1) [(.sl v19a v19l v19c)] fun S22 =>
 some ((.int .i64 0), S22)
def b43_entry (call : CallA) (n : Nat) (jZAJ : OP → Int → OP → Nat → Cap → AS → RV) (x0 : OP) (x1 : Int) (x2a : OP) (x2l : Nat) (x2c : Cap) (S : AS) : RV :=
 cond (decide (x1 < 0)) (
 some ((.int .i64 2), S)) (
 gO x0 fun p1 =>
 ldL S p1.1 p1.2 fun v2a v2l v2c =>
 cond (decide (x1 ≥ ((v2l : Nat) : Int))) (
 some ((.int .i64 2), S)) (
 cond (((x2l : Nat) : Int) != 384) (
 some ((.int .i64 2), S)) (
 gO x0 fun p3 =>
 ldI .i64 S p3.1 (p3.2 + 2) fun v4 =>
 cond (v4 == 0) (
 gO x0 fun p5 =>
 S.stn p5.1 (p5.2 + 2) [(.int .i64 (-1))] fun S6 =>
 some ((.int .i64 61), S6)) (
 gO x0 fun p7 =>
 ldI .i64 S p7.1 (p7.2 + 2) fun v8 =>
 cond (decide (v8 > 0)) (
 gO x0 fun p9 =>
 ldI .i64 S p9.1 (p9.2 + 2) fun v10 =>
 gO x0 fun p11 =>
 S.stn p11.1 (p11.2 + 2) [(.int .i64 (IntKind.wrap .i64 (v10 - 1)))] fun S12 =>
 jZAJ x0 x1 x2a x2l x2c S12) (
 jZAJ x0 x1 x2a x2l x2c S)))))
def r43_jZAJ (call : CallA) (n : Nat) (w0 : OP) (w1 : Int) (w2a : OP) (w2l : Nat) (w2c : Cap) (S : AS) : RV := evC E call n 43 (E.at 43 [1, 1, 1, 1]) 0 [(0, (.ptr w0)), (1, (.int .i64 w1)), (2, (.sl w2a w2l w2c))] S (retK E (E.fn 43))
theorem a43_jZAJ (call : CallA) (n : Nat) (w0 : OP) (w1 : Int) (w2a : OP) (w2l : Nat) (w2c : Cap) (S : AS) : r43_jZAJ call n w0 w1 w2a w2l w2c S = b43_jZAJ call n w0 w1 w2a w2l w2c S := by kernel_rfl
theorem a43_entry (call : CallA) (n : Nat) (x0 : OP) (x1 : Int) (x2a : OP) (x2l : Nat) (x2c : Cap) (S : AS) : evC E call n 43 (E.at 43 []) 0 (enumT 0 [(.ptr x0), (.int .i64 x1), (.sl x2a x2l x2c)]) S (retK E (E.fn 43)) = b43_entry call n (r43_jZAJ call n ) x0 x1 x2a x2l x2c S := by kernel_rfl
def J43_jZAJ (call : CallA) (n : Nat) (w0 : OP) (w1 : Int) (w2a : OP) (w2l : Nat) (w2c : Cap) (S : AS) : RV := b43_jZAJ call n w0 w1 w2a w2l w2c S
theorem h43_jZAJ (call : CallA) (n : Nat) : r43_jZAJ call n = J43_jZAJ call n := by
 funext w0 w1 w2a w2l w2c S
 rw [J43_jZAJ, a43_jZAJ]
def J43 (call : CallA) (n : Nat) (x0 : OP) (x1 : Int) (x2a : OP) (x2l : Nat) (x2c : Cap) (S : AS) : RV := b43_entry call n (J43_jZAJ call n ) x0 x1 x2a x2l x2c S
theorem run43 (o : Orc) (n : Nat) (args : List AV) (S : AS) (ho : o 43 args = none) : evF E o (n + 1) (.fn 43) args S = evC E (evF E o n) n 43 (E.at 43 []) 0 (enumT 0 args) S (retK E (E.fn 43)) := by
 rw [evF, ho]; kernel_rfl
theorem J43_eq (call : CallA) (n : Nat) (x0 : OP) (x1 : Int) (x2a : OP) (x2l : Nat) (x2c : Cap) (S : AS) : evC E call n 43 (E.at 43 []) 0 (enumT 0 [(.ptr x0), (.int .i64 x1), (.sl x2a x2l x2c)]) S (retK E (E.fn 43)) = J43 call n x0 x1 x2a x2l x2c S := by
 rw [J43, a43_entry, h43_jZAJ call n ]
theorem F43 {o : Orc} (n : Nat) (x0 : OP) (x1 : Int) (x2a : OP) (x2l : Nat) (x2c : Cap) (S : AS) (ho : ∀ args, o 43 args = none) : evF E o (n + 1) (.fn 43) [(.ptr x0), (.int .i64 x1), (.sl x2a x2l x2c)] S = J43 (evF E o n) n x0 x1 x2a x2l x2c S := (run43 o n [(.ptr x0), (.int .i64 x1), (.sl x2a x2l x2c)] S (ho _)).trans (J43_eq _ _ x0 x1 x2a x2l x2c S)
def b44_lZAR (call : CallA) (n : Nat) (lZAR : OP → Int → AS → RV) (jZAC : OP → AS → RV) (w0 : OP) (w3 : Int) (S : AS) : RV :=
 gO w0 fun p1 =>
 ldL S p1.1 (p1.2 + 1) fun v2a v2l v2c =>
 cond (decide (w3 < ((v2l : Nat) : Int))) (
 gO w0 fun p3 =>
 ldL S p3.1 p3.2 fun v4a v4l v4c =>
 gO w0 fun p5 =>
 ldL S p5.1 (p5.2 + 1) fun v6a v6l v6c =>
 ixSl 2 v6a v6l w3 fun p7 =>
 ldI .i64 S p7.1 p7.2 fun v8 =>
 gO w0 fun p9 =>
 ldL S p9.1 (p9.2 + 1) fun v10a v10l v10c =>
 ixSl 2 v10a v10l w3 fun p11 =>
 ldS S p11.1 (p11.2 + 1) fun v12 =>
 ixSl 1 v4a v4l v8 fun p13 =>
 S.stn p13.1 p13.2 [(.str v12)] fun S14 =>
 lZAR w0 (IntKind.wrap .i64 (w3 + 1)) S14) (
 jZAC w0 S)
def b44_jZAC (call : CallA) (n : Nat)  (w0 : OP) (S : AS) : RV :=
 gO w0 fun p15 =>
 S.stn p15.1 (p15.2 + 1) [(.sl none 0 (.ex 0))] fun S16 =>
 some ((.int .i64 0), S16)
def b44_entry (call : CallA) (n : Nat) (lZAR : OP → Int → AS → RV) (x0 : OP) (S : AS) : RV :=
 lZAR x0 0 S
def r44_lZAR (call : CallA) (n : Nat) (m : Nat) (w0 : OP) (w3 : Int) (S : AS) : RV := loopN (evC E call n 44 (E.at 44 [1, 0, 1, 0, 0]) 0) [0, 3] m [(0, (.ptr w0)), (3, (.int .i64 w3))] S (kBlk 0 (kSeq E call n 44 (E.at 44 [1, 1]) 0 (retK E (E.fn 44))))
def r44_jZAC (call : CallA) (n : Nat) (w0 : OP) (S : AS) : RV := evC E call n 44 (E.at 44 [1, 1]) 0 [(0, (.ptr w0))] S (retK E (E.fn 44))
theorem a44_lZAR (call : CallA) (n : Nat) (m : Nat) (w0 : OP) (w3 : Int) (S : AS) : r44_lZAR call n (m + 1) w0 w3 S = b44_lZAR call n (r44_lZAR call n m) (r44_jZAC call n ) w0 w3 S := by kernel_rfl
theorem a44_jZAC (call : CallA) (n : Nat) (w0 : OP) (S : AS) : r44_jZAC call n w0 S = b44_jZAC call n w0 S := by kernel_rfl
theorem a44_entry (call : CallA) (n : Nat) (x0 : OP) (S : AS) : evC E call n 44 (E.at 44 []) 0 (enumT 0 [(.ptr x0)]) S (retK E (E.fn 44)) = b44_entry call n (r44_lZAR call n n) x0 S := by kernel_rfl
def J44_jZAC (call : CallA) (n : Nat) (w0 : OP) (S : AS) : RV := b44_jZAC call n w0 S
theorem h44_jZAC (call : CallA) (n : Nat) : r44_jZAC call n = J44_jZAC call n := by
 funext w0 S
 rw [J44_jZAC, a44_jZAC]
def J44_lZAR (call : CallA) (n : Nat) (m : Nat) : OP → Int → AS → RV := Nat.rec (motive := fun _ => OP → Int → AS → RV) (fun _ _ _ => none) (fun mK ih w0 w3 S => b44_lZAR call n ih (J44_jZAC call n ) w0 w3 S) m
theorem J44_lZAR_succ (call : CallA) (n : Nat) (m : Nat) (w0 : OP) (w3 : Int) (S : AS) : J44_lZAR call n (m + 1) w0 w3 S = b44_lZAR call n (J44_lZAR call n m) (J44_jZAC call n ) w0 w3 S := rfl
theorem h44_lZAR (call : CallA) (n : Nat) (m : Nat) : r44_lZAR call n m = J44_lZAR call n m := by
 induction m with
 | zero => rfl
 | succ m ih =>
  funext w0 w3 S
  rw [J44_lZAR_succ, a44_lZAR, h44_jZAC call n , ih]
def J44 (call : CallA) (n : Nat) (x0 : OP) (S : AS) : RV := b44_entry call n (J44_lZAR call n n) x0 S
theorem run44 (o : Orc) (n : Nat) (args : List AV) (S : AS) (ho : o 44 args = none) : evF E o (n + 1) (.fn 44) args S = evC E (evF E o n) n 44 (E.at 44 []) 0 (enumT 0 args) S (retK E (E.fn 44)) := by
 rw [evF, ho]; kernel_rfl
theorem J44_eq (call : CallA) (n : Nat) (x0 : OP) (S : AS) : evC E call n 44 (E.at 44 []) 0 (enumT 0 [(.ptr x0)]) S (retK E (E.fn 44)) = J44 call n x0 S := by
 rw [J44, a44_entry, h44_lZAR call n n]
theorem F44 {o : Orc} (n : Nat) (x0 : OP) (S : AS) (ho : ∀ args, o 44 args = none) : evF E o (n + 1) (.fn 44) [(.ptr x0)] S = J44 (evF E o n) n x0 S := (run44 o n [(.ptr x0)] S (ho _)).trans (J44_eq _ _ x0 S)
def b45_entry (call : CallA) (n : Nat)  (x0 : List AV) (S : AS) : RV :=
 ifO (x0.length = 6) <|
 newA S (.cells x0) fun b1 S2 =>
 ldI .u64 S2 (.rw b1) 0 fun v3 =>
 cond (v3 == 0) (
 some (.tup [(.sl none 0 (.ex 0)), (.int .i64 81)], S2)) (
 ldI .u64 S2 (.rw b1) 1 fun v4 =>
 cond (v4 == 0) (
 some (.tup [(.sl none 0 (.ex 0)), (.int .i64 81)], S2)) (
 ldI .u64 S2 (.rw b1) 0 fun v5 =>
 cond (decide (v5 > 4611686018427387904)) (
 some (.tup [(.sl none 0 (.ex 0)), (.int .i64 81)], S2)) (
 ldI .u64 S2 (.rw b1) 1 fun v6 =>
 cond (decide (v6 > 4611686018427387904)) (
 some (.tup [(.sl none 0 (.ex 0)), (.int .i64 81)], S2)) (
 ldI .u64 S2 (.rw b1) 2 fun v7 =>
 cond (decide (v7 > 4611686018427387904)) (
 some (.tup [(.sl none 0 (.ex 0)), (.int .i64 81)], S2)) (
 ldI .u64 S2 (.rw b1) 3 fun v8 =>
 cond (decide (v8 > 4611686018427387904)) (
 some (.tup [(.sl none 0 (.ex 0)), (.int .i64 81)], S2)) (
 ldI .u64 S2 (.rw b1) 4 fun v9 =>
 cond (decide (v9 > 4611686018427387904)) (
 some (.tup [(.sl none 0 (.ex 0)), (.int .i64 81)], S2)) (
 ldI .u64 S2 (.rw b1) 5 fun v10 =>
 cond (decide (v10 > 4611686018427387904)) (
 some (.tup [(.sl none 0 (.ex 0)), (.int .i64 81)], S2)) (
 drawA S2 9 fun b11 S12 =>
 layA S12 (b11 + 0) (.cells [(.int .u8 74), (.int .u8 83), (.int .u8 85), (.int .u8 80)]) fun S13 =>
 convLL S13 (some (.rw (b11 + 0), 0)) 4 (.ex 4) fun v15a v15l v15c S14 =>
 ldI .u64 S14 (.rw b1) 0 fun v16 =>
 ldI .u64 S12 (.rw b1) 0 fun v17 =>
 cond (AV.beq (.int .u64 v17) (.int .u64 v16)) (
 callL call 32 [(.sl v15a v15l v15c), (.int .u64 v16), (.int .i64 8)] S14 fun v19a v19l v19c S18 =>
 ldI .u64 S18 (.rw b1) 1 fun v20 =>
 ldI .u64 S14 (.rw b1) 1 fun v21 =>
 cond (AV.beq (.int .u64 v21) (.int .u64 v20)) (
 ldI .u64 S12 (.rw b1) 1 fun v22 =>
 cond (AV.beq (.int .u64 v22) (.int .u64 v20)) (
 callL call 32 [(.sl v19a v19l v19c), (.int .u64 v20), (.int .i64 8)] S18 fun v24a v24l v24c S23 =>
 ldI .u64 S23 (.rw b1) 2 fun v25 =>
 callL call 32 [(.sl v24a v24l v24c), (.int .u64 v25), (.int .i64 8)] S23 fun v27a v27l v27c S26 =>
 ldI .u64 S26 (.rw b1) 3 fun v28 =>
 ldI .u64 S23 (.rw b1) 3 fun v29 =>
 cond (AV.beq (.int .u64 v29) (.int .u64 v28)) (
 callL call 32 [(.sl v27a v27l v27c), (.int .u64 v28), (.int .i64 8)] S26 fun v31a v31l v31c S30 =>
 ldI .u64 S30 (.rw b1) 4 fun v32 =>
 callL call 32 [(.sl v31a v31l v31c), (.int .u64 v32), (.int .i64 8)] S30 fun v34a v34l v34c S33 =>
 ldI .u64 S33 (.rw b1) 5 fun v35 =>
 ldI .u64 S30 (.rw b1) 5 fun v36 =>
 cond (AV.beq (.int .u64 v36) (.int .u64 v35)) (
 callL call 32 [(.sl v34a v34l v34c), (.int .u64 v35), (.int .i64 8)] S33 fun v38a v38l v38c S37 =>
 callL call 58 [(.sl v38a v38l v38c)] S37 fun v40a v40l v40c S39 =>
 some (.tup [(.sl v40a v40l v40c), (.int .i64 0)], S39)) none) none) none) none) none))))))))
def J45 (call : CallA) (n : Nat) (x0 : List AV) (S : AS) : RV := b45_entry call n x0 S
theorem run45 (o : Orc) (n : Nat) (args : List AV) (S : AS) (ho : o 45 args = none) : evF E o (n + 1) (.fn 45) args S = evC E (evF E o n) n 45 (E.at 45 []) 0 (enumT 0 args) S (retK E (E.fn 45)) := by
 rw [evF, ho]; kernel_rfl
theorem J45_eq (call : CallA) (n : Nat) (x0 : List AV) (S : AS) : evC E call n 45 (E.at 45 []) 0 (enumT 0 [(.agg x0)]) S (retK E (E.fn 45)) = J45 call n x0 S := by kernel_rfl
theorem F45 {o : Orc} (n : Nat) (x0 : List AV) (S : AS) (ho : ∀ args, o 45 args = none) : evF E o (n + 1) (.fn 45) [(.agg x0)] S = J45 (evF E o n) n x0 S := (run45 o n [(.agg x0)] S (ho _)).trans (J45_eq _ _ x0 S)
def b46_entry (call : CallA) (n : Nat)  (x0 : OP) (x1 : Int) (x2 : Int) (S : AS) : RV :=
 callI .i64 call 42 [(.ptr x0), (.int .i64 x1), (.int .i64 x2)] S fun v2 S1 =>
 cond (v2 != 0) (
 some (.tup [(.ptr none), (.sl none 0 (.ex 0)), (.int .i64 v2)], S1)) (
 callT call 59 [(.ptr x0), (.int .i64 x1)] S1 fun v4 S3 =>
 atL v4 0 fun v5a v5l v5c =>
 atI .i64 v4 1 fun v6 =>
 callT call 59 [(.ptr x0), (.int .i64 (IntKind.wrap .i64 (x1 + 1)))] S3 fun v8 S7 =>
 atL v8 0 fun v9a v9l v9c =>
 atI .i64 v8 1 fun v10 =>
 callT call 60 [(.sl v5a v5l v5c)] S7 fun v12 S11 =>
 atG 6 v12 0 fun g13 =>
 atI .i64 v12 1 fun v14 =>
 newA S11 (.cells [(.int .u64 0), (.int .u64 0), (.int .u64 0), (.int .u64 0), (.int .u64 0), (.int .u64 0)]) fun b15 S16 =>
 ifO (g13.length = 6) <|
 S16.stn (.rw b15) 0 g13 fun S17 =>
 callT call 60 [(.sl v9a v9l v9c)] S17 fun v19 S18 =>
 atG 6 v19 0 fun g20 =>
 atI .i64 v19 1 fun v21 =>
 newA S18 (.cells [(.int .u64 0), (.int .u64 0), (.int .u64 0), (.int .u64 0), (.int .u64 0), (.int .u64 0)]) fun b22 S23 =>
 ifO (g20.length = 6) <|
 S23.stn (.rw b22) 0 g20 fun S24 =>
 cond (v14 != 0) (
 cond (v21 != 0) (
 some (.tup [(.ptr none), (.sl none 0 (.ex 0)), (.int .i64 80)], S24)) (
 cond (v14 != 0) (
 S24.ldn (.rw b22) 0 6 fun g25 =>
 ifO (g25.length = 6) <|
 S24.stn (.rw b15) 0 g25 fun S26 =>
 ldI .u64 S26 (.rw b15) 0 fun v27 =>
 ldI .u64 S26 (.rw b15) 1 fun v28 =>
 ldI .u64 S26 (.rw b15) 2 fun v29 =>
 ldI .u64 S26 (.rw b15) 3 fun v30 =>
 ldI .u64 S26 (.rw b15) 4 fun v31 =>
 ldI .u64 S26 (.rw b15) 5 fun v32 =>
 newA S26 (.cells [(.ptr x0), (.int .i64 x1), (.int .i64 x2), (.int .u64 v27), (.int .u64 v28), (.int .u64 0), (.int .u64 v29), (.int .u64 v30), (.sl none 0 (.ex 0)), (.sl none 0 (.ex 0)), (.int .u64 v31), (.int .u64 v32), (.int .u64 0)]) fun b33 S34 =>
 ldI .u64 S34 (.rw b15) 1 fun v35 =>
 callL call 61 [(.ptr (some ((.rw b33), 0))), (.int .u64 v35)] S34 fun v37a v37l v37c S36 =>
 ldI .u64 S36 (.rw b15) 0 fun v38 =>
 cond (decide (v38 ≥ 4611686018427387904)) (
 some (.tup [(.ptr none), (.sl none 0 (.ex 0)), (.int .i64 5)], S36)) (
 ldI .u64 S36 (.rw b15) 1 fun v39 =>
 cond (decide (v39 ≥ 4611686018427387904)) (
 some (.tup [(.ptr none), (.sl none 0 (.ex 0)), (.int .i64 5)], S36)) (
 ldI .u64 S36 (.rw b15) 1 fun v40 =>
 S36.stn (.rw b33) 4 [(.int .u64 (IntKind.wrap .u64 (v40 + 1)))] fun S41 =>
 ldI .u64 S41 (.rw b33) 4 fun v42 =>
 S41.stn (.rw b15) 1 [(.int .u64 v42)] fun S43 =>
 S43.ldn (.rw b15) 0 6 fun g44 =>
 callI .i64 call 62 [(.ptr (some ((.rw b33), 0))), (.agg g44)] S43 fun v46 S45 =>
 cond (v46 != 0) (
 some (.tup [(.ptr none), (.sl none 0 (.ex 0)), (.int .i64 v46)], S45)) (
 callI .u64 call 48 [(.ptr (some ((.rw b33), 0)))] S45 fun v48 S47 =>
 S47.stn (.rw b33) 12 [(.int .u64 v48)] fun S49 =>
 some (.tup [(.ptr (some ((.rw b33), 0))), (.sl v37a v37l v37c), (.int .i64 0)], S49))))) (
 cond (v21 == 0) (
 ldI .u64 S24 (.rw b22) 0 fun v50 =>
 ldI .u64 S24 (.rw b15) 0 fun v51 =>
 cond (decide (v50 > v51)) (
 S24.ldn (.rw b22) 0 6 fun g52 =>
 ifO (g52.length = 6) <|
 S24.stn (.rw b15) 0 g52 fun S53 =>
 ldI .u64 S53 (.rw b15) 0 fun v54 =>
 ldI .u64 S53 (.rw b15) 1 fun v55 =>
 ldI .u64 S53 (.rw b15) 2 fun v56 =>
 ldI .u64 S53 (.rw b15) 3 fun v57 =>
 ldI .u64 S53 (.rw b15) 4 fun v58 =>
 ldI .u64 S53 (.rw b15) 5 fun v59 =>
 newA S53 (.cells [(.ptr x0), (.int .i64 x1), (.int .i64 x2), (.int .u64 v54), (.int .u64 v55), (.int .u64 0), (.int .u64 v56), (.int .u64 v57), (.sl none 0 (.ex 0)), (.sl none 0 (.ex 0)), (.int .u64 v58), (.int .u64 v59), (.int .u64 0)]) fun b60 S61 =>
 ldI .u64 S61 (.rw b15) 1 fun v62 =>
 callL call 61 [(.ptr (some ((.rw b60), 0))), (.int .u64 v62)] S61 fun v64a v64l v64c S63 =>
 ldI .u64 S63 (.rw b15) 0 fun v65 =>
 cond (decide (v65 ≥ 4611686018427387904)) (
 some (.tup [(.ptr none), (.sl none 0 (.ex 0)), (.int .i64 5)], S63)) (
 ldI .u64 S63 (.rw b15) 1 fun v66 =>
 cond (decide (v66 ≥ 4611686018427387904)) (
 some (.tup [(.ptr none), (.sl none 0 (.ex 0)), (.int .i64 5)], S63)) (
 ldI .u64 S63 (.rw b15) 1 fun v67 =>
 S63.stn (.rw b60) 4 [(.int .u64 (IntKind.wrap .u64 (v67 + 1)))] fun S68 =>
 ldI .u64 S68 (.rw b60) 4 fun v69 =>
 S68.stn (.rw b15) 1 [(.int .u64 v69)] fun S70 =>
 S70.ldn (.rw b15) 0 6 fun g71 =>
 callI .i64 call 62 [(.ptr (some ((.rw b60), 0))), (.agg g71)] S70 fun v73 S72 =>
 cond (v73 != 0) (
 some (.tup [(.ptr none), (.sl none 0 (.ex 0)), (.int .i64 v73)], S72)) (
 callI .u64 call 48 [(.ptr (some ((.rw b60), 0)))] S72 fun v75 S74 =>
 S74.stn (.rw b60) 12 [(.int .u64 v75)] fun S76 =>
 some (.tup [(.ptr (some ((.rw b60), 0))), (.sl v64a v64l v64c), (.int .i64 0)], S76))))) (
 ldI .u64 S24 (.rw b15) 0 fun v77 =>
 ldI .u64 S24 (.rw b15) 1 fun v78 =>
 ldI .u64 S24 (.rw b15) 2 fun v79 =>
 ldI .u64 S24 (.rw b15) 3 fun v80 =>
 ldI .u64 S24 (.rw b15) 4 fun v81 =>
 ldI .u64 S24 (.rw b15) 5 fun v82 =>
 newA S24 (.cells [(.ptr x0), (.int .i64 x1), (.int .i64 x2), (.int .u64 v77), (.int .u64 v78), (.int .u64 0), (.int .u64 v79), (.int .u64 v80), (.sl none 0 (.ex 0)), (.sl none 0 (.ex 0)), (.int .u64 v81), (.int .u64 v82), (.int .u64 0)]) fun b83 S84 =>
 ldI .u64 S84 (.rw b15) 1 fun v85 =>
 callL call 61 [(.ptr (some ((.rw b83), 0))), (.int .u64 v85)] S84 fun v87a v87l v87c S86 =>
 ldI .u64 S86 (.rw b15) 0 fun v88 =>
 cond (decide (v88 ≥ 4611686018427387904)) (
 some (.tup [(.ptr none), (.sl none 0 (.ex 0)), (.int .i64 5)], S86)) (
 ldI .u64 S86 (.rw b15) 1 fun v89 =>
 cond (decide (v89 ≥ 4611686018427387904)) (
 some (.tup [(.ptr none), (.sl none 0 (.ex 0)), (.int .i64 5)], S86)) (
 ldI .u64 S86 (.rw b15) 1 fun v90 =>
 S86.stn (.rw b83) 4 [(.int .u64 (IntKind.wrap .u64 (v90 + 1)))] fun S91 =>
 ldI .u64 S91 (.rw b83) 4 fun v92 =>
 S91.stn (.rw b15) 1 [(.int .u64 v92)] fun S93 =>
 S93.ldn (.rw b15) 0 6 fun g94 =>
 callI .i64 call 62 [(.ptr (some ((.rw b83), 0))), (.agg g94)] S93 fun v96 S95 =>
 cond (v96 != 0) (
 some (.tup [(.ptr none), (.sl none 0 (.ex 0)), (.int .i64 v96)], S95)) (
 callI .u64 call 48 [(.ptr (some ((.rw b83), 0)))] S95 fun v98 S97 =>
 S97.stn (.rw b83) 12 [(.int .u64 v98)] fun S99 =>
 some (.tup [(.ptr (some ((.rw b83), 0))), (.sl v87a v87l v87c), (.int .i64 0)], S99)))))) (
 ldI .u64 S24 (.rw b15) 0 fun v100 =>
 ldI .u64 S24 (.rw b15) 1 fun v101 =>
 ldI .u64 S24 (.rw b15) 2 fun v102 =>
 ldI .u64 S24 (.rw b15) 3 fun v103 =>
 ldI .u64 S24 (.rw b15) 4 fun v104 =>
 ldI .u64 S24 (.rw b15) 5 fun v105 =>
 newA S24 (.cells [(.ptr x0), (.int .i64 x1), (.int .i64 x2), (.int .u64 v100), (.int .u64 v101), (.int .u64 0), (.int .u64 v102), (.int .u64 v103), (.sl none 0 (.ex 0)), (.sl none 0 (.ex 0)), (.int .u64 v104), (.int .u64 v105), (.int .u64 0)]) fun b106 S107 =>
 ldI .u64 S107 (.rw b15) 1 fun v108 =>
 callL call 61 [(.ptr (some ((.rw b106), 0))), (.int .u64 v108)] S107 fun v110a v110l v110c S109 =>
 ldI .u64 S109 (.rw b15) 0 fun v111 =>
 cond (decide (v111 ≥ 4611686018427387904)) (
 some (.tup [(.ptr none), (.sl none 0 (.ex 0)), (.int .i64 5)], S109)) (
 ldI .u64 S109 (.rw b15) 1 fun v112 =>
 cond (decide (v112 ≥ 4611686018427387904)) (
 some (.tup [(.ptr none), (.sl none 0 (.ex 0)), (.int .i64 5)], S109)) (
 ldI .u64 S109 (.rw b15) 1 fun v113 =>
 S109.stn (.rw b106) 4 [(.int .u64 (IntKind.wrap .u64 (v113 + 1)))] fun S114 =>
 ldI .u64 S114 (.rw b106) 4 fun v115 =>
 S114.stn (.rw b15) 1 [(.int .u64 v115)] fun S116 =>
 S116.ldn (.rw b15) 0 6 fun g117 =>
 callI .i64 call 62 [(.ptr (some ((.rw b106), 0))), (.agg g117)] S116 fun v119 S118 =>
 cond (v119 != 0) (
 some (.tup [(.ptr none), (.sl none 0 (.ex 0)), (.int .i64 v119)], S118)) (
 callI .u64 call 48 [(.ptr (some ((.rw b106), 0)))] S118 fun v121 S120 =>
 S120.stn (.rw b106) 12 [(.int .u64 v121)] fun S122 =>
 some (.tup [(.ptr (some ((.rw b106), 0))), (.sl v110a v110l v110c), (.int .i64 0)], S122)))))))) (
 cond (v14 != 0) (
 S24.ldn (.rw b22) 0 6 fun g123 =>
 ifO (g123.length = 6) <|
 S24.stn (.rw b15) 0 g123 fun S124 =>
 ldI .u64 S124 (.rw b15) 0 fun v125 =>
 ldI .u64 S124 (.rw b15) 1 fun v126 =>
 ldI .u64 S124 (.rw b15) 2 fun v127 =>
 ldI .u64 S124 (.rw b15) 3 fun v128 =>
 ldI .u64 S124 (.rw b15) 4 fun v129 =>
 ldI .u64 S124 (.rw b15) 5 fun v130 =>
 newA S124 (.cells [(.ptr x0), (.int .i64 x1), (.int .i64 x2), (.int .u64 v125), (.int .u64 v126), (.int .u64 0), (.int .u64 v127), (.int .u64 v128), (.sl none 0 (.ex 0)), (.sl none 0 (.ex 0)), (.int .u64 v129), (.int .u64 v130), (.int .u64 0)]) fun b131 S132 =>
 ldI .u64 S132 (.rw b15) 1 fun v133 =>
 callL call 61 [(.ptr (some ((.rw b131), 0))), (.int .u64 v133)] S132 fun v135a v135l v135c S134 =>
 ldI .u64 S134 (.rw b15) 0 fun v136 =>
 cond (decide (v136 ≥ 4611686018427387904)) (
 some (.tup [(.ptr none), (.sl none 0 (.ex 0)), (.int .i64 5)], S134)) (
 ldI .u64 S134 (.rw b15) 1 fun v137 =>
 cond (decide (v137 ≥ 4611686018427387904)) (
 some (.tup [(.ptr none), (.sl none 0 (.ex 0)), (.int .i64 5)], S134)) (
 ldI .u64 S134 (.rw b15) 1 fun v138 =>
 S134.stn (.rw b131) 4 [(.int .u64 (IntKind.wrap .u64 (v138 + 1)))] fun S139 =>
 ldI .u64 S139 (.rw b131) 4 fun v140 =>
 S139.stn (.rw b15) 1 [(.int .u64 v140)] fun S141 =>
 S141.ldn (.rw b15) 0 6 fun g142 =>
 callI .i64 call 62 [(.ptr (some ((.rw b131), 0))), (.agg g142)] S141 fun v144 S143 =>
 cond (v144 != 0) (
 some (.tup [(.ptr none), (.sl none 0 (.ex 0)), (.int .i64 v144)], S143)) (
 callI .u64 call 48 [(.ptr (some ((.rw b131), 0)))] S143 fun v146 S145 =>
 S145.stn (.rw b131) 12 [(.int .u64 v146)] fun S147 =>
 some (.tup [(.ptr (some ((.rw b131), 0))), (.sl v135a v135l v135c), (.int .i64 0)], S147))))) (
 cond (v21 == 0) (
 ldI .u64 S24 (.rw b22) 0 fun v148 =>
 ldI .u64 S24 (.rw b15) 0 fun v149 =>
 cond (decide (v148 > v149)) (
 S24.ldn (.rw b22) 0 6 fun g150 =>
 ifO (g150.length = 6) <|
 S24.stn (.rw b15) 0 g150 fun S151 =>
 ldI .u64 S151 (.rw b15) 0 fun v152 =>
 ldI .u64 S151 (.rw b15) 1 fun v153 =>
 ldI .u64 S151 (.rw b15) 2 fun v154 =>
 ldI .u64 S151 (.rw b15) 3 fun v155 =>
 ldI .u64 S151 (.rw b15) 4 fun v156 =>
 ldI .u64 S151 (.rw b15) 5 fun v157 =>
 newA S151 (.cells [(.ptr x0), (.int .i64 x1), (.int .i64 x2), (.int .u64 v152), (.int .u64 v153), (.int .u64 0), (.int .u64 v154), (.int .u64 v155), (.sl none 0 (.ex 0)), (.sl none 0 (.ex 0)), (.int .u64 v156), (.int .u64 v157), (.int .u64 0)]) fun b158 S159 =>
 ldI .u64 S159 (.rw b15) 1 fun v160 =>
 callL call 61 [(.ptr (some ((.rw b158), 0))), (.int .u64 v160)] S159 fun v162a v162l v162c S161 =>
 ldI .u64 S161 (.rw b15) 0 fun v163 =>
 cond (decide (v163 ≥ 4611686018427387904)) (
 some (.tup [(.ptr none), (.sl none 0 (.ex 0)), (.int .i64 5)], S161)) (
 ldI .u64 S161 (.rw b15) 1 fun v164 =>
 cond (decide (v164 ≥ 4611686018427387904)) (
 some (.tup [(.ptr none), (.sl none 0 (.ex 0)), (.int .i64 5)], S161)) (
 ldI .u64 S161 (.rw b15) 1 fun v165 =>
 S161.stn (.rw b158) 4 [(.int .u64 (IntKind.wrap .u64 (v165 + 1)))] fun S166 =>
 ldI .u64 S166 (.rw b158) 4 fun v167 =>
 S166.stn (.rw b15) 1 [(.int .u64 v167)] fun S168 =>
 S168.ldn (.rw b15) 0 6 fun g169 =>
 callI .i64 call 62 [(.ptr (some ((.rw b158), 0))), (.agg g169)] S168 fun v171 S170 =>
 cond (v171 != 0) (
 some (.tup [(.ptr none), (.sl none 0 (.ex 0)), (.int .i64 v171)], S170)) (
 callI .u64 call 48 [(.ptr (some ((.rw b158), 0)))] S170 fun v173 S172 =>
 S172.stn (.rw b158) 12 [(.int .u64 v173)] fun S174 =>
 some (.tup [(.ptr (some ((.rw b158), 0))), (.sl v162a v162l v162c), (.int .i64 0)], S174))))) (
 ldI .u64 S24 (.rw b15) 0 fun v175 =>
 ldI .u64 S24 (.rw b15) 1 fun v176 =>
 ldI .u64 S24 (.rw b15) 2 fun v177 =>
 ldI .u64 S24 (.rw b15) 3 fun v178 =>
 ldI .u64 S24 (.rw b15) 4 fun v179 =>
 ldI .u64 S24 (.rw b15) 5 fun v180 =>
 newA S24 (.cells [(.ptr x0), (.int .i64 x1), (.int .i64 x2), (.int .u64 v175), (.int .u64 v176), (.int .u64 0), (.int .u64 v177), (.int .u64 v178), (.sl none 0 (.ex 0)), (.sl none 0 (.ex 0)), (.int .u64 v179), (.int .u64 v180), (.int .u64 0)]) fun b181 S182 =>
 ldI .u64 S182 (.rw b15) 1 fun v183 =>
 callL call 61 [(.ptr (some ((.rw b181), 0))), (.int .u64 v183)] S182 fun v185a v185l v185c S184 =>
 ldI .u64 S184 (.rw b15) 0 fun v186 =>
 cond (decide (v186 ≥ 4611686018427387904)) (
 some (.tup [(.ptr none), (.sl none 0 (.ex 0)), (.int .i64 5)], S184)) (
 ldI .u64 S184 (.rw b15) 1 fun v187 =>
 cond (decide (v187 ≥ 4611686018427387904)) (
 some (.tup [(.ptr none), (.sl none 0 (.ex 0)), (.int .i64 5)], S184)) (
 ldI .u64 S184 (.rw b15) 1 fun v188 =>
 S184.stn (.rw b181) 4 [(.int .u64 (IntKind.wrap .u64 (v188 + 1)))] fun S189 =>
 ldI .u64 S189 (.rw b181) 4 fun v190 =>
 S189.stn (.rw b15) 1 [(.int .u64 v190)] fun S191 =>
 S191.ldn (.rw b15) 0 6 fun g192 =>
 callI .i64 call 62 [(.ptr (some ((.rw b181), 0))), (.agg g192)] S191 fun v194 S193 =>
 cond (v194 != 0) (
 some (.tup [(.ptr none), (.sl none 0 (.ex 0)), (.int .i64 v194)], S193)) (
 callI .u64 call 48 [(.ptr (some ((.rw b181), 0)))] S193 fun v196 S195 =>
 S195.stn (.rw b181) 12 [(.int .u64 v196)] fun S197 =>
 some (.tup [(.ptr (some ((.rw b181), 0))), (.sl v185a v185l v185c), (.int .i64 0)], S197)))))) (
 ldI .u64 S24 (.rw b15) 0 fun v198 =>
 ldI .u64 S24 (.rw b15) 1 fun v199 =>
 ldI .u64 S24 (.rw b15) 2 fun v200 =>
 ldI .u64 S24 (.rw b15) 3 fun v201 =>
 ldI .u64 S24 (.rw b15) 4 fun v202 =>
 ldI .u64 S24 (.rw b15) 5 fun v203 =>
 newA S24 (.cells [(.ptr x0), (.int .i64 x1), (.int .i64 x2), (.int .u64 v198), (.int .u64 v199), (.int .u64 0), (.int .u64 v200), (.int .u64 v201), (.sl none 0 (.ex 0)), (.sl none 0 (.ex 0)), (.int .u64 v202), (.int .u64 v203), (.int .u64 0)]) fun b204 S205 =>
 ldI .u64 S205 (.rw b15) 1 fun v206 =>
 callL call 61 [(.ptr (some ((.rw b204), 0))), (.int .u64 v206)] S205 fun v208a v208l v208c S207 =>
 ldI .u64 S207 (.rw b15) 0 fun v209 =>
 cond (decide (v209 ≥ 4611686018427387904)) (
 some (.tup [(.ptr none), (.sl none 0 (.ex 0)), (.int .i64 5)], S207)) (
 ldI .u64 S207 (.rw b15) 1 fun v210 =>
 cond (decide (v210 ≥ 4611686018427387904)) (
 some (.tup [(.ptr none), (.sl none 0 (.ex 0)), (.int .i64 5)], S207)) (
 ldI .u64 S207 (.rw b15) 1 fun v211 =>
 S207.stn (.rw b204) 4 [(.int .u64 (IntKind.wrap .u64 (v211 + 1)))] fun S212 =>
 ldI .u64 S212 (.rw b204) 4 fun v213 =>
 S212.stn (.rw b15) 1 [(.int .u64 v213)] fun S214 =>
 S214.ldn (.rw b15) 0 6 fun g215 =>
 callI .i64 call 62 [(.ptr (some ((.rw b204), 0))), (.agg g215)] S214 fun v217 S216 =>
 cond (v217 != 0) (
 some (.tup [(.ptr none), (.sl none 0 (.ex 0)), (.int .i64 v217)], S216)) (
 callI .u64 call 48 [(.ptr (some ((.rw b204), 0)))] S216 fun v219 S218 =>
 S218.stn (.rw b204) 12 [(.int .u64 v219)] fun S220 =>
 some (.tup [(.ptr (some ((.rw b204), 0))), (.sl v208a v208l v208c), (.int .i64 0)], S220))))))))
def J46 (call : CallA) (n : Nat) (x0 : OP) (x1 : Int) (x2 : Int) (S : AS) : RV := b46_entry call n x0 x1 x2 S
theorem run46 (o : Orc) (n : Nat) (args : List AV) (S : AS) (ho : o 46 args = none) : evF E o (n + 1) (.fn 46) args S = evC E (evF E o n) n 46 (E.at 46 []) 0 (enumT 0 args) S (retK E (E.fn 46)) := by
 rw [evF, ho]; kernel_rfl
theorem J46_eq (call : CallA) (n : Nat) (x0 : OP) (x1 : Int) (x2 : Int) (S : AS) : evC E call n 46 (E.at 46 []) 0 (enumT 0 [(.ptr x0), (.int .i64 x1), (.int .i64 x2)]) S (retK E (E.fn 46)) = J46 call n x0 x1 x2 S := by kernel_rfl
theorem F46 {o : Orc} (n : Nat) (x0 : OP) (x1 : Int) (x2 : Int) (S : AS) (ho : ∀ args, o 46 args = none) : evF E o (n + 1) (.fn 46) [(.ptr x0), (.int .i64 x1), (.int .i64 x2)] S = J46 (evF E o n) n x0 x1 x2 S := (run46 o n [(.ptr x0), (.int .i64 x1), (.int .i64 x2)] S (ho _)).trans (J46_eq _ _ x0 x1 x2 S)
def b47_lZAS (call : CallA) (n : Nat) (lZAS : OP → OP → Bool → Int → AS → RV) (jZAF : OP → OP → AS → RV) (w0 : OP) (w1 : OP) (w4 : Bool) (w5 : Int) (S : AS) : RV :=
 gO w0 fun p9 =>
 ldL S p9.1 p9.2 fun v10a v10l v10c =>
 cond (decide (w5 < ((v10l : Nat) : Int))) (
 gO w0 fun p11 =>
 ldL S p11.1 p11.2 fun v12a v12l v12c =>
 ixSl 1 v12a v12l w5 fun p13 =>
 ldS S p13.1 p13.2 fun v14 =>
 gO w1 fun p15 =>
 ldL S p15.1 p15.2 fun v16a v16l v16c =>
 ixSl 1 v16a v16l w5 fun p17 =>
 ldS S p17.1 p17.2 fun v18 =>
 cond (!(v14 == v18)) (
 some ((.bool false), S)) (
 lZAS w0 w1 w4 (IntKind.wrap .i64 (w5 + 1)) S)) (
 jZAF w0 w1 S)
def b47_jZAF (call : CallA) (n : Nat) (lZAW : OP → OP → AV → Int → AS → RV) (w0 : OP) (w1 : OP) (S : AS) : RV :=
 lZAW w0 w1 .undef 0 S
def b47_lZAW (call : CallA) (n : Nat) (lZAW : OP → OP → AV → Int → AS → RV) (w0 : OP) (w1 : OP) (w4 : AV) (w6 : Int) (S : AS) : RV :=
 gO w0 fun p19 =>
 ldL S p19.1 (p19.2 + 1) fun v20a v20l v20c =>
 cond (decide (w6 < ((v20l : Nat) : Int))) (
 gO w0 fun p21 =>
 ldL S p21.1 (p21.2 + 1) fun v22a v22l v22c =>
 ixSl 2 v22a v22l w6 fun p23 =>
 S.ldn p23.1 p23.2 2 fun g24 =>
 gO w1 fun p25 =>
 ldL S p25.1 (p25.2 + 1) fun v26a v26l v26c =>
 ixSl 2 v26a v26l w6 fun p27 =>
 S.ldn p27.1 p27.2 2 fun g28 =>
 aggNe ty107 g24 g28 fun b29 =>
 cond b29 (
 some ((.bool false), S)) (
 lZAW w0 w1 w4 (IntKind.wrap .i64 (w6 + 1)) S)) (
 some ((.bool true), S))
def b47_entry (call : CallA) (n : Nat) (lZAS : OP → OP → Bool → Int → AS → RV) (x0 : OP) (x1 : OP) (S : AS) : RV :=
 gO x0 fun p1 =>
 ldL S p1.1 p1.2 fun v2a v2l v2c =>
 gO x1 fun p3 =>
 ldL S p3.1 p3.2 fun v4a v4l v4c =>
 cond (((v2l : Nat) : Int) != ((v4l : Nat) : Int)) (
 some ((.bool false), S)) (
 gO x0 fun p5 =>
 ldL S p5.1 (p5.2 + 1) fun v6a v6l v6c =>
 gO x1 fun p7 =>
 ldL S p7.1 (p7.2 + 1) fun v8a v8l v8c =>
 cond (((v6l : Nat) : Int) != ((v8l : Nat) : Int)) (
 some ((.bool false), S)) (
 lZAS x0 x1 false 0 S))
def r47_lZAS (call : CallA) (n : Nat) (m : Nat) (w0 : OP) (w1 : OP) (w4 : Bool) (w5 : Int) (S : AS) : RV := loopN (evC E call n 47 (E.at 47 [1, 1, 0, 1, 0, 0]) 0) [0, 1, 4, 5] m [(0, (.ptr w0)), (1, (.ptr w1)), (4, (.bool w4)), (5, (.int .i64 w5))] S (kBlk 0 (kSeq E call n 47 (E.at 47 [1, 1, 1]) 0 (retK E (E.fn 47))))
def r47_jZAF (call : CallA) (n : Nat) (w0 : OP) (w1 : OP) (S : AS) : RV := evC E call n 47 (E.at 47 [1, 1, 1]) 0 [(0, (.ptr w0)), (1, (.ptr w1))] S (retK E (E.fn 47))
def r47_lZAW (call : CallA) (n : Nat) (m : Nat) (w0 : OP) (w1 : OP) (w4 : AV) (w6 : Int) (S : AS) : RV := loopN (evC E call n 47 (E.at 47 [1, 1, 1, 0, 1, 0, 0]) 2) [0, 1, 4, 6] m [(0, (.ptr w0)), (1, (.ptr w1)), (4, w4), (6, (.int .i64 w6))] S (kBlk 2 (kSeq E call n 47 (E.at 47 [1, 1, 1, 1]) 0 (retK E (E.fn 47))))
theorem a47_lZAS (call : CallA) (n : Nat) (m : Nat) (w0 : OP) (w1 : OP) (w4 : Bool) (w5 : Int) (S : AS) : r47_lZAS call n (m + 1) w0 w1 w4 w5 S = b47_lZAS call n (r47_lZAS call n m) (r47_jZAF call n ) w0 w1 w4 w5 S := by kernel_rfl
theorem a47_jZAF (call : CallA) (n : Nat) (w0 : OP) (w1 : OP) (S : AS) : r47_jZAF call n w0 w1 S = b47_jZAF call n (r47_lZAW call n n) w0 w1 S := by kernel_rfl
theorem a47_lZAW (call : CallA) (n : Nat) (m : Nat) (w0 : OP) (w1 : OP) (w4 : AV) (w6 : Int) (S : AS) : r47_lZAW call n (m + 1) w0 w1 w4 w6 S = b47_lZAW call n (r47_lZAW call n m) w0 w1 w4 w6 S := by kernel_rfl
theorem a47_entry (call : CallA) (n : Nat) (x0 : OP) (x1 : OP) (S : AS) : evC E call n 47 (E.at 47 []) 0 (enumT 0 [(.ptr x0), (.ptr x1)]) S (retK E (E.fn 47)) = b47_entry call n (r47_lZAS call n n) x0 x1 S := by kernel_rfl
def J47_lZAW (call : CallA) (n : Nat) (m : Nat) : OP → OP → AV → Int → AS → RV := Nat.rec (motive := fun _ => OP → OP → AV → Int → AS → RV) (fun _ _ _ _ _ => none) (fun mK ih w0 w1 w4 w6 S => b47_lZAW call n ih w0 w1 w4 w6 S) m
theorem J47_lZAW_succ (call : CallA) (n : Nat) (m : Nat) (w0 : OP) (w1 : OP) (w4 : AV) (w6 : Int) (S : AS) : J47_lZAW call n (m + 1) w0 w1 w4 w6 S = b47_lZAW call n (J47_lZAW call n m) w0 w1 w4 w6 S := rfl
theorem h47_lZAW (call : CallA) (n : Nat) (m : Nat) : r47_lZAW call n m = J47_lZAW call n m := by
 induction m with
 | zero => rfl
 | succ m ih =>
  funext w0 w1 w4 w6 S
  rw [J47_lZAW_succ, a47_lZAW, ih]
def J47_jZAF (call : CallA) (n : Nat) (w0 : OP) (w1 : OP) (S : AS) : RV := b47_jZAF call n (J47_lZAW call n n) w0 w1 S
theorem h47_jZAF (call : CallA) (n : Nat) : r47_jZAF call n = J47_jZAF call n := by
 funext w0 w1 S
 rw [J47_jZAF, a47_jZAF, h47_lZAW call n n]
def J47_lZAS (call : CallA) (n : Nat) (m : Nat) : OP → OP → Bool → Int → AS → RV := Nat.rec (motive := fun _ => OP → OP → Bool → Int → AS → RV) (fun _ _ _ _ _ => none) (fun mK ih w0 w1 w4 w5 S => b47_lZAS call n ih (J47_jZAF call n ) w0 w1 w4 w5 S) m
theorem J47_lZAS_succ (call : CallA) (n : Nat) (m : Nat) (w0 : OP) (w1 : OP) (w4 : Bool) (w5 : Int) (S : AS) : J47_lZAS call n (m + 1) w0 w1 w4 w5 S = b47_lZAS call n (J47_lZAS call n m) (J47_jZAF call n ) w0 w1 w4 w5 S := rfl
theorem h47_lZAS (call : CallA) (n : Nat) (m : Nat) : r47_lZAS call n m = J47_lZAS call n m := by
 induction m with
 | zero => rfl
 | succ m ih =>
  funext w0 w1 w4 w5 S
  rw [J47_lZAS_succ, a47_lZAS, h47_jZAF call n , ih]
def J47 (call : CallA) (n : Nat) (x0 : OP) (x1 : OP) (S : AS) : RV := b47_entry call n (J47_lZAS call n n) x0 x1 S
theorem run47 (o : Orc) (n : Nat) (args : List AV) (S : AS) (ho : o 47 args = none) : evF E o (n + 1) (.fn 47) args S = evC E (evF E o n) n 47 (E.at 47 []) 0 (enumT 0 args) S (retK E (E.fn 47)) := by
 rw [evF, ho]; kernel_rfl
theorem J47_eq (call : CallA) (n : Nat) (x0 : OP) (x1 : OP) (S : AS) : evC E call n 47 (E.at 47 []) 0 (enumT 0 [(.ptr x0), (.ptr x1)]) S (retK E (E.fn 47)) = J47 call n x0 x1 S := by
 rw [J47, a47_entry, h47_lZAS call n n]
theorem F47 {o : Orc} (n : Nat) (x0 : OP) (x1 : OP) (S : AS) (ho : ∀ args, o 47 args = none) : evF E o (n + 1) (.fn 47) [(.ptr x0), (.ptr x1)] S = J47 (evF E o n) n x0 x1 S := (run47 o n [(.ptr x0), (.ptr x1)] S (ho _)).trans (J47_eq _ _ x0 x1 S)
end
end Go.Jn
