/- Plain readings of the functions, and that they are what the evaluator does: by program. -/
import Derived.Test.YtcepfilbiahdjaaGrRes
import Derived.Test.YtcepfilbiahdjaaENV
import Derived.KernelRfl
set_option maxRecDepth 100000
set_option linter.unusedVariables false
namespace Go.Jn
open Go.Gr
noncomputable section
def b5_lZAb (call : CallA) (n : Nat)  (lZAb : Int → OP → Nat → Cap → Bool → OP → OP → OP → Nat → Cap → Int → Int → Int → AS → RV) (w0 : Int) (w1a : OP) (w1l : Nat) (w1c : Cap) (w4 : Bool) (w5 : OP) (w6 : OP) (w7a : OP) (w7l : Nat) (w7c : Cap) (w8 : Int) (w9 : Int) (w10 : Int) (S : AS) : RV :=
 cond (decide (w10 < ((w1l : Nat) : Int))) (
 ixSl 5 w1a w1l w10 fun p17 =>
 S.ldn p17.1 p17.2 5 fun g18 =>
 newA S (.cells [(.int .i64 0), (.sl none 0 (.ex 0)), (.int .u64 0), (.sl none 0 (.ex 0)), (.int .i64 0)]) fun b19 S20 =>
 ifO (g18.length = 5) <|
 S20.stn (.rw b19) 0 g18 fun S21 =>
 ldI .i64 S21 (.rw b19) 0 fun v22 =>
 cond (v22 == 1) (
 ldL S21 (.rw b19) 1 fun v23a v23l v23c =>
 callL call 12 [(.sl v23a v23l v23c)] S21 fun v25a v25l v25c S24 =>
 callT call 11 [(.ptr w6), (.sl v25a v25l v25c)] S24 fun v27 S26 =>
 atI .u64 v27 0 fun v28 =>
 atI .i64 v27 1 fun v29 =>
 callI .i64 call 13 [(.int .i64 v29)] S26 fun v31 S30 =>
 cond (v31 == 0) (
 ldL S30 (.rw b19) 1 fun v32a v32l v32c =>
 callL call 12 [(.sl v32a v32l v32c)] S30 fun v34a v34l v34c S33 =>
 newA S33 (.cells [(.sl v34a v34l v34c)]) fun b35 S36 =>
 appendA 1 24 S36 w7a w7l w7c 1 (firstA S36 1 1 (.sl (some (.rw b35, 0)) 1 (.ex 1))) fun v37a v37l v37c S38 =>
 cond ((IntKind.wrap .i64 v28) != (IntKind.wrap .i64 (w8 + ((v37l : Nat) : Int)))) (
 some ((.bool false), S38)) (
 callI .u64 call 28 [(.ptr w6)] S38 fun v40 S39 =>
 cond ((IntKind.wrap .i64 v40) != w9) (
 some ((.bool false), S39)) (
 callI .u64 call 15 [(.ptr w6)] S39 fun v42 S41 =>
 cond ((IntKind.wrap .i64 v42) != w8) (
 some ((.bool false), S41)) (
 callI .u64 call 29 [(.ptr w6)] S41 fun v44 S43 =>
 cond ((IntKind.wrap .i64 v44) != (IntKind.wrap .i64 (w8 + ((v37l : Nat) : Int)))) (
 some ((.bool false), S43)) (
 lZAb w0 w1a w1l w1c w4 w5 w6 v37a v37l v37c w8 w9 (IntKind.wrap .i64 (w10 + 1)) S43))))) (
 callI .u64 call 28 [(.ptr w6)] S30 fun v46 S45 =>
 cond ((IntKind.wrap .i64 v46) != w9) (
 some ((.bool false), S45)) (
 callI .u64 call 15 [(.ptr w6)] S45 fun v48 S47 =>
 cond ((IntKind.wrap .i64 v48) != w8) (
 some ((.bool false), S47)) (
 callI .u64 call 29 [(.ptr w6)] S47 fun v50 S49 =>
 cond ((IntKind.wrap .i64 v50) != (IntKind.wrap .i64 (w8 + ((w7l : Nat) : Int)))) (
 some ((.bool false), S49)) (
 lZAb w0 w1a w1l w1c w4 w5 w6 w7a w7l w7c w8 w9 (IntKind.wrap .i64 (w10 + 1)) S49))))) (
 cond (v22 == 2) (
 callI .i64 call 14 [(.ptr w6)] S21 fun v52 S51 =>
 callI .i64 call 13 [(.int .i64 v52)] S51 fun v54 S53 =>
 cond (v54 != 0) (
 some ((.bool false), S53)) (
 callI .u64 call 28 [(.ptr w6)] S53 fun v56 S55 =>
 cond ((IntKind.wrap .i64 v56) != (IntKind.wrap .i64 (w8 + ((w7l : Nat) : Int)))) (
 some ((.bool false), S55)) (
 callI .u64 call 15 [(.ptr w6)] S55 fun v58 S57 =>
 cond ((IntKind.wrap .i64 v58) != w8) (
 some ((.bool false), S57)) (
 callI .u64 call 29 [(.ptr w6)] S57 fun v60 S59 =>
 cond ((IntKind.wrap .i64 v60) != (IntKind.wrap .i64 (w8 + ((w7l : Nat) : Int)))) (
 some ((.bool false), S59)) (
 lZAb w0 w1a w1l w1c w4 w5 w6 w7a w7l w7c w8 (IntKind.wrap .i64 (w8 + ((w7l : Nat) : Int))) (IntKind.wrap .i64 (w10 + 1)) S59))))) (
 cond (v22 == 3) (
 ldI .u64 S21 (.rw b19) 2 fun v61 =>
 callI .i64 call 16 [(.ptr w6), (.int .u64 v61)] S21 fun v63 S62 =>
 callI .i64 call 13 [(.int .i64 v63)] S62 fun v65 S64 =>
 cond (v65 == 0) (
 ldI .u64 S64 (.rw b19) 2 fun v66 =>
 cond (decide ((IntKind.wrap .i64 v66) > w8)) (
 ldI .u64 S64 (.rw b19) 2 fun v67 =>
 slSl 1 w7a w7l w7c (some (IntKind.wrap .i64 ((IntKind.wrap .i64 v67) - w8))) none none fun v68a v68l v68c =>
 ldI .u64 S64 (.rw b19) 2 fun v69 =>
 callI .u64 call 28 [(.ptr w6)] S64 fun v71 S70 =>
 cond ((IntKind.wrap .i64 v71) != (IntKind.wrap .i64 (w8 + ((w7l : Nat) : Int)))) (
 some ((.bool false), S70)) (
 callI .u64 call 15 [(.ptr w6)] S70 fun v73 S72 =>
 cond ((IntKind.wrap .i64 v73) != (IntKind.wrap .i64 v69)) (
 some ((.bool false), S72)) (
 callI .u64 call 29 [(.ptr w6)] S72 fun v75 S74 =>
 cond ((IntKind.wrap .i64 v75) != (IntKind.wrap .i64 ((IntKind.wrap .i64 v69) + ((v68l : Nat) : Int)))) (
 some ((.bool false), S74)) (
 lZAb w0 w1a w1l w1c w4 w5 w6 v68a v68l v68c (IntKind.wrap .i64 v69) (IntKind.wrap .i64 (w8 + ((w7l : Nat) : Int))) (IntKind.wrap .i64 (w10 + 1)) S74)))) (
 callI .u64 call 28 [(.ptr w6)] S64 fun v77 S76 =>
 cond ((IntKind.wrap .i64 v77) != w9) (
 some ((.bool false), S76)) (
 callI .u64 call 15 [(.ptr w6)] S76 fun v79 S78 =>
 cond ((IntKind.wrap .i64 v79) != w8) (
 some ((.bool false), S78)) (
 callI .u64 call 29 [(.ptr w6)] S78 fun v81 S80 =>
 cond ((IntKind.wrap .i64 v81) != (IntKind.wrap .i64 (w8 + ((w7l : Nat) : Int)))) (
 some ((.bool false), S80)) (
 lZAb w0 w1a w1l w1c w4 w5 w6 w7a w7l w7c w8 w9 (IntKind.wrap .i64 (w10 + 1)) S80))))) (
 callI .u64 call 28 [(.ptr w6)] S64 fun v83 S82 =>
 cond ((IntKind.wrap .i64 v83) != w9) (
 some ((.bool false), S82)) (
 callI .u64 call 15 [(.ptr w6)] S82 fun v85 S84 =>
 cond ((IntKind.wrap .i64 v85) != w8) (
 some ((.bool false), S84)) (
 callI .u64 call 29 [(.ptr w6)] S84 fun v87 S86 =>
 cond ((IntKind.wrap .i64 v87) != (IntKind.wrap .i64 (w8 + ((w7l : Nat) : Int)))) (
 some ((.bool false), S86)) (
 lZAb w0 w1a w1l w1c w4 w5 w6 w7a w7l w7c w8 w9 (IntKind.wrap .i64 (w10 + 1)) S86))))) (
 cond (v22 == 4) (
 ldL S21 (.rw b19) 3 fun v88a v88l v88c =>
 callT call 24 [(.ptr w5), (.sl v88a v88l v88c)] S21 fun v90 S89 =>
 callT call 25 [(.iface 25 (.ptr w5)), (.int .i64 0), (.int .i64 w0)] S89 fun v92 S91 =>
 atP v92 0 fun v93 =>
 atL v92 1 fun v94a v94l v94c =>
 atI .i64 v92 2 fun v95 =>
 callI .i64 call 13 [(.int .i64 v95)] S91 fun v97 S96 =>
 cond (v97 != 0) (
 some ((.bool false), S96)) (
 cond v93.isNone (
 some ((.bool false), S96)) (
 cond (decide (((v94l : Nat) : Int) > ((w7l : Nat) : Int))) (
 some ((.bool false), S96)) (
 cond (decide ((IntKind.wrap .i64 (w8 + ((v94l : Nat) : Int))) < w9)) (
 some ((.bool false), S96)) (
 slSl 1 w7a w7l w7c none (some ((v94l : Nat) : Int)) none fun v98a v98l v98c =>
 callB call 26 [(.sl v94a v94l v94c), (.sl v98a v98l v98c)] S96 fun v100 S99 =>
 cond (!v100) (
 some ((.bool false), S99)) (
 callP call 27 [(.ptr w5)] S99 fun v102 S101 =>
 callT call 25 [(.iface 25 (.ptr v102)), (.int .i64 0), (.int .i64 w0)] S101 fun v104 S103 =>
 atP v104 0 fun v105 =>
 atL v104 1 fun v106a v106l v106c =>
 atI .i64 v104 2 fun v107 =>
 callI .i64 call 13 [(.int .i64 v107)] S103 fun v109 S108 =>
 cond (v109 != 0) (
 some ((.bool false), S108)) (
 callB call 26 [(.sl v106a v106l v106c), (.sl v94a v94l v94c)] S108 fun v111 S110 =>
 cond (!v111) (
 some ((.bool false), S110)) (
 callI .u64 call 28 [(.ptr v93)] S110 fun v113 S112 =>
 cond ((IntKind.wrap .i64 v113) != (IntKind.wrap .i64 (w8 + ((v94l : Nat) : Int)))) (
 some ((.bool false), S112)) (
 callI .u64 call 15 [(.ptr v93)] S112 fun v115 S114 =>
 cond ((IntKind.wrap .i64 v115) != w8) (
 some ((.bool false), S114)) (
 callI .u64 call 29 [(.ptr v93)] S114 fun v117 S116 =>
 cond ((IntKind.wrap .i64 v117) != (IntKind.wrap .i64 (w8 + ((v94l : Nat) : Int)))) (
 some ((.bool false), S116)) (
 lZAb w0 w1a w1l w1c w4 w5 v93 v94a v94l v94c w8 (IntKind.wrap .i64 (w8 + ((v94l : Nat) : Int))) (IntKind.wrap .i64 (w10 + 1)) S116))))))))))) (
 callI .u64 call 28 [(.ptr w6)] S21 fun v119 S118 =>
 cond ((IntKind.wrap .i64 v119) != w9) (
 some ((.bool false), S118)) (
 callI .u64 call 15 [(.ptr w6)] S118 fun v121 S120 =>
 cond ((IntKind.wrap .i64 v121) != w8) (
 some ((.bool false), S120)) (
 callI .u64 call 29 [(.ptr w6)] S120 fun v123 S122 =>
 cond ((IntKind.wrap .i64 v123) != (IntKind.wrap .i64 (w8 + ((w7l : Nat) : Int)))) (
 some ((.bool false), S122)) (
 lZAb w0 w1a w1l w1c w4 w5 w6 w7a w7l w7c w8 w9 (IntKind.wrap .i64 (w10 + 1)) S122)))))))) (
 callB call 7 [] S fun v125 S124 =>
 some ((.bool v125), S124))
def b5_entry (call : CallA) (n : Nat)  (lZAb : Int → OP → Nat → Cap → Bool → OP → OP → OP → Nat → Cap → Int → Int → Int → AS → RV) (x0 : Int) (x1a : OP) (x1l : Nat) (x1c : Cap) (S : AS) : RV :=
 callB call 6 [(.sl x1a x1l x1c)] S fun v2 S1 =>
 cond v2 (
 callB call 7 [] S1 fun v4 S3 =>
 some ((.bool v4), S3)) (
 callT call 8 [(.int .i64 x0)] S1 fun v6 S5 =>
 atP v6 0 fun v7 =>
 atP v6 1 fun v8 =>
 cond v7.isNone (
 cond (decide (x0 < 6)) (
 callB call 7 [] S5 fun v10 S9 =>
 some ((.bool v10), S9)) (
 cond (decide (x0 > 40)) (
 callB call 7 [] S5 fun v12 S11 =>
 some ((.bool v12), S11)) (
 some ((.bool false), S5)))) (
 cond v8.isNone (
 cond (decide (x0 < 6)) (
 callB call 7 [] S5 fun v14 S13 =>
 some ((.bool v14), S13)) (
 cond (decide (x0 > 40)) (
 callB call 7 [] S5 fun v16 S15 =>
 some ((.bool v16), S15)) (
 some ((.bool false), S5)))) (
 lZAb x0 x1a x1l x1c false v7 v8 none 0 (.ex 0) 0 0 0 S5)))
def r5_lZAb (call : CallA) (n : Nat)  (m : Nat) (w0 : Int) (w1a : OP) (w1l : Nat) (w1c : Cap) (w4 : Bool) (w5 : OP) (w6 : OP) (w7a : OP) (w7l : Nat) (w7c : Cap) (w8 : Int) (w9 : Int) (w10 : Int) (S : AS) : RV := loopN (evC E call n 5 (E.at 5 [1, 1, 1, 1, 1, 1, 0, 1, 0, 0]) 0) [0, 1, 4, 5, 6, 7, 8, 9, 10] m [(0, (.int .i64 w0)), (1, (.sl w1a w1l w1c)), (4, (.bool w4)), (5, (.ptr w5)), (6, (.ptr w6)), (7, (.sl w7a w7l w7c)), (8, (.int .i64 w8)), (9, (.int .i64 w9)), (10, (.int .i64 w10))] S (kBlk 0 (kSeq E call n 5 (E.at 5 [1, 1, 1, 1, 1, 1, 1]) 0 (retK E (E.fn 5))))
theorem a5_lZAb (call : CallA) (n : Nat)  (m : Nat) (w0 : Int) (w1a : OP) (w1l : Nat) (w1c : Cap) (w4 : Bool) (w5 : OP) (w6 : OP) (w7a : OP) (w7l : Nat) (w7c : Cap) (w8 : Int) (w9 : Int) (w10 : Int) (S : AS) : r5_lZAb call n  (m + 1) w0 w1a w1l w1c w4 w5 w6 w7a w7l w7c w8 w9 w10 S = b5_lZAb call n (r5_lZAb call n  m) w0 w1a w1l w1c w4 w5 w6 w7a w7l w7c w8 w9 w10 S := by kernel_rfl
theorem a5_entry (call : CallA) (n : Nat) (x0 : Int) (x1a : OP) (x1l : Nat) (x1c : Cap) (S : AS) : evC E call n 5 (E.at 5 []) 0 (enumT 0 [(.int .i64 x0), (.sl x1a x1l x1c)]) S (retK E (E.fn 5)) = b5_entry call n (r5_lZAb call n  n) x0 x1a x1l x1c S := by kernel_rfl
def J5_lZAb (call : CallA) (n : Nat)  (m : Nat) : Int → OP → Nat → Cap → Bool → OP → OP → OP → Nat → Cap → Int → Int → Int → AS → RV := Nat.rec (motive := fun _ => Int → OP → Nat → Cap → Bool → OP → OP → OP → Nat → Cap → Int → Int → Int → AS → RV) (fun _ _ _ _ _ _ _ _ _ _ _ _ _ _ => none) (fun mK ih w0 w1a w1l w1c w4 w5 w6 w7a w7l w7c w8 w9 w10 S => b5_lZAb call n ih w0 w1a w1l w1c w4 w5 w6 w7a w7l w7c w8 w9 w10 S) m
theorem J5_lZAb_succ (call : CallA) (n : Nat)  (m : Nat) (w0 : Int) (w1a : OP) (w1l : Nat) (w1c : Cap) (w4 : Bool) (w5 : OP) (w6 : OP) (w7a : OP) (w7l : Nat) (w7c : Cap) (w8 : Int) (w9 : Int) (w10 : Int) (S : AS) : J5_lZAb call n  (m + 1) w0 w1a w1l w1c w4 w5 w6 w7a w7l w7c w8 w9 w10 S = b5_lZAb call n (J5_lZAb call n  m) w0 w1a w1l w1c w4 w5 w6 w7a w7l w7c w8 w9 w10 S := rfl
theorem h5_lZAb (call : CallA) (n : Nat)  (m : Nat) : r5_lZAb call n  m = J5_lZAb call n  m := by
 induction m with
 | zero => rfl
 | succ m ih =>
   funext w0 w1a w1l w1c w4 w5 w6 w7a w7l w7c w8 w9 w10 S
   rw [J5_lZAb_succ, a5_lZAb, ih]
def J5 (call : CallA) (n : Nat) (x0 : Int) (x1a : OP) (x1l : Nat) (x1c : Cap) (S : AS) : RV := b5_entry call n (J5_lZAb call n  n) x0 x1a x1l x1c S
theorem run5 (o : Orc) (n : Nat) (args : List AV) (S : AS) (ho : o 5 args = none) : evF E o (n + 1) (.fn 5) args S = evC E (evF E o n) n 5 (E.at 5 []) 0 (enumT 0 args) S (retK E (E.fn 5)) := by
 rw [evF, ho]; kernel_rfl
theorem J5_eq (call : CallA) (n : Nat) (x0 : Int) (x1a : OP) (x1l : Nat) (x1c : Cap) (S : AS) : evC E call n 5 (E.at 5 []) 0 (enumT 0 [(.int .i64 x0), (.sl x1a x1l x1c)]) S (retK E (E.fn 5)) = J5 call n x0 x1a x1l x1c S := by
 rw [J5, a5_entry, h5_lZAb call n  n]
theorem F5 {o : Orc} (n : Nat) (x0 : Int) (x1a : OP) (x1l : Nat) (x1c : Cap) (S : AS) (ho : ∀ args, o 5 args = none) : evF E o (n + 1) (.fn 5) [(.int .i64 x0), (.sl x1a x1l x1c)] S = J5 (evF E o n) n x0 x1a x1l x1c S := (run5 o n [(.int .i64 x0), (.sl x1a x1l x1c)] S (ho _)).trans (J5_eq _ _ x0 x1a x1l x1c S)
end
end Go.Jn
