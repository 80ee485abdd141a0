/- Plain readings of the functions, and that they are what the evaluator does: by program. -/
import Derived.Test.YtjninokocidaaaaGrRes
import Derived.Test.YtjninokocidaaaaENV
import Derived.KernelRfl
set_option maxRecDepth 100000
set_option linter.unusedVariables false
namespace Go.Al
open Go.Gr
noncomputable section
def b31_j1_1 (call : CallA) (n : Nat)  (w0 : Option Pos) (S : AS) : Option (AV × AS) :=
 some (.tup [(.ptr w0), (.bool true)], S)

def b31_entry (call : CallA) (n : Nat) (j1_1 : Option Pos → AS → Option (AV × AS)) (x0 : Option Pos) (x1 : Option Pos) (x2 : List AV) (S : AS) : Option (AV × AS) :=
 ifO (x2.length = 2) <|
 newA S (.cells x2) fun b1 S2 =>
 ldI .i64 S2 (.rw b1) 0 fun v3 =>
 cond (v3 == 1) (
 ldI .i64 S2 (.rw b1) 1 fun v4 =>
 callT call 13 [(.ptr x0), (.int .i64 v4)] S2 fun v6 S5 =>
 atI .i64 v6 0 fun v7 =>
 atI .i64 v6 1 fun v8 =>
 ldI .i64 S5 (.rw b1) 1 fun v9 =>
 callT call 47 [(.ptr x1), (.int .i64 v9)] S5 fun v11 S10 =>
 atI .i64 v11 0 fun v12 =>
 atI .i64 v11 1 fun v13 =>
 cond (v7 == v12) (
 callI .i64 call 11 [(.int .i64 v8)] S10 fun v15 S14 =>
 some (.tup [(.ptr x0), (.bool (v15 == v13))], S14)) (
 some (.tup [(.ptr x0), (.bool false)], S10))) (
 cond (v3 == 2) (
 ldI .i64 S2 (.rw b1) 1 fun v16 =>
 callT call 20 [(.ptr x0), (.int .i64 v16)] S2 fun v18 S17 =>
 atI .i64 v18 0 fun v19 =>
 atI .i64 v18 1 fun v20 =>
 ldI .i64 S17 (.rw b1) 1 fun v21 =>
 callT call 48 [(.ptr x1), (.int .i64 v21)] S17 fun v23 S22 =>
 atI .i64 v23 0 fun v24 =>
 atI .i64 v23 1 fun v25 =>
 cond (v19 == v24) (
 callI .i64 call 11 [(.int .i64 v20)] S22 fun v27 S26 =>
 some (.tup [(.ptr x0), (.bool (v27 == v25))], S26)) (
 some (.tup [(.ptr x0), (.bool false)], S22))) (
 cond (v3 == 3) (
 ldI .i64 S2 (.rw b1) 1 fun v28 =>
 callI .i64 call 21 [(.ptr x0), (.int .i64 v28)] S2 fun v30 S29 =>
 callI .i64 call 11 [(.int .i64 v30)] S29 fun v32 S31 =>
 ldI .i64 S31 (.rw b1) 1 fun v33 =>
 ldI .i64 S29 (.rw b1) 1 fun v34 =>
 cond (AV.beq (.int .i64 v34) (.int .i64 v33)) (
 ldI .i64 S2 (.rw b1) 1 fun v35 =>
 cond (AV.beq (.int .i64 v35) (.int .i64 v33)) (
 callI .i64 call 49 [(.ptr x1), (.int .i64 v33)] S31 fun v37 S36 =>
 some (.tup [(.ptr x0), (.bool (v32 == v37))], S36)) none) none) (
 cond (v3 == 4) (
 ldI .i64 S2 (.rw b1) 1 fun v38 =>
 callI .i64 call 35 [(.ptr x0), (.int .i64 v38)] S2 fun v40 S39 =>
 callI .i64 call 11 [(.int .i64 v40)] S39 fun v42 S41 =>
 ldI .i64 S41 (.rw b1) 1 fun v43 =>
 ldI .i64 S39 (.rw b1) 1 fun v44 =>
 cond (AV.beq (.int .i64 v44) (.int .i64 v43)) (
 ldI .i64 S2 (.rw b1) 1 fun v45 =>
 cond (AV.beq (.int .i64 v45) (.int .i64 v43)) (
 callI .i64 call 50 [(.ptr x1), (.int .i64 v43)] S41 fun v47 S46 =>
 some (.tup [(.ptr x0), (.bool (v42 == v47))], S46)) none) none) (
 cond (v3 == 5) (
 ldI .i64 S2 (.rw b1) 1 fun v48 =>
 callI .i64 call 22 [(.ptr x0), (.int .i64 v48)] S2 fun v50 S49 =>
 callI .i64 call 11 [(.int .i64 v50)] S49 fun v52 S51 =>
 ldI .i64 S51 (.rw b1) 1 fun v53 =>
 ldI .i64 S49 (.rw b1) 1 fun v54 =>
 cond (AV.beq (.int .i64 v54) (.int .i64 v53)) (
 ldI .i64 S2 (.rw b1) 1 fun v55 =>
 cond (AV.beq (.int .i64 v55) (.int .i64 v53)) (
 callI .i64 call 51 [(.ptr x1), (.int .i64 v53)] S51 fun v57 S56 =>
 some (.tup [(.ptr x0), (.bool (v52 == v57))], S56)) none) none) (
 cond (v3 == 6) (
 ldI .i64 S2 (.rw b1) 1 fun v58 =>
 callI .i64 call 36 [(.ptr x0), (.int .i64 v58)] S2 fun v60 S59 =>
 callI .i64 call 11 [(.int .i64 v60)] S59 fun v62 S61 =>
 ldI .i64 S61 (.rw b1) 1 fun v63 =>
 ldI .i64 S59 (.rw b1) 1 fun v64 =>
 cond (AV.beq (.int .i64 v64) (.int .i64 v63)) (
 ldI .i64 S2 (.rw b1) 1 fun v65 =>
 cond (AV.beq (.int .i64 v65) (.int .i64 v63)) (
 callI .i64 call 52 [(.ptr x1), (.int .i64 v63)] S61 fun v67 S66 =>
 some (.tup [(.ptr x0), (.bool (v62 == v67))], S66)) none) none) (
 cond (v3 == 7) (
 callT call 18 [(.ptr x0)] S2 fun v69 S68 =>
 atL v69 0 fun v70a v70l v70c =>
 atL v69 1 fun v71a v71l v71c =>
 callT call 53 [(.ptr x1)] S68 fun v73 S72 =>
 atL v73 0 fun v74a v74l v74c =>
 atL v73 1 fun v75a v75l v75c =>
 callB call 38 [(.sl v70a v70l v70c), (.sl v74a v74l v74c)] S72 fun v77 S76 =>
 cond v77 (
 callB call 38 [(.sl v71a v71l v71c), (.sl v75a v75l v75c)] S76 fun v79 S78 =>
 some (.tup [(.ptr x0), (.bool v79)], S78)) (
 some (.tup [(.ptr x0), (.bool false)], S76))) (
 cond (v3 == 8) (
 callT call 25 [(.ptr x0)] S2 fun v81 S80 =>
 callT call 54 [(.ptr x1)] S80 fun v83 S82 =>
 j1_1 x0 S82) (
 cond (v3 == 10) (
 callT call 33 [(.ptr x0)] S2 fun v85 S84 =>
 gO x1 fun p86 =>
 ldI .i64 S84 p86.1 (p86.2 + 4) fun v87 =>
 gO x1 fun p88 =>
 S84.stn p88.1 (p88.2 + 4) [(.int .i64 (IntKind.wrap .i64 (v87 + 1)))] fun S89 =>
 j1_1 x0 S89) (
 cond (v3 == 11) (
 callL call 34 [(.ptr x0)] S2 fun v91a v91l v91c S90 =>
 callL call 55 [(.ptr x1)] S90 fun v93a v93l v93c S92 =>
 callB call 38 [(.sl v91a v91l v91c), (.sl v93a v93l v93c)] S92 fun v95 S94 =>
 some (.tup [(.ptr x0), (.bool v95)], S94)) (
 cond (v3 == 9) (
 callP call 37 [(.ptr x0)] S2 fun v97 S96 =>
 cond v97.isNone (
 some (.tup [(.ptr x0), (.bool false)], S96)) (
 callT call 13 [(.ptr x0), (.int .i64 0)] S96 fun v99 S98 =>
 callI .i64 call 21 [(.ptr x0), (.int .i64 1)] S98 fun v101 S100 =>
 callT call 18 [(.ptr x0)] S100 fun v103 S102 =>
 callL call 34 [(.ptr x0)] S102 fun v105a v105l v105c S104 =>
 some (.tup [(.ptr v97), (.bool true)], S104))) (
 j1_1 x0 S2)))))))))))

def r31_j1_1 (call : CallA) (n : Nat)  (w0 : Option Pos) (S : AS) : Option (AV × AS) := evC E call n 31 (E.at 31 [1, 1]) 0 [(0, (.ptr w0))] S (retK E (E.fn 31))
theorem a31_j1_1 (call : CallA) (n : Nat)  (w0 : Option Pos) (S : AS) : r31_j1_1 call n  w0 S = b31_j1_1 call n  w0 S := by kernel_rfl
theorem a31_entry (call : CallA) (n : Nat) (x0 : Option Pos) (x1 : Option Pos) (x2 : List AV) (S : AS) : evC E call n 31 (E.at 31 []) 0 (enumT 0 [(.ptr x0), (.ptr x1), (.agg x2)]) S (retK E (E.fn 31)) = b31_entry call n (r31_j1_1 call n ) x0 x1 x2 S := by kernel_rfl
def J31_j1_1 (call : CallA) (n : Nat)  (w0 : Option Pos) (S : AS) : Option (AV × AS) := b31_j1_1 call n  w0 S
theorem h31_j1_1 (call : CallA) (n : Nat)  : r31_j1_1 call n  = J31_j1_1 call n  := by
  funext w0 S
  rw [J31_j1_1, a31_j1_1]
def J31 (call : CallA) (n : Nat) (x0 : Option Pos) (x1 : Option Pos) (x2 : List AV) (S : AS) : Option (AV × AS) := b31_entry call n (J31_j1_1 call n ) x0 x1 x2 S
theorem run31 (o : Orc) (n : Nat) (args : List AV) (S : AS) (ho : o 31 args = none) : evF E o (n + 1) (.fn 31) args S = evC E (evF E o n) n 31 (E.at 31 []) 0 (enumT 0 args) S (retK E (E.fn 31)) := by
  rw [evF, ho]; kernel_rfl
theorem J31_eq (call : CallA) (n : Nat) (x0 : Option Pos) (x1 : Option Pos) (x2 : List AV) (S : AS) : evC E call n 31 (E.at 31 []) 0 (enumT 0 [(.ptr x0), (.ptr x1), (.agg x2)]) S (retK E (E.fn 31)) = J31 call n x0 x1 x2 S := by
  rw [J31, a31_entry, h31_j1_1 call n ]
theorem F31 {o : Orc} (n : Nat) (x0 : Option Pos) (x1 : Option Pos) (x2 : List AV) (S : AS) (ho : ∀ args, o 31 args = none) : evF E o (n + 1) (.fn 31) [(.ptr x0), (.ptr x1), (.agg x2)] S = J31 (evF E o n) n x0 x1 x2 S := (run31 o n [(.ptr x0), (.ptr x1), (.agg x2)] S (ho _)).trans (J31_eq _ _ x0 x1 x2 S)
def b32_l1_1_1_0_1_0 (call : CallA) (n : Nat) (l1_1_1_0_1_0 : Option Pos → Option Pos → Option Pos → Nat → Cap → Option Pos → Nat → Cap → Option Pos → Nat → Cap → Option Pos → Nat → Cap → Int → AS → Option (AV × AS)) (j1_1_1_1 : Option Pos → Option Pos → Option Pos → Nat → Cap → Option Pos → Nat → Cap → Option Pos → Nat → Cap → AS → Option (AV × AS)) (w0 : Option Pos) (w1 : Option Pos) (w5a : Option Pos) (w5l : Nat) (w5c : Cap) (w6a : Option Pos) (w6l : Nat) (w6c : Cap) (w7a : Option Pos) (w7l : Nat) (w7c : Cap) (w8a : Option Pos) (w8l : Nat) (w8c : Cap) (w9 : Int) (S : AS) : Option (AV × AS) :=
 cond (decide (w9 < ((w5l : Nat) : Int))) (
 ixSl 1 w5a w5l w9 fun p45 =>
 S.stn p45.1 p45.2 [(.int .i64 (-9))] fun S46 =>
 l1_1_1_0_1_0 w0 w1 w5a w5l w5c w6a w6l w6c w7a w7l w7c w8a w8l w8c (IntKind.wrap .i64 (w9 + 1)) S46) (
 j1_1_1_1 w0 w1 w6a w6l w6c w7a w7l w7c w8a w8l w8c S)

def b32_j1_1_1_1 (call : CallA) (n : Nat) (l1_1_1_1_0_1_0 : Option Pos → Option Pos → Option Pos → Nat → Cap → Option Pos → Nat → Cap → Option Pos → Nat → Cap → Int → AS → Option (AV × AS)) (w0 : Option Pos) (w1 : Option Pos) (w6a : Option Pos) (w6l : Nat) (w6c : Cap) (w7a : Option Pos) (w7l : Nat) (w7c : Cap) (w8a : Option Pos) (w8l : Nat) (w8c : Cap) (S : AS) : Option (AV × AS) :=
 l1_1_1_1_0_1_0 w0 w1 w6a w6l w6c w7a w7l w7c w8a w8l w8c 0 S

def b32_l1_1_1_1_0_1_0 (call : CallA) (n : Nat) (l1_1_1_1_0_1_0 : Option Pos → Option Pos → Option Pos → Nat → Cap → Option Pos → Nat → Cap → Option Pos → Nat → Cap → Int → AS → Option (AV × AS)) (j1_1_1_1_1 : Option Pos → Option Pos → Option Pos → Nat → Cap → Option Pos → Nat → Cap → AS → Option (AV × AS)) (w0 : Option Pos) (w1 : Option Pos) (w6a : Option Pos) (w6l : Nat) (w6c : Cap) (w7a : Option Pos) (w7l : Nat) (w7c : Cap) (w8a : Option Pos) (w8l : Nat) (w8c : Cap) (w10 : Int) (S : AS) : Option (AV × AS) :=
 cond (decide (w10 < ((w6l : Nat) : Int))) (
 ixSl 1 w6a w6l w10 fun p47 =>
 S.stn p47.1 p47.2 [(.int .i64 (-9))] fun S48 =>
 l1_1_1_1_0_1_0 w0 w1 w6a w6l w6c w7a w7l w7c w8a w8l w8c (IntKind.wrap .i64 (w10 + 1)) S48) (
 j1_1_1_1_1 w0 w1 w7a w7l w7c w8a w8l w8c S)

def b32_j1_1_1_1_1 (call : CallA) (n : Nat) (l1_1_1_1_1_0_1_0 : Option Pos → Option Pos → Option Pos → Nat → Cap → Option Pos → Nat → Cap → Int → AS → Option (AV × AS)) (w0 : Option Pos) (w1 : Option Pos) (w7a : Option Pos) (w7l : Nat) (w7c : Cap) (w8a : Option Pos) (w8l : Nat) (w8c : Cap) (S : AS) : Option (AV × AS) :=
 l1_1_1_1_1_0_1_0 w0 w1 w7a w7l w7c w8a w8l w8c 0 S

def b32_l1_1_1_1_1_0_1_0 (call : CallA) (n : Nat) (l1_1_1_1_1_0_1_0 : Option Pos → Option Pos → Option Pos → Nat → Cap → Option Pos → Nat → Cap → Int → AS → Option (AV × AS)) (j1_1_1_1_1_1 : Option Pos → Option Pos → Option Pos → Nat → Cap → AS → Option (AV × AS)) (w0 : Option Pos) (w1 : Option Pos) (w7a : Option Pos) (w7l : Nat) (w7c : Cap) (w8a : Option Pos) (w8l : Nat) (w8c : Cap) (w11 : Int) (S : AS) : Option (AV × AS) :=
 cond (decide (w11 < ((w7l : Nat) : Int))) (
 ixSl 1 w7a w7l w11 fun p49 =>
 S.stn p49.1 p49.2 [(.int .u8 85)] fun S50 =>
 l1_1_1_1_1_0_1_0 w0 w1 w7a w7l w7c w8a w8l w8c (IntKind.wrap .i64 (w11 + 1)) S50) (
 j1_1_1_1_1_1 w0 w1 w8a w8l w8c S)

def b32_j1_1_1_1_1_1 (call : CallA) (n : Nat) (l1_1_1_1_1_1_0_1_0 : Option Pos → Option Pos → Option Pos → Nat → Cap → Int → AS → Option (AV × AS)) (w0 : Option Pos) (w1 : Option Pos) (w8a : Option Pos) (w8l : Nat) (w8c : Cap) (S : AS) : Option (AV × AS) :=
 l1_1_1_1_1_1_0_1_0 w0 w1 w8a w8l w8c 0 S

def b32_l1_1_1_1_1_1_0_1_0 (call : CallA) (n : Nat) (l1_1_1_1_1_1_0_1_0 : Option Pos → Option Pos → Option Pos → Nat → Cap → Int → AS → Option (AV × AS)) (j1_1_1_1_1_1_1 : Option Pos → Option Pos → AS → Option (AV × AS)) (w0 : Option Pos) (w1 : Option Pos) (w8a : Option Pos) (w8l : Nat) (w8c : Cap) (w12 : Int) (S : AS) : Option (AV × AS) :=
 cond (decide (w12 < ((w8l : Nat) : Int))) (
 ixSl 2 w8a w8l w12 fun p51 =>
 S.stn p51.1 p51.2 [(.int .i64 (-9)), (.int .i64 (-9))] fun S52 =>
 l1_1_1_1_1_1_0_1_0 w0 w1 w8a w8l w8c (IntKind.wrap .i64 (w12 + 1)) S52) (
 j1_1_1_1_1_1_1 w0 w1 S)

def b32_j1_1_1_1_1_1_1 (call : CallA) (n : Nat) (l1_1_1_1_1_1_1_0_1_0 : Option Pos → Option Pos → AV → Int → AS → Option (AV × AS)) (w0 : Option Pos) (w1 : Option Pos) (S : AS) : Option (AV × AS) :=
 l1_1_1_1_1_1_1_0_1_0 w0 w1 .undef (-1) S

def b32_l1_1_1_1_1_1_1_0_1_0 (call : CallA) (n : Nat) (l1_1_1_1_1_1_1_0_1_0 : Option Pos → Option Pos → AV → Int → AS → Option (AV × AS)) (j1_1_1_1_1_1_1_1 : Option Pos → Option Pos → AS → Option (AV × AS)) (w0 : Option Pos) (w1 : Option Pos) (w4 : AV) (w13 : Int) (S : AS) : Option (AV × AS) :=
 gO w1 fun p53 =>
 ldL S p53.1 p53.2 fun v54a v54l v54c =>
 cond (decide (w13 ≤ ((v54l : Nat) : Int))) (
 callI .i64 call 19 [(.ptr w0), (.int .i64 w13)] S fun v56 S55 =>
 callI .i64 call 60 [(.ptr w1), (.int .i64 w13)] S55 fun v58 S57 =>
 cond (v56 != v58) (
 some ((.bool false), S57)) (
 l1_1_1_1_1_1_1_0_1_0 w0 w1 w4 (IntKind.wrap .i64 (w13 + 1)) S57)) (
 j1_1_1_1_1_1_1_1 w0 w1 S)

def b32_j1_1_1_1_1_1_1_1 (call : CallA) (n : Nat)  (w0 : Option Pos) (w1 : Option Pos) (S : AS) : Option (AV × AS) :=
 callL call 26 [(.ptr w0)] S fun v60a v60l v60c S59 =>
 gO w1 fun p61 =>
 ldL S59 p61.1 (p61.2 + 1) fun v62a v62l v62c =>
 ldL S p61.1 (p61.2 + 1) fun v63a v63l v63c =>
 cond (AV.beq (.sl v63a v63l v63c) (.sl v62a v62l v62c)) (
 callB call 38 [(.sl v60a v60l v60c), (.sl v62a v62l v62c)] S59 fun v65 S64 =>
 cond v65 (
 callL call 27 [(.ptr w0)] S64 fun v67a v67l v67c S66 =>
 gO w1 fun p68 =>
 ldL S66 p68.1 (p68.2 + 2) fun v69a v69l v69c =>
 ldL S64 p68.1 (p68.2 + 2) fun v70a v70l v70c =>
 cond (AV.beq (.sl v70a v70l v70c) (.sl v69a v69l v69c)) (
 callB call 38 [(.sl v67a v67l v67c), (.sl v69a v69l v69c)] S66 fun v72 S71 =>
 cond v72 (
 callL call 16 [(.ptr w0)] S71 fun v74a v74l v74c S73 =>
 bytesStr S73 v74a v74l fun s75 =>
 callL call 57 [(.ptr w1)] S73 fun v77a v77l v77c S76 =>
 bytesStr S76 v74a v74l fun s78 =>
 cond (AV.beq (.str s78) (.str s75)) (
 bytesStr S76 v77a v77l fun s79 =>
 some ((.bool (s75 == s79)), S76)) none) (
 some ((.bool false), S71))) none) (
 some ((.bool false), S64))) none

def b32_entry (call : CallA) (n : Nat) (l1_1_1_0_1_0 : Option Pos → Option Pos → Option Pos → Nat → Cap → Option Pos → Nat → Cap → Option Pos → Nat → Cap → Option Pos → Nat → Cap → Int → AS → Option (AV × AS)) (x0 : Option Pos) (x1 : Option Pos) (S : AS) : Option (AV × AS) :=
 callL call 26 [(.ptr x0)] S fun v2a v2l v2c S1 =>
 callL call 27 [(.ptr x0)] S1 fun v4a v4l v4c S3 =>
 callL call 16 [(.ptr x0)] S3 fun v6a v6l v6c S5 =>
 callL call 28 [(.ptr x0)] S5 fun v8a v8l v8c S7 =>
 callI .i64 call 14 [(.ptr x0)] S7 fun v10 S9 =>
 gO x1 fun p11 =>
 ldL S9 p11.1 p11.2 fun v12a v12l v12c =>
 ldL S7 p11.1 p11.2 fun v13a v13l v13c =>
 cond (AV.beq (.sl v13a v13l v13c) (.sl v12a v12l v12c)) (
 cond (AV.beq (.int .i64 ((v12l : Nat) : Int)) (.int .i64 ((v12l : Nat) : Int))) (
 cond (v10 != ((v12l : Nat) : Int)) (
 some ((.bool false), S9)) (
 callI .i64 call 15 [(.ptr x0)] S9 fun v15 S14 =>
 callI .i64 call 56 [(.ptr x1), (.int .i64 0)] S14 fun v17 S16 =>
 cond (v15 != v17) (
 some ((.bool false), S16)) (
 callI .i64 call 23 [(.ptr x0)] S16 fun v19 S18 =>
 gO x1 fun p20 =>
 ldI .i64 S18 p20.1 (p20.2 + 3) fun v21 =>
 ldI .i64 S16 p20.1 (p20.2 + 3) fun v22 =>
 cond (AV.beq (.int .i64 v22) (.int .i64 v21)) (
 cond (v19 != v21) (
 some ((.bool false), S18)) (
 callI .i64 call 29 [(.ptr x0)] S18 fun v24 S23 =>
 gO x1 fun p25 =>
 ldI .i64 S23 p25.1 (p25.2 + 4) fun v26 =>
 ldI .i64 S18 p25.1 (p25.2 + 4) fun v27 =>
 cond (AV.beq (.int .i64 v27) (.int .i64 v26)) (
 cond (v24 != v26) (
 some ((.bool false), S23)) (
 gO x1 fun p28 =>
 ldL S23 p28.1 (p28.2 + 1) fun v29a v29l v29c =>
 callB call 38 [(.sl v2a v2l v2c), (.sl v29a v29l v29c)] S23 fun v31 S30 =>
 cond (!v31) (
 some ((.bool false), S30)) (
 gO x1 fun p32 =>
 ldL S30 p32.1 (p32.2 + 2) fun v33a v33l v33c =>
 callB call 38 [(.sl v4a v4l v4c), (.sl v33a v33l v33c)] S30 fun v35 S34 =>
 cond (!v35) (
 some ((.bool false), S34)) (
 bytesStr S34 v6a v6l fun s36 =>
 callL call 57 [(.ptr x1)] S34 fun v38a v38l v38c S37 =>
 bytesStr S37 v6a v6l fun s39 =>
 cond (AV.beq (.str s39) (.str s36)) (
 bytesStr S37 v38a v38l fun s40 =>
 cond (!(s36 == s40)) (
 some ((.bool false), S37)) (
 callL call 59 [(.ptr x1)] S37 fun v42a v42l v42c S41 =>
 callB call 58 [(.sl v8a v8l v8c), (.sl v42a v42l v42c)] S41 fun v44 S43 =>
 cond (!v44) (
 some ((.bool false), S43)) (
 l1_1_1_0_1_0 x0 x1 v2a v2l v2c v4a v4l v4c v6a v6l v6c v8a v8l v8c 0 S43))) none)))) none)) none))) none) none

def r32_l1_1_1_0_1_0 (call : CallA) (n : Nat)  (m : Nat) (w0 : Option Pos) (w1 : Option Pos) (w5a : Option Pos) (w5l : Nat) (w5c : Cap) (w6a : Option Pos) (w6l : Nat) (w6c : Cap) (w7a : Option Pos) (w7l : Nat) (w7c : Cap) (w8a : Option Pos) (w8l : Nat) (w8c : Cap) (w9 : Int) (S : AS) : Option (AV × AS) := loopN (evC E call n 32 (E.at 32 [1, 1, 1, 0, 1, 0, 0]) 0) [0, 1, 5, 6, 7, 8, 9] m [(0, (.ptr w0)), (1, (.ptr w1)), (5, (.sl w5a w5l w5c)), (6, (.sl w6a w6l w6c)), (7, (.sl w7a w7l w7c)), (8, (.sl w8a w8l w8c)), (9, (.int .i64 w9))] S (kBlk 0 (kSeq E call n 32 (E.at 32 [1, 1, 1, 1]) 0 (retK E (E.fn 32))))
def r32_j1_1_1_1 (call : CallA) (n : Nat)  (w0 : Option Pos) (w1 : Option Pos) (w6a : Option Pos) (w6l : Nat) (w6c : Cap) (w7a : Option Pos) (w7l : Nat) (w7c : Cap) (w8a : Option Pos) (w8l : Nat) (w8c : Cap) (S : AS) : Option (AV × AS) := evC E call n 32 (E.at 32 [1, 1, 1, 1]) 0 [(0, (.ptr w0)), (1, (.ptr w1)), (6, (.sl w6a w6l w6c)), (7, (.sl w7a w7l w7c)), (8, (.sl w8a w8l w8c))] S (retK E (E.fn 32))
def r32_l1_1_1_1_0_1_0 (call : CallA) (n : Nat)  (m : Nat) (w0 : Option Pos) (w1 : Option Pos) (w6a : Option Pos) (w6l : Nat) (w6c : Cap) (w7a : Option Pos) (w7l : Nat) (w7c : Cap) (w8a : Option Pos) (w8l : Nat) (w8c : Cap) (w10 : Int) (S : AS) : Option (AV × AS) := loopN (evC E call n 32 (E.at 32 [1, 1, 1, 1, 0, 1, 0, 0]) 2) [0, 1, 6, 7, 8, 10] m [(0, (.ptr w0)), (1, (.ptr w1)), (6, (.sl w6a w6l w6c)), (7, (.sl w7a w7l w7c)), (8, (.sl w8a w8l w8c)), (10, (.int .i64 w10))] S (kBlk 2 (kSeq E call n 32 (E.at 32 [1, 1, 1, 1, 1]) 0 (retK E (E.fn 32))))
def r32_j1_1_1_1_1 (call : CallA) (n : Nat)  (w0 : Option Pos) (w1 : Option Pos) (w7a : Option Pos) (w7l : Nat) (w7c : Cap) (w8a : Option Pos) (w8l : Nat) (w8c : Cap) (S : AS) : Option (AV × AS) := evC E call n 32 (E.at 32 [1, 1, 1, 1, 1]) 0 [(0, (.ptr w0)), (1, (.ptr w1)), (7, (.sl w7a w7l w7c)), (8, (.sl w8a w8l w8c))] S (retK E (E.fn 32))
def r32_l1_1_1_1_1_0_1_0 (call : CallA) (n : Nat)  (m : Nat) (w0 : Option Pos) (w1 : Option Pos) (w7a : Option Pos) (w7l : Nat) (w7c : Cap) (w8a : Option Pos) (w8l : Nat) (w8c : Cap) (w11 : Int) (S : AS) : Option (AV × AS) := loopN (evC E call n 32 (E.at 32 [1, 1, 1, 1, 1, 0, 1, 0, 0]) 4) [0, 1, 7, 8, 11] m [(0, (.ptr w0)), (1, (.ptr w1)), (7, (.sl w7a w7l w7c)), (8, (.sl w8a w8l w8c)), (11, (.int .i64 w11))] S (kBlk 4 (kSeq E call n 32 (E.at 32 [1, 1, 1, 1, 1, 1]) 0 (retK E (E.fn 32))))
def r32_j1_1_1_1_1_1 (call : CallA) (n : Nat)  (w0 : Option Pos) (w1 : Option Pos) (w8a : Option Pos) (w8l : Nat) (w8c : Cap) (S : AS) : Option (AV × AS) := evC E call n 32 (E.at 32 [1, 1, 1, 1, 1, 1]) 0 [(0, (.ptr w0)), (1, (.ptr w1)), (8, (.sl w8a w8l w8c))] S (retK E (E.fn 32))
def r32_l1_1_1_1_1_1_0_1_0 (call : CallA) (n : Nat)  (m : Nat) (w0 : Option Pos) (w1 : Option Pos) (w8a : Option Pos) (w8l : Nat) (w8c : Cap) (w12 : Int) (S : AS) : Option (AV × AS) := loopN (evC E call n 32 (E.at 32 [1, 1, 1, 1, 1, 1, 0, 1, 0, 0]) 6) [0, 1, 8, 12] m [(0, (.ptr w0)), (1, (.ptr w1)), (8, (.sl w8a w8l w8c)), (12, (.int .i64 w12))] S (kBlk 6 (kSeq E call n 32 (E.at 32 [1, 1, 1, 1, 1, 1, 1]) 0 (retK E (E.fn 32))))
def r32_j1_1_1_1_1_1_1 (call : CallA) (n : Nat)  (w0 : Option Pos) (w1 : Option Pos) (S : AS) : Option (AV × AS) := evC E call n 32 (E.at 32 [1, 1, 1, 1, 1, 1, 1]) 0 [(0, (.ptr w0)), (1, (.ptr w1))] S (retK E (E.fn 32))
def r32_l1_1_1_1_1_1_1_0_1_0 (call : CallA) (n : Nat)  (m : Nat) (w0 : Option Pos) (w1 : Option Pos) (w4 : AV) (w13 : Int) (S : AS) : Option (AV × AS) := loopN (evC E call n 32 (E.at 32 [1, 1, 1, 1, 1, 1, 1, 0, 1, 0, 0]) 8) [0, 1, 4, 13] m [(0, (.ptr w0)), (1, (.ptr w1)), (4, w4), (13, (.int .i64 w13))] S (kBlk 8 (kSeq E call n 32 (E.at 32 [1, 1, 1, 1, 1, 1, 1, 1]) 0 (retK E (E.fn 32))))
def r32_j1_1_1_1_1_1_1_1 (call : CallA) (n : Nat)  (w0 : Option Pos) (w1 : Option Pos) (S : AS) : Option (AV × AS) := evC E call n 32 (E.at 32 [1, 1, 1, 1, 1, 1, 1, 1]) 0 [(0, (.ptr w0)), (1, (.ptr w1))] S (retK E (E.fn 32))
theorem a32_l1_1_1_0_1_0 (call : CallA) (n : Nat)  (m : Nat) (w0 : Option Pos) (w1 : Option Pos) (w5a : Option Pos) (w5l : Nat) (w5c : Cap) (w6a : Option Pos) (w6l : Nat) (w6c : Cap) (w7a : Option Pos) (w7l : Nat) (w7c : Cap) (w8a : Option Pos) (w8l : Nat) (w8c : Cap) (w9 : Int) (S : AS) : r32_l1_1_1_0_1_0 call n  (m + 1) w0 w1 w5a w5l w5c w6a w6l w6c w7a w7l w7c w8a w8l w8c w9 S = b32_l1_1_1_0_1_0 call n (r32_l1_1_1_0_1_0 call n  m) (r32_j1_1_1_1 call n ) w0 w1 w5a w5l w5c w6a w6l w6c w7a w7l w7c w8a w8l w8c w9 S := by kernel_rfl
theorem a32_j1_1_1_1 (call : CallA) (n : Nat)  (w0 : Option Pos) (w1 : Option Pos) (w6a : Option Pos) (w6l : Nat) (w6c : Cap) (w7a : Option Pos) (w7l : Nat) (w7c : Cap) (w8a : Option Pos) (w8l : Nat) (w8c : Cap) (S : AS) : r32_j1_1_1_1 call n  w0 w1 w6a w6l w6c w7a w7l w7c w8a w8l w8c S = b32_j1_1_1_1 call n (r32_l1_1_1_1_0_1_0 call n  n) w0 w1 w6a w6l w6c w7a w7l w7c w8a w8l w8c S := by kernel_rfl
theorem a32_l1_1_1_1_0_1_0 (call : CallA) (n : Nat)  (m : Nat) (w0 : Option Pos) (w1 : Option Pos) (w6a : Option Pos) (w6l : Nat) (w6c : Cap) (w7a : Option Pos) (w7l : Nat) (w7c : Cap) (w8a : Option Pos) (w8l : Nat) (w8c : Cap) (w10 : Int) (S : AS) : r32_l1_1_1_1_0_1_0 call n  (m + 1) w0 w1 w6a w6l w6c w7a w7l w7c w8a w8l w8c w10 S = b32_l1_1_1_1_0_1_0 call n (r32_l1_1_1_1_0_1_0 call n  m) (r32_j1_1_1_1_1 call n ) w0 w1 w6a w6l w6c w7a w7l w7c w8a w8l w8c w10 S := by kernel_rfl
theorem a32_j1_1_1_1_1 (call : CallA) (n : Nat)  (w0 : Option Pos) (w1 : Option Pos) (w7a : Option Pos) (w7l : Nat) (w7c : Cap) (w8a : Option Pos) (w8l : Nat) (w8c : Cap) (S : AS) : r32_j1_1_1_1_1 call n  w0 w1 w7a w7l w7c w8a w8l w8c S = b32_j1_1_1_1_1 call n (r32_l1_1_1_1_1_0_1_0 call n  n) w0 w1 w7a w7l w7c w8a w8l w8c S := by kernel_rfl
theorem a32_l1_1_1_1_1_0_1_0 (call : CallA) (n : Nat)  (m : Nat) (w0 : Option Pos) (w1 : Option Pos) (w7a : Option Pos) (w7l : Nat) (w7c : Cap) (w8a : Option Pos) (w8l : Nat) (w8c : Cap) (w11 : Int) (S : AS) : r32_l1_1_1_1_1_0_1_0 call n  (m + 1) w0 w1 w7a w7l w7c w8a w8l w8c w11 S = b32_l1_1_1_1_1_0_1_0 call n (r32_l1_1_1_1_1_0_1_0 call n  m) (r32_j1_1_1_1_1_1 call n ) w0 w1 w7a w7l w7c w8a w8l w8c w11 S := by kernel_rfl
theorem a32_j1_1_1_1_1_1 (call : CallA) (n : Nat)  (w0 : Option Pos) (w1 : Option Pos) (w8a : Option Pos) (w8l : Nat) (w8c : Cap) (S : AS) : r32_j1_1_1_1_1_1 call n  w0 w1 w8a w8l w8c S = b32_j1_1_1_1_1_1 call n (r32_l1_1_1_1_1_1_0_1_0 call n  n) w0 w1 w8a w8l w8c S := by kernel_rfl
theorem a32_l1_1_1_1_1_1_0_1_0 (call : CallA) (n : Nat)  (m : Nat) (w0 : Option Pos) (w1 : Option Pos) (w8a : Option Pos) (w8l : Nat) (w8c : Cap) (w12 : Int) (S : AS) : r32_l1_1_1_1_1_1_0_1_0 call n  (m + 1) w0 w1 w8a w8l w8c w12 S = b32_l1_1_1_1_1_1_0_1_0 call n (r32_l1_1_1_1_1_1_0_1_0 call n  m) (r32_j1_1_1_1_1_1_1 call n ) w0 w1 w8a w8l w8c w12 S := by kernel_rfl
theorem a32_j1_1_1_1_1_1_1 (call : CallA) (n : Nat)  (w0 : Option Pos) (w1 : Option Pos) (S : AS) : r32_j1_1_1_1_1_1_1 call n  w0 w1 S = b32_j1_1_1_1_1_1_1 call n (r32_l1_1_1_1_1_1_1_0_1_0 call n  n) w0 w1 S := by kernel_rfl
theorem a32_l1_1_1_1_1_1_1_0_1_0 (call : CallA) (n : Nat)  (m : Nat) (w0 : Option Pos) (w1 : Option Pos) (w4 : AV) (w13 : Int) (S : AS) : r32_l1_1_1_1_1_1_1_0_1_0 call n  (m + 1) w0 w1 w4 w13 S = b32_l1_1_1_1_1_1_1_0_1_0 call n (r32_l1_1_1_1_1_1_1_0_1_0 call n  m) (r32_j1_1_1_1_1_1_1_1 call n ) w0 w1 w4 w13 S := by kernel_rfl
theorem a32_j1_1_1_1_1_1_1_1 (call : CallA) (n : Nat)  (w0 : Option Pos) (w1 : Option Pos) (S : AS) : r32_j1_1_1_1_1_1_1_1 call n  w0 w1 S = b32_j1_1_1_1_1_1_1_1 call n  w0 w1 S := by kernel_rfl
theorem a32_entry (call : CallA) (n : Nat) (x0 : Option Pos) (x1 : Option Pos) (S : AS) : evC E call n 32 (E.at 32 []) 0 (enumT 0 [(.ptr x0), (.ptr x1)]) S (retK E (E.fn 32)) = b32_entry call n (r32_l1_1_1_0_1_0 call n  n) x0 x1 S := by kernel_rfl
def J32_j1_1_1_1_1_1_1_1 (call : CallA) (n : Nat)  (w0 : Option Pos) (w1 : Option Pos) (S : AS) : Option (AV × AS) := b32_j1_1_1_1_1_1_1_1 call n  w0 w1 S
theorem h32_j1_1_1_1_1_1_1_1 (call : CallA) (n : Nat)  : r32_j1_1_1_1_1_1_1_1 call n  = J32_j1_1_1_1_1_1_1_1 call n  := by
  funext w0 w1 S
  rw [J32_j1_1_1_1_1_1_1_1, a32_j1_1_1_1_1_1_1_1]
def J32_l1_1_1_1_1_1_1_0_1_0 (call : CallA) (n : Nat)  (m : Nat) : Option Pos → Option Pos → AV → Int → AS → Option (AV × AS) := Nat.rec (motive := fun _ => Option Pos → Option Pos → AV → Int → AS → Option (AV × AS)) (fun _ _ _ _ _ => none) (fun _ ih w0 w1 w4 w13 S => b32_l1_1_1_1_1_1_1_0_1_0 call n ih (J32_j1_1_1_1_1_1_1_1 call n ) w0 w1 w4 w13 S) m
theorem J32_l1_1_1_1_1_1_1_0_1_0_succ (call : CallA) (n : Nat)  (m : Nat) (w0 : Option Pos) (w1 : Option Pos) (w4 : AV) (w13 : Int) (S : AS) : J32_l1_1_1_1_1_1_1_0_1_0 call n  (m + 1) w0 w1 w4 w13 S = b32_l1_1_1_1_1_1_1_0_1_0 call n (J32_l1_1_1_1_1_1_1_0_1_0 call n  m) (J32_j1_1_1_1_1_1_1_1 call n ) w0 w1 w4 w13 S := rfl
theorem h32_l1_1_1_1_1_1_1_0_1_0 (call : CallA) (n : Nat)  (m : Nat) : r32_l1_1_1_1_1_1_1_0_1_0 call n  m = J32_l1_1_1_1_1_1_1_0_1_0 call n  m := by
  induction m with
  | zero => rfl
  | succ m ih =>
    funext w0 w1 w4 w13 S
    rw [J32_l1_1_1_1_1_1_1_0_1_0_succ, a32_l1_1_1_1_1_1_1_0_1_0, h32_j1_1_1_1_1_1_1_1 call n , ih]
def J32_j1_1_1_1_1_1_1 (call : CallA) (n : Nat)  (w0 : Option Pos) (w1 : Option Pos) (S : AS) : Option (AV × AS) := b32_j1_1_1_1_1_1_1 call n (J32_l1_1_1_1_1_1_1_0_1_0 call n  n) w0 w1 S
theorem h32_j1_1_1_1_1_1_1 (call : CallA) (n : Nat)  : r32_j1_1_1_1_1_1_1 call n  = J32_j1_1_1_1_1_1_1 call n  := by
  funext w0 w1 S
  rw [J32_j1_1_1_1_1_1_1, a32_j1_1_1_1_1_1_1, h32_l1_1_1_1_1_1_1_0_1_0 call n  n]
def J32_l1_1_1_1_1_1_0_1_0 (call : CallA) (n : Nat)  (m : Nat) : Option Pos → Option Pos → Option Pos → Nat → Cap → Int → AS → Option (AV × AS) := Nat.rec (motive := fun _ => Option Pos → Option Pos → Option Pos → Nat → Cap → Int → AS → Option (AV × AS)) (fun _ _ _ _ _ _ _ => none) (fun _ ih w0 w1 w8a w8l w8c w12 S => b32_l1_1_1_1_1_1_0_1_0 call n ih (J32_j1_1_1_1_1_1_1 call n ) w0 w1 w8a w8l w8c w12 S) m
theorem J32_l1_1_1_1_1_1_0_1_0_succ (call : CallA) (n : Nat)  (m : Nat) (w0 : Option Pos) (w1 : Option Pos) (w8a : Option Pos) (w8l : Nat) (w8c : Cap) (w12 : Int) (S : AS) : J32_l1_1_1_1_1_1_0_1_0 call n  (m + 1) w0 w1 w8a w8l w8c w12 S = b32_l1_1_1_1_1_1_0_1_0 call n (J32_l1_1_1_1_1_1_0_1_0 call n  m) (J32_j1_1_1_1_1_1_1 call n ) w0 w1 w8a w8l w8c w12 S := rfl
theorem h32_l1_1_1_1_1_1_0_1_0 (call : CallA) (n : Nat)  (m : Nat) : r32_l1_1_1_1_1_1_0_1_0 call n  m = J32_l1_1_1_1_1_1_0_1_0 call n  m := by
  induction m with
  | zero => rfl
  | succ m ih =>
    funext w0 w1 w8a w8l w8c w12 S
    rw [J32_l1_1_1_1_1_1_0_1_0_succ, a32_l1_1_1_1_1_1_0_1_0, h32_j1_1_1_1_1_1_1 call n , ih]
def J32_j1_1_1_1_1_1 (call : CallA) (n : Nat)  (w0 : Option Pos) (w1 : Option Pos) (w8a : Option Pos) (w8l : Nat) (w8c : Cap) (S : AS) : Option (AV × AS) := b32_j1_1_1_1_1_1 call n (J32_l1_1_1_1_1_1_0_1_0 call n  n) w0 w1 w8a w8l w8c S
theorem h32_j1_1_1_1_1_1 (call : CallA) (n : Nat)  : r32_j1_1_1_1_1_1 call n  = J32_j1_1_1_1_1_1 call n  := by
  funext w0 w1 w8a w8l w8c S
  rw [J32_j1_1_1_1_1_1, a32_j1_1_1_1_1_1, h32_l1_1_1_1_1_1_0_1_0 call n  n]
def J32_l1_1_1_1_1_0_1_0 (call : CallA) (n : Nat)  (m : Nat) : Option Pos → Option Pos → Option Pos → Nat → Cap → Option Pos → Nat → Cap → Int → AS → Option (AV × AS) := Nat.rec (motive := fun _ => Option Pos → Option Pos → Option Pos → Nat → Cap → Option Pos → Nat → Cap → Int → AS → Option (AV × AS)) (fun _ _ _ _ _ _ _ _ _ _ => none) (fun _ ih w0 w1 w7a w7l w7c w8a w8l w8c w11 S => b32_l1_1_1_1_1_0_1_0 call n ih (J32_j1_1_1_1_1_1 call n ) w0 w1 w7a w7l w7c w8a w8l w8c w11 S) m
theorem J32_l1_1_1_1_1_0_1_0_succ (call : CallA) (n : Nat)  (m : Nat) (w0 : Option Pos) (w1 : Option Pos) (w7a : Option Pos) (w7l : Nat) (w7c : Cap) (w8a : Option Pos) (w8l : Nat) (w8c : Cap) (w11 : Int) (S : AS) : J32_l1_1_1_1_1_0_1_0 call n  (m + 1) w0 w1 w7a w7l w7c w8a w8l w8c w11 S = b32_l1_1_1_1_1_0_1_0 call n (J32_l1_1_1_1_1_0_1_0 call n  m) (J32_j1_1_1_1_1_1 call n ) w0 w1 w7a w7l w7c w8a w8l w8c w11 S := rfl
theorem h32_l1_1_1_1_1_0_1_0 (call : CallA) (n : Nat)  (m : Nat) : r32_l1_1_1_1_1_0_1_0 call n  m = J32_l1_1_1_1_1_0_1_0 call n  m := by
  induction m with
  | zero => rfl
  | succ m ih =>
    funext w0 w1 w7a w7l w7c w8a w8l w8c w11 S
    rw [J32_l1_1_1_1_1_0_1_0_succ, a32_l1_1_1_1_1_0_1_0, h32_j1_1_1_1_1_1 call n , ih]
def J32_j1_1_1_1_1 (call : CallA) (n : Nat)  (w0 : Option Pos) (w1 : Option Pos) (w7a : Option Pos) (w7l : Nat) (w7c : Cap) (w8a : Option Pos) (w8l : Nat) (w8c : Cap) (S : AS) : Option (AV × AS) := b32_j1_1_1_1_1 call n (J32_l1_1_1_1_1_0_1_0 call n  n) w0 w1 w7a w7l w7c w8a w8l w8c S
theorem h32_j1_1_1_1_1 (call : CallA) (n : Nat)  : r32_j1_1_1_1_1 call n  = J32_j1_1_1_1_1 call n  := by
  funext w0 w1 w7a w7l w7c w8a w8l w8c S
  rw [J32_j1_1_1_1_1, a32_j1_1_1_1_1, h32_l1_1_1_1_1_0_1_0 call n  n]
def J32_l1_1_1_1_0_1_0 (call : CallA) (n : Nat)  (m : Nat) : Option Pos → Option Pos → Option Pos → Nat → Cap → Option Pos → Nat → Cap → Option Pos → Nat → Cap → Int → AS → Option (AV × AS) := Nat.rec (motive := fun _ => Option Pos → Option Pos → Option Pos → Nat → Cap → Option Pos → Nat → Cap → Option Pos → Nat → Cap → Int → AS → Option (AV × AS)) (fun _ _ _ _ _ _ _ _ _ _ _ _ _ => none) (fun _ ih w0 w1 w6a w6l w6c w7a w7l w7c w8a w8l w8c w10 S => b32_l1_1_1_1_0_1_0 call n ih (J32_j1_1_1_1_1 call n ) w0 w1 w6a w6l w6c w7a w7l w7c w8a w8l w8c w10 S) m
theorem J32_l1_1_1_1_0_1_0_succ (call : CallA) (n : Nat)  (m : Nat) (w0 : Option Pos) (w1 : Option Pos) (w6a : Option Pos) (w6l : Nat) (w6c : Cap) (w7a : Option Pos) (w7l : Nat) (w7c : Cap) (w8a : Option Pos) (w8l : Nat) (w8c : Cap) (w10 : Int) (S : AS) : J32_l1_1_1_1_0_1_0 call n  (m + 1) w0 w1 w6a w6l w6c w7a w7l w7c w8a w8l w8c w10 S = b32_l1_1_1_1_0_1_0 call n (J32_l1_1_1_1_0_1_0 call n  m) (J32_j1_1_1_1_1 call n ) w0 w1 w6a w6l w6c w7a w7l w7c w8a w8l w8c w10 S := rfl
theorem h32_l1_1_1_1_0_1_0 (call : CallA) (n : Nat)  (m : Nat) : r32_l1_1_1_1_0_1_0 call n  m = J32_l1_1_1_1_0_1_0 call n  m := by
  induction m with
  | zero => rfl
  | succ m ih =>
    funext w0 w1 w6a w6l w6c w7a w7l w7c w8a w8l w8c w10 S
    rw [J32_l1_1_1_1_0_1_0_succ, a32_l1_1_1_1_0_1_0, h32_j1_1_1_1_1 call n , ih]
def J32_j1_1_1_1 (call : CallA) (n : Nat)  (w0 : Option Pos) (w1 : Option Pos) (w6a : Option Pos) (w6l : Nat) (w6c : Cap) (w7a : Option Pos) (w7l : Nat) (w7c : Cap) (w8a : Option Pos) (w8l : Nat) (w8c : Cap) (S : AS) : Option (AV × AS) := b32_j1_1_1_1 call n (J32_l1_1_1_1_0_1_0 call n  n) w0 w1 w6a w6l w6c w7a w7l w7c w8a w8l w8c S
theorem h32_j1_1_1_1 (call : CallA) (n : Nat)  : r32_j1_1_1_1 call n  = J32_j1_1_1_1 call n  := by
  funext w0 w1 w6a w6l w6c w7a w7l w7c w8a w8l w8c S
  rw [J32_j1_1_1_1, a32_j1_1_1_1, h32_l1_1_1_1_0_1_0 call n  n]
def J32_l1_1_1_0_1_0 (call : CallA) (n : Nat)  (m : Nat) : Option Pos → Option Pos → Option Pos → Nat → Cap → Option Pos → Nat → Cap → Option Pos → Nat → Cap → Option Pos → Nat → Cap → Int → AS → Option (AV × AS) := Nat.rec (motive := fun _ => Option Pos → Option Pos → Option Pos → Nat → Cap → Option Pos → Nat → Cap → Option Pos → Nat → Cap → Option Pos → Nat → Cap → Int → AS → Option (AV × AS)) (fun _ _ _ _ _ _ _ _ _ _ _ _ _ _ _ _ => none) (fun _ ih w0 w1 w5a w5l w5c w6a w6l w6c w7a w7l w7c w8a w8l w8c w9 S => b32_l1_1_1_0_1_0 call n ih (J32_j1_1_1_1 call n ) w0 w1 w5a w5l w5c w6a w6l w6c w7a w7l w7c w8a w8l w8c w9 S) m
theorem J32_l1_1_1_0_1_0_succ (call : CallA) (n : Nat)  (m : Nat) (w0 : Option Pos) (w1 : Option Pos) (w5a : Option Pos) (w5l : Nat) (w5c : Cap) (w6a : Option Pos) (w6l : Nat) (w6c : Cap) (w7a : Option Pos) (w7l : Nat) (w7c : Cap) (w8a : Option Pos) (w8l : Nat) (w8c : Cap) (w9 : Int) (S : AS) : J32_l1_1_1_0_1_0 call n  (m + 1) w0 w1 w5a w5l w5c w6a w6l w6c w7a w7l w7c w8a w8l w8c w9 S = b32_l1_1_1_0_1_0 call n (J32_l1_1_1_0_1_0 call n  m) (J32_j1_1_1_1 call n ) w0 w1 w5a w5l w5c w6a w6l w6c w7a w7l w7c w8a w8l w8c w9 S := rfl
theorem h32_l1_1_1_0_1_0 (call : CallA) (n : Nat)  (m : Nat) : r32_l1_1_1_0_1_0 call n  m = J32_l1_1_1_0_1_0 call n  m := by
  induction m with
  | zero => rfl
  | succ m ih =>
    funext w0 w1 w5a w5l w5c w6a w6l w6c w7a w7l w7c w8a w8l w8c w9 S
    rw [J32_l1_1_1_0_1_0_succ, a32_l1_1_1_0_1_0, h32_j1_1_1_1 call n , ih]
def J32 (call : CallA) (n : Nat) (x0 : Option Pos) (x1 : Option Pos) (S : AS) : Option (AV × AS) := b32_entry call n (J32_l1_1_1_0_1_0 call n  n) x0 x1 S
theorem run32 (o : Orc) (n : Nat) (args : List AV) (S : AS) (ho : o 32 args = none) : evF E o (n + 1) (.fn 32) args S = evC E (evF E o n) n 32 (E.at 32 []) 0 (enumT 0 args) S (retK E (E.fn 32)) := by
  rw [evF, ho]; kernel_rfl
theorem J32_eq (call : CallA) (n : Nat) (x0 : Option Pos) (x1 : Option Pos) (S : AS) : evC E call n 32 (E.at 32 []) 0 (enumT 0 [(.ptr x0), (.ptr x1)]) S (retK E (E.fn 32)) = J32 call n x0 x1 S := by
  rw [J32, a32_entry, h32_l1_1_1_0_1_0 call n  n]
theorem F32 {o : Orc} (n : Nat) (x0 : Option Pos) (x1 : Option Pos) (S : AS) (ho : ∀ args, o 32 args = none) : evF E o (n + 1) (.fn 32) [(.ptr x0), (.ptr x1)] S = J32 (evF E o n) n x0 x1 S := (run32 o n [(.ptr x0), (.ptr x1)] S (ho _)).trans (J32_eq _ _ x0 x1 S)
def b33_entry (call : CallA) (n : Nat)  (x0 : Option Pos) (S : AS) : Option (AV × AS) :=
 cond (!x0.isNone) (
 gO x0 fun p1 =>
 ldI .i64 S p1.1 (p1.2 + 2) fun v2 =>
 gO x0 fun p3 =>
 S.stn p3.1 (p3.2 + 2) [(.int .i64 (IntKind.wrap .i64 (v2 + 1)))] fun S4 =>
 some (.tup [], S4)) (
 some (.tup [], S))

theorem a33_entry (call : CallA) (n : Nat) (x0 : Option Pos) (S : AS) : evC E call n 33 (E.at 33 []) 0 (enumT 0 [(.ptr x0)]) S (retK E (E.fn 33)) = b33_entry call n  x0 S := by kernel_rfl
def J33 (call : CallA) (n : Nat) (x0 : Option Pos) (S : AS) : Option (AV × AS) := b33_entry call n  x0 S
theorem run33 (o : Orc) (n : Nat) (args : List AV) (S : AS) (ho : o 33 args = none) : evF E o (n + 1) (.fn 33) args S = evC E (evF E o n) n 33 (E.at 33 []) 0 (enumT 0 args) S (retK E (E.fn 33)) := by
  rw [evF, ho]; kernel_rfl
theorem J33_eq (call : CallA) (n : Nat) (x0 : Option Pos) (S : AS) : evC E call n 33 (E.at 33 []) 0 (enumT 0 [(.ptr x0)]) S (retK E (E.fn 33)) = J33 call n x0 S := by
  rw [J33, a33_entry]
theorem F33 {o : Orc} (n : Nat) (x0 : Option Pos) (S : AS) (ho : ∀ args, o 33 args = none) : evF E o (n + 1) (.fn 33) [(.ptr x0)] S = J33 (evF E o n) n x0 S := (run33 o n [(.ptr x0)] S (ho _)).trans (J33_eq _ _ x0 S)
def b34_l1_1_1_0_1_0 (call : CallA) (n : Nat) (j1_1_1_0_1_0_0_1_1_1 : Option Pos → Option Pos → Nat → Cap → Option Pos → Nat → Cap → Int → Int → AS → Option (AV × AS)) (w0 : Option Pos) (w2a : Option Pos) (w2l : Nat) (w2c : Cap) (w29a : Option Pos) (w29l : Nat) (w29c : Cap) (w30 : Int) (w31 : Int) (S : AS) : Option (AV × AS) :=
 cond (decide (w31 < w30)) (
 ixSl 1 w29a w29l w31 fun p11 =>
 ldI .u8 S p11.1 p11.2 fun v12 =>
 cond (v12 == 4) (
 callT call 42 [(.ptr w0), (.int .i64 w31), (.int .i64 0)] S fun v14 S13 =>
 newA S13 (.cells [(.int .i64 w31)]) fun b15 S16 =>
 appendA 1 8 S16 w2a w2l w2c 1 (firstA S16 1 1 (.sl (some (.rw b15, 0)) 1 (.ex 1))) fun v17a v17l v17c S18 =>
 j1_1_1_0_1_0_0_1_1_1 w0 v17a v17l v17c w29a w29l w29c w30 w31 S18) (
 j1_1_1_0_1_0_0_1_1_1 w0 w2a w2l w2c w29a w29l w29c w30 w31 S)) (
 some ((.sl w2a w2l w2c), S))

def b34_j1_1_1_0_1_0_0_1_1_1 (call : CallA) (n : Nat) (l1_1_1_0_1_0 : Option Pos → Option Pos → Nat → Cap → Option Pos → Nat → Cap → Int → Int → AS → Option (AV × AS)) (w0 : Option Pos) (w2a : Option Pos) (w2l : Nat) (w2c : Cap) (w29a : Option Pos) (w29l : Nat) (w29c : Cap) (w30 : Int) (w31 : Int) (S : AS) : Option (AV × AS) :=
 l1_1_1_0_1_0 w0 w2a w2l w2c w29a w29l w29c w30 (IntKind.wrap .i64 (w31 + 1)) S

def b34_entry (call : CallA) (n : Nat) (l1_1_1_0_1_0 : Option Pos → Option Pos → Nat → Cap → Option Pos → Nat → Cap → Int → Int → AS → Option (AV × AS)) (x0 : Option Pos) (S : AS) : Option (AV × AS) :=
 cond x0.isNone (
 some ((.sl none 0 (.ex 0)), S)) (
 gO x0 fun p1 =>
 ldI .i64 S p1.1 (p1.2 + 2) fun v2 =>
 cond (v2 == 0) (
 some ((.sl none 0 (.ex 0)), S)) (
 gO x0 fun p3 =>
 ldI .i64 S p3.1 (p3.2 + 2) fun v4 =>
 gO x0 fun p5 =>
 S.stn p5.1 (p5.2 + 2) [(.int .i64 (IntKind.wrap .i64 (v4 - 1)))] fun S6 =>
 gO x0 fun p7 =>
 ldI .i64 S6 p7.1 (p7.2 + 2) fun v8 =>
 cond (decide (v8 > 0)) (
 some ((.sl none 0 (.ex 0)), S6)) (
 gO x0 fun p9 =>
 ldL S6 p9.1 p9.2 fun v10a v10l v10c =>
 l1_1_1_0_1_0 x0 none 0 (.ex 0) v10a v10l v10c ((v10l : Nat) : Int) 0 S6)))

def r34_l1_1_1_0_1_0 (call : CallA) (n : Nat)  (m : Nat) (w0 : Option Pos) (w2a : Option Pos) (w2l : Nat) (w2c : Cap) (w29a : Option Pos) (w29l : Nat) (w29c : Cap) (w30 : Int) (w31 : Int) (S : AS) : Option (AV × AS) := loopN (evC E call n 34 (E.at 34 [1, 1, 1, 0, 1, 0, 0]) 0) [0, 2, 29, 30, 31] m [(0, (.ptr w0)), (2, (.sl w2a w2l w2c)), (29, (.sl w29a w29l w29c)), (30, (.int .i64 w30)), (31, (.int .i64 w31))] S (kBlk 0 (kSeq E call n 34 (E.at 34 [1, 1, 1, 1]) 0 (retK E (E.fn 34))))
def r34_j1_1_1_0_1_0_0_1_1_1 (call : CallA) (n : Nat) (m1_1_1_0_1_0 : Nat) (w0 : Option Pos) (w2a : Option Pos) (w2l : Nat) (w2c : Cap) (w29a : Option Pos) (w29l : Nat) (w29c : Cap) (w30 : Int) (w31 : Int) (S : AS) : Option (AV × AS) := evC E call n 34 (E.at 34 [1, 1, 1, 0, 1, 0, 0, 1, 1, 1]) 0 [(0, (.ptr w0)), (2, (.sl w2a w2l w2c)), (29, (.sl w29a w29l w29c)), (30, (.int .i64 w30)), (31, (.int .i64 w31))] S (kLp (evC E call n 34 (E.at 34 [1, 1, 1, 0, 1, 0, 0]) 0) [0, 2, 29, 30, 31] m1_1_1_0_1_0 (kBlk 0 (kSeq E call n 34 (E.at 34 [1, 1, 1, 1]) 0 (retK E (E.fn 34)))))
theorem a34_l1_1_1_0_1_0 (call : CallA) (n : Nat)  (m : Nat) (w0 : Option Pos) (w2a : Option Pos) (w2l : Nat) (w2c : Cap) (w29a : Option Pos) (w29l : Nat) (w29c : Cap) (w30 : Int) (w31 : Int) (S : AS) : r34_l1_1_1_0_1_0 call n  (m + 1) w0 w2a w2l w2c w29a w29l w29c w30 w31 S = b34_l1_1_1_0_1_0 call n (r34_j1_1_1_0_1_0_0_1_1_1 call n m) w0 w2a w2l w2c w29a w29l w29c w30 w31 S := by kernel_rfl
theorem a34_j1_1_1_0_1_0_0_1_1_1 (call : CallA) (n : Nat) (m1_1_1_0_1_0 : Nat) (w0 : Option Pos) (w2a : Option Pos) (w2l : Nat) (w2c : Cap) (w29a : Option Pos) (w29l : Nat) (w29c : Cap) (w30 : Int) (w31 : Int) (S : AS) : r34_j1_1_1_0_1_0_0_1_1_1 call n m1_1_1_0_1_0 w0 w2a w2l w2c w29a w29l w29c w30 w31 S = b34_j1_1_1_0_1_0_0_1_1_1 call n (r34_l1_1_1_0_1_0 call n  m1_1_1_0_1_0) w0 w2a w2l w2c w29a w29l w29c w30 w31 S := by kernel_rfl
theorem a34_entry (call : CallA) (n : Nat) (x0 : Option Pos) (S : AS) : evC E call n 34 (E.at 34 []) 0 (enumT 0 [(.ptr x0)]) S (retK E (E.fn 34)) = b34_entry call n (r34_l1_1_1_0_1_0 call n  n) x0 S := by kernel_rfl
def J34_j1_1_1_0_1_0_0_1_1_1 (call : CallA) (n : Nat) (n1_1_1_0_1_0 : Option Pos → Option Pos → Nat → Cap → Option Pos → Nat → Cap → Int → Int → AS → Option (AV × AS)) (w0 : Option Pos) (w2a : Option Pos) (w2l : Nat) (w2c : Cap) (w29a : Option Pos) (w29l : Nat) (w29c : Cap) (w30 : Int) (w31 : Int) (S : AS) : Option (AV × AS) := b34_j1_1_1_0_1_0_0_1_1_1 call n n1_1_1_0_1_0 w0 w2a w2l w2c w29a w29l w29c w30 w31 S
theorem h34_j1_1_1_0_1_0_0_1_1_1 (call : CallA) (n : Nat) (m1_1_1_0_1_0 : Nat) : r34_j1_1_1_0_1_0_0_1_1_1 call n m1_1_1_0_1_0 = J34_j1_1_1_0_1_0_0_1_1_1 call n (r34_l1_1_1_0_1_0 call n  m1_1_1_0_1_0) := by
  funext w0 w2a w2l w2c w29a w29l w29c w30 w31 S
  rw [J34_j1_1_1_0_1_0_0_1_1_1, a34_j1_1_1_0_1_0_0_1_1_1]
def J34_l1_1_1_0_1_0 (call : CallA) (n : Nat)  (m : Nat) : Option Pos → Option Pos → Nat → Cap → Option Pos → Nat → Cap → Int → Int → AS → Option (AV × AS) := Nat.rec (motive := fun _ => Option Pos → Option Pos → Nat → Cap → Option Pos → Nat → Cap → Int → Int → AS → Option (AV × AS)) (fun _ _ _ _ _ _ _ _ _ _ => none) (fun _ ih w0 w2a w2l w2c w29a w29l w29c w30 w31 S => b34_l1_1_1_0_1_0 call n (J34_j1_1_1_0_1_0_0_1_1_1 call n ih) w0 w2a w2l w2c w29a w29l w29c w30 w31 S) m
theorem J34_l1_1_1_0_1_0_succ (call : CallA) (n : Nat)  (m : Nat) (w0 : Option Pos) (w2a : Option Pos) (w2l : Nat) (w2c : Cap) (w29a : Option Pos) (w29l : Nat) (w29c : Cap) (w30 : Int) (w31 : Int) (S : AS) : J34_l1_1_1_0_1_0 call n  (m + 1) w0 w2a w2l w2c w29a w29l w29c w30 w31 S = b34_l1_1_1_0_1_0 call n (J34_j1_1_1_0_1_0_0_1_1_1 call n (J34_l1_1_1_0_1_0 call n  m)) w0 w2a w2l w2c w29a w29l w29c w30 w31 S := rfl
theorem h34_l1_1_1_0_1_0 (call : CallA) (n : Nat)  (m : Nat) : r34_l1_1_1_0_1_0 call n  m = J34_l1_1_1_0_1_0 call n  m := by
  induction m with
  | zero => rfl
  | succ m ih =>
    funext w0 w2a w2l w2c w29a w29l w29c w30 w31 S
    rw [J34_l1_1_1_0_1_0_succ, a34_l1_1_1_0_1_0, h34_j1_1_1_0_1_0_0_1_1_1 call n m, ih]
def J34 (call : CallA) (n : Nat) (x0 : Option Pos) (S : AS) : Option (AV × AS) := b34_entry call n (J34_l1_1_1_0_1_0 call n  n) x0 S
theorem run34 (o : Orc) (n : Nat) (args : List AV) (S : AS) (ho : o 34 args = none) : evF E o (n + 1) (.fn 34) args S = evC E (evF E o n) n 34 (E.at 34 []) 0 (enumT 0 args) S (retK E (E.fn 34)) := by
  rw [evF, ho]; kernel_rfl
theorem J34_eq (call : CallA) (n : Nat) (x0 : Option Pos) (S : AS) : evC E call n 34 (E.at 34 []) 0 (enumT 0 [(.ptr x0)]) S (retK E (E.fn 34)) = J34 call n x0 S := by
  rw [J34, a34_entry, h34_l1_1_1_0_1_0 call n  n]
theorem F34 {o : Orc} (n : Nat) (x0 : Option Pos) (S : AS) (ho : ∀ args, o 34 args = none) : evF E o (n + 1) (.fn 34) [(.ptr x0)] S = J34 (evF E o n) n x0 S := (run34 o n [(.ptr x0)] S (ho _)).trans (J34_eq _ _ x0 S)
def b35_entry (call : CallA) (n : Nat)  (x0 : Option Pos) (x1 : Int) (S : AS) : Option (AV × AS) :=
 cond x0.isNone (
 some ((.int .i64 7), S)) (
 callB call 39 [(.ptr x0), (.int .i64 x1)] S fun v2 S1 =>
 cond (!v2) (
 some ((.int .i64 2), S1)) (
 gO x0 fun p3 =>
 ldL S1 p3.1 p3.2 fun v4a v4l v4c =>
 ixSl 1 v4a v4l x1 fun p5 =>
 ldI .u8 S1 p5.1 p5.2 fun v6 =>
 cond (v6 != 0) (
 some ((.int .i64 101), S1)) (
 gO x0 fun p7 =>
 ldI .i64 S1 p7.1 (p7.2 + 5) fun v8 =>
 gO x0 fun p9 =>
 ldI .i64 S1 p9.1 (p9.2 + 1) fun v10 =>
 cond (decide (v8 ≤ v10)) (
 some ((.int .i64 101), S1)) (
 callT call 42 [(.ptr x0), (.int .i64 x1), (.int .i64 2)] S1 fun v12 S11 =>
 gO x0 fun p13 =>
 ldL S11 p13.1 (p13.2 + 3) fun v14a v14l v14c =>
 newA S11 (.cells [(.int .i64 x1)]) fun b15 S16 =>
 appendA 1 8 S16 v14a v14l v14c 1 (firstA S16 1 1 (.sl (some (.rw b15, 0)) 1 (.ex 1))) fun v17a v17l v17c S18 =>
 gO x0 fun p19 =>
 S18.stn p19.1 (p19.2 + 3) [(.sl v17a v17l v17c)] fun S20 =>
 some ((.int .i64 0), S20)))))

theorem a35_entry (call : CallA) (n : Nat) (x0 : Option Pos) (x1 : Int) (S : AS) : evC E call n 35 (E.at 35 []) 0 (enumT 0 [(.ptr x0), (.int .i64 x1)]) S (retK E (E.fn 35)) = b35_entry call n  x0 x1 S := by kernel_rfl
def J35 (call : CallA) (n : Nat) (x0 : Option Pos) (x1 : Int) (S : AS) : Option (AV × AS) := b35_entry call n  x0 x1 S
theorem run35 (o : Orc) (n : Nat) (args : List AV) (S : AS) (ho : o 35 args = none) : evF E o (n + 1) (.fn 35) args S = evC E (evF E o n) n 35 (E.at 35 []) 0 (enumT 0 args) S (retK E (E.fn 35)) := by
  rw [evF, ho]; kernel_rfl
theorem J35_eq (call : CallA) (n : Nat) (x0 : Option Pos) (x1 : Int) (S : AS) : evC E call n 35 (E.at 35 []) 0 (enumT 0 [(.ptr x0), (.int .i64 x1)]) S (retK E (E.fn 35)) = J35 call n x0 x1 S := by
  rw [J35, a35_entry]
theorem F35 {o : Orc} (n : Nat) (x0 : Option Pos) (x1 : Int) (S : AS) (ho : ∀ args, o 35 args = none) : evF E o (n + 1) (.fn 35) [(.ptr x0), (.int .i64 x1)] S = J35 (evF E o n) n x0 x1 S := (run35 o n [(.ptr x0), (.int .i64 x1)] S (ho _)).trans (J35_eq _ _ x0 x1 S)
def b36_entry (call : CallA) (n : Nat)  (x0 : Option Pos) (x1 : Int) (S : AS) : Option (AV × AS) :=
 cond x0.isNone (
 some ((.int .i64 7), S)) (
 cond (decide (x1 < 0)) (
 some ((.int .i64 2), S)) (
 gO x0 fun p1 =>
 ldI .i64 S p1.1 (p1.2 + 1) fun v2 =>
 cond (decide (x1 > v2)) (
 some ((.int .i64 2), S)) (
 gO x0 fun p3 =>
 ldI .i64 S p3.1 (p3.2 + 1) fun v4 =>
 gO x0 fun p5 =>
 S.stn p5.1 (p5.2 + 1) [(.int .i64 (IntKind.wrap .i64 (v4 - x1)))] fun S6 =>
 some ((.int .i64 0), S6))))

theorem a36_entry (call : CallA) (n : Nat) (x0 : Option Pos) (x1 : Int) (S : AS) : evC E call n 36 (E.at 36 []) 0 (enumT 0 [(.ptr x0), (.int .i64 x1)]) S (retK E (E.fn 36)) = b36_entry call n  x0 x1 S := by kernel_rfl
def J36 (call : CallA) (n : Nat) (x0 : Option Pos) (x1 : Int) (S : AS) : Option (AV × AS) := b36_entry call n  x0 x1 S
theorem run36 (o : Orc) (n : Nat) (args : List AV) (S : AS) (ho : o 36 args = none) : evF E o (n + 1) (.fn 36) args S = evC E (evF E o n) n 36 (E.at 36 []) 0 (enumT 0 args) S (retK E (E.fn 36)) := by
  rw [evF, ho]; kernel_rfl
theorem J36_eq (call : CallA) (n : Nat) (x0 : Option Pos) (x1 : Int) (S : AS) : evC E call n 36 (E.at 36 []) 0 (enumT 0 [(.ptr x0), (.int .i64 x1)]) S (retK E (E.fn 36)) = J36 call n x0 x1 S := by
  rw [J36, a36_entry]
theorem F36 {o : Orc} (n : Nat) (x0 : Option Pos) (x1 : Int) (S : AS) (ho : ∀ args, o 36 args = none) : evF E o (n + 1) (.fn 36) [(.ptr x0), (.int .i64 x1)] S = J36 (evF E o n) n x0 x1 S := (run36 o n [(.ptr x0), (.int .i64 x1)] S (ho _)).trans (J36_eq _ _ x0 x1 S)
def b37_entry (call : CallA) (n : Nat)  (x0 : Option Pos) (S : AS) : Option (AV × AS) :=
 cond x0.isNone (
 some ((.ptr none), S)) (
 gO x0 fun p1 =>
 S.ldn p1.1 p1.2 6 fun g2 =>
 newA S (.cells [(.sl none 0 (.ex 0)), (.int .i64 0), (.int .i64 0), (.sl none 0 (.ex 0)), (.sl none 0 (.ex 0)), (.int .i64 0)]) fun b3 S4 =>
 ifO (g2.length = 6) <|
 S4.stn (.rw b3) 0 g2 fun S5 =>
 gO x0 fun p6 =>
 ldL S5 p6.1 p6.2 fun v7a v7l v7c =>
 callL call 61 [(.sl v7a v7l v7c)] S5 fun v9a v9l v9c S8 =>
 gO x0 fun p10 =>
 ldL S8 p10.1 (p10.2 + 3) fun v11a v11l v11c =>
 ldL S5 p10.1 (p10.2 + 3) fun v12a v12l v12c =>
 cond (AV.beq (.sl v12a v12l v12c) (.sl v11a v11l v11c)) (
 callL call 46 [(.sl v11a v11l v11c)] S8 fun v14a v14l v14c S13 =>
 gO x0 fun p15 =>
 ldL S13 p15.1 (p15.2 + 4) fun v16a v16l v16c =>
 ldL S8 p15.1 (p15.2 + 4) fun v17a v17l v17c =>
 cond (AV.beq (.sl v17a v17l v17c) (.sl v16a v16l v16c)) (
 ldL S5 p15.1 (p15.2 + 4) fun v18a v18l v18c =>
 cond (AV.beq (.sl v18a v18l v18c) (.sl v16a v16l v16c)) (
 callL call 46 [(.sl v16a v16l v16c)] S13 fun v20a v20l v20c S19 =>
 S19.stn (.rw b3) 0 [(.sl v9a v9l v9c)] fun S21 =>
 S21.stn (.rw b3) 3 [(.sl v14a v14l v14c)] fun S22 =>
 S22.stn (.rw b3) 4 [(.sl v20a v20l v20c)] fun S23 =>
 some ((.ptr (some ((.rw b3), 0))), S23)) none) none) none)

theorem a37_entry (call : CallA) (n : Nat) (x0 : Option Pos) (S : AS) : evC E call n 37 (E.at 37 []) 0 (enumT 0 [(.ptr x0)]) S (retK E (E.fn 37)) = b37_entry call n  x0 S := by kernel_rfl
def J37 (call : CallA) (n : Nat) (x0 : Option Pos) (S : AS) : Option (AV × AS) := b37_entry call n  x0 S
theorem run37 (o : Orc) (n : Nat) (args : List AV) (S : AS) (ho : o 37 args = none) : evF E o (n + 1) (.fn 37) args S = evC E (evF E o n) n 37 (E.at 37 []) 0 (enumT 0 args) S (retK E (E.fn 37)) := by
  rw [evF, ho]; kernel_rfl
theorem J37_eq (call : CallA) (n : Nat) (x0 : Option Pos) (S : AS) : evC E call n 37 (E.at 37 []) 0 (enumT 0 [(.ptr x0)]) S (retK E (E.fn 37)) = J37 call n x0 S := by
  rw [J37, a37_entry]
theorem F37 {o : Orc} (n : Nat) (x0 : Option Pos) (S : AS) (ho : ∀ args, o 37 args = none) : evF E o (n + 1) (.fn 37) [(.ptr x0)] S = J37 (evF E o n) n x0 S := (run37 o n [(.ptr x0)] S (ho _)).trans (J37_eq _ _ x0 S)
def b38_l1_1_0_1_0 (call : CallA) (n : Nat) (l1_1_0_1_0 : Option Pos → Nat → Cap → Option Pos → Nat → Cap → Bool → Int → AS → Option (AV × AS)) (w0a : Option Pos) (w0l : Nat) (w0c : Cap) (w1a : Option Pos) (w1l : Nat) (w1c : Cap) (w4 : Bool) (w5 : Int) (S : AS) : Option (AV × AS) :=
 cond (decide (w5 < ((w0l : Nat) : Int))) (
 ixSl 1 w0a w0l w5 fun p1 =>
 ldI .i64 S p1.1 p1.2 fun v2 =>
 ixSl 1 w1a w1l w5 fun p3 =>
 ldI .i64 S p3.1 p3.2 fun v4 =>
 cond (v2 != v4) (
 some ((.bool false), S)) (
 l1_1_0_1_0 w0a w0l w0c w1a w1l w1c w4 (IntKind.wrap .i64 (w5 + 1)) S)) (
 some ((.bool true), S))

def b38_entry (call : CallA) (n : Nat) (l1_1_0_1_0 : Option Pos → Nat → Cap → Option Pos → Nat → Cap → Bool → Int → AS → Option (AV × AS)) (x0a : Option Pos) (x0l : Nat) (x0c : Cap) (x1a : Option Pos) (x1l : Nat) (x1c : Cap) (S : AS) : Option (AV × AS) :=
 cond (((x0l : Nat) : Int) != ((x1l : Nat) : Int)) (
 some ((.bool false), S)) (
 l1_1_0_1_0 x0a x0l x0c x1a x1l x1c false 0 S)

def r38_l1_1_0_1_0 (call : CallA) (n : Nat)  (m : Nat) (w0a : Option Pos) (w0l : Nat) (w0c : Cap) (w1a : Option Pos) (w1l : Nat) (w1c : Cap) (w4 : Bool) (w5 : Int) (S : AS) : Option (AV × AS) := loopN (evC E call n 38 (E.at 38 [1, 1, 0, 1, 0, 0]) 0) [0, 1, 4, 5] m [(0, (.sl w0a w0l w0c)), (1, (.sl w1a w1l w1c)), (4, (.bool w4)), (5, (.int .i64 w5))] S (kBlk 0 (kSeq E call n 38 (E.at 38 [1, 1, 1]) 0 (retK E (E.fn 38))))
theorem a38_l1_1_0_1_0 (call : CallA) (n : Nat)  (m : Nat) (w0a : Option Pos) (w0l : Nat) (w0c : Cap) (w1a : Option Pos) (w1l : Nat) (w1c : Cap) (w4 : Bool) (w5 : Int) (S : AS) : r38_l1_1_0_1_0 call n  (m + 1) w0a w0l w0c w1a w1l w1c w4 w5 S = b38_l1_1_0_1_0 call n (r38_l1_1_0_1_0 call n  m) w0a w0l w0c w1a w1l w1c w4 w5 S := by kernel_rfl
theorem a38_entry (call : CallA) (n : Nat) (x0a : Option Pos) (x0l : Nat) (x0c : Cap) (x1a : Option Pos) (x1l : Nat) (x1c : Cap) (S : AS) : evC E call n 38 (E.at 38 []) 0 (enumT 0 [(.sl x0a x0l x0c), (.sl x1a x1l x1c)]) S (retK E (E.fn 38)) = b38_entry call n (r38_l1_1_0_1_0 call n  n) x0a x0l x0c x1a x1l x1c S := by kernel_rfl
def J38_l1_1_0_1_0 (call : CallA) (n : Nat)  (m : Nat) : Option Pos → Nat → Cap → Option Pos → Nat → Cap → Bool → Int → AS → Option (AV × AS) := Nat.rec (motive := fun _ => Option Pos → Nat → Cap → Option Pos → Nat → Cap → Bool → Int → AS → Option (AV × AS)) (fun _ _ _ _ _ _ _ _ _ => none) (fun _ ih w0a w0l w0c w1a w1l w1c w4 w5 S => b38_l1_1_0_1_0 call n ih w0a w0l w0c w1a w1l w1c w4 w5 S) m
theorem J38_l1_1_0_1_0_succ (call : CallA) (n : Nat)  (m : Nat) (w0a : Option Pos) (w0l : Nat) (w0c : Cap) (w1a : Option Pos) (w1l : Nat) (w1c : Cap) (w4 : Bool) (w5 : Int) (S : AS) : J38_l1_1_0_1_0 call n  (m + 1) w0a w0l w0c w1a w1l w1c w4 w5 S = b38_l1_1_0_1_0 call n (J38_l1_1_0_1_0 call n  m) w0a w0l w0c w1a w1l w1c w4 w5 S := rfl
theorem h38_l1_1_0_1_0 (call : CallA) (n : Nat)  (m : Nat) : r38_l1_1_0_1_0 call n  m = J38_l1_1_0_1_0 call n  m := by
  induction m with
  | zero => rfl
  | succ m ih =>
    funext w0a w0l w0c w1a w1l w1c w4 w5 S
    rw [J38_l1_1_0_1_0_succ, a38_l1_1_0_1_0, ih]
def J38 (call : CallA) (n : Nat) (x0a : Option Pos) (x0l : Nat) (x0c : Cap) (x1a : Option Pos) (x1l : Nat) (x1c : Cap) (S : AS) : Option (AV × AS) := b38_entry call n (J38_l1_1_0_1_0 call n  n) x0a x0l x0c x1a x1l x1c S
theorem run38 (o : Orc) (n : Nat) (args : List AV) (S : AS) (ho : o 38 args = none) : evF E o (n + 1) (.fn 38) args S = evC E (evF E o n) n 38 (E.at 38 []) 0 (enumT 0 args) S (retK E (E.fn 38)) := by
  rw [evF, ho]; kernel_rfl
theorem J38_eq (call : CallA) (n : Nat) (x0a : Option Pos) (x0l : Nat) (x0c : Cap) (x1a : Option Pos) (x1l : Nat) (x1c : Cap) (S : AS) : evC E call n 38 (E.at 38 []) 0 (enumT 0 [(.sl x0a x0l x0c), (.sl x1a x1l x1c)]) S (retK E (E.fn 38)) = J38 call n x0a x0l x0c x1a x1l x1c S := by
  rw [J38, a38_entry, h38_l1_1_0_1_0 call n  n]
theorem F38 {o : Orc} (n : Nat) (x0a : Option Pos) (x0l : Nat) (x0c : Cap) (x1a : Option Pos) (x1l : Nat) (x1c : Cap) (S : AS) (ho : ∀ args, o 38 args = none) : evF E o (n + 1) (.fn 38) [(.sl x0a x0l x0c), (.sl x1a x1l x1c)] S = J38 (evF E o n) n x0a x0l x0c x1a x1l x1c S := (run38 o n [(.sl x0a x0l x0c), (.sl x1a x1l x1c)] S (ho _)).trans (J38_eq _ _ x0a x0l x0c x1a x1l x1c S)
def b39_entry (call : CallA) (n : Nat)  (x0 : Option Pos) (x1 : Int) (S : AS) : Option (AV × AS) :=
 cond (decide (x1 ≥ 0)) (
 gO x0 fun p1 =>
 ldL S p1.1 p1.2 fun v2a v2l v2c =>
 some ((.bool (decide (x1 < ((v2l : Nat) : Int)))), S)) (
 some ((.bool false), S))

theorem a39_entry (call : CallA) (n : Nat) (x0 : Option Pos) (x1 : Int) (S : AS) : evC E call n 39 (E.at 39 []) 0 (enumT 0 [(.ptr x0), (.int .i64 x1)]) S (retK E (E.fn 39)) = b39_entry call n  x0 x1 S := by kernel_rfl
def J39 (call : CallA) (n : Nat) (x0 : Option Pos) (x1 : Int) (S : AS) : Option (AV × AS) := b39_entry call n  x0 x1 S
theorem run39 (o : Orc) (n : Nat) (args : List AV) (S : AS) (ho : o 39 args = none) : evF E o (n + 1) (.fn 39) args S = evC E (evF E o n) n 39 (E.at 39 []) 0 (enumT 0 args) S (retK E (E.fn 39)) := by
  rw [evF, ho]; kernel_rfl
theorem J39_eq (call : CallA) (n : Nat) (x0 : Option Pos) (x1 : Int) (S : AS) : evC E call n 39 (E.at 39 []) 0 (enumT 0 [(.ptr x0), (.int .i64 x1)]) S (retK E (E.fn 39)) = J39 call n x0 x1 S := by
  rw [J39, a39_entry]
theorem F39 {o : Orc} (n : Nat) (x0 : Option Pos) (x1 : Int) (S : AS) (ho : ∀ args, o 39 args = none) : evF E o (n + 1) (.fn 39) [(.ptr x0), (.int .i64 x1)] S = J39 (evF E o n) n x0 x1 S := (run39 o n [(.ptr x0), (.int .i64 x1)] S (ho _)).trans (J39_eq _ _ x0 x1 S)
def b40_j1_1_1 (call : CallA) (n : Nat)  (w0 : Option Pos) (w5 : Int) (S : AS) : Option (AV × AS) :=
 callT call 42 [(.ptr w0), (.int .i64 w5), (.int .i64 2)] S fun v11 S10 =>
 gO w0 fun p12 =>
 ldL S10 p12.1 (p12.2 + 3) fun v13a v13l v13c =>
 newA S10 (.cells [(.int .i64 w5)]) fun b14 S15 =>
 appendA 1 8 S15 v13a v13l v13c 1 (firstA S15 1 1 (.sl (some (.rw b14, 0)) 1 (.ex 1))) fun v16a v16l v16c S17 =>
 gO w0 fun p18 =>
 S17.stn p18.1 (p18.2 + 3) [(.sl v16a v16l v16c)] fun S19 =>
 some ((.int .i64 w5), S19)

def b40_entry (call : CallA) (n : Nat) (j1_1_1 : Option Pos → Int → AS → Option (AV × AS)) (x0 : Option Pos) (x1 : Int) (S : AS) : Option (AV × AS) :=
 gO x0 fun p1 =>
 ldL S p1.1 p1.2 fun v2a v2l v2c =>
 slSl 1 v2a v2l v2c (some x1) none none fun v3a v3l v3c =>
 callI .i64 call 62 [(.sl v3a v3l v3c), (.int .u8 0)] S fun v5 S4 =>
 cond (decide ((IntKind.wrap .i64 (v5 + x1)) < x1)) (
 gO x0 fun p6 =>
 ldL S4 p6.1 p6.2 fun v7a v7l v7c =>
 callI .i64 call 62 [(.sl v7a v7l v7c), (.int .u8 0)] S4 fun v9 S8 =>
 j1_1_1 x0 v9 S8) (
 j1_1_1 x0 (IntKind.wrap .i64 (v5 + x1)) S4)

def r40_j1_1_1 (call : CallA) (n : Nat)  (w0 : Option Pos) (w5 : Int) (S : AS) : Option (AV × AS) := evC E call n 40 (E.at 40 [1, 1, 1]) 0 [(0, (.ptr w0)), (5, (.int .i64 w5))] S (retK E (E.fn 40))
theorem a40_j1_1_1 (call : CallA) (n : Nat)  (w0 : Option Pos) (w5 : Int) (S : AS) : r40_j1_1_1 call n  w0 w5 S = b40_j1_1_1 call n  w0 w5 S := by kernel_rfl
theorem a40_entry (call : CallA) (n : Nat) (x0 : Option Pos) (x1 : Int) (S : AS) : evC E call n 40 (E.at 40 []) 0 (enumT 0 [(.ptr x0), (.int .i64 x1)]) S (retK E (E.fn 40)) = b40_entry call n (r40_j1_1_1 call n ) x0 x1 S := by kernel_rfl
def J40_j1_1_1 (call : CallA) (n : Nat)  (w0 : Option Pos) (w5 : Int) (S : AS) : Option (AV × AS) := b40_j1_1_1 call n  w0 w5 S
theorem h40_j1_1_1 (call : CallA) (n : Nat)  : r40_j1_1_1 call n  = J40_j1_1_1 call n  := by
  funext w0 w5 S
  rw [J40_j1_1_1, a40_j1_1_1]
def J40 (call : CallA) (n : Nat) (x0 : Option Pos) (x1 : Int) (S : AS) : Option (AV × AS) := b40_entry call n (J40_j1_1_1 call n ) x0 x1 S
theorem run40 (o : Orc) (n : Nat) (args : List AV) (S : AS) (ho : o 40 args = none) : evF E o (n + 1) (.fn 40) args S = evC E (evF E o n) n 40 (E.at 40 []) 0 (enumT 0 args) S (retK E (E.fn 40)) := by
  rw [evF, ho]; kernel_rfl
theorem J40_eq (call : CallA) (n : Nat) (x0 : Option Pos) (x1 : Int) (S : AS) : evC E call n 40 (E.at 40 []) 0 (enumT 0 [(.ptr x0), (.int .i64 x1)]) S (retK E (E.fn 40)) = J40 call n x0 x1 S := by
  rw [J40, a40_entry, h40_j1_1_1 call n ]
theorem F40 {o : Orc} (n : Nat) (x0 : Option Pos) (x1 : Int) (S : AS) (ho : ∀ args, o 40 args = none) : evF E o (n + 1) (.fn 40) [(.ptr x0), (.int .i64 x1)] S = J40 (evF E o n) n x0 x1 S := (run40 o n [(.ptr x0), (.int .i64 x1)] S (ho _)).trans (J40_eq _ _ x0 x1 S)
def b41_entry (call : CallA) (n : Nat)  (x0 : Int) (S : AS) : Option (AV × AS) :=
 cond (decide (x0 < 1)) (
 some (.tup [(.ptr none), (.int .i64 2)], S)) (
 cond (decide (x0 > 65536)) (
 some (.tup [(.ptr none), (.int .i64 2)], S)) (
 mkSl 8 x0 x0 fun l3 c4 =>
 newA S (.cells (zeros c4 [(.int .i64 0)])) fun b1 S2 =>
 newA S2 (.cells [(.sl (some (.rw b1, 0)) l3 (.ex c4)), (.sl none 0 (.ex 0)), (.sl none 0 (.ex 0)), (.int .i64 0), (.int .i64 0)]) fun b5 S6 =>
 some (.tup [(.ptr (some ((.rw b5), 0))), (.int .i64 0)], S6)))

theorem a41_entry (call : CallA) (n : Nat) (x0 : Int) (S : AS) : evC E call n 41 (E.at 41 []) 0 (enumT 0 [(.int .i64 x0)]) S (retK E (E.fn 41)) = b41_entry call n  x0 S := by kernel_rfl
def J41 (call : CallA) (n : Nat) (x0 : Int) (S : AS) : Option (AV × AS) := b41_entry call n  x0 S
theorem run41 (o : Orc) (n : Nat) (args : List AV) (S : AS) (ho : o 41 args = none) : evF E o (n + 1) (.fn 41) args S = evC E (evF E o n) n 41 (E.at 41 []) 0 (enumT 0 args) S (retK E (E.fn 41)) := by
  rw [evF, ho]; kernel_rfl
theorem J41_eq (call : CallA) (n : Nat) (x0 : Int) (S : AS) : evC E call n 41 (E.at 41 []) 0 (enumT 0 [(.int .i64 x0)]) S (retK E (E.fn 41)) = J41 call n x0 S := by
  rw [J41, a41_entry]
theorem F41 {o : Orc} (n : Nat) (x0 : Int) (S : AS) (ho : ∀ args, o 41 args = none) : evF E o (n + 1) (.fn 41) [(.int .i64 x0)] S = J41 (evF E o n) n x0 S := (run41 o n [(.int .i64 x0)] S (ho _)).trans (J41_eq _ _ x0 S)
end
end Go.Al
