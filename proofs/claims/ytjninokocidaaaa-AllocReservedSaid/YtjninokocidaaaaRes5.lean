/- Plain readings of the functions, and that they are what the evaluator does: by program. -/
import Derived.Test.YtjninokocidaaaaGrRes
import Derived.Test.YtjninokocidaaaaENV
import Derived.KernelRfl
set_option maxRecDepth 100000
set_option linter.unusedVariables false
namespace Go.Al
open Go.Gr
noncomputable section
def b63_l1_1_0 (call : CallA) (n : Nat) (l1_1_0 : Option Pos → Nat → Cap → Int → Int → Int → Bool → Bool → AS → Option (AV × AS)) (w0a : Option Pos) (w0l : Nat) (w0c : Cap) (w1 : Int) (w2 : Int) (w3 : Int) (w8 : Bool) (w9 : Bool) (S : AS) : Option (AV × AS) :=
 cond (decide ((IntKind.wrap .i64 (w2 - w1)) ≤ 12)) (
 callT call 69 [(.sl w0a w0l w0c), (.int .i64 w1), (.int .i64 w2)] S fun v2 S1 =>
 some (.tup [], S1)) (
 cond (w3 == 0) (
 callT call 70 [(.sl w0a w0l w0c), (.int .i64 w1), (.int .i64 w2)] S fun v4 S3 =>
 some (.tup [], S3)) (
 cond (!w8) (
 callT call 71 [(.sl w0a w0l w0c), (.int .i64 w1), (.int .i64 w2)] S fun v6 S5 =>
 callT call 72 [(.sl w0a w0l w0c), (.int .i64 w1), (.int .i64 w2)] S5 fun v8 S7 =>
 atI .i64 v8 0 fun v9 =>
 atI .i64 v8 1 fun v10 =>
 cond (v10 == 2) (
 callT call 73 [(.sl w0a w0l w0c), (.int .i64 w1), (.int .i64 w2)] S7 fun v12 S11 =>
 cond w8 (
 cond w9 (
 cond (1 == 1) (
 callB call 74 [(.sl w0a w0l w0c), (.int .i64 w1), (.int .i64 w2)] S11 fun v14 S13 =>
 cond v14 (
 some (.tup [], S13)) (
 cond (decide (w1 > 0)) (
 ixSl 1 w0a w0l (IntKind.wrap .i64 (w1 - 1)) fun p15 =>
 ldI .i64 S13 p15.1 p15.2 fun v16 =>
 ixSl 1 w0a w0l (IntKind.wrap .i64 ((IntKind.wrap .i64 (w2 - 1)) - (IntKind.wrap .i64 (v9 - w1)))) fun p17 =>
 ldI .i64 S13 p17.1 p17.2 fun v18 =>
 callB call 75 [(.int .i64 v16), (.int .i64 v18)] S13 fun v20 S19 =>
 cond (!v20) (
 callI .i64 call 76 [(.sl w0a w0l w0c), (.int .i64 w1), (.int .i64 w2), (.int .i64 (IntKind.wrap .i64 ((IntKind.wrap .i64 (w2 - 1)) - (IntKind.wrap .i64 (v9 - w1)))))] S19 fun v22 S21 =>
 l1_1_0 w0a w0l w0c v22 w2 (IntKind.wrap .i64 (w3 - 1)) w8 w9 S21) (
 callT call 77 [(.sl w0a w0l w0c), (.int .i64 w1), (.int .i64 w2), (.int .i64 (IntKind.wrap .i64 ((IntKind.wrap .i64 (w2 - 1)) - (IntKind.wrap .i64 (v9 - w1)))))] S19 fun v24 S23 =>
 atI .i64 v24 0 fun v25 =>
 atB v24 1 fun v26 =>
 cond (decide ((IntKind.wrap .i64 (v25 - w1)) < (IntKind.wrap .i64 (w2 - v25)))) (
 callT call 63 [(.sl w0a w0l w0c), (.int .i64 w1), (.int .i64 v25), (.int .i64 (IntKind.wrap .i64 (w3 - 1)))] S23 fun v28 S27 =>
 l1_1_0 w0a w0l w0c (IntKind.wrap .i64 (v25 + 1)) w2 (IntKind.wrap .i64 (w3 - 1)) (decide ((IntKind.wrap .i64 (v25 - w1)) ≥ (IntKind.wrap .i64 (Int.tdiv (IntKind.wrap .i64 (w2 - w1)) 8)))) v26 S27) (
 callT call 63 [(.sl w0a w0l w0c), (.int .i64 (IntKind.wrap .i64 (v25 + 1))), (.int .i64 w2), (.int .i64 (IntKind.wrap .i64 (w3 - 1)))] S23 fun v30 S29 =>
 l1_1_0 w0a w0l w0c w1 v25 (IntKind.wrap .i64 (w3 - 1)) (decide ((IntKind.wrap .i64 (w2 - v25)) ≥ (IntKind.wrap .i64 (Int.tdiv (IntKind.wrap .i64 (w2 - w1)) 8)))) v26 S29))) (
 callT call 77 [(.sl w0a w0l w0c), (.int .i64 w1), (.int .i64 w2), (.int .i64 (IntKind.wrap .i64 ((IntKind.wrap .i64 (w2 - 1)) - (IntKind.wrap .i64 (v9 - w1)))))] S13 fun v32 S31 =>
 atI .i64 v32 0 fun v33 =>
 atB v32 1 fun v34 =>
 cond (decide ((IntKind.wrap .i64 (v33 - w1)) < (IntKind.wrap .i64 (w2 - v33)))) (
 callT call 63 [(.sl w0a w0l w0c), (.int .i64 w1), (.int .i64 v33), (.int .i64 (IntKind.wrap .i64 (w3 - 1)))] S31 fun v36 S35 =>
 l1_1_0 w0a w0l w0c (IntKind.wrap .i64 (v33 + 1)) w2 (IntKind.wrap .i64 (w3 - 1)) (decide ((IntKind.wrap .i64 (v33 - w1)) ≥ (IntKind.wrap .i64 (Int.tdiv (IntKind.wrap .i64 (w2 - w1)) 8)))) v34 S35) (
 callT call 63 [(.sl w0a w0l w0c), (.int .i64 (IntKind.wrap .i64 (v33 + 1))), (.int .i64 w2), (.int .i64 (IntKind.wrap .i64 (w3 - 1)))] S31 fun v38 S37 =>
 l1_1_0 w0a w0l w0c w1 v33 (IntKind.wrap .i64 (w3 - 1)) (decide ((IntKind.wrap .i64 (w2 - v33)) ≥ (IntKind.wrap .i64 (Int.tdiv (IntKind.wrap .i64 (w2 - w1)) 8)))) v34 S37)))) (
 cond (decide (w1 > 0)) (
 ixSl 1 w0a w0l (IntKind.wrap .i64 (w1 - 1)) fun p39 =>
 ldI .i64 S11 p39.1 p39.2 fun v40 =>
 ixSl 1 w0a w0l (IntKind.wrap .i64 ((IntKind.wrap .i64 (w2 - 1)) - (IntKind.wrap .i64 (v9 - w1)))) fun p41 =>
 ldI .i64 S11 p41.1 p41.2 fun v42 =>
 callB call 75 [(.int .i64 v40), (.int .i64 v42)] S11 fun v44 S43 =>
 cond (!v44) (
 callI .i64 call 76 [(.sl w0a w0l w0c), (.int .i64 w1), (.int .i64 w2), (.int .i64 (IntKind.wrap .i64 ((IntKind.wrap .i64 (w2 - 1)) - (IntKind.wrap .i64 (v9 - w1)))))] S43 fun v46 S45 =>
 l1_1_0 w0a w0l w0c v46 w2 (IntKind.wrap .i64 (w3 - 1)) w8 w9 S45) (
 callT call 77 [(.sl w0a w0l w0c), (.int .i64 w1), (.int .i64 w2), (.int .i64 (IntKind.wrap .i64 ((IntKind.wrap .i64 (w2 - 1)) - (IntKind.wrap .i64 (v9 - w1)))))] S43 fun v48 S47 =>
 atI .i64 v48 0 fun v49 =>
 atB v48 1 fun v50 =>
 cond (decide ((IntKind.wrap .i64 (v49 - w1)) < (IntKind.wrap .i64 (w2 - v49)))) (
 callT call 63 [(.sl w0a w0l w0c), (.int .i64 w1), (.int .i64 v49), (.int .i64 (IntKind.wrap .i64 (w3 - 1)))] S47 fun v52 S51 =>
 l1_1_0 w0a w0l w0c (IntKind.wrap .i64 (v49 + 1)) w2 (IntKind.wrap .i64 (w3 - 1)) (decide ((IntKind.wrap .i64 (v49 - w1)) ≥ (IntKind.wrap .i64 (Int.tdiv (IntKind.wrap .i64 (w2 - w1)) 8)))) v50 S51) (
 callT call 63 [(.sl w0a w0l w0c), (.int .i64 (IntKind.wrap .i64 (v49 + 1))), (.int .i64 w2), (.int .i64 (IntKind.wrap .i64 (w3 - 1)))] S47 fun v54 S53 =>
 l1_1_0 w0a w0l w0c w1 v49 (IntKind.wrap .i64 (w3 - 1)) (decide ((IntKind.wrap .i64 (w2 - v49)) ≥ (IntKind.wrap .i64 (Int.tdiv (IntKind.wrap .i64 (w2 - w1)) 8)))) v50 S53))) (
 callT call 77 [(.sl w0a w0l w0c), (.int .i64 w1), (.int .i64 w2), (.int .i64 (IntKind.wrap .i64 ((IntKind.wrap .i64 (w2 - 1)) - (IntKind.wrap .i64 (v9 - w1)))))] S11 fun v56 S55 =>
 atI .i64 v56 0 fun v57 =>
 atB v56 1 fun v58 =>
 cond (decide ((IntKind.wrap .i64 (v57 - w1)) < (IntKind.wrap .i64 (w2 - v57)))) (
 callT call 63 [(.sl w0a w0l w0c), (.int .i64 w1), (.int .i64 v57), (.int .i64 (IntKind.wrap .i64 (w3 - 1)))] S55 fun v60 S59 =>
 l1_1_0 w0a w0l w0c (IntKind.wrap .i64 (v57 + 1)) w2 (IntKind.wrap .i64 (w3 - 1)) (decide ((IntKind.wrap .i64 (v57 - w1)) ≥ (IntKind.wrap .i64 (Int.tdiv (IntKind.wrap .i64 (w2 - w1)) 8)))) v58 S59) (
 callT call 63 [(.sl w0a w0l w0c), (.int .i64 (IntKind.wrap .i64 (v57 + 1))), (.int .i64 w2), (.int .i64 (IntKind.wrap .i64 (w3 - 1)))] S55 fun v62 S61 =>
 l1_1_0 w0a w0l w0c w1 v57 (IntKind.wrap .i64 (w3 - 1)) (decide ((IntKind.wrap .i64 (w2 - v57)) ≥ (IntKind.wrap .i64 (Int.tdiv (IntKind.wrap .i64 (w2 - w1)) 8)))) v58 S61)))) (
 cond (decide (w1 > 0)) (
 ixSl 1 w0a w0l (IntKind.wrap .i64 (w1 - 1)) fun p63 =>
 ldI .i64 S11 p63.1 p63.2 fun v64 =>
 ixSl 1 w0a w0l (IntKind.wrap .i64 ((IntKind.wrap .i64 (w2 - 1)) - (IntKind.wrap .i64 (v9 - w1)))) fun p65 =>
 ldI .i64 S11 p65.1 p65.2 fun v66 =>
 callB call 75 [(.int .i64 v64), (.int .i64 v66)] S11 fun v68 S67 =>
 cond (!v68) (
 callI .i64 call 76 [(.sl w0a w0l w0c), (.int .i64 w1), (.int .i64 w2), (.int .i64 (IntKind.wrap .i64 ((IntKind.wrap .i64 (w2 - 1)) - (IntKind.wrap .i64 (v9 - w1)))))] S67 fun v70 S69 =>
 l1_1_0 w0a w0l w0c v70 w2 (IntKind.wrap .i64 (w3 - 1)) w8 w9 S69) (
 callT call 77 [(.sl w0a w0l w0c), (.int .i64 w1), (.int .i64 w2), (.int .i64 (IntKind.wrap .i64 ((IntKind.wrap .i64 (w2 - 1)) - (IntKind.wrap .i64 (v9 - w1)))))] S67 fun v72 S71 =>
 atI .i64 v72 0 fun v73 =>
 atB v72 1 fun v74 =>
 cond (decide ((IntKind.wrap .i64 (v73 - w1)) < (IntKind.wrap .i64 (w2 - v73)))) (
 callT call 63 [(.sl w0a w0l w0c), (.int .i64 w1), (.int .i64 v73), (.int .i64 (IntKind.wrap .i64 (w3 - 1)))] S71 fun v76 S75 =>
 l1_1_0 w0a w0l w0c (IntKind.wrap .i64 (v73 + 1)) w2 (IntKind.wrap .i64 (w3 - 1)) (decide ((IntKind.wrap .i64 (v73 - w1)) ≥ (IntKind.wrap .i64 (Int.tdiv (IntKind.wrap .i64 (w2 - w1)) 8)))) v74 S75) (
 callT call 63 [(.sl w0a w0l w0c), (.int .i64 (IntKind.wrap .i64 (v73 + 1))), (.int .i64 w2), (.int .i64 (IntKind.wrap .i64 (w3 - 1)))] S71 fun v78 S77 =>
 l1_1_0 w0a w0l w0c w1 v73 (IntKind.wrap .i64 (w3 - 1)) (decide ((IntKind.wrap .i64 (w2 - v73)) ≥ (IntKind.wrap .i64 (Int.tdiv (IntKind.wrap .i64 (w2 - w1)) 8)))) v74 S77))) (
 callT call 77 [(.sl w0a w0l w0c), (.int .i64 w1), (.int .i64 w2), (.int .i64 (IntKind.wrap .i64 ((IntKind.wrap .i64 (w2 - 1)) - (IntKind.wrap .i64 (v9 - w1)))))] S11 fun v80 S79 =>
 atI .i64 v80 0 fun v81 =>
 atB v80 1 fun v82 =>
 cond (decide ((IntKind.wrap .i64 (v81 - w1)) < (IntKind.wrap .i64 (w2 - v81)))) (
 callT call 63 [(.sl w0a w0l w0c), (.int .i64 w1), (.int .i64 v81), (.int .i64 (IntKind.wrap .i64 (w3 - 1)))] S79 fun v84 S83 =>
 l1_1_0 w0a w0l w0c (IntKind.wrap .i64 (v81 + 1)) w2 (IntKind.wrap .i64 (w3 - 1)) (decide ((IntKind.wrap .i64 (v81 - w1)) ≥ (IntKind.wrap .i64 (Int.tdiv (IntKind.wrap .i64 (w2 - w1)) 8)))) v82 S83) (
 callT call 63 [(.sl w0a w0l w0c), (.int .i64 (IntKind.wrap .i64 (v81 + 1))), (.int .i64 w2), (.int .i64 (IntKind.wrap .i64 (w3 - 1)))] S79 fun v86 S85 =>
 l1_1_0 w0a w0l w0c w1 v81 (IntKind.wrap .i64 (w3 - 1)) (decide ((IntKind.wrap .i64 (w2 - v81)) ≥ (IntKind.wrap .i64 (Int.tdiv (IntKind.wrap .i64 (w2 - w1)) 8)))) v82 S85)))) (
 cond (decide (w1 > 0)) (
 ixSl 1 w0a w0l (IntKind.wrap .i64 (w1 - 1)) fun p87 =>
 ldI .i64 S11 p87.1 p87.2 fun v88 =>
 ixSl 1 w0a w0l (IntKind.wrap .i64 ((IntKind.wrap .i64 (w2 - 1)) - (IntKind.wrap .i64 (v9 - w1)))) fun p89 =>
 ldI .i64 S11 p89.1 p89.2 fun v90 =>
 callB call 75 [(.int .i64 v88), (.int .i64 v90)] S11 fun v92 S91 =>
 cond (!v92) (
 callI .i64 call 76 [(.sl w0a w0l w0c), (.int .i64 w1), (.int .i64 w2), (.int .i64 (IntKind.wrap .i64 ((IntKind.wrap .i64 (w2 - 1)) - (IntKind.wrap .i64 (v9 - w1)))))] S91 fun v94 S93 =>
 l1_1_0 w0a w0l w0c v94 w2 (IntKind.wrap .i64 (w3 - 1)) w8 w9 S93) (
 callT call 77 [(.sl w0a w0l w0c), (.int .i64 w1), (.int .i64 w2), (.int .i64 (IntKind.wrap .i64 ((IntKind.wrap .i64 (w2 - 1)) - (IntKind.wrap .i64 (v9 - w1)))))] S91 fun v96 S95 =>
 atI .i64 v96 0 fun v97 =>
 atB v96 1 fun v98 =>
 cond (decide ((IntKind.wrap .i64 (v97 - w1)) < (IntKind.wrap .i64 (w2 - v97)))) (
 callT call 63 [(.sl w0a w0l w0c), (.int .i64 w1), (.int .i64 v97), (.int .i64 (IntKind.wrap .i64 (w3 - 1)))] S95 fun v100 S99 =>
 l1_1_0 w0a w0l w0c (IntKind.wrap .i64 (v97 + 1)) w2 (IntKind.wrap .i64 (w3 - 1)) (decide ((IntKind.wrap .i64 (v97 - w1)) ≥ (IntKind.wrap .i64 (Int.tdiv (IntKind.wrap .i64 (w2 - w1)) 8)))) v98 S99) (
 callT call 63 [(.sl w0a w0l w0c), (.int .i64 (IntKind.wrap .i64 (v97 + 1))), (.int .i64 w2), (.int .i64 (IntKind.wrap .i64 (w3 - 1)))] S95 fun v102 S101 =>
 l1_1_0 w0a w0l w0c w1 v97 (IntKind.wrap .i64 (w3 - 1)) (decide ((IntKind.wrap .i64 (w2 - v97)) ≥ (IntKind.wrap .i64 (Int.tdiv (IntKind.wrap .i64 (w2 - w1)) 8)))) v98 S101))) (
 callT call 77 [(.sl w0a w0l w0c), (.int .i64 w1), (.int .i64 w2), (.int .i64 (IntKind.wrap .i64 ((IntKind.wrap .i64 (w2 - 1)) - (IntKind.wrap .i64 (v9 - w1)))))] S11 fun v104 S103 =>
 atI .i64 v104 0 fun v105 =>
 atB v104 1 fun v106 =>
 cond (decide ((IntKind.wrap .i64 (v105 - w1)) < (IntKind.wrap .i64 (w2 - v105)))) (
 callT call 63 [(.sl w0a w0l w0c), (.int .i64 w1), (.int .i64 v105), (.int .i64 (IntKind.wrap .i64 (w3 - 1)))] S103 fun v108 S107 =>
 l1_1_0 w0a w0l w0c (IntKind.wrap .i64 (v105 + 1)) w2 (IntKind.wrap .i64 (w3 - 1)) (decide ((IntKind.wrap .i64 (v105 - w1)) ≥ (IntKind.wrap .i64 (Int.tdiv (IntKind.wrap .i64 (w2 - w1)) 8)))) v106 S107) (
 callT call 63 [(.sl w0a w0l w0c), (.int .i64 (IntKind.wrap .i64 (v105 + 1))), (.int .i64 w2), (.int .i64 (IntKind.wrap .i64 (w3 - 1)))] S103 fun v110 S109 =>
 l1_1_0 w0a w0l w0c w1 v105 (IntKind.wrap .i64 (w3 - 1)) (decide ((IntKind.wrap .i64 (w2 - v105)) ≥ (IntKind.wrap .i64 (Int.tdiv (IntKind.wrap .i64 (w2 - w1)) 8)))) v106 S109)))) (
 cond w8 (
 cond w9 (
 cond (v10 == 1) (
 callB call 74 [(.sl w0a w0l w0c), (.int .i64 w1), (.int .i64 w2)] S7 fun v112 S111 =>
 cond v112 (
 some (.tup [], S111)) (
 cond (decide (w1 > 0)) (
 ixSl 1 w0a w0l (IntKind.wrap .i64 (w1 - 1)) fun p113 =>
 ldI .i64 S111 p113.1 p113.2 fun v114 =>
 ixSl 1 w0a w0l v9 fun p115 =>
 ldI .i64 S111 p115.1 p115.2 fun v116 =>
 callB call 75 [(.int .i64 v114), (.int .i64 v116)] S111 fun v118 S117 =>
 cond (!v118) (
 callI .i64 call 76 [(.sl w0a w0l w0c), (.int .i64 w1), (.int .i64 w2), (.int .i64 v9)] S117 fun v120 S119 =>
 l1_1_0 w0a w0l w0c v120 w2 (IntKind.wrap .i64 (w3 - 1)) w8 w9 S119) (
 callT call 77 [(.sl w0a w0l w0c), (.int .i64 w1), (.int .i64 w2), (.int .i64 v9)] S117 fun v122 S121 =>
 atI .i64 v122 0 fun v123 =>
 atB v122 1 fun v124 =>
 cond (decide ((IntKind.wrap .i64 (v123 - w1)) < (IntKind.wrap .i64 (w2 - v123)))) (
 callT call 63 [(.sl w0a w0l w0c), (.int .i64 w1), (.int .i64 v123), (.int .i64 (IntKind.wrap .i64 (w3 - 1)))] S121 fun v126 S125 =>
 l1_1_0 w0a w0l w0c (IntKind.wrap .i64 (v123 + 1)) w2 (IntKind.wrap .i64 (w3 - 1)) (decide ((IntKind.wrap .i64 (v123 - w1)) ≥ (IntKind.wrap .i64 (Int.tdiv (IntKind.wrap .i64 (w2 - w1)) 8)))) v124 S125) (
 callT call 63 [(.sl w0a w0l w0c), (.int .i64 (IntKind.wrap .i64 (v123 + 1))), (.int .i64 w2), (.int .i64 (IntKind.wrap .i64 (w3 - 1)))] S121 fun v128 S127 =>
 l1_1_0 w0a w0l w0c w1 v123 (IntKind.wrap .i64 (w3 - 1)) (decide ((IntKind.wrap .i64 (w2 - v123)) ≥ (IntKind.wrap .i64 (Int.tdiv (IntKind.wrap .i64 (w2 - w1)) 8)))) v124 S127))) (
 callT call 77 [(.sl w0a w0l w0c), (.int .i64 w1), (.int .i64 w2), (.int .i64 v9)] S111 fun v130 S129 =>
 atI .i64 v130 0 fun v131 =>
 atB v130 1 fun v132 =>
 cond (decide ((IntKind.wrap .i64 (v131 - w1)) < (IntKind.wrap .i64 (w2 - v131)))) (
 callT call 63 [(.sl w0a w0l w0c), (.int .i64 w1), (.int .i64 v131), (.int .i64 (IntKind.wrap .i64 (w3 - 1)))] S129 fun v134 S133 =>
 l1_1_0 w0a w0l w0c (IntKind.wrap .i64 (v131 + 1)) w2 (IntKind.wrap .i64 (w3 - 1)) (decide ((IntKind.wrap .i64 (v131 - w1)) ≥ (IntKind.wrap .i64 (Int.tdiv (IntKind.wrap .i64 (w2 - w1)) 8)))) v132 S133) (
 callT call 63 [(.sl w0a w0l w0c), (.int .i64 (IntKind.wrap .i64 (v131 + 1))), (.int .i64 w2), (.int .i64 (IntKind.wrap .i64 (w3 - 1)))] S129 fun v136 S135 =>
 l1_1_0 w0a w0l w0c w1 v131 (IntKind.wrap .i64 (w3 - 1)) (decide ((IntKind.wrap .i64 (w2 - v131)) ≥ (IntKind.wrap .i64 (Int.tdiv (IntKind.wrap .i64 (w2 - w1)) 8)))) v132 S135)))) (
 cond (decide (w1 > 0)) (
 ixSl 1 w0a w0l (IntKind.wrap .i64 (w1 - 1)) fun p137 =>
 ldI .i64 S7 p137.1 p137.2 fun v138 =>
 ixSl 1 w0a w0l v9 fun p139 =>
 ldI .i64 S7 p139.1 p139.2 fun v140 =>
 callB call 75 [(.int .i64 v138), (.int .i64 v140)] S7 fun v142 S141 =>
 cond (!v142) (
 callI .i64 call 76 [(.sl w0a w0l w0c), (.int .i64 w1), (.int .i64 w2), (.int .i64 v9)] S141 fun v144 S143 =>
 l1_1_0 w0a w0l w0c v144 w2 (IntKind.wrap .i64 (w3 - 1)) w8 w9 S143) (
 callT call 77 [(.sl w0a w0l w0c), (.int .i64 w1), (.int .i64 w2), (.int .i64 v9)] S141 fun v146 S145 =>
 atI .i64 v146 0 fun v147 =>
 atB v146 1 fun v148 =>
 cond (decide ((IntKind.wrap .i64 (v147 - w1)) < (IntKind.wrap .i64 (w2 - v147)))) (
 callT call 63 [(.sl w0a w0l w0c), (.int .i64 w1), (.int .i64 v147), (.int .i64 (IntKind.wrap .i64 (w3 - 1)))] S145 fun v150 S149 =>
 l1_1_0 w0a w0l w0c (IntKind.wrap .i64 (v147 + 1)) w2 (IntKind.wrap .i64 (w3 - 1)) (decide ((IntKind.wrap .i64 (v147 - w1)) ≥ (IntKind.wrap .i64 (Int.tdiv (IntKind.wrap .i64 (w2 - w1)) 8)))) v148 S149) (
 callT call 63 [(.sl w0a w0l w0c), (.int .i64 (IntKind.wrap .i64 (v147 + 1))), (.int .i64 w2), (.int .i64 (IntKind.wrap .i64 (w3 - 1)))] S145 fun v152 S151 =>
 l1_1_0 w0a w0l w0c w1 v147 (IntKind.wrap .i64 (w3 - 1)) (decide ((IntKind.wrap .i64 (w2 - v147)) ≥ (IntKind.wrap .i64 (Int.tdiv (IntKind.wrap .i64 (w2 - w1)) 8)))) v148 S151))) (
 callT call 77 [(.sl w0a w0l w0c), (.int .i64 w1), (.int .i64 w2), (.int .i64 v9)] S7 fun v154 S153 =>
 atI .i64 v154 0 fun v155 =>
 atB v154 1 fun v156 =>
 cond (decide ((IntKind.wrap .i64 (v155 - w1)) < (IntKind.wrap .i64 (w2 - v155)))) (
 callT call 63 [(.sl w0a w0l w0c), (.int .i64 w1), (.int .i64 v155), (.int .i64 (IntKind.wrap .i64 (w3 - 1)))] S153 fun v158 S157 =>
 l1_1_0 w0a w0l w0c (IntKind.wrap .i64 (v155 + 1)) w2 (IntKind.wrap .i64 (w3 - 1)) (decide ((IntKind.wrap .i64 (v155 - w1)) ≥ (IntKind.wrap .i64 (Int.tdiv (IntKind.wrap .i64 (w2 - w1)) 8)))) v156 S157) (
 callT call 63 [(.sl w0a w0l w0c), (.int .i64 (IntKind.wrap .i64 (v155 + 1))), (.int .i64 w2), (.int .i64 (IntKind.wrap .i64 (w3 - 1)))] S153 fun v160 S159 =>
 l1_1_0 w0a w0l w0c w1 v155 (IntKind.wrap .i64 (w3 - 1)) (decide ((IntKind.wrap .i64 (w2 - v155)) ≥ (IntKind.wrap .i64 (Int.tdiv (IntKind.wrap .i64 (w2 - w1)) 8)))) v156 S159)))) (
 cond (decide (w1 > 0)) (
 ixSl 1 w0a w0l (IntKind.wrap .i64 (w1 - 1)) fun p161 =>
 ldI .i64 S7 p161.1 p161.2 fun v162 =>
 ixSl 1 w0a w0l v9 fun p163 =>
 ldI .i64 S7 p163.1 p163.2 fun v164 =>
 callB call 75 [(.int .i64 v162), (.int .i64 v164)] S7 fun v166 S165 =>
 cond (!v166) (
 callI .i64 call 76 [(.sl w0a w0l w0c), (.int .i64 w1), (.int .i64 w2), (.int .i64 v9)] S165 fun v168 S167 =>
 l1_1_0 w0a w0l w0c v168 w2 (IntKind.wrap .i64 (w3 - 1)) w8 w9 S167) (
 callT call 77 [(.sl w0a w0l w0c), (.int .i64 w1), (.int .i64 w2), (.int .i64 v9)] S165 fun v170 S169 =>
 atI .i64 v170 0 fun v171 =>
 atB v170 1 fun v172 =>
 cond (decide ((IntKind.wrap .i64 (v171 - w1)) < (IntKind.wrap .i64 (w2 - v171)))) (
 callT call 63 [(.sl w0a w0l w0c), (.int .i64 w1), (.int .i64 v171), (.int .i64 (IntKind.wrap .i64 (w3 - 1)))] S169 fun v174 S173 =>
 l1_1_0 w0a w0l w0c (IntKind.wrap .i64 (v171 + 1)) w2 (IntKind.wrap .i64 (w3 - 1)) (decide ((IntKind.wrap .i64 (v171 - w1)) ≥ (IntKind.wrap .i64 (Int.tdiv (IntKind.wrap .i64 (w2 - w1)) 8)))) v172 S173) (
 callT call 63 [(.sl w0a w0l w0c), (.int .i64 (IntKind.wrap .i64 (v171 + 1))), (.int .i64 w2), (.int .i64 (IntKind.wrap .i64 (w3 - 1)))] S169 fun v176 S175 =>
 l1_1_0 w0a w0l w0c w1 v171 (IntKind.wrap .i64 (w3 - 1)) (decide ((IntKind.wrap .i64 (w2 - v171)) ≥ (IntKind.wrap .i64 (Int.tdiv (IntKind.wrap .i64 (w2 - w1)) 8)))) v172 S175))) (
 callT call 77 [(.sl w0a w0l w0c), (.int .i64 w1), (.int .i64 w2), (.int .i64 v9)] S7 fun v178 S177 =>
 atI .i64 v178 0 fun v179 =>
 atB v178 1 fun v180 =>
 cond (decide ((IntKind.wrap .i64 (v179 - w1)) < (IntKind.wrap .i64 (w2 - v179)))) (
 callT call 63 [(.sl w0a w0l w0c), (.int .i64 w1), (.int .i64 v179), (.int .i64 (IntKind.wrap .i64 (w3 - 1)))] S177 fun v182 S181 =>
 l1_1_0 w0a w0l w0c (IntKind.wrap .i64 (v179 + 1)) w2 (IntKind.wrap .i64 (w3 - 1)) (decide ((IntKind.wrap .i64 (v179 - w1)) ≥ (IntKind.wrap .i64 (Int.tdiv (IntKind.wrap .i64 (w2 - w1)) 8)))) v180 S181) (
 callT call 63 [(.sl w0a w0l w0c), (.int .i64 (IntKind.wrap .i64 (v179 + 1))), (.int .i64 w2), (.int .i64 (IntKind.wrap .i64 (w3 - 1)))] S177 fun v184 S183 =>
 l1_1_0 w0a w0l w0c w1 v179 (IntKind.wrap .i64 (w3 - 1)) (decide ((IntKind.wrap .i64 (w2 - v179)) ≥ (IntKind.wrap .i64 (Int.tdiv (IntKind.wrap .i64 (w2 - w1)) 8)))) v180 S183)))) (
 cond (decide (w1 > 0)) (
 ixSl 1 w0a w0l (IntKind.wrap .i64 (w1 - 1)) fun p185 =>
 ldI .i64 S7 p185.1 p185.2 fun v186 =>
 ixSl 1 w0a w0l v9 fun p187 =>
 ldI .i64 S7 p187.1 p187.2 fun v188 =>
 callB call 75 [(.int .i64 v186), (.int .i64 v188)] S7 fun v190 S189 =>
 cond (!v190) (
 callI .i64 call 76 [(.sl w0a w0l w0c), (.int .i64 w1), (.int .i64 w2), (.int .i64 v9)] S189 fun v192 S191 =>
 l1_1_0 w0a w0l w0c v192 w2 (IntKind.wrap .i64 (w3 - 1)) w8 w9 S191) (
 callT call 77 [(.sl w0a w0l w0c), (.int .i64 w1), (.int .i64 w2), (.int .i64 v9)] S189 fun v194 S193 =>
 atI .i64 v194 0 fun v195 =>
 atB v194 1 fun v196 =>
 cond (decide ((IntKind.wrap .i64 (v195 - w1)) < (IntKind.wrap .i64 (w2 - v195)))) (
 callT call 63 [(.sl w0a w0l w0c), (.int .i64 w1), (.int .i64 v195), (.int .i64 (IntKind.wrap .i64 (w3 - 1)))] S193 fun v198 S197 =>
 l1_1_0 w0a w0l w0c (IntKind.wrap .i64 (v195 + 1)) w2 (IntKind.wrap .i64 (w3 - 1)) (decide ((IntKind.wrap .i64 (v195 - w1)) ≥ (IntKind.wrap .i64 (Int.tdiv (IntKind.wrap .i64 (w2 - w1)) 8)))) v196 S197) (
 callT call 63 [(.sl w0a w0l w0c), (.int .i64 (IntKind.wrap .i64 (v195 + 1))), (.int .i64 w2), (.int .i64 (IntKind.wrap .i64 (w3 - 1)))] S193 fun v200 S199 =>
 l1_1_0 w0a w0l w0c w1 v195 (IntKind.wrap .i64 (w3 - 1)) (decide ((IntKind.wrap .i64 (w2 - v195)) ≥ (IntKind.wrap .i64 (Int.tdiv (IntKind.wrap .i64 (w2 - w1)) 8)))) v196 S199))) (
 callT call 77 [(.sl w0a w0l w0c), (.int .i64 w1), (.int .i64 w2), (.int .i64 v9)] S7 fun v202 S201 =>
 atI .i64 v202 0 fun v203 =>
 atB v202 1 fun v204 =>
 cond (decide ((IntKind.wrap .i64 (v203 - w1)) < (IntKind.wrap .i64 (w2 - v203)))) (
 callT call 63 [(.sl w0a w0l w0c), (.int .i64 w1), (.int .i64 v203), (.int .i64 (IntKind.wrap .i64 (w3 - 1)))] S201 fun v206 S205 =>
 l1_1_0 w0a w0l w0c (IntKind.wrap .i64 (v203 + 1)) w2 (IntKind.wrap .i64 (w3 - 1)) (decide ((IntKind.wrap .i64 (v203 - w1)) ≥ (IntKind.wrap .i64 (Int.tdiv (IntKind.wrap .i64 (w2 - w1)) 8)))) v204 S205) (
 callT call 63 [(.sl w0a w0l w0c), (.int .i64 (IntKind.wrap .i64 (v203 + 1))), (.int .i64 w2), (.int .i64 (IntKind.wrap .i64 (w3 - 1)))] S201 fun v208 S207 =>
 l1_1_0 w0a w0l w0c w1 v203 (IntKind.wrap .i64 (w3 - 1)) (decide ((IntKind.wrap .i64 (w2 - v203)) ≥ (IntKind.wrap .i64 (Int.tdiv (IntKind.wrap .i64 (w2 - w1)) 8)))) v204 S207))))) (
 callT call 72 [(.sl w0a w0l w0c), (.int .i64 w1), (.int .i64 w2)] S fun v210 S209 =>
 atI .i64 v210 0 fun v211 =>
 atI .i64 v210 1 fun v212 =>
 cond (v212 == 2) (
 callT call 73 [(.sl w0a w0l w0c), (.int .i64 w1), (.int .i64 w2)] S209 fun v214 S213 =>
 cond w8 (
 cond w9 (
 cond (1 == 1) (
 callB call 74 [(.sl w0a w0l w0c), (.int .i64 w1), (.int .i64 w2)] S213 fun v216 S215 =>
 cond v216 (
 some (.tup [], S215)) (
 cond (decide (w1 > 0)) (
 ixSl 1 w0a w0l (IntKind.wrap .i64 (w1 - 1)) fun p217 =>
 ldI .i64 S215 p217.1 p217.2 fun v218 =>
 ixSl 1 w0a w0l (IntKind.wrap .i64 ((IntKind.wrap .i64 (w2 - 1)) - (IntKind.wrap .i64 (v211 - w1)))) fun p219 =>
 ldI .i64 S215 p219.1 p219.2 fun v220 =>
 callB call 75 [(.int .i64 v218), (.int .i64 v220)] S215 fun v222 S221 =>
 cond (!v222) (
 callI .i64 call 76 [(.sl w0a w0l w0c), (.int .i64 w1), (.int .i64 w2), (.int .i64 (IntKind.wrap .i64 ((IntKind.wrap .i64 (w2 - 1)) - (IntKind.wrap .i64 (v211 - w1)))))] S221 fun v224 S223 =>
 l1_1_0 w0a w0l w0c v224 w2 w3 w8 w9 S223) (
 callT call 77 [(.sl w0a w0l w0c), (.int .i64 w1), (.int .i64 w2), (.int .i64 (IntKind.wrap .i64 ((IntKind.wrap .i64 (w2 - 1)) - (IntKind.wrap .i64 (v211 - w1)))))] S221 fun v226 S225 =>
 atI .i64 v226 0 fun v227 =>
 atB v226 1 fun v228 =>
 cond (decide ((IntKind.wrap .i64 (v227 - w1)) < (IntKind.wrap .i64 (w2 - v227)))) (
 callT call 63 [(.sl w0a w0l w0c), (.int .i64 w1), (.int .i64 v227), (.int .i64 w3)] S225 fun v230 S229 =>
 l1_1_0 w0a w0l w0c (IntKind.wrap .i64 (v227 + 1)) w2 w3 (decide ((IntKind.wrap .i64 (v227 - w1)) ≥ (IntKind.wrap .i64 (Int.tdiv (IntKind.wrap .i64 (w2 - w1)) 8)))) v228 S229) (
 callT call 63 [(.sl w0a w0l w0c), (.int .i64 (IntKind.wrap .i64 (v227 + 1))), (.int .i64 w2), (.int .i64 w3)] S225 fun v232 S231 =>
 l1_1_0 w0a w0l w0c w1 v227 w3 (decide ((IntKind.wrap .i64 (w2 - v227)) ≥ (IntKind.wrap .i64 (Int.tdiv (IntKind.wrap .i64 (w2 - w1)) 8)))) v228 S231))) (
 callT call 77 [(.sl w0a w0l w0c), (.int .i64 w1), (.int .i64 w2), (.int .i64 (IntKind.wrap .i64 ((IntKind.wrap .i64 (w2 - 1)) - (IntKind.wrap .i64 (v211 - w1)))))] S215 fun v234 S233 =>
 atI .i64 v234 0 fun v235 =>
 atB v234 1 fun v236 =>
 cond (decide ((IntKind.wrap .i64 (v235 - w1)) < (IntKind.wrap .i64 (w2 - v235)))) (
 callT call 63 [(.sl w0a w0l w0c), (.int .i64 w1), (.int .i64 v235), (.int .i64 w3)] S233 fun v238 S237 =>
 l1_1_0 w0a w0l w0c (IntKind.wrap .i64 (v235 + 1)) w2 w3 (decide ((IntKind.wrap .i64 (v235 - w1)) ≥ (IntKind.wrap .i64 (Int.tdiv (IntKind.wrap .i64 (w2 - w1)) 8)))) v236 S237) (
 callT call 63 [(.sl w0a w0l w0c), (.int .i64 (IntKind.wrap .i64 (v235 + 1))), (.int .i64 w2), (.int .i64 w3)] S233 fun v240 S239 =>
 l1_1_0 w0a w0l w0c w1 v235 w3 (decide ((IntKind.wrap .i64 (w2 - v235)) ≥ (IntKind.wrap .i64 (Int.tdiv (IntKind.wrap .i64 (w2 - w1)) 8)))) v236 S239)))) (
 cond (decide (w1 > 0)) (
 ixSl 1 w0a w0l (IntKind.wrap .i64 (w1 - 1)) fun p241 =>
 ldI .i64 S213 p241.1 p241.2 fun v242 =>
 ixSl 1 w0a w0l (IntKind.wrap .i64 ((IntKind.wrap .i64 (w2 - 1)) - (IntKind.wrap .i64 (v211 - w1)))) fun p243 =>
 ldI .i64 S213 p243.1 p243.2 fun v244 =>
 callB call 75 [(.int .i64 v242), (.int .i64 v244)] S213 fun v246 S245 =>
 cond (!v246) (
 callI .i64 call 76 [(.sl w0a w0l w0c), (.int .i64 w1), (.int .i64 w2), (.int .i64 (IntKind.wrap .i64 ((IntKind.wrap .i64 (w2 - 1)) - (IntKind.wrap .i64 (v211 - w1)))))] S245 fun v248 S247 =>
 l1_1_0 w0a w0l w0c v248 w2 w3 w8 w9 S247) (
 callT call 77 [(.sl w0a w0l w0c), (.int .i64 w1), (.int .i64 w2), (.int .i64 (IntKind.wrap .i64 ((IntKind.wrap .i64 (w2 - 1)) - (IntKind.wrap .i64 (v211 - w1)))))] S245 fun v250 S249 =>
 atI .i64 v250 0 fun v251 =>
 atB v250 1 fun v252 =>
 cond (decide ((IntKind.wrap .i64 (v251 - w1)) < (IntKind.wrap .i64 (w2 - v251)))) (
 callT call 63 [(.sl w0a w0l w0c), (.int .i64 w1), (.int .i64 v251), (.int .i64 w3)] S249 fun v254 S253 =>
 l1_1_0 w0a w0l w0c (IntKind.wrap .i64 (v251 + 1)) w2 w3 (decide ((IntKind.wrap .i64 (v251 - w1)) ≥ (IntKind.wrap .i64 (Int.tdiv (IntKind.wrap .i64 (w2 - w1)) 8)))) v252 S253) (
 callT call 63 [(.sl w0a w0l w0c), (.int .i64 (IntKind.wrap .i64 (v251 + 1))), (.int .i64 w2), (.int .i64 w3)] S249 fun v256 S255 =>
 l1_1_0 w0a w0l w0c w1 v251 w3 (decide ((IntKind.wrap .i64 (w2 - v251)) ≥ (IntKind.wrap .i64 (Int.tdiv (IntKind.wrap .i64 (w2 - w1)) 8)))) v252 S255))) (
 callT call 77 [(.sl w0a w0l w0c), (.int .i64 w1), (.int .i64 w2), (.int .i64 (IntKind.wrap .i64 ((IntKind.wrap .i64 (w2 - 1)) - (IntKind.wrap .i64 (v211 - w1)))))] S213 fun v258 S257 =>
 atI .i64 v258 0 fun v259 =>
 atB v258 1 fun v260 =>
 cond (decide ((IntKind.wrap .i64 (v259 - w1)) < (IntKind.wrap .i64 (w2 - v259)))) (
 callT call 63 [(.sl w0a w0l w0c), (.int .i64 w1), (.int .i64 v259), (.int .i64 w3)] S257 fun v262 S261 =>
 l1_1_0 w0a w0l w0c (IntKind.wrap .i64 (v259 + 1)) w2 w3 (decide ((IntKind.wrap .i64 (v259 - w1)) ≥ (IntKind.wrap .i64 (Int.tdiv (IntKind.wrap .i64 (w2 - w1)) 8)))) v260 S261) (
 callT call 63 [(.sl w0a w0l w0c), (.int .i64 (IntKind.wrap .i64 (v259 + 1))), (.int .i64 w2), (.int .i64 w3)] S257 fun v264 S263 =>
 l1_1_0 w0a w0l w0c w1 v259 w3 (decide ((IntKind.wrap .i64 (w2 - v259)) ≥ (IntKind.wrap .i64 (Int.tdiv (IntKind.wrap .i64 (w2 - w1)) 8)))) v260 S263)))) (
 cond (decide (w1 > 0)) (
 ixSl 1 w0a w0l (IntKind.wrap .i64 (w1 - 1)) fun p265 =>
 ldI .i64 S213 p265.1 p265.2 fun v266 =>
 ixSl 1 w0a w0l (IntKind.wrap .i64 ((IntKind.wrap .i64 (w2 - 1)) - (IntKind.wrap .i64 (v211 - w1)))) fun p267 =>
 ldI .i64 S213 p267.1 p267.2 fun v268 =>
 callB call 75 [(.int .i64 v266), (.int .i64 v268)] S213 fun v270 S269 =>
 cond (!v270) (
 callI .i64 call 76 [(.sl w0a w0l w0c), (.int .i64 w1), (.int .i64 w2), (.int .i64 (IntKind.wrap .i64 ((IntKind.wrap .i64 (w2 - 1)) - (IntKind.wrap .i64 (v211 - w1)))))] S269 fun v272 S271 =>
 l1_1_0 w0a w0l w0c v272 w2 w3 w8 w9 S271) (
 callT call 77 [(.sl w0a w0l w0c), (.int .i64 w1), (.int .i64 w2), (.int .i64 (IntKind.wrap .i64 ((IntKind.wrap .i64 (w2 - 1)) - (IntKind.wrap .i64 (v211 - w1)))))] S269 fun v274 S273 =>
 atI .i64 v274 0 fun v275 =>
 atB v274 1 fun v276 =>
 cond (decide ((IntKind.wrap .i64 (v275 - w1)) < (IntKind.wrap .i64 (w2 - v275)))) (
 callT call 63 [(.sl w0a w0l w0c), (.int .i64 w1), (.int .i64 v275), (.int .i64 w3)] S273 fun v278 S277 =>
 l1_1_0 w0a w0l w0c (IntKind.wrap .i64 (v275 + 1)) w2 w3 (decide ((IntKind.wrap .i64 (v275 - w1)) ≥ (IntKind.wrap .i64 (Int.tdiv (IntKind.wrap .i64 (w2 - w1)) 8)))) v276 S277) (
 callT call 63 [(.sl w0a w0l w0c), (.int .i64 (IntKind.wrap .i64 (v275 + 1))), (.int .i64 w2), (.int .i64 w3)] S273 fun v280 S279 =>
 l1_1_0 w0a w0l w0c w1 v275 w3 (decide ((IntKind.wrap .i64 (w2 - v275)) ≥ (IntKind.wrap .i64 (Int.tdiv (IntKind.wrap .i64 (w2 - w1)) 8)))) v276 S279))) (
 callT call 77 [(.sl w0a w0l w0c), (.int .i64 w1), (.int .i64 w2), (.int .i64 (IntKind.wrap .i64 ((IntKind.wrap .i64 (w2 - 1)) - (IntKind.wrap .i64 (v211 - w1)))))] S213 fun v282 S281 =>
 atI .i64 v282 0 fun v283 =>
 atB v282 1 fun v284 =>
 cond (decide ((IntKind.wrap .i64 (v283 - w1)) < (IntKind.wrap .i64 (w2 - v283)))) (
 callT call 63 [(.sl w0a w0l w0c), (.int .i64 w1), (.int .i64 v283), (.int .i64 w3)] S281 fun v286 S285 =>
 l1_1_0 w0a w0l w0c (IntKind.wrap .i64 (v283 + 1)) w2 w3 (decide ((IntKind.wrap .i64 (v283 - w1)) ≥ (IntKind.wrap .i64 (Int.tdiv (IntKind.wrap .i64 (w2 - w1)) 8)))) v284 S285) (
 callT call 63 [(.sl w0a w0l w0c), (.int .i64 (IntKind.wrap .i64 (v283 + 1))), (.int .i64 w2), (.int .i64 w3)] S281 fun v288 S287 =>
 l1_1_0 w0a w0l w0c w1 v283 w3 (decide ((IntKind.wrap .i64 (w2 - v283)) ≥ (IntKind.wrap .i64 (Int.tdiv (IntKind.wrap .i64 (w2 - w1)) 8)))) v284 S287)))) (
 cond (decide (w1 > 0)) (
 ixSl 1 w0a w0l (IntKind.wrap .i64 (w1 - 1)) fun p289 =>
 ldI .i64 S213 p289.1 p289.2 fun v290 =>
 ixSl 1 w0a w0l (IntKind.wrap .i64 ((IntKind.wrap .i64 (w2 - 1)) - (IntKind.wrap .i64 (v211 - w1)))) fun p291 =>
 ldI .i64 S213 p291.1 p291.2 fun v292 =>
 callB call 75 [(.int .i64 v290), (.int .i64 v292)] S213 fun v294 S293 =>
 cond (!v294) (
 callI .i64 call 76 [(.sl w0a w0l w0c), (.int .i64 w1), (.int .i64 w2), (.int .i64 (IntKind.wrap .i64 ((IntKind.wrap .i64 (w2 - 1)) - (IntKind.wrap .i64 (v211 - w1)))))] S293 fun v296 S295 =>
 l1_1_0 w0a w0l w0c v296 w2 w3 w8 w9 S295) (
 callT call 77 [(.sl w0a w0l w0c), (.int .i64 w1), (.int .i64 w2), (.int .i64 (IntKind.wrap .i64 ((IntKind.wrap .i64 (w2 - 1)) - (IntKind.wrap .i64 (v211 - w1)))))] S293 fun v298 S297 =>
 atI .i64 v298 0 fun v299 =>
 atB v298 1 fun v300 =>
 cond (decide ((IntKind.wrap .i64 (v299 - w1)) < (IntKind.wrap .i64 (w2 - v299)))) (
 callT call 63 [(.sl w0a w0l w0c), (.int .i64 w1), (.int .i64 v299), (.int .i64 w3)] S297 fun v302 S301 =>
 l1_1_0 w0a w0l w0c (IntKind.wrap .i64 (v299 + 1)) w2 w3 (decide ((IntKind.wrap .i64 (v299 - w1)) ≥ (IntKind.wrap .i64 (Int.tdiv (IntKind.wrap .i64 (w2 - w1)) 8)))) v300 S301) (
 callT call 63 [(.sl w0a w0l w0c), (.int .i64 (IntKind.wrap .i64 (v299 + 1))), (.int .i64 w2), (.int .i64 w3)] S297 fun v304 S303 =>
 l1_1_0 w0a w0l w0c w1 v299 w3 (decide ((IntKind.wrap .i64 (w2 - v299)) ≥ (IntKind.wrap .i64 (Int.tdiv (IntKind.wrap .i64 (w2 - w1)) 8)))) v300 S303))) (
 callT call 77 [(.sl w0a w0l w0c), (.int .i64 w1), (.int .i64 w2), (.int .i64 (IntKind.wrap .i64 ((IntKind.wrap .i64 (w2 - 1)) - (IntKind.wrap .i64 (v211 - w1)))))] S213 fun v306 S305 =>
 atI .i64 v306 0 fun v307 =>
 atB v306 1 fun v308 =>
 cond (decide ((IntKind.wrap .i64 (v307 - w1)) < (IntKind.wrap .i64 (w2 - v307)))) (
 callT call 63 [(.sl w0a w0l w0c), (.int .i64 w1), (.int .i64 v307), (.int .i64 w3)] S305 fun v310 S309 =>
 l1_1_0 w0a w0l w0c (IntKind.wrap .i64 (v307 + 1)) w2 w3 (decide ((IntKind.wrap .i64 (v307 - w1)) ≥ (IntKind.wrap .i64 (Int.tdiv (IntKind.wrap .i64 (w2 - w1)) 8)))) v308 S309) (
 callT call 63 [(.sl w0a w0l w0c), (.int .i64 (IntKind.wrap .i64 (v307 + 1))), (.int .i64 w2), (.int .i64 w3)] S305 fun v312 S311 =>
 l1_1_0 w0a w0l w0c w1 v307 w3 (decide ((IntKind.wrap .i64 (w2 - v307)) ≥ (IntKind.wrap .i64 (Int.tdiv (IntKind.wrap .i64 (w2 - w1)) 8)))) v308 S311)))) (
 cond w8 (
 cond w9 (
 cond (v212 == 1) (
 callB call 74 [(.sl w0a w0l w0c), (.int .i64 w1), (.int .i64 w2)] S209 fun v314 S313 =>
 cond v314 (
 some (.tup [], S313)) (
 cond (decide (w1 > 0)) (
 ixSl 1 w0a w0l (IntKind.wrap .i64 (w1 - 1)) fun p315 =>
 ldI .i64 S313 p315.1 p315.2 fun v316 =>
 ixSl 1 w0a w0l v211 fun p317 =>
 ldI .i64 S313 p317.1 p317.2 fun v318 =>
 callB call 75 [(.int .i64 v316), (.int .i64 v318)] S313 fun v320 S319 =>
 cond (!v320) (
 callI .i64 call 76 [(.sl w0a w0l w0c), (.int .i64 w1), (.int .i64 w2), (.int .i64 v211)] S319 fun v322 S321 =>
 l1_1_0 w0a w0l w0c v322 w2 w3 w8 w9 S321) (
 callT call 77 [(.sl w0a w0l w0c), (.int .i64 w1), (.int .i64 w2), (.int .i64 v211)] S319 fun v324 S323 =>
 atI .i64 v324 0 fun v325 =>
 atB v324 1 fun v326 =>
 cond (decide ((IntKind.wrap .i64 (v325 - w1)) < (IntKind.wrap .i64 (w2 - v325)))) (
 callT call 63 [(.sl w0a w0l w0c), (.int .i64 w1), (.int .i64 v325), (.int .i64 w3)] S323 fun v328 S327 =>
 l1_1_0 w0a w0l w0c (IntKind.wrap .i64 (v325 + 1)) w2 w3 (decide ((IntKind.wrap .i64 (v325 - w1)) ≥ (IntKind.wrap .i64 (Int.tdiv (IntKind.wrap .i64 (w2 - w1)) 8)))) v326 S327) (
 callT call 63 [(.sl w0a w0l w0c), (.int .i64 (IntKind.wrap .i64 (v325 + 1))), (.int .i64 w2), (.int .i64 w3)] S323 fun v330 S329 =>
 l1_1_0 w0a w0l w0c w1 v325 w3 (decide ((IntKind.wrap .i64 (w2 - v325)) ≥ (IntKind.wrap .i64 (Int.tdiv (IntKind.wrap .i64 (w2 - w1)) 8)))) v326 S329))) (
 callT call 77 [(.sl w0a w0l w0c), (.int .i64 w1), (.int .i64 w2), (.int .i64 v211)] S313 fun v332 S331 =>
 atI .i64 v332 0 fun v333 =>
 atB v332 1 fun v334 =>
 cond (decide ((IntKind.wrap .i64 (v333 - w1)) < (IntKind.wrap .i64 (w2 - v333)))) (
 callT call 63 [(.sl w0a w0l w0c), (.int .i64 w1), (.int .i64 v333), (.int .i64 w3)] S331 fun v336 S335 =>
 l1_1_0 w0a w0l w0c (IntKind.wrap .i64 (v333 + 1)) w2 w3 (decide ((IntKind.wrap .i64 (v333 - w1)) ≥ (IntKind.wrap .i64 (Int.tdiv (IntKind.wrap .i64 (w2 - w1)) 8)))) v334 S335) (
 callT call 63 [(.sl w0a w0l w0c), (.int .i64 (IntKind.wrap .i64 (v333 + 1))), (.int .i64 w2), (.int .i64 w3)] S331 fun v338 S337 =>
 l1_1_0 w0a w0l w0c w1 v333 w3 (decide ((IntKind.wrap .i64 (w2 - v333)) ≥ (IntKind.wrap .i64 (Int.tdiv (IntKind.wrap .i64 (w2 - w1)) 8)))) v334 S337)))) (
 cond (decide (w1 > 0)) (
 ixSl 1 w0a w0l (IntKind.wrap .i64 (w1 - 1)) fun p339 =>
 ldI .i64 S209 p339.1 p339.2 fun v340 =>
 ixSl 1 w0a w0l v211 fun p341 =>
 ldI .i64 S209 p341.1 p341.2 fun v342 =>
 callB call 75 [(.int .i64 v340), (.int .i64 v342)] S209 fun v344 S343 =>
 cond (!v344) (
 callI .i64 call 76 [(.sl w0a w0l w0c), (.int .i64 w1), (.int .i64 w2), (.int .i64 v211)] S343 fun v346 S345 =>
 l1_1_0 w0a w0l w0c v346 w2 w3 w8 w9 S345) (
 callT call 77 [(.sl w0a w0l w0c), (.int .i64 w1), (.int .i64 w2), (.int .i64 v211)] S343 fun v348 S347 =>
 atI .i64 v348 0 fun v349 =>
 atB v348 1 fun v350 =>
 cond (decide ((IntKind.wrap .i64 (v349 - w1)) < (IntKind.wrap .i64 (w2 - v349)))) (
 callT call 63 [(.sl w0a w0l w0c), (.int .i64 w1), (.int .i64 v349), (.int .i64 w3)] S347 fun v352 S351 =>
 l1_1_0 w0a w0l w0c (IntKind.wrap .i64 (v349 + 1)) w2 w3 (decide ((IntKind.wrap .i64 (v349 - w1)) ≥ (IntKind.wrap .i64 (Int.tdiv (IntKind.wrap .i64 (w2 - w1)) 8)))) v350 S351) (
 callT call 63 [(.sl w0a w0l w0c), (.int .i64 (IntKind.wrap .i64 (v349 + 1))), (.int .i64 w2), (.int .i64 w3)] S347 fun v354 S353 =>
 l1_1_0 w0a w0l w0c w1 v349 w3 (decide ((IntKind.wrap .i64 (w2 - v349)) ≥ (IntKind.wrap .i64 (Int.tdiv (IntKind.wrap .i64 (w2 - w1)) 8)))) v350 S353))) (
 callT call 77 [(.sl w0a w0l w0c), (.int .i64 w1), (.int .i64 w2), (.int .i64 v211)] S209 fun v356 S355 =>
 atI .i64 v356 0 fun v357 =>
 atB v356 1 fun v358 =>
 cond (decide ((IntKind.wrap .i64 (v357 - w1)) < (IntKind.wrap .i64 (w2 - v357)))) (
 callT call 63 [(.sl w0a w0l w0c), (.int .i64 w1), (.int .i64 v357), (.int .i64 w3)] S355 fun v360 S359 =>
 l1_1_0 w0a w0l w0c (IntKind.wrap .i64 (v357 + 1)) w2 w3 (decide ((IntKind.wrap .i64 (v357 - w1)) ≥ (IntKind.wrap .i64 (Int.tdiv (IntKind.wrap .i64 (w2 - w1)) 8)))) v358 S359) (
 callT call 63 [(.sl w0a w0l w0c), (.int .i64 (IntKind.wrap .i64 (v357 + 1))), (.int .i64 w2), (.int .i64 w3)] S355 fun v362 S361 =>
 l1_1_0 w0a w0l w0c w1 v357 w3 (decide ((IntKind.wrap .i64 (w2 - v357)) ≥ (IntKind.wrap .i64 (Int.tdiv (IntKind.wrap .i64 (w2 - w1)) 8)))) v358 S361)))) (
 cond (decide (w1 > 0)) (
 ixSl 1 w0a w0l (IntKind.wrap .i64 (w1 - 1)) fun p363 =>
 ldI .i64 S209 p363.1 p363.2 fun v364 =>
 ixSl 1 w0a w0l v211 fun p365 =>
 ldI .i64 S209 p365.1 p365.2 fun v366 =>
 callB call 75 [(.int .i64 v364), (.int .i64 v366)] S209 fun v368 S367 =>
 cond (!v368) (
 callI .i64 call 76 [(.sl w0a w0l w0c), (.int .i64 w1), (.int .i64 w2), (.int .i64 v211)] S367 fun v370 S369 =>
 l1_1_0 w0a w0l w0c v370 w2 w3 w8 w9 S369) (
 callT call 77 [(.sl w0a w0l w0c), (.int .i64 w1), (.int .i64 w2), (.int .i64 v211)] S367 fun v372 S371 =>
 atI .i64 v372 0 fun v373 =>
 atB v372 1 fun v374 =>
 cond (decide ((IntKind.wrap .i64 (v373 - w1)) < (IntKind.wrap .i64 (w2 - v373)))) (
 callT call 63 [(.sl w0a w0l w0c), (.int .i64 w1), (.int .i64 v373), (.int .i64 w3)] S371 fun v376 S375 =>
 l1_1_0 w0a w0l w0c (IntKind.wrap .i64 (v373 + 1)) w2 w3 (decide ((IntKind.wrap .i64 (v373 - w1)) ≥ (IntKind.wrap .i64 (Int.tdiv (IntKind.wrap .i64 (w2 - w1)) 8)))) v374 S375) (
 callT call 63 [(.sl w0a w0l w0c), (.int .i64 (IntKind.wrap .i64 (v373 + 1))), (.int .i64 w2), (.int .i64 w3)] S371 fun v378 S377 =>
 l1_1_0 w0a w0l w0c w1 v373 w3 (decide ((IntKind.wrap .i64 (w2 - v373)) ≥ (IntKind.wrap .i64 (Int.tdiv (IntKind.wrap .i64 (w2 - w1)) 8)))) v374 S377))) (
 callT call 77 [(.sl w0a w0l w0c), (.int .i64 w1), (.int .i64 w2), (.int .i64 v211)] S209 fun v380 S379 =>
 atI .i64 v380 0 fun v381 =>
 atB v380 1 fun v382 =>
 cond (decide ((IntKind.wrap .i64 (v381 - w1)) < (IntKind.wrap .i64 (w2 - v381)))) (
 callT call 63 [(.sl w0a w0l w0c), (.int .i64 w1), (.int .i64 v381), (.int .i64 w3)] S379 fun v384 S383 =>
 l1_1_0 w0a w0l w0c (IntKind.wrap .i64 (v381 + 1)) w2 w3 (decide ((IntKind.wrap .i64 (v381 - w1)) ≥ (IntKind.wrap .i64 (Int.tdiv (IntKind.wrap .i64 (w2 - w1)) 8)))) v382 S383) (
 callT call 63 [(.sl w0a w0l w0c), (.int .i64 (IntKind.wrap .i64 (v381 + 1))), (.int .i64 w2), (.int .i64 w3)] S379 fun v386 S385 =>
 l1_1_0 w0a w0l w0c w1 v381 w3 (decide ((IntKind.wrap .i64 (w2 - v381)) ≥ (IntKind.wrap .i64 (Int.tdiv (IntKind.wrap .i64 (w2 - w1)) 8)))) v382 S385)))) (
 cond (decide (w1 > 0)) (
 ixSl 1 w0a w0l (IntKind.wrap .i64 (w1 - 1)) fun p387 =>
 ldI .i64 S209 p387.1 p387.2 fun v388 =>
 ixSl 1 w0a w0l v211 fun p389 =>
 ldI .i64 S209 p389.1 p389.2 fun v390 =>
 callB call 75 [(.int .i64 v388), (.int .i64 v390)] S209 fun v392 S391 =>
 cond (!v392) (
 callI .i64 call 76 [(.sl w0a w0l w0c), (.int .i64 w1), (.int .i64 w2), (.int .i64 v211)] S391 fun v394 S393 =>
 l1_1_0 w0a w0l w0c v394 w2 w3 w8 w9 S393) (
 callT call 77 [(.sl w0a w0l w0c), (.int .i64 w1), (.int .i64 w2), (.int .i64 v211)] S391 fun v396 S395 =>
 atI .i64 v396 0 fun v397 =>
 atB v396 1 fun v398 =>
 cond (decide ((IntKind.wrap .i64 (v397 - w1)) < (IntKind.wrap .i64 (w2 - v397)))) (
 callT call 63 [(.sl w0a w0l w0c), (.int .i64 w1), (.int .i64 v397), (.int .i64 w3)] S395 fun v400 S399 =>
 l1_1_0 w0a w0l w0c (IntKind.wrap .i64 (v397 + 1)) w2 w3 (decide ((IntKind.wrap .i64 (v397 - w1)) ≥ (IntKind.wrap .i64 (Int.tdiv (IntKind.wrap .i64 (w2 - w1)) 8)))) v398 S399) (
 callT call 63 [(.sl w0a w0l w0c), (.int .i64 (IntKind.wrap .i64 (v397 + 1))), (.int .i64 w2), (.int .i64 w3)] S395 fun v402 S401 =>
 l1_1_0 w0a w0l w0c w1 v397 w3 (decide ((IntKind.wrap .i64 (w2 - v397)) ≥ (IntKind.wrap .i64 (Int.tdiv (IntKind.wrap .i64 (w2 - w1)) 8)))) v398 S401))) (
 callT call 77 [(.sl w0a w0l w0c), (.int .i64 w1), (.int .i64 w2), (.int .i64 v211)] S209 fun v404 S403 =>
 atI .i64 v404 0 fun v405 =>
 atB v404 1 fun v406 =>
 cond (decide ((IntKind.wrap .i64 (v405 - w1)) < (IntKind.wrap .i64 (w2 - v405)))) (
 callT call 63 [(.sl w0a w0l w0c), (.int .i64 w1), (.int .i64 v405), (.int .i64 w3)] S403 fun v408 S407 =>
 l1_1_0 w0a w0l w0c (IntKind.wrap .i64 (v405 + 1)) w2 w3 (decide ((IntKind.wrap .i64 (v405 - w1)) ≥ (IntKind.wrap .i64 (Int.tdiv (IntKind.wrap .i64 (w2 - w1)) 8)))) v406 S407) (
 callT call 63 [(.sl w0a w0l w0c), (.int .i64 (IntKind.wrap .i64 (v405 + 1))), (.int .i64 w2), (.int .i64 w3)] S403 fun v410 S409 =>
 l1_1_0 w0a w0l w0c w1 v405 w3 (decide ((IntKind.wrap .i64 (w2 - v405)) ≥ (IntKind.wrap .i64 (Int.tdiv (IntKind.wrap .i64 (w2 - w1)) 8)))) v406 S409)))))))

def b63_entry (call : CallA) (n : Nat) (l1_1_0 : Option Pos → Nat → Cap → Int → Int → Int → Bool → Bool → AS → Option (AV × AS)) (x0a : Option Pos) (x0l : Nat) (x0c : Cap) (x1 : Int) (x2 : Int) (x3 : Int) (S : AS) : Option (AV × AS) :=
 l1_1_0 x0a x0l x0c x1 x2 x3 true true S

def r63_l1_1_0 (call : CallA) (n : Nat)  (m : Nat) (w0a : Option Pos) (w0l : Nat) (w0c : Cap) (w1 : Int) (w2 : Int) (w3 : Int) (w8 : Bool) (w9 : Bool) (S : AS) : Option (AV × AS) := loopN (evC E call n 63 (E.at 63 [1, 1, 0, 0]) 0) [0, 1, 2, 3, 8, 9] m [(0, (.sl w0a w0l w0c)), (1, (.int .i64 w1)), (2, (.int .i64 w2)), (3, (.int .i64 w3)), (8, (.bool w8)), (9, (.bool w9))] S (kBlk 0 (retK E (E.fn 63)))
theorem a63_l1_1_0 (call : CallA) (n : Nat)  (m : Nat) (w0a : Option Pos) (w0l : Nat) (w0c : Cap) (w1 : Int) (w2 : Int) (w3 : Int) (w8 : Bool) (w9 : Bool) (S : AS) : r63_l1_1_0 call n  (m + 1) w0a w0l w0c w1 w2 w3 w8 w9 S = b63_l1_1_0 call n (r63_l1_1_0 call n  m) w0a w0l w0c w1 w2 w3 w8 w9 S := by kernel_rfl
theorem a63_entry (call : CallA) (n : Nat) (x0a : Option Pos) (x0l : Nat) (x0c : Cap) (x1 : Int) (x2 : Int) (x3 : Int) (S : AS) : evC E call n 63 (E.at 63 []) 0 (enumT 0 [(.sl x0a x0l x0c), (.int .i64 x1), (.int .i64 x2), (.int .i64 x3)]) S (retK E (E.fn 63)) = b63_entry call n (r63_l1_1_0 call n  n) x0a x0l x0c x1 x2 x3 S := by kernel_rfl
def J63_l1_1_0 (call : CallA) (n : Nat)  (m : Nat) : Option Pos → Nat → Cap → Int → Int → Int → Bool → Bool → AS → Option (AV × AS) := Nat.rec (motive := fun _ => Option Pos → Nat → Cap → Int → Int → Int → Bool → Bool → AS → Option (AV × AS)) (fun _ _ _ _ _ _ _ _ _ => none) (fun _ ih w0a w0l w0c w1 w2 w3 w8 w9 S => b63_l1_1_0 call n ih w0a w0l w0c w1 w2 w3 w8 w9 S) m
theorem J63_l1_1_0_succ (call : CallA) (n : Nat)  (m : Nat) (w0a : Option Pos) (w0l : Nat) (w0c : Cap) (w1 : Int) (w2 : Int) (w3 : Int) (w8 : Bool) (w9 : Bool) (S : AS) : J63_l1_1_0 call n  (m + 1) w0a w0l w0c w1 w2 w3 w8 w9 S = b63_l1_1_0 call n (J63_l1_1_0 call n  m) w0a w0l w0c w1 w2 w3 w8 w9 S := rfl
theorem h63_l1_1_0 (call : CallA) (n : Nat)  (m : Nat) : r63_l1_1_0 call n  m = J63_l1_1_0 call n  m := by
  induction m with
  | zero => rfl
  | succ m ih =>
    funext w0a w0l w0c w1 w2 w3 w8 w9 S
    rw [J63_l1_1_0_succ, a63_l1_1_0, ih]
def J63 (call : CallA) (n : Nat) (x0a : Option Pos) (x0l : Nat) (x0c : Cap) (x1 : Int) (x2 : Int) (x3 : Int) (S : AS) : Option (AV × AS) := b63_entry call n (J63_l1_1_0 call n  n) x0a x0l x0c x1 x2 x3 S
theorem run63 (o : Orc) (n : Nat) (args : List AV) (S : AS) (ho : o 63 args = none) : evF E o (n + 1) (.fn 63) args S = evC E (evF E o n) n 63 (E.at 63 []) 0 (enumT 0 args) S (retK E (E.fn 63)) := by
  rw [evF, ho]; kernel_rfl
theorem J63_eq (call : CallA) (n : Nat) (x0a : Option Pos) (x0l : Nat) (x0c : Cap) (x1 : Int) (x2 : Int) (x3 : Int) (S : AS) : evC E call n 63 (E.at 63 []) 0 (enumT 0 [(.sl x0a x0l x0c), (.int .i64 x1), (.int .i64 x2), (.int .i64 x3)]) S (retK E (E.fn 63)) = J63 call n x0a x0l x0c x1 x2 x3 S := by
  rw [J63, a63_entry, h63_l1_1_0 call n  n]
theorem F63 {o : Orc} (n : Nat) (x0a : Option Pos) (x0l : Nat) (x0c : Cap) (x1 : Int) (x2 : Int) (x3 : Int) (S : AS) (ho : ∀ args, o 63 args = none) : evF E o (n + 1) (.fn 63) [(.sl x0a x0l x0c), (.int .i64 x1), (.int .i64 x2), (.int .i64 x3)] S = J63 (evF E o n) n x0a x0l x0c x1 x2 x3 S := (run63 o n [(.sl x0a x0l x0c), (.int .i64 x1), (.int .i64 x2), (.int .i64 x3)] S (ho _)).trans (J63_eq _ _ x0a x0l x0c x1 x2 x3 S)
def b64_entry (call : CallA) (n : Nat)  (x0 : Int) (S : AS) : Option (AV × AS) :=
 callI .i64 call 79 [(.int .u64 x0)] S fun v2 S1 =>
 some ((.int .i64 v2), S1)

theorem a64_entry (call : CallA) (n : Nat) (x0 : Int) (S : AS) : evC E call n 64 (E.at 64 []) 0 (enumT 0 [(.int .u64 x0)]) S (retK E (E.fn 64)) = b64_entry call n  x0 S := by kernel_rfl
def J64 (call : CallA) (n : Nat) (x0 : Int) (S : AS) : Option (AV × AS) := b64_entry call n  x0 S
theorem run64 (o : Orc) (n : Nat) (args : List AV) (S : AS) (ho : o 64 args = none) : evF E o (n + 1) (.fn 64) args S = evC E (evF E o n) n 64 (E.at 64 []) 0 (enumT 0 args) S (retK E (E.fn 64)) := by
  rw [evF, ho]; kernel_rfl
theorem J64_eq (call : CallA) (n : Nat) (x0 : Int) (S : AS) : evC E call n 64 (E.at 64 []) 0 (enumT 0 [(.int .u64 x0)]) S (retK E (E.fn 64)) = J64 call n x0 S := by
  rw [J64, a64_entry]
theorem F64 {o : Orc} (n : Nat) (x0 : Int) (S : AS) (ho : ∀ args, o 64 args = none) : evF E o (n + 1) (.fn 64) [(.int .u64 x0)] S = J64 (evF E o n) n x0 S := (run64 o n [(.int .u64 x0)] S (ho _)).trans (J64_eq _ _ x0 S)
def b65_entry (call : CallA) (n : Nat)  (x0 : Option Pos) (x1 : Int) (S : AS) : Option (AV × AS) :=
 cond (decide (x1 ≥ 0)) (
 gO x0 fun p1 =>
 ldL S p1.1 p1.2 fun v2a v2l v2c =>
 some ((.bool (decide (x1 < ((v2l : Nat) : Int)))), S)) (
 some ((.bool false), S))

theorem a65_entry (call : CallA) (n : Nat) (x0 : Option Pos) (x1 : Int) (S : AS) : evC E call n 65 (E.at 65 []) 0 (enumT 0 [(.ptr x0), (.int .i64 x1)]) S (retK E (E.fn 65)) = b65_entry call n  x0 x1 S := by kernel_rfl
def J65 (call : CallA) (n : Nat) (x0 : Option Pos) (x1 : Int) (S : AS) : Option (AV × AS) := b65_entry call n  x0 x1 S
theorem run65 (o : Orc) (n : Nat) (args : List AV) (S : AS) (ho : o 65 args = none) : evF E o (n + 1) (.fn 65) args S = evC E (evF E o n) n 65 (E.at 65 []) 0 (enumT 0 args) S (retK E (E.fn 65)) := by
  rw [evF, ho]; kernel_rfl
theorem J65_eq (call : CallA) (n : Nat) (x0 : Option Pos) (x1 : Int) (S : AS) : evC E call n 65 (E.at 65 []) 0 (enumT 0 [(.ptr x0), (.int .i64 x1)]) S (retK E (E.fn 65)) = J65 call n x0 x1 S := by
  rw [J65, a65_entry]
theorem F65 {o : Orc} (n : Nat) (x0 : Option Pos) (x1 : Int) (S : AS) (ho : ∀ args, o 65 args = none) : evF E o (n + 1) (.fn 65) [(.ptr x0), (.int .i64 x1)] S = J65 (evF E o n) n x0 x1 S := (run65 o n [(.ptr x0), (.int .i64 x1)] S (ho _)).trans (J65_eq _ _ x0 x1 S)
def b66_l1_0_1_0 (call : CallA) (n : Nat) (j1_0_1_0_0_1_0_0_1_1 : Option Pos → Int → Int → Int → AS → Option (AV × AS)) (w0 : Option Pos) (w1 : Int) (w4 : AV) (w5 : Int) (S : AS) : Option (AV × AS) :=
 gO w0 fun p1 =>
 ldL S p1.1 p1.2 fun v2a v2l v2c =>
 cond (decide (w5 < ((v2l : Nat) : Int))) (
 gO w0 fun p3 =>
 ldL S p3.1 p3.2 fun v4a v4l v4c =>
 nz ((v4l : Nat) : Int) <|
 gO w0 fun p5 =>
 ldL S p5.1 p5.2 fun v6a v6l v6c =>
 cond (decide ((IntKind.wrap .i64 (w1 + w5)) ≥ ((v6l : Nat) : Int))) (
 gO w0 fun p7 =>
 ldL S p7.1 p7.2 fun v8a v8l v8c =>
 j1_0_1_0_0_1_0_0_1_1 w0 w1 w5 (IntKind.wrap .i64 ((IntKind.wrap .i64 (w1 + w5)) - ((v8l : Nat) : Int))) S) (
 j1_0_1_0_0_1_0_0_1_1 w0 w1 w5 (Int.tmod (IntKind.wrap .i64 (w1 + w5)) ((v4l : Nat) : Int)) S)) (
 some ((.int .i64 0), S))

def b66_j1_0_1_0_0_1_0_0_1_1 (call : CallA) (n : Nat) (l1_0_1_0 : Option Pos → Int → AV → Int → AS → Option (AV × AS)) (w0 : Option Pos) (w1 : Int) (w5 : Int) (w6 : Int) (S : AS) : Option (AV × AS) :=
 gO w0 fun p9 =>
 ldL S p9.1 p9.2 fun v10a v10l v10c =>
 ixSl 1 v10a v10l w6 fun p11 =>
 ldI .i64 S p11.1 p11.2 fun v12 =>
 cond (v12 == 0) (
 gO w0 fun p13 =>
 ldL S p13.1 p13.2 fun v14a v14l v14c =>
 ixSl 1 v14a v14l w6 fun p15 =>
 S.stn p15.1 p15.2 [(.int .i64 2)] fun S16 =>
 gO w0 fun p17 =>
 ldL S16 p17.1 (p17.2 + 1) fun v18a v18l v18c =>
 newA S16 (.cells [(.int .i64 w6)]) fun b19 S20 =>
 appendA 1 8 S20 v18a v18l v18c 1 (firstA S20 1 1 (.sl (some (.rw b19, 0)) 1 (.ex 1))) fun v21a v21l v21c S22 =>
 gO w0 fun p23 =>
 S22.stn p23.1 (p23.2 + 1) [(.sl v21a v21l v21c)] fun S24 =>
 some ((.int .i64 w6), S24)) (
 l1_0_1_0 w0 w1 .undef (IntKind.wrap .i64 (w5 + 1)) S)

def b66_entry (call : CallA) (n : Nat) (l1_0_1_0 : Option Pos → Int → AV → Int → AS → Option (AV × AS)) (x0 : Option Pos) (x1 : Int) (S : AS) : Option (AV × AS) :=
 l1_0_1_0 x0 x1 (.int .i64 0) 0 S

def r66_l1_0_1_0 (call : CallA) (n : Nat)  (m : Nat) (w0 : Option Pos) (w1 : Int) (w4 : AV) (w5 : Int) (S : AS) : Option (AV × AS) := loopN (evC E call n 66 (E.at 66 [1, 0, 1, 0, 0]) 0) [0, 1, 4, 5] m [(0, (.ptr w0)), (1, (.int .i64 w1)), (4, w4), (5, (.int .i64 w5))] S (kBlk 0 (kSeq E call n 66 (E.at 66 [1, 1]) 0 (retK E (E.fn 66))))
def r66_j1_0_1_0_0_1_0_0_1_1 (call : CallA) (n : Nat) (m1_0_1_0 : Nat) (w0 : Option Pos) (w1 : Int) (w5 : Int) (w6 : Int) (S : AS) : Option (AV × AS) := evC E call n 66 (E.at 66 [1, 0, 1, 0, 0, 1, 0, 0, 1, 1]) 1 [(0, (.ptr w0)), (1, (.int .i64 w1)), (5, (.int .i64 w5)), (6, (.int .i64 w6))] S (kBlk 1 (kSeq E call n 66 (E.at 66 [1, 0, 1, 0, 0, 1, 1]) 0 (kLp (evC E call n 66 (E.at 66 [1, 0, 1, 0, 0]) 0) [0, 1, 4, 5] m1_0_1_0 (kBlk 0 (kSeq E call n 66 (E.at 66 [1, 1]) 0 (retK E (E.fn 66)))))))
theorem a66_l1_0_1_0 (call : CallA) (n : Nat)  (m : Nat) (w0 : Option Pos) (w1 : Int) (w4 : AV) (w5 : Int) (S : AS) : r66_l1_0_1_0 call n  (m + 1) w0 w1 w4 w5 S = b66_l1_0_1_0 call n (r66_j1_0_1_0_0_1_0_0_1_1 call n m) w0 w1 w4 w5 S := by kernel_rfl
theorem a66_j1_0_1_0_0_1_0_0_1_1 (call : CallA) (n : Nat) (m1_0_1_0 : Nat) (w0 : Option Pos) (w1 : Int) (w5 : Int) (w6 : Int) (S : AS) : r66_j1_0_1_0_0_1_0_0_1_1 call n m1_0_1_0 w0 w1 w5 w6 S = b66_j1_0_1_0_0_1_0_0_1_1 call n (r66_l1_0_1_0 call n  m1_0_1_0) w0 w1 w5 w6 S := by kernel_rfl
theorem a66_entry (call : CallA) (n : Nat) (x0 : Option Pos) (x1 : Int) (S : AS) : evC E call n 66 (E.at 66 []) 0 (enumT 0 [(.ptr x0), (.int .i64 x1)]) S (retK E (E.fn 66)) = b66_entry call n (r66_l1_0_1_0 call n  n) x0 x1 S := by kernel_rfl
def J66_j1_0_1_0_0_1_0_0_1_1 (call : CallA) (n : Nat) (n1_0_1_0 : Option Pos → Int → AV → Int → AS → Option (AV × AS)) (w0 : Option Pos) (w1 : Int) (w5 : Int) (w6 : Int) (S : AS) : Option (AV × AS) := b66_j1_0_1_0_0_1_0_0_1_1 call n n1_0_1_0 w0 w1 w5 w6 S
theorem h66_j1_0_1_0_0_1_0_0_1_1 (call : CallA) (n : Nat) (m1_0_1_0 : Nat) : r66_j1_0_1_0_0_1_0_0_1_1 call n m1_0_1_0 = J66_j1_0_1_0_0_1_0_0_1_1 call n (r66_l1_0_1_0 call n  m1_0_1_0) := by
  funext w0 w1 w5 w6 S
  rw [J66_j1_0_1_0_0_1_0_0_1_1, a66_j1_0_1_0_0_1_0_0_1_1]
def J66_l1_0_1_0 (call : CallA) (n : Nat)  (m : Nat) : Option Pos → Int → AV → Int → AS → Option (AV × AS) := Nat.rec (motive := fun _ => Option Pos → Int → AV → Int → AS → Option (AV × AS)) (fun _ _ _ _ _ => none) (fun _ ih w0 w1 w4 w5 S => b66_l1_0_1_0 call n (J66_j1_0_1_0_0_1_0_0_1_1 call n ih) w0 w1 w4 w5 S) m
theorem J66_l1_0_1_0_succ (call : CallA) (n : Nat)  (m : Nat) (w0 : Option Pos) (w1 : Int) (w4 : AV) (w5 : Int) (S : AS) : J66_l1_0_1_0 call n  (m + 1) w0 w1 w4 w5 S = b66_l1_0_1_0 call n (J66_j1_0_1_0_0_1_0_0_1_1 call n (J66_l1_0_1_0 call n  m)) w0 w1 w4 w5 S := rfl
theorem h66_l1_0_1_0 (call : CallA) (n : Nat)  (m : Nat) : r66_l1_0_1_0 call n  m = J66_l1_0_1_0 call n  m := by
  induction m with
  | zero => rfl
  | succ m ih =>
    funext w0 w1 w4 w5 S
    rw [J66_l1_0_1_0_succ, a66_l1_0_1_0, h66_j1_0_1_0_0_1_0_0_1_1 call n m, ih]
def J66 (call : CallA) (n : Nat) (x0 : Option Pos) (x1 : Int) (S : AS) : Option (AV × AS) := b66_entry call n (J66_l1_0_1_0 call n  n) x0 x1 S
theorem run66 (o : Orc) (n : Nat) (args : List AV) (S : AS) (ho : o 66 args = none) : evF E o (n + 1) (.fn 66) args S = evC E (evF E o n) n 66 (E.at 66 []) 0 (enumT 0 args) S (retK E (E.fn 66)) := by
  rw [evF, ho]; kernel_rfl
theorem J66_eq (call : CallA) (n : Nat) (x0 : Option Pos) (x1 : Int) (S : AS) : evC E call n 66 (E.at 66 []) 0 (enumT 0 [(.ptr x0), (.int .i64 x1)]) S (retK E (E.fn 66)) = J66 call n x0 x1 S := by
  rw [J66, a66_entry, h66_l1_0_1_0 call n  n]
theorem F66 {o : Orc} (n : Nat) (x0 : Option Pos) (x1 : Int) (S : AS) (ho : ∀ args, o 66 args = none) : evF E o (n + 1) (.fn 66) [(.ptr x0), (.int .i64 x1)] S = J66 (evF E o n) n x0 x1 S := (run66 o n [(.ptr x0), (.int .i64 x1)] S (ho _)).trans (J66_eq _ _ x0 x1 S)
def b67_l1_1_0_1_0 (call : CallA) (n : Nat) (j1_1_0_1_0_0_1_1 : Option Pos → Nat → Cap → Int → Option Pos → Nat → Cap → Int → AS → Option (AV × AS)) (w0a : Option Pos) (w0l : Nat) (w0c : Cap) (w1 : Int) (w5a : Option Pos) (w5l : Nat) (w5c : Cap) (w6 : Int) (S : AS) : Option (AV × AS) :=
 cond (decide (w6 < ((w0l : Nat) : Int))) (
 ixSl 1 w0a w0l w6 fun p1 =>
 ldI .i64 S p1.1 p1.2 fun v2 =>
 cond (v2 != w1) (
 ixSl 1 w0a w0l w6 fun p3 =>
 ldI .i64 S p3.1 p3.2 fun v4 =>
 newA S (.cells [(.int .i64 v4)]) fun b5 S6 =>
 appendA 1 8 S6 w5a w5l w5c 1 (firstA S6 1 1 (.sl (some (.rw b5, 0)) 1 (.ex 1))) fun v7a v7l v7c S8 =>
 j1_1_0_1_0_0_1_1 w0a w0l w0c w1 v7a v7l v7c w6 S8) (
 j1_1_0_1_0_0_1_1 w0a w0l w0c w1 w5a w5l w5c w6 S)) (
 some ((.sl w5a w5l w5c), S))

def b67_j1_1_0_1_0_0_1_1 (call : CallA) (n : Nat) (l1_1_0_1_0 : Option Pos → Nat → Cap → Int → Option Pos → Nat → Cap → Int → AS → Option (AV × AS)) (w0a : Option Pos) (w0l : Nat) (w0c : Cap) (w1 : Int) (w5a : Option Pos) (w5l : Nat) (w5c : Cap) (w6 : Int) (S : AS) : Option (AV × AS) :=
 l1_1_0_1_0 w0a w0l w0c w1 w5a w5l w5c (IntKind.wrap .i64 (w6 + 1)) S

def b67_entry (call : CallA) (n : Nat) (l1_1_0_1_0 : Option Pos → Nat → Cap → Int → Option Pos → Nat → Cap → Int → AS → Option (AV × AS)) (x0a : Option Pos) (x0l : Nat) (x0c : Cap) (x1 : Int) (S : AS) : Option (AV × AS) :=
 l1_1_0_1_0 x0a x0l x0c x1 none 0 (.ex 0) 0 S

def r67_l1_1_0_1_0 (call : CallA) (n : Nat)  (m : Nat) (w0a : Option Pos) (w0l : Nat) (w0c : Cap) (w1 : Int) (w5a : Option Pos) (w5l : Nat) (w5c : Cap) (w6 : Int) (S : AS) : Option (AV × AS) := loopN (evC E call n 67 (E.at 67 [1, 1, 0, 1, 0, 0]) 0) [0, 1, 5, 6] m [(0, (.sl w0a w0l w0c)), (1, (.int .i64 w1)), (5, (.sl w5a w5l w5c)), (6, (.int .i64 w6))] S (kBlk 0 (kSeq E call n 67 (E.at 67 [1, 1, 1]) 0 (retK E (E.fn 67))))
def r67_j1_1_0_1_0_0_1_1 (call : CallA) (n : Nat) (m1_1_0_1_0 : Nat) (w0a : Option Pos) (w0l : Nat) (w0c : Cap) (w1 : Int) (w5a : Option Pos) (w5l : Nat) (w5c : Cap) (w6 : Int) (S : AS) : Option (AV × AS) := evC E call n 67 (E.at 67 [1, 1, 0, 1, 0, 0, 1, 1]) 0 [(0, (.sl w0a w0l w0c)), (1, (.int .i64 w1)), (5, (.sl w5a w5l w5c)), (6, (.int .i64 w6))] S (kLp (evC E call n 67 (E.at 67 [1, 1, 0, 1, 0, 0]) 0) [0, 1, 5, 6] m1_1_0_1_0 (kBlk 0 (kSeq E call n 67 (E.at 67 [1, 1, 1]) 0 (retK E (E.fn 67)))))
theorem a67_l1_1_0_1_0 (call : CallA) (n : Nat)  (m : Nat) (w0a : Option Pos) (w0l : Nat) (w0c : Cap) (w1 : Int) (w5a : Option Pos) (w5l : Nat) (w5c : Cap) (w6 : Int) (S : AS) : r67_l1_1_0_1_0 call n  (m + 1) w0a w0l w0c w1 w5a w5l w5c w6 S = b67_l1_1_0_1_0 call n (r67_j1_1_0_1_0_0_1_1 call n m) w0a w0l w0c w1 w5a w5l w5c w6 S := by kernel_rfl
theorem a67_j1_1_0_1_0_0_1_1 (call : CallA) (n : Nat) (m1_1_0_1_0 : Nat) (w0a : Option Pos) (w0l : Nat) (w0c : Cap) (w1 : Int) (w5a : Option Pos) (w5l : Nat) (w5c : Cap) (w6 : Int) (S : AS) : r67_j1_1_0_1_0_0_1_1 call n m1_1_0_1_0 w0a w0l w0c w1 w5a w5l w5c w6 S = b67_j1_1_0_1_0_0_1_1 call n (r67_l1_1_0_1_0 call n  m1_1_0_1_0) w0a w0l w0c w1 w5a w5l w5c w6 S := by kernel_rfl
theorem a67_entry (call : CallA) (n : Nat) (x0a : Option Pos) (x0l : Nat) (x0c : Cap) (x1 : Int) (S : AS) : evC E call n 67 (E.at 67 []) 0 (enumT 0 [(.sl x0a x0l x0c), (.int .i64 x1)]) S (retK E (E.fn 67)) = b67_entry call n (r67_l1_1_0_1_0 call n  n) x0a x0l x0c x1 S := by kernel_rfl
def J67_j1_1_0_1_0_0_1_1 (call : CallA) (n : Nat) (n1_1_0_1_0 : Option Pos → Nat → Cap → Int → Option Pos → Nat → Cap → Int → AS → Option (AV × AS)) (w0a : Option Pos) (w0l : Nat) (w0c : Cap) (w1 : Int) (w5a : Option Pos) (w5l : Nat) (w5c : Cap) (w6 : Int) (S : AS) : Option (AV × AS) := b67_j1_1_0_1_0_0_1_1 call n n1_1_0_1_0 w0a w0l w0c w1 w5a w5l w5c w6 S
theorem h67_j1_1_0_1_0_0_1_1 (call : CallA) (n : Nat) (m1_1_0_1_0 : Nat) : r67_j1_1_0_1_0_0_1_1 call n m1_1_0_1_0 = J67_j1_1_0_1_0_0_1_1 call n (r67_l1_1_0_1_0 call n  m1_1_0_1_0) := by
  funext w0a w0l w0c w1 w5a w5l w5c w6 S
  rw [J67_j1_1_0_1_0_0_1_1, a67_j1_1_0_1_0_0_1_1]
def J67_l1_1_0_1_0 (call : CallA) (n : Nat)  (m : Nat) : Option Pos → Nat → Cap → Int → Option Pos → Nat → Cap → Int → AS → Option (AV × AS) := Nat.rec (motive := fun _ => Option Pos → Nat → Cap → Int → Option Pos → Nat → Cap → Int → AS → Option (AV × AS)) (fun _ _ _ _ _ _ _ _ _ => none) (fun _ ih w0a w0l w0c w1 w5a w5l w5c w6 S => b67_l1_1_0_1_0 call n (J67_j1_1_0_1_0_0_1_1 call n ih) w0a w0l w0c w1 w5a w5l w5c w6 S) m
theorem J67_l1_1_0_1_0_succ (call : CallA) (n : Nat)  (m : Nat) (w0a : Option Pos) (w0l : Nat) (w0c : Cap) (w1 : Int) (w5a : Option Pos) (w5l : Nat) (w5c : Cap) (w6 : Int) (S : AS) : J67_l1_1_0_1_0 call n  (m + 1) w0a w0l w0c w1 w5a w5l w5c w6 S = b67_l1_1_0_1_0 call n (J67_j1_1_0_1_0_0_1_1 call n (J67_l1_1_0_1_0 call n  m)) w0a w0l w0c w1 w5a w5l w5c w6 S := rfl
theorem h67_l1_1_0_1_0 (call : CallA) (n : Nat)  (m : Nat) : r67_l1_1_0_1_0 call n  m = J67_l1_1_0_1_0 call n  m := by
  induction m with
  | zero => rfl
  | succ m ih =>
    funext w0a w0l w0c w1 w5a w5l w5c w6 S
    rw [J67_l1_1_0_1_0_succ, a67_l1_1_0_1_0, h67_j1_1_0_1_0_0_1_1 call n m, ih]
def J67 (call : CallA) (n : Nat) (x0a : Option Pos) (x0l : Nat) (x0c : Cap) (x1 : Int) (S : AS) : Option (AV × AS) := b67_entry call n (J67_l1_1_0_1_0 call n  n) x0a x0l x0c x1 S
theorem run67 (o : Orc) (n : Nat) (args : List AV) (S : AS) (ho : o 67 args = none) : evF E o (n + 1) (.fn 67) args S = evC E (evF E o n) n 67 (E.at 67 []) 0 (enumT 0 args) S (retK E (E.fn 67)) := by
  rw [evF, ho]; kernel_rfl
theorem J67_eq (call : CallA) (n : Nat) (x0a : Option Pos) (x0l : Nat) (x0c : Cap) (x1 : Int) (S : AS) : evC E call n 67 (E.at 67 []) 0 (enumT 0 [(.sl x0a x0l x0c), (.int .i64 x1)]) S (retK E (E.fn 67)) = J67 call n x0a x0l x0c x1 S := by
  rw [J67, a67_entry, h67_l1_1_0_1_0 call n  n]
theorem F67 {o : Orc} (n : Nat) (x0a : Option Pos) (x0l : Nat) (x0c : Cap) (x1 : Int) (S : AS) (ho : ∀ args, o 67 args = none) : evF E o (n + 1) (.fn 67) [(.sl x0a x0l x0c), (.int .i64 x1)] S = J67 (evF E o n) n x0a x0l x0c x1 S := (run67 o n [(.sl x0a x0l x0c), (.int .i64 x1)] S (ho _)).trans (J67_eq _ _ x0a x0l x0c x1 S)
end
end Go.Al
