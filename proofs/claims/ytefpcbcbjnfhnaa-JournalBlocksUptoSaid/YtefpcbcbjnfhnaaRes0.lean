/- Plain readings of the functions, and that they are what the evaluator does: by program. -/
import Derived.Test.YtefpcbcbjnfhnaaGrRes
import Derived.Test.YtefpcbcbjnfhnaaENV
import Derived.KernelRfl
set_option maxRecDepth 100000
set_option linter.unusedVariables false
namespace Go.Jn
open Go.Gr
noncomputable section
def b3_j1 (call : CallA) (n : Nat)  (j1_1 : Option Pos → AS → Option (AV × AS)) (w1 : Option Pos) (S : AS) : Option (AV × AS) :=
 gO w1 fun p3 =>
 S.ldn p3.1 p3.2 16 fun g4 =>
 callB call 6 [(.agg g4)] S fun v6 S5 =>
 cond v6 (
 callB call 7 [] S5 fun v8 S7 =>
 some ((.bool v8), S7)) (
 j1_1 w1 S5)

def b3_j1_1 (call : CallA) (n : Nat)  (j1_1_1 : Option Pos → Option Pos → AS → Option (AV × AS)) (w1 : Option Pos) (S : AS) : Option (AV × AS) :=
 gO w1 fun p9 =>
 S.ldn p9.1 p9.2 7 fun g10 =>
 newA S (.cells [(.int .u64 0), (.int .u64 0), (.int .u64 0), (.int .u64 0), (.int .i64 0), (.int .i64 0), (.sl none 0 (.ex 0))]) fun b11 S12 =>
 ifO (g10.length = 7) <|
 S12.stn (.rw b11) 0 g10 fun S13 =>
 j1_1_1 w1 (some ((.rw b11), 0)) S13

def b3_j1_1_1 (call : CallA) (n : Nat)  (j1_1_1_1 : Option Pos → Option Pos → AS → Option (AV × AS)) (w1 : Option Pos) (w3 : Option Pos) (S : AS) : Option (AV × AS) :=
 newA S (.cells []) fun b14 S15 =>
 gO w1 fun p16 =>
 ldL S15 p16.1 (p16.2 + 6) fun v17a v17l v17c =>
 appendA 1 1 S15 (some (.rw b14, 0)) 0 (.ex 0) v17l (firstA S15 1 v17l (.sl v17a v17l v17c)) fun v18a v18l v18c S19 =>
 gO w3 fun p20 =>
 S19.stn p20.1 (p20.2 + 6) [(.sl v18a v18l v18c)] fun S21 =>
 j1_1_1_1 w1 w3 S21

def b3_j1_1_1_1 (call : CallA) (n : Nat)  (j1_1_1_1_1 : Option Pos → Option Pos → Nat → Cap → Int → AS → Option (AV × AS)) (w1 : Option Pos) (w3 : Option Pos) (S : AS) : Option (AV × AS) :=
 gO w3 fun p22 =>
 S.ldn p22.1 p22.2 7 fun g23 =>
 callT call 8 [(.agg g23)] S fun v25 S24 =>
 atL v25 0 fun v26a v26l v26c =>
 atI .i64 v25 1 fun v27 =>
 j1_1_1_1_1 w1 v26a v26l v26c v27 S24

def b3_j1_1_1_1_1 (call : CallA) (n : Nat)  (j1_1_1_1_1_1 : Option Pos → Option Pos → Nat → Cap → Int → Option Pos → Nat → Cap → Int → AS → Option (AV × AS)) (w1 : Option Pos) (w4a : Option Pos) (w4l : Nat) (w4c : Cap) (w5 : Int) (S : AS) : Option (AV × AS) :=
 gO w1 fun p28 =>
 S.ldn p28.1 p28.2 7 fun g29 =>
 callT call 9 [(.agg g29)] S fun v31 S30 =>
 atL v31 0 fun v32a v32l v32c =>
 atI .i64 v31 1 fun v33 =>
 j1_1_1_1_1_1 w1 w4a w4l w4c w5 v32a v32l v32c v33 S30

def b3_j1_1_1_1_1_1 (call : CallA) (n : Nat)  (j1_1_1_1_1_1_1 : Option Pos → Option Pos → Nat → Cap → Int → Option Pos → Nat → Cap → Int → Option Pos → Nat → Cap → Int → AS → Option (AV × AS)) (w1 : Option Pos) (w4a : Option Pos) (w4l : Nat) (w4c : Cap) (w5 : Int) (w6a : Option Pos) (w6l : Nat) (w6c : Cap) (w7 : Int) (S : AS) : Option (AV × AS) :=
 gO w1 fun p34 =>
 S.ldn p34.1 (p34.2 + 7) 6 fun g35 =>
 callT call 10 [(.agg g35)] S fun v37 S36 =>
 atL v37 0 fun v38a v38l v38c =>
 atI .i64 v37 1 fun v39 =>
 j1_1_1_1_1_1_1 w1 w4a w4l w4c w5 w6a w6l w6c w7 v38a v38l v38c v39 S36

def b3_j1_1_1_1_1_1_1 (call : CallA) (n : Nat)  (j1_1_1_1_1_1_1_1 : Option Pos → Option Pos → Nat → Cap → Int → Option Pos → Nat → Cap → Int → Option Pos → Nat → Cap → Int → Option Pos → Nat → Cap → Int → AS → Option (AV × AS)) (w1 : Option Pos) (w4a : Option Pos) (w4l : Nat) (w4c : Cap) (w5 : Int) (w6a : Option Pos) (w6l : Nat) (w6c : Cap) (w7 : Int) (w8a : Option Pos) (w8l : Nat) (w8c : Cap) (w9 : Int) (S : AS) : Option (AV × AS) :=
 gO w1 fun p40 =>
 S.ldn p40.1 (p40.2 + 7) 6 fun g41 =>
 callT call 11 [(.agg g41)] S fun v43 S42 =>
 atL v43 0 fun v44a v44l v44c =>
 atI .i64 v43 1 fun v45 =>
 j1_1_1_1_1_1_1_1 w1 w4a w4l w4c w5 w6a w6l w6c w7 w8a w8l w8c w9 v44a v44l v44c v45 S42

def b3_j1_1_1_1_1_1_1_1 (call : CallA) (n : Nat)  (j1_1_1_1_1_1_1_1_1 : Option Pos → Option Pos → Nat → Cap → Int → Option Pos → Nat → Cap → Int → Option Pos → Nat → Cap → Int → Option Pos → Nat → Cap → Int → Option Pos → Nat → Cap → Int → AS → Option (AV × AS)) (w1 : Option Pos) (w4a : Option Pos) (w4l : Nat) (w4c : Cap) (w5 : Int) (w6a : Option Pos) (w6l : Nat) (w6c : Cap) (w7 : Int) (w8a : Option Pos) (w8l : Nat) (w8c : Cap) (w9 : Int) (w10a : Option Pos) (w10l : Nat) (w10c : Cap) (w11 : Int) (S : AS) : Option (AV × AS) :=
 gO w1 fun p46 =>
 ldL S p46.1 (p46.2 + 13) fun v47a v47l v47c =>
 callL call 13 [(.sl v47a v47l v47c)] S fun v49a v49l v49c S48 =>
 callT call 12 [(.sl v49a v49l v49c)] S48 fun v51 S50 =>
 atL v51 0 fun v52a v52l v52c =>
 atI .i64 v51 1 fun v53 =>
 j1_1_1_1_1_1_1_1_1 w1 w4a w4l w4c w5 w6a w6l w6c w7 w8a w8l w8c w9 w10a w10l w10c w11 v52a v52l v52c v53 S50

def b3_j1_1_1_1_1_1_1_1_1 (call : CallA) (n : Nat)  (j1_1_1_1_1_1_1_1_1_1 : Option Pos → Option Pos → Nat → Cap → Int → Option Pos → Nat → Cap → Int → Option Pos → Nat → Cap → Int → Option Pos → Nat → Cap → Int → Option Pos → Nat → Cap → Int → Option Pos → Nat → Cap → Int → AS → Option (AV × AS)) (w1 : Option Pos) (w4a : Option Pos) (w4l : Nat) (w4c : Cap) (w5 : Int) (w6a : Option Pos) (w6l : Nat) (w6c : Cap) (w7 : Int) (w8a : Option Pos) (w8l : Nat) (w8c : Cap) (w9 : Int) (w10a : Option Pos) (w10l : Nat) (w10c : Cap) (w11 : Int) (w12a : Option Pos) (w12l : Nat) (w12c : Cap) (w13 : Int) (S : AS) : Option (AV × AS) :=
 gO w1 fun p54 =>
 ldL S p54.1 (p54.2 + 13) fun v55a v55l v55c =>
 callT call 14 [(.sl v55a v55l v55c)] S fun v57 S56 =>
 atL v57 0 fun v58a v58l v58c =>
 atI .i64 v57 1 fun v59 =>
 j1_1_1_1_1_1_1_1_1_1 w1 w4a w4l w4c w5 w6a w6l w6c w7 w8a w8l w8c w9 w10a w10l w10c w11 w12a w12l w12c w13 v58a v58l v58c v59 S56

def b3_j1_1_1_1_1_1_1_1_1_1 (call : CallA) (n : Nat)  (j1_1_1_1_1_1_1_1_1_1_1 : Option Pos → AS → Option (AV × AS)) (w1 : Option Pos) (w4a : Option Pos) (w4l : Nat) (w4c : Cap) (w5 : Int) (w6a : Option Pos) (w6l : Nat) (w6c : Cap) (w7 : Int) (w8a : Option Pos) (w8l : Nat) (w8c : Cap) (w9 : Int) (w10a : Option Pos) (w10l : Nat) (w10c : Cap) (w11 : Int) (w12a : Option Pos) (w12l : Nat) (w12c : Cap) (w13 : Int) (w14a : Option Pos) (w14l : Nat) (w14c : Cap) (w15 : Int) (S : AS) : Option (AV × AS) :=
 bytesStr S w4a w4l fun s60 =>
 bytesStr S w6a w6l fun s61 =>
 cond (!(s60 == s61)) (
 some ((.bool false), S)) (
 callI .i64 call 15 [(.int .i64 w5)] S fun v63 S62 =>
 cond (v63 != w7) (
 some ((.bool false), S62)) (
 bytesStr S62 w8a w8l fun s64 =>
 bytesStr S62 w10a w10l fun s65 =>
 cond (!(s64 == s65)) (
 some ((.bool false), S62)) (
 callI .i64 call 15 [(.int .i64 w9)] S62 fun v67 S66 =>
 cond (v67 != w11) (
 some ((.bool false), S66)) (
 bytesStr S66 w12a w12l fun s68 =>
 bytesStr S66 w14a w14l fun s69 =>
 cond (!(s68 == s69)) (
 some ((.bool false), S66)) (
 callI .i64 call 15 [(.int .i64 w13)] S66 fun v71 S70 =>
 cond (v71 != w15) (
 some ((.bool false), S70)) (
 gO w1 fun p72 =>
 ldI .i64 S70 p72.1 (p72.2 + 15) fun v73 =>
 callI .i64 call 16 [(.int .i64 v73)] S70 fun v75 S74 =>
 gO w1 fun p76 =>
 ldI .i64 S74 p76.1 (p76.2 + 15) fun v77 =>
 ldI .i64 S70 p76.1 (p76.2 + 15) fun v78 =>
 cond (AV.beq (.int .i64 v78) (.int .i64 v77)) (
 callI .i64 call 17 [(.int .i64 v77)] S74 fun v80 S79 =>
 cond (v75 != v80) (
 some ((.bool false), S79)) (
 j1_1_1_1_1_1_1_1_1_1_1 w1 S79)) none))))))

def b3_j1_1_1_1_1_1_1_1_1_1_1 (call : CallA) (n : Nat)  (j1_1_1_1_1_1_1_1_1_1_1_1 : Option Pos → Option Pos → Nat → Cap → AS → Option (AV × AS)) (w1 : Option Pos) (S : AS) : Option (AV × AS) :=
 newA S (.cells []) fun b81 S82 =>
 gO w1 fun p83 =>
 ldL S82 p83.1 (p83.2 + 14) fun v84a v84l v84c =>
 appendA 1 1 S82 (some (.rw b81, 0)) 0 (.ex 0) v84l (firstA S82 1 v84l (.sl v84a v84l v84c)) fun v85a v85l v85c S86 =>
 j1_1_1_1_1_1_1_1_1_1_1_1 w1 v85a v85l v85c S86

def b3_j1_1_1_1_1_1_1_1_1_1_1_1 (call : CallA) (n : Nat)  (j1_1_1_1_1_1_1_1_1_1_1_1_1 : Option Pos → Int → Option Pos → Nat → Cap → Option Pos → AS → Option (AV × AS)) (w1 : Option Pos) (w16a : Option Pos) (w16l : Nat) (w16c : Cap) (S : AS) : Option (AV × AS) :=
 callT call 18 [(.sl w16a w16l w16c)] S fun v88 S87 =>
 atG 7 v88 0 fun g89 =>
 atI .i64 v88 1 fun v90 =>
 newA S87 (.cells [(.int .u64 0), (.int .u64 0), (.int .u64 0), (.int .u64 0), (.int .i64 0), (.int .i64 0), (.sl none 0 (.ex 0))]) fun b91 S92 =>
 ifO (g89.length = 7) <|
 S92.stn (.rw b91) 0 g89 fun S93 =>
 j1_1_1_1_1_1_1_1_1_1_1_1_1 w1 v90 w16a w16l w16c (some ((.rw b91), 0)) S93

def b3_j1_1_1_1_1_1_1_1_1_1_1_1_1 (call : CallA) (n : Nat)  (j1_1_1_1_1_1_1_1_1_1_1_1_1_1 : Option Pos → Int → Int → Option Pos → Nat → Cap → Option Pos → Option Pos → AS → Option (AV × AS)) (w1 : Option Pos) (w5 : Int) (w16a : Option Pos) (w16l : Nat) (w16c : Cap) (w17 : Option Pos) (S : AS) : Option (AV × AS) :=
 gO w1 fun p94 =>
 ldL S p94.1 (p94.2 + 14) fun v95a v95l v95c =>
 callT call 19 [(.sl v95a v95l v95c)] S fun v97 S96 =>
 atG 7 v97 0 fun g98 =>
 atI .i64 v97 1 fun v99 =>
 newA S96 (.cells [(.int .u64 0), (.int .u64 0), (.int .u64 0), (.int .u64 0), (.int .i64 0), (.int .i64 0), (.sl none 0 (.ex 0))]) fun b100 S101 =>
 ifO (g98.length = 7) <|
 S101.stn (.rw b100) 0 g98 fun S102 =>
 j1_1_1_1_1_1_1_1_1_1_1_1_1_1 w1 w5 v99 w16a w16l w16c w17 (some ((.rw b100), 0)) S102

def b3_j1_1_1_1_1_1_1_1_1_1_1_1_1_1 (call : CallA) (n : Nat)  (j1_1_1_1_1_1_1_1_1_1_1_1_1_1_1 : Option Pos → Int → Int → Int → Option Pos → Nat → Cap → Option Pos → Option Pos → Option Pos → AS → Option (AV × AS)) (w1 : Option Pos) (w5 : Int) (w7 : Int) (w16a : Option Pos) (w16l : Nat) (w16c : Cap) (w17 : Option Pos) (w18 : Option Pos) (S : AS) : Option (AV × AS) :=
 callT call 20 [(.sl w16a w16l w16c)] S fun v104 S103 =>
 atG 6 v104 0 fun g105 =>
 atI .i64 v104 1 fun v106 =>
 newA S103 (.cells [(.int .u64 0), (.int .u64 0), (.int .u64 0), (.int .u64 0), (.int .u64 0), (.int .u64 0)]) fun b107 S108 =>
 ifO (g105.length = 6) <|
 S108.stn (.rw b107) 0 g105 fun S109 =>
 j1_1_1_1_1_1_1_1_1_1_1_1_1_1_1 w1 w5 w7 v106 w16a w16l w16c w17 w18 (some ((.rw b107), 0)) S109

def b3_j1_1_1_1_1_1_1_1_1_1_1_1_1_1_1 (call : CallA) (n : Nat)  (j1_1_1_1_1_1_1_1_1_1_1_1_1_1_1_1 : Option Pos → Int → Int → Int → Int → Option Pos → Nat → Cap → Option Pos → Option Pos → Option Pos → Option Pos → AS → Option (AV × AS)) (w1 : Option Pos) (w5 : Int) (w7 : Int) (w9 : Int) (w16a : Option Pos) (w16l : Nat) (w16c : Cap) (w17 : Option Pos) (w18 : Option Pos) (w19 : Option Pos) (S : AS) : Option (AV × AS) :=
 gO w1 fun p110 =>
 ldL S p110.1 (p110.2 + 14) fun v111a v111l v111c =>
 callT call 21 [(.sl v111a v111l v111c)] S fun v113 S112 =>
 atG 6 v113 0 fun g114 =>
 atI .i64 v113 1 fun v115 =>
 newA S112 (.cells [(.int .u64 0), (.int .u64 0), (.int .u64 0), (.int .u64 0), (.int .u64 0), (.int .u64 0)]) fun b116 S117 =>
 ifO (g114.length = 6) <|
 S117.stn (.rw b116) 0 g114 fun S118 =>
 j1_1_1_1_1_1_1_1_1_1_1_1_1_1_1_1 w1 w5 w7 w9 v115 w16a w16l w16c w17 w18 w19 (some ((.rw b116), 0)) S118

def b3_j1_1_1_1_1_1_1_1_1_1_1_1_1_1_1_1 (call : CallA) (n : Nat)  (j1_1_1_1_1_1_1_1_1_1_1_1_1_1_1_1_1 : Option Pos → Int → Int → Int → Int → Int → Option Pos → Nat → Cap → Option Pos → Option Pos → Option Pos → Option Pos → Option Pos → Nat → Cap → AS → Option (AV × AS)) (w1 : Option Pos) (w5 : Int) (w7 : Int) (w9 : Int) (w11 : Int) (w16a : Option Pos) (w16l : Nat) (w16c : Cap) (w17 : Option Pos) (w18 : Option Pos) (w19 : Option Pos) (w20 : Option Pos) (S : AS) : Option (AV × AS) :=
 callT call 22 [(.sl w16a w16l w16c)] S fun v120 S119 =>
 atL v120 0 fun v121a v121l v121c =>
 atI .i64 v120 1 fun v122 =>
 j1_1_1_1_1_1_1_1_1_1_1_1_1_1_1_1_1 w1 w5 w7 w9 w11 v122 w16a w16l w16c w17 w18 w19 w20 v121a v121l v121c S119

def b3_j1_1_1_1_1_1_1_1_1_1_1_1_1_1_1_1_1 (call : CallA) (n : Nat)  (j1_1_1_1_1_1_1_1_1_1_1_1_1_1_1_1_1_1 : Option Pos → Int → Int → Int → Int → Int → Int → Option Pos → Nat → Cap → Option Pos → Option Pos → Option Pos → Option Pos → Option Pos → Nat → Cap → Option Pos → Nat → Cap → AS → Option (AV × AS)) (w1 : Option Pos) (w5 : Int) (w7 : Int) (w9 : Int) (w11 : Int) (w13 : Int) (w16a : Option Pos) (w16l : Nat) (w16c : Cap) (w17 : Option Pos) (w18 : Option Pos) (w19 : Option Pos) (w20 : Option Pos) (w21a : Option Pos) (w21l : Nat) (w21c : Cap) (S : AS) : Option (AV × AS) :=
 gO w1 fun p123 =>
 ldL S p123.1 (p123.2 + 14) fun v124a v124l v124c =>
 callT call 23 [(.sl v124a v124l v124c)] S fun v126 S125 =>
 atL v126 0 fun v127a v127l v127c =>
 atI .i64 v126 1 fun v128 =>
 j1_1_1_1_1_1_1_1_1_1_1_1_1_1_1_1_1_1 w1 w5 w7 w9 w11 w13 v128 w16a w16l w16c w17 w18 w19 w20 w21a w21l w21c v127a v127l v127c S125

def b3_j1_1_1_1_1_1_1_1_1_1_1_1_1_1_1_1_1_1 (call : CallA) (n : Nat)   (w1 : Option Pos) (w5 : Int) (w7 : Int) (w9 : Int) (w11 : Int) (w13 : Int) (w15 : Int) (w16a : Option Pos) (w16l : Nat) (w16c : Cap) (w17 : Option Pos) (w18 : Option Pos) (w19 : Option Pos) (w20 : Option Pos) (w21a : Option Pos) (w21l : Nat) (w21c : Cap) (w22a : Option Pos) (w22l : Nat) (w22c : Cap) (S : AS) : Option (AV × AS) :=
 gO w17 fun p129 =>
 S.ldn p129.1 p129.2 7 fun g130 =>
 gO w18 fun p131 =>
 S.ldn p131.1 p131.2 7 fun g132 =>
 callB call 24 [(.agg g130), (.agg g132)] S fun v134 S133 =>
 cond v134 (
 callI .i64 call 15 [(.int .i64 w5)] S133 fun v136 S135 =>
 cond (v136 == w7) (
 gO w19 fun p137 =>
 S135.ldn p137.1 p137.2 6 fun g138 =>
 gO w20 fun p139 =>
 S135.ldn p139.1 p139.2 6 fun g140 =>
 aggEq ty27 g138 g140 fun b141 =>
 cond b141 (
 callI .i64 call 15 [(.int .i64 w9)] S135 fun v143 S142 =>
 cond (v143 == w11) (
 callB call 25 [(.sl w21a w21l w21c), (.sl w22a w22l w22c)] S142 fun v145 S144 =>
 cond v145 (
 callI .i64 call 15 [(.int .i64 w13)] S144 fun v147 S146 =>
 cond (v147 == w15) (
 bytesStr S146 w16a w16l fun s148 =>
 gO w1 fun p149 =>
 ldL S146 p149.1 (p149.2 + 14) fun v150a v150l v150c =>
 bytesStr S146 v150a v150l fun s151 =>
 cond (s148 == s151) (
 callB call 7 [] S146 fun v153 S152 =>
 some ((.bool v153), S152)) (
 some ((.bool false), S146))) (
 some ((.bool false), S146))) (
 some ((.bool false), S144))) (
 some ((.bool false), S142))) (
 some ((.bool false), S135))) (
 some ((.bool false), S135))) (
 some ((.bool false), S133))

def b3_entry (call : CallA) (n : Nat)  (j1 : Option Pos → AS → Option (AV × AS)) (x0 : List AV) (S : AS) : Option (AV × AS) :=
 ifO (x0.length = 16) <|
 newA S (.cells x0) fun b1 S2 =>
 j1 (some ((.rw b1), 0)) S2

def r3_j1 (call : CallA) (n : Nat)  (w1 : Option Pos) (S : AS) : Option (AV × AS) := evC E call n 3 (E.at 3 [1]) 0 [(1, (.ptr w1))] S (retK E (E.fn 3))
def r3_j1_1 (call : CallA) (n : Nat)  (w1 : Option Pos) (S : AS) : Option (AV × AS) := evC E call n 3 (E.at 3 [1, 1]) 0 [(1, (.ptr w1))] S (retK E (E.fn 3))
def r3_j1_1_1 (call : CallA) (n : Nat)  (w1 : Option Pos) (w3 : Option Pos) (S : AS) : Option (AV × AS) := evC E call n 3 (E.at 3 [1, 1, 1]) 0 [(1, (.ptr w1)), (3, (.ptr w3))] S (retK E (E.fn 3))
def r3_j1_1_1_1 (call : CallA) (n : Nat)  (w1 : Option Pos) (w3 : Option Pos) (S : AS) : Option (AV × AS) := evC E call n 3 (E.at 3 [1, 1, 1, 1]) 0 [(1, (.ptr w1)), (3, (.ptr w3))] S (retK E (E.fn 3))
def r3_j1_1_1_1_1 (call : CallA) (n : Nat)  (w1 : Option Pos) (w4a : Option Pos) (w4l : Nat) (w4c : Cap) (w5 : Int) (S : AS) : Option (AV × AS) := evC E call n 3 (E.at 3 [1, 1, 1, 1, 1]) 0 [(1, (.ptr w1)), (4, (.sl w4a w4l w4c)), (5, (.int .i64 w5))] S (retK E (E.fn 3))
def r3_j1_1_1_1_1_1 (call : CallA) (n : Nat)  (w1 : Option Pos) (w4a : Option Pos) (w4l : Nat) (w4c : Cap) (w5 : Int) (w6a : Option Pos) (w6l : Nat) (w6c : Cap) (w7 : Int) (S : AS) : Option (AV × AS) := evC E call n 3 (E.at 3 [1, 1, 1, 1, 1, 1]) 0 [(1, (.ptr w1)), (4, (.sl w4a w4l w4c)), (5, (.int .i64 w5)), (6, (.sl w6a w6l w6c)), (7, (.int .i64 w7))] S (retK E (E.fn 3))
def r3_j1_1_1_1_1_1_1 (call : CallA) (n : Nat)  (w1 : Option Pos) (w4a : Option Pos) (w4l : Nat) (w4c : Cap) (w5 : Int) (w6a : Option Pos) (w6l : Nat) (w6c : Cap) (w7 : Int) (w8a : Option Pos) (w8l : Nat) (w8c : Cap) (w9 : Int) (S : AS) : Option (AV × AS) := evC E call n 3 (E.at 3 [1, 1, 1, 1, 1, 1, 1]) 0 [(1, (.ptr w1)), (4, (.sl w4a w4l w4c)), (5, (.int .i64 w5)), (6, (.sl w6a w6l w6c)), (7, (.int .i64 w7)), (8, (.sl w8a w8l w8c)), (9, (.int .i64 w9))] S (retK E (E.fn 3))
def r3_j1_1_1_1_1_1_1_1 (call : CallA) (n : Nat)  (w1 : Option Pos) (w4a : Option Pos) (w4l : Nat) (w4c : Cap) (w5 : Int) (w6a : Option Pos) (w6l : Nat) (w6c : Cap) (w7 : Int) (w8a : Option Pos) (w8l : Nat) (w8c : Cap) (w9 : Int) (w10a : Option Pos) (w10l : Nat) (w10c : Cap) (w11 : Int) (S : AS) : Option (AV × AS) := evC E call n 3 (E.at 3 [1, 1, 1, 1, 1, 1, 1, 1]) 0 [(1, (.ptr w1)), (4, (.sl w4a w4l w4c)), (5, (.int .i64 w5)), (6, (.sl w6a w6l w6c)), (7, (.int .i64 w7)), (8, (.sl w8a w8l w8c)), (9, (.int .i64 w9)), (10, (.sl w10a w10l w10c)), (11, (.int .i64 w11))] S (retK E (E.fn 3))
def r3_j1_1_1_1_1_1_1_1_1 (call : CallA) (n : Nat)  (w1 : Option Pos) (w4a : Option Pos) (w4l : Nat) (w4c : Cap) (w5 : Int) (w6a : Option Pos) (w6l : Nat) (w6c : Cap) (w7 : Int) (w8a : Option Pos) (w8l : Nat) (w8c : Cap) (w9 : Int) (w10a : Option Pos) (w10l : Nat) (w10c : Cap) (w11 : Int) (w12a : Option Pos) (w12l : Nat) (w12c : Cap) (w13 : Int) (S : AS) : Option (AV × AS) := evC E call n 3 (E.at 3 [1, 1, 1, 1, 1, 1, 1, 1, 1]) 0 [(1, (.ptr w1)), (4, (.sl w4a w4l w4c)), (5, (.int .i64 w5)), (6, (.sl w6a w6l w6c)), (7, (.int .i64 w7)), (8, (.sl w8a w8l w8c)), (9, (.int .i64 w9)), (10, (.sl w10a w10l w10c)), (11, (.int .i64 w11)), (12, (.sl w12a w12l w12c)), (13, (.int .i64 w13))] S (retK E (E.fn 3))
def r3_j1_1_1_1_1_1_1_1_1_1 (call : CallA) (n : Nat)  (w1 : Option Pos) (w4a : Option Pos) (w4l : Nat) (w4c : Cap) (w5 : Int) (w6a : Option Pos) (w6l : Nat) (w6c : Cap) (w7 : Int) (w8a : Option Pos) (w8l : Nat) (w8c : Cap) (w9 : Int) (w10a : Option Pos) (w10l : Nat) (w10c : Cap) (w11 : Int) (w12a : Option Pos) (w12l : Nat) (w12c : Cap) (w13 : Int) (w14a : Option Pos) (w14l : Nat) (w14c : Cap) (w15 : Int) (S : AS) : Option (AV × AS) := evC E call n 3 (E.at 3 [1, 1, 1, 1, 1, 1, 1, 1, 1, 1]) 0 [(1, (.ptr w1)), (4, (.sl w4a w4l w4c)), (5, (.int .i64 w5)), (6, (.sl w6a w6l w6c)), (7, (.int .i64 w7)), (8, (.sl w8a w8l w8c)), (9, (.int .i64 w9)), (10, (.sl w10a w10l w10c)), (11, (.int .i64 w11)), (12, (.sl w12a w12l w12c)), (13, (.int .i64 w13)), (14, (.sl w14a w14l w14c)), (15, (.int .i64 w15))] S (retK E (E.fn 3))
def r3_j1_1_1_1_1_1_1_1_1_1_1 (call : CallA) (n : Nat)  (w1 : Option Pos) (S : AS) : Option (AV × AS) := evC E call n 3 (E.at 3 [1, 1, 1, 1, 1, 1, 1, 1, 1, 1, 1]) 0 [(1, (.ptr w1))] S (retK E (E.fn 3))
def r3_j1_1_1_1_1_1_1_1_1_1_1_1 (call : CallA) (n : Nat)  (w1 : Option Pos) (w16a : Option Pos) (w16l : Nat) (w16c : Cap) (S : AS) : Option (AV × AS) := evC E call n 3 (E.at 3 [1, 1, 1, 1, 1, 1, 1, 1, 1, 1, 1, 1]) 0 [(1, (.ptr w1)), (16, (.sl w16a w16l w16c))] S (retK E (E.fn 3))
def r3_j1_1_1_1_1_1_1_1_1_1_1_1_1 (call : CallA) (n : Nat)  (w1 : Option Pos) (w5 : Int) (w16a : Option Pos) (w16l : Nat) (w16c : Cap) (w17 : Option Pos) (S : AS) : Option (AV × AS) := evC E call n 3 (E.at 3 [1, 1, 1, 1, 1, 1, 1, 1, 1, 1, 1, 1, 1]) 0 [(1, (.ptr w1)), (5, (.int .i64 w5)), (16, (.sl w16a w16l w16c)), (17, (.ptr w17))] S (retK E (E.fn 3))
def r3_j1_1_1_1_1_1_1_1_1_1_1_1_1_1 (call : CallA) (n : Nat)  (w1 : Option Pos) (w5 : Int) (w7 : Int) (w16a : Option Pos) (w16l : Nat) (w16c : Cap) (w17 : Option Pos) (w18 : Option Pos) (S : AS) : Option (AV × AS) := evC E call n 3 (E.at 3 [1, 1, 1, 1, 1, 1, 1, 1, 1, 1, 1, 1, 1, 1]) 0 [(1, (.ptr w1)), (5, (.int .i64 w5)), (7, (.int .i64 w7)), (16, (.sl w16a w16l w16c)), (17, (.ptr w17)), (18, (.ptr w18))] S (retK E (E.fn 3))
def r3_j1_1_1_1_1_1_1_1_1_1_1_1_1_1_1 (call : CallA) (n : Nat)  (w1 : Option Pos) (w5 : Int) (w7 : Int) (w9 : Int) (w16a : Option Pos) (w16l : Nat) (w16c : Cap) (w17 : Option Pos) (w18 : Option Pos) (w19 : Option Pos) (S : AS) : Option (AV × AS) := evC E call n 3 (E.at 3 [1, 1, 1, 1, 1, 1, 1, 1, 1, 1, 1, 1, 1, 1, 1]) 0 [(1, (.ptr w1)), (5, (.int .i64 w5)), (7, (.int .i64 w7)), (9, (.int .i64 w9)), (16, (.sl w16a w16l w16c)), (17, (.ptr w17)), (18, (.ptr w18)), (19, (.ptr w19))] S (retK E (E.fn 3))
def r3_j1_1_1_1_1_1_1_1_1_1_1_1_1_1_1_1 (call : CallA) (n : Nat)  (w1 : Option Pos) (w5 : Int) (w7 : Int) (w9 : Int) (w11 : Int) (w16a : Option Pos) (w16l : Nat) (w16c : Cap) (w17 : Option Pos) (w18 : Option Pos) (w19 : Option Pos) (w20 : Option Pos) (S : AS) : Option (AV × AS) := evC E call n 3 (E.at 3 [1, 1, 1, 1, 1, 1, 1, 1, 1, 1, 1, 1, 1, 1, 1, 1]) 0 [(1, (.ptr w1)), (5, (.int .i64 w5)), (7, (.int .i64 w7)), (9, (.int .i64 w9)), (11, (.int .i64 w11)), (16, (.sl w16a w16l w16c)), (17, (.ptr w17)), (18, (.ptr w18)), (19, (.ptr w19)), (20, (.ptr w20))] S (retK E (E.fn 3))
def r3_j1_1_1_1_1_1_1_1_1_1_1_1_1_1_1_1_1 (call : CallA) (n : Nat)  (w1 : Option Pos) (w5 : Int) (w7 : Int) (w9 : Int) (w11 : Int) (w13 : Int) (w16a : Option Pos) (w16l : Nat) (w16c : Cap) (w17 : Option Pos) (w18 : Option Pos) (w19 : Option Pos) (w20 : Option Pos) (w21a : Option Pos) (w21l : Nat) (w21c : Cap) (S : AS) : Option (AV × AS) := evC E call n 3 (E.at 3 [1, 1, 1, 1, 1, 1, 1, 1, 1, 1, 1, 1, 1, 1, 1, 1, 1]) 0 [(1, (.ptr w1)), (5, (.int .i64 w5)), (7, (.int .i64 w7)), (9, (.int .i64 w9)), (11, (.int .i64 w11)), (13, (.int .i64 w13)), (16, (.sl w16a w16l w16c)), (17, (.ptr w17)), (18, (.ptr w18)), (19, (.ptr w19)), (20, (.ptr w20)), (21, (.sl w21a w21l w21c))] S (retK E (E.fn 3))
def r3_j1_1_1_1_1_1_1_1_1_1_1_1_1_1_1_1_1_1 (call : CallA) (n : Nat)  (w1 : Option Pos) (w5 : Int) (w7 : Int) (w9 : Int) (w11 : Int) (w13 : Int) (w15 : Int) (w16a : Option Pos) (w16l : Nat) (w16c : Cap) (w17 : Option Pos) (w18 : Option Pos) (w19 : Option Pos) (w20 : Option Pos) (w21a : Option Pos) (w21l : Nat) (w21c : Cap) (w22a : Option Pos) (w22l : Nat) (w22c : Cap) (S : AS) : Option (AV × AS) := evC E call n 3 (E.at 3 [1, 1, 1, 1, 1, 1, 1, 1, 1, 1, 1, 1, 1, 1, 1, 1, 1, 1]) 0 [(1, (.ptr w1)), (5, (.int .i64 w5)), (7, (.int .i64 w7)), (9, (.int .i64 w9)), (11, (.int .i64 w11)), (13, (.int .i64 w13)), (15, (.int .i64 w15)), (16, (.sl w16a w16l w16c)), (17, (.ptr w17)), (18, (.ptr w18)), (19, (.ptr w19)), (20, (.ptr w20)), (21, (.sl w21a w21l w21c)), (22, (.sl w22a w22l w22c))] S (retK E (E.fn 3))
theorem a3_j1 (call : CallA) (n : Nat)  (w1 : Option Pos) (S : AS) : r3_j1 call n  w1 S = b3_j1 call n (r3_j1_1 call n ) w1 S := by kernel_rfl
theorem a3_j1_1 (call : CallA) (n : Nat)  (w1 : Option Pos) (S : AS) : r3_j1_1 call n  w1 S = b3_j1_1 call n (r3_j1_1_1 call n ) w1 S := by kernel_rfl
theorem a3_j1_1_1 (call : CallA) (n : Nat)  (w1 : Option Pos) (w3 : Option Pos) (S : AS) : r3_j1_1_1 call n  w1 w3 S = b3_j1_1_1 call n (r3_j1_1_1_1 call n ) w1 w3 S := by kernel_rfl
theorem a3_j1_1_1_1 (call : CallA) (n : Nat)  (w1 : Option Pos) (w3 : Option Pos) (S : AS) : r3_j1_1_1_1 call n  w1 w3 S = b3_j1_1_1_1 call n (r3_j1_1_1_1_1 call n ) w1 w3 S := by kernel_rfl
theorem a3_j1_1_1_1_1 (call : CallA) (n : Nat)  (w1 : Option Pos) (w4a : Option Pos) (w4l : Nat) (w4c : Cap) (w5 : Int) (S : AS) : r3_j1_1_1_1_1 call n  w1 w4a w4l w4c w5 S = b3_j1_1_1_1_1 call n (r3_j1_1_1_1_1_1 call n ) w1 w4a w4l w4c w5 S := by kernel_rfl
theorem a3_j1_1_1_1_1_1 (call : CallA) (n : Nat)  (w1 : Option Pos) (w4a : Option Pos) (w4l : Nat) (w4c : Cap) (w5 : Int) (w6a : Option Pos) (w6l : Nat) (w6c : Cap) (w7 : Int) (S : AS) : r3_j1_1_1_1_1_1 call n  w1 w4a w4l w4c w5 w6a w6l w6c w7 S = b3_j1_1_1_1_1_1 call n (r3_j1_1_1_1_1_1_1 call n ) w1 w4a w4l w4c w5 w6a w6l w6c w7 S := by kernel_rfl
theorem a3_j1_1_1_1_1_1_1 (call : CallA) (n : Nat)  (w1 : Option Pos) (w4a : Option Pos) (w4l : Nat) (w4c : Cap) (w5 : Int) (w6a : Option Pos) (w6l : Nat) (w6c : Cap) (w7 : Int) (w8a : Option Pos) (w8l : Nat) (w8c : Cap) (w9 : Int) (S : AS) : r3_j1_1_1_1_1_1_1 call n  w1 w4a w4l w4c w5 w6a w6l w6c w7 w8a w8l w8c w9 S = b3_j1_1_1_1_1_1_1 call n (r3_j1_1_1_1_1_1_1_1 call n ) w1 w4a w4l w4c w5 w6a w6l w6c w7 w8a w8l w8c w9 S := by kernel_rfl
theorem a3_j1_1_1_1_1_1_1_1 (call : CallA) (n : Nat)  (w1 : Option Pos) (w4a : Option Pos) (w4l : Nat) (w4c : Cap) (w5 : Int) (w6a : Option Pos) (w6l : Nat) (w6c : Cap) (w7 : Int) (w8a : Option Pos) (w8l : Nat) (w8c : Cap) (w9 : Int) (w10a : Option Pos) (w10l : Nat) (w10c : Cap) (w11 : Int) (S : AS) : r3_j1_1_1_1_1_1_1_1 call n  w1 w4a w4l w4c w5 w6a w6l w6c w7 w8a w8l w8c w9 w10a w10l w10c w11 S = b3_j1_1_1_1_1_1_1_1 call n (r3_j1_1_1_1_1_1_1_1_1 call n ) w1 w4a w4l w4c w5 w6a w6l w6c w7 w8a w8l w8c w9 w10a w10l w10c w11 S := by kernel_rfl
theorem a3_j1_1_1_1_1_1_1_1_1 (call : CallA) (n : Nat)  (w1 : Option Pos) (w4a : Option Pos) (w4l : Nat) (w4c : Cap) (w5 : Int) (w6a : Option Pos) (w6l : Nat) (w6c : Cap) (w7 : Int) (w8a : Option Pos) (w8l : Nat) (w8c : Cap) (w9 : Int) (w10a : Option Pos) (w10l : Nat) (w10c : Cap) (w11 : Int) (w12a : Option Pos) (w12l : Nat) (w12c : Cap) (w13 : Int) (S : AS) : r3_j1_1_1_1_1_1_1_1_1 call n  w1 w4a w4l w4c w5 w6a w6l w6c w7 w8a w8l w8c w9 w10a w10l w10c w11 w12a w12l w12c w13 S = b3_j1_1_1_1_1_1_1_1_1 call n (r3_j1_1_1_1_1_1_1_1_1_1 call n ) w1 w4a w4l w4c w5 w6a w6l w6c w7 w8a w8l w8c w9 w10a w10l w10c w11 w12a w12l w12c w13 S := by kernel_rfl
theorem a3_j1_1_1_1_1_1_1_1_1_1 (call : CallA) (n : Nat)  (w1 : Option Pos) (w4a : Option Pos) (w4l : Nat) (w4c : Cap) (w5 : Int) (w6a : Option Pos) (w6l : Nat) (w6c : Cap) (w7 : Int) (w8a : Option Pos) (w8l : Nat) (w8c : Cap) (w9 : Int) (w10a : Option Pos) (w10l : Nat) (w10c : Cap) (w11 : Int) (w12a : Option Pos) (w12l : Nat) (w12c : Cap) (w13 : Int) (w14a : Option Pos) (w14l : Nat) (w14c : Cap) (w15 : Int) (S : AS) : r3_j1_1_1_1_1_1_1_1_1_1 call n  w1 w4a w4l w4c w5 w6a w6l w6c w7 w8a w8l w8c w9 w10a w10l w10c w11 w12a w12l w12c w13 w14a w14l w14c w15 S = b3_j1_1_1_1_1_1_1_1_1_1 call n (r3_j1_1_1_1_1_1_1_1_1_1_1 call n ) w1 w4a w4l w4c w5 w6a w6l w6c w7 w8a w8l w8c w9 w10a w10l w10c w11 w12a w12l w12c w13 w14a w14l w14c w15 S := by kernel_rfl
theorem a3_j1_1_1_1_1_1_1_1_1_1_1 (call : CallA) (n : Nat)  (w1 : Option Pos) (S : AS) : r3_j1_1_1_1_1_1_1_1_1_1_1 call n  w1 S = b3_j1_1_1_1_1_1_1_1_1_1_1 call n (r3_j1_1_1_1_1_1_1_1_1_1_1_1 call n ) w1 S := by kernel_rfl
theorem a3_j1_1_1_1_1_1_1_1_1_1_1_1 (call : CallA) (n : Nat)  (w1 : Option Pos) (w16a : Option Pos) (w16l : Nat) (w16c : Cap) (S : AS) : r3_j1_1_1_1_1_1_1_1_1_1_1_1 call n  w1 w16a w16l w16c S = b3_j1_1_1_1_1_1_1_1_1_1_1_1 call n (r3_j1_1_1_1_1_1_1_1_1_1_1_1_1 call n ) w1 w16a w16l w16c S := by kernel_rfl
theorem a3_j1_1_1_1_1_1_1_1_1_1_1_1_1 (call : CallA) (n : Nat)  (w1 : Option Pos) (w5 : Int) (w16a : Option Pos) (w16l : Nat) (w16c : Cap) (w17 : Option Pos) (S : AS) : r3_j1_1_1_1_1_1_1_1_1_1_1_1_1 call n  w1 w5 w16a w16l w16c w17 S = b3_j1_1_1_1_1_1_1_1_1_1_1_1_1 call n (r3_j1_1_1_1_1_1_1_1_1_1_1_1_1_1 call n ) w1 w5 w16a w16l w16c w17 S := by kernel_rfl
theorem a3_j1_1_1_1_1_1_1_1_1_1_1_1_1_1 (call : CallA) (n : Nat)  (w1 : Option Pos) (w5 : Int) (w7 : Int) (w16a : Option Pos) (w16l : Nat) (w16c : Cap) (w17 : Option Pos) (w18 : Option Pos) (S : AS) : r3_j1_1_1_1_1_1_1_1_1_1_1_1_1_1 call n  w1 w5 w7 w16a w16l w16c w17 w18 S = b3_j1_1_1_1_1_1_1_1_1_1_1_1_1_1 call n (r3_j1_1_1_1_1_1_1_1_1_1_1_1_1_1_1 call n ) w1 w5 w7 w16a w16l w16c w17 w18 S := by kernel_rfl
theorem a3_j1_1_1_1_1_1_1_1_1_1_1_1_1_1_1 (call : CallA) (n : Nat)  (w1 : Option Pos) (w5 : Int) (w7 : Int) (w9 : Int) (w16a : Option Pos) (w16l : Nat) (w16c : Cap) (w17 : Option Pos) (w18 : Option Pos) (w19 : Option Pos) (S : AS) : r3_j1_1_1_1_1_1_1_1_1_1_1_1_1_1_1 call n  w1 w5 w7 w9 w16a w16l w16c w17 w18 w19 S = b3_j1_1_1_1_1_1_1_1_1_1_1_1_1_1_1 call n (r3_j1_1_1_1_1_1_1_1_1_1_1_1_1_1_1_1 call n ) w1 w5 w7 w9 w16a w16l w16c w17 w18 w19 S := by kernel_rfl
theorem a3_j1_1_1_1_1_1_1_1_1_1_1_1_1_1_1_1 (call : CallA) (n : Nat)  (w1 : Option Pos) (w5 : Int) (w7 : Int) (w9 : Int) (w11 : Int) (w16a : Option Pos) (w16l : Nat) (w16c : Cap) (w17 : Option Pos) (w18 : Option Pos) (w19 : Option Pos) (w20 : Option Pos) (S : AS) : r3_j1_1_1_1_1_1_1_1_1_1_1_1_1_1_1_1 call n  w1 w5 w7 w9 w11 w16a w16l w16c w17 w18 w19 w20 S = b3_j1_1_1_1_1_1_1_1_1_1_1_1_1_1_1_1 call n (r3_j1_1_1_1_1_1_1_1_1_1_1_1_1_1_1_1_1 call n ) w1 w5 w7 w9 w11 w16a w16l w16c w17 w18 w19 w20 S := by kernel_rfl
theorem a3_j1_1_1_1_1_1_1_1_1_1_1_1_1_1_1_1_1 (call : CallA) (n : Nat)  (w1 : Option Pos) (w5 : Int) (w7 : Int) (w9 : Int) (w11 : Int) (w13 : Int) (w16a : Option Pos) (w16l : Nat) (w16c : Cap) (w17 : Option Pos) (w18 : Option Pos) (w19 : Option Pos) (w20 : Option Pos) (w21a : Option Pos) (w21l : Nat) (w21c : Cap) (S : AS) : r3_j1_1_1_1_1_1_1_1_1_1_1_1_1_1_1_1_1 call n  w1 w5 w7 w9 w11 w13 w16a w16l w16c w17 w18 w19 w20 w21a w21l w21c S = b3_j1_1_1_1_1_1_1_1_1_1_1_1_1_1_1_1_1 call n (r3_j1_1_1_1_1_1_1_1_1_1_1_1_1_1_1_1_1_1 call n ) w1 w5 w7 w9 w11 w13 w16a w16l w16c w17 w18 w19 w20 w21a w21l w21c S := by kernel_rfl
theorem a3_j1_1_1_1_1_1_1_1_1_1_1_1_1_1_1_1_1_1 (call : CallA) (n : Nat)  (w1 : Option Pos) (w5 : Int) (w7 : Int) (w9 : Int) (w11 : Int) (w13 : Int) (w15 : Int) (w16a : Option Pos) (w16l : Nat) (w16c : Cap) (w17 : Option Pos) (w18 : Option Pos) (w19 : Option Pos) (w20 : Option Pos) (w21a : Option Pos) (w21l : Nat) (w21c : Cap) (w22a : Option Pos) (w22l : Nat) (w22c : Cap) (S : AS) : r3_j1_1_1_1_1_1_1_1_1_1_1_1_1_1_1_1_1_1 call n  w1 w5 w7 w9 w11 w13 w15 w16a w16l w16c w17 w18 w19 w20 w21a w21l w21c w22a w22l w22c S = b3_j1_1_1_1_1_1_1_1_1_1_1_1_1_1_1_1_1_1 call n  w1 w5 w7 w9 w11 w13 w15 w16a w16l w16c w17 w18 w19 w20 w21a w21l w21c w22a w22l w22c S := by kernel_rfl
theorem a3_entry (call : CallA) (n : Nat) (x0 : List AV) (S : AS) : evC E call n 3 (E.at 3 []) 0 (enumT 0 [(.agg x0)]) S (retK E (E.fn 3)) = b3_entry call n (r3_j1 call n ) x0 S := by kernel_rfl
def J3_j1_1_1_1_1_1_1_1_1_1_1_1_1_1_1_1_1_1 (call : CallA) (n : Nat)  (w1 : Option Pos) (w5 : Int) (w7 : Int) (w9 : Int) (w11 : Int) (w13 : Int) (w15 : Int) (w16a : Option Pos) (w16l : Nat) (w16c : Cap) (w17 : Option Pos) (w18 : Option Pos) (w19 : Option Pos) (w20 : Option Pos) (w21a : Option Pos) (w21l : Nat) (w21c : Cap) (w22a : Option Pos) (w22l : Nat) (w22c : Cap) (S : AS) : Option (AV × AS) := b3_j1_1_1_1_1_1_1_1_1_1_1_1_1_1_1_1_1_1 call n  w1 w5 w7 w9 w11 w13 w15 w16a w16l w16c w17 w18 w19 w20 w21a w21l w21c w22a w22l w22c S
theorem h3_j1_1_1_1_1_1_1_1_1_1_1_1_1_1_1_1_1_1 (call : CallA) (n : Nat)  : r3_j1_1_1_1_1_1_1_1_1_1_1_1_1_1_1_1_1_1 call n  = J3_j1_1_1_1_1_1_1_1_1_1_1_1_1_1_1_1_1_1 call n  := by
  funext w1 w5 w7 w9 w11 w13 w15 w16a w16l w16c w17 w18 w19 w20 w21a w21l w21c w22a w22l w22c S
  rw [J3_j1_1_1_1_1_1_1_1_1_1_1_1_1_1_1_1_1_1, a3_j1_1_1_1_1_1_1_1_1_1_1_1_1_1_1_1_1_1]
def J3_j1_1_1_1_1_1_1_1_1_1_1_1_1_1_1_1_1 (call : CallA) (n : Nat)  (w1 : Option Pos) (w5 : Int) (w7 : Int) (w9 : Int) (w11 : Int) (w13 : Int) (w16a : Option Pos) (w16l : Nat) (w16c : Cap) (w17 : Option Pos) (w18 : Option Pos) (w19 : Option Pos) (w20 : Option Pos) (w21a : Option Pos) (w21l : Nat) (w21c : Cap) (S : AS) : Option (AV × AS) := b3_j1_1_1_1_1_1_1_1_1_1_1_1_1_1_1_1_1 call n (J3_j1_1_1_1_1_1_1_1_1_1_1_1_1_1_1_1_1_1 call n ) w1 w5 w7 w9 w11 w13 w16a w16l w16c w17 w18 w19 w20 w21a w21l w21c S
theorem h3_j1_1_1_1_1_1_1_1_1_1_1_1_1_1_1_1_1 (call : CallA) (n : Nat)  : r3_j1_1_1_1_1_1_1_1_1_1_1_1_1_1_1_1_1 call n  = J3_j1_1_1_1_1_1_1_1_1_1_1_1_1_1_1_1_1 call n  := by
  funext w1 w5 w7 w9 w11 w13 w16a w16l w16c w17 w18 w19 w20 w21a w21l w21c S
  rw [J3_j1_1_1_1_1_1_1_1_1_1_1_1_1_1_1_1_1, a3_j1_1_1_1_1_1_1_1_1_1_1_1_1_1_1_1_1, h3_j1_1_1_1_1_1_1_1_1_1_1_1_1_1_1_1_1_1 call n ]
def J3_j1_1_1_1_1_1_1_1_1_1_1_1_1_1_1_1 (call : CallA) (n : Nat)  (w1 : Option Pos) (w5 : Int) (w7 : Int) (w9 : Int) (w11 : Int) (w16a : Option Pos) (w16l : Nat) (w16c : Cap) (w17 : Option Pos) (w18 : Option Pos) (w19 : Option Pos) (w20 : Option Pos) (S : AS) : Option (AV × AS) := b3_j1_1_1_1_1_1_1_1_1_1_1_1_1_1_1_1 call n (J3_j1_1_1_1_1_1_1_1_1_1_1_1_1_1_1_1_1 call n ) w1 w5 w7 w9 w11 w16a w16l w16c w17 w18 w19 w20 S
theorem h3_j1_1_1_1_1_1_1_1_1_1_1_1_1_1_1_1 (call : CallA) (n : Nat)  : r3_j1_1_1_1_1_1_1_1_1_1_1_1_1_1_1_1 call n  = J3_j1_1_1_1_1_1_1_1_1_1_1_1_1_1_1_1 call n  := by
  funext w1 w5 w7 w9 w11 w16a w16l w16c w17 w18 w19 w20 S
  rw [J3_j1_1_1_1_1_1_1_1_1_1_1_1_1_1_1_1, a3_j1_1_1_1_1_1_1_1_1_1_1_1_1_1_1_1, h3_j1_1_1_1_1_1_1_1_1_1_1_1_1_1_1_1_1 call n ]
def J3_j1_1_1_1_1_1_1_1_1_1_1_1_1_1_1 (call : CallA) (n : Nat)  (w1 : Option Pos) (w5 : Int) (w7 : Int) (w9 : Int) (w16a : Option Pos) (w16l : Nat) (w16c : Cap) (w17 : Option Pos) (w18 : Option Pos) (w19 : Option Pos) (S : AS) : Option (AV × AS) := b3_j1_1_1_1_1_1_1_1_1_1_1_1_1_1_1 call n (J3_j1_1_1_1_1_1_1_1_1_1_1_1_1_1_1_1 call n ) w1 w5 w7 w9 w16a w16l w16c w17 w18 w19 S
theorem h3_j1_1_1_1_1_1_1_1_1_1_1_1_1_1_1 (call : CallA) (n : Nat)  : r3_j1_1_1_1_1_1_1_1_1_1_1_1_1_1_1 call n  = J3_j1_1_1_1_1_1_1_1_1_1_1_1_1_1_1 call n  := by
  funext w1 w5 w7 w9 w16a w16l w16c w17 w18 w19 S
  rw [J3_j1_1_1_1_1_1_1_1_1_1_1_1_1_1_1, a3_j1_1_1_1_1_1_1_1_1_1_1_1_1_1_1, h3_j1_1_1_1_1_1_1_1_1_1_1_1_1_1_1_1 call n ]
def J3_j1_1_1_1_1_1_1_1_1_1_1_1_1_1 (call : CallA) (n : Nat)  (w1 : Option Pos) (w5 : Int) (w7 : Int) (w16a : Option Pos) (w16l : Nat) (w16c : Cap) (w17 : Option Pos) (w18 : Option Pos) (S : AS) : Option (AV × AS) := b3_j1_1_1_1_1_1_1_1_1_1_1_1_1_1 call n (J3_j1_1_1_1_1_1_1_1_1_1_1_1_1_1_1 call n ) w1 w5 w7 w16a w16l w16c w17 w18 S
theorem h3_j1_1_1_1_1_1_1_1_1_1_1_1_1_1 (call : CallA) (n : Nat)  : r3_j1_1_1_1_1_1_1_1_1_1_1_1_1_1 call n  = J3_j1_1_1_1_1_1_1_1_1_1_1_1_1_1 call n  := by
  funext w1 w5 w7 w16a w16l w16c w17 w18 S
  rw [J3_j1_1_1_1_1_1_1_1_1_1_1_1_1_1, a3_j1_1_1_1_1_1_1_1_1_1_1_1_1_1, h3_j1_1_1_1_1_1_1_1_1_1_1_1_1_1_1 call n ]
def J3_j1_1_1_1_1_1_1_1_1_1_1_1_1 (call : CallA) (n : Nat)  (w1 : Option Pos) (w5 : Int) (w16a : Option Pos) (w16l : Nat) (w16c : Cap) (w17 : Option Pos) (S : AS) : Option (AV × AS) := b3_j1_1_1_1_1_1_1_1_1_1_1_1_1 call n (J3_j1_1_1_1_1_1_1_1_1_1_1_1_1_1 call n ) w1 w5 w16a w16l w16c w17 S
theorem h3_j1_1_1_1_1_1_1_1_1_1_1_1_1 (call : CallA) (n : Nat)  : r3_j1_1_1_1_1_1_1_1_1_1_1_1_1 call n  = J3_j1_1_1_1_1_1_1_1_1_1_1_1_1 call n  := by
  funext w1 w5 w16a w16l w16c w17 S
  rw [J3_j1_1_1_1_1_1_1_1_1_1_1_1_1, a3_j1_1_1_1_1_1_1_1_1_1_1_1_1, h3_j1_1_1_1_1_1_1_1_1_1_1_1_1_1 call n ]
def J3_j1_1_1_1_1_1_1_1_1_1_1_1 (call : CallA) (n : Nat)  (w1 : Option Pos) (w16a : Option Pos) (w16l : Nat) (w16c : Cap) (S : AS) : Option (AV × AS) := b3_j1_1_1_1_1_1_1_1_1_1_1_1 call n (J3_j1_1_1_1_1_1_1_1_1_1_1_1_1 call n ) w1 w16a w16l w16c S
theorem h3_j1_1_1_1_1_1_1_1_1_1_1_1 (call : CallA) (n : Nat)  : r3_j1_1_1_1_1_1_1_1_1_1_1_1 call n  = J3_j1_1_1_1_1_1_1_1_1_1_1_1 call n  := by
  funext w1 w16a w16l w16c S
  rw [J3_j1_1_1_1_1_1_1_1_1_1_1_1, a3_j1_1_1_1_1_1_1_1_1_1_1_1, h3_j1_1_1_1_1_1_1_1_1_1_1_1_1 call n ]
def J3_j1_1_1_1_1_1_1_1_1_1_1 (call : CallA) (n : Nat)  (w1 : Option Pos) (S : AS) : Option (AV × AS) := b3_j1_1_1_1_1_1_1_1_1_1_1 call n (J3_j1_1_1_1_1_1_1_1_1_1_1_1 call n ) w1 S
theorem h3_j1_1_1_1_1_1_1_1_1_1_1 (call : CallA) (n : Nat)  : r3_j1_1_1_1_1_1_1_1_1_1_1 call n  = J3_j1_1_1_1_1_1_1_1_1_1_1 call n  := by
  funext w1 S
  rw [J3_j1_1_1_1_1_1_1_1_1_1_1, a3_j1_1_1_1_1_1_1_1_1_1_1, h3_j1_1_1_1_1_1_1_1_1_1_1_1 call n ]
def J3_j1_1_1_1_1_1_1_1_1_1 (call : CallA) (n : Nat)  (w1 : Option Pos) (w4a : Option Pos) (w4l : Nat) (w4c : Cap) (w5 : Int) (w6a : Option Pos) (w6l : Nat) (w6c : Cap) (w7 : Int) (w8a : Option Pos) (w8l : Nat) (w8c : Cap) (w9 : Int) (w10a : Option Pos) (w10l : Nat) (w10c : Cap) (w11 : Int) (w12a : Option Pos) (w12l : Nat) (w12c : Cap) (w13 : Int) (w14a : Option Pos) (w14l : Nat) (w14c : Cap) (w15 : Int) (S : AS) : Option (AV × AS) := b3_j1_1_1_1_1_1_1_1_1_1 call n (J3_j1_1_1_1_1_1_1_1_1_1_1 call n ) w1 w4a w4l w4c w5 w6a w6l w6c w7 w8a w8l w8c w9 w10a w10l w10c w11 w12a w12l w12c w13 w14a w14l w14c w15 S
theorem h3_j1_1_1_1_1_1_1_1_1_1 (call : CallA) (n : Nat)  : r3_j1_1_1_1_1_1_1_1_1_1 call n  = J3_j1_1_1_1_1_1_1_1_1_1 call n  := by
  funext w1 w4a w4l w4c w5 w6a w6l w6c w7 w8a w8l w8c w9 w10a w10l w10c w11 w12a w12l w12c w13 w14a w14l w14c w15 S
  rw [J3_j1_1_1_1_1_1_1_1_1_1, a3_j1_1_1_1_1_1_1_1_1_1, h3_j1_1_1_1_1_1_1_1_1_1_1 call n ]
def J3_j1_1_1_1_1_1_1_1_1 (call : CallA) (n : Nat)  (w1 : Option Pos) (w4a : Option Pos) (w4l : Nat) (w4c : Cap) (w5 : Int) (w6a : Option Pos) (w6l : Nat) (w6c : Cap) (w7 : Int) (w8a : Option Pos) (w8l : Nat) (w8c : Cap) (w9 : Int) (w10a : Option Pos) (w10l : Nat) (w10c : Cap) (w11 : Int) (w12a : Option Pos) (w12l : Nat) (w12c : Cap) (w13 : Int) (S : AS) : Option (AV × AS) := b3_j1_1_1_1_1_1_1_1_1 call n (J3_j1_1_1_1_1_1_1_1_1_1 call n ) w1 w4a w4l w4c w5 w6a w6l w6c w7 w8a w8l w8c w9 w10a w10l w10c w11 w12a w12l w12c w13 S
theorem h3_j1_1_1_1_1_1_1_1_1 (call : CallA) (n : Nat)  : r3_j1_1_1_1_1_1_1_1_1 call n  = J3_j1_1_1_1_1_1_1_1_1 call n  := by
  funext w1 w4a w4l w4c w5 w6a w6l w6c w7 w8a w8l w8c w9 w10a w10l w10c w11 w12a w12l w12c w13 S
  rw [J3_j1_1_1_1_1_1_1_1_1, a3_j1_1_1_1_1_1_1_1_1, h3_j1_1_1_1_1_1_1_1_1_1 call n ]
def J3_j1_1_1_1_1_1_1_1 (call : CallA) (n : Nat)  (w1 : Option Pos) (w4a : Option Pos) (w4l : Nat) (w4c : Cap) (w5 : Int) (w6a : Option Pos) (w6l : Nat) (w6c : Cap) (w7 : Int) (w8a : Option Pos) (w8l : Nat) (w8c : Cap) (w9 : Int) (w10a : Option Pos) (w10l : Nat) (w10c : Cap) (w11 : Int) (S : AS) : Option (AV × AS) := b3_j1_1_1_1_1_1_1_1 call n (J3_j1_1_1_1_1_1_1_1_1 call n ) w1 w4a w4l w4c w5 w6a w6l w6c w7 w8a w8l w8c w9 w10a w10l w10c w11 S
theorem h3_j1_1_1_1_1_1_1_1 (call : CallA) (n : Nat)  : r3_j1_1_1_1_1_1_1_1 call n  = J3_j1_1_1_1_1_1_1_1 call n  := by
  funext w1 w4a w4l w4c w5 w6a w6l w6c w7 w8a w8l w8c w9 w10a w10l w10c w11 S
  rw [J3_j1_1_1_1_1_1_1_1, a3_j1_1_1_1_1_1_1_1, h3_j1_1_1_1_1_1_1_1_1 call n ]
def J3_j1_1_1_1_1_1_1 (call : CallA) (n : Nat)  (w1 : Option Pos) (w4a : Option Pos) (w4l : Nat) (w4c : Cap) (w5 : Int) (w6a : Option Pos) (w6l : Nat) (w6c : Cap) (w7 : Int) (w8a : Option Pos) (w8l : Nat) (w8c : Cap) (w9 : Int) (S : AS) : Option (AV × AS) := b3_j1_1_1_1_1_1_1 call n (J3_j1_1_1_1_1_1_1_1 call n ) w1 w4a w4l w4c w5 w6a w6l w6c w7 w8a w8l w8c w9 S
theorem h3_j1_1_1_1_1_1_1 (call : CallA) (n : Nat)  : r3_j1_1_1_1_1_1_1 call n  = J3_j1_1_1_1_1_1_1 call n  := by
  funext w1 w4a w4l w4c w5 w6a w6l w6c w7 w8a w8l w8c w9 S
  rw [J3_j1_1_1_1_1_1_1, a3_j1_1_1_1_1_1_1, h3_j1_1_1_1_1_1_1_1 call n ]
def J3_j1_1_1_1_1_1 (call : CallA) (n : Nat)  (w1 : Option Pos) (w4a : Option Pos) (w4l : Nat) (w4c : Cap) (w5 : Int) (w6a : Option Pos) (w6l : Nat) (w6c : Cap) (w7 : Int) (S : AS) : Option (AV × AS) := b3_j1_1_1_1_1_1 call n (J3_j1_1_1_1_1_1_1 call n ) w1 w4a w4l w4c w5 w6a w6l w6c w7 S
theorem h3_j1_1_1_1_1_1 (call : CallA) (n : Nat)  : r3_j1_1_1_1_1_1 call n  = J3_j1_1_1_1_1_1 call n  := by
  funext w1 w4a w4l w4c w5 w6a w6l w6c w7 S
  rw [J3_j1_1_1_1_1_1, a3_j1_1_1_1_1_1, h3_j1_1_1_1_1_1_1 call n ]
def J3_j1_1_1_1_1 (call : CallA) (n : Nat)  (w1 : Option Pos) (w4a : Option Pos) (w4l : Nat) (w4c : Cap) (w5 : Int) (S : AS) : Option (AV × AS) := b3_j1_1_1_1_1 call n (J3_j1_1_1_1_1_1 call n ) w1 w4a w4l w4c w5 S
theorem h3_j1_1_1_1_1 (call : CallA) (n : Nat)  : r3_j1_1_1_1_1 call n  = J3_j1_1_1_1_1 call n  := by
  funext w1 w4a w4l w4c w5 S
  rw [J3_j1_1_1_1_1, a3_j1_1_1_1_1, h3_j1_1_1_1_1_1 call n ]
def J3_j1_1_1_1 (call : CallA) (n : Nat)  (w1 : Option Pos) (w3 : Option Pos) (S : AS) : Option (AV × AS) := b3_j1_1_1_1 call n (J3_j1_1_1_1_1 call n ) w1 w3 S
theorem h3_j1_1_1_1 (call : CallA) (n : Nat)  : r3_j1_1_1_1 call n  = J3_j1_1_1_1 call n  := by
  funext w1 w3 S
  rw [J3_j1_1_1_1, a3_j1_1_1_1, h3_j1_1_1_1_1 call n ]
def J3_j1_1_1 (call : CallA) (n : Nat)  (w1 : Option Pos) (w3 : Option Pos) (S : AS) : Option (AV × AS) := b3_j1_1_1 call n (J3_j1_1_1_1 call n ) w1 w3 S
theorem h3_j1_1_1 (call : CallA) (n : Nat)  : r3_j1_1_1 call n  = J3_j1_1_1 call n  := by
  funext w1 w3 S
  rw [J3_j1_1_1, a3_j1_1_1, h3_j1_1_1_1 call n ]
def J3_j1_1 (call : CallA) (n : Nat)  (w1 : Option Pos) (S : AS) : Option (AV × AS) := b3_j1_1 call n (J3_j1_1_1 call n ) w1 S
theorem h3_j1_1 (call : CallA) (n : Nat)  : r3_j1_1 call n  = J3_j1_1 call n  := by
  funext w1 S
  rw [J3_j1_1, a3_j1_1, h3_j1_1_1 call n ]
def J3_j1 (call : CallA) (n : Nat)  (w1 : Option Pos) (S : AS) : Option (AV × AS) := b3_j1 call n (J3_j1_1 call n ) w1 S
theorem h3_j1 (call : CallA) (n : Nat)  : r3_j1 call n  = J3_j1 call n  := by
  funext w1 S
  rw [J3_j1, a3_j1, h3_j1_1 call n ]
def J3 (call : CallA) (n : Nat) (x0 : List AV) (S : AS) : Option (AV × AS) := b3_entry call n (J3_j1 call n ) x0 S
theorem run3 (o : Orc) (n : Nat) (args : List AV) (S : AS) (ho : o 3 args = none) : evF E o (n + 1) (.fn 3) args S = evC E (evF E o n) n 3 (E.at 3 []) 0 (enumT 0 args) S (retK E (E.fn 3)) := by
  rw [evF, ho]; kernel_rfl
theorem J3_eq (call : CallA) (n : Nat) (x0 : List AV) (S : AS) : evC E call n 3 (E.at 3 []) 0 (enumT 0 [(.agg x0)]) S (retK E (E.fn 3)) = J3 call n x0 S := by
  rw [J3, a3_entry, h3_j1 call n ]
theorem F3 {o : Orc} (n : Nat) (x0 : List AV) (S : AS) (ho : ∀ args, o 3 args = none) : evF E o (n + 1) (.fn 3) [(.agg x0)] S = J3 (evF E o n) n x0 S := (run3 o n [(.agg x0)] S (ho _)).trans (J3_eq _ _ x0 S)
def b4_j1_1_1_1 (call : CallA) (n : Nat)  (j1_1_1_1_1_1 : Option Pos → AS → Option (AV × AS)) (w1 : Option Pos) (S : AS) : Option (AV × AS) :=
 gO w1 fun p28 =>
 S.ldn p28.1 (p28.2 + 7) 6 fun g29 =>
 callT call 10 [(.agg g29)] S fun v31 S30 =>
 atL v31 0 fun v32a v32l v32c =>
 atI .i64 v31 1 fun v33 =>
 callI .i64 call 15 [(.int .i64 v33)] S30 fun v35 S34 =>
 cond (v35 == 0) (
 callT call 20 [(.sl v32a v32l v32c)] S34 fun v37 S36 =>
 atG 6 v37 0 fun g38 =>
 atI .i64 v37 1 fun v39 =>
 newA S36 (.cells [(.int .u64 0), (.int .u64 0), (.int .u64 0), (.int .u64 0), (.int .u64 0), (.int .u64 0)]) fun b40 S41 =>
 ifO (g38.length = 6) <|
 S41.stn (.rw b40) 0 g38 fun S42 =>
 callI .i64 call 15 [(.int .i64 v39)] S42 fun v44 S43 =>
 cond (v44 != 0) (
 some ((.bool false), S43)) (
 S43.ldn (.rw b40) 0 6 fun g45 =>
 gO w1 fun p46 =>
 S43.ldn p46.1 (p46.2 + 7) 6 fun g47 =>
 aggNe ty27 g45 g47 fun b48 =>
 cond b48 (
 some ((.bool false), S43)) (
 j1_1_1_1_1_1 w1 S43))) (
 j1_1_1_1_1_1 w1 S34)

def b4_j1_1_1_1_1_1 (call : CallA) (n : Nat)  (j1_1_1_1_1_1_1_1 : Option Pos → AS → Option (AV × AS)) (w1 : Option Pos) (S : AS) : Option (AV × AS) :=
 gO w1 fun p49 =>
 ldL S p49.1 (p49.2 + 13) fun v50a v50l v50c =>
 callL call 13 [(.sl v50a v50l v50c)] S fun v52a v52l v52c S51 =>
 callT call 12 [(.sl v52a v52l v52c)] S51 fun v54 S53 =>
 atL v54 0 fun v55a v55l v55c =>
 atI .i64 v54 1 fun v56 =>
 callI .i64 call 15 [(.int .i64 v56)] S53 fun v58 S57 =>
 cond (v58 == 0) (
 callT call 22 [(.sl v55a v55l v55c)] S57 fun v60 S59 =>
 atL v60 0 fun v61a v61l v61c =>
 atI .i64 v60 1 fun v62 =>
 callI .i64 call 15 [(.int .i64 v62)] S59 fun v64 S63 =>
 cond (v64 != 0) (
 some ((.bool false), S63)) (
 gO w1 fun p65 =>
 ldL S63 p65.1 (p65.2 + 13) fun v66a v66l v66c =>
 callB call 25 [(.sl v61a v61l v61c), (.sl v66a v66l v66c)] S63 fun v68 S67 =>
 cond (!v68) (
 some ((.bool false), S67)) (
 gO w1 fun p69 =>
 ldL S67 p69.1 (p69.2 + 13) fun v70a v70l v70c =>
 callI .i64 call 16 [(.int .i64 ((v70l : Nat) : Int))] S67 fun v72 S71 =>
 cond (v72 != (IntKind.wrap .i64 (Int.tdiv (IntKind.wrap .i64 ((IntKind.wrap .i64 (((v55l : Nat) : Int) + 336)) - 1)) 336))) (
 some ((.bool false), S71)) (
 j1_1_1_1_1_1_1_1 w1 S71)))) (
 j1_1_1_1_1_1_1_1 w1 S57)

def b4_j1_1_1_1_1_1_1_1 (call : CallA) (n : Nat)   (w1 : Option Pos) (S : AS) : Option (AV × AS) :=
 newA S (.cells []) fun b73 S74 =>
 gO w1 fun p75 =>
 ldL S74 p75.1 (p75.2 + 14) fun v76a v76l v76c =>
 appendA 1 1 S74 (some (.rw b73, 0)) 0 (.ex 0) v76l (firstA S74 1 v76l (.sl v76a v76l v76c)) fun v77a v77l v77c S78 =>
 callT call 22 [(.sl v77a v77l v77c)] S78 fun v80 S79 =>
 atL v80 0 fun v81a v81l v81c =>
 atI .i64 v80 1 fun v82 =>
 callI .i64 call 15 [(.int .i64 v82)] S79 fun v84 S83 =>
 cond (v84 == 0) (
 callT call 12 [(.sl v81a v81l v81c)] S83 fun v86 S85 =>
 atL v86 0 fun v87a v87l v87c =>
 atI .i64 v86 1 fun v88 =>
 callI .i64 call 15 [(.int .i64 v88)] S85 fun v90 S89 =>
 cond (v90 != 0) (
 some ((.bool false), S89)) (
 bytesStr S89 v87a v87l fun s91 =>
 gO w1 fun p92 =>
 ldL S89 p92.1 (p92.2 + 14) fun v93a v93l v93c =>
 bytesStr S89 v93a v93l fun s94 =>
 cond (!(s91 == s94)) (
 some ((.bool false), S89)) (
 callB call 7 [] S89 fun v96 S95 =>
 some ((.bool v96), S95)))) (
 callB call 7 [] S83 fun v98 S97 =>
 some ((.bool v98), S97))

def b4_entry (call : CallA) (n : Nat)  (j1_1_1_1 : Option Pos → AS → Option (AV × AS)) (x0 : List AV) (S : AS) : Option (AV × AS) :=
 ifO (x0.length = 16) <|
 newA S (.cells x0) fun b1 S2 =>
 S2.ldn (.rw b1) 0 16 fun g3 =>
 callB call 6 [(.agg g3)] S2 fun v5 S4 =>
 cond v5 (
 callB call 7 [] S4 fun v7 S6 =>
 some ((.bool v7), S6)) (
 S4.ldn (.rw b1) 0 7 fun g8 =>
 callT call 8 [(.agg g8)] S4 fun v10 S9 =>
 atL v10 0 fun v11a v11l v11c =>
 atI .i64 v10 1 fun v12 =>
 callI .i64 call 15 [(.int .i64 v12)] S9 fun v14 S13 =>
 cond (v14 == 0) (
 callT call 18 [(.sl v11a v11l v11c)] S13 fun v16 S15 =>
 atG 7 v16 0 fun g17 =>
 atI .i64 v16 1 fun v18 =>
 newA S15 (.cells [(.int .u64 0), (.int .u64 0), (.int .u64 0), (.int .u64 0), (.int .i64 0), (.int .i64 0), (.sl none 0 (.ex 0))]) fun b19 S20 =>
 ifO (g17.length = 7) <|
 S20.stn (.rw b19) 0 g17 fun S21 =>
 callI .i64 call 15 [(.int .i64 v18)] S21 fun v23 S22 =>
 cond (v23 != 0) (
 some ((.bool false), S22)) (
 S22.ldn (.rw b19) 0 7 fun g24 =>
 S22.ldn (.rw b1) 0 7 fun g25 =>
 callB call 24 [(.agg g24), (.agg g25)] S22 fun v27 S26 =>
 cond (!v27) (
 some ((.bool false), S26)) (
 cond (((v11l : Nat) : Int) != 384) (
 some ((.bool false), S26)) (
 j1_1_1_1 (some ((.rw b1), 0)) S26)))) (
 j1_1_1_1 (some ((.rw b1), 0)) S13))

def r4_j1_1_1_1 (call : CallA) (n : Nat)  (w1 : Option Pos) (S : AS) : Option (AV × AS) := evC E call n 4 (E.at 4 [1, 1, 1, 1]) 0 [(1, (.ptr w1))] S (retK E (E.fn 4))
def r4_j1_1_1_1_1_1 (call : CallA) (n : Nat)  (w1 : Option Pos) (S : AS) : Option (AV × AS) := evC E call n 4 (E.at 4 [1, 1, 1, 1, 1, 1]) 0 [(1, (.ptr w1))] S (retK E (E.fn 4))
def r4_j1_1_1_1_1_1_1_1 (call : CallA) (n : Nat)  (w1 : Option Pos) (S : AS) : Option (AV × AS) := evC E call n 4 (E.at 4 [1, 1, 1, 1, 1, 1, 1, 1]) 0 [(1, (.ptr w1))] S (retK E (E.fn 4))
theorem a4_j1_1_1_1 (call : CallA) (n : Nat)  (w1 : Option Pos) (S : AS) : r4_j1_1_1_1 call n  w1 S = b4_j1_1_1_1 call n (r4_j1_1_1_1_1_1 call n ) w1 S := by kernel_rfl
theorem a4_j1_1_1_1_1_1 (call : CallA) (n : Nat)  (w1 : Option Pos) (S : AS) : r4_j1_1_1_1_1_1 call n  w1 S = b4_j1_1_1_1_1_1 call n (r4_j1_1_1_1_1_1_1_1 call n ) w1 S := by kernel_rfl
theorem a4_j1_1_1_1_1_1_1_1 (call : CallA) (n : Nat)  (w1 : Option Pos) (S : AS) : r4_j1_1_1_1_1_1_1_1 call n  w1 S = b4_j1_1_1_1_1_1_1_1 call n  w1 S := by kernel_rfl
theorem a4_entry (call : CallA) (n : Nat) (x0 : List AV) (S : AS) : evC E call n 4 (E.at 4 []) 0 (enumT 0 [(.agg x0)]) S (retK E (E.fn 4)) = b4_entry call n (r4_j1_1_1_1 call n ) x0 S := by kernel_rfl
def J4_j1_1_1_1_1_1_1_1 (call : CallA) (n : Nat)  (w1 : Option Pos) (S : AS) : Option (AV × AS) := b4_j1_1_1_1_1_1_1_1 call n  w1 S
theorem h4_j1_1_1_1_1_1_1_1 (call : CallA) (n : Nat)  : r4_j1_1_1_1_1_1_1_1 call n  = J4_j1_1_1_1_1_1_1_1 call n  := by
  funext w1 S
  rw [J4_j1_1_1_1_1_1_1_1, a4_j1_1_1_1_1_1_1_1]
def J4_j1_1_1_1_1_1 (call : CallA) (n : Nat)  (w1 : Option Pos) (S : AS) : Option (AV × AS) := b4_j1_1_1_1_1_1 call n (J4_j1_1_1_1_1_1_1_1 call n ) w1 S
theorem h4_j1_1_1_1_1_1 (call : CallA) (n : Nat)  : r4_j1_1_1_1_1_1 call n  = J4_j1_1_1_1_1_1 call n  := by
  funext w1 S
  rw [J4_j1_1_1_1_1_1, a4_j1_1_1_1_1_1, h4_j1_1_1_1_1_1_1_1 call n ]
def J4_j1_1_1_1 (call : CallA) (n : Nat)  (w1 : Option Pos) (S : AS) : Option (AV × AS) := b4_j1_1_1_1 call n (J4_j1_1_1_1_1_1 call n ) w1 S
theorem h4_j1_1_1_1 (call : CallA) (n : Nat)  : r4_j1_1_1_1 call n  = J4_j1_1_1_1 call n  := by
  funext w1 S
  rw [J4_j1_1_1_1, a4_j1_1_1_1, h4_j1_1_1_1_1_1 call n ]
def J4 (call : CallA) (n : Nat) (x0 : List AV) (S : AS) : Option (AV × AS) := b4_entry call n (J4_j1_1_1_1 call n ) x0 S
theorem run4 (o : Orc) (n : Nat) (args : List AV) (S : AS) (ho : o 4 args = none) : evF E o (n + 1) (.fn 4) args S = evC E (evF E o n) n 4 (E.at 4 []) 0 (enumT 0 args) S (retK E (E.fn 4)) := by
  rw [evF, ho]; kernel_rfl
theorem J4_eq (call : CallA) (n : Nat) (x0 : List AV) (S : AS) : evC E call n 4 (E.at 4 []) 0 (enumT 0 [(.agg x0)]) S (retK E (E.fn 4)) = J4 call n x0 S := by
  rw [J4, a4_entry, h4_j1_1_1_1 call n ]
theorem F4 {o : Orc} (n : Nat) (x0 : List AV) (S : AS) (ho : ∀ args, o 4 args = none) : evF E o (n + 1) (.fn 4) [(.agg x0)] S = J4 (evF E o n) n x0 S := (run4 o n [(.agg x0)] S (ho _)).trans (J4_eq _ _ x0 S)
def b5_entry (call : CallA) (n : Nat)    (S : AS) : Option (AV × AS) :=
 callL call 27 [(.int .u8 1)] S fun v2a v2l v2c S1 =>
 newA S1 (.cells [(.int .i64 0), (.sl v2a v2l v2c)]) fun b3 S4 =>
 callT call 26 [(.ptr none), (.sl (some (.rw b3, 0)) 1 (.ex 1))] S4 fun v6 S5 =>
 atI .u64 v6 0 fun v7 =>
 atI .i64 v6 1 fun v8 =>
 callT call 28 [.nilIface, (.int .i64 0), (.int .i64 8)] S5 fun v10 S9 =>
 atP v10 0 fun v11 =>
 atL v10 1 fun v12a v12l v12c =>
 atI .i64 v10 2 fun v13 =>
 callB call 7 [] S9 fun v15 S14 =>
 cond v15 (
 cond (v7 == 0) (
 callI .i64 call 15 [(.int .i64 v8)] S14 fun v17 S16 =>
 cond (v17 == 7) (
 callI .i64 call 29 [(.ptr none)] S16 fun v19 S18 =>
 callI .i64 call 15 [(.int .i64 v19)] S18 fun v21 S20 =>
 cond (v21 == 7) (
 callI .i64 call 30 [(.ptr none), (.int .u64 0)] S20 fun v23 S22 =>
 callI .i64 call 15 [(.int .i64 v23)] S22 fun v25 S24 =>
 cond (v25 == 7) (
 callI .u64 call 31 [(.ptr none)] S24 fun v27 S26 =>
 cond (v27 == 0) (
 callI .u64 call 32 [(.ptr none)] S26 fun v29 S28 =>
 cond (v29 == 0) (
 callI .u64 call 33 [(.ptr none)] S28 fun v31 S30 =>
 cond (v31 == 0) (
 callI .i64 call 34 [(.ptr none)] S30 fun v33 S32 =>
 cond (v33 == 0) (
 callI .u64 call 35 [(.ptr none)] S32 fun v35 S34 =>
 cond (v35 == 0) (
 cond v11.isNone (
 cond (((v12l : Nat) : Int) == 0) (
 callI .i64 call 15 [(.int .i64 v13)] S34 fun v37 S36 =>
 cond (v37 == 7) (
 callI .i64 call 36 [.nilIface, (.int .i64 0), (.int .i64 8)] S36 fun v39 S38 =>
 callI .i64 call 15 [(.int .i64 v39)] S38 fun v41 S40 =>
 some ((.bool (v41 == 7)), S40)) (
 some ((.bool false), S36))) (
 some ((.bool false), S34))) (
 some ((.bool false), S34))) (
 some ((.bool false), S34))) (
 some ((.bool false), S32))) (
 some ((.bool false), S30))) (
 some ((.bool false), S28))) (
 some ((.bool false), S26))) (
 some ((.bool false), S24))) (
 some ((.bool false), S20))) (
 some ((.bool false), S16))) (
 some ((.bool false), S14))) (
 some ((.bool false), S14))

theorem a5_entry (call : CallA) (n : Nat)  (S : AS) : evC E call n 5 (E.at 5 []) 0 (enumT 0 []) S (retK E (E.fn 5)) = b5_entry call n   S := by kernel_rfl
def J5 (call : CallA) (n : Nat)  (S : AS) : Option (AV × AS) := b5_entry call n   S
theorem run5 (o : Orc) (n : Nat) (args : List AV) (S : AS) (ho : o 5 args = none) : evF E o (n + 1) (.fn 5) args S = evC E (evF E o n) n 5 (E.at 5 []) 0 (enumT 0 args) S (retK E (E.fn 5)) := by
  rw [evF, ho]; kernel_rfl
theorem J5_eq (call : CallA) (n : Nat)  (S : AS) : evC E call n 5 (E.at 5 []) 0 (enumT 0 []) S (retK E (E.fn 5)) = J5 call n  S := by
  rw [J5, a5_entry]
theorem F5 {o : Orc} (n : Nat)  (S : AS) (ho : ∀ args, o 5 args = none) : evF E o (n + 1) (.fn 5) [] S = J5 (evF E o n) n  S := (run5 o n [] S (ho _)).trans (J5_eq _ _  S)
def b6_l1_1_0_1_0 (call : CallA) (n : Nat)  (l1_1_0_1_0 : Option Pos → Int → Int → AS → Option (AV × AS)) (j1_1_1 : Option Pos → Int → AS → Option (AV × AS)) (w1 : Option Pos) (w3 : Int) (w4 : Int) (S : AS) : Option (AV × AS) :=
 gO w1 fun p5 =>
 ldL S p5.1 (p5.2 + 13) fun v6a v6l v6c =>
 cond (decide (w4 < ((v6l : Nat) : Int))) (
 cond (decide (w4 < 100)) (
 gO w1 fun p7 =>
 ldL S p7.1 (p7.2 + 13) fun v8a v8l v8c =>
 ixSl 2 v8a v8l w4 fun p9 =>
 ldL S p9.1 (p9.2 + 1) fun v10a v10l v10c =>
 l1_1_0_1_0 w1 (IntKind.wrap .i64 (w3 + ((v10l : Nat) : Int))) (IntKind.wrap .i64 (w4 + 1)) S) (
 j1_1_1 w1 w3 S)) (
 j1_1_1 w1 w3 S)

def b6_j1_1_1 (call : CallA) (n : Nat)   (w1 : Option Pos) (w3 : Int) (S : AS) : Option (AV × AS) :=
 cond (decide (w3 > 60000)) (
 some ((.bool true), S)) (
 gO w1 fun p11 =>
 ldL S p11.1 (p11.2 + 13) fun v12a v12l v12c =>
 some ((.bool (decide (((v12l : Nat) : Int) ≥ 100))), S))

def b6_entry (call : CallA) (n : Nat)  (l1_1_0_1_0 : Option Pos → Int → Int → AS → Option (AV × AS)) (x0 : List AV) (S : AS) : Option (AV × AS) :=
 ifO (x0.length = 16) <|
 newA S (.cells x0) fun b1 S2 =>
 ldL S2 (.rw b1) 6 fun v3a v3l v3c =>
 ldL S2 (.rw b1) 14 fun v4a v4l v4c =>
 l1_1_0_1_0 (some ((.rw b1), 0)) (IntKind.wrap .i64 (((v3l : Nat) : Int) + ((v4l : Nat) : Int))) 0 S2

def r6_l1_1_0_1_0 (call : CallA) (n : Nat)  (m : Nat) (w1 : Option Pos) (w3 : Int) (w4 : Int) (S : AS) : Option (AV × AS) := loopN (evC E call n 6 (E.at 6 [1, 1, 0, 1, 0, 0]) 0) [1, 3, 4] m [(1, (.ptr w1)), (3, (.int .i64 w3)), (4, (.int .i64 w4))] S (kBlk 0 (kSeq E call n 6 (E.at 6 [1, 1, 1]) 0 (retK E (E.fn 6))))
def r6_j1_1_1 (call : CallA) (n : Nat)  (w1 : Option Pos) (w3 : Int) (S : AS) : Option (AV × AS) := evC E call n 6 (E.at 6 [1, 1, 1]) 0 [(1, (.ptr w1)), (3, (.int .i64 w3))] S (retK E (E.fn 6))
theorem a6_l1_1_0_1_0 (call : CallA) (n : Nat)  (m : Nat) (w1 : Option Pos) (w3 : Int) (w4 : Int) (S : AS) : r6_l1_1_0_1_0 call n  (m + 1) w1 w3 w4 S = b6_l1_1_0_1_0 call n (r6_l1_1_0_1_0 call n  m) (r6_j1_1_1 call n ) w1 w3 w4 S := by kernel_rfl
theorem a6_j1_1_1 (call : CallA) (n : Nat)  (w1 : Option Pos) (w3 : Int) (S : AS) : r6_j1_1_1 call n  w1 w3 S = b6_j1_1_1 call n  w1 w3 S := by kernel_rfl
theorem a6_entry (call : CallA) (n : Nat) (x0 : List AV) (S : AS) : evC E call n 6 (E.at 6 []) 0 (enumT 0 [(.agg x0)]) S (retK E (E.fn 6)) = b6_entry call n (r6_l1_1_0_1_0 call n  n) x0 S := by kernel_rfl
def J6_j1_1_1 (call : CallA) (n : Nat)  (w1 : Option Pos) (w3 : Int) (S : AS) : Option (AV × AS) := b6_j1_1_1 call n  w1 w3 S
theorem h6_j1_1_1 (call : CallA) (n : Nat)  : r6_j1_1_1 call n  = J6_j1_1_1 call n  := by
  funext w1 w3 S
  rw [J6_j1_1_1, a6_j1_1_1]
def J6_l1_1_0_1_0 (call : CallA) (n : Nat)  (m : Nat) : Option Pos → Int → Int → AS → Option (AV × AS) := Nat.rec (motive := fun _ => Option Pos → Int → Int → AS → Option (AV × AS)) (fun _ _ _ _ => none) (fun mK ih w1 w3 w4 S => b6_l1_1_0_1_0 call n ih (J6_j1_1_1 call n ) w1 w3 w4 S) m
theorem J6_l1_1_0_1_0_succ (call : CallA) (n : Nat)  (m : Nat) (w1 : Option Pos) (w3 : Int) (w4 : Int) (S : AS) : J6_l1_1_0_1_0 call n  (m + 1) w1 w3 w4 S = b6_l1_1_0_1_0 call n (J6_l1_1_0_1_0 call n  m) (J6_j1_1_1 call n ) w1 w3 w4 S := rfl
theorem h6_l1_1_0_1_0 (call : CallA) (n : Nat)  (m : Nat) : r6_l1_1_0_1_0 call n  m = J6_l1_1_0_1_0 call n  m := by
  induction m with
  | zero => rfl
  | succ m ih =>
    funext w1 w3 w4 S
    rw [J6_l1_1_0_1_0_succ, a6_l1_1_0_1_0, h6_j1_1_1 call n , ih]
def J6 (call : CallA) (n : Nat) (x0 : List AV) (S : AS) : Option (AV × AS) := b6_entry call n (J6_l1_1_0_1_0 call n  n) x0 S
theorem run6 (o : Orc) (n : Nat) (args : List AV) (S : AS) (ho : o 6 args = none) : evF E o (n + 1) (.fn 6) args S = evC E (evF E o n) n 6 (E.at 6 []) 0 (enumT 0 args) S (retK E (E.fn 6)) := by
  rw [evF, ho]; kernel_rfl
theorem J6_eq (call : CallA) (n : Nat) (x0 : List AV) (S : AS) : evC E call n 6 (E.at 6 []) 0 (enumT 0 [(.agg x0)]) S (retK E (E.fn 6)) = J6 call n x0 S := by
  rw [J6, a6_entry, h6_l1_1_0_1_0 call n  n]
theorem F6 {o : Orc} (n : Nat) (x0 : List AV) (S : AS) (ho : ∀ args, o 6 args = none) : evF E o (n + 1) (.fn 6) [(.agg x0)] S = J6 (evF E o n) n x0 S := (run6 o n [(.agg x0)] S (ho _)).trans (J6_eq _ _ x0 S)
end
end Go.Jn
