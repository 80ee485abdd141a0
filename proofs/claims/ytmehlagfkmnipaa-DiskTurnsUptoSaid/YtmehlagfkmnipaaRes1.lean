/- Plain readings of the functions, and that they are what the evaluator does: by program. -/
import Derived.Test.YtmehlagfkmnipaaGrRes
import Derived.Test.YtmehlagfkmnipaaENV
import Derived.KernelRfl
set_option maxRecDepth 100000
set_option linter.unusedVariables false
namespace Go.Dk
open Go.Gr
noncomputable section
def b7_l1_1_1_1_1_1_1_1_0_1_0 (call : CallA) (n : Nat) (l1_1_1_1_1_1_1_1_0_1_0 : Int → Option Pos → Nat → Cap → Option Pos → Option Pos → Nat → Cap → Option Pos → Option Pos → Option Pos → Option Pos → Option Pos → Nat → Cap → Int → AS → Option (AV × AS)) (j1_1_1_1_1_1_1_1_1 : Int → Option Pos → Nat → Cap → Option Pos → Option Pos → Nat → Cap → Option Pos → Option Pos → Option Pos → Option Pos → Option Pos → Nat → Cap → AS → Option (AV × AS)) (w0 : Int) (w2a : Option Pos) (w2l : Nat) (w2c : Cap) (w7 : Option Pos) (w9a : Option Pos) (w9l : Nat) (w9c : Cap) (w10 : Option Pos) (w11 : Option Pos) (w12 : Option Pos) (w13 : Option Pos) (w14a : Option Pos) (w14l : Nat) (w14c : Cap) (w15 : Int) (S : AS) : Option (AV × AS) :=
 cond (decide (w15 < ((w9l : Nat) : Int))) (
 newA S (.cells [(.int .i64 w15)]) fun b29 S30 =>
 appendA 1 8 S30 w14a w14l w14c 1 (firstA S30 1 1 (.sl (some (.rw b29, 0)) 1 (.ex 1))) fun v31a v31l v31c S32 =>
 l1_1_1_1_1_1_1_1_0_1_0 w0 w2a w2l w2c w7 w9a w9l w9c w10 w11 w12 w13 v31a v31l v31c (IntKind.wrap .i64 (w15 + 1)) S32) (
 j1_1_1_1_1_1_1_1_1 w0 w2a w2l w2c w7 w9a w9l w9c w10 w11 w12 w13 w14a w14l w14c S)

def b7_j1_1_1_1_1_1_1_1_1 (call : CallA) (n : Nat) (l1_1_1_1_1_1_1_1_1_1_1_1_1_0_1_0 : Int → AV → Option Pos → Option Pos → Nat → Cap → Option Pos → Option Pos → Option Pos → Nat → Cap → Int → AS → Option (AV × AS)) (w0 : Int) (w2a : Option Pos) (w2l : Nat) (w2c : Cap) (w7 : Option Pos) (w9a : Option Pos) (w9l : Nat) (w9c : Cap) (w10 : Option Pos) (w11 : Option Pos) (w12 : Option Pos) (w13 : Option Pos) (w14a : Option Pos) (w14l : Nat) (w14c : Cap) (S : AS) : Option (AV × AS) :=
 callT call 32 [(.ptr w10), (.sl w14a w14l w14c)] S fun v34 S33 =>
 callT call 32 [(.ptr w11), (.sl none 0 (.ex 0))] S33 fun v36 S35 =>
 newA S35 (.cells []) fun b37 S38 =>
 appendA 1 8 S38 (some (.rw b37, 0)) 0 (.ex 0) w2l (firstA S38 1 w2l (.sl w2a w2l w2c)) fun v39a v39l v39c S40 =>
 callT call 32 [(.ptr w13), (.sl v39a v39l v39c)] S40 fun v42 S41 =>
 callI .i64 call 17 [(.ptr w12)] S41 fun v44 S43 =>
 callI .i64 call 12 [(.int .i64 v44)] S43 fun v46 S45 =>
 cond (v46 != 0) (
 some ((.bool false), S45)) (
 callB call 21 [(.ptr w10), (.ptr w12)] S45 fun v48 S47 =>
 cond (!v48) (
 some ((.bool false), S47)) (
 callL call 16 [(.ptr w13)] S47 fun v50a v50l v50c S49 =>
 cond (((v50l : Nat) : Int) != 0) (
 some ((.bool false), S49)) (
 l1_1_1_1_1_1_1_1_1_1_1_1_1_0_1_0 w0 .undef w7 w9a w9l w9c w11 w13 w14a w14l w14c 0 S49)))

def b7_l1_1_1_1_1_1_1_1_1_1_1_1_1_0_1_0 (call : CallA) (n : Nat) (l1_1_1_1_1_1_1_1_1_1_1_1_1_0_1_0_0_1_0_0_1_1_1_1_0_1_0 : Int → Option Pos → Option Pos → Nat → Cap → Option Pos → Option Pos → Option Pos → Nat → Cap → Int → Option Pos → Nat → Cap → Option Pos → Nat → Cap → Option Pos → Nat → Cap → Bool → Int → AS → Option (AV × AS)) (j1_1_1_1_1_1_1_1_1_1_1_1_1_1 : Option Pos → Option Pos → Nat → Cap → AS → Option (AV × AS)) (w0 : Int) (w6 : AV) (w7 : Option Pos) (w9a : Option Pos) (w9l : Nat) (w9c : Cap) (w11 : Option Pos) (w13 : Option Pos) (w14a : Option Pos) (w14l : Nat) (w14c : Cap) (w16 : Int) (S : AS) : Option (AV × AS) :=
 cond (decide (w16 < w0)) (
 callT call 25 [(.ptr w7), (.int .i64 w16)] S fun v52 S51 =>
 atL v52 0 fun v53a v53l v53c =>
 atB v52 1 fun v54 =>
 callT call 25 [(.ptr w11), (.int .i64 w16)] S51 fun v56 S55 =>
 atL v56 0 fun v57a v57l v57c =>
 atB v56 1 fun v58 =>
 callT call 25 [(.ptr w13), (.int .i64 w16)] S55 fun v60 S59 =>
 atL v60 0 fun v61a v61l v61c =>
 atB v60 1 fun v62 =>
 bytesStr S59 v61a v61l fun s63 =>
 bytesStr S59 v53a v53l fun s64 =>
 l1_1_1_1_1_1_1_1_1_1_1_1_1_0_1_0_0_1_0_0_1_1_1_1_0_1_0 w0 w7 w9a w9l w9c w11 w13 w14a w14l w14c w16 v53a v53l v53c v57a v57l v57c v61a v61l v61c (s63 == s64) 0 S59) (
 j1_1_1_1_1_1_1_1_1_1_1_1_1_1 w13 w14a w14l w14c S)

def b7_l1_1_1_1_1_1_1_1_1_1_1_1_1_0_1_0_0_1_0_0_1_1_1_1_0_1_0 (call : CallA) (n : Nat) (l1_1_1_1_1_1_1_1_1_1_1_1_1_0_1_0_0_1_0_0_1_1_1_1_0_1_0 : Int → Option Pos → Option Pos → Nat → Cap → Option Pos → Option Pos → Option Pos → Nat → Cap → Int → Option Pos → Nat → Cap → Option Pos → Nat → Cap → Option Pos → Nat → Cap → Bool → Int → AS → Option (AV × AS)) (j1_1_1_1_1_1_1_1_1_1_1_1_1_0_1_0_0_1_0_0_1_1_1_1_1 : Int → Option Pos → Option Pos → Nat → Cap → Option Pos → Option Pos → Option Pos → Nat → Cap → Int → Option Pos → Nat → Cap → Option Pos → Nat → Cap → Bool → AS → Option (AV × AS)) (w0 : Int) (w7 : Option Pos) (w9a : Option Pos) (w9l : Nat) (w9c : Cap) (w11 : Option Pos) (w13 : Option Pos) (w14a : Option Pos) (w14l : Nat) (w14c : Cap) (w16 : Int) (w17a : Option Pos) (w17l : Nat) (w17c : Cap) (w19a : Option Pos) (w19l : Nat) (w19c : Cap) (w21a : Option Pos) (w21l : Nat) (w21c : Cap) (w23 : Bool) (w24 : Int) (S : AS) : Option (AV × AS) :=
 cond (decide (w24 < ((w9l : Nat) : Int))) (
 cond w23 (
 l1_1_1_1_1_1_1_1_1_1_1_1_1_0_1_0_0_1_0_0_1_1_1_1_0_1_0 w0 w7 w9a w9l w9c w11 w13 w14a w14l w14c w16 w17a w17l w17c w19a w19l w19c w21a w21l w21c true (IntKind.wrap .i64 (w24 + 1)) S) (
 ixSl 2 w9a w9l w24 fun p65 =>
 ldI .i64 S p65.1 p65.2 fun v66 =>
 cond (v66 == w16) (
 ixSl 2 w9a w9l w24 fun p67 =>
 ldS S p67.1 (p67.2 + 1) fun v68 =>
 bytesStr S w21a w21l fun s69 =>
 l1_1_1_1_1_1_1_1_1_1_1_1_1_0_1_0_0_1_0_0_1_1_1_1_0_1_0 w0 w7 w9a w9l w9c w11 w13 w14a w14l w14c w16 w17a w17l w17c w19a w19l w19c w21a w21l w21c (v68 == s69) (IntKind.wrap .i64 (w24 + 1)) S) (
 l1_1_1_1_1_1_1_1_1_1_1_1_1_0_1_0_0_1_0_0_1_1_1_1_0_1_0 w0 w7 w9a w9l w9c w11 w13 w14a w14l w14c w16 w17a w17l w17c w19a w19l w19c w21a w21l w21c false (IntKind.wrap .i64 (w24 + 1)) S))) (
 j1_1_1_1_1_1_1_1_1_1_1_1_1_0_1_0_0_1_0_0_1_1_1_1_1 w0 w7 w9a w9l w9c w11 w13 w14a w14l w14c w16 w17a w17l w17c w19a w19l w19c w23 S)

def b7_j1_1_1_1_1_1_1_1_1_1_1_1_1_1 (call : CallA) (n : Nat)  (w13 : Option Pos) (w14a : Option Pos) (w14l : Nat) (w14c : Cap) (S : AS) : Option (AV × AS) :=
 callP call 26 [(.ptr w13)] S fun v71 S70 =>
 cond v71.isNone (
 some ((.bool false), S70)) (
 callT call 32 [(.ptr v71), (.sl w14a w14l w14c)] S70 fun v73 S72 =>
 callB call 21 [(.ptr v71), (.ptr w13)] S72 fun v75 S74 =>
 cond v75 (
 callB call 10 [] S74 fun v77 S76 =>
 some ((.bool v77), S76)) (
 some ((.bool false), S74)))

def b7_j1_1_1_1_1_1_1_1_1_1_1_1_1_0_1_0_0_1_0_0_1_1_1_1_1 (call : CallA) (n : Nat) (l1_1_1_1_1_1_1_1_1_1_1_1_1_0_1_0 : Int → AV → Option Pos → Option Pos → Nat → Cap → Option Pos → Option Pos → Option Pos → Nat → Cap → Int → AS → Option (AV × AS)) (w0 : Int) (w7 : Option Pos) (w9a : Option Pos) (w9l : Nat) (w9c : Cap) (w11 : Option Pos) (w13 : Option Pos) (w14a : Option Pos) (w14l : Nat) (w14c : Cap) (w16 : Int) (w17a : Option Pos) (w17l : Nat) (w17c : Cap) (w19a : Option Pos) (w19l : Nat) (w19c : Cap) (w23 : Bool) (S : AS) : Option (AV × AS) :=
 bytesStr S w19a w19l fun s78 =>
 bytesStr S w17a w17l fun s79 =>
 cond (!(s78 == s79)) (
 some ((.bool false), S)) (
 cond (!w23) (
 some ((.bool false), S)) (
 l1_1_1_1_1_1_1_1_1_1_1_1_1_0_1_0 w0 .undef w7 w9a w9l w9c w11 w13 w14a w14l w14c (IntKind.wrap .i64 (w16 + 1)) S))

def b7_entry (call : CallA) (n : Nat) (l1_1_1_1_1_1_1_1_0_1_0 : Int → Option Pos → Nat → Cap → Option Pos → Option Pos → Nat → Cap → Option Pos → Option Pos → Option Pos → Option Pos → Option Pos → Nat → Cap → Int → AS → Option (AV × AS)) (x0 : Int) (x1a : Option Pos) (x1l : Nat) (x1c : Cap) (x2a : Option Pos) (x2l : Nat) (x2c : Cap) (S : AS) : Option (AV × AS) :=
 callB call 19 [(.sl x1a x1l x1c)] S fun v2 S1 =>
 cond v2 (
 callB call 10 [] S1 fun v4 S3 =>
 some ((.bool v4), S3)) (
 cond (decide (((x2l : Nat) : Int) > 200)) (
 callB call 10 [] S1 fun v6 S5 =>
 some ((.bool v6), S5)) (
 cond (decide (x0 > 40)) (
 callB call 10 [] S1 fun v8 S7 =>
 some ((.bool v8), S7)) (
 callT call 20 [(.int .i64 x0), (.sl x1a x1l x1c)] S1 fun v10 S9 =>
 atP v10 0 fun v11 =>
 atP v10 1 fun v12 =>
 cond v11.isNone (
 callB call 10 [] S9 fun v14 S13 =>
 some ((.bool v14), S13)) (
 callB call 31 [(.ptr v11)] S9 fun v16 S15 =>
 cond v16 (
 callB call 10 [] S15 fun v18 S17 =>
 some ((.bool v18), S17)) (
 callL call 16 [(.ptr v11)] S15 fun v20a v20l v20c S19 =>
 callP call 26 [(.ptr v11)] S19 fun v22 S21 =>
 callP call 26 [(.ptr v11)] S21 fun v24 S23 =>
 callP call 26 [(.ptr v11)] S23 fun v26 S25 =>
 callP call 26 [(.ptr v11)] S25 fun v28 S27 =>
 cond v22.isNone (
 some ((.bool false), S27)) (
 cond v24.isNone (
 some ((.bool false), S27)) (
 cond v26.isNone (
 some ((.bool false), S27)) (
 cond v28.isNone (
 some ((.bool false), S27)) (
 l1_1_1_1_1_1_1_1_0_1_0 x0 x2a x2l x2c v11 v20a v20l v20c v22 v24 v26 v28 none 0 (.ex 0) 0 S27)))))))))

def r7_l1_1_1_1_1_1_1_1_0_1_0 (call : CallA) (n : Nat)  (m : Nat) (w0 : Int) (w2a : Option Pos) (w2l : Nat) (w2c : Cap) (w7 : Option Pos) (w9a : Option Pos) (w9l : Nat) (w9c : Cap) (w10 : Option Pos) (w11 : Option Pos) (w12 : Option Pos) (w13 : Option Pos) (w14a : Option Pos) (w14l : Nat) (w14c : Cap) (w15 : Int) (S : AS) : Option (AV × AS) := loopN (evC E call n 7 (E.at 7 [1, 1, 1, 1, 1, 1, 1, 1, 0, 1, 0, 0]) 0) [0, 2, 7, 9, 10, 11, 12, 13, 14, 15] m [(0, (.int .i64 w0)), (2, (.sl w2a w2l w2c)), (7, (.ptr w7)), (9, (.sl w9a w9l w9c)), (10, (.ptr w10)), (11, (.ptr w11)), (12, (.ptr w12)), (13, (.ptr w13)), (14, (.sl w14a w14l w14c)), (15, (.int .i64 w15))] S (kBlk 0 (kSeq E call n 7 (E.at 7 [1, 1, 1, 1, 1, 1, 1, 1, 1]) 0 (retK E (E.fn 7))))
def r7_j1_1_1_1_1_1_1_1_1 (call : CallA) (n : Nat)  (w0 : Int) (w2a : Option Pos) (w2l : Nat) (w2c : Cap) (w7 : Option Pos) (w9a : Option Pos) (w9l : Nat) (w9c : Cap) (w10 : Option Pos) (w11 : Option Pos) (w12 : Option Pos) (w13 : Option Pos) (w14a : Option Pos) (w14l : Nat) (w14c : Cap) (S : AS) : Option (AV × AS) := evC E call n 7 (E.at 7 [1, 1, 1, 1, 1, 1, 1, 1, 1]) 0 [(0, (.int .i64 w0)), (2, (.sl w2a w2l w2c)), (7, (.ptr w7)), (9, (.sl w9a w9l w9c)), (10, (.ptr w10)), (11, (.ptr w11)), (12, (.ptr w12)), (13, (.ptr w13)), (14, (.sl w14a w14l w14c))] S (retK E (E.fn 7))
def r7_l1_1_1_1_1_1_1_1_1_1_1_1_1_0_1_0 (call : CallA) (n : Nat)  (m : Nat) (w0 : Int) (w6 : AV) (w7 : Option Pos) (w9a : Option Pos) (w9l : Nat) (w9c : Cap) (w11 : Option Pos) (w13 : Option Pos) (w14a : Option Pos) (w14l : Nat) (w14c : Cap) (w16 : Int) (S : AS) : Option (AV × AS) := loopN (evC E call n 7 (E.at 7 [1, 1, 1, 1, 1, 1, 1, 1, 1, 1, 1, 1, 1, 0, 1, 0, 0]) 2) [0, 6, 7, 9, 11, 13, 14, 16] m [(0, (.int .i64 w0)), (6, w6), (7, (.ptr w7)), (9, (.sl w9a w9l w9c)), (11, (.ptr w11)), (13, (.ptr w13)), (14, (.sl w14a w14l w14c)), (16, (.int .i64 w16))] S (kBlk 2 (kSeq E call n 7 (E.at 7 [1, 1, 1, 1, 1, 1, 1, 1, 1, 1, 1, 1, 1, 1]) 0 (retK E (E.fn 7))))
def r7_l1_1_1_1_1_1_1_1_1_1_1_1_1_0_1_0_0_1_0_0_1_1_1_1_0_1_0 (call : CallA) (n : Nat) (m1_1_1_1_1_1_1_1_1_1_1_1_1_0_1_0 : Nat) (m : Nat) (w0 : Int) (w7 : Option Pos) (w9a : Option Pos) (w9l : Nat) (w9c : Cap) (w11 : Option Pos) (w13 : Option Pos) (w14a : Option Pos) (w14l : Nat) (w14c : Cap) (w16 : Int) (w17a : Option Pos) (w17l : Nat) (w17c : Cap) (w19a : Option Pos) (w19l : Nat) (w19c : Cap) (w21a : Option Pos) (w21l : Nat) (w21c : Cap) (w23 : Bool) (w24 : Int) (S : AS) : Option (AV × AS) := loopN (evC E call n 7 (E.at 7 [1, 1, 1, 1, 1, 1, 1, 1, 1, 1, 1, 1, 1, 0, 1, 0, 0, 1, 0, 0, 1, 1, 1, 1, 0, 1, 0, 0]) 4) [0, 7, 9, 11, 13, 14, 16, 17, 19, 21, 23, 24] m [(0, (.int .i64 w0)), (7, (.ptr w7)), (9, (.sl w9a w9l w9c)), (11, (.ptr w11)), (13, (.ptr w13)), (14, (.sl w14a w14l w14c)), (16, (.int .i64 w16)), (17, (.sl w17a w17l w17c)), (19, (.sl w19a w19l w19c)), (21, (.sl w21a w21l w21c)), (23, (.bool w23)), (24, (.int .i64 w24))] S (kBlk 4 (kSeq E call n 7 (E.at 7 [1, 1, 1, 1, 1, 1, 1, 1, 1, 1, 1, 1, 1, 0, 1, 0, 0, 1, 0, 0, 1, 1, 1, 1, 1]) 3 (kBlk 3 (kSeq E call n 7 (E.at 7 [1, 1, 1, 1, 1, 1, 1, 1, 1, 1, 1, 1, 1, 0, 1, 0, 0, 1, 1]) 2 (kLp (evC E call n 7 (E.at 7 [1, 1, 1, 1, 1, 1, 1, 1, 1, 1, 1, 1, 1, 0, 1, 0, 0]) 2) [0, 6, 7, 9, 11, 13, 14, 16] m1_1_1_1_1_1_1_1_1_1_1_1_1_0_1_0 (kBlk 2 (kSeq E call n 7 (E.at 7 [1, 1, 1, 1, 1, 1, 1, 1, 1, 1, 1, 1, 1, 1]) 0 (retK E (E.fn 7)))))))))
def r7_j1_1_1_1_1_1_1_1_1_1_1_1_1_1 (call : CallA) (n : Nat)  (w13 : Option Pos) (w14a : Option Pos) (w14l : Nat) (w14c : Cap) (S : AS) : Option (AV × AS) := evC E call n 7 (E.at 7 [1, 1, 1, 1, 1, 1, 1, 1, 1, 1, 1, 1, 1, 1]) 0 [(13, (.ptr w13)), (14, (.sl w14a w14l w14c))] S (retK E (E.fn 7))
def r7_j1_1_1_1_1_1_1_1_1_1_1_1_1_0_1_0_0_1_0_0_1_1_1_1_1 (call : CallA) (n : Nat) (m1_1_1_1_1_1_1_1_1_1_1_1_1_0_1_0 : Nat) (w0 : Int) (w7 : Option Pos) (w9a : Option Pos) (w9l : Nat) (w9c : Cap) (w11 : Option Pos) (w13 : Option Pos) (w14a : Option Pos) (w14l : Nat) (w14c : Cap) (w16 : Int) (w17a : Option Pos) (w17l : Nat) (w17c : Cap) (w19a : Option Pos) (w19l : Nat) (w19c : Cap) (w23 : Bool) (S : AS) : Option (AV × AS) := evC E call n 7 (E.at 7 [1, 1, 1, 1, 1, 1, 1, 1, 1, 1, 1, 1, 1, 0, 1, 0, 0, 1, 0, 0, 1, 1, 1, 1, 1]) 3 [(0, (.int .i64 w0)), (7, (.ptr w7)), (9, (.sl w9a w9l w9c)), (11, (.ptr w11)), (13, (.ptr w13)), (14, (.sl w14a w14l w14c)), (16, (.int .i64 w16)), (17, (.sl w17a w17l w17c)), (19, (.sl w19a w19l w19c)), (23, (.bool w23))] S (kBlk 3 (kSeq E call n 7 (E.at 7 [1, 1, 1, 1, 1, 1, 1, 1, 1, 1, 1, 1, 1, 0, 1, 0, 0, 1, 1]) 2 (kLp (evC E call n 7 (E.at 7 [1, 1, 1, 1, 1, 1, 1, 1, 1, 1, 1, 1, 1, 0, 1, 0, 0]) 2) [0, 6, 7, 9, 11, 13, 14, 16] m1_1_1_1_1_1_1_1_1_1_1_1_1_0_1_0 (kBlk 2 (kSeq E call n 7 (E.at 7 [1, 1, 1, 1, 1, 1, 1, 1, 1, 1, 1, 1, 1, 1]) 0 (retK E (E.fn 7)))))))
theorem a7_l1_1_1_1_1_1_1_1_0_1_0 (call : CallA) (n : Nat)  (m : Nat) (w0 : Int) (w2a : Option Pos) (w2l : Nat) (w2c : Cap) (w7 : Option Pos) (w9a : Option Pos) (w9l : Nat) (w9c : Cap) (w10 : Option Pos) (w11 : Option Pos) (w12 : Option Pos) (w13 : Option Pos) (w14a : Option Pos) (w14l : Nat) (w14c : Cap) (w15 : Int) (S : AS) : r7_l1_1_1_1_1_1_1_1_0_1_0 call n  (m + 1) w0 w2a w2l w2c w7 w9a w9l w9c w10 w11 w12 w13 w14a w14l w14c w15 S = b7_l1_1_1_1_1_1_1_1_0_1_0 call n (r7_l1_1_1_1_1_1_1_1_0_1_0 call n  m) (r7_j1_1_1_1_1_1_1_1_1 call n ) w0 w2a w2l w2c w7 w9a w9l w9c w10 w11 w12 w13 w14a w14l w14c w15 S := by kernel_rfl
theorem a7_j1_1_1_1_1_1_1_1_1 (call : CallA) (n : Nat)  (w0 : Int) (w2a : Option Pos) (w2l : Nat) (w2c : Cap) (w7 : Option Pos) (w9a : Option Pos) (w9l : Nat) (w9c : Cap) (w10 : Option Pos) (w11 : Option Pos) (w12 : Option Pos) (w13 : Option Pos) (w14a : Option Pos) (w14l : Nat) (w14c : Cap) (S : AS) : r7_j1_1_1_1_1_1_1_1_1 call n  w0 w2a w2l w2c w7 w9a w9l w9c w10 w11 w12 w13 w14a w14l w14c S = b7_j1_1_1_1_1_1_1_1_1 call n (r7_l1_1_1_1_1_1_1_1_1_1_1_1_1_0_1_0 call n  n) w0 w2a w2l w2c w7 w9a w9l w9c w10 w11 w12 w13 w14a w14l w14c S := by kernel_rfl
theorem a7_l1_1_1_1_1_1_1_1_1_1_1_1_1_0_1_0 (call : CallA) (n : Nat)  (m : Nat) (w0 : Int) (w6 : AV) (w7 : Option Pos) (w9a : Option Pos) (w9l : Nat) (w9c : Cap) (w11 : Option Pos) (w13 : Option Pos) (w14a : Option Pos) (w14l : Nat) (w14c : Cap) (w16 : Int) (S : AS) : r7_l1_1_1_1_1_1_1_1_1_1_1_1_1_0_1_0 call n  (m + 1) w0 w6 w7 w9a w9l w9c w11 w13 w14a w14l w14c w16 S = b7_l1_1_1_1_1_1_1_1_1_1_1_1_1_0_1_0 call n (r7_l1_1_1_1_1_1_1_1_1_1_1_1_1_0_1_0_0_1_0_0_1_1_1_1_0_1_0 call n m n) (r7_j1_1_1_1_1_1_1_1_1_1_1_1_1_1 call n ) w0 w6 w7 w9a w9l w9c w11 w13 w14a w14l w14c w16 S := by kernel_rfl
theorem a7_l1_1_1_1_1_1_1_1_1_1_1_1_1_0_1_0_0_1_0_0_1_1_1_1_0_1_0 (call : CallA) (n : Nat) (m1_1_1_1_1_1_1_1_1_1_1_1_1_0_1_0 : Nat) (m : Nat) (w0 : Int) (w7 : Option Pos) (w9a : Option Pos) (w9l : Nat) (w9c : Cap) (w11 : Option Pos) (w13 : Option Pos) (w14a : Option Pos) (w14l : Nat) (w14c : Cap) (w16 : Int) (w17a : Option Pos) (w17l : Nat) (w17c : Cap) (w19a : Option Pos) (w19l : Nat) (w19c : Cap) (w21a : Option Pos) (w21l : Nat) (w21c : Cap) (w23 : Bool) (w24 : Int) (S : AS) : r7_l1_1_1_1_1_1_1_1_1_1_1_1_1_0_1_0_0_1_0_0_1_1_1_1_0_1_0 call n m1_1_1_1_1_1_1_1_1_1_1_1_1_0_1_0 (m + 1) w0 w7 w9a w9l w9c w11 w13 w14a w14l w14c w16 w17a w17l w17c w19a w19l w19c w21a w21l w21c w23 w24 S = b7_l1_1_1_1_1_1_1_1_1_1_1_1_1_0_1_0_0_1_0_0_1_1_1_1_0_1_0 call n (r7_l1_1_1_1_1_1_1_1_1_1_1_1_1_0_1_0_0_1_0_0_1_1_1_1_0_1_0 call n m1_1_1_1_1_1_1_1_1_1_1_1_1_0_1_0 m) (r7_j1_1_1_1_1_1_1_1_1_1_1_1_1_0_1_0_0_1_0_0_1_1_1_1_1 call n m1_1_1_1_1_1_1_1_1_1_1_1_1_0_1_0) w0 w7 w9a w9l w9c w11 w13 w14a w14l w14c w16 w17a w17l w17c w19a w19l w19c w21a w21l w21c w23 w24 S := by kernel_rfl
theorem a7_j1_1_1_1_1_1_1_1_1_1_1_1_1_1 (call : CallA) (n : Nat)  (w13 : Option Pos) (w14a : Option Pos) (w14l : Nat) (w14c : Cap) (S : AS) : r7_j1_1_1_1_1_1_1_1_1_1_1_1_1_1 call n  w13 w14a w14l w14c S = b7_j1_1_1_1_1_1_1_1_1_1_1_1_1_1 call n  w13 w14a w14l w14c S := by kernel_rfl
theorem a7_j1_1_1_1_1_1_1_1_1_1_1_1_1_0_1_0_0_1_0_0_1_1_1_1_1 (call : CallA) (n : Nat) (m1_1_1_1_1_1_1_1_1_1_1_1_1_0_1_0 : Nat) (w0 : Int) (w7 : Option Pos) (w9a : Option Pos) (w9l : Nat) (w9c : Cap) (w11 : Option Pos) (w13 : Option Pos) (w14a : Option Pos) (w14l : Nat) (w14c : Cap) (w16 : Int) (w17a : Option Pos) (w17l : Nat) (w17c : Cap) (w19a : Option Pos) (w19l : Nat) (w19c : Cap) (w23 : Bool) (S : AS) : r7_j1_1_1_1_1_1_1_1_1_1_1_1_1_0_1_0_0_1_0_0_1_1_1_1_1 call n m1_1_1_1_1_1_1_1_1_1_1_1_1_0_1_0 w0 w7 w9a w9l w9c w11 w13 w14a w14l w14c w16 w17a w17l w17c w19a w19l w19c w23 S = b7_j1_1_1_1_1_1_1_1_1_1_1_1_1_0_1_0_0_1_0_0_1_1_1_1_1 call n (r7_l1_1_1_1_1_1_1_1_1_1_1_1_1_0_1_0 call n  m1_1_1_1_1_1_1_1_1_1_1_1_1_0_1_0) w0 w7 w9a w9l w9c w11 w13 w14a w14l w14c w16 w17a w17l w17c w19a w19l w19c w23 S := by kernel_rfl
theorem a7_entry (call : CallA) (n : Nat) (x0 : Int) (x1a : Option Pos) (x1l : Nat) (x1c : Cap) (x2a : Option Pos) (x2l : Nat) (x2c : Cap) (S : AS) : evC E call n 7 (E.at 7 []) 0 (enumT 0 [(.int .i64 x0), (.sl x1a x1l x1c), (.sl x2a x2l x2c)]) S (retK E (E.fn 7)) = b7_entry call n (r7_l1_1_1_1_1_1_1_1_0_1_0 call n  n) x0 x1a x1l x1c x2a x2l x2c S := by kernel_rfl
def J7_j1_1_1_1_1_1_1_1_1_1_1_1_1_0_1_0_0_1_0_0_1_1_1_1_1 (call : CallA) (n : Nat) (n1_1_1_1_1_1_1_1_1_1_1_1_1_0_1_0 : Int → AV → Option Pos → Option Pos → Nat → Cap → Option Pos → Option Pos → Option Pos → Nat → Cap → Int → AS → Option (AV × AS)) (w0 : Int) (w7 : Option Pos) (w9a : Option Pos) (w9l : Nat) (w9c : Cap) (w11 : Option Pos) (w13 : Option Pos) (w14a : Option Pos) (w14l : Nat) (w14c : Cap) (w16 : Int) (w17a : Option Pos) (w17l : Nat) (w17c : Cap) (w19a : Option Pos) (w19l : Nat) (w19c : Cap) (w23 : Bool) (S : AS) : Option (AV × AS) := b7_j1_1_1_1_1_1_1_1_1_1_1_1_1_0_1_0_0_1_0_0_1_1_1_1_1 call n n1_1_1_1_1_1_1_1_1_1_1_1_1_0_1_0 w0 w7 w9a w9l w9c w11 w13 w14a w14l w14c w16 w17a w17l w17c w19a w19l w19c w23 S
theorem h7_j1_1_1_1_1_1_1_1_1_1_1_1_1_0_1_0_0_1_0_0_1_1_1_1_1 (call : CallA) (n : Nat) (m1_1_1_1_1_1_1_1_1_1_1_1_1_0_1_0 : Nat) : r7_j1_1_1_1_1_1_1_1_1_1_1_1_1_0_1_0_0_1_0_0_1_1_1_1_1 call n m1_1_1_1_1_1_1_1_1_1_1_1_1_0_1_0 = J7_j1_1_1_1_1_1_1_1_1_1_1_1_1_0_1_0_0_1_0_0_1_1_1_1_1 call n (r7_l1_1_1_1_1_1_1_1_1_1_1_1_1_0_1_0 call n  m1_1_1_1_1_1_1_1_1_1_1_1_1_0_1_0) := by
  funext w0 w7 w9a w9l w9c w11 w13 w14a w14l w14c w16 w17a w17l w17c w19a w19l w19c w23 S
  rw [J7_j1_1_1_1_1_1_1_1_1_1_1_1_1_0_1_0_0_1_0_0_1_1_1_1_1, a7_j1_1_1_1_1_1_1_1_1_1_1_1_1_0_1_0_0_1_0_0_1_1_1_1_1]
def J7_l1_1_1_1_1_1_1_1_1_1_1_1_1_0_1_0_0_1_0_0_1_1_1_1_0_1_0 (call : CallA) (n : Nat) (n1_1_1_1_1_1_1_1_1_1_1_1_1_0_1_0 : Int → AV → Option Pos → Option Pos → Nat → Cap → Option Pos → Option Pos → Option Pos → Nat → Cap → Int → AS → Option (AV × AS)) (m : Nat) : Int → Option Pos → Option Pos → Nat → Cap → Option Pos → Option Pos → Option Pos → Nat → Cap → Int → Option Pos → Nat → Cap → Option Pos → Nat → Cap → Option Pos → Nat → Cap → Bool → Int → AS → Option (AV × AS) := Nat.rec (motive := fun _ => Int → Option Pos → Option Pos → Nat → Cap → Option Pos → Option Pos → Option Pos → Nat → Cap → Int → Option Pos → Nat → Cap → Option Pos → Nat → Cap → Option Pos → Nat → Cap → Bool → Int → AS → Option (AV × AS)) (fun _ _ _ _ _ _ _ _ _ _ _ _ _ _ _ _ _ _ _ _ _ _ _ => none) (fun _ ih w0 w7 w9a w9l w9c w11 w13 w14a w14l w14c w16 w17a w17l w17c w19a w19l w19c w21a w21l w21c w23 w24 S => b7_l1_1_1_1_1_1_1_1_1_1_1_1_1_0_1_0_0_1_0_0_1_1_1_1_0_1_0 call n ih (J7_j1_1_1_1_1_1_1_1_1_1_1_1_1_0_1_0_0_1_0_0_1_1_1_1_1 call n n1_1_1_1_1_1_1_1_1_1_1_1_1_0_1_0) w0 w7 w9a w9l w9c w11 w13 w14a w14l w14c w16 w17a w17l w17c w19a w19l w19c w21a w21l w21c w23 w24 S) m
theorem J7_l1_1_1_1_1_1_1_1_1_1_1_1_1_0_1_0_0_1_0_0_1_1_1_1_0_1_0_succ (call : CallA) (n : Nat) (n1_1_1_1_1_1_1_1_1_1_1_1_1_0_1_0 : Int → AV → Option Pos → Option Pos → Nat → Cap → Option Pos → Option Pos → Option Pos → Nat → Cap → Int → AS → Option (AV × AS)) (m : Nat) (w0 : Int) (w7 : Option Pos) (w9a : Option Pos) (w9l : Nat) (w9c : Cap) (w11 : Option Pos) (w13 : Option Pos) (w14a : Option Pos) (w14l : Nat) (w14c : Cap) (w16 : Int) (w17a : Option Pos) (w17l : Nat) (w17c : Cap) (w19a : Option Pos) (w19l : Nat) (w19c : Cap) (w21a : Option Pos) (w21l : Nat) (w21c : Cap) (w23 : Bool) (w24 : Int) (S : AS) : J7_l1_1_1_1_1_1_1_1_1_1_1_1_1_0_1_0_0_1_0_0_1_1_1_1_0_1_0 call n n1_1_1_1_1_1_1_1_1_1_1_1_1_0_1_0 (m + 1) w0 w7 w9a w9l w9c w11 w13 w14a w14l w14c w16 w17a w17l w17c w19a w19l w19c w21a w21l w21c w23 w24 S = b7_l1_1_1_1_1_1_1_1_1_1_1_1_1_0_1_0_0_1_0_0_1_1_1_1_0_1_0 call n (J7_l1_1_1_1_1_1_1_1_1_1_1_1_1_0_1_0_0_1_0_0_1_1_1_1_0_1_0 call n n1_1_1_1_1_1_1_1_1_1_1_1_1_0_1_0 m) (J7_j1_1_1_1_1_1_1_1_1_1_1_1_1_0_1_0_0_1_0_0_1_1_1_1_1 call n n1_1_1_1_1_1_1_1_1_1_1_1_1_0_1_0) w0 w7 w9a w9l w9c w11 w13 w14a w14l w14c w16 w17a w17l w17c w19a w19l w19c w21a w21l w21c w23 w24 S := rfl
theorem h7_l1_1_1_1_1_1_1_1_1_1_1_1_1_0_1_0_0_1_0_0_1_1_1_1_0_1_0 (call : CallA) (n : Nat) (m1_1_1_1_1_1_1_1_1_1_1_1_1_0_1_0 : Nat) (m : Nat) : r7_l1_1_1_1_1_1_1_1_1_1_1_1_1_0_1_0_0_1_0_0_1_1_1_1_0_1_0 call n m1_1_1_1_1_1_1_1_1_1_1_1_1_0_1_0 m = J7_l1_1_1_1_1_1_1_1_1_1_1_1_1_0_1_0_0_1_0_0_1_1_1_1_0_1_0 call n (r7_l1_1_1_1_1_1_1_1_1_1_1_1_1_0_1_0 call n  m1_1_1_1_1_1_1_1_1_1_1_1_1_0_1_0) m := by
  induction m with
  | zero => rfl
  | succ m ih =>
    funext w0 w7 w9a w9l w9c w11 w13 w14a w14l w14c w16 w17a w17l w17c w19a w19l w19c w21a w21l w21c w23 w24 S
    rw [J7_l1_1_1_1_1_1_1_1_1_1_1_1_1_0_1_0_0_1_0_0_1_1_1_1_0_1_0_succ, a7_l1_1_1_1_1_1_1_1_1_1_1_1_1_0_1_0_0_1_0_0_1_1_1_1_0_1_0, h7_j1_1_1_1_1_1_1_1_1_1_1_1_1_0_1_0_0_1_0_0_1_1_1_1_1 call n m1_1_1_1_1_1_1_1_1_1_1_1_1_0_1_0, ih]
def J7_j1_1_1_1_1_1_1_1_1_1_1_1_1_1 (call : CallA) (n : Nat)  (w13 : Option Pos) (w14a : Option Pos) (w14l : Nat) (w14c : Cap) (S : AS) : Option (AV × AS) := b7_j1_1_1_1_1_1_1_1_1_1_1_1_1_1 call n  w13 w14a w14l w14c S
theorem h7_j1_1_1_1_1_1_1_1_1_1_1_1_1_1 (call : CallA) (n : Nat)  : r7_j1_1_1_1_1_1_1_1_1_1_1_1_1_1 call n  = J7_j1_1_1_1_1_1_1_1_1_1_1_1_1_1 call n  := by
  funext w13 w14a w14l w14c S
  rw [J7_j1_1_1_1_1_1_1_1_1_1_1_1_1_1, a7_j1_1_1_1_1_1_1_1_1_1_1_1_1_1]
def J7_l1_1_1_1_1_1_1_1_1_1_1_1_1_0_1_0 (call : CallA) (n : Nat)  (m : Nat) : Int → AV → Option Pos → Option Pos → Nat → Cap → Option Pos → Option Pos → Option Pos → Nat → Cap → Int → AS → Option (AV × AS) := Nat.rec (motive := fun _ => Int → AV → Option Pos → Option Pos → Nat → Cap → Option Pos → Option Pos → Option Pos → Nat → Cap → Int → AS → Option (AV × AS)) (fun _ _ _ _ _ _ _ _ _ _ _ _ _ => none) (fun _ ih w0 w6 w7 w9a w9l w9c w11 w13 w14a w14l w14c w16 S => b7_l1_1_1_1_1_1_1_1_1_1_1_1_1_0_1_0 call n (J7_l1_1_1_1_1_1_1_1_1_1_1_1_1_0_1_0_0_1_0_0_1_1_1_1_0_1_0 call n ih n) (J7_j1_1_1_1_1_1_1_1_1_1_1_1_1_1 call n ) w0 w6 w7 w9a w9l w9c w11 w13 w14a w14l w14c w16 S) m
theorem J7_l1_1_1_1_1_1_1_1_1_1_1_1_1_0_1_0_succ (call : CallA) (n : Nat)  (m : Nat) (w0 : Int) (w6 : AV) (w7 : Option Pos) (w9a : Option Pos) (w9l : Nat) (w9c : Cap) (w11 : Option Pos) (w13 : Option Pos) (w14a : Option Pos) (w14l : Nat) (w14c : Cap) (w16 : Int) (S : AS) : J7_l1_1_1_1_1_1_1_1_1_1_1_1_1_0_1_0 call n  (m + 1) w0 w6 w7 w9a w9l w9c w11 w13 w14a w14l w14c w16 S = b7_l1_1_1_1_1_1_1_1_1_1_1_1_1_0_1_0 call n (J7_l1_1_1_1_1_1_1_1_1_1_1_1_1_0_1_0_0_1_0_0_1_1_1_1_0_1_0 call n (J7_l1_1_1_1_1_1_1_1_1_1_1_1_1_0_1_0 call n  m) n) (J7_j1_1_1_1_1_1_1_1_1_1_1_1_1_1 call n ) w0 w6 w7 w9a w9l w9c w11 w13 w14a w14l w14c w16 S := rfl
theorem h7_l1_1_1_1_1_1_1_1_1_1_1_1_1_0_1_0 (call : CallA) (n : Nat)  (m : Nat) : r7_l1_1_1_1_1_1_1_1_1_1_1_1_1_0_1_0 call n  m = J7_l1_1_1_1_1_1_1_1_1_1_1_1_1_0_1_0 call n  m := by
  induction m with
  | zero => rfl
  | succ m ih =>
    funext w0 w6 w7 w9a w9l w9c w11 w13 w14a w14l w14c w16 S
    rw [J7_l1_1_1_1_1_1_1_1_1_1_1_1_1_0_1_0_succ, a7_l1_1_1_1_1_1_1_1_1_1_1_1_1_0_1_0, h7_l1_1_1_1_1_1_1_1_1_1_1_1_1_0_1_0_0_1_0_0_1_1_1_1_0_1_0 call n m n, h7_j1_1_1_1_1_1_1_1_1_1_1_1_1_1 call n , ih]
def J7_j1_1_1_1_1_1_1_1_1 (call : CallA) (n : Nat)  (w0 : Int) (w2a : Option Pos) (w2l : Nat) (w2c : Cap) (w7 : Option Pos) (w9a : Option Pos) (w9l : Nat) (w9c : Cap) (w10 : Option Pos) (w11 : Option Pos) (w12 : Option Pos) (w13 : Option Pos) (w14a : Option Pos) (w14l : Nat) (w14c : Cap) (S : AS) : Option (AV × AS) := b7_j1_1_1_1_1_1_1_1_1 call n (J7_l1_1_1_1_1_1_1_1_1_1_1_1_1_0_1_0 call n  n) w0 w2a w2l w2c w7 w9a w9l w9c w10 w11 w12 w13 w14a w14l w14c S
theorem h7_j1_1_1_1_1_1_1_1_1 (call : CallA) (n : Nat)  : r7_j1_1_1_1_1_1_1_1_1 call n  = J7_j1_1_1_1_1_1_1_1_1 call n  := by
  funext w0 w2a w2l w2c w7 w9a w9l w9c w10 w11 w12 w13 w14a w14l w14c S
  rw [J7_j1_1_1_1_1_1_1_1_1, a7_j1_1_1_1_1_1_1_1_1, h7_l1_1_1_1_1_1_1_1_1_1_1_1_1_0_1_0 call n  n]
def J7_l1_1_1_1_1_1_1_1_0_1_0 (call : CallA) (n : Nat)  (m : Nat) : Int → Option Pos → Nat → Cap → Option Pos → Option Pos → Nat → Cap → Option Pos → Option Pos → Option Pos → Option Pos → Option Pos → Nat → Cap → Int → AS → Option (AV × AS) := Nat.rec (motive := fun _ => Int → Option Pos → Nat → Cap → Option Pos → Option Pos → Nat → Cap → Option Pos → Option Pos → Option Pos → Option Pos → Option Pos → Nat → Cap → Int → AS → Option (AV × AS)) (fun _ _ _ _ _ _ _ _ _ _ _ _ _ _ _ _ _ => none) (fun _ ih w0 w2a w2l w2c w7 w9a w9l w9c w10 w11 w12 w13 w14a w14l w14c w15 S => b7_l1_1_1_1_1_1_1_1_0_1_0 call n ih (J7_j1_1_1_1_1_1_1_1_1 call n ) w0 w2a w2l w2c w7 w9a w9l w9c w10 w11 w12 w13 w14a w14l w14c w15 S) m
theorem J7_l1_1_1_1_1_1_1_1_0_1_0_succ (call : CallA) (n : Nat)  (m : Nat) (w0 : Int) (w2a : Option Pos) (w2l : Nat) (w2c : Cap) (w7 : Option Pos) (w9a : Option Pos) (w9l : Nat) (w9c : Cap) (w10 : Option Pos) (w11 : Option Pos) (w12 : Option Pos) (w13 : Option Pos) (w14a : Option Pos) (w14l : Nat) (w14c : Cap) (w15 : Int) (S : AS) : J7_l1_1_1_1_1_1_1_1_0_1_0 call n  (m + 1) w0 w2a w2l w2c w7 w9a w9l w9c w10 w11 w12 w13 w14a w14l w14c w15 S = b7_l1_1_1_1_1_1_1_1_0_1_0 call n (J7_l1_1_1_1_1_1_1_1_0_1_0 call n  m) (J7_j1_1_1_1_1_1_1_1_1 call n ) w0 w2a w2l w2c w7 w9a w9l w9c w10 w11 w12 w13 w14a w14l w14c w15 S := rfl
theorem h7_l1_1_1_1_1_1_1_1_0_1_0 (call : CallA) (n : Nat)  (m : Nat) : r7_l1_1_1_1_1_1_1_1_0_1_0 call n  m = J7_l1_1_1_1_1_1_1_1_0_1_0 call n  m := by
  induction m with
  | zero => rfl
  | succ m ih =>
    funext w0 w2a w2l w2c w7 w9a w9l w9c w10 w11 w12 w13 w14a w14l w14c w15 S
    rw [J7_l1_1_1_1_1_1_1_1_0_1_0_succ, a7_l1_1_1_1_1_1_1_1_0_1_0, h7_j1_1_1_1_1_1_1_1_1 call n , ih]
def J7 (call : CallA) (n : Nat) (x0 : Int) (x1a : Option Pos) (x1l : Nat) (x1c : Cap) (x2a : Option Pos) (x2l : Nat) (x2c : Cap) (S : AS) : Option (AV × AS) := b7_entry call n (J7_l1_1_1_1_1_1_1_1_0_1_0 call n  n) x0 x1a x1l x1c x2a x2l x2c S
theorem run7 (o : Orc) (n : Nat) (args : List AV) (S : AS) (ho : o 7 args = none) : evF E o (n + 1) (.fn 7) args S = evC E (evF E o n) n 7 (E.at 7 []) 0 (enumT 0 args) S (retK E (E.fn 7)) := by
  rw [evF, ho]; kernel_rfl
theorem J7_eq (call : CallA) (n : Nat) (x0 : Int) (x1a : Option Pos) (x1l : Nat) (x1c : Cap) (x2a : Option Pos) (x2l : Nat) (x2c : Cap) (S : AS) : evC E call n 7 (E.at 7 []) 0 (enumT 0 [(.int .i64 x0), (.sl x1a x1l x1c), (.sl x2a x2l x2c)]) S (retK E (E.fn 7)) = J7 call n x0 x1a x1l x1c x2a x2l x2c S := by
  rw [J7, a7_entry, h7_l1_1_1_1_1_1_1_1_0_1_0 call n  n]
theorem F7 {o : Orc} (n : Nat) (x0 : Int) (x1a : Option Pos) (x1l : Nat) (x1c : Cap) (x2a : Option Pos) (x2l : Nat) (x2c : Cap) (S : AS) (ho : ∀ args, o 7 args = none) : evF E o (n + 1) (.fn 7) [(.int .i64 x0), (.sl x1a x1l x1c), (.sl x2a x2l x2c)] S = J7 (evF E o n) n x0 x1a x1l x1c x2a x2l x2c S := (run7 o n [(.int .i64 x0), (.sl x1a x1l x1c), (.sl x2a x2l x2c)] S (ho _)).trans (J7_eq _ _ x0 x1a x1l x1c x2a x2l x2c S)
def b8_l1_1_1_1_1_0_1_0 (call : CallA) (n : Nat) (l1_1_1_1_1_0_1_0 : Option Pos → Nat → Cap → Bool → Option Pos → Option Pos → Int → AS → Option (AV × AS)) (j1_1_1_1_1_1 : Option Pos → Option Pos → AS → Option (AV × AS)) (w2a : Option Pos) (w2l : Nat) (w2c : Cap) (w6 : Bool) (w7 : Option Pos) (w9 : Option Pos) (w11 : Int) (S : AS) : Option (AV × AS) :=
 cond (!w7.isNone) (
 cond (decide (w11 < ((w2l : Nat) : Int))) (
 ixSl 6 w2a w2l w11 fun p31 =>
 S.ldn p31.1 p31.2 6 fun g32 =>
 callT call 34 [(.ptr w7), (.ptr w9), (.agg g32)] S fun v34 S33 =>
 atP v34 0 fun v35 =>
 atB v34 1 fun v36 =>
 cond (!v36) (
 some ((.bool false), S33)) (
 cond v35.isNone (
 some ((.bool false), S33)) (
 callB call 35 [(.ptr v35), (.ptr w9)] S33 fun v38 S37 =>
 cond (!v38) (
 some ((.bool false), S37)) (
 l1_1_1_1_1_0_1_0 w2a w2l w2c w6 v35 w9 (IntKind.wrap .i64 (w11 + 1)) S37)))) (
 j1_1_1_1_1_1 w7 w9 S)) (
 j1_1_1_1_1_1 w7 w9 S)

def b8_j1_1_1_1_1_1 (call : CallA) (n : Nat)  (w7 : Option Pos) (w9 : Option Pos) (S : AS) : Option (AV × AS) :=
 cond w7.isNone (
 some ((.bool true), S)) (
 callB call 35 [(.ptr w7), (.ptr w9)] S fun v40 S39 =>
 some ((.bool v40), S39))

def b8_entry (call : CallA) (n : Nat) (l1_1_1_1_1_0_1_0 : Option Pos → Nat → Cap → Bool → Option Pos → Option Pos → Int → AS → Option (AV × AS)) (x0 : Int) (x1 : Int) (x2a : Option Pos) (x2l : Nat) (x2c : Cap) (S : AS) : Option (AV × AS) :=
 callB call 19 [(.sl x2a x2l x2c)] S fun v2 S1 =>
 cond v2 (
 callB call 10 [] S1 fun v4 S3 =>
 some ((.bool v4), S3)) (
 cond (decide (x0 > 40)) (
 cond (decide (x0 ≤ 65536)) (
 callB call 10 [] S1 fun v6 S5 =>
 some ((.bool v6), S5)) (
 callT call 11 [(.int .i64 x0), (.int .i64 x1)] S1 fun v8 S7 =>
 atP v8 0 fun v9 =>
 atI .i64 v8 1 fun v10 =>
 callT call 33 [(.int .i64 x0), (.int .i64 x1)] S7 fun v12 S11 =>
 atP v12 0 fun v13 =>
 atI .i64 v12 1 fun v14 =>
 callI .i64 call 12 [(.int .i64 v10)] S11 fun v16 S15 =>
 cond (v16 != v14) (
 some ((.bool false), S15)) (
 cond (!(v9.isNone == v13.isNone)) (
 some ((.bool false), S15)) (
 callB call 10 [] S15 fun v18 S17 =>
 cond (!v18) (
 some ((.bool false), S17)) (
 l1_1_1_1_1_0_1_0 x2a x2l x2c false v9 v13 0 S17))))) (
 callT call 11 [(.int .i64 x0), (.int .i64 x1)] S1 fun v20 S19 =>
 atP v20 0 fun v21 =>
 atI .i64 v20 1 fun v22 =>
 callT call 33 [(.int .i64 x0), (.int .i64 x1)] S19 fun v24 S23 =>
 atP v24 0 fun v25 =>
 atI .i64 v24 1 fun v26 =>
 callI .i64 call 12 [(.int .i64 v22)] S23 fun v28 S27 =>
 cond (v28 != v26) (
 some ((.bool false), S27)) (
 cond (!(v21.isNone == v25.isNone)) (
 some ((.bool false), S27)) (
 callB call 10 [] S27 fun v30 S29 =>
 cond (!v30) (
 some ((.bool false), S29)) (
 l1_1_1_1_1_0_1_0 x2a x2l x2c false v21 v25 0 S29)))))

def r8_l1_1_1_1_1_0_1_0 (call : CallA) (n : Nat)  (m : Nat) (w2a : Option Pos) (w2l : Nat) (w2c : Cap) (w6 : Bool) (w7 : Option Pos) (w9 : Option Pos) (w11 : Int) (S : AS) : Option (AV × AS) := loopN (evC E call n 8 (E.at 8 [1, 1, 1, 1, 1, 0, 1, 0, 0]) 0) [2, 6, 7, 9, 11] m [(2, (.sl w2a w2l w2c)), (6, (.bool w6)), (7, (.ptr w7)), (9, (.ptr w9)), (11, (.int .i64 w11))] S (kBlk 0 (kSeq E call n 8 (E.at 8 [1, 1, 1, 1, 1, 1]) 0 (retK E (E.fn 8))))
def r8_j1_1_1_1_1_1 (call : CallA) (n : Nat)  (w7 : Option Pos) (w9 : Option Pos) (S : AS) : Option (AV × AS) := evC E call n 8 (E.at 8 [1, 1, 1, 1, 1, 1]) 0 [(7, (.ptr w7)), (9, (.ptr w9))] S (retK E (E.fn 8))
theorem a8_l1_1_1_1_1_0_1_0 (call : CallA) (n : Nat)  (m : Nat) (w2a : Option Pos) (w2l : Nat) (w2c : Cap) (w6 : Bool) (w7 : Option Pos) (w9 : Option Pos) (w11 : Int) (S : AS) : r8_l1_1_1_1_1_0_1_0 call n  (m + 1) w2a w2l w2c w6 w7 w9 w11 S = b8_l1_1_1_1_1_0_1_0 call n (r8_l1_1_1_1_1_0_1_0 call n  m) (r8_j1_1_1_1_1_1 call n ) w2a w2l w2c w6 w7 w9 w11 S := by kernel_rfl
theorem a8_j1_1_1_1_1_1 (call : CallA) (n : Nat)  (w7 : Option Pos) (w9 : Option Pos) (S : AS) : r8_j1_1_1_1_1_1 call n  w7 w9 S = b8_j1_1_1_1_1_1 call n  w7 w9 S := by kernel_rfl
theorem a8_entry (call : CallA) (n : Nat) (x0 : Int) (x1 : Int) (x2a : Option Pos) (x2l : Nat) (x2c : Cap) (S : AS) : evC E call n 8 (E.at 8 []) 0 (enumT 0 [(.int .i64 x0), (.int .i64 x1), (.sl x2a x2l x2c)]) S (retK E (E.fn 8)) = b8_entry call n (r8_l1_1_1_1_1_0_1_0 call n  n) x0 x1 x2a x2l x2c S := by kernel_rfl
def J8_j1_1_1_1_1_1 (call : CallA) (n : Nat)  (w7 : Option Pos) (w9 : Option Pos) (S : AS) : Option (AV × AS) := b8_j1_1_1_1_1_1 call n  w7 w9 S
theorem h8_j1_1_1_1_1_1 (call : CallA) (n : Nat)  : r8_j1_1_1_1_1_1 call n  = J8_j1_1_1_1_1_1 call n  := by
  funext w7 w9 S
  rw [J8_j1_1_1_1_1_1, a8_j1_1_1_1_1_1]
def J8_l1_1_1_1_1_0_1_0 (call : CallA) (n : Nat)  (m : Nat) : Option Pos → Nat → Cap → Bool → Option Pos → Option Pos → Int → AS → Option (AV × AS) := Nat.rec (motive := fun _ => Option Pos → Nat → Cap → Bool → Option Pos → Option Pos → Int → AS → Option (AV × AS)) (fun _ _ _ _ _ _ _ _ => none) (fun _ ih w2a w2l w2c w6 w7 w9 w11 S => b8_l1_1_1_1_1_0_1_0 call n ih (J8_j1_1_1_1_1_1 call n ) w2a w2l w2c w6 w7 w9 w11 S) m
theorem J8_l1_1_1_1_1_0_1_0_succ (call : CallA) (n : Nat)  (m : Nat) (w2a : Option Pos) (w2l : Nat) (w2c : Cap) (w6 : Bool) (w7 : Option Pos) (w9 : Option Pos) (w11 : Int) (S : AS) : J8_l1_1_1_1_1_0_1_0 call n  (m + 1) w2a w2l w2c w6 w7 w9 w11 S = b8_l1_1_1_1_1_0_1_0 call n (J8_l1_1_1_1_1_0_1_0 call n  m) (J8_j1_1_1_1_1_1 call n ) w2a w2l w2c w6 w7 w9 w11 S := rfl
theorem h8_l1_1_1_1_1_0_1_0 (call : CallA) (n : Nat)  (m : Nat) : r8_l1_1_1_1_1_0_1_0 call n  m = J8_l1_1_1_1_1_0_1_0 call n  m := by
  induction m with
  | zero => rfl
  | succ m ih =>
    funext w2a w2l w2c w6 w7 w9 w11 S
    rw [J8_l1_1_1_1_1_0_1_0_succ, a8_l1_1_1_1_1_0_1_0, h8_j1_1_1_1_1_1 call n , ih]
def J8 (call : CallA) (n : Nat) (x0 : Int) (x1 : Int) (x2a : Option Pos) (x2l : Nat) (x2c : Cap) (S : AS) : Option (AV × AS) := b8_entry call n (J8_l1_1_1_1_1_0_1_0 call n  n) x0 x1 x2a x2l x2c S
theorem run8 (o : Orc) (n : Nat) (args : List AV) (S : AS) (ho : o 8 args = none) : evF E o (n + 1) (.fn 8) args S = evC E (evF E o n) n 8 (E.at 8 []) 0 (enumT 0 args) S (retK E (E.fn 8)) := by
  rw [evF, ho]; kernel_rfl
theorem J8_eq (call : CallA) (n : Nat) (x0 : Int) (x1 : Int) (x2a : Option Pos) (x2l : Nat) (x2c : Cap) (S : AS) : evC E call n 8 (E.at 8 []) 0 (enumT 0 [(.int .i64 x0), (.int .i64 x1), (.sl x2a x2l x2c)]) S (retK E (E.fn 8)) = J8 call n x0 x1 x2a x2l x2c S := by
  rw [J8, a8_entry, h8_l1_1_1_1_1_0_1_0 call n  n]
theorem F8 {o : Orc} (n : Nat) (x0 : Int) (x1 : Int) (x2a : Option Pos) (x2l : Nat) (x2c : Cap) (S : AS) (ho : ∀ args, o 8 args = none) : evF E o (n + 1) (.fn 8) [(.int .i64 x0), (.int .i64 x1), (.sl x2a x2l x2c)] S = J8 (evF E o n) n x0 x1 x2a x2l x2c S := (run8 o n [(.int .i64 x0), (.int .i64 x1), (.sl x2a x2l x2c)] S (ho _)).trans (J8_eq _ _ x0 x1 x2a x2l x2c S)
def b9_entry (call : CallA) (n : Nat)   (S : AS) : Option (AV × AS) :=
 callT call 15 [(.ptr none), (.int .i64 0)] S fun v2 S1 =>
 atL v2 0 fun v3a v3l v3c =>
 atI .i64 v2 1 fun v4 =>
 callT call 25 [(.ptr none), (.int .i64 0)] S1 fun v6 S5 =>
 atL v6 0 fun v7a v7l v7c =>
 atB v6 1 fun v8 =>
 newA S5 (.cells [(.int .i64 0)]) fun b9 S10 =>
 callT call 32 [(.ptr none), (.sl (some (.rw b9, 0)) 1 (.ex 1))] S10 fun v12 S11 =>
 callT call 36 [(.ptr none)] S11 fun v14 S13 =>
 callT call 37 [(.ptr none)] S13 fun v16 S15 =>
 callT call 11 [(.int .i64 1), (.int .i64 8)] S15 fun v18 S17 =>
 atP v18 0 fun v19 =>
 atI .i64 v18 1 fun v20 =>
 callB call 10 [] S17 fun v22 S21 =>
 cond v22 (
 cond (((v3l : Nat) : Int) == 0) (
 callI .i64 call 12 [(.int .i64 v4)] S21 fun v24 S23 =>
 cond (v24 == 7) (
 cond (((v7l : Nat) : Int) == 0) (
 cond (!v8) (
 callL call 14 [(.int .i64 8), (.int .u8 1)] S23 fun v26a v26l v26c S25 =>
 callI .i64 call 13 [(.ptr none), (.int .i64 0), (.sl v26a v26l v26c)] S25 fun v28 S27 =>
 callI .i64 call 12 [(.int .i64 v28)] S27 fun v30 S29 =>
 cond (v30 == 7) (
 callI .i64 call 38 [(.ptr none)] S29 fun v32 S31 =>
 cond (v32 == 0) (
 callI .i64 call 17 [(.ptr none)] S31 fun v34 S33 =>
 callI .i64 call 12 [(.int .i64 v34)] S33 fun v36 S35 =>
 cond (v36 == 7) (
 callI .i64 call 29 [(.ptr none), (.int .i64 0)] S35 fun v38 S37 =>
 callI .i64 call 12 [(.int .i64 v38)] S37 fun v40 S39 =>
 cond (v40 == 7) (
 callI .i64 call 27 [(.ptr none), (.int .i64 0), (.int .i64 0), (.int .u32 1)] S39 fun v42 S41 =>
 callI .i64 call 12 [(.int .i64 v42)] S41 fun v44 S43 =>
 cond (v44 == 7) (
 callI .i64 call 39 [(.ptr none)] S43 fun v46 S45 =>
 cond (v46 == 0) (
 callL call 16 [(.ptr none)] S45 fun v48a v48l v48c S47 =>
 cond (((v48l : Nat) : Int) == 0) (
 callB call 31 [(.ptr none)] S47 fun v50 S49 =>
 cond (!v50) (
 callL call 23 [(.ptr none)] S49 fun v52a v52l v52c S51 =>
 cond (((v52l : Nat) : Int) == 0) (
 callI .i64 call 18 [(.ptr none)] S51 fun v54 S53 =>
 cond (v54 == 0) (
 callP call 26 [(.ptr none)] S53 fun v56 S55 =>
 cond v56.isNone (
 callB call 21 [(.ptr none), (.ptr none)] S55 fun v58 S57 =>
 cond v58 (
 callB call 21 [(.ptr v19), (.ptr none)] S57 fun v60 S59 =>
 cond (!v60) (
 callB call 21 [(.ptr none), (.ptr v19)] S59 fun v62 S61 =>
 some ((.bool (!v62)), S61)) (
 some ((.bool false), S59))) (
 some ((.bool false), S57))) (
 some ((.bool false), S55))) (
 some ((.bool false), S53))) (
 some ((.bool false), S51))) (
 some ((.bool false), S49))) (
 some ((.bool false), S47))) (
 some ((.bool false), S45))) (
 some ((.bool false), S43))) (
 some ((.bool false), S39))) (
 some ((.bool false), S35))) (
 some ((.bool false), S31))) (
 some ((.bool false), S29))) (
 some ((.bool false), S23))) (
 some ((.bool false), S23))) (
 some ((.bool false), S23))) (
 some ((.bool false), S21))) (
 some ((.bool false), S21))

theorem a9_entry (call : CallA) (n : Nat)  (S : AS) : evC E call n 9 (E.at 9 []) 0 (enumT 0 []) S (retK E (E.fn 9)) = b9_entry call n   S := by kernel_rfl
def J9 (call : CallA) (n : Nat)  (S : AS) : Option (AV × AS) := b9_entry call n   S
theorem run9 (o : Orc) (n : Nat) (args : List AV) (S : AS) (ho : o 9 args = none) : evF E o (n + 1) (.fn 9) args S = evC E (evF E o n) n 9 (E.at 9 []) 0 (enumT 0 args) S (retK E (E.fn 9)) := by
  rw [evF, ho]; kernel_rfl
theorem J9_eq (call : CallA) (n : Nat)  (S : AS) : evC E call n 9 (E.at 9 []) 0 (enumT 0 []) S (retK E (E.fn 9)) = J9 call n  S := by
  rw [J9, a9_entry]
theorem F9 {o : Orc} (n : Nat)  (S : AS) (ho : ∀ args, o 9 args = none) : evF E o (n + 1) (.fn 9) [] S = J9 (evF E o n) n  S := (run9 o n [] S (ho _)).trans (J9_eq _ _  S)
def b10_entry (call : CallA) (n : Nat)   (S : AS) : Option (AV × AS) :=
 callT call 11 [(.int .i64 2), (.int .i64 16)] S fun v2 S1 =>
 atP v2 0 fun v3 =>
 atI .i64 v2 1 fun v4 =>
 callI .i64 call 12 [(.int .i64 v4)] S1 fun v6 S5 =>
 cond (v6 != 0) (
 some ((.bool false), S5)) (
 cond v3.isNone (
 some ((.bool false), S5)) (
 callL call 14 [(.int .i64 16), (.int .u8 97)] S5 fun v8a v8l v8c S7 =>
 callI .i64 call 13 [(.ptr v3), (.int .i64 1), (.sl v8a v8l v8c)] S7 fun v10 S9 =>
 callL call 14 [(.int .i64 16), (.int .u8 98)] S9 fun v12a v12l v12c S11 =>
 callI .i64 call 13 [(.ptr v3), (.int .i64 1), (.sl v12a v12l v12c)] S11 fun v14 S13 =>
 callT call 15 [(.ptr v3), (.int .i64 1)] S13 fun v16 S15 =>
 atL v16 0 fun v17a v17l v17c =>
 atI .i64 v16 1 fun v18 =>
 newA S15 (.cells [(.int .i64 0)]) fun b19 S20 =>
 callT call 32 [(.ptr v3), (.sl (some (.rw b19, 0)) 1 (.ex 1))] S20 fun v22 S21 =>
 callT call 15 [(.ptr v3), (.int .i64 1)] S21 fun v24 S23 =>
 atL v24 0 fun v25a v25l v25c =>
 atI .i64 v24 1 fun v26 =>
 callI .i64 call 27 [(.ptr v3), (.int .i64 0), (.int .i64 0), (.int .u32 1)] S23 fun v28 S27 =>
 callI .i64 call 27 [(.ptr v3), (.int .i64 0), (.int .i64 8), (.int .u32 1)] S27 fun v30 S29 =>
 callT call 15 [(.ptr v3), (.int .i64 0)] S29 fun v32 S31 =>
 atL v32 0 fun v33a v33l v33c =>
 atI .i64 v32 1 fun v34 =>
 callI .i64 call 29 [(.ptr v3), (.int .i64 1)] S31 fun v36 S35 =>
 callT call 15 [(.ptr v3), (.int .i64 1)] S35 fun v38 S37 =>
 atL v38 0 fun v39a v39l v39c =>
 atI .i64 v38 1 fun v40 =>
 callL call 14 [(.int .i64 16), (.int .u8 99)] S37 fun v42a v42l v42c S41 =>
 callI .i64 call 13 [(.ptr v3), (.int .i64 1), (.sl v42a v42l v42c)] S41 fun v44 S43 =>
 callI .i64 call 17 [(.ptr v3)] S43 fun v46 S45 =>
 drawA S45 85 fun b47 S48 =>
 callI .i64 call 12 [(.int .i64 v10)] S48 fun v50 S49 =>
 cond (v50 == 0) (
 callI .i64 call 12 [(.int .i64 v14)] S49 fun v52 S51 =>
 cond (v52 == 0) (
 bytesStr S51 v17a v17l fun s53 =>
 callL call 14 [(.int .i64 16), (.int .u8 98)] S51 fun v55a v55l v55c S54 =>
 bytesStr S54 v17a v17l fun s56 =>
 cond (AV.beq (.str s56) (.str s53)) (
 bytesStr S54 v55a v55l fun s57 =>
 cond (s53 == s57) (
 callI .i64 call 12 [(.int .i64 v18)] S54 fun v59 S58 =>
 cond (v59 == 0) (
 bytesStr S58 v25a v25l fun s60 =>
 callL call 14 [(.int .i64 16), (.int .u8 97)] S58 fun v62a v62l v62c S61 =>
 bytesStr S61 v25a v25l fun s63 =>
 cond (AV.beq (.str s63) (.str s60)) (
 bytesStr S61 v62a v62l fun s64 =>
 cond (s60 == s64) (
 callI .i64 call 12 [(.int .i64 v26)] S61 fun v66 S65 =>
 cond (v66 == 0) (
 callI .i64 call 12 [(.int .i64 v28)] S65 fun v68 S67 =>
 cond (v68 == 0) (
 callI .i64 call 12 [(.int .i64 v30)] S67 fun v70 S69 =>
 cond (v70 == 8) (
 cond (((v33l : Nat) : Int) == 16) (
 ixSl 1 v33a v33l 0 fun p71 =>
 ldI .u8 S69 p71.1 p71.2 fun v72 =>
 cond (v72 == 1) (
 callI .i64 call 12 [(.int .i64 v36)] S69 fun v74 S73 =>
 cond (v74 == 0) (
 callI .i64 call 12 [(.int .i64 v40)] S73 fun v76 S75 =>
 cond (v76 == 42) (
 callI .i64 call 12 [(.int .i64 v44)] S75 fun v78 S77 =>
 cond (v78 == 0) (
 callI .i64 call 12 [(.int .i64 v46)] S77 fun v80 S79 =>
 cond (v80 == 0) (
 callL call 23 [(.ptr v3)] S79 fun v82a v82l v82c S81 =>
 layA S81 (b47 + 76) (.cells [(.int .i64 0)]) fun S83 =>
 callB call 24 [(.sl v82a v82l v82c), (.sl (some (.rw (b47 + 76), 0)) 1 (.ex 1))] S83 fun v85 S84 =>
 cond v85 (
 callI .i64 call 18 [(.ptr v3)] S84 fun v87 S86 =>
 some ((.bool (v87 == 2)), S86)) (
 some ((.bool false), S84))) (
 some ((.bool false), S79))) (
 some ((.bool false), S77))) (
 some ((.bool false), S75))) (
 some ((.bool false), S73))) (
 some ((.bool false), S69))) (
 some ((.bool false), S69))) (
 some ((.bool false), S69))) (
 some ((.bool false), S67))) (
 some ((.bool false), S65))) (
 some ((.bool false), S61))) none) (
 some ((.bool false), S58))) (
 some ((.bool false), S54))) none) (
 some ((.bool false), S51))) (
 some ((.bool false), S49))))

theorem a10_entry (call : CallA) (n : Nat)  (S : AS) : evC E call n 10 (E.at 10 []) 0 (enumT 0 []) S (retK E (E.fn 10)) = b10_entry call n   S := by kernel_rfl
def J10 (call : CallA) (n : Nat)  (S : AS) : Option (AV × AS) := b10_entry call n   S
theorem run10 (o : Orc) (n : Nat) (args : List AV) (S : AS) (ho : o 10 args = none) : evF E o (n + 1) (.fn 10) args S = evC E (evF E o n) n 10 (E.at 10 []) 0 (enumT 0 args) S (retK E (E.fn 10)) := by
  rw [evF, ho]; kernel_rfl
theorem J10_eq (call : CallA) (n : Nat)  (S : AS) : evC E call n 10 (E.at 10 []) 0 (enumT 0 []) S (retK E (E.fn 10)) = J10 call n  S := by
  rw [J10, a10_entry]
theorem F10 {o : Orc} (n : Nat)  (S : AS) (ho : ∀ args, o 10 args = none) : evF E o (n + 1) (.fn 10) [] S = J10 (evF E o n) n  S := (run10 o n [] S (ho _)).trans (J10_eq _ _  S)
def b11_entry (call : CallA) (n : Nat)  (x0 : Int) (x1 : Int) (S : AS) : Option (AV × AS) :=
 cond (decide (x0 < 1)) (
 some (.tup [(.ptr none), (.int .i64 2)], S)) (
 cond (decide (x0 > 65536)) (
 some (.tup [(.ptr none), (.int .i64 2)], S)) (
 cond (decide (x1 < 8)) (
 some (.tup [(.ptr none), (.int .i64 2)], S)) (
 cond (decide (x1 > 512)) (
 some (.tup [(.ptr none), (.int .i64 2)], S)) (
 mkSl 520 x0 x0 fun l3 c4 =>
 newA S (.cells (zeros c4 (List.replicate 512 (AV.int .u8 0 : AV) ++ [AV.int .i64 0]))) fun b1 S2 =>
 newA S2 (.cells [(.int .i64 x1), (.sl (some (.rw b1, 0)) l3 (.ex c4)), (.sl none 0 (.ex 0)), (.bool false), (.int .i64 0)]) fun b5 S6 =>
 some (.tup [(.ptr (some ((.rw b5), 0))), (.int .i64 0)], S6)))))

theorem a11_entry (call : CallA) (n : Nat) (x0 : Int) (x1 : Int) (S : AS) : evC E call n 11 (E.at 11 []) 0 (enumT 0 [(.int .i64 x0), (.int .i64 x1)]) S (retK E (E.fn 11)) = b11_entry call n  x0 x1 S := by kernel_rfl
def J11 (call : CallA) (n : Nat) (x0 : Int) (x1 : Int) (S : AS) : Option (AV × AS) := b11_entry call n  x0 x1 S
theorem run11 (o : Orc) (n : Nat) (args : List AV) (S : AS) (ho : o 11 args = none) : evF E o (n + 1) (.fn 11) args S = evC E (evF E o n) n 11 (E.at 11 []) 0 (enumT 0 args) S (retK E (E.fn 11)) := by
  rw [evF, ho]; kernel_rfl
theorem J11_eq (call : CallA) (n : Nat) (x0 : Int) (x1 : Int) (S : AS) : evC E call n 11 (E.at 11 []) 0 (enumT 0 [(.int .i64 x0), (.int .i64 x1)]) S (retK E (E.fn 11)) = J11 call n x0 x1 S := by
  rw [J11, a11_entry]
theorem F11 {o : Orc} (n : Nat) (x0 : Int) (x1 : Int) (S : AS) (ho : ∀ args, o 11 args = none) : evF E o (n + 1) (.fn 11) [(.int .i64 x0), (.int .i64 x1)] S = J11 (evF E o n) n x0 x1 S := (run11 o n [(.int .i64 x0), (.int .i64 x1)] S (ho _)).trans (J11_eq _ _ x0 x1 S)
def b12_entry (call : CallA) (n : Nat)  (x0 : Int) (S : AS) : Option (AV × AS) :=
 some ((.int .i64 x0), S)

theorem a12_entry (call : CallA) (n : Nat) (x0 : Int) (S : AS) : evC E call n 12 (E.at 12 []) 0 (enumT 0 [(.int .i64 x0)]) S (retK E (E.fn 12)) = b12_entry call n  x0 S := by kernel_rfl
def J12 (call : CallA) (n : Nat) (x0 : Int) (S : AS) : Option (AV × AS) := b12_entry call n  x0 S
theorem run12 (o : Orc) (n : Nat) (args : List AV) (S : AS) (ho : o 12 args = none) : evF E o (n + 1) (.fn 12) args S = evC E (evF E o n) n 12 (E.at 12 []) 0 (enumT 0 args) S (retK E (E.fn 12)) := by
  rw [evF, ho]; kernel_rfl
theorem J12_eq (call : CallA) (n : Nat) (x0 : Int) (S : AS) : evC E call n 12 (E.at 12 []) 0 (enumT 0 [(.int .i64 x0)]) S (retK E (E.fn 12)) = J12 call n x0 S := by
  rw [J12, a12_entry]
theorem F12 {o : Orc} (n : Nat) (x0 : Int) (S : AS) (ho : ∀ args, o 12 args = none) : evF E o (n + 1) (.fn 12) [(.int .i64 x0)] S = J12 (evF E o n) n x0 S := (run12 o n [(.int .i64 x0)] S (ho _)).trans (J12_eq _ _ x0 S)
def b13_entry (call : CallA) (n : Nat)  (x0 : Option Pos) (x1 : Int) (x2a : Option Pos) (x2l : Nat) (x2c : Cap) (S : AS) : Option (AV × AS) :=
 cond x0.isNone (
 some ((.int .i64 7), S)) (
 callB call 40 [(.ptr x0), (.int .i64 x1)] S fun v2 S1 =>
 cond (!v2) (
 some ((.int .i64 2), S1)) (
 gO x0 fun p3 =>
 ldI .i64 S1 p3.1 p3.2 fun v4 =>
 cond (((x2l : Nat) : Int) != v4) (
 some ((.int .i64 40), S1)) (
 gO x0 fun p5 =>
 ldB S1 p5.1 (p5.2 + 3) fun v6 =>
 cond v6 (
 some ((.int .i64 41), S1)) (
 gO x0 fun p7 =>
 ldL S1 p7.1 (p7.2 + 2) fun v8a v8l v8c =>
 cond (decide (((v8l : Nat) : Int) ≥ 4096)) (
 some ((.int .i64 6), S1)) (
 drawA S1 14 fun b9 S10 =>
 gO x0 fun p11 =>
 ldL S10 p11.1 (p11.2 + 2) fun v12a v12l v12c =>
 bytesStr S10 x2a x2l fun s13 =>
 layA S10 (b9 + 9) (.cells [(.int .i64 x1), (.str s13)]) fun S14 =>
 appendA 2 24 S14 v12a v12l v12c 1 (firstA S14 2 1 (.sl (some (.rw (b9 + 9), 0)) 1 (.ex 1))) fun v15a v15l v15c S16 =>
 gO x0 fun p17 =>
 S16.stn p17.1 (p17.2 + 2) [(.sl v15a v15l v15c)] fun S18 =>
 some ((.int .i64 0), S18))))))

theorem a13_entry (call : CallA) (n : Nat) (x0 : Option Pos) (x1 : Int) (x2a : Option Pos) (x2l : Nat) (x2c : Cap) (S : AS) : evC E call n 13 (E.at 13 []) 0 (enumT 0 [(.ptr x0), (.int .i64 x1), (.sl x2a x2l x2c)]) S (retK E (E.fn 13)) = b13_entry call n  x0 x1 x2a x2l x2c S := by kernel_rfl
def J13 (call : CallA) (n : Nat) (x0 : Option Pos) (x1 : Int) (x2a : Option Pos) (x2l : Nat) (x2c : Cap) (S : AS) : Option (AV × AS) := b13_entry call n  x0 x1 x2a x2l x2c S
theorem run13 (o : Orc) (n : Nat) (args : List AV) (S : AS) (ho : o 13 args = none) : evF E o (n + 1) (.fn 13) args S = evC E (evF E o n) n 13 (E.at 13 []) 0 (enumT 0 args) S (retK E (E.fn 13)) := by
  rw [evF, ho]; kernel_rfl
theorem J13_eq (call : CallA) (n : Nat) (x0 : Option Pos) (x1 : Int) (x2a : Option Pos) (x2l : Nat) (x2c : Cap) (S : AS) : evC E call n 13 (E.at 13 []) 0 (enumT 0 [(.ptr x0), (.int .i64 x1), (.sl x2a x2l x2c)]) S (retK E (E.fn 13)) = J13 call n x0 x1 x2a x2l x2c S := by
  rw [J13, a13_entry]
theorem F13 {o : Orc} (n : Nat) (x0 : Option Pos) (x1 : Int) (x2a : Option Pos) (x2l : Nat) (x2c : Cap) (S : AS) (ho : ∀ args, o 13 args = none) : evF E o (n + 1) (.fn 13) [(.ptr x0), (.int .i64 x1), (.sl x2a x2l x2c)] S = J13 (evF E o n) n x0 x1 x2a x2l x2c S := (run13 o n [(.ptr x0), (.int .i64 x1), (.sl x2a x2l x2c)] S (ho _)).trans (J13_eq _ _ x0 x1 x2a x2l x2c S)
def b14_l1_1_0_1_0 (call : CallA) (n : Nat) (l1_1_0_1_0 : Int → Option Pos → Nat → Cap → Int → AS → Option (AV × AS)) (w1 : Int) (w5a : Option Pos) (w5l : Nat) (w5c : Cap) (w6 : Int) (S : AS) : Option (AV × AS) :=
 cond (decide (w6 < ((w5l : Nat) : Int))) (
 ixSl 1 w5a w5l w6 fun p5 =>
 S.stn p5.1 p5.2 [(.int .u8 w1)] fun S6 =>
 l1_1_0_1_0 w1 w5a w5l w5c (IntKind.wrap .i64 (w6 + 1)) S6) (
 some ((.sl w5a w5l w5c), S))

def b14_entry (call : CallA) (n : Nat) (l1_1_0_1_0 : Int → Option Pos → Nat → Cap → Int → AS → Option (AV × AS)) (x0 : Int) (x1 : Int) (S : AS) : Option (AV × AS) :=
 mkSl 1 x0 x0 fun l3 c4 =>
 newA S (.cells (zeros c4 [(.int .u8 0)])) fun b1 S2 =>
 l1_1_0_1_0 x1 (some (.rw b1, 0)) l3 (.ex c4) 0 S2

def r14_l1_1_0_1_0 (call : CallA) (n : Nat)  (m : Nat) (w1 : Int) (w5a : Option Pos) (w5l : Nat) (w5c : Cap) (w6 : Int) (S : AS) : Option (AV × AS) := loopN (evC E call n 14 (E.at 14 [1, 1, 0, 1, 0, 0]) 0) [1, 5, 6] m [(1, (.int .u8 w1)), (5, (.sl w5a w5l w5c)), (6, (.int .i64 w6))] S (kBlk 0 (kSeq E call n 14 (E.at 14 [1, 1, 1]) 0 (retK E (E.fn 14))))
theorem a14_l1_1_0_1_0 (call : CallA) (n : Nat)  (m : Nat) (w1 : Int) (w5a : Option Pos) (w5l : Nat) (w5c : Cap) (w6 : Int) (S : AS) : r14_l1_1_0_1_0 call n  (m + 1) w1 w5a w5l w5c w6 S = b14_l1_1_0_1_0 call n (r14_l1_1_0_1_0 call n  m) w1 w5a w5l w5c w6 S := by kernel_rfl
theorem a14_entry (call : CallA) (n : Nat) (x0 : Int) (x1 : Int) (S : AS) : evC E call n 14 (E.at 14 []) 0 (enumT 0 [(.int .i64 x0), (.int .u8 x1)]) S (retK E (E.fn 14)) = b14_entry call n (r14_l1_1_0_1_0 call n  n) x0 x1 S := by kernel_rfl
def J14_l1_1_0_1_0 (call : CallA) (n : Nat)  (m : Nat) : Int → Option Pos → Nat → Cap → Int → AS → Option (AV × AS) := Nat.rec (motive := fun _ => Int → Option Pos → Nat → Cap → Int → AS → Option (AV × AS)) (fun _ _ _ _ _ _ => none) (fun _ ih w1 w5a w5l w5c w6 S => b14_l1_1_0_1_0 call n ih w1 w5a w5l w5c w6 S) m
theorem J14_l1_1_0_1_0_succ (call : CallA) (n : Nat)  (m : Nat) (w1 : Int) (w5a : Option Pos) (w5l : Nat) (w5c : Cap) (w6 : Int) (S : AS) : J14_l1_1_0_1_0 call n  (m + 1) w1 w5a w5l w5c w6 S = b14_l1_1_0_1_0 call n (J14_l1_1_0_1_0 call n  m) w1 w5a w5l w5c w6 S := rfl
theorem h14_l1_1_0_1_0 (call : CallA) (n : Nat)  (m : Nat) : r14_l1_1_0_1_0 call n  m = J14_l1_1_0_1_0 call n  m := by
  induction m with
  | zero => rfl
  | succ m ih =>
    funext w1 w5a w5l w5c w6 S
    rw [J14_l1_1_0_1_0_succ, a14_l1_1_0_1_0, ih]
def J14 (call : CallA) (n : Nat) (x0 : Int) (x1 : Int) (S : AS) : Option (AV × AS) := b14_entry call n (J14_l1_1_0_1_0 call n  n) x0 x1 S
theorem run14 (o : Orc) (n : Nat) (args : List AV) (S : AS) (ho : o 14 args = none) : evF E o (n + 1) (.fn 14) args S = evC E (evF E o n) n 14 (E.at 14 []) 0 (enumT 0 args) S (retK E (E.fn 14)) := by
  rw [evF, ho]; kernel_rfl
theorem J14_eq (call : CallA) (n : Nat) (x0 : Int) (x1 : Int) (S : AS) : evC E call n 14 (E.at 14 []) 0 (enumT 0 [(.int .i64 x0), (.int .u8 x1)]) S (retK E (E.fn 14)) = J14 call n x0 x1 S := by
  rw [J14, a14_entry, h14_l1_1_0_1_0 call n  n]
theorem F14 {o : Orc} (n : Nat) (x0 : Int) (x1 : Int) (S : AS) (ho : ∀ args, o 14 args = none) : evF E o (n + 1) (.fn 14) [(.int .i64 x0), (.int .u8 x1)] S = J14 (evF E o n) n x0 x1 S := (run14 o n [(.int .i64 x0), (.int .u8 x1)] S (ho _)).trans (J14_eq _ _ x0 x1 S)
def b15_entry (call : CallA) (n : Nat)  (x0 : Option Pos) (x1 : Int) (S : AS) : Option (AV × AS) :=
 newA S (.cells [(.int .i64 x1)]) fun b1 S2 =>
 newA S2 (.cells [(.sl none 0 (.ex 0))]) fun b3 S4 =>
 newA S4 (.cells [(.int .i64 0)]) fun b5 S6 =>
 cond x0.isNone (
 S6.stn (.rw b3) 0 [(.sl none 0 (.ex 0))] fun S7 =>
 S7.stn (.rw b5) 0 [(.int .i64 7)] fun S8 =>
 ldL S8 (.rw b3) 0 fun v9a v9l v9c =>
 ldI .i64 S8 (.rw b5) 0 fun v10 =>
 some (.tup [(.sl v9a v9l v9c), (.int .i64 v10)], S8)) (
 ldI .i64 S6 (.rw b1) 0 fun v11 =>
 callB call 40 [(.ptr x0), (.int .i64 v11)] S6 fun v13 S12 =>
 cond (!v13) (
 S12.stn (.rw b3) 0 [(.sl none 0 (.ex 0))] fun S14 =>
 S14.stn (.rw b5) 0 [(.int .i64 2)] fun S15 =>
 ldL S15 (.rw b3) 0 fun v16a v16l v16c =>
 ldI .i64 S15 (.rw b5) 0 fun v17 =>
 some (.tup [(.sl v16a v16l v16c), (.int .i64 v17)], S15)) (
 gO x0 fun p18 =>
 ldB S12 p18.1 (p18.2 + 3) fun v19 =>
 cond v19 (
 S12.stn (.rw b3) 0 [(.sl none 0 (.ex 0))] fun S20 =>
 S20.stn (.rw b5) 0 [(.int .i64 41)] fun S21 =>
 ldL S21 (.rw b3) 0 fun v22a v22l v22c =>
 ldI .i64 S21 (.rw b5) 0 fun v23 =>
 some (.tup [(.sl v22a v22l v22c), (.int .i64 v23)], S21)) (
 gO x0 fun p24 =>
 ldL S12 p24.1 (p24.2 + 2) fun v25a v25l v25c =>
 callV call 41 [(.sl v25a v25l v25c)] S12 fun v27 S26 =>
 rangeF call v27 15 [(25, v27), (24, (.sl v25a v25l v25c)), (23, (.ptr (some (p24.1, p24.2 + 2)))), (22, (.ptr (some p24))), (21, (.ptr x0)), (0, (.ptr x0)), (3, (.ptr (some ((.rw b1), 0)))), (4, (.ptr (some ((.rw b3), 0)))), (5, (.ptr (some ((.rw b5), 0))))] [26, 27] (E.at 15 [1, 1, 0, 1, 0, 0]) (E.at 15 [1, 1, 0, 1, 0, 1]) S26 (fun S28 =>
 gO x0 fun p29 =>
 ldL S28 p29.1 (p29.2 + 1) fun v30a v30l v30c =>
 ldI .i64 S28 (.rw b1) 0 fun v31 =>
 ixSl 513 v30a v30l v31 fun p32 =>
 ldI .i64 S28 p32.1 (p32.2 + 512) fun v33 =>
 cond (v33 == 1) (
 S28.stn (.rw b3) 0 [(.sl none 0 (.ex 0))] fun S34 =>
 S34.stn (.rw b5) 0 [(.int .i64 42)] fun S35 =>
 ldL S35 (.rw b3) 0 fun v36a v36l v36c =>
 ldI .i64 S35 (.rw b5) 0 fun v37 =>
 some (.tup [(.sl v36a v36l v36c), (.int .i64 v37)], S35)) (
 gO x0 fun p38 =>
 ldL S28 p38.1 (p38.2 + 1) fun v39a v39l v39c =>
 ldI .i64 S28 (.rw b1) 0 fun v40 =>
 ixSl 513 v39a v39l v40 fun p41 =>
 gO x0 fun p42 =>
 ldI .i64 S28 p42.1 p42.2 fun v43 =>
 slArr 1 p41 512 none (some v43) none fun v44a v44l v44c =>
 callL call 42 [(.sl v44a v44l v44c)] S28 fun v46a v46l v46c S45 =>
 S45.stn (.rw b3) 0 [(.sl v46a v46l v46c)] fun S47 =>
 S47.stn (.rw b5) 0 [(.int .i64 0)] fun S48 =>
 ldL S48 (.rw b3) 0 fun v49a v49l v49c =>
 ldI .i64 S48 (.rw b5) 0 fun v50 =>
 some (.tup [(.sl v49a v49l v49c), (.int .i64 v50)], S48))) (fun x S28 => (kBlk 1 (kSeq E call n 15 (E.at 15 [1, 1, 1]) 0 (retK E (E.fn 15)))) x [(25, v27), (24, (.sl v25a v25l v25c)), (23, (.ptr (some (p24.1, p24.2 + 2)))), (22, (.ptr (some p24))), (21, (.ptr x0)), (0, (.ptr x0)), (3, (.ptr (some ((.rw b1), 0)))), (4, (.ptr (some ((.rw b3), 0)))), (5, (.ptr (some ((.rw b5), 0))))] S28))))

theorem a15_entry (call : CallA) (n : Nat) (x0 : Option Pos) (x1 : Int) (S : AS) : evC E call n 15 (E.at 15 []) 0 (enumT 0 [(.ptr x0), (.int .i64 x1)]) S (retK E (E.fn 15)) = b15_entry call n  x0 x1 S := by kernel_rfl
def J15 (call : CallA) (n : Nat) (x0 : Option Pos) (x1 : Int) (S : AS) : Option (AV × AS) := b15_entry call n  x0 x1 S
theorem run15 (o : Orc) (n : Nat) (args : List AV) (S : AS) (ho : o 15 args = none) : evF E o (n + 1) (.fn 15) args S = evC E (evF E o n) n 15 (E.at 15 []) 0 (enumT 0 args) S (retK E (E.fn 15)) := by
  rw [evF, ho]; kernel_rfl
theorem J15_eq (call : CallA) (n : Nat) (x0 : Option Pos) (x1 : Int) (S : AS) : evC E call n 15 (E.at 15 []) 0 (enumT 0 [(.ptr x0), (.int .i64 x1)]) S (retK E (E.fn 15)) = J15 call n x0 x1 S := by
  rw [J15, a15_entry]
theorem F15 {o : Orc} (n : Nat) (x0 : Option Pos) (x1 : Int) (S : AS) (ho : ∀ args, o 15 args = none) : evF E o (n + 1) (.fn 15) [(.ptr x0), (.int .i64 x1)] S = J15 (evF E o n) n x0 x1 S := (run15 o n [(.ptr x0), (.int .i64 x1)] S (ho _)).trans (J15_eq _ _ x0 x1 S)
def y15_1_1_0_1_0A (call : CallA) (t25 : AV) (t24a : Option Pos) (t24l : Nat) (t24c : Cap) (t23 : Option Pos) (t22 : Option Pos) (t21 : Option Pos) (t0 : Option Pos) (t3 : Option Pos) (t4 : Option Pos) (t5 : Option Pos) (y26 : AV) (y27 : List AV) (S : AS) (K : KT (AV × AS)) : Option (AV × AS) :=
 newA S (.cells [(.int .i64 0), (.str ([]))]) fun b51 S52 =>
 ifO (y27.length = 2) <|
 S52.stn (.rw b51) 0 y27 fun S53 =>
 K .normal [(7, (.ptr (some ((.rw b51), 0)))), (27, (.agg y27)), (26, y26), (25, t25), (24, (.sl t24a t24l t24c)), (23, (.ptr t23)), (22, (.ptr t22)), (21, (.ptr t21)), (0, (.ptr t0)), (3, (.ptr t3)), (4, (.ptr t4)), (5, (.ptr t5))] S53

theorem ya15_1_1_0_1_0 (call : CallA) (n : Nat) (t25 : AV) (t24a : Option Pos) (t24l : Nat) (t24c : Cap) (t23 : Option Pos) (t22 : Option Pos) (t21 : Option Pos) (t0 : Option Pos) (t3 : Option Pos) (t4 : Option Pos) (t5 : Option Pos) (y26 : AV) (y27 : List AV) (S : AS) (K : KT (AV × AS)) : evC E call n 15 (E.at 15 [1, 1, 0, 1, 0, 0]) 0 (putAll [26, 27] [y26, (.agg y27)] [(25, t25), (24, (.sl t24a t24l t24c)), (23, (.ptr t23)), (22, (.ptr t22)), (21, (.ptr t21)), (0, (.ptr t0)), (3, (.ptr t3)), (4, (.ptr t4)), (5, (.ptr t5))]) S K = y15_1_1_0_1_0A call t25 t24a t24l t24c t23 t22 t21 t0 t3 t4 t5 y26 y27 S K := by kernel_rfl
def y15_1_1_0_1_0B (call : CallA) (z7 : Nat) (z27 : List AV) (z26 : AV) (z25 : AV) (z24a : Option Pos) (z24l : Nat) (z24c : Cap) (z23 : Option Pos) (z22 : Option Pos) (z21 : Option Pos) (z0 : Option Pos) (z3 : Option Pos) (z4 : Option Pos) (z5 : Option Pos) (S : AS) (K : Exit → AS → Option (AV × AS)) : Option (AV × AS) :=
 ldI .i64 S (.rw z7) 0 fun v54 =>
 gO z3 fun p55 =>
 ldI .i64 S p55.1 p55.2 fun v56 =>
 cond (v54 == v56) (
 ldS S (.rw z7) 1 fun v57 =>
 ifO (v57.length ≤ pow46) <|
 newA S (.cells (ofBytes v57)) fun b58 S59 =>
 gO z4 fun p61 =>
 S59.stn p61.1 p61.2 [(.sl (some (.rw b58, 0)) v57.length (.op 1 v57.length))] fun S60 =>
 gO z5 fun p63 =>
 S60.stn p63.1 p63.2 [(.int .i64 0)] fun S62 =>
 K .ret S62) (
 K .normal S)

theorem yb15_1_1_0_1_0 (call : CallA) (n : Nat) (z7 : Nat) (z27 : List AV) (z26 : AV) (z25 : AV) (z24a : Option Pos) (z24l : Nat) (z24c : Cap) (z23 : Option Pos) (z22 : Option Pos) (z21 : Option Pos) (z0 : Option Pos) (z3 : Option Pos) (z4 : Option Pos) (z5 : Option Pos) (S : AS) (K : Exit → AS → Option (AV × AS)) : evC E call n 15 (E.at 15 [1, 1, 0, 1, 0, 1]) 0 [(7, (.ptr (some ((.rw z7), 0)))), (27, (.agg z27)), (26, z26), (25, z25), (24, (.sl z24a z24l z24c)), (23, (.ptr z23)), (22, (.ptr z22)), (21, (.ptr z21)), (0, (.ptr z0)), (3, (.ptr z3)), (4, (.ptr z4)), (5, (.ptr z5))] S (fun x _ S => K x S) = y15_1_1_0_1_0B call z7 z27 z26 z25 z24a z24l z24c z23 z22 z21 z0 z3 z4 z5 S K := by kernel_rfl
theorem yr15_1_1_0_1_0 (call : CallA) (n : Nat) (t25 : AV) (t24a : Option Pos) (t24l : Nat) (t24c : Cap) (t23 : Option Pos) (t22 : Option Pos) (t21 : Option Pos) (t0 : Option Pos) (t3 : Option Pos) (t4 : Option Pos) (t5 : Option Pos) (S : AS) : (kBlk 1 (kSeq E call n 15 (E.at 15 [1, 1, 1]) 0 (retK E (E.fn 15)))) .ret [(25, t25), (24, (.sl t24a t24l t24c)), (23, (.ptr t23)), (22, (.ptr t22)), (21, (.ptr t21)), (0, (.ptr t0)), (3, (.ptr t3)), (4, (.ptr t4)), (5, (.ptr t5))] S = (
 gO t4 fun p64 =>
 ldL S p64.1 p64.2 fun v65a v65l v65c =>
 gO t5 fun p66 =>
 ldI .i64 S p66.1 p66.2 fun v67 =>
 some (.tup [(.sl v65a v65l v65c), (.int .i64 v67)], S)) := by kernel_rfl
end
end Go.Dk
