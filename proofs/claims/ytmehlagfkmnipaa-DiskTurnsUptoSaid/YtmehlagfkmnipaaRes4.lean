/- Plain readings of the functions, and that they are what the evaluator does: by program. -/
import Derived.Test.YtmehlagfkmnipaaGrRes
import Derived.Test.YtmehlagfkmnipaaENV
import Derived.KernelRfl
set_option maxRecDepth 100000
set_option linter.unusedVariables false
namespace Go.Dk
open Go.Gr
noncomputable section
def b35_l1_1_1_0_1_0 (call : CallA) (n : Nat) (l1_1_1_0_1_0 : Option Pos → Option Pos → Option Pos → Nat → Cap → Int → AS → Option (AV × AS)) (j1_1_1_1 : Option Pos → Option Pos → AS → Option (AV × AS)) (w0 : Option Pos) (w1 : Option Pos) (w5a : Option Pos) (w5l : Nat) (w5c : Cap) (w6 : Int) (S : AS) : Option (AV × AS) :=
 cond (decide (w6 < ((w5l : Nat) : Int))) (
 ixSl 2 w5a w5l w6 fun p33 =>
 S.stn p33.1 p33.2 [(.int .i64 (-1)), (.str ([]))] fun S34 =>
 l1_1_1_0_1_0 w0 w1 w5a w5l w5c (IntKind.wrap .i64 (w6 + 1)) S34) (
 j1_1_1_1 w0 w1 S)

def b35_j1_1_1_1 (call : CallA) (n : Nat) (l1_1_1_1_0_1_0 : Option Pos → Option Pos → AV → Int → AS → Option (AV × AS)) (w0 : Option Pos) (w1 : Option Pos) (S : AS) : Option (AV × AS) :=
 l1_1_1_1_0_1_0 w0 w1 .undef (-1) S

def b35_l1_1_1_1_0_1_0 (call : CallA) (n : Nat) (l1_1_1_1_0_1_0_0_1_0_0_1_1_1_1_1_0_1_0 : Option Pos → Option Pos → Int → Option Pos → Nat → Cap → List UInt8 → Option Pos → Nat → Cap → Int → AS → Option (AV × AS)) (j1_1_1_1_1 : Option Pos → Option Pos → AS → Option (AV × AS)) (w0 : Option Pos) (w1 : Option Pos) (w4 : AV) (w7 : Int) (S : AS) : Option (AV × AS) :=
 gO w1 fun p35 =>
 ldL S p35.1 p35.2 fun v36a v36l v36c =>
 cond (decide (w7 ≤ ((v36l : Nat) : Int))) (
 callT call 15 [(.ptr w0), (.int .i64 w7)] S fun v38 S37 =>
 atL v38 0 fun v39a v39l v39c =>
 atI .i64 v38 1 fun v40 =>
 callT call 58 [(.ptr w1), (.int .i64 w7)] S37 fun v42 S41 =>
 atS v42 0 fun v43 =>
 atI .i64 v42 1 fun v44 =>
 callT call 25 [(.ptr w0), (.int .i64 w7)] S41 fun v46 S45 =>
 atL v46 0 fun v47a v47l v47c =>
 atB v46 1 fun v48 =>
 cond (decide (w7 ≥ 0)) (
 gO w1 fun p49 =>
 ldL S45 p49.1 p49.2 fun v50a v50l v50c =>
 bytesStr S45 v39a v39l fun s51 =>
 cond (!(s51 == v43)) (
 some ((.bool false), S45)) (
 callI .i64 call 12 [(.int .i64 v40)] S45 fun v53 S52 =>
 cond (v53 != v44) (
 some ((.bool false), S52)) (
 cond (!(v48 == (decide (w7 < ((v50l : Nat) : Int))))) (
 some ((.bool false), S52)) (
 cond (decide (w7 < ((v50l : Nat) : Int))) (
 bytesStr S52 v47a v47l fun s54 =>
 gO w1 fun p55 =>
 ldL S52 p55.1 p55.2 fun v56a v56l v56c =>
 ixSl 1 v56a v56l w7 fun p57 =>
 ldS S52 p57.1 p57.2 fun v58 =>
 cond (!(s54 == v58)) (
 some ((.bool false), S52)) (
 cond (!(decide (w7 < ((v50l : Nat) : Int)))) (
 cond (decide (((v47l : Nat) : Int) > 0)) (
 some ((.bool false), S52)) (
 l1_1_1_1_0_1_0_0_1_0_0_1_1_1_1_1_0_1_0 w0 w1 w7 v39a v39l v39c v43 v47a v47l v47c 0 S52)) (
 l1_1_1_1_0_1_0_0_1_0_0_1_1_1_1_1_0_1_0 w0 w1 w7 v39a v39l v39c v43 v47a v47l v47c 0 S52))) (
 cond (!(decide (w7 < ((v50l : Nat) : Int)))) (
 cond (decide (((v47l : Nat) : Int) > 0)) (
 some ((.bool false), S52)) (
 l1_1_1_1_0_1_0_0_1_0_0_1_1_1_1_1_0_1_0 w0 w1 w7 v39a v39l v39c v43 v47a v47l v47c 0 S52)) (
 l1_1_1_1_0_1_0_0_1_0_0_1_1_1_1_1_0_1_0 w0 w1 w7 v39a v39l v39c v43 v47a v47l v47c 0 S52)))))) (
 bytesStr S45 v39a v39l fun s59 =>
 cond (!(s59 == v43)) (
 some ((.bool false), S45)) (
 callI .i64 call 12 [(.int .i64 v40)] S45 fun v61 S60 =>
 cond (v61 != v44) (
 some ((.bool false), S60)) (
 cond (!(v48 == false)) (
 some ((.bool false), S60)) (
 cond (decide (((v47l : Nat) : Int) > 0)) (
 some ((.bool false), S60)) (
 l1_1_1_1_0_1_0_0_1_0_0_1_1_1_1_1_0_1_0 w0 w1 w7 v39a v39l v39c v43 v47a v47l v47c 0 S60)))))) (
 j1_1_1_1_1 w0 w1 S)

def b35_l1_1_1_1_0_1_0_0_1_0_0_1_1_1_1_1_0_1_0 (call : CallA) (n : Nat) (l1_1_1_1_0_1_0_0_1_0_0_1_1_1_1_1_0_1_0 : Option Pos → Option Pos → Int → Option Pos → Nat → Cap → List UInt8 → Option Pos → Nat → Cap → Int → AS → Option (AV × AS)) (j1_1_1_1_0_1_0_0_1_0_0_1_1_1_1_1_1 : Option Pos → Option Pos → Int → List UInt8 → Option Pos → Nat → Cap → AS → Option (AV × AS)) (w0 : Option Pos) (w1 : Option Pos) (w7 : Int) (w8a : Option Pos) (w8l : Nat) (w8c : Cap) (w10 : List UInt8) (w12a : Option Pos) (w12l : Nat) (w12c : Cap) (w15 : Int) (S : AS) : Option (AV × AS) :=
 cond (decide (w15 < ((w8l : Nat) : Int))) (
 ixSl 1 w8a w8l w15 fun p62 =>
 S.stn p62.1 p62.2 [(.int .u8 122)] fun S63 =>
 l1_1_1_1_0_1_0_0_1_0_0_1_1_1_1_1_0_1_0 w0 w1 w7 w8a w8l w8c w10 w12a w12l w12c (IntKind.wrap .i64 (w15 + 1)) S63) (
 j1_1_1_1_0_1_0_0_1_0_0_1_1_1_1_1_1 w0 w1 w7 w10 w12a w12l w12c S)

def b35_j1_1_1_1_1 (call : CallA) (n : Nat)  (w0 : Option Pos) (w1 : Option Pos) (S : AS) : Option (AV × AS) :=
 callL call 16 [(.ptr w0)] S fun v65a v65l v65c S64 =>
 gO w1 fun p66 =>
 ldL S64 p66.1 (p66.2 + 2) fun v67a v67l v67c =>
 ldL S p66.1 (p66.2 + 2) fun v68a v68l v68c =>
 cond (AV.beq (.sl v68a v68l v68c) (.sl v67a v67l v67c)) (
 callB call 30 [(.sl v65a v65l v65c), (.sl v67a v67l v67c)] S64 fun v70 S69 =>
 some ((.bool v70), S69)) none

def b35_j1_1_1_1_0_1_0_0_1_0_0_1_1_1_1_1_1 (call : CallA) (n : Nat) (l1_1_1_1_0_1_0_0_1_0_0_1_1_1_1_1_1_0_1_0 : Option Pos → Option Pos → Int → List UInt8 → Option Pos → Nat → Cap → Int → AS → Option (AV × AS)) (w0 : Option Pos) (w1 : Option Pos) (w7 : Int) (w10 : List UInt8) (w12a : Option Pos) (w12l : Nat) (w12c : Cap) (S : AS) : Option (AV × AS) :=
 l1_1_1_1_0_1_0_0_1_0_0_1_1_1_1_1_1_0_1_0 w0 w1 w7 w10 w12a w12l w12c 0 S

def b35_l1_1_1_1_0_1_0_0_1_0_0_1_1_1_1_1_1_0_1_0 (call : CallA) (n : Nat) (l1_1_1_1_0_1_0_0_1_0_0_1_1_1_1_1_1_0_1_0 : Option Pos → Option Pos → Int → List UInt8 → Option Pos → Nat → Cap → Int → AS → Option (AV × AS)) (j1_1_1_1_0_1_0_0_1_0_0_1_1_1_1_1_1_1 : Option Pos → Option Pos → Int → List UInt8 → AS → Option (AV × AS)) (w0 : Option Pos) (w1 : Option Pos) (w7 : Int) (w10 : List UInt8) (w12a : Option Pos) (w12l : Nat) (w12c : Cap) (w16 : Int) (S : AS) : Option (AV × AS) :=
 cond (decide (w16 < ((w12l : Nat) : Int))) (
 ixSl 1 w12a w12l w16 fun p71 =>
 S.stn p71.1 p71.2 [(.int .u8 121)] fun S72 =>
 l1_1_1_1_0_1_0_0_1_0_0_1_1_1_1_1_1_0_1_0 w0 w1 w7 w10 w12a w12l w12c (IntKind.wrap .i64 (w16 + 1)) S72) (
 j1_1_1_1_0_1_0_0_1_0_0_1_1_1_1_1_1_1 w0 w1 w7 w10 S)

def b35_j1_1_1_1_0_1_0_0_1_0_0_1_1_1_1_1_1_1 (call : CallA) (n : Nat) (l1_1_1_1_0_1_0 : Option Pos → Option Pos → AV → Int → AS → Option (AV × AS)) (w0 : Option Pos) (w1 : Option Pos) (w7 : Int) (w10 : List UInt8) (S : AS) : Option (AV × AS) :=
 callT call 15 [(.ptr w0), (.int .i64 w7)] S fun v74 S73 =>
 atL v74 0 fun v75a v75l v75c =>
 atI .i64 v74 1 fun v76 =>
 bytesStr S73 v75a v75l fun s77 =>
 cond (!(s77 == w10)) (
 some ((.bool false), S73)) (
 l1_1_1_1_0_1_0 w0 w1 .undef (IntKind.wrap .i64 (w7 + 1)) S73)

def b35_entry (call : CallA) (n : Nat) (l1_1_1_0_1_0 : Option Pos → Option Pos → Option Pos → Nat → Cap → Int → AS → Option (AV × AS)) (x0 : Option Pos) (x1 : Option Pos) (S : AS) : Option (AV × AS) :=
 callL call 16 [(.ptr x0)] S fun v2a v2l v2c S1 =>
 callI .i64 call 39 [(.ptr x0)] S1 fun v4 S3 =>
 gO x1 fun p5 =>
 ldL S3 p5.1 p5.2 fun v6a v6l v6c =>
 ldL S1 p5.1 p5.2 fun v7a v7l v7c =>
 cond (AV.beq (.sl v7a v7l v7c) (.sl v6a v6l v6c)) (
 cond (AV.beq (.int .i64 ((v6l : Nat) : Int)) (.int .i64 ((v6l : Nat) : Int))) (
 cond (v4 != ((v6l : Nat) : Int)) (
 some ((.bool false), S3)) (
 callI .i64 call 38 [(.ptr x0)] S3 fun v9 S8 =>
 gO x1 fun p10 =>
 ldI .i64 S8 p10.1 (p10.2 + 5) fun v11 =>
 ldI .i64 S3 p10.1 (p10.2 + 5) fun v12 =>
 cond (AV.beq (.int .i64 v12) (.int .i64 v11)) (
 cond (v9 != v11) (
 some ((.bool false), S8)) (
 callB call 31 [(.ptr x0)] S8 fun v14 S13 =>
 gO x1 fun p15 =>
 ldB S13 p15.1 (p15.2 + 3) fun v16 =>
 ldB S8 p15.1 (p15.2 + 3) fun v17 =>
 cond (AV.beq (.bool v17) (.bool v16)) (
 cond (!(v14 == v16)) (
 some ((.bool false), S13)) (
 callI .i64 call 18 [(.ptr x0)] S13 fun v19 S18 =>
 gO x1 fun p20 =>
 ldI .i64 S18 p20.1 (p20.2 + 4) fun v21 =>
 ldI .i64 S13 p20.1 (p20.2 + 4) fun v22 =>
 cond (AV.beq (.int .i64 v22) (.int .i64 v21)) (
 cond (v19 != v21) (
 some ((.bool false), S18)) (
 gO x1 fun p23 =>
 ldL S18 p23.1 (p23.2 + 2) fun v24a v24l v24c =>
 callB call 30 [(.sl v2a v2l v2c), (.sl v24a v24l v24c)] S18 fun v26 S25 =>
 cond (!v26) (
 some ((.bool false), S25)) (
 callL call 23 [(.ptr x0)] S25 fun v28a v28l v28c S27 =>
 callL call 57 [(.ptr x1)] S27 fun v30a v30l v30c S29 =>
 callB call 24 [(.sl v28a v28l v28c), (.sl v30a v30l v30c)] S29 fun v32 S31 =>
 cond (!v32) (
 some ((.bool false), S31)) (
 l1_1_1_0_1_0 x0 x1 v2a v2l v2c 0 S31)))) none)) none)) none)) none) none

def r35_l1_1_1_0_1_0 (call : CallA) (n : Nat)  (m : Nat) (w0 : Option Pos) (w1 : Option Pos) (w5a : Option Pos) (w5l : Nat) (w5c : Cap) (w6 : Int) (S : AS) : Option (AV × AS) := loopN (evC E call n 35 (E.at 35 [1, 1, 1, 0, 1, 0, 0]) 0) [0, 1, 5, 6] m [(0, (.ptr w0)), (1, (.ptr w1)), (5, (.sl w5a w5l w5c)), (6, (.int .i64 w6))] S (kBlk 0 (kSeq E call n 35 (E.at 35 [1, 1, 1, 1]) 0 (retK E (E.fn 35))))
def r35_j1_1_1_1 (call : CallA) (n : Nat)  (w0 : Option Pos) (w1 : Option Pos) (S : AS) : Option (AV × AS) := evC E call n 35 (E.at 35 [1, 1, 1, 1]) 0 [(0, (.ptr w0)), (1, (.ptr w1))] S (retK E (E.fn 35))
def r35_l1_1_1_1_0_1_0 (call : CallA) (n : Nat)  (m : Nat) (w0 : Option Pos) (w1 : Option Pos) (w4 : AV) (w7 : Int) (S : AS) : Option (AV × AS) := loopN (evC E call n 35 (E.at 35 [1, 1, 1, 1, 0, 1, 0, 0]) 2) [0, 1, 4, 7] m [(0, (.ptr w0)), (1, (.ptr w1)), (4, w4), (7, (.int .i64 w7))] S (kBlk 2 (kSeq E call n 35 (E.at 35 [1, 1, 1, 1, 1]) 0 (retK E (E.fn 35))))
def r35_l1_1_1_1_0_1_0_0_1_0_0_1_1_1_1_1_0_1_0 (call : CallA) (n : Nat) (m1_1_1_1_0_1_0 : Nat) (m : Nat) (w0 : Option Pos) (w1 : Option Pos) (w7 : Int) (w8a : Option Pos) (w8l : Nat) (w8c : Cap) (w10 : List UInt8) (w12a : Option Pos) (w12l : Nat) (w12c : Cap) (w15 : Int) (S : AS) : Option (AV × AS) := loopN (evC E call n 35 (E.at 35 [1, 1, 1, 1, 0, 1, 0, 0, 1, 0, 0, 1, 1, 1, 1, 1, 0, 1, 0, 0]) 4) [0, 1, 7, 8, 10, 12, 15] m [(0, (.ptr w0)), (1, (.ptr w1)), (7, (.int .i64 w7)), (8, (.sl w8a w8l w8c)), (10, (.str w10)), (12, (.sl w12a w12l w12c)), (15, (.int .i64 w15))] S (kBlk 4 (kSeq E call n 35 (E.at 35 [1, 1, 1, 1, 0, 1, 0, 0, 1, 0, 0, 1, 1, 1, 1, 1, 1]) 3 (kBlk 3 (kSeq E call n 35 (E.at 35 [1, 1, 1, 1, 0, 1, 0, 0, 1, 1]) 2 (kLp (evC E call n 35 (E.at 35 [1, 1, 1, 1, 0, 1, 0, 0]) 2) [0, 1, 4, 7] m1_1_1_1_0_1_0 (kBlk 2 (kSeq E call n 35 (E.at 35 [1, 1, 1, 1, 1]) 0 (retK E (E.fn 35)))))))))
def r35_j1_1_1_1_1 (call : CallA) (n : Nat)  (w0 : Option Pos) (w1 : Option Pos) (S : AS) : Option (AV × AS) := evC E call n 35 (E.at 35 [1, 1, 1, 1, 1]) 0 [(0, (.ptr w0)), (1, (.ptr w1))] S (retK E (E.fn 35))
def r35_j1_1_1_1_0_1_0_0_1_0_0_1_1_1_1_1_1 (call : CallA) (n : Nat) (m1_1_1_1_0_1_0 : Nat) (w0 : Option Pos) (w1 : Option Pos) (w7 : Int) (w10 : List UInt8) (w12a : Option Pos) (w12l : Nat) (w12c : Cap) (S : AS) : Option (AV × AS) := evC E call n 35 (E.at 35 [1, 1, 1, 1, 0, 1, 0, 0, 1, 0, 0, 1, 1, 1, 1, 1, 1]) 3 [(0, (.ptr w0)), (1, (.ptr w1)), (7, (.int .i64 w7)), (10, (.str w10)), (12, (.sl w12a w12l w12c))] S (kBlk 3 (kSeq E call n 35 (E.at 35 [1, 1, 1, 1, 0, 1, 0, 0, 1, 1]) 2 (kLp (evC E call n 35 (E.at 35 [1, 1, 1, 1, 0, 1, 0, 0]) 2) [0, 1, 4, 7] m1_1_1_1_0_1_0 (kBlk 2 (kSeq E call n 35 (E.at 35 [1, 1, 1, 1, 1]) 0 (retK E (E.fn 35)))))))
def r35_l1_1_1_1_0_1_0_0_1_0_0_1_1_1_1_1_1_0_1_0 (call : CallA) (n : Nat) (m1_1_1_1_0_1_0 : Nat) (m : Nat) (w0 : Option Pos) (w1 : Option Pos) (w7 : Int) (w10 : List UInt8) (w12a : Option Pos) (w12l : Nat) (w12c : Cap) (w16 : Int) (S : AS) : Option (AV × AS) := loopN (evC E call n 35 (E.at 35 [1, 1, 1, 1, 0, 1, 0, 0, 1, 0, 0, 1, 1, 1, 1, 1, 1, 0, 1, 0, 0]) 6) [0, 1, 7, 10, 12, 16] m [(0, (.ptr w0)), (1, (.ptr w1)), (7, (.int .i64 w7)), (10, (.str w10)), (12, (.sl w12a w12l w12c)), (16, (.int .i64 w16))] S (kBlk 6 (kSeq E call n 35 (E.at 35 [1, 1, 1, 1, 0, 1, 0, 0, 1, 0, 0, 1, 1, 1, 1, 1, 1, 1]) 3 (kBlk 3 (kSeq E call n 35 (E.at 35 [1, 1, 1, 1, 0, 1, 0, 0, 1, 1]) 2 (kLp (evC E call n 35 (E.at 35 [1, 1, 1, 1, 0, 1, 0, 0]) 2) [0, 1, 4, 7] m1_1_1_1_0_1_0 (kBlk 2 (kSeq E call n 35 (E.at 35 [1, 1, 1, 1, 1]) 0 (retK E (E.fn 35)))))))))
def r35_j1_1_1_1_0_1_0_0_1_0_0_1_1_1_1_1_1_1 (call : CallA) (n : Nat) (m1_1_1_1_0_1_0 : Nat) (w0 : Option Pos) (w1 : Option Pos) (w7 : Int) (w10 : List UInt8) (S : AS) : Option (AV × AS) := evC E call n 35 (E.at 35 [1, 1, 1, 1, 0, 1, 0, 0, 1, 0, 0, 1, 1, 1, 1, 1, 1, 1]) 3 [(0, (.ptr w0)), (1, (.ptr w1)), (7, (.int .i64 w7)), (10, (.str w10))] S (kBlk 3 (kSeq E call n 35 (E.at 35 [1, 1, 1, 1, 0, 1, 0, 0, 1, 1]) 2 (kLp (evC E call n 35 (E.at 35 [1, 1, 1, 1, 0, 1, 0, 0]) 2) [0, 1, 4, 7] m1_1_1_1_0_1_0 (kBlk 2 (kSeq E call n 35 (E.at 35 [1, 1, 1, 1, 1]) 0 (retK E (E.fn 35)))))))
theorem a35_l1_1_1_0_1_0 (call : CallA) (n : Nat)  (m : Nat) (w0 : Option Pos) (w1 : Option Pos) (w5a : Option Pos) (w5l : Nat) (w5c : Cap) (w6 : Int) (S : AS) : r35_l1_1_1_0_1_0 call n  (m + 1) w0 w1 w5a w5l w5c w6 S = b35_l1_1_1_0_1_0 call n (r35_l1_1_1_0_1_0 call n  m) (r35_j1_1_1_1 call n ) w0 w1 w5a w5l w5c w6 S := by kernel_rfl
theorem a35_j1_1_1_1 (call : CallA) (n : Nat)  (w0 : Option Pos) (w1 : Option Pos) (S : AS) : r35_j1_1_1_1 call n  w0 w1 S = b35_j1_1_1_1 call n (r35_l1_1_1_1_0_1_0 call n  n) w0 w1 S := by kernel_rfl
theorem a35_l1_1_1_1_0_1_0 (call : CallA) (n : Nat)  (m : Nat) (w0 : Option Pos) (w1 : Option Pos) (w4 : AV) (w7 : Int) (S : AS) : r35_l1_1_1_1_0_1_0 call n  (m + 1) w0 w1 w4 w7 S = b35_l1_1_1_1_0_1_0 call n (r35_l1_1_1_1_0_1_0_0_1_0_0_1_1_1_1_1_0_1_0 call n m n) (r35_j1_1_1_1_1 call n ) w0 w1 w4 w7 S := by kernel_rfl
theorem a35_l1_1_1_1_0_1_0_0_1_0_0_1_1_1_1_1_0_1_0 (call : CallA) (n : Nat) (m1_1_1_1_0_1_0 : Nat) (m : Nat) (w0 : Option Pos) (w1 : Option Pos) (w7 : Int) (w8a : Option Pos) (w8l : Nat) (w8c : Cap) (w10 : List UInt8) (w12a : Option Pos) (w12l : Nat) (w12c : Cap) (w15 : Int) (S : AS) : r35_l1_1_1_1_0_1_0_0_1_0_0_1_1_1_1_1_0_1_0 call n m1_1_1_1_0_1_0 (m + 1) w0 w1 w7 w8a w8l w8c w10 w12a w12l w12c w15 S = b35_l1_1_1_1_0_1_0_0_1_0_0_1_1_1_1_1_0_1_0 call n (r35_l1_1_1_1_0_1_0_0_1_0_0_1_1_1_1_1_0_1_0 call n m1_1_1_1_0_1_0 m) (r35_j1_1_1_1_0_1_0_0_1_0_0_1_1_1_1_1_1 call n m1_1_1_1_0_1_0) w0 w1 w7 w8a w8l w8c w10 w12a w12l w12c w15 S := by kernel_rfl
theorem a35_j1_1_1_1_1 (call : CallA) (n : Nat)  (w0 : Option Pos) (w1 : Option Pos) (S : AS) : r35_j1_1_1_1_1 call n  w0 w1 S = b35_j1_1_1_1_1 call n  w0 w1 S := by kernel_rfl
theorem a35_j1_1_1_1_0_1_0_0_1_0_0_1_1_1_1_1_1 (call : CallA) (n : Nat) (m1_1_1_1_0_1_0 : Nat) (w0 : Option Pos) (w1 : Option Pos) (w7 : Int) (w10 : List UInt8) (w12a : Option Pos) (w12l : Nat) (w12c : Cap) (S : AS) : r35_j1_1_1_1_0_1_0_0_1_0_0_1_1_1_1_1_1 call n m1_1_1_1_0_1_0 w0 w1 w7 w10 w12a w12l w12c S = b35_j1_1_1_1_0_1_0_0_1_0_0_1_1_1_1_1_1 call n (r35_l1_1_1_1_0_1_0_0_1_0_0_1_1_1_1_1_1_0_1_0 call n m1_1_1_1_0_1_0 n) w0 w1 w7 w10 w12a w12l w12c S := by kernel_rfl
theorem a35_l1_1_1_1_0_1_0_0_1_0_0_1_1_1_1_1_1_0_1_0 (call : CallA) (n : Nat) (m1_1_1_1_0_1_0 : Nat) (m : Nat) (w0 : Option Pos) (w1 : Option Pos) (w7 : Int) (w10 : List UInt8) (w12a : Option Pos) (w12l : Nat) (w12c : Cap) (w16 : Int) (S : AS) : r35_l1_1_1_1_0_1_0_0_1_0_0_1_1_1_1_1_1_0_1_0 call n m1_1_1_1_0_1_0 (m + 1) w0 w1 w7 w10 w12a w12l w12c w16 S = b35_l1_1_1_1_0_1_0_0_1_0_0_1_1_1_1_1_1_0_1_0 call n (r35_l1_1_1_1_0_1_0_0_1_0_0_1_1_1_1_1_1_0_1_0 call n m1_1_1_1_0_1_0 m) (r35_j1_1_1_1_0_1_0_0_1_0_0_1_1_1_1_1_1_1 call n m1_1_1_1_0_1_0) w0 w1 w7 w10 w12a w12l w12c w16 S := by kernel_rfl
theorem a35_j1_1_1_1_0_1_0_0_1_0_0_1_1_1_1_1_1_1 (call : CallA) (n : Nat) (m1_1_1_1_0_1_0 : Nat) (w0 : Option Pos) (w1 : Option Pos) (w7 : Int) (w10 : List UInt8) (S : AS) : r35_j1_1_1_1_0_1_0_0_1_0_0_1_1_1_1_1_1_1 call n m1_1_1_1_0_1_0 w0 w1 w7 w10 S = b35_j1_1_1_1_0_1_0_0_1_0_0_1_1_1_1_1_1_1 call n (r35_l1_1_1_1_0_1_0 call n  m1_1_1_1_0_1_0) w0 w1 w7 w10 S := by kernel_rfl
theorem a35_entry (call : CallA) (n : Nat) (x0 : Option Pos) (x1 : Option Pos) (S : AS) : evC E call n 35 (E.at 35 []) 0 (enumT 0 [(.ptr x0), (.ptr x1)]) S (retK E (E.fn 35)) = b35_entry call n (r35_l1_1_1_0_1_0 call n  n) x0 x1 S := by kernel_rfl
def J35_j1_1_1_1_0_1_0_0_1_0_0_1_1_1_1_1_1_1 (call : CallA) (n : Nat) (n1_1_1_1_0_1_0 : Option Pos → Option Pos → AV → Int → AS → Option (AV × AS)) (w0 : Option Pos) (w1 : Option Pos) (w7 : Int) (w10 : List UInt8) (S : AS) : Option (AV × AS) := b35_j1_1_1_1_0_1_0_0_1_0_0_1_1_1_1_1_1_1 call n n1_1_1_1_0_1_0 w0 w1 w7 w10 S
theorem h35_j1_1_1_1_0_1_0_0_1_0_0_1_1_1_1_1_1_1 (call : CallA) (n : Nat) (m1_1_1_1_0_1_0 : Nat) : r35_j1_1_1_1_0_1_0_0_1_0_0_1_1_1_1_1_1_1 call n m1_1_1_1_0_1_0 = J35_j1_1_1_1_0_1_0_0_1_0_0_1_1_1_1_1_1_1 call n (r35_l1_1_1_1_0_1_0 call n  m1_1_1_1_0_1_0) := by
  funext w0 w1 w7 w10 S
  rw [J35_j1_1_1_1_0_1_0_0_1_0_0_1_1_1_1_1_1_1, a35_j1_1_1_1_0_1_0_0_1_0_0_1_1_1_1_1_1_1]
def J35_l1_1_1_1_0_1_0_0_1_0_0_1_1_1_1_1_1_0_1_0 (call : CallA) (n : Nat) (n1_1_1_1_0_1_0 : Option Pos → Option Pos → AV → Int → AS → Option (AV × AS)) (m : Nat) : Option Pos → Option Pos → Int → List UInt8 → Option Pos → Nat → Cap → Int → AS → Option (AV × AS) := Nat.rec (motive := fun _ => Option Pos → Option Pos → Int → List UInt8 → Option Pos → Nat → Cap → Int → AS → Option (AV × AS)) (fun _ _ _ _ _ _ _ _ _ => none) (fun _ ih w0 w1 w7 w10 w12a w12l w12c w16 S => b35_l1_1_1_1_0_1_0_0_1_0_0_1_1_1_1_1_1_0_1_0 call n ih (J35_j1_1_1_1_0_1_0_0_1_0_0_1_1_1_1_1_1_1 call n n1_1_1_1_0_1_0) w0 w1 w7 w10 w12a w12l w12c w16 S) m
theorem J35_l1_1_1_1_0_1_0_0_1_0_0_1_1_1_1_1_1_0_1_0_succ (call : CallA) (n : Nat) (n1_1_1_1_0_1_0 : Option Pos → Option Pos → AV → Int → AS → Option (AV × AS)) (m : Nat) (w0 : Option Pos) (w1 : Option Pos) (w7 : Int) (w10 : List UInt8) (w12a : Option Pos) (w12l : Nat) (w12c : Cap) (w16 : Int) (S : AS) : J35_l1_1_1_1_0_1_0_0_1_0_0_1_1_1_1_1_1_0_1_0 call n n1_1_1_1_0_1_0 (m + 1) w0 w1 w7 w10 w12a w12l w12c w16 S = b35_l1_1_1_1_0_1_0_0_1_0_0_1_1_1_1_1_1_0_1_0 call n (J35_l1_1_1_1_0_1_0_0_1_0_0_1_1_1_1_1_1_0_1_0 call n n1_1_1_1_0_1_0 m) (J35_j1_1_1_1_0_1_0_0_1_0_0_1_1_1_1_1_1_1 call n n1_1_1_1_0_1_0) w0 w1 w7 w10 w12a w12l w12c w16 S := rfl
theorem h35_l1_1_1_1_0_1_0_0_1_0_0_1_1_1_1_1_1_0_1_0 (call : CallA) (n : Nat) (m1_1_1_1_0_1_0 : Nat) (m : Nat) : r35_l1_1_1_1_0_1_0_0_1_0_0_1_1_1_1_1_1_0_1_0 call n m1_1_1_1_0_1_0 m = J35_l1_1_1_1_0_1_0_0_1_0_0_1_1_1_1_1_1_0_1_0 call n (r35_l1_1_1_1_0_1_0 call n  m1_1_1_1_0_1_0) m := by
  induction m with
  | zero => rfl
  | succ m ih =>
    funext w0 w1 w7 w10 w12a w12l w12c w16 S
    rw [J35_l1_1_1_1_0_1_0_0_1_0_0_1_1_1_1_1_1_0_1_0_succ, a35_l1_1_1_1_0_1_0_0_1_0_0_1_1_1_1_1_1_0_1_0, h35_j1_1_1_1_0_1_0_0_1_0_0_1_1_1_1_1_1_1 call n m1_1_1_1_0_1_0, ih]
def J35_j1_1_1_1_0_1_0_0_1_0_0_1_1_1_1_1_1 (call : CallA) (n : Nat) (n1_1_1_1_0_1_0 : Option Pos → Option Pos → AV → Int → AS → Option (AV × AS)) (w0 : Option Pos) (w1 : Option Pos) (w7 : Int) (w10 : List UInt8) (w12a : Option Pos) (w12l : Nat) (w12c : Cap) (S : AS) : Option (AV × AS) := b35_j1_1_1_1_0_1_0_0_1_0_0_1_1_1_1_1_1 call n (J35_l1_1_1_1_0_1_0_0_1_0_0_1_1_1_1_1_1_0_1_0 call n n1_1_1_1_0_1_0 n) w0 w1 w7 w10 w12a w12l w12c S
theorem h35_j1_1_1_1_0_1_0_0_1_0_0_1_1_1_1_1_1 (call : CallA) (n : Nat) (m1_1_1_1_0_1_0 : Nat) : r35_j1_1_1_1_0_1_0_0_1_0_0_1_1_1_1_1_1 call n m1_1_1_1_0_1_0 = J35_j1_1_1_1_0_1_0_0_1_0_0_1_1_1_1_1_1 call n (r35_l1_1_1_1_0_1_0 call n  m1_1_1_1_0_1_0) := by
  funext w0 w1 w7 w10 w12a w12l w12c S
  rw [J35_j1_1_1_1_0_1_0_0_1_0_0_1_1_1_1_1_1, a35_j1_1_1_1_0_1_0_0_1_0_0_1_1_1_1_1_1, h35_l1_1_1_1_0_1_0_0_1_0_0_1_1_1_1_1_1_0_1_0 call n m1_1_1_1_0_1_0 n]
def J35_l1_1_1_1_0_1_0_0_1_0_0_1_1_1_1_1_0_1_0 (call : CallA) (n : Nat) (n1_1_1_1_0_1_0 : Option Pos → Option Pos → AV → Int → AS → Option (AV × AS)) (m : Nat) : Option Pos → Option Pos → Int → Option Pos → Nat → Cap → List UInt8 → Option Pos → Nat → Cap → Int → AS → Option (AV × AS) := Nat.rec (motive := fun _ => Option Pos → Option Pos → Int → Option Pos → Nat → Cap → List UInt8 → Option Pos → Nat → Cap → Int → AS → Option (AV × AS)) (fun _ _ _ _ _ _ _ _ _ _ _ _ => none) (fun _ ih w0 w1 w7 w8a w8l w8c w10 w12a w12l w12c w15 S => b35_l1_1_1_1_0_1_0_0_1_0_0_1_1_1_1_1_0_1_0 call n ih (J35_j1_1_1_1_0_1_0_0_1_0_0_1_1_1_1_1_1 call n n1_1_1_1_0_1_0) w0 w1 w7 w8a w8l w8c w10 w12a w12l w12c w15 S) m
theorem J35_l1_1_1_1_0_1_0_0_1_0_0_1_1_1_1_1_0_1_0_succ (call : CallA) (n : Nat) (n1_1_1_1_0_1_0 : Option Pos → Option Pos → AV → Int → AS → Option (AV × AS)) (m : Nat) (w0 : Option Pos) (w1 : Option Pos) (w7 : Int) (w8a : Option Pos) (w8l : Nat) (w8c : Cap) (w10 : List UInt8) (w12a : Option Pos) (w12l : Nat) (w12c : Cap) (w15 : Int) (S : AS) : J35_l1_1_1_1_0_1_0_0_1_0_0_1_1_1_1_1_0_1_0 call n n1_1_1_1_0_1_0 (m + 1) w0 w1 w7 w8a w8l w8c w10 w12a w12l w12c w15 S = b35_l1_1_1_1_0_1_0_0_1_0_0_1_1_1_1_1_0_1_0 call n (J35_l1_1_1_1_0_1_0_0_1_0_0_1_1_1_1_1_0_1_0 call n n1_1_1_1_0_1_0 m) (J35_j1_1_1_1_0_1_0_0_1_0_0_1_1_1_1_1_1 call n n1_1_1_1_0_1_0) w0 w1 w7 w8a w8l w8c w10 w12a w12l w12c w15 S := rfl
theorem h35_l1_1_1_1_0_1_0_0_1_0_0_1_1_1_1_1_0_1_0 (call : CallA) (n : Nat) (m1_1_1_1_0_1_0 : Nat) (m : Nat) : r35_l1_1_1_1_0_1_0_0_1_0_0_1_1_1_1_1_0_1_0 call n m1_1_1_1_0_1_0 m = J35_l1_1_1_1_0_1_0_0_1_0_0_1_1_1_1_1_0_1_0 call n (r35_l1_1_1_1_0_1_0 call n  m1_1_1_1_0_1_0) m := by
  induction m with
  | zero => rfl
  | succ m ih =>
    funext w0 w1 w7 w8a w8l w8c w10 w12a w12l w12c w15 S
    rw [J35_l1_1_1_1_0_1_0_0_1_0_0_1_1_1_1_1_0_1_0_succ, a35_l1_1_1_1_0_1_0_0_1_0_0_1_1_1_1_1_0_1_0, h35_j1_1_1_1_0_1_0_0_1_0_0_1_1_1_1_1_1 call n m1_1_1_1_0_1_0, ih]
def J35_j1_1_1_1_1 (call : CallA) (n : Nat)  (w0 : Option Pos) (w1 : Option Pos) (S : AS) : Option (AV × AS) := b35_j1_1_1_1_1 call n  w0 w1 S
theorem h35_j1_1_1_1_1 (call : CallA) (n : Nat)  : r35_j1_1_1_1_1 call n  = J35_j1_1_1_1_1 call n  := by
  funext w0 w1 S
  rw [J35_j1_1_1_1_1, a35_j1_1_1_1_1]
def J35_l1_1_1_1_0_1_0 (call : CallA) (n : Nat)  (m : Nat) : Option Pos → Option Pos → AV → Int → AS → Option (AV × AS) := Nat.rec (motive := fun _ => Option Pos → Option Pos → AV → Int → AS → Option (AV × AS)) (fun _ _ _ _ _ => none) (fun _ ih w0 w1 w4 w7 S => b35_l1_1_1_1_0_1_0 call n (J35_l1_1_1_1_0_1_0_0_1_0_0_1_1_1_1_1_0_1_0 call n ih n) (J35_j1_1_1_1_1 call n ) w0 w1 w4 w7 S) m
theorem J35_l1_1_1_1_0_1_0_succ (call : CallA) (n : Nat)  (m : Nat) (w0 : Option Pos) (w1 : Option Pos) (w4 : AV) (w7 : Int) (S : AS) : J35_l1_1_1_1_0_1_0 call n  (m + 1) w0 w1 w4 w7 S = b35_l1_1_1_1_0_1_0 call n (J35_l1_1_1_1_0_1_0_0_1_0_0_1_1_1_1_1_0_1_0 call n (J35_l1_1_1_1_0_1_0 call n  m) n) (J35_j1_1_1_1_1 call n ) w0 w1 w4 w7 S := rfl
theorem h35_l1_1_1_1_0_1_0 (call : CallA) (n : Nat)  (m : Nat) : r35_l1_1_1_1_0_1_0 call n  m = J35_l1_1_1_1_0_1_0 call n  m := by
  induction m with
  | zero => rfl
  | succ m ih =>
    funext w0 w1 w4 w7 S
    rw [J35_l1_1_1_1_0_1_0_succ, a35_l1_1_1_1_0_1_0, h35_l1_1_1_1_0_1_0_0_1_0_0_1_1_1_1_1_0_1_0 call n m n, h35_j1_1_1_1_1 call n , ih]
def J35_j1_1_1_1 (call : CallA) (n : Nat)  (w0 : Option Pos) (w1 : Option Pos) (S : AS) : Option (AV × AS) := b35_j1_1_1_1 call n (J35_l1_1_1_1_0_1_0 call n  n) w0 w1 S
theorem h35_j1_1_1_1 (call : CallA) (n : Nat)  : r35_j1_1_1_1 call n  = J35_j1_1_1_1 call n  := by
  funext w0 w1 S
  rw [J35_j1_1_1_1, a35_j1_1_1_1, h35_l1_1_1_1_0_1_0 call n  n]
def J35_l1_1_1_0_1_0 (call : CallA) (n : Nat)  (m : Nat) : Option Pos → Option Pos → Option Pos → Nat → Cap → Int → AS → Option (AV × AS) := Nat.rec (motive := fun _ => Option Pos → Option Pos → Option Pos → Nat → Cap → Int → AS → Option (AV × AS)) (fun _ _ _ _ _ _ _ => none) (fun _ ih w0 w1 w5a w5l w5c w6 S => b35_l1_1_1_0_1_0 call n ih (J35_j1_1_1_1 call n ) w0 w1 w5a w5l w5c w6 S) m
theorem J35_l1_1_1_0_1_0_succ (call : CallA) (n : Nat)  (m : Nat) (w0 : Option Pos) (w1 : Option Pos) (w5a : Option Pos) (w5l : Nat) (w5c : Cap) (w6 : Int) (S : AS) : J35_l1_1_1_0_1_0 call n  (m + 1) w0 w1 w5a w5l w5c w6 S = b35_l1_1_1_0_1_0 call n (J35_l1_1_1_0_1_0 call n  m) (J35_j1_1_1_1 call n ) w0 w1 w5a w5l w5c w6 S := rfl
theorem h35_l1_1_1_0_1_0 (call : CallA) (n : Nat)  (m : Nat) : r35_l1_1_1_0_1_0 call n  m = J35_l1_1_1_0_1_0 call n  m := by
  induction m with
  | zero => rfl
  | succ m ih =>
    funext w0 w1 w5a w5l w5c w6 S
    rw [J35_l1_1_1_0_1_0_succ, a35_l1_1_1_0_1_0, h35_j1_1_1_1 call n , ih]
def J35 (call : CallA) (n : Nat) (x0 : Option Pos) (x1 : Option Pos) (S : AS) : Option (AV × AS) := b35_entry call n (J35_l1_1_1_0_1_0 call n  n) x0 x1 S
theorem run35 (o : Orc) (n : Nat) (args : List AV) (S : AS) (ho : o 35 args = none) : evF E o (n + 1) (.fn 35) args S = evC E (evF E o n) n 35 (E.at 35 []) 0 (enumT 0 args) S (retK E (E.fn 35)) := by
  rw [evF, ho]; kernel_rfl
theorem J35_eq (call : CallA) (n : Nat) (x0 : Option Pos) (x1 : Option Pos) (S : AS) : evC E call n 35 (E.at 35 []) 0 (enumT 0 [(.ptr x0), (.ptr x1)]) S (retK E (E.fn 35)) = J35 call n x0 x1 S := by
  rw [J35, a35_entry, h35_l1_1_1_0_1_0 call n  n]
theorem F35 {o : Orc} (n : Nat) (x0 : Option Pos) (x1 : Option Pos) (S : AS) (ho : ∀ args, o 35 args = none) : evF E o (n + 1) (.fn 35) [(.ptr x0), (.ptr x1)] S = J35 (evF E o n) n x0 x1 S := (run35 o n [(.ptr x0), (.ptr x1)] S (ho _)).trans (J35_eq _ _ x0 x1 S)
def b36_entry (call : CallA) (n : Nat)  (x0 : Option Pos) (S : AS) : Option (AV × AS) :=
 cond (!x0.isNone) (
 gO x0 fun p1 =>
 S.stn p1.1 (p1.2 + 3) [(.bool true)] fun S2 =>
 gO x0 fun p3 =>
 S2.stn p3.1 (p3.2 + 2) [(.sl none 0 (.ex 0))] fun S4 =>
 some (.tup [], S4)) (
 some (.tup [], S))

theorem a36_entry (call : CallA) (n : Nat) (x0 : Option Pos) (S : AS) : evC E call n 36 (E.at 36 []) 0 (enumT 0 [(.ptr x0)]) S (retK E (E.fn 36)) = b36_entry call n  x0 S := by kernel_rfl
def J36 (call : CallA) (n : Nat) (x0 : Option Pos) (S : AS) : Option (AV × AS) := b36_entry call n  x0 S
theorem run36 (o : Orc) (n : Nat) (args : List AV) (S : AS) (ho : o 36 args = none) : evF E o (n + 1) (.fn 36) args S = evC E (evF E o n) n 36 (E.at 36 []) 0 (enumT 0 args) S (retK E (E.fn 36)) := by
  rw [evF, ho]; kernel_rfl
theorem J36_eq (call : CallA) (n : Nat) (x0 : Option Pos) (S : AS) : evC E call n 36 (E.at 36 []) 0 (enumT 0 [(.ptr x0)]) S (retK E (E.fn 36)) = J36 call n x0 S := by
  rw [J36, a36_entry]
theorem F36 {o : Orc} (n : Nat) (x0 : Option Pos) (S : AS) (ho : ∀ args, o 36 args = none) : evF E o (n + 1) (.fn 36) [(.ptr x0)] S = J36 (evF E o n) n x0 S := (run36 o n [(.ptr x0)] S (ho _)).trans (J36_eq _ _ x0 S)
def b37_entry (call : CallA) (n : Nat)  (x0 : Option Pos) (S : AS) : Option (AV × AS) :=
 cond (!x0.isNone) (
 drawA S 18 fun b1 S2 =>
 gO x0 fun p3 =>
 ldL S2 p3.1 (p3.2 + 1) fun v4a v4l v4c =>
 mkSl 520 ((v4l : Nat) : Int) ((v4l : Nat) : Int) fun l5 c6 =>
 gO x0 fun p7 =>
 S2.stn p7.1 (p7.2 + 3) [(.bool false)] fun S8 =>
 cond (AV.beq (.int .i64 ((v4l : Nat) : Int)) (.int .i64 ((v4l : Nat) : Int))) (
 gO x0 fun p9 =>
 S8.stn p9.1 (p9.2 + 2) [(.sl none 0 (.ex 0))] fun S10 =>
 cond (AV.beq (.int .i64 ((v4l : Nat) : Int)) (.int .i64 ((v4l : Nat) : Int))) (
 gO x0 fun p11 =>
 layA S10 (b1 + 8) (.cells (zeros c6 (List.replicate 512 (AV.int .u8 0 : AV) ++ [AV.int .i64 0]))) fun S12 =>
 S12.stn p11.1 (p11.2 + 1) [(.sl (some (.rw (b1 + 8), 0)) l5 (.ex c6))] fun S13 =>
 some (.tup [], S13)) none) none) (
 some (.tup [], S))

theorem a37_entry (call : CallA) (n : Nat) (x0 : Option Pos) (S : AS) : evC E call n 37 (E.at 37 []) 0 (enumT 0 [(.ptr x0)]) S (retK E (E.fn 37)) = b37_entry call n  x0 S := by kernel_rfl
def J37 (call : CallA) (n : Nat) (x0 : Option Pos) (S : AS) : Option (AV × AS) := b37_entry call n  x0 S
theorem run37 (o : Orc) (n : Nat) (args : List AV) (S : AS) (ho : o 37 args = none) : evF E o (n + 1) (.fn 37) args S = evC E (evF E o n) n 37 (E.at 37 []) 0 (enumT 0 args) S (retK E (E.fn 37)) := by
  rw [evF, ho]; kernel_rfl
theorem J37_eq (call : CallA) (n : Nat) (x0 : Option Pos) (S : AS) : evC E call n 37 (E.at 37 []) 0 (enumT 0 [(.ptr x0)]) S (retK E (E.fn 37)) = J37 call n x0 S := by
  rw [J37, a37_entry]
theorem F37 {o : Orc} (n : Nat) (x0 : Option Pos) (S : AS) (ho : ∀ args, o 37 args = none) : evF E o (n + 1) (.fn 37) [(.ptr x0)] S = J37 (evF E o n) n x0 S := (run37 o n [(.ptr x0)] S (ho _)).trans (J37_eq _ _ x0 S)
def b38_entry (call : CallA) (n : Nat)  (x0 : Option Pos) (S : AS) : Option (AV × AS) :=
 cond x0.isNone (
 some ((.int .i64 0), S)) (
 gO x0 fun p1 =>
 ldI .i64 S p1.1 p1.2 fun v2 =>
 some ((.int .i64 v2), S))

theorem a38_entry (call : CallA) (n : Nat) (x0 : Option Pos) (S : AS) : evC E call n 38 (E.at 38 []) 0 (enumT 0 [(.ptr x0)]) S (retK E (E.fn 38)) = b38_entry call n  x0 S := by kernel_rfl
def J38 (call : CallA) (n : Nat) (x0 : Option Pos) (S : AS) : Option (AV × AS) := b38_entry call n  x0 S
theorem run38 (o : Orc) (n : Nat) (args : List AV) (S : AS) (ho : o 38 args = none) : evF E o (n + 1) (.fn 38) args S = evC E (evF E o n) n 38 (E.at 38 []) 0 (enumT 0 args) S (retK E (E.fn 38)) := by
  rw [evF, ho]; kernel_rfl
theorem J38_eq (call : CallA) (n : Nat) (x0 : Option Pos) (S : AS) : evC E call n 38 (E.at 38 []) 0 (enumT 0 [(.ptr x0)]) S (retK E (E.fn 38)) = J38 call n x0 S := by
  rw [J38, a38_entry]
theorem F38 {o : Orc} (n : Nat) (x0 : Option Pos) (S : AS) (ho : ∀ args, o 38 args = none) : evF E o (n + 1) (.fn 38) [(.ptr x0)] S = J38 (evF E o n) n x0 S := (run38 o n [(.ptr x0)] S (ho _)).trans (J38_eq _ _ x0 S)
def b39_entry (call : CallA) (n : Nat)  (x0 : Option Pos) (S : AS) : Option (AV × AS) :=
 cond x0.isNone (
 some ((.int .i64 0), S)) (
 gO x0 fun p1 =>
 ldL S p1.1 (p1.2 + 1) fun v2a v2l v2c =>
 some ((.int .i64 ((v2l : Nat) : Int)), S))

theorem a39_entry (call : CallA) (n : Nat) (x0 : Option Pos) (S : AS) : evC E call n 39 (E.at 39 []) 0 (enumT 0 [(.ptr x0)]) S (retK E (E.fn 39)) = b39_entry call n  x0 S := by kernel_rfl
def J39 (call : CallA) (n : Nat) (x0 : Option Pos) (S : AS) : Option (AV × AS) := b39_entry call n  x0 S
theorem run39 (o : Orc) (n : Nat) (args : List AV) (S : AS) (ho : o 39 args = none) : evF E o (n + 1) (.fn 39) args S = evC E (evF E o n) n 39 (E.at 39 []) 0 (enumT 0 args) S (retK E (E.fn 39)) := by
  rw [evF, ho]; kernel_rfl
theorem J39_eq (call : CallA) (n : Nat) (x0 : Option Pos) (S : AS) : evC E call n 39 (E.at 39 []) 0 (enumT 0 [(.ptr x0)]) S (retK E (E.fn 39)) = J39 call n x0 S := by
  rw [J39, a39_entry]
theorem F39 {o : Orc} (n : Nat) (x0 : Option Pos) (S : AS) (ho : ∀ args, o 39 args = none) : evF E o (n + 1) (.fn 39) [(.ptr x0)] S = J39 (evF E o n) n x0 S := (run39 o n [(.ptr x0)] S (ho _)).trans (J39_eq _ _ x0 S)
def b40_entry (call : CallA) (n : Nat)  (x0 : Option Pos) (x1 : Int) (S : AS) : Option (AV × AS) :=
 cond (decide (x1 ≥ 0)) (
 gO x0 fun p1 =>
 ldL S p1.1 (p1.2 + 1) fun v2a v2l v2c =>
 some ((.bool (decide (x1 < ((v2l : Nat) : Int)))), S)) (
 some ((.bool false), S))

theorem a40_entry (call : CallA) (n : Nat) (x0 : Option Pos) (x1 : Int) (S : AS) : evC E call n 40 (E.at 40 []) 0 (enumT 0 [(.ptr x0), (.int .i64 x1)]) S (retK E (E.fn 40)) = b40_entry call n  x0 x1 S := by kernel_rfl
def J40 (call : CallA) (n : Nat) (x0 : Option Pos) (x1 : Int) (S : AS) : Option (AV × AS) := b40_entry call n  x0 x1 S
theorem run40 (o : Orc) (n : Nat) (args : List AV) (S : AS) (ho : o 40 args = none) : evF E o (n + 1) (.fn 40) args S = evC E (evF E o n) n 40 (E.at 40 []) 0 (enumT 0 args) S (retK E (E.fn 40)) := by
  rw [evF, ho]; kernel_rfl
theorem J40_eq (call : CallA) (n : Nat) (x0 : Option Pos) (x1 : Int) (S : AS) : evC E call n 40 (E.at 40 []) 0 (enumT 0 [(.ptr x0), (.int .i64 x1)]) S (retK E (E.fn 40)) = J40 call n x0 x1 S := by
  rw [J40, a40_entry]
theorem F40 {o : Orc} (n : Nat) (x0 : Option Pos) (x1 : Int) (S : AS) (ho : ∀ args, o 40 args = none) : evF E o (n + 1) (.fn 40) [(.ptr x0), (.int .i64 x1)] S = J40 (evF E o n) n x0 x1 S := (run40 o n [(.ptr x0), (.int .i64 x1)] S (ho _)).trans (J40_eq _ _ x0 x1 S)
def b41_entry (call : CallA) (n : Nat)  (x0a : Option Pos) (x0l : Nat) (x0c : Cap) (S : AS) : Option (AV × AS) :=
 newA S (.cells [(.sl x0a x0l x0c)]) fun b1 S2 =>
 some ((.fn 59 [] [(.ptr (some ((.rw b1), 0)))]), S2)

theorem a41_entry (call : CallA) (n : Nat) (x0a : Option Pos) (x0l : Nat) (x0c : Cap) (S : AS) : evC E call n 41 (E.at 41 []) 0 (enumT 0 [(.sl x0a x0l x0c)]) S (retK E (E.fn 41)) = b41_entry call n  x0a x0l x0c S := by kernel_rfl
def J41 (call : CallA) (n : Nat) (x0a : Option Pos) (x0l : Nat) (x0c : Cap) (S : AS) : Option (AV × AS) := b41_entry call n  x0a x0l x0c S
theorem run41 (o : Orc) (n : Nat) (args : List AV) (S : AS) (ho : o 41 args = none) : evF E o (n + 1) (.fn 41) args S = evC E (evF E o n) n 41 (E.at 41 []) 0 (enumT 0 args) S (retK E (E.fn 41)) := by
  rw [evF, ho]; kernel_rfl
theorem J41_eq (call : CallA) (n : Nat) (x0a : Option Pos) (x0l : Nat) (x0c : Cap) (S : AS) : evC E call n 41 (E.at 41 []) 0 (enumT 0 [(.sl x0a x0l x0c)]) S (retK E (E.fn 41)) = J41 call n x0a x0l x0c S := by
  rw [J41, a41_entry]
theorem F41 {o : Orc} (n : Nat) (x0a : Option Pos) (x0l : Nat) (x0c : Cap) (S : AS) (ho : ∀ args, o 41 args = none) : evF E o (n + 1) (.fn 41) [(.sl x0a x0l x0c)] S = J41 (evF E o n) n x0a x0l x0c S := (run41 o n [(.sl x0a x0l x0c)] S (ho _)).trans (J41_eq _ _ x0a x0l x0c S)
def b42_entry (call : CallA) (n : Nat)  (x0a : Option Pos) (x0l : Nat) (x0c : Cap) (S : AS) : Option (AV × AS) :=
 cond x0a.isNone (
 some ((.sl none 0 (.ex 0)), S)) (
 newA S (.cells []) fun b1 S2 =>
 appendA 1 1 S2 (some (.rw b1, 0)) 0 (.ex 0) x0l (firstA S2 1 x0l (.sl x0a x0l x0c)) fun v3a v3l v3c S4 =>
 some ((.sl v3a v3l v3c), S4))

theorem a42_entry (call : CallA) (n : Nat) (x0a : Option Pos) (x0l : Nat) (x0c : Cap) (S : AS) : evC E call n 42 (E.at 42 []) 0 (enumT 0 [(.sl x0a x0l x0c)]) S (retK E (E.fn 42)) = b42_entry call n  x0a x0l x0c S := by kernel_rfl
def J42 (call : CallA) (n : Nat) (x0a : Option Pos) (x0l : Nat) (x0c : Cap) (S : AS) : Option (AV × AS) := b42_entry call n  x0a x0l x0c S
theorem run42 (o : Orc) (n : Nat) (args : List AV) (S : AS) (ho : o 42 args = none) : evF E o (n + 1) (.fn 42) args S = evC E (evF E o n) n 42 (E.at 42 []) 0 (enumT 0 args) S (retK E (E.fn 42)) := by
  rw [evF, ho]; kernel_rfl
theorem J42_eq (call : CallA) (n : Nat) (x0a : Option Pos) (x0l : Nat) (x0c : Cap) (S : AS) : evC E call n 42 (E.at 42 []) 0 (enumT 0 [(.sl x0a x0l x0c)]) S (retK E (E.fn 42)) = J42 call n x0a x0l x0c S := by
  rw [J42, a42_entry]
theorem F42 {o : Orc} (n : Nat) (x0a : Option Pos) (x0l : Nat) (x0c : Cap) (S : AS) (ho : ∀ args, o 42 args = none) : evF E o (n + 1) (.fn 42) [(.sl x0a x0l x0c)] S = J42 (evF E o n) n x0a x0l x0c S := (run42 o n [(.sl x0a x0l x0c)] S (ho _)).trans (J42_eq _ _ x0a x0l x0c S)
def b43_entry (call : CallA) (n : Nat)  (x0a : Option Pos) (x0l : Nat) (x0c : Cap) (S : AS) : Option (AV × AS) :=
 cond x0a.isNone (
 some ((.sl none 0 (.ex 0)), S)) (
 newA S (.cells []) fun b1 S2 =>
 appendA 2 24 S2 (some (.rw b1, 0)) 0 (.ex 0) x0l (firstA S2 2 x0l (.sl x0a x0l x0c)) fun v3a v3l v3c S4 =>
 some ((.sl v3a v3l v3c), S4))

theorem a43_entry (call : CallA) (n : Nat) (x0a : Option Pos) (x0l : Nat) (x0c : Cap) (S : AS) : evC E call n 43 (E.at 43 []) 0 (enumT 0 [(.sl x0a x0l x0c)]) S (retK E (E.fn 43)) = b43_entry call n  x0a x0l x0c S := by kernel_rfl
def J43 (call : CallA) (n : Nat) (x0a : Option Pos) (x0l : Nat) (x0c : Cap) (S : AS) : Option (AV × AS) := b43_entry call n  x0a x0l x0c S
theorem run43 (o : Orc) (n : Nat) (args : List AV) (S : AS) (ho : o 43 args = none) : evF E o (n + 1) (.fn 43) args S = evC E (evF E o n) n 43 (E.at 43 []) 0 (enumT 0 args) S (retK E (E.fn 43)) := by
  rw [evF, ho]; kernel_rfl
theorem J43_eq (call : CallA) (n : Nat) (x0a : Option Pos) (x0l : Nat) (x0c : Cap) (S : AS) : evC E call n 43 (E.at 43 []) 0 (enumT 0 [(.sl x0a x0l x0c)]) S (retK E (E.fn 43)) = J43 call n x0a x0l x0c S := by
  rw [J43, a43_entry]
theorem F43 {o : Orc} (n : Nat) (x0a : Option Pos) (x0l : Nat) (x0c : Cap) (S : AS) (ho : ∀ args, o 43 args = none) : evF E o (n + 1) (.fn 43) [(.sl x0a x0l x0c)] S = J43 (evF E o n) n x0a x0l x0c S := (run43 o n [(.sl x0a x0l x0c)] S (ho _)).trans (J43_eq _ _ x0a x0l x0c S)
def b44_entry (call : CallA) (n : Nat)  (x0 : Option Pos) (x1 : List AV) (S : AS) : Option (AV × AS) :=
 ifO (x1.length = 2) <|
 newA S (.cells x1) fun b1 S2 =>
 newA S2 (.cells (List.replicate 512 (AV.int .u8 0 : AV) ++ [AV.int .i64 0])) fun b3 S4 =>
 S4.stn (.rw b3) 0 (List.replicate 512 (AV.int .u8 0 : AV) ++ [AV.int .i64 0]) fun S5 =>
 slArr 1 ((.rw b3), 0) 512 none none none fun v6a v6l v6c =>
 ldS S5 (.rw b1) 1 fun v7 =>
 copyA 1 S5 v6a v6l v7.length (.str v7) fun n8 S9 =>
 gO x0 fun p10 =>
 ldL S9 p10.1 (p10.2 + 1) fun v11a v11l v11c =>
 ldI .i64 S9 (.rw b1) 0 fun v12 =>
 S9.ldn (.rw b3) 0 513 fun g13 =>
 ixSl 513 v11a v11l v12 fun p14 =>
 ifO (g13.length = 513) <|
 S9.stn p14.1 p14.2 g13 fun S15 =>
 gO x0 fun p16 =>
 ldI .i64 S15 p16.1 (p16.2 + 4) fun v17 =>
 gO x0 fun p18 =>
 S15.stn p18.1 (p18.2 + 4) [(.int .i64 (IntKind.wrap .i64 (v17 + 1)))] fun S19 =>
 some (.tup [], S19)

theorem a44_entry (call : CallA) (n : Nat) (x0 : Option Pos) (x1 : List AV) (S : AS) : evC E call n 44 (E.at 44 []) 0 (enumT 0 [(.ptr x0), (.agg x1)]) S (retK E (E.fn 44)) = b44_entry call n  x0 x1 S := by kernel_rfl
def J44 (call : CallA) (n : Nat) (x0 : Option Pos) (x1 : List AV) (S : AS) : Option (AV × AS) := b44_entry call n  x0 x1 S
theorem run44 (o : Orc) (n : Nat) (args : List AV) (S : AS) (ho : o 44 args = none) : evF E o (n + 1) (.fn 44) args S = evC E (evF E o n) n 44 (E.at 44 []) 0 (enumT 0 args) S (retK E (E.fn 44)) := by
  rw [evF, ho]; kernel_rfl
theorem J44_eq (call : CallA) (n : Nat) (x0 : Option Pos) (x1 : List AV) (S : AS) : evC E call n 44 (E.at 44 []) 0 (enumT 0 [(.ptr x0), (.agg x1)]) S (retK E (E.fn 44)) = J44 call n x0 x1 S := by
  rw [J44, a44_entry]
theorem F44 {o : Orc} (n : Nat) (x0 : Option Pos) (x1 : List AV) (S : AS) (ho : ∀ args, o 44 args = none) : evF E o (n + 1) (.fn 44) [(.ptr x0), (.agg x1)] S = J44 (evF E o n) n x0 x1 S := (run44 o n [(.ptr x0), (.agg x1)] S (ho _)).trans (J44_eq _ _ x0 x1 S)
def b45_l1_1_0_1_0 (call : CallA) (n : Nat) (l1_1_0_1_0 : Option Pos → Nat → Cap → Option Pos → Nat → Cap → Bool → Int → Int → AS → Option (AV × AS)) (w0a : Option Pos) (w0l : Nat) (w0c : Cap) (w1a : Option Pos) (w1l : Nat) (w1c : Cap) (w4 : Bool) (w12 : Int) (w13 : Int) (S : AS) : Option (AV × AS) :=
 cond (decide (w13 < w12)) (
 ixSl 513 w0a w0l w13 fun p1 =>
 S.ldn p1.1 p1.2 513 fun g2 =>
 ixSl 513 w1a w1l w13 fun p3 =>
 S.ldn p3.1 p3.2 513 fun g4 =>
 aggNe ty84 g2 g4 fun b5 =>
 cond b5 (
 some ((.bool false), S)) (
 l1_1_0_1_0 w0a w0l w0c w1a w1l w1c w4 w12 (IntKind.wrap .i64 (w13 + 1)) S)) (
 some ((.bool true), S))

def b45_entry (call : CallA) (n : Nat) (l1_1_0_1_0 : Option Pos → Nat → Cap → Option Pos → Nat → Cap → Bool → Int → Int → AS → Option (AV × AS)) (x0a : Option Pos) (x0l : Nat) (x0c : Cap) (x1a : Option Pos) (x1l : Nat) (x1c : Cap) (S : AS) : Option (AV × AS) :=
 cond (((x0l : Nat) : Int) != ((x1l : Nat) : Int)) (
 some ((.bool false), S)) (
 l1_1_0_1_0 x0a x0l x0c x1a x1l x1c false ((x0l : Nat) : Int) 0 S)

def r45_l1_1_0_1_0 (call : CallA) (n : Nat)  (m : Nat) (w0a : Option Pos) (w0l : Nat) (w0c : Cap) (w1a : Option Pos) (w1l : Nat) (w1c : Cap) (w4 : Bool) (w12 : Int) (w13 : Int) (S : AS) : Option (AV × AS) := loopN (evC E call n 45 (E.at 45 [1, 1, 0, 1, 0, 0]) 0) [0, 1, 4, 12, 13] m [(0, (.sl w0a w0l w0c)), (1, (.sl w1a w1l w1c)), (4, (.bool w4)), (12, (.int .i64 w12)), (13, (.int .i64 w13))] S (kBlk 0 (kSeq E call n 45 (E.at 45 [1, 1, 1]) 0 (retK E (E.fn 45))))
theorem a45_l1_1_0_1_0 (call : CallA) (n : Nat)  (m : Nat) (w0a : Option Pos) (w0l : Nat) (w0c : Cap) (w1a : Option Pos) (w1l : Nat) (w1c : Cap) (w4 : Bool) (w12 : Int) (w13 : Int) (S : AS) : r45_l1_1_0_1_0 call n  (m + 1) w0a w0l w0c w1a w1l w1c w4 w12 w13 S = b45_l1_1_0_1_0 call n (r45_l1_1_0_1_0 call n  m) w0a w0l w0c w1a w1l w1c w4 w12 w13 S := by kernel_rfl
theorem a45_entry (call : CallA) (n : Nat) (x0a : Option Pos) (x0l : Nat) (x0c : Cap) (x1a : Option Pos) (x1l : Nat) (x1c : Cap) (S : AS) : evC E call n 45 (E.at 45 []) 0 (enumT 0 [(.sl x0a x0l x0c), (.sl x1a x1l x1c)]) S (retK E (E.fn 45)) = b45_entry call n (r45_l1_1_0_1_0 call n  n) x0a x0l x0c x1a x1l x1c S := by kernel_rfl
def J45_l1_1_0_1_0 (call : CallA) (n : Nat)  (m : Nat) : Option Pos → Nat → Cap → Option Pos → Nat → Cap → Bool → Int → Int → AS → Option (AV × AS) := Nat.rec (motive := fun _ => Option Pos → Nat → Cap → Option Pos → Nat → Cap → Bool → Int → Int → AS → Option (AV × AS)) (fun _ _ _ _ _ _ _ _ _ _ => none) (fun _ ih w0a w0l w0c w1a w1l w1c w4 w12 w13 S => b45_l1_1_0_1_0 call n ih w0a w0l w0c w1a w1l w1c w4 w12 w13 S) m
theorem J45_l1_1_0_1_0_succ (call : CallA) (n : Nat)  (m : Nat) (w0a : Option Pos) (w0l : Nat) (w0c : Cap) (w1a : Option Pos) (w1l : Nat) (w1c : Cap) (w4 : Bool) (w12 : Int) (w13 : Int) (S : AS) : J45_l1_1_0_1_0 call n  (m + 1) w0a w0l w0c w1a w1l w1c w4 w12 w13 S = b45_l1_1_0_1_0 call n (J45_l1_1_0_1_0 call n  m) w0a w0l w0c w1a w1l w1c w4 w12 w13 S := rfl
theorem h45_l1_1_0_1_0 (call : CallA) (n : Nat)  (m : Nat) : r45_l1_1_0_1_0 call n  m = J45_l1_1_0_1_0 call n  m := by
  induction m with
  | zero => rfl
  | succ m ih =>
    funext w0a w0l w0c w1a w1l w1c w4 w12 w13 S
    rw [J45_l1_1_0_1_0_succ, a45_l1_1_0_1_0, ih]
def J45 (call : CallA) (n : Nat) (x0a : Option Pos) (x0l : Nat) (x0c : Cap) (x1a : Option Pos) (x1l : Nat) (x1c : Cap) (S : AS) : Option (AV × AS) := b45_entry call n (J45_l1_1_0_1_0 call n  n) x0a x0l x0c x1a x1l x1c S
theorem run45 (o : Orc) (n : Nat) (args : List AV) (S : AS) (ho : o 45 args = none) : evF E o (n + 1) (.fn 45) args S = evC E (evF E o n) n 45 (E.at 45 []) 0 (enumT 0 args) S (retK E (E.fn 45)) := by
  rw [evF, ho]; kernel_rfl
theorem J45_eq (call : CallA) (n : Nat) (x0a : Option Pos) (x0l : Nat) (x0c : Cap) (x1a : Option Pos) (x1l : Nat) (x1c : Cap) (S : AS) : evC E call n 45 (E.at 45 []) 0 (enumT 0 [(.sl x0a x0l x0c), (.sl x1a x1l x1c)]) S (retK E (E.fn 45)) = J45 call n x0a x0l x0c x1a x1l x1c S := by
  rw [J45, a45_entry, h45_l1_1_0_1_0 call n  n]
theorem F45 {o : Orc} (n : Nat) (x0a : Option Pos) (x0l : Nat) (x0c : Cap) (x1a : Option Pos) (x1l : Nat) (x1c : Cap) (S : AS) (ho : ∀ args, o 45 args = none) : evF E o (n + 1) (.fn 45) [(.sl x0a x0l x0c), (.sl x1a x1l x1c)] S = J45 (evF E o n) n x0a x0l x0c x1a x1l x1c S := (run45 o n [(.sl x0a x0l x0c), (.sl x1a x1l x1c)] S (ho _)).trans (J45_eq _ _ x0a x0l x0c x1a x1l x1c S)
def b46_l1_1_0_1_0 (call : CallA) (n : Nat) (l1_1_0_1_0 : Option Pos → Nat → Cap → Option Pos → Nat → Cap → Bool → Int → Int → AS → Option (AV × AS)) (w0a : Option Pos) (w0l : Nat) (w0c : Cap) (w1a : Option Pos) (w1l : Nat) (w1c : Cap) (w4 : Bool) (w12 : Int) (w13 : Int) (S : AS) : Option (AV × AS) :=
 cond (decide (w13 < w12)) (
 ixSl 2 w0a w0l w13 fun p1 =>
 S.ldn p1.1 p1.2 2 fun g2 =>
 ixSl 2 w1a w1l w13 fun p3 =>
 S.ldn p3.1 p3.2 2 fun g4 =>
 aggNe ty52 g2 g4 fun b5 =>
 cond b5 (
 some ((.bool false), S)) (
 l1_1_0_1_0 w0a w0l w0c w1a w1l w1c w4 w12 (IntKind.wrap .i64 (w13 + 1)) S)) (
 some ((.bool true), S))

def b46_entry (call : CallA) (n : Nat) (l1_1_0_1_0 : Option Pos → Nat → Cap → Option Pos → Nat → Cap → Bool → Int → Int → AS → Option (AV × AS)) (x0a : Option Pos) (x0l : Nat) (x0c : Cap) (x1a : Option Pos) (x1l : Nat) (x1c : Cap) (S : AS) : Option (AV × AS) :=
 cond (((x0l : Nat) : Int) != ((x1l : Nat) : Int)) (
 some ((.bool false), S)) (
 l1_1_0_1_0 x0a x0l x0c x1a x1l x1c false ((x0l : Nat) : Int) 0 S)

def r46_l1_1_0_1_0 (call : CallA) (n : Nat)  (m : Nat) (w0a : Option Pos) (w0l : Nat) (w0c : Cap) (w1a : Option Pos) (w1l : Nat) (w1c : Cap) (w4 : Bool) (w12 : Int) (w13 : Int) (S : AS) : Option (AV × AS) := loopN (evC E call n 46 (E.at 46 [1, 1, 0, 1, 0, 0]) 0) [0, 1, 4, 12, 13] m [(0, (.sl w0a w0l w0c)), (1, (.sl w1a w1l w1c)), (4, (.bool w4)), (12, (.int .i64 w12)), (13, (.int .i64 w13))] S (kBlk 0 (kSeq E call n 46 (E.at 46 [1, 1, 1]) 0 (retK E (E.fn 46))))
theorem a46_l1_1_0_1_0 (call : CallA) (n : Nat)  (m : Nat) (w0a : Option Pos) (w0l : Nat) (w0c : Cap) (w1a : Option Pos) (w1l : Nat) (w1c : Cap) (w4 : Bool) (w12 : Int) (w13 : Int) (S : AS) : r46_l1_1_0_1_0 call n  (m + 1) w0a w0l w0c w1a w1l w1c w4 w12 w13 S = b46_l1_1_0_1_0 call n (r46_l1_1_0_1_0 call n  m) w0a w0l w0c w1a w1l w1c w4 w12 w13 S := by kernel_rfl
theorem a46_entry (call : CallA) (n : Nat) (x0a : Option Pos) (x0l : Nat) (x0c : Cap) (x1a : Option Pos) (x1l : Nat) (x1c : Cap) (S : AS) : evC E call n 46 (E.at 46 []) 0 (enumT 0 [(.sl x0a x0l x0c), (.sl x1a x1l x1c)]) S (retK E (E.fn 46)) = b46_entry call n (r46_l1_1_0_1_0 call n  n) x0a x0l x0c x1a x1l x1c S := by kernel_rfl
def J46_l1_1_0_1_0 (call : CallA) (n : Nat)  (m : Nat) : Option Pos → Nat → Cap → Option Pos → Nat → Cap → Bool → Int → Int → AS → Option (AV × AS) := Nat.rec (motive := fun _ => Option Pos → Nat → Cap → Option Pos → Nat → Cap → Bool → Int → Int → AS → Option (AV × AS)) (fun _ _ _ _ _ _ _ _ _ _ => none) (fun _ ih w0a w0l w0c w1a w1l w1c w4 w12 w13 S => b46_l1_1_0_1_0 call n ih w0a w0l w0c w1a w1l w1c w4 w12 w13 S) m
theorem J46_l1_1_0_1_0_succ (call : CallA) (n : Nat)  (m : Nat) (w0a : Option Pos) (w0l : Nat) (w0c : Cap) (w1a : Option Pos) (w1l : Nat) (w1c : Cap) (w4 : Bool) (w12 : Int) (w13 : Int) (S : AS) : J46_l1_1_0_1_0 call n  (m + 1) w0a w0l w0c w1a w1l w1c w4 w12 w13 S = b46_l1_1_0_1_0 call n (J46_l1_1_0_1_0 call n  m) w0a w0l w0c w1a w1l w1c w4 w12 w13 S := rfl
theorem h46_l1_1_0_1_0 (call : CallA) (n : Nat)  (m : Nat) : r46_l1_1_0_1_0 call n  m = J46_l1_1_0_1_0 call n  m := by
  induction m with
  | zero => rfl
  | succ m ih =>
    funext w0a w0l w0c w1a w1l w1c w4 w12 w13 S
    rw [J46_l1_1_0_1_0_succ, a46_l1_1_0_1_0, ih]
def J46 (call : CallA) (n : Nat) (x0a : Option Pos) (x0l : Nat) (x0c : Cap) (x1a : Option Pos) (x1l : Nat) (x1c : Cap) (S : AS) : Option (AV × AS) := b46_entry call n (J46_l1_1_0_1_0 call n  n) x0a x0l x0c x1a x1l x1c S
theorem run46 (o : Orc) (n : Nat) (args : List AV) (S : AS) (ho : o 46 args = none) : evF E o (n + 1) (.fn 46) args S = evC E (evF E o n) n 46 (E.at 46 []) 0 (enumT 0 args) S (retK E (E.fn 46)) := by
  rw [evF, ho]; kernel_rfl
theorem J46_eq (call : CallA) (n : Nat) (x0a : Option Pos) (x0l : Nat) (x0c : Cap) (x1a : Option Pos) (x1l : Nat) (x1c : Cap) (S : AS) : evC E call n 46 (E.at 46 []) 0 (enumT 0 [(.sl x0a x0l x0c), (.sl x1a x1l x1c)]) S (retK E (E.fn 46)) = J46 call n x0a x0l x0c x1a x1l x1c S := by
  rw [J46, a46_entry, h46_l1_1_0_1_0 call n  n]
theorem F46 {o : Orc} (n : Nat) (x0a : Option Pos) (x0l : Nat) (x0c : Cap) (x1a : Option Pos) (x1l : Nat) (x1c : Cap) (S : AS) (ho : ∀ args, o 46 args = none) : evF E o (n + 1) (.fn 46) [(.sl x0a x0l x0c), (.sl x1a x1l x1c)] S = J46 (evF E o n) n x0a x0l x0c x1a x1l x1c S := (run46 o n [(.sl x0a x0l x0c), (.sl x1a x1l x1c)] S (ho _)).trans (J46_eq _ _ x0a x0l x0c x1a x1l x1c S)
def b47_entry (call : CallA) (n : Nat)  (x0a : Option Pos) (x0l : Nat) (x0c : Cap) (S : AS) : Option (AV × AS) :=
 cond x0a.isNone (
 some ((.sl none 0 (.ex 0)), S)) (
 newA S (.cells (zeros 0 (List.replicate 512 (AV.int .u8 0 : AV) ++ [AV.int .i64 0]))) fun b1 S2 =>
 appendA 513 520 S2 (some (.rw b1, 0)) 0 (.ex 0) x0l (firstA S2 513 x0l (.sl x0a x0l x0c)) fun v3a v3l v3c S4 =>
 some ((.sl v3a v3l v3c), S4))

theorem a47_entry (call : CallA) (n : Nat) (x0a : Option Pos) (x0l : Nat) (x0c : Cap) (S : AS) : evC E call n 47 (E.at 47 []) 0 (enumT 0 [(.sl x0a x0l x0c)]) S (retK E (E.fn 47)) = b47_entry call n  x0a x0l x0c S := by kernel_rfl
def J47 (call : CallA) (n : Nat) (x0a : Option Pos) (x0l : Nat) (x0c : Cap) (S : AS) : Option (AV × AS) := b47_entry call n  x0a x0l x0c S
theorem run47 (o : Orc) (n : Nat) (args : List AV) (S : AS) (ho : o 47 args = none) : evF E o (n + 1) (.fn 47) args S = evC E (evF E o n) n 47 (E.at 47 []) 0 (enumT 0 args) S (retK E (E.fn 47)) := by
  rw [evF, ho]; kernel_rfl
theorem J47_eq (call : CallA) (n : Nat) (x0a : Option Pos) (x0l : Nat) (x0c : Cap) (S : AS) : evC E call n 47 (E.at 47 []) 0 (enumT 0 [(.sl x0a x0l x0c)]) S (retK E (E.fn 47)) = J47 call n x0a x0l x0c S := by
  rw [J47, a47_entry]
theorem F47 {o : Orc} (n : Nat) (x0a : Option Pos) (x0l : Nat) (x0c : Cap) (S : AS) (ho : ∀ args, o 47 args = none) : evF E o (n + 1) (.fn 47) [(.sl x0a x0l x0c)] S = J47 (evF E o n) n x0a x0l x0c S := (run47 o n [(.sl x0a x0l x0c)] S (ho _)).trans (J47_eq _ _ x0a x0l x0c S)
def b48_entry (call : CallA) (n : Nat)  (x0 : Option Pos) (x1 : Int) (S : AS) : Option (AV × AS) :=
 gO x0 fun p1 =>
 ldB S p1.1 (p1.2 + 3) fun v2 =>
 cond v2 (
 some ((.int .i64 41), S)) (
 gO x0 fun p3 =>
 ldL S p3.1 (p3.2 + 1) fun v4a v4l v4c =>
 ixSl 513 v4a v4l x1 fun p5 =>
 ldI .i64 S p5.1 (p5.2 + 512) fun v6 =>
 cond (v6 != 0) (
 some ((.int .i64 8), S)) (
 some ((.int .i64 0), S)))

theorem a48_entry (call : CallA) (n : Nat) (x0 : Option Pos) (x1 : Int) (S : AS) : evC E call n 48 (E.at 48 []) 0 (enumT 0 [(.ptr x0), (.int .i64 x1)]) S (retK E (E.fn 48)) = b48_entry call n  x0 x1 S := by kernel_rfl
def J48 (call : CallA) (n : Nat) (x0 : Option Pos) (x1 : Int) (S : AS) : Option (AV × AS) := b48_entry call n  x0 x1 S
theorem run48 (o : Orc) (n : Nat) (args : List AV) (S : AS) (ho : o 48 args = none) : evF E o (n + 1) (.fn 48) args S = evC E (evF E o n) n 48 (E.at 48 []) 0 (enumT 0 args) S (retK E (E.fn 48)) := by
  rw [evF, ho]; kernel_rfl
theorem J48_eq (call : CallA) (n : Nat) (x0 : Option Pos) (x1 : Int) (S : AS) : evC E call n 48 (E.at 48 []) 0 (enumT 0 [(.ptr x0), (.int .i64 x1)]) S (retK E (E.fn 48)) = J48 call n x0 x1 S := by
  rw [J48, a48_entry]
theorem F48 {o : Orc} (n : Nat) (x0 : Option Pos) (x1 : Int) (S : AS) (ho : ∀ args, o 48 args = none) : evF E o (n + 1) (.fn 48) [(.ptr x0), (.int .i64 x1)] S = J48 (evF E o n) n x0 x1 S := (run48 o n [(.ptr x0), (.int .i64 x1)] S (ho _)).trans (J48_eq _ _ x0 x1 S)
def b49_entry (call : CallA) (n : Nat)  (x0 : Option Pos) (x1 : Int) (x2 : Bool) (S : AS) : Option (AV × AS) :=
 callB call 60 [(.ptr x0), (.int .i64 x1)] S fun v2 S1 =>
 cond (!v2) (
 some ((.int .i64 2), S1)) (
 cond (!x2) (
 some ((.int .i64 2), S1)) (
 gO x0 fun p3 =>
 ldB S1 p3.1 (p3.2 + 3) fun v4 =>
 cond v4 (
 some ((.int .i64 41), S1)) (
 gO x0 fun p5 =>
 ldL S1 p5.1 (p5.2 + 1) fun v6a v6l v6c =>
 ixSl 1 v6a v6l x1 fun p7 =>
 ldI .i64 S1 p7.1 p7.2 fun v8 =>
 cond (v8 != 0) (
 some ((.int .i64 8), S1)) (
 some ((.int .i64 0), S1)))))

theorem a49_entry (call : CallA) (n : Nat) (x0 : Option Pos) (x1 : Int) (x2 : Bool) (S : AS) : evC E call n 49 (E.at 49 []) 0 (enumT 0 [(.ptr x0), (.int .i64 x1), (.bool x2)]) S (retK E (E.fn 49)) = b49_entry call n  x0 x1 x2 S := by kernel_rfl
def J49 (call : CallA) (n : Nat) (x0 : Option Pos) (x1 : Int) (x2 : Bool) (S : AS) : Option (AV × AS) := b49_entry call n  x0 x1 x2 S
theorem run49 (o : Orc) (n : Nat) (args : List AV) (S : AS) (ho : o 49 args = none) : evF E o (n + 1) (.fn 49) args S = evC E (evF E o n) n 49 (E.at 49 []) 0 (enumT 0 args) S (retK E (E.fn 49)) := by
  rw [evF, ho]; kernel_rfl
theorem J49_eq (call : CallA) (n : Nat) (x0 : Option Pos) (x1 : Int) (x2 : Bool) (S : AS) : evC E call n 49 (E.at 49 []) 0 (enumT 0 [(.ptr x0), (.int .i64 x1), (.bool x2)]) S (retK E (E.fn 49)) = J49 call n x0 x1 x2 S := by
  rw [J49, a49_entry]
theorem F49 {o : Orc} (n : Nat) (x0 : Option Pos) (x1 : Int) (x2 : Bool) (S : AS) (ho : ∀ args, o 49 args = none) : evF E o (n + 1) (.fn 49) [(.ptr x0), (.int .i64 x1), (.bool x2)] S = J49 (evF E o n) n x0 x1 x2 S := (run49 o n [(.ptr x0), (.int .i64 x1), (.bool x2)] S (ho _)).trans (J49_eq _ _ x0 x1 x2 S)
def b50_entry (call : CallA) (n : Nat)  (x0 : Int) (S : AS) : Option (AV × AS) :=
 mkSl 1 x0 x0 fun l3 c4 =>
 newA S (.cells (zeros c4 [(.int .u8 0)])) fun b1 S2 =>
 bytesStr S2 (some (.rw b1, 0)) l3 fun s5 =>
 some ((.str s5), S2)

theorem a50_entry (call : CallA) (n : Nat) (x0 : Int) (S : AS) : evC E call n 50 (E.at 50 []) 0 (enumT 0 [(.int .i64 x0)]) S (retK E (E.fn 50)) = b50_entry call n  x0 S := by kernel_rfl
def J50 (call : CallA) (n : Nat) (x0 : Int) (S : AS) : Option (AV × AS) := b50_entry call n  x0 S
theorem run50 (o : Orc) (n : Nat) (args : List AV) (S : AS) (ho : o 50 args = none) : evF E o (n + 1) (.fn 50) args S = evC E (evF E o n) n 50 (E.at 50 []) 0 (enumT 0 args) S (retK E (E.fn 50)) := by
  rw [evF, ho]; kernel_rfl
theorem J50_eq (call : CallA) (n : Nat) (x0 : Int) (S : AS) : evC E call n 50 (E.at 50 []) 0 (enumT 0 [(.int .i64 x0)]) S (retK E (E.fn 50)) = J50 call n x0 S := by
  rw [J50, a50_entry]
theorem F50 {o : Orc} (n : Nat) (x0 : Int) (S : AS) (ho : ∀ args, o 50 args = none) : evF E o (n + 1) (.fn 50) [(.int .i64 x0)] S = J50 (evF E o n) n x0 S := (run50 o n [(.int .i64 x0)] S (ho _)).trans (J50_eq _ _ x0 S)
def b51_entry (call : CallA) (n : Nat)  (x0 : Option Pos) (x1 : Int) (x2 : List UInt8) (S : AS) : Option (AV × AS) :=
 callB call 60 [(.ptr x0), (.int .i64 x1)] S fun v2 S1 =>
 cond (!v2) (
 some ((.int .i64 2), S1)) (
 gO x0 fun p3 =>
 ldI .i64 S1 p3.1 (p3.2 + 5) fun v4 =>
 cond (((x2.length : Nat) : Int) != v4) (
 some ((.int .i64 40), S1)) (
 gO x0 fun p5 =>
 ldB S1 p5.1 (p5.2 + 3) fun v6 =>
 cond v6 (
 some ((.int .i64 41), S1)) (
 gO x0 fun p7 =>
 ldL S1 p7.1 (p7.2 + 2) fun v8a v8l v8c =>
 cond (decide (((v8l : Nat) : Int) ≥ 4096)) (
 some ((.int .i64 6), S1)) (
 gO x0 fun p9 =>
 ldL S1 p9.1 (p9.2 + 2) fun v10a v10l v10c =>
 newA S1 (.cells [(.int .i64 x1), (.str x2)]) fun b11 S12 =>
 appendA 2 24 S12 v10a v10l v10c 1 (firstA S12 2 1 (.sl (some (.rw b11, 0)) 1 (.ex 1))) fun v13a v13l v13c S14 =>
 gO x0 fun p15 =>
 S14.stn p15.1 (p15.2 + 2) [(.sl v13a v13l v13c)] fun S16 =>
 some ((.int .i64 0), S16)))))

theorem a51_entry (call : CallA) (n : Nat) (x0 : Option Pos) (x1 : Int) (x2 : List UInt8) (S : AS) : evC E call n 51 (E.at 51 []) 0 (enumT 0 [(.ptr x0), (.int .i64 x1), (.str x2)]) S (retK E (E.fn 51)) = b51_entry call n  x0 x1 x2 S := by kernel_rfl
def J51 (call : CallA) (n : Nat) (x0 : Option Pos) (x1 : Int) (x2 : List UInt8) (S : AS) : Option (AV × AS) := b51_entry call n  x0 x1 x2 S
theorem run51 (o : Orc) (n : Nat) (args : List AV) (S : AS) (ho : o 51 args = none) : evF E o (n + 1) (.fn 51) args S = evC E (evF E o n) n 51 (E.at 51 []) 0 (enumT 0 args) S (retK E (E.fn 51)) := by
  rw [evF, ho]; kernel_rfl
theorem J51_eq (call : CallA) (n : Nat) (x0 : Option Pos) (x1 : Int) (x2 : List UInt8) (S : AS) : evC E call n 51 (E.at 51 []) 0 (enumT 0 [(.ptr x0), (.int .i64 x1), (.str x2)]) S (retK E (E.fn 51)) = J51 call n x0 x1 x2 S := by
  rw [J51, a51_entry]
theorem F51 {o : Orc} (n : Nat) (x0 : Option Pos) (x1 : Int) (x2 : List UInt8) (S : AS) (ho : ∀ args, o 51 args = none) : evF E o (n + 1) (.fn 51) [(.ptr x0), (.int .i64 x1), (.str x2)] S = J51 (evF E o n) n x0 x1 x2 S := (run51 o n [(.ptr x0), (.int .i64 x1), (.str x2)] S (ho _)).trans (J51_eq _ _ x0 x1 x2 S)
def b52_l1_1_0_1_0 (call : CallA) (n : Nat) (l1_1_0_1_0 : Option Pos → Int → AS → Option (AV × AS)) (j1_1_1 : Option Pos → AS → Option (AV × AS)) (w0 : Option Pos) (w3 : Int) (S : AS) : Option (AV × AS) :=
 gO w0 fun p3 =>
 ldL S p3.1 (p3.2 + 2) fun v4a v4l v4c =>
 cond (decide (w3 < ((v4l : Nat) : Int))) (
 gO w0 fun p5 =>
 ldL S p5.1 (p5.2 + 2) fun v6a v6l v6c =>
 ixSl 2 v6a v6l w3 fun p7 =>
 S.ldn p7.1 p7.2 2 fun g8 =>
 callT call 61 [(.ptr w0), (.agg g8)] S fun v10 S9 =>
 l1_1_0_1_0 w0 (IntKind.wrap .i64 (w3 + 1)) S9) (
 j1_1_1 w0 S)

def b52_j1_1_1 (call : CallA) (n : Nat)  (w0 : Option Pos) (S : AS) : Option (AV × AS) :=
 gO w0 fun p11 =>
 S.stn p11.1 (p11.2 + 2) [(.sl none 0 (.ex 0))] fun S12 =>
 some ((.int .i64 0), S12)

def b52_entry (call : CallA) (n : Nat) (l1_1_0_1_0 : Option Pos → Int → AS → Option (AV × AS)) (x0 : Option Pos) (S : AS) : Option (AV × AS) :=
 gO x0 fun p1 =>
 ldB S p1.1 (p1.2 + 3) fun v2 =>
 cond v2 (
 some ((.int .i64 41), S)) (
 l1_1_0_1_0 x0 0 S)

def r52_l1_1_0_1_0 (call : CallA) (n : Nat)  (m : Nat) (w0 : Option Pos) (w3 : Int) (S : AS) : Option (AV × AS) := loopN (evC E call n 52 (E.at 52 [1, 1, 0, 1, 0, 0]) 0) [0, 3] m [(0, (.ptr w0)), (3, (.int .i64 w3))] S (kBlk 0 (kSeq E call n 52 (E.at 52 [1, 1, 1]) 0 (retK E (E.fn 52))))
def r52_j1_1_1 (call : CallA) (n : Nat)  (w0 : Option Pos) (S : AS) : Option (AV × AS) := evC E call n 52 (E.at 52 [1, 1, 1]) 0 [(0, (.ptr w0))] S (retK E (E.fn 52))
theorem a52_l1_1_0_1_0 (call : CallA) (n : Nat)  (m : Nat) (w0 : Option Pos) (w3 : Int) (S : AS) : r52_l1_1_0_1_0 call n  (m + 1) w0 w3 S = b52_l1_1_0_1_0 call n (r52_l1_1_0_1_0 call n  m) (r52_j1_1_1 call n ) w0 w3 S := by kernel_rfl
theorem a52_j1_1_1 (call : CallA) (n : Nat)  (w0 : Option Pos) (S : AS) : r52_j1_1_1 call n  w0 S = b52_j1_1_1 call n  w0 S := by kernel_rfl
theorem a52_entry (call : CallA) (n : Nat) (x0 : Option Pos) (S : AS) : evC E call n 52 (E.at 52 []) 0 (enumT 0 [(.ptr x0)]) S (retK E (E.fn 52)) = b52_entry call n (r52_l1_1_0_1_0 call n  n) x0 S := by kernel_rfl
def J52_j1_1_1 (call : CallA) (n : Nat)  (w0 : Option Pos) (S : AS) : Option (AV × AS) := b52_j1_1_1 call n  w0 S
theorem h52_j1_1_1 (call : CallA) (n : Nat)  : r52_j1_1_1 call n  = J52_j1_1_1 call n  := by
  funext w0 S
  rw [J52_j1_1_1, a52_j1_1_1]
def J52_l1_1_0_1_0 (call : CallA) (n : Nat)  (m : Nat) : Option Pos → Int → AS → Option (AV × AS) := Nat.rec (motive := fun _ => Option Pos → Int → AS → Option (AV × AS)) (fun _ _ _ => none) (fun _ ih w0 w3 S => b52_l1_1_0_1_0 call n ih (J52_j1_1_1 call n ) w0 w3 S) m
theorem J52_l1_1_0_1_0_succ (call : CallA) (n : Nat)  (m : Nat) (w0 : Option Pos) (w3 : Int) (S : AS) : J52_l1_1_0_1_0 call n  (m + 1) w0 w3 S = b52_l1_1_0_1_0 call n (J52_l1_1_0_1_0 call n  m) (J52_j1_1_1 call n ) w0 w3 S := rfl
theorem h52_l1_1_0_1_0 (call : CallA) (n : Nat)  (m : Nat) : r52_l1_1_0_1_0 call n  m = J52_l1_1_0_1_0 call n  m := by
  induction m with
  | zero => rfl
  | succ m ih =>
    funext w0 w3 S
    rw [J52_l1_1_0_1_0_succ, a52_l1_1_0_1_0, h52_j1_1_1 call n , ih]
def J52 (call : CallA) (n : Nat) (x0 : Option Pos) (S : AS) : Option (AV × AS) := b52_entry call n (J52_l1_1_0_1_0 call n  n) x0 S
theorem run52 (o : Orc) (n : Nat) (args : List AV) (S : AS) (ho : o 52 args = none) : evF E o (n + 1) (.fn 52) args S = evC E (evF E o n) n 52 (E.at 52 []) 0 (enumT 0 args) S (retK E (E.fn 52)) := by
  rw [evF, ho]; kernel_rfl
theorem J52_eq (call : CallA) (n : Nat) (x0 : Option Pos) (S : AS) : evC E call n 52 (E.at 52 []) 0 (enumT 0 [(.ptr x0)]) S (retK E (E.fn 52)) = J52 call n x0 S := by
  rw [J52, a52_entry, h52_l1_1_0_1_0 call n  n]
theorem F52 {o : Orc} (n : Nat) (x0 : Option Pos) (S : AS) (ho : ∀ args, o 52 args = none) : evF E o (n + 1) (.fn 52) [(.ptr x0)] S = J52 (evF E o n) n x0 S := (run52 o n [(.ptr x0)] S (ho _)).trans (J52_eq _ _ x0 S)
end
end Go.Dk
