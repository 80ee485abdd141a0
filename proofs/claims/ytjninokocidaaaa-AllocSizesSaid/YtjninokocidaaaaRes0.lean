/- Plain readings of the functions, and that they are what the evaluator does: by program. -/
import Derived.Test.YtjninokocidaaaaGrRes
import Derived.Test.YtjninokocidaaaaENV
import Derived.KernelRfl
set_option maxRecDepth 100000
set_option linter.unusedVariables false
namespace Go.Al
open Go.Gr
noncomputable section
def b3_entry (call : CallA) (n : Nat)  (x0 : Int) (S : AS) : Option (AV × AS) :=
 callT call 10 [(.int .i64 x0)] S fun v2 S1 =>
 atP v2 0 fun v3 =>
 atI .i64 v2 1 fun v4 =>
 cond (decide (x0 ≥ 1)) (
 callI .i64 call 11 [(.int .i64 v4)] S1 fun v6 S5 =>
 cond (!((v6 == 0) == (decide (x0 ≤ 65536)))) (
 some ((.bool false), S5)) (
 cond (!((!v3.isNone) == (decide (x0 ≤ 65536)))) (
 some ((.bool false), S5)) (
 cond (!(decide (x0 ≤ 65536))) (
 callI .i64 call 11 [(.int .i64 v4)] S5 fun v8 S7 =>
 cond (v8 != 2) (
 some ((.bool false), S7)) (
 cond v3.isNone (
 callB call 12 [] S7 fun v10 S9 =>
 some ((.bool v10), S9)) (
 callT call 13 [(.ptr v3), (.int .i64 (IntKind.wrap .i64 (x0 - 1)))] S7 fun v12 S11 =>
 atI .i64 v12 0 fun v13 =>
 atI .i64 v12 1 fun v14 =>
 callI .i64 call 14 [(.ptr v3)] S11 fun v16 S15 =>
 cond (v16 == x0) (
 callI .i64 call 15 [(.ptr v3)] S15 fun v18 S17 =>
 cond (v18 == (IntKind.wrap .i64 (x0 - 1))) (
 cond (v13 == (IntKind.wrap .i64 (x0 - 1))) (
 callI .i64 call 11 [(.int .i64 v14)] S17 fun v20 S19 =>
 cond (v20 == 0) (
 callL call 16 [(.ptr v3)] S19 fun v22a v22l v22c S21 =>
 cond (((v22l : Nat) : Int) == (IntKind.wrap .i64 (Int.tdiv (IntKind.wrap .i64 (x0 + 7)) 8))) (
 callB call 12 [] S21 fun v24 S23 =>
 some ((.bool v24), S23)) (
 some ((.bool false), S21))) (
 some ((.bool false), S19))) (
 some ((.bool false), S17))) (
 some ((.bool false), S17))) (
 some ((.bool false), S15))))) (
 cond v3.isNone (
 callB call 12 [] S5 fun v26 S25 =>
 some ((.bool v26), S25)) (
 callT call 13 [(.ptr v3), (.int .i64 (IntKind.wrap .i64 (x0 - 1)))] S5 fun v28 S27 =>
 atI .i64 v28 0 fun v29 =>
 atI .i64 v28 1 fun v30 =>
 callI .i64 call 14 [(.ptr v3)] S27 fun v32 S31 =>
 cond (v32 == x0) (
 callI .i64 call 15 [(.ptr v3)] S31 fun v34 S33 =>
 cond (v34 == (IntKind.wrap .i64 (x0 - 1))) (
 cond (v29 == (IntKind.wrap .i64 (x0 - 1))) (
 callI .i64 call 11 [(.int .i64 v30)] S33 fun v36 S35 =>
 cond (v36 == 0) (
 callL call 16 [(.ptr v3)] S35 fun v38a v38l v38c S37 =>
 cond (((v38l : Nat) : Int) == (IntKind.wrap .i64 (Int.tdiv (IntKind.wrap .i64 (x0 + 7)) 8))) (
 callB call 12 [] S37 fun v40 S39 =>
 some ((.bool v40), S39)) (
 some ((.bool false), S37))) (
 some ((.bool false), S35))) (
 some ((.bool false), S33))) (
 some ((.bool false), S33))) (
 some ((.bool false), S31))))))) (
 callI .i64 call 11 [(.int .i64 v4)] S1 fun v42 S41 =>
 cond (!((v42 == 0) == false)) (
 some ((.bool false), S41)) (
 cond (!((!v3.isNone) == false)) (
 some ((.bool false), S41)) (
 callI .i64 call 11 [(.int .i64 v4)] S41 fun v44 S43 =>
 cond (v44 != 2) (
 some ((.bool false), S43)) (
 cond v3.isNone (
 callB call 12 [] S43 fun v46 S45 =>
 some ((.bool v46), S45)) (
 callT call 13 [(.ptr v3), (.int .i64 (IntKind.wrap .i64 (x0 - 1)))] S43 fun v48 S47 =>
 atI .i64 v48 0 fun v49 =>
 atI .i64 v48 1 fun v50 =>
 callI .i64 call 14 [(.ptr v3)] S47 fun v52 S51 =>
 cond (v52 == x0) (
 callI .i64 call 15 [(.ptr v3)] S51 fun v54 S53 =>
 cond (v54 == (IntKind.wrap .i64 (x0 - 1))) (
 cond (v49 == (IntKind.wrap .i64 (x0 - 1))) (
 callI .i64 call 11 [(.int .i64 v50)] S53 fun v56 S55 =>
 cond (v56 == 0) (
 callL call 16 [(.ptr v3)] S55 fun v58a v58l v58c S57 =>
 cond (((v58l : Nat) : Int) == (IntKind.wrap .i64 (Int.tdiv (IntKind.wrap .i64 (x0 + 7)) 8))) (
 callB call 12 [] S57 fun v60 S59 =>
 some ((.bool v60), S59)) (
 some ((.bool false), S57))) (
 some ((.bool false), S55))) (
 some ((.bool false), S53))) (
 some ((.bool false), S53))) (
 some ((.bool false), S51)))))))

theorem a3_entry (call : CallA) (n : Nat) (x0 : Int) (S : AS) : evC E call n 3 (E.at 3 []) 0 (enumT 0 [(.int .i64 x0)]) S (retK E (E.fn 3)) = b3_entry call n  x0 S := by kernel_rfl
def J3 (call : CallA) (n : Nat) (x0 : Int) (S : AS) : Option (AV × AS) := b3_entry call n  x0 S
theorem run3 (o : Orc) (n : Nat) (args : List AV) (S : AS) (ho : o 3 args = none) : evF E o (n + 1) (.fn 3) args S = evC E (evF E o n) n 3 (E.at 3 []) 0 (enumT 0 args) S (retK E (E.fn 3)) := by
  rw [evF, ho]; kernel_rfl
theorem J3_eq (call : CallA) (n : Nat) (x0 : Int) (S : AS) : evC E call n 3 (E.at 3 []) 0 (enumT 0 [(.int .i64 x0)]) S (retK E (E.fn 3)) = J3 call n x0 S := by
  rw [J3, a3_entry]
theorem F3 {o : Orc} (n : Nat) (x0 : Int) (S : AS) (ho : ∀ args, o 3 args = none) : evF E o (n + 1) (.fn 3) [(.int .i64 x0)] S = J3 (evF E o n) n x0 S := (run3 o n [(.int .i64 x0)] S (ho _)).trans (J3_eq _ _ x0 S)
def b4_l1_1_1_1_1_1_1_0_1_0 (call : CallA) (n : Nat) (j1_1_1_1_1_1_1_0_1_0_0_1_1 : Int → Option Pos → Nat → Cap → Option Pos → Option Pos → Nat → Cap → Int → AS → Option (AV × AS)) (j1_1_1_1_1_1_1_1 : Int → Option Pos → Nat → Cap → Option Pos → Option Pos → Nat → Cap → AS → Option (AV × AS)) (w0 : Int) (w2a : Option Pos) (w2l : Nat) (w2c : Cap) (w7 : Option Pos) (w8a : Option Pos) (w8l : Nat) (w8c : Cap) (w9 : Int) (S : AS) : Option (AV × AS) :=
 cond (decide (w9 < w0)) (
 callI .i64 call 19 [(.ptr w7), (.int .i64 w9)] S fun v16 S15 =>
 cond (v16 == 4) (
 ixSl 1 w8a w8l (IntKind.wrap .i64 (Int.tdiv w9 8)) fun p17 =>
 ldI .u8 S15 p17.1 p17.2 fun v18 =>
 nneg (IntKind.wrap .u64 (Int.tmod w9 8)) <|
 ixSl 1 w8a w8l (IntKind.wrap .i64 (Int.tdiv w9 8)) fun p19 =>
 S15.stn p19.1 p19.2 [(.int .u8 (orI .u8 v18 (shlI .u8 1 (IntKind.wrap .u64 (Int.tmod w9 8)))))] fun S20 =>
 j1_1_1_1_1_1_1_0_1_0_0_1_1 w0 w2a w2l w2c w7 w8a w8l w8c w9 S20) (
 j1_1_1_1_1_1_1_0_1_0_0_1_1 w0 w2a w2l w2c w7 w8a w8l w8c w9 S15)) (
 j1_1_1_1_1_1_1_1 w0 w2a w2l w2c w7 w8a w8l w8c S)

def b4_j1_1_1_1_1_1_1_0_1_0_0_1_1 (call : CallA) (n : Nat) (l1_1_1_1_1_1_1_0_1_0 : Int → Option Pos → Nat → Cap → Option Pos → Option Pos → Nat → Cap → Int → AS → Option (AV × AS)) (w0 : Int) (w2a : Option Pos) (w2l : Nat) (w2c : Cap) (w7 : Option Pos) (w8a : Option Pos) (w8l : Nat) (w8c : Cap) (w9 : Int) (S : AS) : Option (AV × AS) :=
 l1_1_1_1_1_1_1_0_1_0 w0 w2a w2l w2c w7 w8a w8l w8c (IntKind.wrap .i64 (w9 + 1)) S

def b4_j1_1_1_1_1_1_1_1 (call : CallA) (n : Nat) (l1_1_1_1_1_1_1_1_1_0_1_0 : Int → Option Pos → Nat → Cap → AV → Option Pos → Option Pos → Nat → Cap → Option Pos → Nat → Cap → Int → AS → Option (AV × AS)) (w0 : Int) (w2a : Option Pos) (w2l : Nat) (w2c : Cap) (w7 : Option Pos) (w8a : Option Pos) (w8l : Nat) (w8c : Cap) (S : AS) : Option (AV × AS) :=
 callL call 16 [(.ptr w7)] S fun v22a v22l v22c S21 =>
 l1_1_1_1_1_1_1_1_1_0_1_0 w0 w2a w2l w2c .undef w7 w8a w8l w8c v22a v22l v22c 0 S21

def b4_l1_1_1_1_1_1_1_1_1_0_1_0 (call : CallA) (n : Nat) (j1_1_1_1_1_1_1_1_1_0_1_0_0_1_0_0_1_1 : Int → Option Pos → Nat → Cap → Option Pos → Option Pos → Nat → Cap → Option Pos → Nat → Cap → Int → Int → Int → AS → Option (AV × AS)) (j1_1_1_1_1_1_1_1_1_0_1_0_0_1_1 : Int → Option Pos → Nat → Cap → Option Pos → Option Pos → Nat → Cap → Option Pos → Nat → Cap → Int → AS → Option (AV × AS)) (j1_1_1_1_1_1_1_1_1_1 : Option Pos → Option Pos → Nat → Cap → AS → Option (AV × AS)) (w0 : Int) (w2a : Option Pos) (w2l : Nat) (w2c : Cap) (w6 : AV) (w7 : Option Pos) (w8a : Option Pos) (w8l : Nat) (w8c : Cap) (w10a : Option Pos) (w10l : Nat) (w10c : Cap) (w11 : Int) (S : AS) : Option (AV × AS) :=
 cond (decide (w11 < ((w2l : Nat) : Int))) (
 ixSl 2 w2a w2l w11 fun p23 =>
 ldI .i64 S p23.1 p23.2 fun v24 =>
 cond (v24 == 1) (
 ixSl 2 w2a w2l w11 fun p25 =>
 ldI .i64 S p25.1 (p25.2 + 1) fun v26 =>
 callT call 13 [(.ptr w7), (.int .i64 v26)] S fun v28 S27 =>
 atI .i64 v28 0 fun v29 =>
 atI .i64 v28 1 fun v30 =>
 j1_1_1_1_1_1_1_1_1_0_1_0_0_1_0_0_1_1 w0 w2a w2l w2c w7 w8a w8l w8c w10a w10l w10c w11 v29 v30 S27) (
 cond (v24 == 2) (
 ixSl 2 w2a w2l w11 fun p31 =>
 ldI .i64 S p31.1 (p31.2 + 1) fun v32 =>
 callT call 20 [(.ptr w7), (.int .i64 v32)] S fun v34 S33 =>
 atI .i64 v34 0 fun v35 =>
 atI .i64 v34 1 fun v36 =>
 j1_1_1_1_1_1_1_1_1_0_1_0_0_1_0_0_1_1 w0 w2a w2l w2c w7 w8a w8l w8c w10a w10l w10c w11 v35 v36 S33) (
 cond (v24 == 3) (
 ixSl 2 w2a w2l w11 fun p37 =>
 ldI .i64 S p37.1 (p37.2 + 1) fun v38 =>
 callI .i64 call 21 [(.ptr w7), (.int .i64 v38)] S fun v40 S39 =>
 j1_1_1_1_1_1_1_1_1_0_1_0_0_1_1 w0 w2a w2l w2c w7 w8a w8l w8c w10a w10l w10c w11 S39) (
 cond (v24 == 5) (
 ixSl 2 w2a w2l w11 fun p41 =>
 ldI .i64 S p41.1 (p41.2 + 1) fun v42 =>
 callI .i64 call 22 [(.ptr w7), (.int .i64 v42)] S fun v44 S43 =>
 j1_1_1_1_1_1_1_1_1_0_1_0_0_1_1 w0 w2a w2l w2c w7 w8a w8l w8c w10a w10l w10c w11 S43) (
 j1_1_1_1_1_1_1_1_1_0_1_0_0_1_1 w0 w2a w2l w2c w7 w8a w8l w8c w10a w10l w10c w11 S))))) (
 j1_1_1_1_1_1_1_1_1_1 w7 w10a w10l w10c S)

def b4_j1_1_1_1_1_1_1_1_1_0_1_0_0_1_0_0_1_1 (call : CallA) (n : Nat) (j1_1_1_1_1_1_1_1_1_0_1_0_0_1_1 : Int → Option Pos → Nat → Cap → Option Pos → Option Pos → Nat → Cap → Option Pos → Nat → Cap → Int → AS → Option (AV × AS)) (w0 : Int) (w2a : Option Pos) (w2l : Nat) (w2c : Cap) (w7 : Option Pos) (w8a : Option Pos) (w8l : Nat) (w8c : Cap) (w10a : Option Pos) (w10l : Nat) (w10c : Cap) (w11 : Int) (w12 : Int) (w13 : Int) (S : AS) : Option (AV × AS) :=
 callI .i64 call 11 [(.int .i64 w13)] S fun v46 S45 =>
 cond (v46 == 0) (
 cond (decide (w12 < 0)) (
 some ((.bool false), S45)) (
 cond (decide (w12 ≥ w0)) (
 some ((.bool false), S45)) (
 ixSl 1 w8a w8l (IntKind.wrap .i64 (Int.tdiv w12 8)) fun p47 =>
 ldI .u8 S45 p47.1 p47.2 fun v48 =>
 nneg (IntKind.wrap .u64 (Int.tmod w12 8)) <|
 cond ((andI .u8 (shrI .u8 v48 (IntKind.wrap .u64 (Int.tmod w12 8))) 1) == 1) (
 some ((.bool false), S45)) (
 j1_1_1_1_1_1_1_1_1_0_1_0_0_1_1 w0 w2a w2l w2c w7 w8a w8l w8c w10a w10l w10c w11 S45)))) (
 j1_1_1_1_1_1_1_1_1_0_1_0_0_1_1 w0 w2a w2l w2c w7 w8a w8l w8c w10a w10l w10c w11 S45)

def b4_j1_1_1_1_1_1_1_1_1_0_1_0_0_1_1 (call : CallA) (n : Nat) (l1_1_1_1_1_1_1_1_1_0_1_0 : Int → Option Pos → Nat → Cap → AV → Option Pos → Option Pos → Nat → Cap → Option Pos → Nat → Cap → Int → AS → Option (AV × AS)) (w0 : Int) (w2a : Option Pos) (w2l : Nat) (w2c : Cap) (w7 : Option Pos) (w8a : Option Pos) (w8l : Nat) (w8c : Cap) (w10a : Option Pos) (w10l : Nat) (w10c : Cap) (w11 : Int) (S : AS) : Option (AV × AS) :=
 l1_1_1_1_1_1_1_1_1_0_1_0 w0 w2a w2l w2c .undef w7 w8a w8l w8c w10a w10l w10c (IntKind.wrap .i64 (w11 + 1)) S

def b4_j1_1_1_1_1_1_1_1_1_1 (call : CallA) (n : Nat)  (w7 : Option Pos) (w10a : Option Pos) (w10l : Nat) (w10c : Cap) (S : AS) : Option (AV × AS) :=
 callL call 16 [(.ptr w7)] S fun v50a v50l v50c S49 =>
 bytesStr S49 v50a v50l fun s51 =>
 bytesStr S49 w10a w10l fun s52 =>
 bytesStr S w10a w10l fun s53 =>
 cond (AV.beq (.str s53) (.str s52)) (
 cond (s51 == s52) (
 callB call 12 [] S49 fun v55 S54 =>
 some ((.bool v55), S54)) (
 some ((.bool false), S49))) none

def b4_entry (call : CallA) (n : Nat) (l1_1_1_1_1_1_1_0_1_0 : Int → Option Pos → Nat → Cap → Option Pos → Option Pos → Nat → Cap → Int → AS → Option (AV × AS)) (x0 : Int) (x1a : Option Pos) (x1l : Nat) (x1c : Cap) (x2a : Option Pos) (x2l : Nat) (x2c : Cap) (S : AS) : Option (AV × AS) :=
 cond (decide (((x1l : Nat) : Int) > 80)) (
 callB call 12 [] S fun v2 S1 =>
 some ((.bool v2), S1)) (
 cond (decide (((x2l : Nat) : Int) > 80)) (
 callB call 12 [] S fun v4 S3 =>
 some ((.bool v4), S3)) (
 cond (decide (x0 > 200)) (
 callB call 12 [] S fun v6 S5 =>
 some ((.bool v6), S5)) (
 callP call 17 [(.int .i64 x0), (.sl x1a x1l x1c)] S fun v8 S7 =>
 cond v8.isNone (
 cond (decide (x0 < 1)) (
 callB call 12 [] S7 fun v10 S9 =>
 some ((.bool v10), S9)) (
 some ((.bool false), S7))) (
 callT call 18 [(.ptr v8)] S7 fun v12 S11 =>
 callL call 16 [(.ptr v8)] S11 fun v14a v14l v14c S13 =>
 cond (((v14l : Nat) : Int) != (IntKind.wrap .i64 (Int.tdiv (IntKind.wrap .i64 (x0 + 7)) 8))) (
 some ((.bool false), S13)) (
 l1_1_1_1_1_1_1_0_1_0 x0 x2a x2l x2c v8 v14a v14l v14c 0 S13)))))

def r4_l1_1_1_1_1_1_1_0_1_0 (call : CallA) (n : Nat)  (m : Nat) (w0 : Int) (w2a : Option Pos) (w2l : Nat) (w2c : Cap) (w7 : Option Pos) (w8a : Option Pos) (w8l : Nat) (w8c : Cap) (w9 : Int) (S : AS) : Option (AV × AS) := loopN (evC E call n 4 (E.at 4 [1, 1, 1, 1, 1, 1, 1, 0, 1, 0, 0]) 0) [0, 2, 7, 8, 9] m [(0, (.int .i64 w0)), (2, (.sl w2a w2l w2c)), (7, (.ptr w7)), (8, (.sl w8a w8l w8c)), (9, (.int .i64 w9))] S (kBlk 0 (kSeq E call n 4 (E.at 4 [1, 1, 1, 1, 1, 1, 1, 1]) 0 (retK E (E.fn 4))))
def r4_j1_1_1_1_1_1_1_0_1_0_0_1_1 (call : CallA) (n : Nat) (m1_1_1_1_1_1_1_0_1_0 : Nat) (w0 : Int) (w2a : Option Pos) (w2l : Nat) (w2c : Cap) (w7 : Option Pos) (w8a : Option Pos) (w8l : Nat) (w8c : Cap) (w9 : Int) (S : AS) : Option (AV × AS) := evC E call n 4 (E.at 4 [1, 1, 1, 1, 1, 1, 1, 0, 1, 0, 0, 1, 1]) 0 [(0, (.int .i64 w0)), (2, (.sl w2a w2l w2c)), (7, (.ptr w7)), (8, (.sl w8a w8l w8c)), (9, (.int .i64 w9))] S (kLp (evC E call n 4 (E.at 4 [1, 1, 1, 1, 1, 1, 1, 0, 1, 0, 0]) 0) [0, 2, 7, 8, 9] m1_1_1_1_1_1_1_0_1_0 (kBlk 0 (kSeq E call n 4 (E.at 4 [1, 1, 1, 1, 1, 1, 1, 1]) 0 (retK E (E.fn 4)))))
def r4_j1_1_1_1_1_1_1_1 (call : CallA) (n : Nat)  (w0 : Int) (w2a : Option Pos) (w2l : Nat) (w2c : Cap) (w7 : Option Pos) (w8a : Option Pos) (w8l : Nat) (w8c : Cap) (S : AS) : Option (AV × AS) := evC E call n 4 (E.at 4 [1, 1, 1, 1, 1, 1, 1, 1]) 0 [(0, (.int .i64 w0)), (2, (.sl w2a w2l w2c)), (7, (.ptr w7)), (8, (.sl w8a w8l w8c))] S (retK E (E.fn 4))
def r4_l1_1_1_1_1_1_1_1_1_0_1_0 (call : CallA) (n : Nat)  (m : Nat) (w0 : Int) (w2a : Option Pos) (w2l : Nat) (w2c : Cap) (w6 : AV) (w7 : Option Pos) (w8a : Option Pos) (w8l : Nat) (w8c : Cap) (w10a : Option Pos) (w10l : Nat) (w10c : Cap) (w11 : Int) (S : AS) : Option (AV × AS) := loopN (evC E call n 4 (E.at 4 [1, 1, 1, 1, 1, 1, 1, 1, 1, 0, 1, 0, 0]) 2) [0, 2, 6, 7, 8, 10, 11] m [(0, (.int .i64 w0)), (2, (.sl w2a w2l w2c)), (6, w6), (7, (.ptr w7)), (8, (.sl w8a w8l w8c)), (10, (.sl w10a w10l w10c)), (11, (.int .i64 w11))] S (kBlk 2 (kSeq E call n 4 (E.at 4 [1, 1, 1, 1, 1, 1, 1, 1, 1, 1]) 0 (retK E (E.fn 4))))
def r4_j1_1_1_1_1_1_1_1_1_0_1_0_0_1_0_0_1_1 (call : CallA) (n : Nat) (m1_1_1_1_1_1_1_1_1_0_1_0 : Nat) (w0 : Int) (w2a : Option Pos) (w2l : Nat) (w2c : Cap) (w7 : Option Pos) (w8a : Option Pos) (w8l : Nat) (w8c : Cap) (w10a : Option Pos) (w10l : Nat) (w10c : Cap) (w11 : Int) (w12 : Int) (w13 : Int) (S : AS) : Option (AV × AS) := evC E call n 4 (E.at 4 [1, 1, 1, 1, 1, 1, 1, 1, 1, 0, 1, 0, 0, 1, 0, 0, 1, 1]) 3 [(0, (.int .i64 w0)), (2, (.sl w2a w2l w2c)), (7, (.ptr w7)), (8, (.sl w8a w8l w8c)), (10, (.sl w10a w10l w10c)), (11, (.int .i64 w11)), (12, (.int .i64 w12)), (13, (.int .i64 w13))] S (kBlk 3 (kSeq E call n 4 (E.at 4 [1, 1, 1, 1, 1, 1, 1, 1, 1, 0, 1, 0, 0, 1, 1]) 2 (kLp (evC E call n 4 (E.at 4 [1, 1, 1, 1, 1, 1, 1, 1, 1, 0, 1, 0, 0]) 2) [0, 2, 6, 7, 8, 10, 11] m1_1_1_1_1_1_1_1_1_0_1_0 (kBlk 2 (kSeq E call n 4 (E.at 4 [1, 1, 1, 1, 1, 1, 1, 1, 1, 1]) 0 (retK E (E.fn 4)))))))
def r4_j1_1_1_1_1_1_1_1_1_0_1_0_0_1_1 (call : CallA) (n : Nat) (m1_1_1_1_1_1_1_1_1_0_1_0 : Nat) (w0 : Int) (w2a : Option Pos) (w2l : Nat) (w2c : Cap) (w7 : Option Pos) (w8a : Option Pos) (w8l : Nat) (w8c : Cap) (w10a : Option Pos) (w10l : Nat) (w10c : Cap) (w11 : Int) (S : AS) : Option (AV × AS) := evC E call n 4 (E.at 4 [1, 1, 1, 1, 1, 1, 1, 1, 1, 0, 1, 0, 0, 1, 1]) 2 [(0, (.int .i64 w0)), (2, (.sl w2a w2l w2c)), (7, (.ptr w7)), (8, (.sl w8a w8l w8c)), (10, (.sl w10a w10l w10c)), (11, (.int .i64 w11))] S (kLp (evC E call n 4 (E.at 4 [1, 1, 1, 1, 1, 1, 1, 1, 1, 0, 1, 0, 0]) 2) [0, 2, 6, 7, 8, 10, 11] m1_1_1_1_1_1_1_1_1_0_1_0 (kBlk 2 (kSeq E call n 4 (E.at 4 [1, 1, 1, 1, 1, 1, 1, 1, 1, 1]) 0 (retK E (E.fn 4)))))
def r4_j1_1_1_1_1_1_1_1_1_1 (call : CallA) (n : Nat)  (w7 : Option Pos) (w10a : Option Pos) (w10l : Nat) (w10c : Cap) (S : AS) : Option (AV × AS) := evC E call n 4 (E.at 4 [1, 1, 1, 1, 1, 1, 1, 1, 1, 1]) 0 [(7, (.ptr w7)), (10, (.sl w10a w10l w10c))] S (retK E (E.fn 4))
theorem a4_l1_1_1_1_1_1_1_0_1_0 (call : CallA) (n : Nat)  (m : Nat) (w0 : Int) (w2a : Option Pos) (w2l : Nat) (w2c : Cap) (w7 : Option Pos) (w8a : Option Pos) (w8l : Nat) (w8c : Cap) (w9 : Int) (S : AS) : r4_l1_1_1_1_1_1_1_0_1_0 call n  (m + 1) w0 w2a w2l w2c w7 w8a w8l w8c w9 S = b4_l1_1_1_1_1_1_1_0_1_0 call n (r4_j1_1_1_1_1_1_1_0_1_0_0_1_1 call n m) (r4_j1_1_1_1_1_1_1_1 call n ) w0 w2a w2l w2c w7 w8a w8l w8c w9 S := by kernel_rfl
theorem a4_j1_1_1_1_1_1_1_0_1_0_0_1_1 (call : CallA) (n : Nat) (m1_1_1_1_1_1_1_0_1_0 : Nat) (w0 : Int) (w2a : Option Pos) (w2l : Nat) (w2c : Cap) (w7 : Option Pos) (w8a : Option Pos) (w8l : Nat) (w8c : Cap) (w9 : Int) (S : AS) : r4_j1_1_1_1_1_1_1_0_1_0_0_1_1 call n m1_1_1_1_1_1_1_0_1_0 w0 w2a w2l w2c w7 w8a w8l w8c w9 S = b4_j1_1_1_1_1_1_1_0_1_0_0_1_1 call n (r4_l1_1_1_1_1_1_1_0_1_0 call n  m1_1_1_1_1_1_1_0_1_0) w0 w2a w2l w2c w7 w8a w8l w8c w9 S := by kernel_rfl
theorem a4_j1_1_1_1_1_1_1_1 (call : CallA) (n : Nat)  (w0 : Int) (w2a : Option Pos) (w2l : Nat) (w2c : Cap) (w7 : Option Pos) (w8a : Option Pos) (w8l : Nat) (w8c : Cap) (S : AS) : r4_j1_1_1_1_1_1_1_1 call n  w0 w2a w2l w2c w7 w8a w8l w8c S = b4_j1_1_1_1_1_1_1_1 call n (r4_l1_1_1_1_1_1_1_1_1_0_1_0 call n  n) w0 w2a w2l w2c w7 w8a w8l w8c S := by kernel_rfl
theorem a4_l1_1_1_1_1_1_1_1_1_0_1_0 (call : CallA) (n : Nat)  (m : Nat) (w0 : Int) (w2a : Option Pos) (w2l : Nat) (w2c : Cap) (w6 : AV) (w7 : Option Pos) (w8a : Option Pos) (w8l : Nat) (w8c : Cap) (w10a : Option Pos) (w10l : Nat) (w10c : Cap) (w11 : Int) (S : AS) : r4_l1_1_1_1_1_1_1_1_1_0_1_0 call n  (m + 1) w0 w2a w2l w2c w6 w7 w8a w8l w8c w10a w10l w10c w11 S = b4_l1_1_1_1_1_1_1_1_1_0_1_0 call n (r4_j1_1_1_1_1_1_1_1_1_0_1_0_0_1_0_0_1_1 call n m) (r4_j1_1_1_1_1_1_1_1_1_0_1_0_0_1_1 call n m) (r4_j1_1_1_1_1_1_1_1_1_1 call n ) w0 w2a w2l w2c w6 w7 w8a w8l w8c w10a w10l w10c w11 S := by kernel_rfl
theorem a4_j1_1_1_1_1_1_1_1_1_0_1_0_0_1_0_0_1_1 (call : CallA) (n : Nat) (m1_1_1_1_1_1_1_1_1_0_1_0 : Nat) (w0 : Int) (w2a : Option Pos) (w2l : Nat) (w2c : Cap) (w7 : Option Pos) (w8a : Option Pos) (w8l : Nat) (w8c : Cap) (w10a : Option Pos) (w10l : Nat) (w10c : Cap) (w11 : Int) (w12 : Int) (w13 : Int) (S : AS) : r4_j1_1_1_1_1_1_1_1_1_0_1_0_0_1_0_0_1_1 call n m1_1_1_1_1_1_1_1_1_0_1_0 w0 w2a w2l w2c w7 w8a w8l w8c w10a w10l w10c w11 w12 w13 S = b4_j1_1_1_1_1_1_1_1_1_0_1_0_0_1_0_0_1_1 call n (r4_j1_1_1_1_1_1_1_1_1_0_1_0_0_1_1 call n m1_1_1_1_1_1_1_1_1_0_1_0) w0 w2a w2l w2c w7 w8a w8l w8c w10a w10l w10c w11 w12 w13 S := by kernel_rfl
theorem a4_j1_1_1_1_1_1_1_1_1_0_1_0_0_1_1 (call : CallA) (n : Nat) (m1_1_1_1_1_1_1_1_1_0_1_0 : Nat) (w0 : Int) (w2a : Option Pos) (w2l : Nat) (w2c : Cap) (w7 : Option Pos) (w8a : Option Pos) (w8l : Nat) (w8c : Cap) (w10a : Option Pos) (w10l : Nat) (w10c : Cap) (w11 : Int) (S : AS) : r4_j1_1_1_1_1_1_1_1_1_0_1_0_0_1_1 call n m1_1_1_1_1_1_1_1_1_0_1_0 w0 w2a w2l w2c w7 w8a w8l w8c w10a w10l w10c w11 S = b4_j1_1_1_1_1_1_1_1_1_0_1_0_0_1_1 call n (r4_l1_1_1_1_1_1_1_1_1_0_1_0 call n  m1_1_1_1_1_1_1_1_1_0_1_0) w0 w2a w2l w2c w7 w8a w8l w8c w10a w10l w10c w11 S := by kernel_rfl
theorem a4_j1_1_1_1_1_1_1_1_1_1 (call : CallA) (n : Nat)  (w7 : Option Pos) (w10a : Option Pos) (w10l : Nat) (w10c : Cap) (S : AS) : r4_j1_1_1_1_1_1_1_1_1_1 call n  w7 w10a w10l w10c S = b4_j1_1_1_1_1_1_1_1_1_1 call n  w7 w10a w10l w10c S := by kernel_rfl
theorem a4_entry (call : CallA) (n : Nat) (x0 : Int) (x1a : Option Pos) (x1l : Nat) (x1c : Cap) (x2a : Option Pos) (x2l : Nat) (x2c : Cap) (S : AS) : evC E call n 4 (E.at 4 []) 0 (enumT 0 [(.int .i64 x0), (.sl x1a x1l x1c), (.sl x2a x2l x2c)]) S (retK E (E.fn 4)) = b4_entry call n (r4_l1_1_1_1_1_1_1_0_1_0 call n  n) x0 x1a x1l x1c x2a x2l x2c S := by kernel_rfl
def J4_j1_1_1_1_1_1_1_0_1_0_0_1_1 (call : CallA) (n : Nat) (n1_1_1_1_1_1_1_0_1_0 : Int → Option Pos → Nat → Cap → Option Pos → Option Pos → Nat → Cap → Int → AS → Option (AV × AS)) (w0 : Int) (w2a : Option Pos) (w2l : Nat) (w2c : Cap) (w7 : Option Pos) (w8a : Option Pos) (w8l : Nat) (w8c : Cap) (w9 : Int) (S : AS) : Option (AV × AS) := b4_j1_1_1_1_1_1_1_0_1_0_0_1_1 call n n1_1_1_1_1_1_1_0_1_0 w0 w2a w2l w2c w7 w8a w8l w8c w9 S
theorem h4_j1_1_1_1_1_1_1_0_1_0_0_1_1 (call : CallA) (n : Nat) (m1_1_1_1_1_1_1_0_1_0 : Nat) : r4_j1_1_1_1_1_1_1_0_1_0_0_1_1 call n m1_1_1_1_1_1_1_0_1_0 = J4_j1_1_1_1_1_1_1_0_1_0_0_1_1 call n (r4_l1_1_1_1_1_1_1_0_1_0 call n  m1_1_1_1_1_1_1_0_1_0) := by
  funext w0 w2a w2l w2c w7 w8a w8l w8c w9 S
  rw [J4_j1_1_1_1_1_1_1_0_1_0_0_1_1, a4_j1_1_1_1_1_1_1_0_1_0_0_1_1]
def J4_j1_1_1_1_1_1_1_1_1_0_1_0_0_1_1 (call : CallA) (n : Nat) (n1_1_1_1_1_1_1_1_1_0_1_0 : Int → Option Pos → Nat → Cap → AV → Option Pos → Option Pos → Nat → Cap → Option Pos → Nat → Cap → Int → AS → Option (AV × AS)) (w0 : Int) (w2a : Option Pos) (w2l : Nat) (w2c : Cap) (w7 : Option Pos) (w8a : Option Pos) (w8l : Nat) (w8c : Cap) (w10a : Option Pos) (w10l : Nat) (w10c : Cap) (w11 : Int) (S : AS) : Option (AV × AS) := b4_j1_1_1_1_1_1_1_1_1_0_1_0_0_1_1 call n n1_1_1_1_1_1_1_1_1_0_1_0 w0 w2a w2l w2c w7 w8a w8l w8c w10a w10l w10c w11 S
theorem h4_j1_1_1_1_1_1_1_1_1_0_1_0_0_1_1 (call : CallA) (n : Nat) (m1_1_1_1_1_1_1_1_1_0_1_0 : Nat) : r4_j1_1_1_1_1_1_1_1_1_0_1_0_0_1_1 call n m1_1_1_1_1_1_1_1_1_0_1_0 = J4_j1_1_1_1_1_1_1_1_1_0_1_0_0_1_1 call n (r4_l1_1_1_1_1_1_1_1_1_0_1_0 call n  m1_1_1_1_1_1_1_1_1_0_1_0) := by
  funext w0 w2a w2l w2c w7 w8a w8l w8c w10a w10l w10c w11 S
  rw [J4_j1_1_1_1_1_1_1_1_1_0_1_0_0_1_1, a4_j1_1_1_1_1_1_1_1_1_0_1_0_0_1_1]
def J4_j1_1_1_1_1_1_1_1_1_0_1_0_0_1_0_0_1_1 (call : CallA) (n : Nat) (n1_1_1_1_1_1_1_1_1_0_1_0 : Int → Option Pos → Nat → Cap → AV → Option Pos → Option Pos → Nat → Cap → Option Pos → Nat → Cap → Int → AS → Option (AV × AS)) (w0 : Int) (w2a : Option Pos) (w2l : Nat) (w2c : Cap) (w7 : Option Pos) (w8a : Option Pos) (w8l : Nat) (w8c : Cap) (w10a : Option Pos) (w10l : Nat) (w10c : Cap) (w11 : Int) (w12 : Int) (w13 : Int) (S : AS) : Option (AV × AS) := b4_j1_1_1_1_1_1_1_1_1_0_1_0_0_1_0_0_1_1 call n (J4_j1_1_1_1_1_1_1_1_1_0_1_0_0_1_1 call n n1_1_1_1_1_1_1_1_1_0_1_0) w0 w2a w2l w2c w7 w8a w8l w8c w10a w10l w10c w11 w12 w13 S
theorem h4_j1_1_1_1_1_1_1_1_1_0_1_0_0_1_0_0_1_1 (call : CallA) (n : Nat) (m1_1_1_1_1_1_1_1_1_0_1_0 : Nat) : r4_j1_1_1_1_1_1_1_1_1_0_1_0_0_1_0_0_1_1 call n m1_1_1_1_1_1_1_1_1_0_1_0 = J4_j1_1_1_1_1_1_1_1_1_0_1_0_0_1_0_0_1_1 call n (r4_l1_1_1_1_1_1_1_1_1_0_1_0 call n  m1_1_1_1_1_1_1_1_1_0_1_0) := by
  funext w0 w2a w2l w2c w7 w8a w8l w8c w10a w10l w10c w11 w12 w13 S
  rw [J4_j1_1_1_1_1_1_1_1_1_0_1_0_0_1_0_0_1_1, a4_j1_1_1_1_1_1_1_1_1_0_1_0_0_1_0_0_1_1, h4_j1_1_1_1_1_1_1_1_1_0_1_0_0_1_1 call n m1_1_1_1_1_1_1_1_1_0_1_0]
def J4_j1_1_1_1_1_1_1_1_1_1 (call : CallA) (n : Nat)  (w7 : Option Pos) (w10a : Option Pos) (w10l : Nat) (w10c : Cap) (S : AS) : Option (AV × AS) := b4_j1_1_1_1_1_1_1_1_1_1 call n  w7 w10a w10l w10c S
theorem h4_j1_1_1_1_1_1_1_1_1_1 (call : CallA) (n : Nat)  : r4_j1_1_1_1_1_1_1_1_1_1 call n  = J4_j1_1_1_1_1_1_1_1_1_1 call n  := by
  funext w7 w10a w10l w10c S
  rw [J4_j1_1_1_1_1_1_1_1_1_1, a4_j1_1_1_1_1_1_1_1_1_1]
def J4_l1_1_1_1_1_1_1_1_1_0_1_0 (call : CallA) (n : Nat)  (m : Nat) : Int → Option Pos → Nat → Cap → AV → Option Pos → Option Pos → Nat → Cap → Option Pos → Nat → Cap → Int → AS → Option (AV × AS) := Nat.rec (motive := fun _ => Int → Option Pos → Nat → Cap → AV → Option Pos → Option Pos → Nat → Cap → Option Pos → Nat → Cap → Int → AS → Option (AV × AS)) (fun _ _ _ _ _ _ _ _ _ _ _ _ _ _ => none) (fun _ ih w0 w2a w2l w2c w6 w7 w8a w8l w8c w10a w10l w10c w11 S => b4_l1_1_1_1_1_1_1_1_1_0_1_0 call n (J4_j1_1_1_1_1_1_1_1_1_0_1_0_0_1_0_0_1_1 call n ih) (J4_j1_1_1_1_1_1_1_1_1_0_1_0_0_1_1 call n ih) (J4_j1_1_1_1_1_1_1_1_1_1 call n ) w0 w2a w2l w2c w6 w7 w8a w8l w8c w10a w10l w10c w11 S) m
theorem J4_l1_1_1_1_1_1_1_1_1_0_1_0_succ (call : CallA) (n : Nat)  (m : Nat) (w0 : Int) (w2a : Option Pos) (w2l : Nat) (w2c : Cap) (w6 : AV) (w7 : Option Pos) (w8a : Option Pos) (w8l : Nat) (w8c : Cap) (w10a : Option Pos) (w10l : Nat) (w10c : Cap) (w11 : Int) (S : AS) : J4_l1_1_1_1_1_1_1_1_1_0_1_0 call n  (m + 1) w0 w2a w2l w2c w6 w7 w8a w8l w8c w10a w10l w10c w11 S = b4_l1_1_1_1_1_1_1_1_1_0_1_0 call n (J4_j1_1_1_1_1_1_1_1_1_0_1_0_0_1_0_0_1_1 call n (J4_l1_1_1_1_1_1_1_1_1_0_1_0 call n  m)) (J4_j1_1_1_1_1_1_1_1_1_0_1_0_0_1_1 call n (J4_l1_1_1_1_1_1_1_1_1_0_1_0 call n  m)) (J4_j1_1_1_1_1_1_1_1_1_1 call n ) w0 w2a w2l w2c w6 w7 w8a w8l w8c w10a w10l w10c w11 S := rfl
theorem h4_l1_1_1_1_1_1_1_1_1_0_1_0 (call : CallA) (n : Nat)  (m : Nat) : r4_l1_1_1_1_1_1_1_1_1_0_1_0 call n  m = J4_l1_1_1_1_1_1_1_1_1_0_1_0 call n  m := by
  induction m with
  | zero => rfl
  | succ m ih =>
    funext w0 w2a w2l w2c w6 w7 w8a w8l w8c w10a w10l w10c w11 S
    rw [J4_l1_1_1_1_1_1_1_1_1_0_1_0_succ, a4_l1_1_1_1_1_1_1_1_1_0_1_0, h4_j1_1_1_1_1_1_1_1_1_0_1_0_0_1_0_0_1_1 call n m, h4_j1_1_1_1_1_1_1_1_1_0_1_0_0_1_1 call n m, h4_j1_1_1_1_1_1_1_1_1_1 call n , ih]
def J4_j1_1_1_1_1_1_1_1 (call : CallA) (n : Nat)  (w0 : Int) (w2a : Option Pos) (w2l : Nat) (w2c : Cap) (w7 : Option Pos) (w8a : Option Pos) (w8l : Nat) (w8c : Cap) (S : AS) : Option (AV × AS) := b4_j1_1_1_1_1_1_1_1 call n (J4_l1_1_1_1_1_1_1_1_1_0_1_0 call n  n) w0 w2a w2l w2c w7 w8a w8l w8c S
theorem h4_j1_1_1_1_1_1_1_1 (call : CallA) (n : Nat)  : r4_j1_1_1_1_1_1_1_1 call n  = J4_j1_1_1_1_1_1_1_1 call n  := by
  funext w0 w2a w2l w2c w7 w8a w8l w8c S
  rw [J4_j1_1_1_1_1_1_1_1, a4_j1_1_1_1_1_1_1_1, h4_l1_1_1_1_1_1_1_1_1_0_1_0 call n  n]
def J4_l1_1_1_1_1_1_1_0_1_0 (call : CallA) (n : Nat)  (m : Nat) : Int → Option Pos → Nat → Cap → Option Pos → Option Pos → Nat → Cap → Int → AS → Option (AV × AS) := Nat.rec (motive := fun _ => Int → Option Pos → Nat → Cap → Option Pos → Option Pos → Nat → Cap → Int → AS → Option (AV × AS)) (fun _ _ _ _ _ _ _ _ _ _ => none) (fun _ ih w0 w2a w2l w2c w7 w8a w8l w8c w9 S => b4_l1_1_1_1_1_1_1_0_1_0 call n (J4_j1_1_1_1_1_1_1_0_1_0_0_1_1 call n ih) (J4_j1_1_1_1_1_1_1_1 call n ) w0 w2a w2l w2c w7 w8a w8l w8c w9 S) m
theorem J4_l1_1_1_1_1_1_1_0_1_0_succ (call : CallA) (n : Nat)  (m : Nat) (w0 : Int) (w2a : Option Pos) (w2l : Nat) (w2c : Cap) (w7 : Option Pos) (w8a : Option Pos) (w8l : Nat) (w8c : Cap) (w9 : Int) (S : AS) : J4_l1_1_1_1_1_1_1_0_1_0 call n  (m + 1) w0 w2a w2l w2c w7 w8a w8l w8c w9 S = b4_l1_1_1_1_1_1_1_0_1_0 call n (J4_j1_1_1_1_1_1_1_0_1_0_0_1_1 call n (J4_l1_1_1_1_1_1_1_0_1_0 call n  m)) (J4_j1_1_1_1_1_1_1_1 call n ) w0 w2a w2l w2c w7 w8a w8l w8c w9 S := rfl
theorem h4_l1_1_1_1_1_1_1_0_1_0 (call : CallA) (n : Nat)  (m : Nat) : r4_l1_1_1_1_1_1_1_0_1_0 call n  m = J4_l1_1_1_1_1_1_1_0_1_0 call n  m := by
  induction m with
  | zero => rfl
  | succ m ih =>
    funext w0 w2a w2l w2c w7 w8a w8l w8c w9 S
    rw [J4_l1_1_1_1_1_1_1_0_1_0_succ, a4_l1_1_1_1_1_1_1_0_1_0, h4_j1_1_1_1_1_1_1_0_1_0_0_1_1 call n m, h4_j1_1_1_1_1_1_1_1 call n , ih]
def J4 (call : CallA) (n : Nat) (x0 : Int) (x1a : Option Pos) (x1l : Nat) (x1c : Cap) (x2a : Option Pos) (x2l : Nat) (x2c : Cap) (S : AS) : Option (AV × AS) := b4_entry call n (J4_l1_1_1_1_1_1_1_0_1_0 call n  n) x0 x1a x1l x1c x2a x2l x2c S
theorem run4 (o : Orc) (n : Nat) (args : List AV) (S : AS) (ho : o 4 args = none) : evF E o (n + 1) (.fn 4) args S = evC E (evF E o n) n 4 (E.at 4 []) 0 (enumT 0 args) S (retK E (E.fn 4)) := by
  rw [evF, ho]; kernel_rfl
theorem J4_eq (call : CallA) (n : Nat) (x0 : Int) (x1a : Option Pos) (x1l : Nat) (x1c : Cap) (x2a : Option Pos) (x2l : Nat) (x2c : Cap) (S : AS) : evC E call n 4 (E.at 4 []) 0 (enumT 0 [(.int .i64 x0), (.sl x1a x1l x1c), (.sl x2a x2l x2c)]) S (retK E (E.fn 4)) = J4 call n x0 x1a x1l x1c x2a x2l x2c S := by
  rw [J4, a4_entry, h4_l1_1_1_1_1_1_1_0_1_0 call n  n]
theorem F4 {o : Orc} (n : Nat) (x0 : Int) (x1a : Option Pos) (x1l : Nat) (x1c : Cap) (x2a : Option Pos) (x2l : Nat) (x2c : Cap) (S : AS) (ho : ∀ args, o 4 args = none) : evF E o (n + 1) (.fn 4) [(.int .i64 x0), (.sl x1a x1l x1c), (.sl x2a x2l x2c)] S = J4 (evF E o n) n x0 x1a x1l x1c x2a x2l x2c S := (run4 o n [(.int .i64 x0), (.sl x1a x1l x1c), (.sl x2a x2l x2c)] S (ho _)).trans (J4_eq _ _ x0 x1a x1l x1c x2a x2l x2c S)
def b5_l1_1_1_1_1_1_0_1_0 (call : CallA) (n : Nat) (l1_1_1_1_1_1_0_1_0_0_1_0_0_0_1_0 : Int → Int → Int → Option Pos → Int → Int → AS → Option (AV × AS)) (w2 : AV) (w3 : Int) (w5 : Int) (w6 : Int) (w7 : Option Pos) (w8 : Int) (S : AS) : Option (AV × AS) :=
 cond (decide (w8 < w5)) (
 l1_1_1_1_1_1_0_1_0_0_1_0_0_0_1_0 w3 w5 w6 w7 w8 0 S) (
 callB call 12 [] S fun v34 S33 =>
 some ((.bool v34), S33))

def b5_l1_1_1_1_1_1_0_1_0_0_1_0_0_0_1_0 (call : CallA) (n : Nat) (l1_1_1_1_1_1_0_1_0_0_1_0_0_0_1_0 : Int → Int → Int → Option Pos → Int → Int → AS → Option (AV × AS)) (j1_1_1_1_1_1_0_1_0_0_1_0_0_1 : Int → Int → Int → Option Pos → Int → AS → Option (AV × AS)) (w3 : Int) (w5 : Int) (w6 : Int) (w7 : Option Pos) (w8 : Int) (w9 : Int) (S : AS) : Option (AV × AS) :=
 cond (decide (w9 < w6)) (
 nz w3 <|
 callT call 13 [(.ptr w7), (.int .i64 (Int.tmod w8 w3))] S fun v36 S35 =>
 l1_1_1_1_1_1_0_1_0_0_1_0_0_0_1_0 w3 w5 w6 w7 w8 (IntKind.wrap .i64 (w9 + 1)) S35) (
 j1_1_1_1_1_1_0_1_0_0_1_0_0_1 w3 w5 w6 w7 w8 S)

def b5_j1_1_1_1_1_1_0_1_0_0_1_0_0_1 (call : CallA) (n : Nat) (l1_1_1_1_1_1_0_1_0 : AV → Int → Int → Int → Option Pos → Int → AS → Option (AV × AS)) (w3 : Int) (w5 : Int) (w6 : Int) (w7 : Option Pos) (w8 : Int) (S : AS) : Option (AV × AS) :=
 nz w3 <|
 callT call 20 [(.ptr w7), (.int .i64 (Int.tmod w8 w3))] S fun v38 S37 =>
 atI .i64 v38 0 fun v39 =>
 atI .i64 v38 1 fun v40 =>
 callI .i64 call 11 [(.int .i64 v40)] S37 fun v42 S41 =>
 cond (v42 != 0) (
 some ((.bool false), S41)) (
 l1_1_1_1_1_1_0_1_0 .undef w3 w5 w6 w7 (IntKind.wrap .i64 (w8 + 1)) S41)

def b5_entry (call : CallA) (n : Nat) (l1_1_1_1_1_1_0_1_0 : AV → Int → Int → Int → Option Pos → Int → AS → Option (AV × AS)) (x0 : List AV) (S : AS) : Option (AV × AS) :=
 ifO (x0.length = 4) <|
 newA S (.cells x0) fun b1 S2 =>
 ldI .i64 S2 (.rw b1) 0 fun v3 =>
 ldL S2 (.rw b1) 1 fun v4a v4l v4c =>
 ldI .i64 S2 (.rw b1) 2 fun v5 =>
 ldI .i64 S2 (.rw b1) 3 fun v6 =>
 cond (decide (((v4l : Nat) : Int) > 80)) (
 callB call 12 [] S2 fun v8 S7 =>
 some ((.bool v8), S7)) (
 cond (decide (v3 > 200)) (
 callB call 12 [] S2 fun v10 S9 =>
 some ((.bool v10), S9)) (
 cond (decide (v5 < 0)) (
 callB call 12 [] S2 fun v12 S11 =>
 some ((.bool v12), S11)) (
 cond (decide (v5 > 200)) (
 callB call 12 [] S2 fun v14 S13 =>
 some ((.bool v14), S13)) (
 cond (decide (v6 < 0)) (
 callB call 12 [] S2 fun v16 S15 =>
 some ((.bool v16), S15)) (
 cond (decide (v6 > 10)) (
 callB call 12 [] S2 fun v18 S17 =>
 some ((.bool v18), S17)) (
 callP call 17 [(.int .i64 v3), (.sl v4a v4l v4c)] S2 fun v20 S19 =>
 cond v20.isNone (
 cond (decide (v3 < 1)) (
 callB call 12 [] S19 fun v22 S21 =>
 some ((.bool v22), S21)) (
 some ((.bool false), S19))) (
 callI .i64 call 22 [(.ptr v20), (.int .i64 v5)] S19 fun v24 S23 =>
 callI .i64 call 11 [(.int .i64 v24)] S23 fun v26 S25 =>
 cond (v26 != 0) (
 callI .i64 call 15 [(.ptr v20)] S25 fun v28 S27 =>
 callI .i64 call 23 [(.ptr v20)] S27 fun v30 S29 =>
 cond (decide ((IntKind.wrap .i64 (v28 - v30)) < v5)) (
 callB call 12 [] S29 fun v32 S31 =>
 some ((.bool v32), S31)) (
 some ((.bool false), S29))) (
 l1_1_1_1_1_1_0_1_0 (.bool false) v3 v5 v6 v20 0 S25))))))))

def r5_l1_1_1_1_1_1_0_1_0 (call : CallA) (n : Nat)  (m : Nat) (w2 : AV) (w3 : Int) (w5 : Int) (w6 : Int) (w7 : Option Pos) (w8 : Int) (S : AS) : Option (AV × AS) := loopN (evC E call n 5 (E.at 5 [1, 1, 1, 1, 1, 1, 0, 1, 0, 0]) 0) [2, 3, 5, 6, 7, 8] m [(2, w2), (3, (.int .i64 w3)), (5, (.int .i64 w5)), (6, (.int .i64 w6)), (7, (.ptr w7)), (8, (.int .i64 w8))] S (kBlk 0 (kSeq E call n 5 (E.at 5 [1, 1, 1, 1, 1, 1, 1]) 0 (retK E (E.fn 5))))
def r5_l1_1_1_1_1_1_0_1_0_0_1_0_0_0_1_0 (call : CallA) (n : Nat) (m1_1_1_1_1_1_0_1_0 : Nat) (m : Nat) (w3 : Int) (w5 : Int) (w6 : Int) (w7 : Option Pos) (w8 : Int) (w9 : Int) (S : AS) : Option (AV × AS) := loopN (evC E call n 5 (E.at 5 [1, 1, 1, 1, 1, 1, 0, 1, 0, 0, 1, 0, 0, 0, 1, 0, 0]) 2) [3, 5, 6, 7, 8, 9] m [(3, (.int .i64 w3)), (5, (.int .i64 w5)), (6, (.int .i64 w6)), (7, (.ptr w7)), (8, (.int .i64 w8)), (9, (.int .i64 w9))] S (kBlk 2 (kSeq E call n 5 (E.at 5 [1, 1, 1, 1, 1, 1, 0, 1, 0, 0, 1, 0, 0, 1]) 1 (kBlk 1 (kSeq E call n 5 (E.at 5 [1, 1, 1, 1, 1, 1, 0, 1, 0, 0, 1, 1]) 0 (kLp (evC E call n 5 (E.at 5 [1, 1, 1, 1, 1, 1, 0, 1, 0, 0]) 0) [2, 3, 5, 6, 7, 8] m1_1_1_1_1_1_0_1_0 (kBlk 0 (kSeq E call n 5 (E.at 5 [1, 1, 1, 1, 1, 1, 1]) 0 (retK E (E.fn 5)))))))))
def r5_j1_1_1_1_1_1_0_1_0_0_1_0_0_1 (call : CallA) (n : Nat) (m1_1_1_1_1_1_0_1_0 : Nat) (w3 : Int) (w5 : Int) (w6 : Int) (w7 : Option Pos) (w8 : Int) (S : AS) : Option (AV × AS) := evC E call n 5 (E.at 5 [1, 1, 1, 1, 1, 1, 0, 1, 0, 0, 1, 0, 0, 1]) 1 [(3, (.int .i64 w3)), (5, (.int .i64 w5)), (6, (.int .i64 w6)), (7, (.ptr w7)), (8, (.int .i64 w8))] S (kBlk 1 (kSeq E call n 5 (E.at 5 [1, 1, 1, 1, 1, 1, 0, 1, 0, 0, 1, 1]) 0 (kLp (evC E call n 5 (E.at 5 [1, 1, 1, 1, 1, 1, 0, 1, 0, 0]) 0) [2, 3, 5, 6, 7, 8] m1_1_1_1_1_1_0_1_0 (kBlk 0 (kSeq E call n 5 (E.at 5 [1, 1, 1, 1, 1, 1, 1]) 0 (retK E (E.fn 5)))))))
theorem a5_l1_1_1_1_1_1_0_1_0 (call : CallA) (n : Nat)  (m : Nat) (w2 : AV) (w3 : Int) (w5 : Int) (w6 : Int) (w7 : Option Pos) (w8 : Int) (S : AS) : r5_l1_1_1_1_1_1_0_1_0 call n  (m + 1) w2 w3 w5 w6 w7 w8 S = b5_l1_1_1_1_1_1_0_1_0 call n (r5_l1_1_1_1_1_1_0_1_0_0_1_0_0_0_1_0 call n m n) w2 w3 w5 w6 w7 w8 S := by kernel_rfl
theorem a5_l1_1_1_1_1_1_0_1_0_0_1_0_0_0_1_0 (call : CallA) (n : Nat) (m1_1_1_1_1_1_0_1_0 : Nat) (m : Nat) (w3 : Int) (w5 : Int) (w6 : Int) (w7 : Option Pos) (w8 : Int) (w9 : Int) (S : AS) : r5_l1_1_1_1_1_1_0_1_0_0_1_0_0_0_1_0 call n m1_1_1_1_1_1_0_1_0 (m + 1) w3 w5 w6 w7 w8 w9 S = b5_l1_1_1_1_1_1_0_1_0_0_1_0_0_0_1_0 call n (r5_l1_1_1_1_1_1_0_1_0_0_1_0_0_0_1_0 call n m1_1_1_1_1_1_0_1_0 m) (r5_j1_1_1_1_1_1_0_1_0_0_1_0_0_1 call n m1_1_1_1_1_1_0_1_0) w3 w5 w6 w7 w8 w9 S := by kernel_rfl
theorem a5_j1_1_1_1_1_1_0_1_0_0_1_0_0_1 (call : CallA) (n : Nat) (m1_1_1_1_1_1_0_1_0 : Nat) (w3 : Int) (w5 : Int) (w6 : Int) (w7 : Option Pos) (w8 : Int) (S : AS) : r5_j1_1_1_1_1_1_0_1_0_0_1_0_0_1 call n m1_1_1_1_1_1_0_1_0 w3 w5 w6 w7 w8 S = b5_j1_1_1_1_1_1_0_1_0_0_1_0_0_1 call n (r5_l1_1_1_1_1_1_0_1_0 call n  m1_1_1_1_1_1_0_1_0) w3 w5 w6 w7 w8 S := by kernel_rfl
theorem a5_entry (call : CallA) (n : Nat) (x0 : List AV) (S : AS) : evC E call n 5 (E.at 5 []) 0 (enumT 0 [(.agg x0)]) S (retK E (E.fn 5)) = b5_entry call n (r5_l1_1_1_1_1_1_0_1_0 call n  n) x0 S := by kernel_rfl
def J5_j1_1_1_1_1_1_0_1_0_0_1_0_0_1 (call : CallA) (n : Nat) (n1_1_1_1_1_1_0_1_0 : AV → Int → Int → Int → Option Pos → Int → AS → Option (AV × AS)) (w3 : Int) (w5 : Int) (w6 : Int) (w7 : Option Pos) (w8 : Int) (S : AS) : Option (AV × AS) := b5_j1_1_1_1_1_1_0_1_0_0_1_0_0_1 call n n1_1_1_1_1_1_0_1_0 w3 w5 w6 w7 w8 S
theorem h5_j1_1_1_1_1_1_0_1_0_0_1_0_0_1 (call : CallA) (n : Nat) (m1_1_1_1_1_1_0_1_0 : Nat) : r5_j1_1_1_1_1_1_0_1_0_0_1_0_0_1 call n m1_1_1_1_1_1_0_1_0 = J5_j1_1_1_1_1_1_0_1_0_0_1_0_0_1 call n (r5_l1_1_1_1_1_1_0_1_0 call n  m1_1_1_1_1_1_0_1_0) := by
  funext w3 w5 w6 w7 w8 S
  rw [J5_j1_1_1_1_1_1_0_1_0_0_1_0_0_1, a5_j1_1_1_1_1_1_0_1_0_0_1_0_0_1]
def J5_l1_1_1_1_1_1_0_1_0_0_1_0_0_0_1_0 (call : CallA) (n : Nat) (n1_1_1_1_1_1_0_1_0 : AV → Int → Int → Int → Option Pos → Int → AS → Option (AV × AS)) (m : Nat) : Int → Int → Int → Option Pos → Int → Int → AS → Option (AV × AS) := Nat.rec (motive := fun _ => Int → Int → Int → Option Pos → Int → Int → AS → Option (AV × AS)) (fun _ _ _ _ _ _ _ => none) (fun _ ih w3 w5 w6 w7 w8 w9 S => b5_l1_1_1_1_1_1_0_1_0_0_1_0_0_0_1_0 call n ih (J5_j1_1_1_1_1_1_0_1_0_0_1_0_0_1 call n n1_1_1_1_1_1_0_1_0) w3 w5 w6 w7 w8 w9 S) m
theorem J5_l1_1_1_1_1_1_0_1_0_0_1_0_0_0_1_0_succ (call : CallA) (n : Nat) (n1_1_1_1_1_1_0_1_0 : AV → Int → Int → Int → Option Pos → Int → AS → Option (AV × AS)) (m : Nat) (w3 : Int) (w5 : Int) (w6 : Int) (w7 : Option Pos) (w8 : Int) (w9 : Int) (S : AS) : J5_l1_1_1_1_1_1_0_1_0_0_1_0_0_0_1_0 call n n1_1_1_1_1_1_0_1_0 (m + 1) w3 w5 w6 w7 w8 w9 S = b5_l1_1_1_1_1_1_0_1_0_0_1_0_0_0_1_0 call n (J5_l1_1_1_1_1_1_0_1_0_0_1_0_0_0_1_0 call n n1_1_1_1_1_1_0_1_0 m) (J5_j1_1_1_1_1_1_0_1_0_0_1_0_0_1 call n n1_1_1_1_1_1_0_1_0) w3 w5 w6 w7 w8 w9 S := rfl
theorem h5_l1_1_1_1_1_1_0_1_0_0_1_0_0_0_1_0 (call : CallA) (n : Nat) (m1_1_1_1_1_1_0_1_0 : Nat) (m : Nat) : r5_l1_1_1_1_1_1_0_1_0_0_1_0_0_0_1_0 call n m1_1_1_1_1_1_0_1_0 m = J5_l1_1_1_1_1_1_0_1_0_0_1_0_0_0_1_0 call n (r5_l1_1_1_1_1_1_0_1_0 call n  m1_1_1_1_1_1_0_1_0) m := by
  induction m with
  | zero => rfl
  | succ m ih =>
    funext w3 w5 w6 w7 w8 w9 S
    rw [J5_l1_1_1_1_1_1_0_1_0_0_1_0_0_0_1_0_succ, a5_l1_1_1_1_1_1_0_1_0_0_1_0_0_0_1_0, h5_j1_1_1_1_1_1_0_1_0_0_1_0_0_1 call n m1_1_1_1_1_1_0_1_0, ih]
def J5_l1_1_1_1_1_1_0_1_0 (call : CallA) (n : Nat)  (m : Nat) : AV → Int → Int → Int → Option Pos → Int → AS → Option (AV × AS) := Nat.rec (motive := fun _ => AV → Int → Int → Int → Option Pos → Int → AS → Option (AV × AS)) (fun _ _ _ _ _ _ _ => none) (fun _ ih w2 w3 w5 w6 w7 w8 S => b5_l1_1_1_1_1_1_0_1_0 call n (J5_l1_1_1_1_1_1_0_1_0_0_1_0_0_0_1_0 call n ih n) w2 w3 w5 w6 w7 w8 S) m
theorem J5_l1_1_1_1_1_1_0_1_0_succ (call : CallA) (n : Nat)  (m : Nat) (w2 : AV) (w3 : Int) (w5 : Int) (w6 : Int) (w7 : Option Pos) (w8 : Int) (S : AS) : J5_l1_1_1_1_1_1_0_1_0 call n  (m + 1) w2 w3 w5 w6 w7 w8 S = b5_l1_1_1_1_1_1_0_1_0 call n (J5_l1_1_1_1_1_1_0_1_0_0_1_0_0_0_1_0 call n (J5_l1_1_1_1_1_1_0_1_0 call n  m) n) w2 w3 w5 w6 w7 w8 S := rfl
theorem h5_l1_1_1_1_1_1_0_1_0 (call : CallA) (n : Nat)  (m : Nat) : r5_l1_1_1_1_1_1_0_1_0 call n  m = J5_l1_1_1_1_1_1_0_1_0 call n  m := by
  induction m with
  | zero => rfl
  | succ m ih =>
    funext w2 w3 w5 w6 w7 w8 S
    rw [J5_l1_1_1_1_1_1_0_1_0_succ, a5_l1_1_1_1_1_1_0_1_0, h5_l1_1_1_1_1_1_0_1_0_0_1_0_0_0_1_0 call n m n, ih]
def J5 (call : CallA) (n : Nat) (x0 : List AV) (S : AS) : Option (AV × AS) := b5_entry call n (J5_l1_1_1_1_1_1_0_1_0 call n  n) x0 S
theorem run5 (o : Orc) (n : Nat) (args : List AV) (S : AS) (ho : o 5 args = none) : evF E o (n + 1) (.fn 5) args S = evC E (evF E o n) n 5 (E.at 5 []) 0 (enumT 0 args) S (retK E (E.fn 5)) := by
  rw [evF, ho]; kernel_rfl
theorem J5_eq (call : CallA) (n : Nat) (x0 : List AV) (S : AS) : evC E call n 5 (E.at 5 []) 0 (enumT 0 [(.agg x0)]) S (retK E (E.fn 5)) = J5 call n x0 S := by
  rw [J5, a5_entry, h5_l1_1_1_1_1_1_0_1_0 call n  n]
theorem F5 {o : Orc} (n : Nat) (x0 : List AV) (S : AS) (ho : ∀ args, o 5 args = none) : evF E o (n + 1) (.fn 5) [(.agg x0)] S = J5 (evF E o n) n x0 S := (run5 o n [(.agg x0)] S (ho _)).trans (J5_eq _ _ x0 S)
def b6_l1_1_1_1_1_1_0_1_0 (call : CallA) (n : Nat) (l1_1_1_1_1_1_0_1_0 : Int → Bool → Option Pos → Option Pos → Int → AS → Option (AV × AS)) (j1_1_1_1_1_1_1 : Int → Option Pos → Option Pos → AS → Option (AV × AS)) (w0 : Int) (w4 : Bool) (w5 : Option Pos) (w6 : Option Pos) (w8 : Int) (S : AS) : Option (AV × AS) :=
 cond (decide (w8 < w0)) (
 callI .i64 call 19 [(.ptr w5), (.int .i64 w8)] S fun v20 S19 =>
 cond (v20 == 1) (
 callI .i64 call 19 [(.ptr w6), (.int .i64 w8)] S19 fun v22 S21 =>
 cond (!((v22 == 1) == true)) (
 some ((.bool false), S21)) (
 callI .i64 call 19 [(.ptr w6), (.int .i64 w8)] S21 fun v24 S23 =>
 cond ((v24 == 0) == true) (
 some ((.bool false), S23)) (
 l1_1_1_1_1_1_0_1_0 w0 w4 w5 w6 (IntKind.wrap .i64 (w8 + 1)) S23))) (
 callI .i64 call 19 [(.ptr w6), (.int .i64 w8)] S19 fun v26 S25 =>
 cond (!((v26 == 1) == (v20 == 3))) (
 some ((.bool false), S25)) (
 callI .i64 call 19 [(.ptr w6), (.int .i64 w8)] S25 fun v28 S27 =>
 cond ((v28 == 0) == (v20 == 3)) (
 some ((.bool false), S27)) (
 l1_1_1_1_1_1_0_1_0 w0 w4 w5 w6 (IntKind.wrap .i64 (w8 + 1)) S27)))) (
 j1_1_1_1_1_1_1 w0 w5 w6 S)

def b6_j1_1_1_1_1_1_1 (call : CallA) (n : Nat) (l1_1_1_1_1_1_1_1_0_1_0 : Int → AV → Option Pos → Option Pos → Int → AS → Option (AV × AS)) (w0 : Int) (w5 : Option Pos) (w6 : Option Pos) (S : AS) : Option (AV × AS) :=
 callT call 25 [(.ptr w5)] S fun v30 S29 =>
 l1_1_1_1_1_1_1_1_0_1_0 w0 .undef w5 w6 0 S29

def b6_l1_1_1_1_1_1_1_1_0_1_0 (call : CallA) (n : Nat) (l1_1_1_1_1_1_1_1_0_1_0 : Int → AV → Option Pos → Option Pos → Int → AS → Option (AV × AS)) (j1_1_1_1_1_1_1_1_1 : Option Pos → Option Pos → AS → Option (AV × AS)) (w0 : Int) (w4 : AV) (w5 : Option Pos) (w6 : Option Pos) (w11 : Int) (S : AS) : Option (AV × AS) :=
 cond (decide (w11 < w0)) (
 callI .i64 call 19 [(.ptr w5), (.int .i64 w11)] S fun v32 S31 =>
 callI .i64 call 19 [(.ptr w6), (.int .i64 w11)] S31 fun v34 S33 =>
 cond (v32 != v34) (
 callI .i64 call 19 [(.ptr w5), (.int .i64 w11)] S33 fun v36 S35 =>
 cond (v36 != 4) (
 some ((.bool false), S35)) (
 callI .i64 call 19 [(.ptr w6), (.int .i64 w11)] S35 fun v38 S37 =>
 cond (v38 != 0) (
 some ((.bool false), S37)) (
 l1_1_1_1_1_1_1_1_0_1_0 w0 w4 w5 w6 (IntKind.wrap .i64 (w11 + 1)) S37))) (
 l1_1_1_1_1_1_1_1_0_1_0 w0 w4 w5 w6 (IntKind.wrap .i64 (w11 + 1)) S33)) (
 j1_1_1_1_1_1_1_1_1 w5 w6 S)

def b6_j1_1_1_1_1_1_1_1_1 (call : CallA) (n : Nat)  (w5 : Option Pos) (w6 : Option Pos) (S : AS) : Option (AV × AS) :=
 callL call 16 [(.ptr w5)] S fun v40a v40l v40c S39 =>
 bytesStr S39 v40a v40l fun s41 =>
 callL call 16 [(.ptr w6)] S39 fun v43a v43l v43c S42 =>
 bytesStr S42 v40a v40l fun s44 =>
 cond (AV.beq (.str s44) (.str s41)) (
 bytesStr S42 v43a v43l fun s45 =>
 cond (s41 == s45) (
 callL call 26 [(.ptr w5)] S42 fun v47a v47l v47c S46 =>
 cond (((v47l : Nat) : Int) == 0) (
 callL call 27 [(.ptr w5)] S46 fun v49a v49l v49c S48 =>
 cond (((v49l : Nat) : Int) == 0) (
 callB call 12 [] S48 fun v51 S50 =>
 some ((.bool v51), S50)) (
 some ((.bool false), S48))) (
 some ((.bool false), S46))) (
 some ((.bool false), S42))) none

def b6_entry (call : CallA) (n : Nat) (l1_1_1_1_1_1_0_1_0 : Int → Bool → Option Pos → Option Pos → Int → AS → Option (AV × AS)) (x0 : Int) (x1a : Option Pos) (x1l : Nat) (x1c : Cap) (S : AS) : Option (AV × AS) :=
 cond (decide (((x1l : Nat) : Int) > 80)) (
 callB call 12 [] S fun v2 S1 =>
 some ((.bool v2), S1)) (
 cond (decide (x0 > 200)) (
 callB call 12 [] S fun v4 S3 =>
 some ((.bool v4), S3)) (
 callP call 17 [(.int .i64 x0), (.sl x1a x1l x1c)] S fun v6 S5 =>
 cond v6.isNone (
 cond (decide (x0 < 1)) (
 callB call 12 [] S5 fun v8 S7 =>
 some ((.bool v8), S7)) (
 some ((.bool false), S5))) (
 callL call 16 [(.ptr v6)] S5 fun v10a v10l v10c S9 =>
 callT call 24 [(.int .i64 x0), (.sl v10a v10l v10c)] S9 fun v12 S11 =>
 atP v12 0 fun v13 =>
 atI .i64 v12 1 fun v14 =>
 callI .i64 call 11 [(.int .i64 v14)] S11 fun v16 S15 =>
 cond (v16 != 0) (
 some ((.bool false), S15)) (
 cond v13.isNone (
 some ((.bool false), S15)) (
 callI .i64 call 23 [(.ptr v13)] S15 fun v18 S17 =>
 cond (v18 != 0) (
 some ((.bool false), S17)) (
 l1_1_1_1_1_1_0_1_0 x0 false v6 v13 0 S17))))))

def r6_l1_1_1_1_1_1_0_1_0 (call : CallA) (n : Nat)  (m : Nat) (w0 : Int) (w4 : Bool) (w5 : Option Pos) (w6 : Option Pos) (w8 : Int) (S : AS) : Option (AV × AS) := loopN (evC E call n 6 (E.at 6 [1, 1, 1, 1, 1, 1, 0, 1, 0, 0]) 0) [0, 4, 5, 6, 8] m [(0, (.int .i64 w0)), (4, (.bool w4)), (5, (.ptr w5)), (6, (.ptr w6)), (8, (.int .i64 w8))] S (kBlk 0 (kSeq E call n 6 (E.at 6 [1, 1, 1, 1, 1, 1, 1]) 0 (retK E (E.fn 6))))
def r6_j1_1_1_1_1_1_1 (call : CallA) (n : Nat)  (w0 : Int) (w5 : Option Pos) (w6 : Option Pos) (S : AS) : Option (AV × AS) := evC E call n 6 (E.at 6 [1, 1, 1, 1, 1, 1, 1]) 0 [(0, (.int .i64 w0)), (5, (.ptr w5)), (6, (.ptr w6))] S (retK E (E.fn 6))
def r6_l1_1_1_1_1_1_1_1_0_1_0 (call : CallA) (n : Nat)  (m : Nat) (w0 : Int) (w4 : AV) (w5 : Option Pos) (w6 : Option Pos) (w11 : Int) (S : AS) : Option (AV × AS) := loopN (evC E call n 6 (E.at 6 [1, 1, 1, 1, 1, 1, 1, 1, 0, 1, 0, 0]) 2) [0, 4, 5, 6, 11] m [(0, (.int .i64 w0)), (4, w4), (5, (.ptr w5)), (6, (.ptr w6)), (11, (.int .i64 w11))] S (kBlk 2 (kSeq E call n 6 (E.at 6 [1, 1, 1, 1, 1, 1, 1, 1, 1]) 0 (retK E (E.fn 6))))
def r6_j1_1_1_1_1_1_1_1_1 (call : CallA) (n : Nat)  (w5 : Option Pos) (w6 : Option Pos) (S : AS) : Option (AV × AS) := evC E call n 6 (E.at 6 [1, 1, 1, 1, 1, 1, 1, 1, 1]) 0 [(5, (.ptr w5)), (6, (.ptr w6))] S (retK E (E.fn 6))
theorem a6_l1_1_1_1_1_1_0_1_0 (call : CallA) (n : Nat)  (m : Nat) (w0 : Int) (w4 : Bool) (w5 : Option Pos) (w6 : Option Pos) (w8 : Int) (S : AS) : r6_l1_1_1_1_1_1_0_1_0 call n  (m + 1) w0 w4 w5 w6 w8 S = b6_l1_1_1_1_1_1_0_1_0 call n (r6_l1_1_1_1_1_1_0_1_0 call n  m) (r6_j1_1_1_1_1_1_1 call n ) w0 w4 w5 w6 w8 S := by kernel_rfl
theorem a6_j1_1_1_1_1_1_1 (call : CallA) (n : Nat)  (w0 : Int) (w5 : Option Pos) (w6 : Option Pos) (S : AS) : r6_j1_1_1_1_1_1_1 call n  w0 w5 w6 S = b6_j1_1_1_1_1_1_1 call n (r6_l1_1_1_1_1_1_1_1_0_1_0 call n  n) w0 w5 w6 S := by kernel_rfl
theorem a6_l1_1_1_1_1_1_1_1_0_1_0 (call : CallA) (n : Nat)  (m : Nat) (w0 : Int) (w4 : AV) (w5 : Option Pos) (w6 : Option Pos) (w11 : Int) (S : AS) : r6_l1_1_1_1_1_1_1_1_0_1_0 call n  (m + 1) w0 w4 w5 w6 w11 S = b6_l1_1_1_1_1_1_1_1_0_1_0 call n (r6_l1_1_1_1_1_1_1_1_0_1_0 call n  m) (r6_j1_1_1_1_1_1_1_1_1 call n ) w0 w4 w5 w6 w11 S := by kernel_rfl
theorem a6_j1_1_1_1_1_1_1_1_1 (call : CallA) (n : Nat)  (w5 : Option Pos) (w6 : Option Pos) (S : AS) : r6_j1_1_1_1_1_1_1_1_1 call n  w5 w6 S = b6_j1_1_1_1_1_1_1_1_1 call n  w5 w6 S := by kernel_rfl
theorem a6_entry (call : CallA) (n : Nat) (x0 : Int) (x1a : Option Pos) (x1l : Nat) (x1c : Cap) (S : AS) : evC E call n 6 (E.at 6 []) 0 (enumT 0 [(.int .i64 x0), (.sl x1a x1l x1c)]) S (retK E (E.fn 6)) = b6_entry call n (r6_l1_1_1_1_1_1_0_1_0 call n  n) x0 x1a x1l x1c S := by kernel_rfl
def J6_j1_1_1_1_1_1_1_1_1 (call : CallA) (n : Nat)  (w5 : Option Pos) (w6 : Option Pos) (S : AS) : Option (AV × AS) := b6_j1_1_1_1_1_1_1_1_1 call n  w5 w6 S
theorem h6_j1_1_1_1_1_1_1_1_1 (call : CallA) (n : Nat)  : r6_j1_1_1_1_1_1_1_1_1 call n  = J6_j1_1_1_1_1_1_1_1_1 call n  := by
  funext w5 w6 S
  rw [J6_j1_1_1_1_1_1_1_1_1, a6_j1_1_1_1_1_1_1_1_1]
def J6_l1_1_1_1_1_1_1_1_0_1_0 (call : CallA) (n : Nat)  (m : Nat) : Int → AV → Option Pos → Option Pos → Int → AS → Option (AV × AS) := Nat.rec (motive := fun _ => Int → AV → Option Pos → Option Pos → Int → AS → Option (AV × AS)) (fun _ _ _ _ _ _ => none) (fun _ ih w0 w4 w5 w6 w11 S => b6_l1_1_1_1_1_1_1_1_0_1_0 call n ih (J6_j1_1_1_1_1_1_1_1_1 call n ) w0 w4 w5 w6 w11 S) m
theorem J6_l1_1_1_1_1_1_1_1_0_1_0_succ (call : CallA) (n : Nat)  (m : Nat) (w0 : Int) (w4 : AV) (w5 : Option Pos) (w6 : Option Pos) (w11 : Int) (S : AS) : J6_l1_1_1_1_1_1_1_1_0_1_0 call n  (m + 1) w0 w4 w5 w6 w11 S = b6_l1_1_1_1_1_1_1_1_0_1_0 call n (J6_l1_1_1_1_1_1_1_1_0_1_0 call n  m) (J6_j1_1_1_1_1_1_1_1_1 call n ) w0 w4 w5 w6 w11 S := rfl
theorem h6_l1_1_1_1_1_1_1_1_0_1_0 (call : CallA) (n : Nat)  (m : Nat) : r6_l1_1_1_1_1_1_1_1_0_1_0 call n  m = J6_l1_1_1_1_1_1_1_1_0_1_0 call n  m := by
  induction m with
  | zero => rfl
  | succ m ih =>
    funext w0 w4 w5 w6 w11 S
    rw [J6_l1_1_1_1_1_1_1_1_0_1_0_succ, a6_l1_1_1_1_1_1_1_1_0_1_0, h6_j1_1_1_1_1_1_1_1_1 call n , ih]
def J6_j1_1_1_1_1_1_1 (call : CallA) (n : Nat)  (w0 : Int) (w5 : Option Pos) (w6 : Option Pos) (S : AS) : Option (AV × AS) := b6_j1_1_1_1_1_1_1 call n (J6_l1_1_1_1_1_1_1_1_0_1_0 call n  n) w0 w5 w6 S
theorem h6_j1_1_1_1_1_1_1 (call : CallA) (n : Nat)  : r6_j1_1_1_1_1_1_1 call n  = J6_j1_1_1_1_1_1_1 call n  := by
  funext w0 w5 w6 S
  rw [J6_j1_1_1_1_1_1_1, a6_j1_1_1_1_1_1_1, h6_l1_1_1_1_1_1_1_1_0_1_0 call n  n]
def J6_l1_1_1_1_1_1_0_1_0 (call : CallA) (n : Nat)  (m : Nat) : Int → Bool → Option Pos → Option Pos → Int → AS → Option (AV × AS) := Nat.rec (motive := fun _ => Int → Bool → Option Pos → Option Pos → Int → AS → Option (AV × AS)) (fun _ _ _ _ _ _ => none) (fun _ ih w0 w4 w5 w6 w8 S => b6_l1_1_1_1_1_1_0_1_0 call n ih (J6_j1_1_1_1_1_1_1 call n ) w0 w4 w5 w6 w8 S) m
theorem J6_l1_1_1_1_1_1_0_1_0_succ (call : CallA) (n : Nat)  (m : Nat) (w0 : Int) (w4 : Bool) (w5 : Option Pos) (w6 : Option Pos) (w8 : Int) (S : AS) : J6_l1_1_1_1_1_1_0_1_0 call n  (m + 1) w0 w4 w5 w6 w8 S = b6_l1_1_1_1_1_1_0_1_0 call n (J6_l1_1_1_1_1_1_0_1_0 call n  m) (J6_j1_1_1_1_1_1_1 call n ) w0 w4 w5 w6 w8 S := rfl
theorem h6_l1_1_1_1_1_1_0_1_0 (call : CallA) (n : Nat)  (m : Nat) : r6_l1_1_1_1_1_1_0_1_0 call n  m = J6_l1_1_1_1_1_1_0_1_0 call n  m := by
  induction m with
  | zero => rfl
  | succ m ih =>
    funext w0 w4 w5 w6 w8 S
    rw [J6_l1_1_1_1_1_1_0_1_0_succ, a6_l1_1_1_1_1_1_0_1_0, h6_j1_1_1_1_1_1_1 call n , ih]
def J6 (call : CallA) (n : Nat) (x0 : Int) (x1a : Option Pos) (x1l : Nat) (x1c : Cap) (S : AS) : Option (AV × AS) := b6_entry call n (J6_l1_1_1_1_1_1_0_1_0 call n  n) x0 x1a x1l x1c S
theorem run6 (o : Orc) (n : Nat) (args : List AV) (S : AS) (ho : o 6 args = none) : evF E o (n + 1) (.fn 6) args S = evC E (evF E o n) n 6 (E.at 6 []) 0 (enumT 0 args) S (retK E (E.fn 6)) := by
  rw [evF, ho]; kernel_rfl
theorem J6_eq (call : CallA) (n : Nat) (x0 : Int) (x1a : Option Pos) (x1l : Nat) (x1c : Cap) (S : AS) : evC E call n 6 (E.at 6 []) 0 (enumT 0 [(.int .i64 x0), (.sl x1a x1l x1c)]) S (retK E (E.fn 6)) = J6 call n x0 x1a x1l x1c S := by
  rw [J6, a6_entry, h6_l1_1_1_1_1_1_0_1_0 call n  n]
theorem F6 {o : Orc} (n : Nat) (x0 : Int) (x1a : Option Pos) (x1l : Nat) (x1c : Cap) (S : AS) (ho : ∀ args, o 6 args = none) : evF E o (n + 1) (.fn 6) [(.int .i64 x0), (.sl x1a x1l x1c)] S = J6 (evF E o n) n x0 x1a x1l x1c S := (run6 o n [(.int .i64 x0), (.sl x1a x1l x1c)] S (ho _)).trans (J6_eq _ _ x0 x1a x1l x1c S)
end
end Go.Al
