/- Plain readings of the functions, and that they are what the evaluator does: by program. -/
import Derived.Test.YtmehlagfkmnipaaGrRes
import Derived.Test.YtmehlagfkmnipaaENV
import Derived.KernelRfl
set_option maxRecDepth 100000
set_option linter.unusedVariables false
namespace Go.Dk
open Go.Gr
noncomputable section
def b3_l1_1_1_1_0_1_0 (call : CallA) (n : Nat) (l1_1_1_1_0_1_0 : Int → Bool → Option Pos → Int → AS → Option (AV × AS)) (w0 : Int) (w2 : Bool) (w3 : Option Pos) (w5 : Int) (S : AS) : Option (AV × AS) :=
 cond (decide (w5 < (IntKind.wrap .i64 (4096 + w0)))) (
 callL call 14 [(.int .i64 8), (.int .u8 (IntKind.wrap .u8 w5))] S fun v12a v12l v12c S11 =>
 callI .i64 call 13 [(.ptr w3), (.int .i64 (Int.tmod w5 2)), (.sl v12a v12l v12c)] S11 fun v14 S13 =>
 callI .i64 call 12 [(.int .i64 v14)] S13 fun v16 S15 =>
 cond (!((v16 == 0) == (decide (w5 < 4096)))) (
 some ((.bool false), S15)) (
 cond (v16 != 0) (
 cond (v16 != 6) (
 some ((.bool false), S15)) (
 l1_1_1_1_0_1_0 w0 w2 w3 (IntKind.wrap .i64 (w5 + 1)) S15)) (
 l1_1_1_1_0_1_0 w0 w2 w3 (IntKind.wrap .i64 (w5 + 1)) S15))) (
 callT call 15 [(.ptr w3), (.int .i64 1)] S fun v18 S17 =>
 atL v18 0 fun v19a v19l v19c =>
 atI .i64 v18 1 fun v20 =>
 callL call 16 [(.ptr w3)] S17 fun v22a v22l v22c S21 =>
 cond (((v22l : Nat) : Int) == 4096) (
 bytesStr S21 v19a v19l fun s23 =>
 callL call 14 [(.int .i64 8), (.int .u8 255)] S21 fun v25a v25l v25c S24 =>
 bytesStr S24 v19a v19l fun s26 =>
 cond (AV.beq (.str s26) (.str s23)) (
 bytesStr S24 v25a v25l fun s27 =>
 cond (s23 == s27) (
 callI .i64 call 17 [(.ptr w3)] S24 fun v29 S28 =>
 callI .i64 call 12 [(.int .i64 v29)] S28 fun v31 S30 =>
 cond (v31 == 0) (
 callI .i64 call 18 [(.ptr w3)] S30 fun v33 S32 =>
 cond (v33 == 4096) (
 callL call 14 [(.int .i64 8), (.int .u8 1)] S32 fun v35a v35l v35c S34 =>
 callI .i64 call 13 [(.ptr w3), (.int .i64 0), (.sl v35a v35l v35c)] S34 fun v37 S36 =>
 callI .i64 call 12 [(.int .i64 v37)] S36 fun v39 S38 =>
 cond (v39 == 0) (
 callB call 10 [] S38 fun v41 S40 =>
 some ((.bool v41), S40)) (
 some ((.bool false), S38))) (
 some ((.bool false), S32))) (
 some ((.bool false), S30))) (
 some ((.bool false), S24))) none) (
 some ((.bool false), S21)))

def b3_entry (call : CallA) (n : Nat) (l1_1_1_1_0_1_0 : Int → Bool → Option Pos → Int → AS → Option (AV × AS)) (x0 : Int) (S : AS) : Option (AV × AS) :=
 cond (decide (x0 < 0)) (
 callB call 10 [] S fun v2 S1 =>
 some ((.bool v2), S1)) (
 cond (decide (x0 > 3)) (
 callB call 10 [] S fun v4 S3 =>
 some ((.bool v4), S3)) (
 callT call 11 [(.int .i64 2), (.int .i64 8)] S fun v6 S5 =>
 atP v6 0 fun v7 =>
 atI .i64 v6 1 fun v8 =>
 callI .i64 call 12 [(.int .i64 v8)] S5 fun v10 S9 =>
 cond (v10 != 0) (
 some ((.bool false), S9)) (
 cond v7.isNone (
 some ((.bool false), S9)) (
 l1_1_1_1_0_1_0 x0 false v7 0 S9))))

def r3_l1_1_1_1_0_1_0 (call : CallA) (n : Nat)  (m : Nat) (w0 : Int) (w2 : Bool) (w3 : Option Pos) (w5 : Int) (S : AS) : Option (AV × AS) := loopN (evC E call n 3 (E.at 3 [1, 1, 1, 1, 0, 1, 0, 0]) 0) [0, 2, 3, 5] m [(0, (.int .i64 w0)), (2, (.bool w2)), (3, (.ptr w3)), (5, (.int .i64 w5))] S (kBlk 0 (kSeq E call n 3 (E.at 3 [1, 1, 1, 1, 1]) 0 (retK E (E.fn 3))))
theorem a3_l1_1_1_1_0_1_0 (call : CallA) (n : Nat)  (m : Nat) (w0 : Int) (w2 : Bool) (w3 : Option Pos) (w5 : Int) (S : AS) : r3_l1_1_1_1_0_1_0 call n  (m + 1) w0 w2 w3 w5 S = b3_l1_1_1_1_0_1_0 call n (r3_l1_1_1_1_0_1_0 call n  m) w0 w2 w3 w5 S := by kernel_rfl
theorem a3_entry (call : CallA) (n : Nat) (x0 : Int) (S : AS) : evC E call n 3 (E.at 3 []) 0 (enumT 0 [(.int .i64 x0)]) S (retK E (E.fn 3)) = b3_entry call n (r3_l1_1_1_1_0_1_0 call n  n) x0 S := by kernel_rfl
def J3_l1_1_1_1_0_1_0 (call : CallA) (n : Nat)  (m : Nat) : Int → Bool → Option Pos → Int → AS → Option (AV × AS) := Nat.rec (motive := fun _ => Int → Bool → Option Pos → Int → AS → Option (AV × AS)) (fun _ _ _ _ _ => none) (fun _ ih w0 w2 w3 w5 S => b3_l1_1_1_1_0_1_0 call n ih w0 w2 w3 w5 S) m
theorem J3_l1_1_1_1_0_1_0_succ (call : CallA) (n : Nat)  (m : Nat) (w0 : Int) (w2 : Bool) (w3 : Option Pos) (w5 : Int) (S : AS) : J3_l1_1_1_1_0_1_0 call n  (m + 1) w0 w2 w3 w5 S = b3_l1_1_1_1_0_1_0 call n (J3_l1_1_1_1_0_1_0 call n  m) w0 w2 w3 w5 S := rfl
theorem h3_l1_1_1_1_0_1_0 (call : CallA) (n : Nat)  (m : Nat) : r3_l1_1_1_1_0_1_0 call n  m = J3_l1_1_1_1_0_1_0 call n  m := by
  induction m with
  | zero => rfl
  | succ m ih =>
    funext w0 w2 w3 w5 S
    rw [J3_l1_1_1_1_0_1_0_succ, a3_l1_1_1_1_0_1_0, ih]
def J3 (call : CallA) (n : Nat) (x0 : Int) (S : AS) : Option (AV × AS) := b3_entry call n (J3_l1_1_1_1_0_1_0 call n  n) x0 S
theorem run3 (o : Orc) (n : Nat) (args : List AV) (S : AS) (ho : o 3 args = none) : evF E o (n + 1) (.fn 3) args S = evC E (evF E o n) n 3 (E.at 3 []) 0 (enumT 0 args) S (retK E (E.fn 3)) := by
  rw [evF, ho]; kernel_rfl
theorem J3_eq (call : CallA) (n : Nat) (x0 : Int) (S : AS) : evC E call n 3 (E.at 3 []) 0 (enumT 0 [(.int .i64 x0)]) S (retK E (E.fn 3)) = J3 call n x0 S := by
  rw [J3, a3_entry, h3_l1_1_1_1_0_1_0 call n  n]
theorem F3 {o : Orc} (n : Nat) (x0 : Int) (S : AS) (ho : ∀ args, o 3 args = none) : evF E o (n + 1) (.fn 3) [(.int .i64 x0)] S = J3 (evF E o n) n x0 S := (run3 o n [(.int .i64 x0)] S (ho _)).trans (J3_eq _ _ x0 S)
def b4_entry (call : CallA) (n : Nat)  (x0 : Int) (x1a : Option Pos) (x1l : Nat) (x1c : Cap) (x2a : Option Pos) (x2l : Nat) (x2c : Cap) (S : AS) : Option (AV × AS) :=
 callB call 19 [(.sl x1a x1l x1c)] S fun v2 S1 =>
 cond v2 (
 callB call 10 [] S1 fun v4 S3 =>
 some ((.bool v4), S3)) (
 callB call 19 [(.sl x2a x2l x2c)] S1 fun v6 S5 =>
 cond v6 (
 callB call 10 [] S5 fun v8 S7 =>
 some ((.bool v8), S7)) (
 cond (decide (x0 > 40)) (
 callB call 10 [] S5 fun v10 S9 =>
 some ((.bool v10), S9)) (
 callT call 20 [(.int .i64 x0), (.sl x1a x1l x1c)] S5 fun v12 S11 =>
 atP v12 0 fun v13 =>
 atP v12 1 fun v14 =>
 callT call 20 [(.int .i64 x0), (.sl x2a x2l x2c)] S11 fun v16 S15 =>
 atP v16 0 fun v17 =>
 atP v16 1 fun v18 =>
 cond v13.isNone (
 cond (decide (x0 < 1)) (
 callB call 10 [] S15 fun v20 S19 =>
 some ((.bool v20), S19)) (
 some ((.bool false), S15))) (
 cond v17.isNone (
 cond (decide (x0 < 1)) (
 callB call 10 [] S15 fun v22 S21 =>
 some ((.bool v22), S21)) (
 some ((.bool false), S15))) (
 callB call 21 [(.ptr v13), (.ptr v17)] S15 fun v24 S23 =>
 callB call 22 [(.ptr v14), (.ptr v18)] S23 fun v26 S25 =>
 cond (v24 == v26) (
 callB call 21 [(.ptr v13), (.ptr v13)] S25 fun v28 S27 =>
 cond v28 (
 callB call 10 [] S27 fun v30 S29 =>
 some ((.bool v30), S29)) (
 some ((.bool false), S27))) (
 some ((.bool false), S25)))))))

theorem a4_entry (call : CallA) (n : Nat) (x0 : Int) (x1a : Option Pos) (x1l : Nat) (x1c : Cap) (x2a : Option Pos) (x2l : Nat) (x2c : Cap) (S : AS) : evC E call n 4 (E.at 4 []) 0 (enumT 0 [(.int .i64 x0), (.sl x1a x1l x1c), (.sl x2a x2l x2c)]) S (retK E (E.fn 4)) = b4_entry call n  x0 x1a x1l x1c x2a x2l x2c S := by kernel_rfl
def J4 (call : CallA) (n : Nat) (x0 : Int) (x1a : Option Pos) (x1l : Nat) (x1c : Cap) (x2a : Option Pos) (x2l : Nat) (x2c : Cap) (S : AS) : Option (AV × AS) := b4_entry call n  x0 x1a x1l x1c x2a x2l x2c S
theorem run4 (o : Orc) (n : Nat) (args : List AV) (S : AS) (ho : o 4 args = none) : evF E o (n + 1) (.fn 4) args S = evC E (evF E o n) n 4 (E.at 4 []) 0 (enumT 0 args) S (retK E (E.fn 4)) := by
  rw [evF, ho]; kernel_rfl
theorem J4_eq (call : CallA) (n : Nat) (x0 : Int) (x1a : Option Pos) (x1l : Nat) (x1c : Cap) (x2a : Option Pos) (x2l : Nat) (x2c : Cap) (S : AS) : evC E call n 4 (E.at 4 []) 0 (enumT 0 [(.int .i64 x0), (.sl x1a x1l x1c), (.sl x2a x2l x2c)]) S (retK E (E.fn 4)) = J4 call n x0 x1a x1l x1c x2a x2l x2c S := by
  rw [J4, a4_entry]
theorem F4 {o : Orc} (n : Nat) (x0 : Int) (x1a : Option Pos) (x1l : Nat) (x1c : Cap) (x2a : Option Pos) (x2l : Nat) (x2c : Cap) (S : AS) (ho : ∀ args, o 4 args = none) : evF E o (n + 1) (.fn 4) [(.int .i64 x0), (.sl x1a x1l x1c), (.sl x2a x2l x2c)] S = J4 (evF E o n) n x0 x1a x1l x1c x2a x2l x2c S := (run4 o n [(.int .i64 x0), (.sl x1a x1l x1c), (.sl x2a x2l x2c)] S (ho _)).trans (J4_eq _ _ x0 x1a x1l x1c x2a x2l x2c S)
def b5_l1_1_1_1_1_1_1_1_1_1_1_1_1_0_1_0 (call : CallA) (n : Nat) (l1_1_1_1_1_1_1_1_1_1_1_1_1_0_1_0_0_1_0_0_1_0_1_0 : Int → Int → Option Pos → Option Pos → Nat → Cap → Option Pos → Nat → Cap → Option Pos → Nat → Cap → Int → Bool → Int → AS → Option (AV × AS)) (j1_1_1_1_1_1_1_1_1_1_1_1_1_1 : Int → Int → Option Pos → Option Pos → Nat → Cap → AS → Option (AV × AS)) (w5 : Int) (w6 : Int) (w7 : Option Pos) (w9a : Option Pos) (w9l : Nat) (w9c : Cap) (w13a : Option Pos) (w13l : Nat) (w13c : Cap) (w14a : Option Pos) (w14l : Nat) (w14c : Cap) (w15 : Int) (S : AS) : Option (AV × AS) :=
 cond (decide (w15 < ((w9l : Nat) : Int))) (
 l1_1_1_1_1_1_1_1_1_1_1_1_1_0_1_0_0_1_0_0_1_0_1_0 w5 w6 w7 w9a w9l w9c w13a w13l w13c w14a w14l w14c w15 false 0 S) (
 j1_1_1_1_1_1_1_1_1_1_1_1_1_1 w5 w6 w7 w14a w14l w14c S)

def b5_l1_1_1_1_1_1_1_1_1_1_1_1_1_0_1_0_0_1_0_0_1_0_1_0 (call : CallA) (n : Nat) (l1_1_1_1_1_1_1_1_1_1_1_1_1_0_1_0_0_1_0_0_1_0_1_0 : Int → Int → Option Pos → Option Pos → Nat → Cap → Option Pos → Nat → Cap → Option Pos → Nat → Cap → Int → Bool → Int → AS → Option (AV × AS)) (j1_1_1_1_1_1_1_1_1_1_1_1_1_0_1_0_0_1_0_0_1_1 : Int → Int → Option Pos → Option Pos → Nat → Cap → Option Pos → Nat → Cap → Option Pos → Nat → Cap → Int → Bool → AS → Option (AV × AS)) (w5 : Int) (w6 : Int) (w7 : Option Pos) (w9a : Option Pos) (w9l : Nat) (w9c : Cap) (w13a : Option Pos) (w13l : Nat) (w13c : Cap) (w14a : Option Pos) (w14l : Nat) (w14c : Cap) (w15 : Int) (w16 : Bool) (w17 : Int) (S : AS) : Option (AV × AS) :=
 cond (decide (w17 < ((w13l : Nat) : Int))) (
 cond w16 (
 l1_1_1_1_1_1_1_1_1_1_1_1_1_0_1_0_0_1_0_0_1_0_1_0 w5 w6 w7 w9a w9l w9c w13a w13l w13c w14a w14l w14c w15 true (IntKind.wrap .i64 (w17 + 1)) S) (
 ixSl 2 w13a w13l w17 fun p50 =>
 ldI .i64 S p50.1 p50.2 fun v51 =>
 ixSl 1 w9a w9l w15 fun p52 =>
 ldI .i64 S p52.1 p52.2 fun v53 =>
 l1_1_1_1_1_1_1_1_1_1_1_1_1_0_1_0_0_1_0_0_1_0_1_0 w5 w6 w7 w9a w9l w9c w13a w13l w13c w14a w14l w14c w15 (v51 == v53) (IntKind.wrap .i64 (w17 + 1)) S)) (
 j1_1_1_1_1_1_1_1_1_1_1_1_1_0_1_0_0_1_0_0_1_1 w5 w6 w7 w9a w9l w9c w13a w13l w13c w14a w14l w14c w15 w16 S)

def b5_j1_1_1_1_1_1_1_1_1_1_1_1_1_1 (call : CallA) (n : Nat)  (w5 : Int) (w6 : Int) (w7 : Option Pos) (w14a : Option Pos) (w14l : Nat) (w14c : Cap) (S : AS) : Option (AV × AS) :=
 callT call 15 [(.ptr w7), (.int .i64 w5)] S fun v55 S54 =>
 atL v55 0 fun v56a v56l v56c =>
 atI .i64 v55 1 fun v57 =>
 callT call 25 [(.ptr w7), (.int .i64 w5)] S54 fun v59 S58 =>
 atL v59 0 fun v60a v60l v60c =>
 atB v59 1 fun v61 =>
 callI .i64 call 12 [(.int .i64 v57)] S58 fun v63 S62 =>
 cond (v63 == 0) (
 bytesStr S62 v56a v56l fun s64 =>
 callL call 14 [(.int .i64 16), (.int .u8 w6)] S62 fun v66a v66l v66c S65 =>
 bytesStr S65 v56a v56l fun s67 =>
 cond (AV.beq (.str s67) (.str s64)) (
 bytesStr S65 v66a v66l fun s68 =>
 cond (s64 == s68) (
 cond v61 (
 bytesStr S65 v60a v60l fun s69 =>
 bytesStr S65 v56a v56l fun s70 =>
 cond (s69 == s70) (
 callL call 23 [(.ptr w7)] S65 fun v72a v72l v72c S71 =>
 callB call 24 [(.sl v72a v72l v72c), (.sl w14a w14l w14c)] S71 fun v74 S73 =>
 cond v74 (
 callB call 10 [] S73 fun v76 S75 =>
 some ((.bool v76), S75)) (
 some ((.bool false), S73))) (
 some ((.bool false), S65))) (
 some ((.bool false), S65))) (
 some ((.bool false), S65))) none) (
 some ((.bool false), S62))

def b5_j1_1_1_1_1_1_1_1_1_1_1_1_1_0_1_0_0_1_0_0_1_1 (call : CallA) (n : Nat) (j1_1_1_1_1_1_1_1_1_1_1_1_1_0_1_0_0_1_1 : Int → Int → Option Pos → Option Pos → Nat → Cap → Option Pos → Nat → Cap → Option Pos → Nat → Cap → Int → AS → Option (AV × AS)) (w5 : Int) (w6 : Int) (w7 : Option Pos) (w9a : Option Pos) (w9l : Nat) (w9c : Cap) (w13a : Option Pos) (w13l : Nat) (w13c : Cap) (w14a : Option Pos) (w14l : Nat) (w14c : Cap) (w15 : Int) (w16 : Bool) (S : AS) : Option (AV × AS) :=
 cond (!w16) (
 ixSl 1 w9a w9l w15 fun p77 =>
 ldI .i64 S p77.1 p77.2 fun v78 =>
 newA S (.cells [(.int .i64 v78)]) fun b79 S80 =>
 appendA 1 8 S80 w14a w14l w14c 1 (firstA S80 1 1 (.sl (some (.rw b79, 0)) 1 (.ex 1))) fun v81a v81l v81c S82 =>
 j1_1_1_1_1_1_1_1_1_1_1_1_1_0_1_0_0_1_1 w5 w6 w7 w9a w9l w9c w13a w13l w13c v81a v81l v81c w15 S82) (
 j1_1_1_1_1_1_1_1_1_1_1_1_1_0_1_0_0_1_1 w5 w6 w7 w9a w9l w9c w13a w13l w13c w14a w14l w14c w15 S)

def b5_j1_1_1_1_1_1_1_1_1_1_1_1_1_0_1_0_0_1_1 (call : CallA) (n : Nat) (l1_1_1_1_1_1_1_1_1_1_1_1_1_0_1_0 : Int → Int → Option Pos → Option Pos → Nat → Cap → Option Pos → Nat → Cap → Option Pos → Nat → Cap → Int → AS → Option (AV × AS)) (w5 : Int) (w6 : Int) (w7 : Option Pos) (w9a : Option Pos) (w9l : Nat) (w9c : Cap) (w13a : Option Pos) (w13l : Nat) (w13c : Cap) (w14a : Option Pos) (w14l : Nat) (w14c : Cap) (w15 : Int) (S : AS) : Option (AV × AS) :=
 l1_1_1_1_1_1_1_1_1_1_1_1_1_0_1_0 w5 w6 w7 w9a w9l w9c w13a w13l w13c w14a w14l w14c (IntKind.wrap .i64 (w15 + 1)) S

def b5_entry (call : CallA) (n : Nat) (l1_1_1_1_1_1_1_1_1_1_1_1_1_0_1_0 : Int → Int → Option Pos → Option Pos → Nat → Cap → Option Pos → Nat → Cap → Option Pos → Nat → Cap → Int → AS → Option (AV × AS)) (x0 : List AV) (S : AS) : Option (AV × AS) :=
 ifO (x0.length = 4) <|
 newA S (.cells x0) fun b1 S2 =>
 ldI .i64 S2 (.rw b1) 0 fun v3 =>
 ldL S2 (.rw b1) 1 fun v4a v4l v4c =>
 ldI .i64 S2 (.rw b1) 2 fun v5 =>
 ldI .u8 S2 (.rw b1) 3 fun v6 =>
 callB call 19 [(.sl v4a v4l v4c)] S2 fun v8 S7 =>
 cond v8 (
 callB call 10 [] S7 fun v10 S9 =>
 some ((.bool v10), S9)) (
 cond (decide (v3 > 40)) (
 callB call 10 [] S7 fun v12 S11 =>
 some ((.bool v12), S11)) (
 callT call 20 [(.int .i64 v3), (.sl v4a v4l v4c)] S7 fun v14 S13 =>
 atP v14 0 fun v15 =>
 atP v14 1 fun v16 =>
 cond v15.isNone (
 callB call 10 [] S13 fun v18 S17 =>
 some ((.bool v18), S17)) (
 callL call 23 [(.ptr v15)] S13 fun v20a v20l v20c S19 =>
 callL call 14 [(.int .i64 16), (.int .u8 v6)] S19 fun v22a v22l v22c S21 =>
 callI .i64 call 13 [(.ptr v15), (.int .i64 v5), (.sl v22a v22l v22c)] S21 fun v24 S23 =>
 callI .i64 call 12 [(.int .i64 v24)] S23 fun v26 S25 =>
 cond (v26 != 0) (
 callB call 10 [] S25 fun v28 S27 =>
 some ((.bool v28), S27)) (
 callT call 15 [(.ptr v15), (.int .i64 v5)] S25 fun v30 S29 =>
 atL v30 0 fun v31a v31l v31c =>
 atI .i64 v30 1 fun v32 =>
 callI .i64 call 12 [(.int .i64 v32)] S29 fun v34 S33 =>
 cond (v34 != 0) (
 some ((.bool false), S33)) (
 bytesStr S33 v31a v31l fun s35 =>
 callL call 14 [(.int .i64 16), (.int .u8 v6)] S33 fun v37a v37l v37c S36 =>
 bytesStr S36 v31a v31l fun s38 =>
 cond (AV.beq (.str s38) (.str s35)) (
 bytesStr S36 v37a v37l fun s39 =>
 cond (!(s35 == s39)) (
 some ((.bool false), S36)) (
 callL call 23 [(.ptr v15)] S36 fun v41a v41l v41c S40 =>
 callB call 24 [(.sl v41a v41l v41c), (.sl v20a v20l v20c)] S40 fun v43 S42 =>
 cond (!v43) (
 some ((.bool false), S42)) (
 callL call 16 [(.ptr v15)] S42 fun v45a v45l v45c S44 =>
 callI .i64 call 17 [(.ptr v15)] S44 fun v47 S46 =>
 callI .i64 call 12 [(.int .i64 v47)] S46 fun v49 S48 =>
 cond (v49 != 0) (
 some ((.bool false), S48)) (
 l1_1_1_1_1_1_1_1_1_1_1_1_1_0_1_0 v5 v6 v15 v20a v20l v20c v45a v45l v45c none 0 (.ex 0) 0 S48)))) none)))))

def r5_l1_1_1_1_1_1_1_1_1_1_1_1_1_0_1_0 (call : CallA) (n : Nat)  (m : Nat) (w5 : Int) (w6 : Int) (w7 : Option Pos) (w9a : Option Pos) (w9l : Nat) (w9c : Cap) (w13a : Option Pos) (w13l : Nat) (w13c : Cap) (w14a : Option Pos) (w14l : Nat) (w14c : Cap) (w15 : Int) (S : AS) : Option (AV × AS) := loopN (evC E call n 5 (E.at 5 [1, 1, 1, 1, 1, 1, 1, 1, 1, 1, 1, 1, 1, 0, 1, 0, 0]) 0) [5, 6, 7, 9, 13, 14, 15] m [(5, (.int .i64 w5)), (6, (.int .u8 w6)), (7, (.ptr w7)), (9, (.sl w9a w9l w9c)), (13, (.sl w13a w13l w13c)), (14, (.sl w14a w14l w14c)), (15, (.int .i64 w15))] S (kBlk 0 (kSeq E call n 5 (E.at 5 [1, 1, 1, 1, 1, 1, 1, 1, 1, 1, 1, 1, 1, 1]) 0 (retK E (E.fn 5))))
def r5_l1_1_1_1_1_1_1_1_1_1_1_1_1_0_1_0_0_1_0_0_1_0_1_0 (call : CallA) (n : Nat) (m1_1_1_1_1_1_1_1_1_1_1_1_1_0_1_0 : Nat) (m : Nat) (w5 : Int) (w6 : Int) (w7 : Option Pos) (w9a : Option Pos) (w9l : Nat) (w9c : Cap) (w13a : Option Pos) (w13l : Nat) (w13c : Cap) (w14a : Option Pos) (w14l : Nat) (w14c : Cap) (w15 : Int) (w16 : Bool) (w17 : Int) (S : AS) : Option (AV × AS) := loopN (evC E call n 5 (E.at 5 [1, 1, 1, 1, 1, 1, 1, 1, 1, 1, 1, 1, 1, 0, 1, 0, 0, 1, 0, 0, 1, 0, 1, 0, 0]) 2) [5, 6, 7, 9, 13, 14, 15, 16, 17] m [(5, (.int .i64 w5)), (6, (.int .u8 w6)), (7, (.ptr w7)), (9, (.sl w9a w9l w9c)), (13, (.sl w13a w13l w13c)), (14, (.sl w14a w14l w14c)), (15, (.int .i64 w15)), (16, (.bool w16)), (17, (.int .i64 w17))] S (kBlk 2 (kSeq E call n 5 (E.at 5 [1, 1, 1, 1, 1, 1, 1, 1, 1, 1, 1, 1, 1, 0, 1, 0, 0, 1, 0, 0, 1, 1]) 1 (kBlk 1 (kSeq E call n 5 (E.at 5 [1, 1, 1, 1, 1, 1, 1, 1, 1, 1, 1, 1, 1, 0, 1, 0, 0, 1, 1]) 0 (kLp (evC E call n 5 (E.at 5 [1, 1, 1, 1, 1, 1, 1, 1, 1, 1, 1, 1, 1, 0, 1, 0, 0]) 0) [5, 6, 7, 9, 13, 14, 15] m1_1_1_1_1_1_1_1_1_1_1_1_1_0_1_0 (kBlk 0 (kSeq E call n 5 (E.at 5 [1, 1, 1, 1, 1, 1, 1, 1, 1, 1, 1, 1, 1, 1]) 0 (retK E (E.fn 5)))))))))
def r5_j1_1_1_1_1_1_1_1_1_1_1_1_1_1 (call : CallA) (n : Nat)  (w5 : Int) (w6 : Int) (w7 : Option Pos) (w14a : Option Pos) (w14l : Nat) (w14c : Cap) (S : AS) : Option (AV × AS) := evC E call n 5 (E.at 5 [1, 1, 1, 1, 1, 1, 1, 1, 1, 1, 1, 1, 1, 1]) 0 [(5, (.int .i64 w5)), (6, (.int .u8 w6)), (7, (.ptr w7)), (14, (.sl w14a w14l w14c))] S (retK E (E.fn 5))
def r5_j1_1_1_1_1_1_1_1_1_1_1_1_1_0_1_0_0_1_0_0_1_1 (call : CallA) (n : Nat) (m1_1_1_1_1_1_1_1_1_1_1_1_1_0_1_0 : Nat) (w5 : Int) (w6 : Int) (w7 : Option Pos) (w9a : Option Pos) (w9l : Nat) (w9c : Cap) (w13a : Option Pos) (w13l : Nat) (w13c : Cap) (w14a : Option Pos) (w14l : Nat) (w14c : Cap) (w15 : Int) (w16 : Bool) (S : AS) : Option (AV × AS) := evC E call n 5 (E.at 5 [1, 1, 1, 1, 1, 1, 1, 1, 1, 1, 1, 1, 1, 0, 1, 0, 0, 1, 0, 0, 1, 1]) 1 [(5, (.int .i64 w5)), (6, (.int .u8 w6)), (7, (.ptr w7)), (9, (.sl w9a w9l w9c)), (13, (.sl w13a w13l w13c)), (14, (.sl w14a w14l w14c)), (15, (.int .i64 w15)), (16, (.bool w16))] S (kBlk 1 (kSeq E call n 5 (E.at 5 [1, 1, 1, 1, 1, 1, 1, 1, 1, 1, 1, 1, 1, 0, 1, 0, 0, 1, 1]) 0 (kLp (evC E call n 5 (E.at 5 [1, 1, 1, 1, 1, 1, 1, 1, 1, 1, 1, 1, 1, 0, 1, 0, 0]) 0) [5, 6, 7, 9, 13, 14, 15] m1_1_1_1_1_1_1_1_1_1_1_1_1_0_1_0 (kBlk 0 (kSeq E call n 5 (E.at 5 [1, 1, 1, 1, 1, 1, 1, 1, 1, 1, 1, 1, 1, 1]) 0 (retK E (E.fn 5)))))))
def r5_j1_1_1_1_1_1_1_1_1_1_1_1_1_0_1_0_0_1_1 (call : CallA) (n : Nat) (m1_1_1_1_1_1_1_1_1_1_1_1_1_0_1_0 : Nat) (w5 : Int) (w6 : Int) (w7 : Option Pos) (w9a : Option Pos) (w9l : Nat) (w9c : Cap) (w13a : Option Pos) (w13l : Nat) (w13c : Cap) (w14a : Option Pos) (w14l : Nat) (w14c : Cap) (w15 : Int) (S : AS) : Option (AV × AS) := evC E call n 5 (E.at 5 [1, 1, 1, 1, 1, 1, 1, 1, 1, 1, 1, 1, 1, 0, 1, 0, 0, 1, 1]) 0 [(5, (.int .i64 w5)), (6, (.int .u8 w6)), (7, (.ptr w7)), (9, (.sl w9a w9l w9c)), (13, (.sl w13a w13l w13c)), (14, (.sl w14a w14l w14c)), (15, (.int .i64 w15))] S (kLp (evC E call n 5 (E.at 5 [1, 1, 1, 1, 1, 1, 1, 1, 1, 1, 1, 1, 1, 0, 1, 0, 0]) 0) [5, 6, 7, 9, 13, 14, 15] m1_1_1_1_1_1_1_1_1_1_1_1_1_0_1_0 (kBlk 0 (kSeq E call n 5 (E.at 5 [1, 1, 1, 1, 1, 1, 1, 1, 1, 1, 1, 1, 1, 1]) 0 (retK E (E.fn 5)))))
theorem a5_l1_1_1_1_1_1_1_1_1_1_1_1_1_0_1_0 (call : CallA) (n : Nat)  (m : Nat) (w5 : Int) (w6 : Int) (w7 : Option Pos) (w9a : Option Pos) (w9l : Nat) (w9c : Cap) (w13a : Option Pos) (w13l : Nat) (w13c : Cap) (w14a : Option Pos) (w14l : Nat) (w14c : Cap) (w15 : Int) (S : AS) : r5_l1_1_1_1_1_1_1_1_1_1_1_1_1_0_1_0 call n  (m + 1) w5 w6 w7 w9a w9l w9c w13a w13l w13c w14a w14l w14c w15 S = b5_l1_1_1_1_1_1_1_1_1_1_1_1_1_0_1_0 call n (r5_l1_1_1_1_1_1_1_1_1_1_1_1_1_0_1_0_0_1_0_0_1_0_1_0 call n m n) (r5_j1_1_1_1_1_1_1_1_1_1_1_1_1_1 call n ) w5 w6 w7 w9a w9l w9c w13a w13l w13c w14a w14l w14c w15 S := by kernel_rfl
theorem a5_l1_1_1_1_1_1_1_1_1_1_1_1_1_0_1_0_0_1_0_0_1_0_1_0 (call : CallA) (n : Nat) (m1_1_1_1_1_1_1_1_1_1_1_1_1_0_1_0 : Nat) (m : Nat) (w5 : Int) (w6 : Int) (w7 : Option Pos) (w9a : Option Pos) (w9l : Nat) (w9c : Cap) (w13a : Option Pos) (w13l : Nat) (w13c : Cap) (w14a : Option Pos) (w14l : Nat) (w14c : Cap) (w15 : Int) (w16 : Bool) (w17 : Int) (S : AS) : r5_l1_1_1_1_1_1_1_1_1_1_1_1_1_0_1_0_0_1_0_0_1_0_1_0 call n m1_1_1_1_1_1_1_1_1_1_1_1_1_0_1_0 (m + 1) w5 w6 w7 w9a w9l w9c w13a w13l w13c w14a w14l w14c w15 w16 w17 S = b5_l1_1_1_1_1_1_1_1_1_1_1_1_1_0_1_0_0_1_0_0_1_0_1_0 call n (r5_l1_1_1_1_1_1_1_1_1_1_1_1_1_0_1_0_0_1_0_0_1_0_1_0 call n m1_1_1_1_1_1_1_1_1_1_1_1_1_0_1_0 m) (r5_j1_1_1_1_1_1_1_1_1_1_1_1_1_0_1_0_0_1_0_0_1_1 call n m1_1_1_1_1_1_1_1_1_1_1_1_1_0_1_0) w5 w6 w7 w9a w9l w9c w13a w13l w13c w14a w14l w14c w15 w16 w17 S := by kernel_rfl
theorem a5_j1_1_1_1_1_1_1_1_1_1_1_1_1_1 (call : CallA) (n : Nat)  (w5 : Int) (w6 : Int) (w7 : Option Pos) (w14a : Option Pos) (w14l : Nat) (w14c : Cap) (S : AS) : r5_j1_1_1_1_1_1_1_1_1_1_1_1_1_1 call n  w5 w6 w7 w14a w14l w14c S = b5_j1_1_1_1_1_1_1_1_1_1_1_1_1_1 call n  w5 w6 w7 w14a w14l w14c S := by kernel_rfl
theorem a5_j1_1_1_1_1_1_1_1_1_1_1_1_1_0_1_0_0_1_0_0_1_1 (call : CallA) (n : Nat) (m1_1_1_1_1_1_1_1_1_1_1_1_1_0_1_0 : Nat) (w5 : Int) (w6 : Int) (w7 : Option Pos) (w9a : Option Pos) (w9l : Nat) (w9c : Cap) (w13a : Option Pos) (w13l : Nat) (w13c : Cap) (w14a : Option Pos) (w14l : Nat) (w14c : Cap) (w15 : Int) (w16 : Bool) (S : AS) : r5_j1_1_1_1_1_1_1_1_1_1_1_1_1_0_1_0_0_1_0_0_1_1 call n m1_1_1_1_1_1_1_1_1_1_1_1_1_0_1_0 w5 w6 w7 w9a w9l w9c w13a w13l w13c w14a w14l w14c w15 w16 S = b5_j1_1_1_1_1_1_1_1_1_1_1_1_1_0_1_0_0_1_0_0_1_1 call n (r5_j1_1_1_1_1_1_1_1_1_1_1_1_1_0_1_0_0_1_1 call n m1_1_1_1_1_1_1_1_1_1_1_1_1_0_1_0) w5 w6 w7 w9a w9l w9c w13a w13l w13c w14a w14l w14c w15 w16 S := by kernel_rfl
theorem a5_j1_1_1_1_1_1_1_1_1_1_1_1_1_0_1_0_0_1_1 (call : CallA) (n : Nat) (m1_1_1_1_1_1_1_1_1_1_1_1_1_0_1_0 : Nat) (w5 : Int) (w6 : Int) (w7 : Option Pos) (w9a : Option Pos) (w9l : Nat) (w9c : Cap) (w13a : Option Pos) (w13l : Nat) (w13c : Cap) (w14a : Option Pos) (w14l : Nat) (w14c : Cap) (w15 : Int) (S : AS) : r5_j1_1_1_1_1_1_1_1_1_1_1_1_1_0_1_0_0_1_1 call n m1_1_1_1_1_1_1_1_1_1_1_1_1_0_1_0 w5 w6 w7 w9a w9l w9c w13a w13l w13c w14a w14l w14c w15 S = b5_j1_1_1_1_1_1_1_1_1_1_1_1_1_0_1_0_0_1_1 call n (r5_l1_1_1_1_1_1_1_1_1_1_1_1_1_0_1_0 call n  m1_1_1_1_1_1_1_1_1_1_1_1_1_0_1_0) w5 w6 w7 w9a w9l w9c w13a w13l w13c w14a w14l w14c w15 S := by kernel_rfl
theorem a5_entry (call : CallA) (n : Nat) (x0 : List AV) (S : AS) : evC E call n 5 (E.at 5 []) 0 (enumT 0 [(.agg x0)]) S (retK E (E.fn 5)) = b5_entry call n (r5_l1_1_1_1_1_1_1_1_1_1_1_1_1_0_1_0 call n  n) x0 S := by kernel_rfl
def J5_j1_1_1_1_1_1_1_1_1_1_1_1_1_0_1_0_0_1_1 (call : CallA) (n : Nat) (n1_1_1_1_1_1_1_1_1_1_1_1_1_0_1_0 : Int → Int → Option Pos → Option Pos → Nat → Cap → Option Pos → Nat → Cap → Option Pos → Nat → Cap → Int → AS → Option (AV × AS)) (w5 : Int) (w6 : Int) (w7 : Option Pos) (w9a : Option Pos) (w9l : Nat) (w9c : Cap) (w13a : Option Pos) (w13l : Nat) (w13c : Cap) (w14a : Option Pos) (w14l : Nat) (w14c : Cap) (w15 : Int) (S : AS) : Option (AV × AS) := b5_j1_1_1_1_1_1_1_1_1_1_1_1_1_0_1_0_0_1_1 call n n1_1_1_1_1_1_1_1_1_1_1_1_1_0_1_0 w5 w6 w7 w9a w9l w9c w13a w13l w13c w14a w14l w14c w15 S
theorem h5_j1_1_1_1_1_1_1_1_1_1_1_1_1_0_1_0_0_1_1 (call : CallA) (n : Nat) (m1_1_1_1_1_1_1_1_1_1_1_1_1_0_1_0 : Nat) : r5_j1_1_1_1_1_1_1_1_1_1_1_1_1_0_1_0_0_1_1 call n m1_1_1_1_1_1_1_1_1_1_1_1_1_0_1_0 = J5_j1_1_1_1_1_1_1_1_1_1_1_1_1_0_1_0_0_1_1 call n (r5_l1_1_1_1_1_1_1_1_1_1_1_1_1_0_1_0 call n  m1_1_1_1_1_1_1_1_1_1_1_1_1_0_1_0) := by
  funext w5 w6 w7 w9a w9l w9c w13a w13l w13c w14a w14l w14c w15 S
  rw [J5_j1_1_1_1_1_1_1_1_1_1_1_1_1_0_1_0_0_1_1, a5_j1_1_1_1_1_1_1_1_1_1_1_1_1_0_1_0_0_1_1]
def J5_j1_1_1_1_1_1_1_1_1_1_1_1_1_0_1_0_0_1_0_0_1_1 (call : CallA) (n : Nat) (n1_1_1_1_1_1_1_1_1_1_1_1_1_0_1_0 : Int → Int → Option Pos → Option Pos → Nat → Cap → Option Pos → Nat → Cap → Option Pos → Nat → Cap → Int → AS → Option (AV × AS)) (w5 : Int) (w6 : Int) (w7 : Option Pos) (w9a : Option Pos) (w9l : Nat) (w9c : Cap) (w13a : Option Pos) (w13l : Nat) (w13c : Cap) (w14a : Option Pos) (w14l : Nat) (w14c : Cap) (w15 : Int) (w16 : Bool) (S : AS) : Option (AV × AS) := b5_j1_1_1_1_1_1_1_1_1_1_1_1_1_0_1_0_0_1_0_0_1_1 call n (J5_j1_1_1_1_1_1_1_1_1_1_1_1_1_0_1_0_0_1_1 call n n1_1_1_1_1_1_1_1_1_1_1_1_1_0_1_0) w5 w6 w7 w9a w9l w9c w13a w13l w13c w14a w14l w14c w15 w16 S
theorem h5_j1_1_1_1_1_1_1_1_1_1_1_1_1_0_1_0_0_1_0_0_1_1 (call : CallA) (n : Nat) (m1_1_1_1_1_1_1_1_1_1_1_1_1_0_1_0 : Nat) : r5_j1_1_1_1_1_1_1_1_1_1_1_1_1_0_1_0_0_1_0_0_1_1 call n m1_1_1_1_1_1_1_1_1_1_1_1_1_0_1_0 = J5_j1_1_1_1_1_1_1_1_1_1_1_1_1_0_1_0_0_1_0_0_1_1 call n (r5_l1_1_1_1_1_1_1_1_1_1_1_1_1_0_1_0 call n  m1_1_1_1_1_1_1_1_1_1_1_1_1_0_1_0) := by
  funext w5 w6 w7 w9a w9l w9c w13a w13l w13c w14a w14l w14c w15 w16 S
  rw [J5_j1_1_1_1_1_1_1_1_1_1_1_1_1_0_1_0_0_1_0_0_1_1, a5_j1_1_1_1_1_1_1_1_1_1_1_1_1_0_1_0_0_1_0_0_1_1, h5_j1_1_1_1_1_1_1_1_1_1_1_1_1_0_1_0_0_1_1 call n m1_1_1_1_1_1_1_1_1_1_1_1_1_0_1_0]
def J5_l1_1_1_1_1_1_1_1_1_1_1_1_1_0_1_0_0_1_0_0_1_0_1_0 (call : CallA) (n : Nat) (n1_1_1_1_1_1_1_1_1_1_1_1_1_0_1_0 : Int → Int → Option Pos → Option Pos → Nat → Cap → Option Pos → Nat → Cap → Option Pos → Nat → Cap → Int → AS → Option (AV × AS)) (m : Nat) : Int → Int → Option Pos → Option Pos → Nat → Cap → Option Pos → Nat → Cap → Option Pos → Nat → Cap → Int → Bool → Int → AS → Option (AV × AS) := Nat.rec (motive := fun _ => Int → Int → Option Pos → Option Pos → Nat → Cap → Option Pos → Nat → Cap → Option Pos → Nat → Cap → Int → Bool → Int → AS → Option (AV × AS)) (fun _ _ _ _ _ _ _ _ _ _ _ _ _ _ _ _ => none) (fun _ ih w5 w6 w7 w9a w9l w9c w13a w13l w13c w14a w14l w14c w15 w16 w17 S => b5_l1_1_1_1_1_1_1_1_1_1_1_1_1_0_1_0_0_1_0_0_1_0_1_0 call n ih (J5_j1_1_1_1_1_1_1_1_1_1_1_1_1_0_1_0_0_1_0_0_1_1 call n n1_1_1_1_1_1_1_1_1_1_1_1_1_0_1_0) w5 w6 w7 w9a w9l w9c w13a w13l w13c w14a w14l w14c w15 w16 w17 S) m
theorem J5_l1_1_1_1_1_1_1_1_1_1_1_1_1_0_1_0_0_1_0_0_1_0_1_0_succ (call : CallA) (n : Nat) (n1_1_1_1_1_1_1_1_1_1_1_1_1_0_1_0 : Int → Int → Option Pos → Option Pos → Nat → Cap → Option Pos → Nat → Cap → Option Pos → Nat → Cap → Int → AS → Option (AV × AS)) (m : Nat) (w5 : Int) (w6 : Int) (w7 : Option Pos) (w9a : Option Pos) (w9l : Nat) (w9c : Cap) (w13a : Option Pos) (w13l : Nat) (w13c : Cap) (w14a : Option Pos) (w14l : Nat) (w14c : Cap) (w15 : Int) (w16 : Bool) (w17 : Int) (S : AS) : J5_l1_1_1_1_1_1_1_1_1_1_1_1_1_0_1_0_0_1_0_0_1_0_1_0 call n n1_1_1_1_1_1_1_1_1_1_1_1_1_0_1_0 (m + 1) w5 w6 w7 w9a w9l w9c w13a w13l w13c w14a w14l w14c w15 w16 w17 S = b5_l1_1_1_1_1_1_1_1_1_1_1_1_1_0_1_0_0_1_0_0_1_0_1_0 call n (J5_l1_1_1_1_1_1_1_1_1_1_1_1_1_0_1_0_0_1_0_0_1_0_1_0 call n n1_1_1_1_1_1_1_1_1_1_1_1_1_0_1_0 m) (J5_j1_1_1_1_1_1_1_1_1_1_1_1_1_0_1_0_0_1_0_0_1_1 call n n1_1_1_1_1_1_1_1_1_1_1_1_1_0_1_0) w5 w6 w7 w9a w9l w9c w13a w13l w13c w14a w14l w14c w15 w16 w17 S := rfl
theorem h5_l1_1_1_1_1_1_1_1_1_1_1_1_1_0_1_0_0_1_0_0_1_0_1_0 (call : CallA) (n : Nat) (m1_1_1_1_1_1_1_1_1_1_1_1_1_0_1_0 : Nat) (m : Nat) : r5_l1_1_1_1_1_1_1_1_1_1_1_1_1_0_1_0_0_1_0_0_1_0_1_0 call n m1_1_1_1_1_1_1_1_1_1_1_1_1_0_1_0 m = J5_l1_1_1_1_1_1_1_1_1_1_1_1_1_0_1_0_0_1_0_0_1_0_1_0 call n (r5_l1_1_1_1_1_1_1_1_1_1_1_1_1_0_1_0 call n  m1_1_1_1_1_1_1_1_1_1_1_1_1_0_1_0) m := by
  induction m with
  | zero => rfl
  | succ m ih =>
    funext w5 w6 w7 w9a w9l w9c w13a w13l w13c w14a w14l w14c w15 w16 w17 S
    rw [J5_l1_1_1_1_1_1_1_1_1_1_1_1_1_0_1_0_0_1_0_0_1_0_1_0_succ, a5_l1_1_1_1_1_1_1_1_1_1_1_1_1_0_1_0_0_1_0_0_1_0_1_0, h5_j1_1_1_1_1_1_1_1_1_1_1_1_1_0_1_0_0_1_0_0_1_1 call n m1_1_1_1_1_1_1_1_1_1_1_1_1_0_1_0, ih]
def J5_j1_1_1_1_1_1_1_1_1_1_1_1_1_1 (call : CallA) (n : Nat)  (w5 : Int) (w6 : Int) (w7 : Option Pos) (w14a : Option Pos) (w14l : Nat) (w14c : Cap) (S : AS) : Option (AV × AS) := b5_j1_1_1_1_1_1_1_1_1_1_1_1_1_1 call n  w5 w6 w7 w14a w14l w14c S
theorem h5_j1_1_1_1_1_1_1_1_1_1_1_1_1_1 (call : CallA) (n : Nat)  : r5_j1_1_1_1_1_1_1_1_1_1_1_1_1_1 call n  = J5_j1_1_1_1_1_1_1_1_1_1_1_1_1_1 call n  := by
  funext w5 w6 w7 w14a w14l w14c S
  rw [J5_j1_1_1_1_1_1_1_1_1_1_1_1_1_1, a5_j1_1_1_1_1_1_1_1_1_1_1_1_1_1]
def J5_l1_1_1_1_1_1_1_1_1_1_1_1_1_0_1_0 (call : CallA) (n : Nat)  (m : Nat) : Int → Int → Option Pos → Option Pos → Nat → Cap → Option Pos → Nat → Cap → Option Pos → Nat → Cap → Int → AS → Option (AV × AS) := Nat.rec (motive := fun _ => Int → Int → Option Pos → Option Pos → Nat → Cap → Option Pos → Nat → Cap → Option Pos → Nat → Cap → Int → AS → Option (AV × AS)) (fun _ _ _ _ _ _ _ _ _ _ _ _ _ _ => none) (fun _ ih w5 w6 w7 w9a w9l w9c w13a w13l w13c w14a w14l w14c w15 S => b5_l1_1_1_1_1_1_1_1_1_1_1_1_1_0_1_0 call n (J5_l1_1_1_1_1_1_1_1_1_1_1_1_1_0_1_0_0_1_0_0_1_0_1_0 call n ih n) (J5_j1_1_1_1_1_1_1_1_1_1_1_1_1_1 call n ) w5 w6 w7 w9a w9l w9c w13a w13l w13c w14a w14l w14c w15 S) m
theorem J5_l1_1_1_1_1_1_1_1_1_1_1_1_1_0_1_0_succ (call : CallA) (n : Nat)  (m : Nat) (w5 : Int) (w6 : Int) (w7 : Option Pos) (w9a : Option Pos) (w9l : Nat) (w9c : Cap) (w13a : Option Pos) (w13l : Nat) (w13c : Cap) (w14a : Option Pos) (w14l : Nat) (w14c : Cap) (w15 : Int) (S : AS) : J5_l1_1_1_1_1_1_1_1_1_1_1_1_1_0_1_0 call n  (m + 1) w5 w6 w7 w9a w9l w9c w13a w13l w13c w14a w14l w14c w15 S = b5_l1_1_1_1_1_1_1_1_1_1_1_1_1_0_1_0 call n (J5_l1_1_1_1_1_1_1_1_1_1_1_1_1_0_1_0_0_1_0_0_1_0_1_0 call n (J5_l1_1_1_1_1_1_1_1_1_1_1_1_1_0_1_0 call n  m) n) (J5_j1_1_1_1_1_1_1_1_1_1_1_1_1_1 call n ) w5 w6 w7 w9a w9l w9c w13a w13l w13c w14a w14l w14c w15 S := rfl
theorem h5_l1_1_1_1_1_1_1_1_1_1_1_1_1_0_1_0 (call : CallA) (n : Nat)  (m : Nat) : r5_l1_1_1_1_1_1_1_1_1_1_1_1_1_0_1_0 call n  m = J5_l1_1_1_1_1_1_1_1_1_1_1_1_1_0_1_0 call n  m := by
  induction m with
  | zero => rfl
  | succ m ih =>
    funext w5 w6 w7 w9a w9l w9c w13a w13l w13c w14a w14l w14c w15 S
    rw [J5_l1_1_1_1_1_1_1_1_1_1_1_1_1_0_1_0_succ, a5_l1_1_1_1_1_1_1_1_1_1_1_1_1_0_1_0, h5_l1_1_1_1_1_1_1_1_1_1_1_1_1_0_1_0_0_1_0_0_1_0_1_0 call n m n, h5_j1_1_1_1_1_1_1_1_1_1_1_1_1_1 call n , ih]
def J5 (call : CallA) (n : Nat) (x0 : List AV) (S : AS) : Option (AV × AS) := b5_entry call n (J5_l1_1_1_1_1_1_1_1_1_1_1_1_1_0_1_0 call n  n) x0 S
theorem run5 (o : Orc) (n : Nat) (args : List AV) (S : AS) (ho : o 5 args = none) : evF E o (n + 1) (.fn 5) args S = evC E (evF E o n) n 5 (E.at 5 []) 0 (enumT 0 args) S (retK E (E.fn 5)) := by
  rw [evF, ho]; kernel_rfl
theorem J5_eq (call : CallA) (n : Nat) (x0 : List AV) (S : AS) : evC E call n 5 (E.at 5 []) 0 (enumT 0 [(.agg x0)]) S (retK E (E.fn 5)) = J5 call n x0 S := by
  rw [J5, a5_entry, h5_l1_1_1_1_1_1_1_1_1_1_1_1_1_0_1_0 call n  n]
theorem F5 {o : Orc} (n : Nat) (x0 : List AV) (S : AS) (ho : ∀ args, o 5 args = none) : evF E o (n + 1) (.fn 5) [(.agg x0)] S = J5 (evF E o n) n x0 S := (run5 o n [(.agg x0)] S (ho _)).trans (J5_eq _ _ x0 S)
def b6_l1_1_1_1_1_1_1_1_1_1_1_0_1_0 (call : CallA) (n : Nat) (l1_1_1_1_1_1_1_1_1_1_1_0_1_0 : Bool → Int → Int → Option Pos → Option Pos → Int → AS → Option (AV × AS)) (j1_1_1_1_1_1_1_1_1_1_1_1 : Option Pos → Option Pos → AS → Option (AV × AS)) (w2 : Bool) (w3 : Int) (w5 : Int) (w8 : Option Pos) (w10 : Option Pos) (w12 : Int) (S : AS) : Option (AV × AS) :=
 cond (decide (w12 < w3)) (
 callT call 25 [(.ptr w10), (.int .i64 w12)] S fun v43 S42 =>
 atL v43 0 fun v44a v44l v44c =>
 atB v43 1 fun v45 =>
 callT call 25 [(.ptr w8), (.int .i64 w12)] S42 fun v47 S46 =>
 atL v47 0 fun v48a v48l v48c =>
 atB v47 1 fun v49 =>
 bytesStr S46 v44a v44l fun s50 =>
 bytesStr S46 v48a v48l fun s51 =>
 cond ((w12 == w5) == (s50 == s51)) (
 some ((.bool false), S46)) (
 l1_1_1_1_1_1_1_1_1_1_1_0_1_0 w2 w3 w5 w8 w10 (IntKind.wrap .i64 (w12 + 1)) S46)) (
 j1_1_1_1_1_1_1_1_1_1_1_1 w8 w10 S)

def b6_j1_1_1_1_1_1_1_1_1_1_1_1 (call : CallA) (n : Nat)  (w8 : Option Pos) (w10 : Option Pos) (S : AS) : Option (AV × AS) :=
 callL call 16 [(.ptr w8)] S fun v53a v53l v53c S52 =>
 callL call 16 [(.ptr w10)] S52 fun v55a v55l v55c S54 =>
 callB call 30 [(.sl v53a v53l v53c), (.sl v55a v55l v55c)] S54 fun v57 S56 =>
 cond v57 (
 callB call 10 [] S56 fun v59 S58 =>
 some ((.bool v59), S58)) (
 some ((.bool false), S56))

def b6_entry (call : CallA) (n : Nat) (l1_1_1_1_1_1_1_1_1_1_1_0_1_0 : Bool → Int → Int → Option Pos → Option Pos → Int → AS → Option (AV × AS)) (x0 : List AV) (S : AS) : Option (AV × AS) :=
 ifO (x0.length = 5) <|
 newA S (.cells x0) fun b1 S2 =>
 ldI .i64 S2 (.rw b1) 0 fun v3 =>
 ldL S2 (.rw b1) 1 fun v4a v4l v4c =>
 ldI .i64 S2 (.rw b1) 2 fun v5 =>
 ldI .i64 S2 (.rw b1) 3 fun v6 =>
 ldI .u32 S2 (.rw b1) 4 fun v7 =>
 callB call 19 [(.sl v4a v4l v4c)] S2 fun v9 S8 =>
 cond v9 (
 callB call 10 [] S8 fun v11 S10 =>
 some ((.bool v11), S10)) (
 cond (decide (v3 > 40)) (
 callB call 10 [] S8 fun v13 S12 =>
 some ((.bool v13), S12)) (
 callT call 20 [(.int .i64 v3), (.sl v4a v4l v4c)] S8 fun v15 S14 =>
 atP v15 0 fun v16 =>
 atP v15 1 fun v17 =>
 cond v16.isNone (
 callB call 10 [] S14 fun v19 S18 =>
 some ((.bool v19), S18)) (
 callP call 26 [(.ptr v16)] S14 fun v21 S20 =>
 cond v21.isNone (
 some ((.bool false), S20)) (
 callI .i64 call 27 [(.ptr v16), (.int .i64 v5), (.int .i64 v6), (.int .u32 v7)] S20 fun v23 S22 =>
 callI .i64 call 12 [(.int .i64 v23)] S22 fun v25 S24 =>
 callI .i64 call 28 [(.ptr v17), (.int .i64 v5), (.int .i64 v6), (.int .u32 v7)] S24 fun v27 S26 =>
 cond (v25 != v27) (
 some ((.bool false), S26)) (
 callI .i64 call 12 [(.int .i64 v23)] S26 fun v29 S28 =>
 cond (v29 != 0) (
 callB call 21 [(.ptr v16), (.ptr v21)] S28 fun v31 S30 =>
 cond v31 (
 callB call 10 [] S30 fun v33 S32 =>
 some ((.bool v33), S32)) (
 some ((.bool false), S30))) (
 callI .i64 call 27 [(.ptr v16), (.int .i64 v5), (.int .i64 v6), (.int .u32 v7)] S28 fun v35 S34 =>
 callI .i64 call 12 [(.int .i64 v35)] S34 fun v37 S36 =>
 cond (v37 != 8) (
 some ((.bool false), S36)) (
 callI .i64 call 29 [(.ptr v16), (.int .i64 v5)] S36 fun v39 S38 =>
 callI .i64 call 12 [(.int .i64 v39)] S38 fun v41 S40 =>
 cond (v41 != 8) (
 some ((.bool false), S40)) (
 l1_1_1_1_1_1_1_1_1_1_1_0_1_0 false v3 v5 v16 v21 0 S40))))))))

def r6_l1_1_1_1_1_1_1_1_1_1_1_0_1_0 (call : CallA) (n : Nat)  (m : Nat) (w2 : Bool) (w3 : Int) (w5 : Int) (w8 : Option Pos) (w10 : Option Pos) (w12 : Int) (S : AS) : Option (AV × AS) := loopN (evC E call n 6 (E.at 6 [1, 1, 1, 1, 1, 1, 1, 1, 1, 1, 1, 0, 1, 0, 0]) 0) [2, 3, 5, 8, 10, 12] m [(2, (.bool w2)), (3, (.int .i64 w3)), (5, (.int .i64 w5)), (8, (.ptr w8)), (10, (.ptr w10)), (12, (.int .i64 w12))] S (kBlk 0 (kSeq E call n 6 (E.at 6 [1, 1, 1, 1, 1, 1, 1, 1, 1, 1, 1, 1]) 0 (retK E (E.fn 6))))
def r6_j1_1_1_1_1_1_1_1_1_1_1_1 (call : CallA) (n : Nat)  (w8 : Option Pos) (w10 : Option Pos) (S : AS) : Option (AV × AS) := evC E call n 6 (E.at 6 [1, 1, 1, 1, 1, 1, 1, 1, 1, 1, 1, 1]) 0 [(8, (.ptr w8)), (10, (.ptr w10))] S (retK E (E.fn 6))
theorem a6_l1_1_1_1_1_1_1_1_1_1_1_0_1_0 (call : CallA) (n : Nat)  (m : Nat) (w2 : Bool) (w3 : Int) (w5 : Int) (w8 : Option Pos) (w10 : Option Pos) (w12 : Int) (S : AS) : r6_l1_1_1_1_1_1_1_1_1_1_1_0_1_0 call n  (m + 1) w2 w3 w5 w8 w10 w12 S = b6_l1_1_1_1_1_1_1_1_1_1_1_0_1_0 call n (r6_l1_1_1_1_1_1_1_1_1_1_1_0_1_0 call n  m) (r6_j1_1_1_1_1_1_1_1_1_1_1_1 call n ) w2 w3 w5 w8 w10 w12 S := by kernel_rfl
theorem a6_j1_1_1_1_1_1_1_1_1_1_1_1 (call : CallA) (n : Nat)  (w8 : Option Pos) (w10 : Option Pos) (S : AS) : r6_j1_1_1_1_1_1_1_1_1_1_1_1 call n  w8 w10 S = b6_j1_1_1_1_1_1_1_1_1_1_1_1 call n  w8 w10 S := by kernel_rfl
theorem a6_entry (call : CallA) (n : Nat) (x0 : List AV) (S : AS) : evC E call n 6 (E.at 6 []) 0 (enumT 0 [(.agg x0)]) S (retK E (E.fn 6)) = b6_entry call n (r6_l1_1_1_1_1_1_1_1_1_1_1_0_1_0 call n  n) x0 S := by kernel_rfl
def J6_j1_1_1_1_1_1_1_1_1_1_1_1 (call : CallA) (n : Nat)  (w8 : Option Pos) (w10 : Option Pos) (S : AS) : Option (AV × AS) := b6_j1_1_1_1_1_1_1_1_1_1_1_1 call n  w8 w10 S
theorem h6_j1_1_1_1_1_1_1_1_1_1_1_1 (call : CallA) (n : Nat)  : r6_j1_1_1_1_1_1_1_1_1_1_1_1 call n  = J6_j1_1_1_1_1_1_1_1_1_1_1_1 call n  := by
  funext w8 w10 S
  rw [J6_j1_1_1_1_1_1_1_1_1_1_1_1, a6_j1_1_1_1_1_1_1_1_1_1_1_1]
def J6_l1_1_1_1_1_1_1_1_1_1_1_0_1_0 (call : CallA) (n : Nat)  (m : Nat) : Bool → Int → Int → Option Pos → Option Pos → Int → AS → Option (AV × AS) := Nat.rec (motive := fun _ => Bool → Int → Int → Option Pos → Option Pos → Int → AS → Option (AV × AS)) (fun _ _ _ _ _ _ _ => none) (fun _ ih w2 w3 w5 w8 w10 w12 S => b6_l1_1_1_1_1_1_1_1_1_1_1_0_1_0 call n ih (J6_j1_1_1_1_1_1_1_1_1_1_1_1 call n ) w2 w3 w5 w8 w10 w12 S) m
theorem J6_l1_1_1_1_1_1_1_1_1_1_1_0_1_0_succ (call : CallA) (n : Nat)  (m : Nat) (w2 : Bool) (w3 : Int) (w5 : Int) (w8 : Option Pos) (w10 : Option Pos) (w12 : Int) (S : AS) : J6_l1_1_1_1_1_1_1_1_1_1_1_0_1_0 call n  (m + 1) w2 w3 w5 w8 w10 w12 S = b6_l1_1_1_1_1_1_1_1_1_1_1_0_1_0 call n (J6_l1_1_1_1_1_1_1_1_1_1_1_0_1_0 call n  m) (J6_j1_1_1_1_1_1_1_1_1_1_1_1 call n ) w2 w3 w5 w8 w10 w12 S := rfl
theorem h6_l1_1_1_1_1_1_1_1_1_1_1_0_1_0 (call : CallA) (n : Nat)  (m : Nat) : r6_l1_1_1_1_1_1_1_1_1_1_1_0_1_0 call n  m = J6_l1_1_1_1_1_1_1_1_1_1_1_0_1_0 call n  m := by
  induction m with
  | zero => rfl
  | succ m ih =>
    funext w2 w3 w5 w8 w10 w12 S
    rw [J6_l1_1_1_1_1_1_1_1_1_1_1_0_1_0_succ, a6_l1_1_1_1_1_1_1_1_1_1_1_0_1_0, h6_j1_1_1_1_1_1_1_1_1_1_1_1 call n , ih]
def J6 (call : CallA) (n : Nat) (x0 : List AV) (S : AS) : Option (AV × AS) := b6_entry call n (J6_l1_1_1_1_1_1_1_1_1_1_1_0_1_0 call n  n) x0 S
theorem run6 (o : Orc) (n : Nat) (args : List AV) (S : AS) (ho : o 6 args = none) : evF E o (n + 1) (.fn 6) args S = evC E (evF E o n) n 6 (E.at 6 []) 0 (enumT 0 args) S (retK E (E.fn 6)) := by
  rw [evF, ho]; kernel_rfl
theorem J6_eq (call : CallA) (n : Nat) (x0 : List AV) (S : AS) : evC E call n 6 (E.at 6 []) 0 (enumT 0 [(.agg x0)]) S (retK E (E.fn 6)) = J6 call n x0 S := by
  rw [J6, a6_entry, h6_l1_1_1_1_1_1_1_1_1_1_1_0_1_0 call n  n]
theorem F6 {o : Orc} (n : Nat) (x0 : List AV) (S : AS) (ho : ∀ args, o 6 args = none) : evF E o (n + 1) (.fn 6) [(.agg x0)] S = J6 (evF E o n) n x0 S := (run6 o n [(.agg x0)] S (ho _)).trans (J6_eq _ _ x0 S)
end
end Go.Dk
