/- Plain readings of the functions, and that they are what the evaluator does: by program. -/
import Derived.Test.YteakdhikjddogaaDoorGrRes
import Derived.Test.YteakdhikjddogaaDoorENV
import Derived.KernelRfl
set_option maxRecDepth 100000
set_option linter.unusedVariables false
namespace Go.Ct
open Go.Gr
noncomputable section
def b14_l1_1_1_0_1_0 (call : CallA) (n : Nat) (l1_1_1_0_1_0_0_1_0_0_1_0_1_0 : Option Pos → Nat → Cap → Option Pos → Option Pos → Nat → Cap → Bool → Int → Bool → Int → AS → Option (AV × AS)) (w1a : Option Pos) (w1l : Nat) (w1c : Cap) (w2 : Option Pos) (w5a : Option Pos) (w5l : Nat) (w5c : Cap) (w6 : Bool) (w7 : Int) (S : AS) : Option (AV × AS) :=
 cond (decide (w7 < ((w1l : Nat) : Int))) (
 cond w6 (
 l1_1_1_0_1_0_0_1_0_0_1_0_1_0 w1a w1l w1c w2 w5a w5l w5c w6 w7 true 0 S) (
 gO w2 fun p6 =>
 ldI .i64 S p6.1 p6.2 fun v7 =>
 l1_1_1_0_1_0_0_1_0_0_1_0_1_0 w1a w1l w1c w2 w5a w5l w5c w6 w7 (decide ((IntKind.wrap .i64 (((w1l : Nat) : Int) - w7)) ≤ v7)) 0 S)) (
 some ((.sl w5a w5l w5c), S))

def b14_l1_1_1_0_1_0_0_1_0_0_1_0_1_0 (call : CallA) (n : Nat) (l1_1_1_0_1_0_0_1_0_0_1_0_1_0 : Option Pos → Nat → Cap → Option Pos → Option Pos → Nat → Cap → Bool → Int → Bool → Int → AS → Option (AV × AS)) (l1_1_1_0_1_0 : Option Pos → Nat → Cap → Option Pos → Option Pos → Nat → Cap → Bool → Int → AS → Option (AV × AS)) (w1a : Option Pos) (w1l : Nat) (w1c : Cap) (w2 : Option Pos) (w5a : Option Pos) (w5l : Nat) (w5c : Cap) (w6 : Bool) (w7 : Int) (w8 : Bool) (w9 : Int) (S : AS) : Option (AV × AS) :=
 gO w2 fun p8 =>
 ldL S p8.1 (p8.2 + 1) fun v9a v9l v9c =>
 cond (decide (w9 < ((v9l : Nat) : Int))) (
 cond (!w6) (
 cond w8 (
 l1_1_1_0_1_0_0_1_0_0_1_0_1_0 w1a w1l w1c w2 w5a w5l w5c w6 w7 true (IntKind.wrap .i64 (w9 + 1)) S) (
 gO w2 fun p10 =>
 ldL S p10.1 (p10.2 + 1) fun v11a v11l v11c =>
 ixSl 2 v11a v11l w9 fun p12 =>
 S.ldn p12.1 p12.2 2 fun g13 =>
 callB call 35 [(.agg g13), (.sl w1a w1l w1c), (.int .i64 w7)] S fun v15 S14 =>
 l1_1_1_0_1_0_0_1_0_0_1_0_1_0 w1a w1l w1c w2 w5a w5l w5c w6 w7 v15 (IntKind.wrap .i64 (w9 + 1)) S14)) (
 newA S (.cells [(.bool w8)]) fun b16 S17 =>
 appendA 1 1 S17 w5a w5l w5c 1 (firstA S17 1 1 (.sl (some (.rw b16, 0)) 1 (.ex 1))) fun v18a v18l v18c S19 =>
 l1_1_1_0_1_0 w1a w1l w1c w2 v18a v18l v18c w6 (IntKind.wrap .i64 (w7 + 1)) S19)) (
 newA S (.cells [(.bool w8)]) fun b20 S21 =>
 appendA 1 1 S21 w5a w5l w5c 1 (firstA S21 1 1 (.sl (some (.rw b20, 0)) 1 (.ex 1))) fun v22a v22l v22c S23 =>
 l1_1_1_0_1_0 w1a w1l w1c w2 v22a v22l v22c w6 (IntKind.wrap .i64 (w7 + 1)) S23)

def b14_entry (call : CallA) (n : Nat) (l1_1_1_0_1_0 : Option Pos → Nat → Cap → Option Pos → Option Pos → Nat → Cap → Bool → Int → AS → Option (AV × AS)) (x0 : List AV) (x1a : Option Pos) (x1l : Nat) (x1c : Cap) (S : AS) : Option (AV × AS) :=
 ifO (x0.length = 2) <|
 newA S (.cells x0) fun b1 S2 =>
 S2.ldn (.rw b1) 0 2 fun g3 =>
 callI .i64 call 17 [(.agg g3)] S2 fun v5 S4 =>
 l1_1_1_0_1_0 x1a x1l x1c (some ((.rw b1), 0)) none 0 (.ex 0) (v5 != 0) 0 S4

def r14_l1_1_1_0_1_0 (call : CallA) (n : Nat)  (m : Nat) (w1a : Option Pos) (w1l : Nat) (w1c : Cap) (w2 : Option Pos) (w5a : Option Pos) (w5l : Nat) (w5c : Cap) (w6 : Bool) (w7 : Int) (S : AS) : Option (AV × AS) := loopN (evC E call n 14 (E.at 14 [1, 1, 1, 0, 1, 0, 0]) 0) [1, 2, 5, 6, 7] m [(1, (.sl w1a w1l w1c)), (2, (.ptr w2)), (5, (.sl w5a w5l w5c)), (6, (.bool w6)), (7, (.int .i64 w7))] S (kBlk 0 (kSeq E call n 14 (E.at 14 [1, 1, 1, 1]) 0 (retK E (E.fn 14))))
def r14_l1_1_1_0_1_0_0_1_0_0_1_0_1_0 (call : CallA) (n : Nat) (m1_1_1_0_1_0 : Nat) (m : Nat) (w1a : Option Pos) (w1l : Nat) (w1c : Cap) (w2 : Option Pos) (w5a : Option Pos) (w5l : Nat) (w5c : Cap) (w6 : Bool) (w7 : Int) (w8 : Bool) (w9 : Int) (S : AS) : Option (AV × AS) := loopN (evC E call n 14 (E.at 14 [1, 1, 1, 0, 1, 0, 0, 1, 0, 0, 1, 0, 1, 0, 0]) 2) [1, 2, 5, 6, 7, 8, 9] m [(1, (.sl w1a w1l w1c)), (2, (.ptr w2)), (5, (.sl w5a w5l w5c)), (6, (.bool w6)), (7, (.int .i64 w7)), (8, (.bool w8)), (9, (.int .i64 w9))] S (kBlk 2 (kSeq E call n 14 (E.at 14 [1, 1, 1, 0, 1, 0, 0, 1, 0, 0, 1, 1]) 1 (kBlk 1 (kSeq E call n 14 (E.at 14 [1, 1, 1, 0, 1, 0, 0, 1, 1]) 0 (kLp (evC E call n 14 (E.at 14 [1, 1, 1, 0, 1, 0, 0]) 0) [1, 2, 5, 6, 7] m1_1_1_0_1_0 (kBlk 0 (kSeq E call n 14 (E.at 14 [1, 1, 1, 1]) 0 (retK E (E.fn 14)))))))))
theorem a14_l1_1_1_0_1_0 (call : CallA) (n : Nat)  (m : Nat) (w1a : Option Pos) (w1l : Nat) (w1c : Cap) (w2 : Option Pos) (w5a : Option Pos) (w5l : Nat) (w5c : Cap) (w6 : Bool) (w7 : Int) (S : AS) : r14_l1_1_1_0_1_0 call n  (m + 1) w1a w1l w1c w2 w5a w5l w5c w6 w7 S = b14_l1_1_1_0_1_0 call n (r14_l1_1_1_0_1_0_0_1_0_0_1_0_1_0 call n m n) w1a w1l w1c w2 w5a w5l w5c w6 w7 S := by kernel_rfl
theorem a14_l1_1_1_0_1_0_0_1_0_0_1_0_1_0 (call : CallA) (n : Nat) (m1_1_1_0_1_0 : Nat) (m : Nat) (w1a : Option Pos) (w1l : Nat) (w1c : Cap) (w2 : Option Pos) (w5a : Option Pos) (w5l : Nat) (w5c : Cap) (w6 : Bool) (w7 : Int) (w8 : Bool) (w9 : Int) (S : AS) : r14_l1_1_1_0_1_0_0_1_0_0_1_0_1_0 call n m1_1_1_0_1_0 (m + 1) w1a w1l w1c w2 w5a w5l w5c w6 w7 w8 w9 S = b14_l1_1_1_0_1_0_0_1_0_0_1_0_1_0 call n (r14_l1_1_1_0_1_0_0_1_0_0_1_0_1_0 call n m1_1_1_0_1_0 m) (r14_l1_1_1_0_1_0 call n  m1_1_1_0_1_0) w1a w1l w1c w2 w5a w5l w5c w6 w7 w8 w9 S := by kernel_rfl
theorem a14_entry (call : CallA) (n : Nat) (x0 : List AV) (x1a : Option Pos) (x1l : Nat) (x1c : Cap) (S : AS) : evC E call n 14 (E.at 14 []) 0 (enumT 0 [(.agg x0), (.sl x1a x1l x1c)]) S (retK E (E.fn 14)) = b14_entry call n (r14_l1_1_1_0_1_0 call n  n) x0 x1a x1l x1c S := by kernel_rfl
def J14_l1_1_1_0_1_0_0_1_0_0_1_0_1_0 (call : CallA) (n : Nat) (n1_1_1_0_1_0 : Option Pos → Nat → Cap → Option Pos → Option Pos → Nat → Cap → Bool → Int → AS → Option (AV × AS)) (m : Nat) : Option Pos → Nat → Cap → Option Pos → Option Pos → Nat → Cap → Bool → Int → Bool → Int → AS → Option (AV × AS) := Nat.rec (motive := fun _ => Option Pos → Nat → Cap → Option Pos → Option Pos → Nat → Cap → Bool → Int → Bool → Int → AS → Option (AV × AS)) (fun _ _ _ _ _ _ _ _ _ _ _ _ => none) (fun _ ih w1a w1l w1c w2 w5a w5l w5c w6 w7 w8 w9 S => b14_l1_1_1_0_1_0_0_1_0_0_1_0_1_0 call n ih n1_1_1_0_1_0 w1a w1l w1c w2 w5a w5l w5c w6 w7 w8 w9 S) m
theorem J14_l1_1_1_0_1_0_0_1_0_0_1_0_1_0_succ (call : CallA) (n : Nat) (n1_1_1_0_1_0 : Option Pos → Nat → Cap → Option Pos → Option Pos → Nat → Cap → Bool → Int → AS → Option (AV × AS)) (m : Nat) (w1a : Option Pos) (w1l : Nat) (w1c : Cap) (w2 : Option Pos) (w5a : Option Pos) (w5l : Nat) (w5c : Cap) (w6 : Bool) (w7 : Int) (w8 : Bool) (w9 : Int) (S : AS) : J14_l1_1_1_0_1_0_0_1_0_0_1_0_1_0 call n n1_1_1_0_1_0 (m + 1) w1a w1l w1c w2 w5a w5l w5c w6 w7 w8 w9 S = b14_l1_1_1_0_1_0_0_1_0_0_1_0_1_0 call n (J14_l1_1_1_0_1_0_0_1_0_0_1_0_1_0 call n n1_1_1_0_1_0 m) n1_1_1_0_1_0 w1a w1l w1c w2 w5a w5l w5c w6 w7 w8 w9 S := rfl
theorem h14_l1_1_1_0_1_0_0_1_0_0_1_0_1_0 (call : CallA) (n : Nat) (m1_1_1_0_1_0 : Nat) (m : Nat) : r14_l1_1_1_0_1_0_0_1_0_0_1_0_1_0 call n m1_1_1_0_1_0 m = J14_l1_1_1_0_1_0_0_1_0_0_1_0_1_0 call n (r14_l1_1_1_0_1_0 call n  m1_1_1_0_1_0) m := by
  induction m with
  | zero => rfl
  | succ m ih =>
    funext w1a w1l w1c w2 w5a w5l w5c w6 w7 w8 w9 S
    rw [J14_l1_1_1_0_1_0_0_1_0_0_1_0_1_0_succ, a14_l1_1_1_0_1_0_0_1_0_0_1_0_1_0, ih]
def J14_l1_1_1_0_1_0 (call : CallA) (n : Nat)  (m : Nat) : Option Pos → Nat → Cap → Option Pos → Option Pos → Nat → Cap → Bool → Int → AS → Option (AV × AS) := Nat.rec (motive := fun _ => Option Pos → Nat → Cap → Option Pos → Option Pos → Nat → Cap → Bool → Int → AS → Option (AV × AS)) (fun _ _ _ _ _ _ _ _ _ _ => none) (fun _ ih w1a w1l w1c w2 w5a w5l w5c w6 w7 S => b14_l1_1_1_0_1_0 call n (J14_l1_1_1_0_1_0_0_1_0_0_1_0_1_0 call n ih n) w1a w1l w1c w2 w5a w5l w5c w6 w7 S) m
theorem J14_l1_1_1_0_1_0_succ (call : CallA) (n : Nat)  (m : Nat) (w1a : Option Pos) (w1l : Nat) (w1c : Cap) (w2 : Option Pos) (w5a : Option Pos) (w5l : Nat) (w5c : Cap) (w6 : Bool) (w7 : Int) (S : AS) : J14_l1_1_1_0_1_0 call n  (m + 1) w1a w1l w1c w2 w5a w5l w5c w6 w7 S = b14_l1_1_1_0_1_0 call n (J14_l1_1_1_0_1_0_0_1_0_0_1_0_1_0 call n (J14_l1_1_1_0_1_0 call n  m) n) w1a w1l w1c w2 w5a w5l w5c w6 w7 S := rfl
theorem h14_l1_1_1_0_1_0 (call : CallA) (n : Nat)  (m : Nat) : r14_l1_1_1_0_1_0 call n  m = J14_l1_1_1_0_1_0 call n  m := by
  induction m with
  | zero => rfl
  | succ m ih =>
    funext w1a w1l w1c w2 w5a w5l w5c w6 w7 S
    rw [J14_l1_1_1_0_1_0_succ, a14_l1_1_1_0_1_0, h14_l1_1_1_0_1_0_0_1_0_0_1_0_1_0 call n m n, ih]
def J14 (call : CallA) (n : Nat) (x0 : List AV) (x1a : Option Pos) (x1l : Nat) (x1c : Cap) (S : AS) : Option (AV × AS) := b14_entry call n (J14_l1_1_1_0_1_0 call n  n) x0 x1a x1l x1c S
theorem run14 (o : Orc) (n : Nat) (args : List AV) (S : AS) (ho : o 14 args = none) : evF E o (n + 1) (.fn 14) args S = evC E (evF E o n) n 14 (E.at 14 []) 0 (enumT 0 args) S (retK E (E.fn 14)) := by
  rw [evF, ho]; kernel_rfl
theorem J14_eq (call : CallA) (n : Nat) (x0 : List AV) (x1a : Option Pos) (x1l : Nat) (x1c : Cap) (S : AS) : evC E call n 14 (E.at 14 []) 0 (enumT 0 [(.agg x0), (.sl x1a x1l x1c)]) S (retK E (E.fn 14)) = J14 call n x0 x1a x1l x1c S := by
  rw [J14, a14_entry, h14_l1_1_1_0_1_0 call n  n]
theorem F14 {o : Orc} (n : Nat) (x0 : List AV) (x1a : Option Pos) (x1l : Nat) (x1c : Cap) (S : AS) (ho : ∀ args, o 14 args = none) : evF E o (n + 1) (.fn 14) [(.agg x0), (.sl x1a x1l x1c)] S = J14 (evF E o n) n x0 x1a x1l x1c S := (run14 o n [(.agg x0), (.sl x1a x1l x1c)] S (ho _)).trans (J14_eq _ _ x0 x1a x1l x1c S)
def b15_entry (call : CallA) (n : Nat)  (x0 : Int) (S : AS) : Option (AV × AS) :=
 some ((.int .i64 x0), S)

theorem a15_entry (call : CallA) (n : Nat) (x0 : Int) (S : AS) : evC E call n 15 (E.at 15 []) 0 (enumT 0 [(.int .i64 x0)]) S (retK E (E.fn 15)) = b15_entry call n  x0 S := by kernel_rfl
def J15 (call : CallA) (n : Nat) (x0 : Int) (S : AS) : Option (AV × AS) := b15_entry call n  x0 S
theorem run15 (o : Orc) (n : Nat) (args : List AV) (S : AS) (ho : o 15 args = none) : evF E o (n + 1) (.fn 15) args S = evC E (evF E o n) n 15 (E.at 15 []) 0 (enumT 0 args) S (retK E (E.fn 15)) := by
  rw [evF, ho]; kernel_rfl
theorem J15_eq (call : CallA) (n : Nat) (x0 : Int) (S : AS) : evC E call n 15 (E.at 15 []) 0 (enumT 0 [(.int .i64 x0)]) S (retK E (E.fn 15)) = J15 call n x0 S := by
  rw [J15, a15_entry]
theorem F15 {o : Orc} (n : Nat) (x0 : Int) (S : AS) (ho : ∀ args, o 15 args = none) : evF E o (n + 1) (.fn 15) [(.int .i64 x0)] S = J15 (evF E o n) n x0 S := (run15 o n [(.int .i64 x0)] S (ho _)).trans (J15_eq _ _ x0 S)
def b16_l1_1_0_1_0 (call : CallA) (n : Nat) (l1_1_0_1_0 : Int → Option Pos → Nat → Cap → Int → Int → AS → Option (AV × AS)) (w2 : Int) (w15a : Option Pos) (w15l : Nat) (w15c : Cap) (w16 : Int) (w17 : Int) (S : AS) : Option (AV × AS) :=
 cond (decide (w17 < w16)) (
 ixSl 2 w15a w15l w17 fun p6 =>
 S.ldn p6.1 p6.2 2 fun g7 =>
 newA S (.cells [(.int .u64 0), (.int .i64 0)]) fun b8 S9 =>
 ifO (g7.length = 2) <|
 S9.stn (.rw b8) 0 g7 fun S10 =>
 ldI .u64 S10 (.rw b8) 0 fun v11 =>
 cond (v11 == 0) (
 some ((.int .i64 180), S10)) (
 ldI .i64 S10 (.rw b8) 1 fun v12 =>
 cond (decide (v12 < 0)) (
 some ((.int .i64 180), S10)) (
 l1_1_0_1_0 w2 w15a w15l w15c w16 (IntKind.wrap .i64 (w17 + 1)) S10))) (
 some ((.int .i64 0), S))

def b16_entry (call : CallA) (n : Nat) (l1_1_0_1_0 : Int → Option Pos → Nat → Cap → Int → Int → AS → Option (AV × AS)) (x0 : List AV) (S : AS) : Option (AV × AS) :=
 ifO (x0.length = 2) <|
 newA S (.cells x0) fun b1 S2 =>
 ldI .i64 S2 (.rw b1) 0 fun v3 =>
 cond (decide (v3 < 0)) (
 some ((.int .i64 180), S2)) (
 ldL S2 (.rw b1) 1 fun v4a v4l v4c =>
 cond (decide (((v4l : Nat) : Int) > 8)) (
 some ((.int .i64 180), S2)) (
 ldL S2 (.rw b1) 1 fun v5a v5l v5c =>
 l1_1_0_1_0 0 v5a v5l v5c ((v5l : Nat) : Int) 0 S2))

def r16_l1_1_0_1_0 (call : CallA) (n : Nat)  (m : Nat) (w2 : Int) (w15a : Option Pos) (w15l : Nat) (w15c : Cap) (w16 : Int) (w17 : Int) (S : AS) : Option (AV × AS) := loopN (evC E call n 16 (E.at 16 [1, 1, 0, 1, 0, 0]) 0) [2, 15, 16, 17] m [(2, (.int .i64 w2)), (15, (.sl w15a w15l w15c)), (16, (.int .i64 w16)), (17, (.int .i64 w17))] S (kBlk 0 (kSeq E call n 16 (E.at 16 [1, 1, 1]) 0 (retK E (E.fn 16))))
theorem a16_l1_1_0_1_0 (call : CallA) (n : Nat)  (m : Nat) (w2 : Int) (w15a : Option Pos) (w15l : Nat) (w15c : Cap) (w16 : Int) (w17 : Int) (S : AS) : r16_l1_1_0_1_0 call n  (m + 1) w2 w15a w15l w15c w16 w17 S = b16_l1_1_0_1_0 call n (r16_l1_1_0_1_0 call n  m) w2 w15a w15l w15c w16 w17 S := by kernel_rfl
theorem a16_entry (call : CallA) (n : Nat) (x0 : List AV) (S : AS) : evC E call n 16 (E.at 16 []) 0 (enumT 0 [(.agg x0)]) S (retK E (E.fn 16)) = b16_entry call n (r16_l1_1_0_1_0 call n  n) x0 S := by kernel_rfl
def J16_l1_1_0_1_0 (call : CallA) (n : Nat)  (m : Nat) : Int → Option Pos → Nat → Cap → Int → Int → AS → Option (AV × AS) := Nat.rec (motive := fun _ => Int → Option Pos → Nat → Cap → Int → Int → AS → Option (AV × AS)) (fun _ _ _ _ _ _ _ => none) (fun _ ih w2 w15a w15l w15c w16 w17 S => b16_l1_1_0_1_0 call n ih w2 w15a w15l w15c w16 w17 S) m
theorem J16_l1_1_0_1_0_succ (call : CallA) (n : Nat)  (m : Nat) (w2 : Int) (w15a : Option Pos) (w15l : Nat) (w15c : Cap) (w16 : Int) (w17 : Int) (S : AS) : J16_l1_1_0_1_0 call n  (m + 1) w2 w15a w15l w15c w16 w17 S = b16_l1_1_0_1_0 call n (J16_l1_1_0_1_0 call n  m) w2 w15a w15l w15c w16 w17 S := rfl
theorem h16_l1_1_0_1_0 (call : CallA) (n : Nat)  (m : Nat) : r16_l1_1_0_1_0 call n  m = J16_l1_1_0_1_0 call n  m := by
  induction m with
  | zero => rfl
  | succ m ih =>
    funext w2 w15a w15l w15c w16 w17 S
    rw [J16_l1_1_0_1_0_succ, a16_l1_1_0_1_0, ih]
def J16 (call : CallA) (n : Nat) (x0 : List AV) (S : AS) : Option (AV × AS) := b16_entry call n (J16_l1_1_0_1_0 call n  n) x0 S
theorem run16 (o : Orc) (n : Nat) (args : List AV) (S : AS) (ho : o 16 args = none) : evF E o (n + 1) (.fn 16) args S = evC E (evF E o n) n 16 (E.at 16 []) 0 (enumT 0 args) S (retK E (E.fn 16)) := by
  rw [evF, ho]; kernel_rfl
theorem J16_eq (call : CallA) (n : Nat) (x0 : List AV) (S : AS) : evC E call n 16 (E.at 16 []) 0 (enumT 0 [(.agg x0)]) S (retK E (E.fn 16)) = J16 call n x0 S := by
  rw [J16, a16_entry, h16_l1_1_0_1_0 call n  n]
theorem F16 {o : Orc} (n : Nat) (x0 : List AV) (S : AS) (ho : ∀ args, o 16 args = none) : evF E o (n + 1) (.fn 16) [(.agg x0)] S = J16 (evF E o n) n x0 S := (run16 o n [(.agg x0)] S (ho _)).trans (J16_eq _ _ x0 S)
def b17_l1_1_0_1_0 (call : CallA) (n : Nat) (l1_1_0_1_0 : Option Pos → Int → Int → AS → Option (AV × AS)) (w1 : Option Pos) (w2 : Int) (w3 : Int) (S : AS) : Option (AV × AS) :=
 gO w1 fun p5 =>
 ldL S p5.1 (p5.2 + 1) fun v6a v6l v6c =>
 cond (decide (w3 < ((v6l : Nat) : Int))) (
 gO w1 fun p7 =>
 ldL S p7.1 (p7.2 + 1) fun v8a v8l v8c =>
 ixSl 2 v8a v8l w3 fun p9 =>
 ldI .u64 S p9.1 p9.2 fun v10 =>
 cond (v10 == 0) (
 some ((.int .i64 180), S)) (
 gO w1 fun p11 =>
 ldL S p11.1 (p11.2 + 1) fun v12a v12l v12c =>
 ixSl 2 v12a v12l w3 fun p13 =>
 ldI .i64 S p13.1 (p13.2 + 1) fun v14 =>
 cond (decide (v14 < 0)) (
 some ((.int .i64 180), S)) (
 l1_1_0_1_0 w1 w2 (IntKind.wrap .i64 (w3 + 1)) S))) (
 some ((.int .i64 0), S))

def b17_entry (call : CallA) (n : Nat) (l1_1_0_1_0 : Option Pos → Int → Int → AS → Option (AV × AS)) (x0 : List AV) (S : AS) : Option (AV × AS) :=
 ifO (x0.length = 2) <|
 newA S (.cells x0) fun b1 S2 =>
 ldI .i64 S2 (.rw b1) 0 fun v3 =>
 cond (decide (v3 < 0)) (
 some ((.int .i64 180), S2)) (
 ldL S2 (.rw b1) 1 fun v4a v4l v4c =>
 cond (decide (((v4l : Nat) : Int) > 8)) (
 some ((.int .i64 180), S2)) (
 l1_1_0_1_0 (some ((.rw b1), 0)) 0 0 S2))

def r17_l1_1_0_1_0 (call : CallA) (n : Nat)  (m : Nat) (w1 : Option Pos) (w2 : Int) (w3 : Int) (S : AS) : Option (AV × AS) := loopN (evC E call n 17 (E.at 17 [1, 1, 0, 1, 0, 0]) 0) [1, 2, 3] m [(1, (.ptr w1)), (2, (.int .i64 w2)), (3, (.int .i64 w3))] S (kBlk 0 (kSeq E call n 17 (E.at 17 [1, 1, 1]) 0 (retK E (E.fn 17))))
theorem a17_l1_1_0_1_0 (call : CallA) (n : Nat)  (m : Nat) (w1 : Option Pos) (w2 : Int) (w3 : Int) (S : AS) : r17_l1_1_0_1_0 call n  (m + 1) w1 w2 w3 S = b17_l1_1_0_1_0 call n (r17_l1_1_0_1_0 call n  m) w1 w2 w3 S := by kernel_rfl
theorem a17_entry (call : CallA) (n : Nat) (x0 : List AV) (S : AS) : evC E call n 17 (E.at 17 []) 0 (enumT 0 [(.agg x0)]) S (retK E (E.fn 17)) = b17_entry call n (r17_l1_1_0_1_0 call n  n) x0 S := by kernel_rfl
def J17_l1_1_0_1_0 (call : CallA) (n : Nat)  (m : Nat) : Option Pos → Int → Int → AS → Option (AV × AS) := Nat.rec (motive := fun _ => Option Pos → Int → Int → AS → Option (AV × AS)) (fun _ _ _ _ => none) (fun _ ih w1 w2 w3 S => b17_l1_1_0_1_0 call n ih w1 w2 w3 S) m
theorem J17_l1_1_0_1_0_succ (call : CallA) (n : Nat)  (m : Nat) (w1 : Option Pos) (w2 : Int) (w3 : Int) (S : AS) : J17_l1_1_0_1_0 call n  (m + 1) w1 w2 w3 S = b17_l1_1_0_1_0 call n (J17_l1_1_0_1_0 call n  m) w1 w2 w3 S := rfl
theorem h17_l1_1_0_1_0 (call : CallA) (n : Nat)  (m : Nat) : r17_l1_1_0_1_0 call n  m = J17_l1_1_0_1_0 call n  m := by
  induction m with
  | zero => rfl
  | succ m ih =>
    funext w1 w2 w3 S
    rw [J17_l1_1_0_1_0_succ, a17_l1_1_0_1_0, ih]
def J17 (call : CallA) (n : Nat) (x0 : List AV) (S : AS) : Option (AV × AS) := b17_entry call n (J17_l1_1_0_1_0 call n  n) x0 S
theorem run17 (o : Orc) (n : Nat) (args : List AV) (S : AS) (ho : o 17 args = none) : evF E o (n + 1) (.fn 17) args S = evC E (evF E o n) n 17 (E.at 17 []) 0 (enumT 0 args) S (retK E (E.fn 17)) := by
  rw [evF, ho]; kernel_rfl
theorem J17_eq (call : CallA) (n : Nat) (x0 : List AV) (S : AS) : evC E call n 17 (E.at 17 []) 0 (enumT 0 [(.agg x0)]) S (retK E (E.fn 17)) = J17 call n x0 S := by
  rw [J17, a17_entry, h17_l1_1_0_1_0 call n  n]
theorem F17 {o : Orc} (n : Nat) (x0 : List AV) (S : AS) (ho : ∀ args, o 17 args = none) : evF E o (n + 1) (.fn 17) [(.agg x0)] S = J17 (evF E o n) n x0 S := (run17 o n [(.agg x0)] S (ho _)).trans (J17_eq _ _ x0 S)
def b18_entry (call : CallA) (n : Nat)   (S : AS) : Option (AV × AS) :=
 newA S (.cells [(.sl none 0 (.ex 0)), (.int .u64 0), (.int .u64 0)]) fun b1 S2 =>
 some ((.ptr (some ((.rw b1), 0))), S2)

theorem a18_entry (call : CallA) (n : Nat)  (S : AS) : evC E call n 18 (E.at 18 []) 0 (enumT 0 []) S (retK E (E.fn 18)) = b18_entry call n   S := by kernel_rfl
def J18 (call : CallA) (n : Nat)  (S : AS) : Option (AV × AS) := b18_entry call n   S
theorem run18 (o : Orc) (n : Nat) (args : List AV) (S : AS) (ho : o 18 args = none) : evF E o (n + 1) (.fn 18) args S = evC E (evF E o n) n 18 (E.at 18 []) 0 (enumT 0 args) S (retK E (E.fn 18)) := by
  rw [evF, ho]; kernel_rfl
theorem J18_eq (call : CallA) (n : Nat)  (S : AS) : evC E call n 18 (E.at 18 []) 0 (enumT 0 []) S (retK E (E.fn 18)) = J18 call n  S := by
  rw [J18, a18_entry]
theorem F18 {o : Orc} (n : Nat)  (S : AS) (ho : ∀ args, o 18 args = none) : evF E o (n + 1) (.fn 18) [] S = J18 (evF E o n) n  S := (run18 o n [] S (ho _)).trans (J18_eq _ _  S)
def b19_entry (call : CallA) (n : Nat)  (x0 : Option Pos) (x1 : Int) (x2 : List UInt8) (x3 : Int) (S : AS) : Option (AV × AS) :=
 cond x0.isNone (
 some (.tup [(.int .u32 0), (.int .i64 7)], S)) (
 cond (((x2.length : Nat) : Int) != 32) (
 some (.tup [(.int .u32 0), (.int .i64 2)], S)) (
 gO x0 fun p1 =>
 ldI .u64 S p1.1 (p1.2 + 1) fun v2 =>
 cond (decide (v2 > 0)) (
 gO x0 fun p3 =>
 ldI .u64 S p3.1 (p3.2 + 2) fun v4 =>
 cond (decide (x1 ≤ v4)) (
 some (.tup [(.int .u32 0), (.int .i64 182)], S)) (
 gO x0 fun p5 =>
 ldL S p5.1 p5.2 fun v6a v6l v6c =>
 cond (decide (((v6l : Nat) : Int) ≥ 256)) (
 some (.tup [(.int .u32 0), (.int .i64 5)], S)) (
 gO x0 fun p7 =>
 ldI .u64 S p7.1 (p7.2 + 1) fun v8 =>
 cond (decide (v8 ≥ 4294967295)) (
 some (.tup [(.int .u32 0), (.int .i64 5)], S)) (
 gO x0 fun p9 =>
 ldI .u64 S p9.1 (p9.2 + 1) fun v10 =>
 gO x0 fun p11 =>
 S.stn p11.1 (p11.2 + 1) [(.int .u64 (IntKind.wrap .u64 (v10 + 1)))] fun S12 =>
 gO x0 fun p13 =>
 S12.stn p13.1 (p13.2 + 2) [(.int .u64 x1)] fun S14 =>
 drawA S14 19 fun b15 S16 =>
 gO x0 fun p17 =>
 ldL S16 p17.1 p17.2 fun v18a v18l v18c =>
 gO x0 fun p19 =>
 ldI .u64 S16 p19.1 (p19.2 + 1) fun v20 =>
 layA S16 (b15 + 14) (.cells [(.int .u32 (IntKind.wrap .u32 v20)), (.int .u64 x1), (.str x2), (.int .u64 x3)]) fun S21 =>
 appendA 4 40 S21 v18a v18l v18c 1 (firstA S21 4 1 (.sl (some (.rw (b15 + 14), 0)) 1 (.ex 1))) fun v22a v22l v22c S23 =>
 gO x0 fun p24 =>
 S23.stn p24.1 p24.2 [(.sl v22a v22l v22c)] fun S25 =>
 gO x0 fun p26 =>
 ldI .u64 S25 p26.1 (p26.2 + 1) fun v27 =>
 some (.tup [(.int .u32 (IntKind.wrap .u32 v27)), (.int .i64 0)], S25))))) (
 gO x0 fun p28 =>
 ldL S p28.1 p28.2 fun v29a v29l v29c =>
 cond (decide (((v29l : Nat) : Int) ≥ 256)) (
 some (.tup [(.int .u32 0), (.int .i64 5)], S)) (
 gO x0 fun p30 =>
 ldI .u64 S p30.1 (p30.2 + 1) fun v31 =>
 cond (decide (v31 ≥ 4294967295)) (
 some (.tup [(.int .u32 0), (.int .i64 5)], S)) (
 gO x0 fun p32 =>
 ldI .u64 S p32.1 (p32.2 + 1) fun v33 =>
 gO x0 fun p34 =>
 S.stn p34.1 (p34.2 + 1) [(.int .u64 (IntKind.wrap .u64 (v33 + 1)))] fun S35 =>
 gO x0 fun p36 =>
 S35.stn p36.1 (p36.2 + 2) [(.int .u64 x1)] fun S37 =>
 drawA S37 19 fun b38 S39 =>
 gO x0 fun p40 =>
 ldL S39 p40.1 p40.2 fun v41a v41l v41c =>
 gO x0 fun p42 =>
 ldI .u64 S39 p42.1 (p42.2 + 1) fun v43 =>
 layA S39 (b38 + 14) (.cells [(.int .u32 (IntKind.wrap .u32 v43)), (.int .u64 x1), (.str x2), (.int .u64 x3)]) fun S44 =>
 appendA 4 40 S44 v41a v41l v41c 1 (firstA S44 4 1 (.sl (some (.rw (b38 + 14), 0)) 1 (.ex 1))) fun v45a v45l v45c S46 =>
 gO x0 fun p47 =>
 S46.stn p47.1 p47.2 [(.sl v45a v45l v45c)] fun S48 =>
 gO x0 fun p49 =>
 ldI .u64 S48 p49.1 (p49.2 + 1) fun v50 =>
 some (.tup [(.int .u32 (IntKind.wrap .u32 v50)), (.int .i64 0)], S48))))))

theorem a19_entry (call : CallA) (n : Nat) (x0 : Option Pos) (x1 : Int) (x2 : List UInt8) (x3 : Int) (S : AS) : evC E call n 19 (E.at 19 []) 0 (enumT 0 [(.ptr x0), (.int .u64 x1), (.str x2), (.int .u64 x3)]) S (retK E (E.fn 19)) = b19_entry call n  x0 x1 x2 x3 S := by kernel_rfl
def J19 (call : CallA) (n : Nat) (x0 : Option Pos) (x1 : Int) (x2 : List UInt8) (x3 : Int) (S : AS) : Option (AV × AS) := b19_entry call n  x0 x1 x2 x3 S
theorem run19 (o : Orc) (n : Nat) (args : List AV) (S : AS) (ho : o 19 args = none) : evF E o (n + 1) (.fn 19) args S = evC E (evF E o n) n 19 (E.at 19 []) 0 (enumT 0 args) S (retK E (E.fn 19)) := by
  rw [evF, ho]; kernel_rfl
theorem J19_eq (call : CallA) (n : Nat) (x0 : Option Pos) (x1 : Int) (x2 : List UInt8) (x3 : Int) (S : AS) : evC E call n 19 (E.at 19 []) 0 (enumT 0 [(.ptr x0), (.int .u64 x1), (.str x2), (.int .u64 x3)]) S (retK E (E.fn 19)) = J19 call n x0 x1 x2 x3 S := by
  rw [J19, a19_entry]
theorem F19 {o : Orc} (n : Nat) (x0 : Option Pos) (x1 : Int) (x2 : List UInt8) (x3 : Int) (S : AS) (ho : ∀ args, o 19 args = none) : evF E o (n + 1) (.fn 19) [(.ptr x0), (.int .u64 x1), (.str x2), (.int .u64 x3)] S = J19 (evF E o n) n x0 x1 x2 x3 S := (run19 o n [(.ptr x0), (.int .u64 x1), (.str x2), (.int .u64 x3)] S (ho _)).trans (J19_eq _ _ x0 x1 x2 x3 S)
def b20_l1_1_0_1_0 (call : CallA) (n : Nat) (l1_1_0_1_0 : Int → Option Pos → Nat → Cap → Int → AS → Option (AV × AS)) (j1_1_1 : Option Pos → Nat → Cap → AS → Option (AV × AS)) (w0 : Int) (w3a : Option Pos) (w3l : Nat) (w3c : Cap) (w4 : Int) (S : AS) : Option (AV × AS) :=
 cond (decide (w4 < ((w3l : Nat) : Int))) (
 ixSl 1 w3a w3l w4 fun p5 =>
 S.stn p5.1 p5.2 [(.int .u8 w0)] fun S6 =>
 l1_1_0_1_0 w0 w3a w3l w3c (IntKind.wrap .i64 (w4 + 1)) S6) (
 j1_1_1 w3a w3l w3c S)

def b20_j1_1_1 (call : CallA) (n : Nat)  (w3a : Option Pos) (w3l : Nat) (w3c : Cap) (S : AS) : Option (AV × AS) :=
 bytesStr S w3a w3l fun s7 =>
 some ((.str s7), S)

def b20_entry (call : CallA) (n : Nat) (l1_1_0_1_0 : Int → Option Pos → Nat → Cap → Int → AS → Option (AV × AS)) (x0 : Int) (S : AS) : Option (AV × AS) :=
 mkSl 1 32 32 fun l3 c4 =>
 newA S (.cells (zeros c4 [(.int .u8 0)])) fun b1 S2 =>
 l1_1_0_1_0 x0 (some (.rw b1, 0)) l3 (.ex c4) 0 S2

def r20_l1_1_0_1_0 (call : CallA) (n : Nat)  (m : Nat) (w0 : Int) (w3a : Option Pos) (w3l : Nat) (w3c : Cap) (w4 : Int) (S : AS) : Option (AV × AS) := loopN (evC E call n 20 (E.at 20 [1, 1, 0, 1, 0, 0]) 0) [0, 3, 4] m [(0, (.int .u8 w0)), (3, (.sl w3a w3l w3c)), (4, (.int .i64 w4))] S (kBlk 0 (kSeq E call n 20 (E.at 20 [1, 1, 1]) 0 (retK E (E.fn 20))))
def r20_j1_1_1 (call : CallA) (n : Nat)  (w3a : Option Pos) (w3l : Nat) (w3c : Cap) (S : AS) : Option (AV × AS) := evC E call n 20 (E.at 20 [1, 1, 1]) 0 [(3, (.sl w3a w3l w3c))] S (retK E (E.fn 20))
theorem a20_l1_1_0_1_0 (call : CallA) (n : Nat)  (m : Nat) (w0 : Int) (w3a : Option Pos) (w3l : Nat) (w3c : Cap) (w4 : Int) (S : AS) : r20_l1_1_0_1_0 call n  (m + 1) w0 w3a w3l w3c w4 S = b20_l1_1_0_1_0 call n (r20_l1_1_0_1_0 call n  m) (r20_j1_1_1 call n ) w0 w3a w3l w3c w4 S := by kernel_rfl
theorem a20_j1_1_1 (call : CallA) (n : Nat)  (w3a : Option Pos) (w3l : Nat) (w3c : Cap) (S : AS) : r20_j1_1_1 call n  w3a w3l w3c S = b20_j1_1_1 call n  w3a w3l w3c S := by kernel_rfl
theorem a20_entry (call : CallA) (n : Nat) (x0 : Int) (S : AS) : evC E call n 20 (E.at 20 []) 0 (enumT 0 [(.int .u8 x0)]) S (retK E (E.fn 20)) = b20_entry call n (r20_l1_1_0_1_0 call n  n) x0 S := by kernel_rfl
def J20_j1_1_1 (call : CallA) (n : Nat)  (w3a : Option Pos) (w3l : Nat) (w3c : Cap) (S : AS) : Option (AV × AS) := b20_j1_1_1 call n  w3a w3l w3c S
theorem h20_j1_1_1 (call : CallA) (n : Nat)  : r20_j1_1_1 call n  = J20_j1_1_1 call n  := by
  funext w3a w3l w3c S
  rw [J20_j1_1_1, a20_j1_1_1]
def J20_l1_1_0_1_0 (call : CallA) (n : Nat)  (m : Nat) : Int → Option Pos → Nat → Cap → Int → AS → Option (AV × AS) := Nat.rec (motive := fun _ => Int → Option Pos → Nat → Cap → Int → AS → Option (AV × AS)) (fun _ _ _ _ _ _ => none) (fun _ ih w0 w3a w3l w3c w4 S => b20_l1_1_0_1_0 call n ih (J20_j1_1_1 call n ) w0 w3a w3l w3c w4 S) m
theorem J20_l1_1_0_1_0_succ (call : CallA) (n : Nat)  (m : Nat) (w0 : Int) (w3a : Option Pos) (w3l : Nat) (w3c : Cap) (w4 : Int) (S : AS) : J20_l1_1_0_1_0 call n  (m + 1) w0 w3a w3l w3c w4 S = b20_l1_1_0_1_0 call n (J20_l1_1_0_1_0 call n  m) (J20_j1_1_1 call n ) w0 w3a w3l w3c w4 S := rfl
theorem h20_l1_1_0_1_0 (call : CallA) (n : Nat)  (m : Nat) : r20_l1_1_0_1_0 call n  m = J20_l1_1_0_1_0 call n  m := by
  induction m with
  | zero => rfl
  | succ m ih =>
    funext w0 w3a w3l w3c w4 S
    rw [J20_l1_1_0_1_0_succ, a20_l1_1_0_1_0, h20_j1_1_1 call n , ih]
def J20 (call : CallA) (n : Nat) (x0 : Int) (S : AS) : Option (AV × AS) := b20_entry call n (J20_l1_1_0_1_0 call n  n) x0 S
theorem run20 (o : Orc) (n : Nat) (args : List AV) (S : AS) (ho : o 20 args = none) : evF E o (n + 1) (.fn 20) args S = evC E (evF E o n) n 20 (E.at 20 []) 0 (enumT 0 args) S (retK E (E.fn 20)) := by
  rw [evF, ho]; kernel_rfl
theorem J20_eq (call : CallA) (n : Nat) (x0 : Int) (S : AS) : evC E call n 20 (E.at 20 []) 0 (enumT 0 [(.int .u8 x0)]) S (retK E (E.fn 20)) = J20 call n x0 S := by
  rw [J20, a20_entry, h20_l1_1_0_1_0 call n  n]
theorem F20 {o : Orc} (n : Nat) (x0 : Int) (S : AS) (ho : ∀ args, o 20 args = none) : evF E o (n + 1) (.fn 20) [(.int .u8 x0)] S = J20 (evF E o n) n x0 S := (run20 o n [(.int .u8 x0)] S (ho _)).trans (J20_eq _ _ x0 S)
def b21_entry (call : CallA) (n : Nat)  (x0 : Option Pos) (x1 : Int) (S : AS) : Option (AV × AS) :=
 callI .i64 call 36 [(.ptr x0), (.int .u32 x1)] S fun v2 S1 =>
 cond (decide (v2 < 0)) (
 some ((.int .i64 7), S1)) (
 gO x0 fun p3 =>
 ldL S1 p3.1 p3.2 fun v4a v4l v4c =>
 callL call 37 [(.sl v4a v4l v4c), (.int .i64 v2), (.int .i64 (IntKind.wrap .i64 (v2 + 1)))] S1 fun v6a v6l v6c S5 =>
 gO x0 fun p7 =>
 S5.stn p7.1 p7.2 [(.sl v6a v6l v6c)] fun S8 =>
 some ((.int .i64 0), S8))

theorem a21_entry (call : CallA) (n : Nat) (x0 : Option Pos) (x1 : Int) (S : AS) : evC E call n 21 (E.at 21 []) 0 (enumT 0 [(.ptr x0), (.int .u32 x1)]) S (retK E (E.fn 21)) = b21_entry call n  x0 x1 S := by kernel_rfl
def J21 (call : CallA) (n : Nat) (x0 : Option Pos) (x1 : Int) (S : AS) : Option (AV × AS) := b21_entry call n  x0 x1 S
theorem run21 (o : Orc) (n : Nat) (args : List AV) (S : AS) (ho : o 21 args = none) : evF E o (n + 1) (.fn 21) args S = evC E (evF E o n) n 21 (E.at 21 []) 0 (enumT 0 args) S (retK E (E.fn 21)) := by
  rw [evF, ho]; kernel_rfl
theorem J21_eq (call : CallA) (n : Nat) (x0 : Option Pos) (x1 : Int) (S : AS) : evC E call n 21 (E.at 21 []) 0 (enumT 0 [(.ptr x0), (.int .u32 x1)]) S (retK E (E.fn 21)) = J21 call n x0 x1 S := by
  rw [J21, a21_entry]
theorem F21 {o : Orc} (n : Nat) (x0 : Option Pos) (x1 : Int) (S : AS) (ho : ∀ args, o 21 args = none) : evF E o (n + 1) (.fn 21) [(.ptr x0), (.int .u32 x1)] S = J21 (evF E o n) n x0 x1 S := (run21 o n [(.ptr x0), (.int .u32 x1)] S (ho _)).trans (J21_eq _ _ x0 x1 S)
def b22_entry (call : CallA) (n : Nat)  (x0 : Option Pos) (S : AS) : Option (AV × AS) :=
 cond x0.isNone (
 some ((.int .i64 0), S)) (
 gO x0 fun p1 =>
 ldL S p1.1 p1.2 fun v2a v2l v2c =>
 some ((.int .i64 ((v2l : Nat) : Int)), S))

theorem a22_entry (call : CallA) (n : Nat) (x0 : Option Pos) (S : AS) : evC E call n 22 (E.at 22 []) 0 (enumT 0 [(.ptr x0)]) S (retK E (E.fn 22)) = b22_entry call n  x0 S := by kernel_rfl
def J22 (call : CallA) (n : Nat) (x0 : Option Pos) (S : AS) : Option (AV × AS) := b22_entry call n  x0 S
theorem run22 (o : Orc) (n : Nat) (args : List AV) (S : AS) (ho : o 22 args = none) : evF E o (n + 1) (.fn 22) args S = evC E (evF E o n) n 22 (E.at 22 []) 0 (enumT 0 args) S (retK E (E.fn 22)) := by
  rw [evF, ho]; kernel_rfl
theorem J22_eq (call : CallA) (n : Nat) (x0 : Option Pos) (S : AS) : evC E call n 22 (E.at 22 []) 0 (enumT 0 [(.ptr x0)]) S (retK E (E.fn 22)) = J22 call n x0 S := by
  rw [J22, a22_entry]
theorem F22 {o : Orc} (n : Nat) (x0 : Option Pos) (S : AS) (ho : ∀ args, o 22 args = none) : evF E o (n + 1) (.fn 22) [(.ptr x0)] S = J22 (evF E o n) n x0 S := (run22 o n [(.ptr x0)] S (ho _)).trans (J22_eq _ _ x0 S)
def b23_l1_1_0_1_0 (call : CallA) (n : Nat) (l1_1_0_1_0 : Option Pos → Nat → Cap → Int → Int → AS → Option (AV × AS)) (j1_1_1 : Option Pos → Nat → Cap → Int → AS → Option (AV × AS)) (w0a : Option Pos) (w0l : Nat) (w0c : Cap) (w3 : Int) (w4 : Int) (S : AS) : Option (AV × AS) :=
 cond (decide (w4 < ((w0l : Nat) : Int))) (
 cond (decide (w4 ≤ 60)) (
 ixSl 8 w0a w0l w4 fun p1 =>
 ldS S p1.1 (p1.2 + 2) fun v2 =>
 ixSl 8 w0a w0l w4 fun p3 =>
 ldS S p3.1 (p3.2 + 5) fun v4 =>
 ixSl 8 w0a w0l w4 fun p5 =>
 ldL S p5.1 (p5.2 + 6 + 1) fun v6a v6l v6c =>
 l1_1_0_1_0 w0a w0l w0c (IntKind.wrap .i64 ((IntKind.wrap .i64 ((IntKind.wrap .i64 (w3 + ((v2.length : Nat) : Int))) + ((v4.length : Nat) : Int))) + ((v6l : Nat) : Int))) (IntKind.wrap .i64 (w4 + 1)) S) (
 j1_1_1 w0a w0l w0c w3 S)) (
 j1_1_1 w0a w0l w0c w3 S)

def b23_j1_1_1 (call : CallA) (n : Nat)  (w0a : Option Pos) (w0l : Nat) (w0c : Cap) (w3 : Int) (S : AS) : Option (AV × AS) :=
 cond (decide (((w0l : Nat) : Int) > 60)) (
 some ((.bool true), S)) (
 some ((.bool (decide (w3 > 20000))), S))

def b23_entry (call : CallA) (n : Nat) (l1_1_0_1_0 : Option Pos → Nat → Cap → Int → Int → AS → Option (AV × AS)) (x0a : Option Pos) (x0l : Nat) (x0c : Cap) (S : AS) : Option (AV × AS) :=
 l1_1_0_1_0 x0a x0l x0c 0 0 S

def r23_l1_1_0_1_0 (call : CallA) (n : Nat)  (m : Nat) (w0a : Option Pos) (w0l : Nat) (w0c : Cap) (w3 : Int) (w4 : Int) (S : AS) : Option (AV × AS) := loopN (evC E call n 23 (E.at 23 [1, 1, 0, 1, 0, 0]) 0) [0, 3, 4] m [(0, (.sl w0a w0l w0c)), (3, (.int .i64 w3)), (4, (.int .i64 w4))] S (kBlk 0 (kSeq E call n 23 (E.at 23 [1, 1, 1]) 0 (retK E (E.fn 23))))
def r23_j1_1_1 (call : CallA) (n : Nat)  (w0a : Option Pos) (w0l : Nat) (w0c : Cap) (w3 : Int) (S : AS) : Option (AV × AS) := evC E call n 23 (E.at 23 [1, 1, 1]) 0 [(0, (.sl w0a w0l w0c)), (3, (.int .i64 w3))] S (retK E (E.fn 23))
theorem a23_l1_1_0_1_0 (call : CallA) (n : Nat)  (m : Nat) (w0a : Option Pos) (w0l : Nat) (w0c : Cap) (w3 : Int) (w4 : Int) (S : AS) : r23_l1_1_0_1_0 call n  (m + 1) w0a w0l w0c w3 w4 S = b23_l1_1_0_1_0 call n (r23_l1_1_0_1_0 call n  m) (r23_j1_1_1 call n ) w0a w0l w0c w3 w4 S := by kernel_rfl
theorem a23_j1_1_1 (call : CallA) (n : Nat)  (w0a : Option Pos) (w0l : Nat) (w0c : Cap) (w3 : Int) (S : AS) : r23_j1_1_1 call n  w0a w0l w0c w3 S = b23_j1_1_1 call n  w0a w0l w0c w3 S := by kernel_rfl
theorem a23_entry (call : CallA) (n : Nat) (x0a : Option Pos) (x0l : Nat) (x0c : Cap) (S : AS) : evC E call n 23 (E.at 23 []) 0 (enumT 0 [(.sl x0a x0l x0c)]) S (retK E (E.fn 23)) = b23_entry call n (r23_l1_1_0_1_0 call n  n) x0a x0l x0c S := by kernel_rfl
def J23_j1_1_1 (call : CallA) (n : Nat)  (w0a : Option Pos) (w0l : Nat) (w0c : Cap) (w3 : Int) (S : AS) : Option (AV × AS) := b23_j1_1_1 call n  w0a w0l w0c w3 S
theorem h23_j1_1_1 (call : CallA) (n : Nat)  : r23_j1_1_1 call n  = J23_j1_1_1 call n  := by
  funext w0a w0l w0c w3 S
  rw [J23_j1_1_1, a23_j1_1_1]
def J23_l1_1_0_1_0 (call : CallA) (n : Nat)  (m : Nat) : Option Pos → Nat → Cap → Int → Int → AS → Option (AV × AS) := Nat.rec (motive := fun _ => Option Pos → Nat → Cap → Int → Int → AS → Option (AV × AS)) (fun _ _ _ _ _ _ => none) (fun _ ih w0a w0l w0c w3 w4 S => b23_l1_1_0_1_0 call n ih (J23_j1_1_1 call n ) w0a w0l w0c w3 w4 S) m
theorem J23_l1_1_0_1_0_succ (call : CallA) (n : Nat)  (m : Nat) (w0a : Option Pos) (w0l : Nat) (w0c : Cap) (w3 : Int) (w4 : Int) (S : AS) : J23_l1_1_0_1_0 call n  (m + 1) w0a w0l w0c w3 w4 S = b23_l1_1_0_1_0 call n (J23_l1_1_0_1_0 call n  m) (J23_j1_1_1 call n ) w0a w0l w0c w3 w4 S := rfl
theorem h23_l1_1_0_1_0 (call : CallA) (n : Nat)  (m : Nat) : r23_l1_1_0_1_0 call n  m = J23_l1_1_0_1_0 call n  m := by
  induction m with
  | zero => rfl
  | succ m ih =>
    funext w0a w0l w0c w3 w4 S
    rw [J23_l1_1_0_1_0_succ, a23_l1_1_0_1_0, h23_j1_1_1 call n , ih]
def J23 (call : CallA) (n : Nat) (x0a : Option Pos) (x0l : Nat) (x0c : Cap) (S : AS) : Option (AV × AS) := b23_entry call n (J23_l1_1_0_1_0 call n  n) x0a x0l x0c S
theorem run23 (o : Orc) (n : Nat) (args : List AV) (S : AS) (ho : o 23 args = none) : evF E o (n + 1) (.fn 23) args S = evC E (evF E o n) n 23 (E.at 23 []) 0 (enumT 0 args) S (retK E (E.fn 23)) := by
  rw [evF, ho]; kernel_rfl
theorem J23_eq (call : CallA) (n : Nat) (x0a : Option Pos) (x0l : Nat) (x0c : Cap) (S : AS) : evC E call n 23 (E.at 23 []) 0 (enumT 0 [(.sl x0a x0l x0c)]) S (retK E (E.fn 23)) = J23 call n x0a x0l x0c S := by
  rw [J23, a23_entry, h23_l1_1_0_1_0 call n  n]
theorem F23 {o : Orc} (n : Nat) (x0a : Option Pos) (x0l : Nat) (x0c : Cap) (S : AS) (ho : ∀ args, o 23 args = none) : evF E o (n + 1) (.fn 23) [(.sl x0a x0l x0c)] S = J23 (evF E o n) n x0a x0l x0c S := (run23 o n [(.sl x0a x0l x0c)] S (ho _)).trans (J23_eq _ _ x0a x0l x0c S)
def b24_entry (call : CallA) (n : Nat)  (x0 : Option Pos) (x1 : Option Pos) (x2 : List AV) (S : AS) : Option (AV × AS) :=
 ifO (x2.length = 8) <|
 newA S (.cells x2) fun b1 S2 =>
 ldI .i64 S2 (.rw b1) 0 fun v3 =>
 cond (v3 == 1) (
 ldI .u64 S2 (.rw b1) 1 fun v4 =>
 ldS S2 (.rw b1) 2 fun v5 =>
 ldI .u64 S2 (.rw b1) 3 fun v6 =>
 callT call 19 [(.ptr x0), (.int .u64 v4), (.str v5), (.int .u64 v6)] S2 fun v8 S7 =>
 atI .u32 v8 0 fun v9 =>
 atI .i64 v8 1 fun v10 =>
 ldI .u64 S7 (.rw b1) 1 fun v11 =>
 ldS S7 (.rw b1) 2 fun v12 =>
 ldI .u64 S7 (.rw b1) 3 fun v13 =>
 callT call 38 [(.ptr x1), (.int .u64 v11), (.str v12), (.int .u64 v13)] S7 fun v15 S14 =>
 atI .u32 v15 0 fun v16 =>
 atI .i64 v15 1 fun v17 =>
 cond (v9 == v16) (
 callI .i64 call 15 [(.int .i64 v10)] S14 fun v19 S18 =>
 some (.tup [(.ptr x0), (.bool (v19 == v17))], S18)) (
 some (.tup [(.ptr x0), (.bool false)], S14))) (
 cond (v3 == 2) (
 ldI .u32 S2 (.rw b1) 4 fun v20 =>
 callI .i64 call 21 [(.ptr x0), (.int .u32 v20)] S2 fun v22 S21 =>
 callI .i64 call 15 [(.int .i64 v22)] S21 fun v24 S23 =>
 ldI .u32 S23 (.rw b1) 4 fun v25 =>
 ldI .u32 S21 (.rw b1) 4 fun v26 =>
 cond (AV.beq (.int .u32 v26) (.int .u32 v25)) (
 ldI .u32 S2 (.rw b1) 4 fun v27 =>
 cond (AV.beq (.int .u32 v27) (.int .u32 v25)) (
 callI .i64 call 39 [(.ptr x1), (.int .u32 v25)] S23 fun v29 S28 =>
 some (.tup [(.ptr x0), (.bool (v24 == v29))], S28)) none) none) (
 cond (v3 == 3) (
 S2.ldn (.rw b1) 6 2 fun g30 =>
 callG 2 call 12 [(.agg g30)] S2 fun v32 S31 =>
 callT call 26 [(.ptr x0), (.agg v32)] S31 fun v34 S33 =>
 atL v34 0 fun v35a v35l v35c =>
 atI .i64 v34 1 fun v36 =>
 S33.ldn (.rw b1) 6 2 fun g37 =>
 callT call 40 [(.ptr x1), (.agg g37)] S33 fun v39 S38 =>
 atL v39 0 fun v40a v40l v40c =>
 atI .i64 v39 1 fun v41 =>
 callB call 41 [(.sl v35a v35l v35c), (.sl v40a v40l v40c)] S38 fun v43 S42 =>
 cond v43 (
 callI .i64 call 15 [(.int .i64 v36)] S42 fun v45 S44 =>
 some (.tup [(.ptr x0), (.bool (v45 == v41))], S44)) (
 some (.tup [(.ptr x0), (.bool false)], S42))) (
 cond (v3 == 4) (
 callP call 32 [(.ptr x0)] S2 fun v47 S46 =>
 cond v47.isNone (
 some (.tup [(.ptr x0), (.bool false)], S46)) (
 callS call 20 [(.int .u8 63)] S46 fun v49 S48 =>
 callT call 19 [(.ptr x0), (.int .u64 4611686018427387904), (.str v49), (.int .u64 0)] S48 fun v51 S50 =>
 callT call 26 [(.ptr x0), (.agg [(.int .i64 0), (.sl none 0 (.ex 0))])] S50 fun v53 S52 =>
 some (.tup [(.ptr v47), (.bool true)], S52))) (
 cond (v3 == 5) (
 callL call 31 [(.ptr x0)] S2 fun v55a v55l v55c S54 =>
 callT call 42 [(.sl v55a v55l v55c)] S54 fun v57 S56 =>
 atP v57 0 fun v58 =>
 atI .i64 v57 1 fun v59 =>
 callI .i64 call 15 [(.int .i64 v59)] S56 fun v61 S60 =>
 cond (v61 == 0) (
 some (.tup [(.ptr v58), (.bool (!v58.isNone))], S60)) (
 some (.tup [(.ptr v58), (.bool false)], S60))) (
 some (.tup [(.ptr x0), (.bool true)], S2))))))

theorem a24_entry (call : CallA) (n : Nat) (x0 : Option Pos) (x1 : Option Pos) (x2 : List AV) (S : AS) : evC E call n 24 (E.at 24 []) 0 (enumT 0 [(.ptr x0), (.ptr x1), (.agg x2)]) S (retK E (E.fn 24)) = b24_entry call n  x0 x1 x2 S := by kernel_rfl
def J24 (call : CallA) (n : Nat) (x0 : Option Pos) (x1 : Option Pos) (x2 : List AV) (S : AS) : Option (AV × AS) := b24_entry call n  x0 x1 x2 S
theorem run24 (o : Orc) (n : Nat) (args : List AV) (S : AS) (ho : o 24 args = none) : evF E o (n + 1) (.fn 24) args S = evC E (evF E o n) n 24 (E.at 24 []) 0 (enumT 0 args) S (retK E (E.fn 24)) := by
  rw [evF, ho]; kernel_rfl
theorem J24_eq (call : CallA) (n : Nat) (x0 : Option Pos) (x1 : Option Pos) (x2 : List AV) (S : AS) : evC E call n 24 (E.at 24 []) 0 (enumT 0 [(.ptr x0), (.ptr x1), (.agg x2)]) S (retK E (E.fn 24)) = J24 call n x0 x1 x2 S := by
  rw [J24, a24_entry]
theorem F24 {o : Orc} (n : Nat) (x0 : Option Pos) (x1 : Option Pos) (x2 : List AV) (S : AS) (ho : ∀ args, o 24 args = none) : evF E o (n + 1) (.fn 24) [(.ptr x0), (.ptr x1), (.agg x2)] S = J24 (evF E o n) n x0 x1 x2 S := (run24 o n [(.ptr x0), (.ptr x1), (.agg x2)] S (ho _)).trans (J24_eq _ _ x0 x1 x2 S)
def b25_entry (call : CallA) (n : Nat)  (x0 : Option Pos) (S : AS) : Option (AV × AS) :=
 cond x0.isNone (
 some ((.sl none 0 (.ex 0)), S)) (
 gO x0 fun p1 =>
 ldL S p1.1 p1.2 fun v2a v2l v2c =>
 callL call 43 [(.sl v2a v2l v2c)] S fun v4a v4l v4c S3 =>
 some ((.sl v4a v4l v4c), S3))

theorem a25_entry (call : CallA) (n : Nat) (x0 : Option Pos) (S : AS) : evC E call n 25 (E.at 25 []) 0 (enumT 0 [(.ptr x0)]) S (retK E (E.fn 25)) = b25_entry call n  x0 S := by kernel_rfl
def J25 (call : CallA) (n : Nat) (x0 : Option Pos) (S : AS) : Option (AV × AS) := b25_entry call n  x0 S
theorem run25 (o : Orc) (n : Nat) (args : List AV) (S : AS) (ho : o 25 args = none) : evF E o (n + 1) (.fn 25) args S = evC E (evF E o n) n 25 (E.at 25 []) 0 (enumT 0 args) S (retK E (E.fn 25)) := by
  rw [evF, ho]; kernel_rfl
theorem J25_eq (call : CallA) (n : Nat) (x0 : Option Pos) (S : AS) : evC E call n 25 (E.at 25 []) 0 (enumT 0 [(.ptr x0)]) S (retK E (E.fn 25)) = J25 call n x0 S := by
  rw [J25, a25_entry]
theorem F25 {o : Orc} (n : Nat) (x0 : Option Pos) (S : AS) (ho : ∀ args, o 25 args = none) : evF E o (n + 1) (.fn 25) [(.ptr x0)] S = J25 (evF E o n) n x0 S := (run25 o n [(.ptr x0)] S (ho _)).trans (J25_eq _ _ x0 S)
def b26_l1_1_1_1_0_1_0 (call : CallA) (n : Nat) (l1_1_1_1_0_1_0 : Option Pos → Option Pos → Option Pos → Nat → Cap → Option Pos → Nat → Cap → Int → Int → AS → Option (AV × AS)) (l1_1_1_1_1_1_1_0_1_0 : Option Pos → Option Pos → Nat → Cap → Option Pos → Nat → Cap → Option Pos → Nat → Cap → Int → Int → AS → Option (AV × AS)) (w0 : Option Pos) (w3 : Option Pos) (w7a : Option Pos) (w7l : Nat) (w7c : Cap) (w24a : Option Pos) (w24l : Nat) (w24c : Cap) (w25 : Int) (w26 : Int) (S : AS) : Option (AV × AS) :=
 cond (decide (w26 < w25)) (
 ixSl 4 w24a w24l w26 fun p8 =>
 S.ldn p8.1 p8.2 4 fun g9 =>
 newA S (.cells [(.int .u32 0), (.int .u64 0), (.str ([])), (.int .u64 0)]) fun b10 S11 =>
 ifO (g9.length = 4) <|
 S11.stn (.rw b10) 0 g9 fun S12 =>
 ldI .u64 S12 (.rw b10) 1 fun v13 =>
 newA S12 (.cells [(.int .u64 v13)]) fun b14 S15 =>
 appendA 1 8 S15 w7a w7l w7c 1 (firstA S15 1 1 (.sl (some (.rw b14, 0)) 1 (.ex 1))) fun v16a v16l v16c S17 =>
 l1_1_1_1_0_1_0 w0 w3 v16a v16l v16c w24a w24l w24c w25 (IntKind.wrap .i64 (w26 + 1)) S17) (
 gO w3 fun p18 =>
 S.ldn p18.1 p18.2 2 fun g19 =>
 callL call 11 [(.agg g19), (.sl w7a w7l w7c)] S fun v21a v21l v21c S20 =>
 l1_1_1_1_1_1_1_0_1_0 w0 none 0 (.ex 0) none 0 (.ex 0) v21a v21l v21c ((v21l : Nat) : Int) 0 S20)

def b26_l1_1_1_1_1_1_1_0_1_0 (call : CallA) (n : Nat) (l1_1_1_1_1_1_1_0_1_0 : Option Pos → Option Pos → Nat → Cap → Option Pos → Nat → Cap → Option Pos → Nat → Cap → Int → Int → AS → Option (AV × AS)) (w0 : Option Pos) (w10a : Option Pos) (w10l : Nat) (w10c : Cap) (w11a : Option Pos) (w11l : Nat) (w11c : Cap) (w38a : Option Pos) (w38l : Nat) (w38c : Cap) (w39 : Int) (w40 : Int) (S : AS) : Option (AV × AS) :=
 cond (decide (w40 < w39)) (
 ixSl 1 w38a w38l w40 fun p22 =>
 ldB S p22.1 p22.2 fun v23 =>
 cond v23 (
 gO w0 fun p24 =>
 ldL S p24.1 p24.2 fun v25a v25l v25c =>
 ixSl 4 v25a v25l w40 fun p26 =>
 S.ldn p26.1 p26.2 4 fun g27 =>
 ifO (g27.length = 4) <|
 ifO (0 + g27.length ≤ ([(.int .u32 0), (.int .u64 0), (.str ([])), (.int .u64 0)] : List AV).length) <|
 newA S (.cells (splice [(.int .u32 0), (.int .u64 0), (.str ([])), (.int .u64 0)] 0 g27)) fun b28 S29 =>
 appendA 4 40 S29 w11a w11l w11c 1 (firstA S29 4 1 (.sl (some (.rw b28, 0)) 1 (.ex 1))) fun v31a v31l v31c S32 =>
 l1_1_1_1_1_1_1_0_1_0 w0 w10a w10l w10c v31a v31l v31c w38a w38l w38c w39 (IntKind.wrap .i64 (w40 + 1)) S32) (
 gO w0 fun p33 =>
 ldL S p33.1 p33.2 fun v34a v34l v34c =>
 ixSl 4 v34a v34l w40 fun p35 =>
 ldI .u32 S p35.1 p35.2 fun v36 =>
 newA S (.cells [(.int .u32 v36)]) fun b37 S38 =>
 appendA 1 4 S38 w10a w10l w10c 1 (firstA S38 1 1 (.sl (some (.rw b37, 0)) 1 (.ex 1))) fun v39a v39l v39c S40 =>
 l1_1_1_1_1_1_1_0_1_0 w0 v39a v39l v39c w11a w11l w11c w38a w38l w38c w39 (IntKind.wrap .i64 (w40 + 1)) S40)) (
 gO w0 fun p41 =>
 S.stn p41.1 p41.2 [(.sl w11a w11l w11c)] fun S42 =>
 some (.tup [(.sl w10a w10l w10c), (.int .i64 0)], S42))

def b26_entry (call : CallA) (n : Nat) (l1_1_1_1_0_1_0 : Option Pos → Option Pos → Option Pos → Nat → Cap → Option Pos → Nat → Cap → Int → Int → AS → Option (AV × AS)) (x0 : Option Pos) (x1 : List AV) (S : AS) : Option (AV × AS) :=
 ifO (x1.length = 2) <|
 newA S (.cells x1) fun b1 S2 =>
 cond x0.isNone (
 some (.tup [(.sl none 0 (.ex 0)), (.int .i64 7)], S2)) (
 S2.ldn (.rw b1) 0 2 fun g3 =>
 callI .i64 call 16 [(.agg g3)] S2 fun v5 S4 =>
 cond (v5 != 0) (
 some (.tup [(.sl none 0 (.ex 0)), (.int .i64 v5)], S4)) (
 gO x0 fun p6 =>
 ldL S4 p6.1 p6.2 fun v7a v7l v7c =>
 l1_1_1_1_0_1_0 x0 (some ((.rw b1), 0)) none 0 (.ex 0) v7a v7l v7c ((v7l : Nat) : Int) 0 S4))

def r26_l1_1_1_1_0_1_0 (call : CallA) (n : Nat)  (m : Nat) (w0 : Option Pos) (w3 : Option Pos) (w7a : Option Pos) (w7l : Nat) (w7c : Cap) (w24a : Option Pos) (w24l : Nat) (w24c : Cap) (w25 : Int) (w26 : Int) (S : AS) : Option (AV × AS) := loopN (evC E call n 26 (E.at 26 [1, 1, 1, 1, 0, 1, 0, 0]) 0) [0, 3, 7, 24, 25, 26] m [(0, (.ptr w0)), (3, (.ptr w3)), (7, (.sl w7a w7l w7c)), (24, (.sl w24a w24l w24c)), (25, (.int .i64 w25)), (26, (.int .i64 w26))] S (kBlk 0 (kSeq E call n 26 (E.at 26 [1, 1, 1, 1, 1]) 0 (retK E (E.fn 26))))
def r26_l1_1_1_1_1_1_1_0_1_0 (call : CallA) (n : Nat)  (m : Nat) (w0 : Option Pos) (w10a : Option Pos) (w10l : Nat) (w10c : Cap) (w11a : Option Pos) (w11l : Nat) (w11c : Cap) (w38a : Option Pos) (w38l : Nat) (w38c : Cap) (w39 : Int) (w40 : Int) (S : AS) : Option (AV × AS) := loopN (evC E call n 26 (E.at 26 [1, 1, 1, 1, 1, 1, 1, 0, 1, 0, 0]) 2) [0, 10, 11, 38, 39, 40] m [(0, (.ptr w0)), (10, (.sl w10a w10l w10c)), (11, (.sl w11a w11l w11c)), (38, (.sl w38a w38l w38c)), (39, (.int .i64 w39)), (40, (.int .i64 w40))] S (kBlk 2 (kSeq E call n 26 (E.at 26 [1, 1, 1, 1, 1, 1, 1, 1]) 0 (retK E (E.fn 26))))
theorem a26_l1_1_1_1_0_1_0 (call : CallA) (n : Nat)  (m : Nat) (w0 : Option Pos) (w3 : Option Pos) (w7a : Option Pos) (w7l : Nat) (w7c : Cap) (w24a : Option Pos) (w24l : Nat) (w24c : Cap) (w25 : Int) (w26 : Int) (S : AS) : r26_l1_1_1_1_0_1_0 call n  (m + 1) w0 w3 w7a w7l w7c w24a w24l w24c w25 w26 S = b26_l1_1_1_1_0_1_0 call n (r26_l1_1_1_1_0_1_0 call n  m) (r26_l1_1_1_1_1_1_1_0_1_0 call n  n) w0 w3 w7a w7l w7c w24a w24l w24c w25 w26 S := by kernel_rfl
theorem a26_l1_1_1_1_1_1_1_0_1_0 (call : CallA) (n : Nat)  (m : Nat) (w0 : Option Pos) (w10a : Option Pos) (w10l : Nat) (w10c : Cap) (w11a : Option Pos) (w11l : Nat) (w11c : Cap) (w38a : Option Pos) (w38l : Nat) (w38c : Cap) (w39 : Int) (w40 : Int) (S : AS) : r26_l1_1_1_1_1_1_1_0_1_0 call n  (m + 1) w0 w10a w10l w10c w11a w11l w11c w38a w38l w38c w39 w40 S = b26_l1_1_1_1_1_1_1_0_1_0 call n (r26_l1_1_1_1_1_1_1_0_1_0 call n  m) w0 w10a w10l w10c w11a w11l w11c w38a w38l w38c w39 w40 S := by kernel_rfl
theorem a26_entry (call : CallA) (n : Nat) (x0 : Option Pos) (x1 : List AV) (S : AS) : evC E call n 26 (E.at 26 []) 0 (enumT 0 [(.ptr x0), (.agg x1)]) S (retK E (E.fn 26)) = b26_entry call n (r26_l1_1_1_1_0_1_0 call n  n) x0 x1 S := by kernel_rfl
def J26_l1_1_1_1_1_1_1_0_1_0 (call : CallA) (n : Nat)  (m : Nat) : Option Pos → Option Pos → Nat → Cap → Option Pos → Nat → Cap → Option Pos → Nat → Cap → Int → Int → AS → Option (AV × AS) := Nat.rec (motive := fun _ => Option Pos → Option Pos → Nat → Cap → Option Pos → Nat → Cap → Option Pos → Nat → Cap → Int → Int → AS → Option (AV × AS)) (fun _ _ _ _ _ _ _ _ _ _ _ _ _ => none) (fun _ ih w0 w10a w10l w10c w11a w11l w11c w38a w38l w38c w39 w40 S => b26_l1_1_1_1_1_1_1_0_1_0 call n ih w0 w10a w10l w10c w11a w11l w11c w38a w38l w38c w39 w40 S) m
theorem J26_l1_1_1_1_1_1_1_0_1_0_succ (call : CallA) (n : Nat)  (m : Nat) (w0 : Option Pos) (w10a : Option Pos) (w10l : Nat) (w10c : Cap) (w11a : Option Pos) (w11l : Nat) (w11c : Cap) (w38a : Option Pos) (w38l : Nat) (w38c : Cap) (w39 : Int) (w40 : Int) (S : AS) : J26_l1_1_1_1_1_1_1_0_1_0 call n  (m + 1) w0 w10a w10l w10c w11a w11l w11c w38a w38l w38c w39 w40 S = b26_l1_1_1_1_1_1_1_0_1_0 call n (J26_l1_1_1_1_1_1_1_0_1_0 call n  m) w0 w10a w10l w10c w11a w11l w11c w38a w38l w38c w39 w40 S := rfl
theorem h26_l1_1_1_1_1_1_1_0_1_0 (call : CallA) (n : Nat)  (m : Nat) : r26_l1_1_1_1_1_1_1_0_1_0 call n  m = J26_l1_1_1_1_1_1_1_0_1_0 call n  m := by
  induction m with
  | zero => rfl
  | succ m ih =>
    funext w0 w10a w10l w10c w11a w11l w11c w38a w38l w38c w39 w40 S
    rw [J26_l1_1_1_1_1_1_1_0_1_0_succ, a26_l1_1_1_1_1_1_1_0_1_0, ih]
def J26_l1_1_1_1_0_1_0 (call : CallA) (n : Nat)  (m : Nat) : Option Pos → Option Pos → Option Pos → Nat → Cap → Option Pos → Nat → Cap → Int → Int → AS → Option (AV × AS) := Nat.rec (motive := fun _ => Option Pos → Option Pos → Option Pos → Nat → Cap → Option Pos → Nat → Cap → Int → Int → AS → Option (AV × AS)) (fun _ _ _ _ _ _ _ _ _ _ _ => none) (fun _ ih w0 w3 w7a w7l w7c w24a w24l w24c w25 w26 S => b26_l1_1_1_1_0_1_0 call n ih (J26_l1_1_1_1_1_1_1_0_1_0 call n  n) w0 w3 w7a w7l w7c w24a w24l w24c w25 w26 S) m
theorem J26_l1_1_1_1_0_1_0_succ (call : CallA) (n : Nat)  (m : Nat) (w0 : Option Pos) (w3 : Option Pos) (w7a : Option Pos) (w7l : Nat) (w7c : Cap) (w24a : Option Pos) (w24l : Nat) (w24c : Cap) (w25 : Int) (w26 : Int) (S : AS) : J26_l1_1_1_1_0_1_0 call n  (m + 1) w0 w3 w7a w7l w7c w24a w24l w24c w25 w26 S = b26_l1_1_1_1_0_1_0 call n (J26_l1_1_1_1_0_1_0 call n  m) (J26_l1_1_1_1_1_1_1_0_1_0 call n  n) w0 w3 w7a w7l w7c w24a w24l w24c w25 w26 S := rfl
theorem h26_l1_1_1_1_0_1_0 (call : CallA) (n : Nat)  (m : Nat) : r26_l1_1_1_1_0_1_0 call n  m = J26_l1_1_1_1_0_1_0 call n  m := by
  induction m with
  | zero => rfl
  | succ m ih =>
    funext w0 w3 w7a w7l w7c w24a w24l w24c w25 w26 S
    rw [J26_l1_1_1_1_0_1_0_succ, a26_l1_1_1_1_0_1_0, h26_l1_1_1_1_1_1_1_0_1_0 call n  n, ih]
def J26 (call : CallA) (n : Nat) (x0 : Option Pos) (x1 : List AV) (S : AS) : Option (AV × AS) := b26_entry call n (J26_l1_1_1_1_0_1_0 call n  n) x0 x1 S
theorem run26 (o : Orc) (n : Nat) (args : List AV) (S : AS) (ho : o 26 args = none) : evF E o (n + 1) (.fn 26) args S = evC E (evF E o n) n 26 (E.at 26 []) 0 (enumT 0 args) S (retK E (E.fn 26)) := by
  rw [evF, ho]; kernel_rfl
theorem J26_eq (call : CallA) (n : Nat) (x0 : Option Pos) (x1 : List AV) (S : AS) : evC E call n 26 (E.at 26 []) 0 (enumT 0 [(.ptr x0), (.agg x1)]) S (retK E (E.fn 26)) = J26 call n x0 x1 S := by
  rw [J26, a26_entry, h26_l1_1_1_1_0_1_0 call n  n]
theorem F26 {o : Orc} (n : Nat) (x0 : Option Pos) (x1 : List AV) (S : AS) (ho : ∀ args, o 26 args = none) : evF E o (n + 1) (.fn 26) [(.ptr x0), (.agg x1)] S = J26 (evF E o n) n x0 x1 S := (run26 o n [(.ptr x0), (.agg x1)] S (ho _)).trans (J26_eq _ _ x0 x1 S)
def b27_entry (call : CallA) (n : Nat)  (x0 : Option Pos) (x1 : Int) (S : AS) : Option (AV × AS) :=
 newA S (.cells [(.int .u32 0), (.int .u64 0), (.str ([])), (.int .u64 0)]) fun b1 S2 =>
 callI .i64 call 36 [(.ptr x0), (.int .u32 x1)] S2 fun v4 S3 =>
 cond (decide (v4 < 0)) (
 S3.stn (.rw b1) 0 [(.int .u32 0), (.int .u64 0), (.str ([])), (.int .u64 0)] fun S5 =>
 S5.ldn (.rw b1) 0 4 fun g6 =>
 some (.tup [(.agg g6), (.bool false)], S5)) (
 gO x0 fun p7 =>
 ldL S3 p7.1 p7.2 fun v8a v8l v8c =>
 ixSl 4 v8a v8l v4 fun p9 =>
 S3.ldn p9.1 p9.2 4 fun g10 =>
 ifO (g10.length = 4) <|
 S3.stn (.rw b1) 0 g10 fun S11 =>
 S11.ldn (.rw b1) 0 4 fun g12 =>
 some (.tup [(.agg g12), (.bool true)], S11))

theorem a27_entry (call : CallA) (n : Nat) (x0 : Option Pos) (x1 : Int) (S : AS) : evC E call n 27 (E.at 27 []) 0 (enumT 0 [(.ptr x0), (.int .u32 x1)]) S (retK E (E.fn 27)) = b27_entry call n  x0 x1 S := by kernel_rfl
def J27 (call : CallA) (n : Nat) (x0 : Option Pos) (x1 : Int) (S : AS) : Option (AV × AS) := b27_entry call n  x0 x1 S
theorem run27 (o : Orc) (n : Nat) (args : List AV) (S : AS) (ho : o 27 args = none) : evF E o (n + 1) (.fn 27) args S = evC E (evF E o n) n 27 (E.at 27 []) 0 (enumT 0 args) S (retK E (E.fn 27)) := by
  rw [evF, ho]; kernel_rfl
theorem J27_eq (call : CallA) (n : Nat) (x0 : Option Pos) (x1 : Int) (S : AS) : evC E call n 27 (E.at 27 []) 0 (enumT 0 [(.ptr x0), (.int .u32 x1)]) S (retK E (E.fn 27)) = J27 call n x0 x1 S := by
  rw [J27, a27_entry]
theorem F27 {o : Orc} (n : Nat) (x0 : Option Pos) (x1 : Int) (S : AS) (ho : ∀ args, o 27 args = none) : evF E o (n + 1) (.fn 27) [(.ptr x0), (.int .u32 x1)] S = J27 (evF E o n) n x0 x1 S := (run27 o n [(.ptr x0), (.int .u32 x1)] S (ho _)).trans (J27_eq _ _ x0 x1 S)
def b28_entry (call : CallA) (n : Nat)  (x0 : Option Pos) (x1 : List UInt8) (S : AS) : Option (AV × AS) :=
 newA S (.cells [(.int .u32 0), (.int .u64 0), (.str ([])), (.int .u64 0)]) fun b1 S2 =>
 callT call 44 [(.str x1), (.str ([115]))] S2 fun v4 S3 =>
 atS v4 0 fun v5 =>
 atB v4 1 fun v6 =>
 callT call 45 [(.str v5), (.int .i64 10), (.int .i64 32)] S3 fun v8 S7 =>
 atI .u64 v8 0 fun v9 =>
 atV v8 1 fun v10 =>
 callT call 27 [(.ptr x0), (.int .u32 (IntKind.wrap .u32 v9))] S7 fun v12 S11 =>
 atG 4 v12 0 fun g13 =>
 atB v12 1 fun v14 =>
 newA S11 (.cells [(.int .u32 0), (.int .u64 0), (.str ([])), (.int .u64 0)]) fun b15 S16 =>
 ifO (g13.length = 4) <|
 S16.stn (.rw b15) 0 g13 fun S17 =>
 cond (!v6) (
 S17.stn (.rw b1) 0 [(.int .u32 0), (.int .u64 0), (.str ([])), (.int .u64 0)] fun S18 =>
 S18.ldn (.rw b1) 0 4 fun g19 =>
 some (.tup [(.agg g19), (.bool false)], S18)) (
 ifNil E .neq ty99 v10 fun b20 =>
 cond b20 (
 S17.stn (.rw b1) 0 [(.int .u32 0), (.int .u64 0), (.str ([])), (.int .u64 0)] fun S21 =>
 S21.ldn (.rw b1) 0 4 fun g22 =>
 some (.tup [(.agg g22), (.bool false)], S21)) (
 cond (!v14) (
 S17.stn (.rw b1) 0 [(.int .u32 0), (.int .u64 0), (.str ([])), (.int .u64 0)] fun S23 =>
 S23.ldn (.rw b1) 0 4 fun g24 =>
 some (.tup [(.agg g24), (.bool false)], S23)) (
 S17.ldn (.rw b15) 0 4 fun g25 =>
 callS call 33 [(.agg g25)] S17 fun v27 S26 =>
 cond (!(v27 == x1)) (
 S26.stn (.rw b1) 0 [(.int .u32 0), (.int .u64 0), (.str ([])), (.int .u64 0)] fun S28 =>
 S28.ldn (.rw b1) 0 4 fun g29 =>
 some (.tup [(.agg g29), (.bool false)], S28)) (
 S26.ldn (.rw b15) 0 4 fun g30 =>
 ifO (g30.length = 4) <|
 S26.stn (.rw b1) 0 g30 fun S31 =>
 S31.ldn (.rw b1) 0 4 fun g32 =>
 some (.tup [(.agg g32), (.bool true)], S31)))))

theorem a28_entry (call : CallA) (n : Nat) (x0 : Option Pos) (x1 : List UInt8) (S : AS) : evC E call n 28 (E.at 28 []) 0 (enumT 0 [(.ptr x0), (.str x1)]) S (retK E (E.fn 28)) = b28_entry call n  x0 x1 S := by kernel_rfl
def J28 (call : CallA) (n : Nat) (x0 : Option Pos) (x1 : List UInt8) (S : AS) : Option (AV × AS) := b28_entry call n  x0 x1 S
theorem run28 (o : Orc) (n : Nat) (args : List AV) (S : AS) (ho : o 28 args = none) : evF E o (n + 1) (.fn 28) args S = evC E (evF E o n) n 28 (E.at 28 []) 0 (enumT 0 args) S (retK E (E.fn 28)) := by
  rw [evF, ho]; kernel_rfl
theorem J28_eq (call : CallA) (n : Nat) (x0 : Option Pos) (x1 : List UInt8) (S : AS) : evC E call n 28 (E.at 28 []) 0 (enumT 0 [(.ptr x0), (.str x1)]) S (retK E (E.fn 28)) = J28 call n x0 x1 S := by
  rw [J28, a28_entry]
theorem F28 {o : Orc} (n : Nat) (x0 : Option Pos) (x1 : List UInt8) (S : AS) (ho : ∀ args, o 28 args = none) : evF E o (n + 1) (.fn 28) [(.ptr x0), (.str x1)] S = J28 (evF E o n) n x0 x1 S := (run28 o n [(.ptr x0), (.str x1)] S (ho _)).trans (J28_eq _ _ x0 x1 S)
def b29_entry (call : CallA) (n : Nat)  (x0 : Option Pos) (S : AS) : Option (AV × AS) :=
 cond x0.isNone (
 some ((.int .u32 0), S)) (
 gO x0 fun p1 =>
 ldI .u64 S p1.1 (p1.2 + 1) fun v2 =>
 cond (decide (v2 ≥ 4294967295)) (
 some ((.int .u32 0), S)) (
 gO x0 fun p3 =>
 ldI .u64 S p3.1 (p3.2 + 1) fun v4 =>
 some ((.int .u32 (IntKind.wrap .u32 ((IntKind.wrap .u32 v4) + 1))), S)))

theorem a29_entry (call : CallA) (n : Nat) (x0 : Option Pos) (S : AS) : evC E call n 29 (E.at 29 []) 0 (enumT 0 [(.ptr x0)]) S (retK E (E.fn 29)) = b29_entry call n  x0 S := by kernel_rfl
def J29 (call : CallA) (n : Nat) (x0 : Option Pos) (S : AS) : Option (AV × AS) := b29_entry call n  x0 S
theorem run29 (o : Orc) (n : Nat) (args : List AV) (S : AS) (ho : o 29 args = none) : evF E o (n + 1) (.fn 29) args S = evC E (evF E o n) n 29 (E.at 29 []) 0 (enumT 0 args) S (retK E (E.fn 29)) := by
  rw [evF, ho]; kernel_rfl
theorem J29_eq (call : CallA) (n : Nat) (x0 : Option Pos) (S : AS) : evC E call n 29 (E.at 29 []) 0 (enumT 0 [(.ptr x0)]) S (retK E (E.fn 29)) = J29 call n x0 S := by
  rw [J29, a29_entry]
theorem F29 {o : Orc} (n : Nat) (x0 : Option Pos) (S : AS) (ho : ∀ args, o 29 args = none) : evF E o (n + 1) (.fn 29) [(.ptr x0)] S = J29 (evF E o n) n x0 S := (run29 o n [(.ptr x0)] S (ho _)).trans (J29_eq _ _ x0 S)
end
end Go.Ct
