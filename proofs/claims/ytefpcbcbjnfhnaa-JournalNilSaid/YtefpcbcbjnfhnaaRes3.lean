/- Plain readings of the functions, and that they are what the evaluator does: by program. -/
import Derived.Test.YtefpcbcbjnfhnaaGrRes
import Derived.Test.YtefpcbcbjnfhnaaENV
import Derived.KernelRfl
set_option maxRecDepth 100000
set_option linter.unusedVariables false
namespace Go.Jn
open Go.Gr
noncomputable section
def b42_l1_0_1_0 (call : CallA) (n : Nat)  (l1_0_1_0 : Option Pos → Nat → Cap → Int → Int → AS → Option (AV × AS)) (w0a : Option Pos) (w0l : Nat) (w0c : Cap) (w1 : Int) (w7 : Int) (S : AS) : Option (AV × AS) :=
 cond (decide (w7 ≥ 0)) (
 nneg (IntKind.wrap .u64 (IntKind.wrap .i64 (8 * w7))) <|
 newA S (.cells [(.int .u8 (IntKind.wrap .u8 (shrI .u64 w1 (IntKind.wrap .u64 (IntKind.wrap .i64 (8 * w7))))))]) fun b1 S2 =>
 appendA 1 1 S2 w0a w0l w0c 1 (firstA S2 1 1 (.sl (some (.rw b1, 0)) 1 (.ex 1))) fun v3a v3l v3c S4 =>
 l1_0_1_0 v3a v3l v3c w1 (IntKind.wrap .i64 (w7 - 1)) S4) (
 some ((.sl w0a w0l w0c), S))

def b42_entry (call : CallA) (n : Nat)  (l1_0_1_0 : Option Pos → Nat → Cap → Int → Int → AS → Option (AV × AS)) (x0a : Option Pos) (x0l : Nat) (x0c : Cap) (x1 : Int) (x2 : Int) (S : AS) : Option (AV × AS) :=
 l1_0_1_0 x0a x0l x0c x1 (IntKind.wrap .i64 (x2 - 1)) S

def r42_l1_0_1_0 (call : CallA) (n : Nat)  (m : Nat) (w0a : Option Pos) (w0l : Nat) (w0c : Cap) (w1 : Int) (w7 : Int) (S : AS) : Option (AV × AS) := loopN (evC E call n 42 (E.at 42 [1, 0, 1, 0, 0]) 0) [0, 1, 7] m [(0, (.sl w0a w0l w0c)), (1, (.int .u64 w1)), (7, (.int .i64 w7))] S (kBlk 0 (kSeq E call n 42 (E.at 42 [1, 1]) 0 (retK E (E.fn 42))))
theorem a42_l1_0_1_0 (call : CallA) (n : Nat)  (m : Nat) (w0a : Option Pos) (w0l : Nat) (w0c : Cap) (w1 : Int) (w7 : Int) (S : AS) : r42_l1_0_1_0 call n  (m + 1) w0a w0l w0c w1 w7 S = b42_l1_0_1_0 call n (r42_l1_0_1_0 call n  m) w0a w0l w0c w1 w7 S := by kernel_rfl
theorem a42_entry (call : CallA) (n : Nat) (x0a : Option Pos) (x0l : Nat) (x0c : Cap) (x1 : Int) (x2 : Int) (S : AS) : evC E call n 42 (E.at 42 []) 0 (enumT 0 [(.sl x0a x0l x0c), (.int .u64 x1), (.int .i64 x2)]) S (retK E (E.fn 42)) = b42_entry call n (r42_l1_0_1_0 call n  n) x0a x0l x0c x1 x2 S := by kernel_rfl
def J42_l1_0_1_0 (call : CallA) (n : Nat)  (m : Nat) : Option Pos → Nat → Cap → Int → Int → AS → Option (AV × AS) := Nat.rec (motive := fun _ => Option Pos → Nat → Cap → Int → Int → AS → Option (AV × AS)) (fun _ _ _ _ _ _ => none) (fun mK ih w0a w0l w0c w1 w7 S => b42_l1_0_1_0 call n ih w0a w0l w0c w1 w7 S) m
theorem J42_l1_0_1_0_succ (call : CallA) (n : Nat)  (m : Nat) (w0a : Option Pos) (w0l : Nat) (w0c : Cap) (w1 : Int) (w7 : Int) (S : AS) : J42_l1_0_1_0 call n  (m + 1) w0a w0l w0c w1 w7 S = b42_l1_0_1_0 call n (J42_l1_0_1_0 call n  m) w0a w0l w0c w1 w7 S := rfl
theorem h42_l1_0_1_0 (call : CallA) (n : Nat)  (m : Nat) : r42_l1_0_1_0 call n  m = J42_l1_0_1_0 call n  m := by
  induction m with
  | zero => rfl
  | succ m ih =>
    funext w0a w0l w0c w1 w7 S
    rw [J42_l1_0_1_0_succ, a42_l1_0_1_0, ih]
def J42 (call : CallA) (n : Nat) (x0a : Option Pos) (x0l : Nat) (x0c : Cap) (x1 : Int) (x2 : Int) (S : AS) : Option (AV × AS) := b42_entry call n (J42_l1_0_1_0 call n  n) x0a x0l x0c x1 x2 S
theorem run42 (o : Orc) (n : Nat) (args : List AV) (S : AS) (ho : o 42 args = none) : evF E o (n + 1) (.fn 42) args S = evC E (evF E o n) n 42 (E.at 42 []) 0 (enumT 0 args) S (retK E (E.fn 42)) := by
  rw [evF, ho]; kernel_rfl
theorem J42_eq (call : CallA) (n : Nat) (x0a : Option Pos) (x0l : Nat) (x0c : Cap) (x1 : Int) (x2 : Int) (S : AS) : evC E call n 42 (E.at 42 []) 0 (enumT 0 [(.sl x0a x0l x0c), (.int .u64 x1), (.int .i64 x2)]) S (retK E (E.fn 42)) = J42 call n x0a x0l x0c x1 x2 S := by
  rw [J42, a42_entry, h42_l1_0_1_0 call n  n]
theorem F42 {o : Orc} (n : Nat) (x0a : Option Pos) (x0l : Nat) (x0c : Cap) (x1 : Int) (x2 : Int) (S : AS) (ho : ∀ args, o 42 args = none) : evF E o (n + 1) (.fn 42) [(.sl x0a x0l x0c), (.int .u64 x1), (.int .i64 x2)] S = J42 (evF E o n) n x0a x0l x0c x1 x2 S := (run42 o n [(.sl x0a x0l x0c), (.int .u64 x1), (.int .i64 x2)] S (ho _)).trans (J42_eq _ _ x0a x0l x0c x1 x2 S)
def b43_entry (call : CallA) (n : Nat)   (x0a : Option Pos) (x0l : Nat) (x0c : Cap) (S : AS) : Option (AV × AS) :=
 appendZA 1 1 [(.int .u8 0)] S x0a x0l x0c (IntKind.wrap .i64 (384 - ((x0l : Nat) : Int))) fun v1a v1l v1c S2 =>
 some ((.sl v1a v1l v1c), S2)

theorem a43_entry (call : CallA) (n : Nat) (x0a : Option Pos) (x0l : Nat) (x0c : Cap) (S : AS) : evC E call n 43 (E.at 43 []) 0 (enumT 0 [(.sl x0a x0l x0c)]) S (retK E (E.fn 43)) = b43_entry call n  x0a x0l x0c S := by kernel_rfl
def J43 (call : CallA) (n : Nat) (x0a : Option Pos) (x0l : Nat) (x0c : Cap) (S : AS) : Option (AV × AS) := b43_entry call n  x0a x0l x0c S
theorem run43 (o : Orc) (n : Nat) (args : List AV) (S : AS) (ho : o 43 args = none) : evF E o (n + 1) (.fn 43) args S = evC E (evF E o n) n 43 (E.at 43 []) 0 (enumT 0 args) S (retK E (E.fn 43)) := by
  rw [evF, ho]; kernel_rfl
theorem J43_eq (call : CallA) (n : Nat) (x0a : Option Pos) (x0l : Nat) (x0c : Cap) (S : AS) : evC E call n 43 (E.at 43 []) 0 (enumT 0 [(.sl x0a x0l x0c)]) S (retK E (E.fn 43)) = J43 call n x0a x0l x0c S := by
  rw [J43, a43_entry]
theorem F43 {o : Orc} (n : Nat) (x0a : Option Pos) (x0l : Nat) (x0c : Cap) (S : AS) (ho : ∀ args, o 43 args = none) : evF E o (n + 1) (.fn 43) [(.sl x0a x0l x0c)] S = J43 (evF E o n) n x0a x0l x0c S := (run43 o n [(.sl x0a x0l x0c)] S (ho _)).trans (J43_eq _ _ x0a x0l x0c S)
def b44_l1_1_0_1_0 (call : CallA) (n : Nat)  (l1_1_0_1_0 : Int → Option Pos → Nat → Cap → Int → Int → AS → Option (AV × AS)) (w3 : Int) (w6a : Option Pos) (w6l : Nat) (w6c : Cap) (w7 : Int) (w8 : Int) (S : AS) : Option (AV × AS) :=
 cond (decide (w8 < w7)) (
 ixSl 1 w6a w6l w8 fun p1 =>
 ldI .u8 S p1.1 p1.2 fun v2 =>
 l1_1_0_1_0 (orI .u64 (shlI .u64 w3 8) (IntKind.wrap .u64 v2)) w6a w6l w6c w7 (IntKind.wrap .i64 (w8 + 1)) S) (
 some ((.int .u64 w3), S))

def b44_entry (call : CallA) (n : Nat)  (l1_1_0_1_0 : Int → Option Pos → Nat → Cap → Int → Int → AS → Option (AV × AS)) (x0a : Option Pos) (x0l : Nat) (x0c : Cap) (S : AS) : Option (AV × AS) :=
 l1_1_0_1_0 0 x0a x0l x0c ((x0l : Nat) : Int) 0 S

def r44_l1_1_0_1_0 (call : CallA) (n : Nat)  (m : Nat) (w3 : Int) (w6a : Option Pos) (w6l : Nat) (w6c : Cap) (w7 : Int) (w8 : Int) (S : AS) : Option (AV × AS) := loopN (evC E call n 44 (E.at 44 [1, 1, 0, 1, 0, 0]) 0) [3, 6, 7, 8] m [(3, (.int .u64 w3)), (6, (.sl w6a w6l w6c)), (7, (.int .i64 w7)), (8, (.int .i64 w8))] S (kBlk 0 (kSeq E call n 44 (E.at 44 [1, 1, 1]) 0 (retK E (E.fn 44))))
theorem a44_l1_1_0_1_0 (call : CallA) (n : Nat)  (m : Nat) (w3 : Int) (w6a : Option Pos) (w6l : Nat) (w6c : Cap) (w7 : Int) (w8 : Int) (S : AS) : r44_l1_1_0_1_0 call n  (m + 1) w3 w6a w6l w6c w7 w8 S = b44_l1_1_0_1_0 call n (r44_l1_1_0_1_0 call n  m) w3 w6a w6l w6c w7 w8 S := by kernel_rfl
theorem a44_entry (call : CallA) (n : Nat) (x0a : Option Pos) (x0l : Nat) (x0c : Cap) (S : AS) : evC E call n 44 (E.at 44 []) 0 (enumT 0 [(.sl x0a x0l x0c)]) S (retK E (E.fn 44)) = b44_entry call n (r44_l1_1_0_1_0 call n  n) x0a x0l x0c S := by kernel_rfl
def J44_l1_1_0_1_0 (call : CallA) (n : Nat)  (m : Nat) : Int → Option Pos → Nat → Cap → Int → Int → AS → Option (AV × AS) := Nat.rec (motive := fun _ => Int → Option Pos → Nat → Cap → Int → Int → AS → Option (AV × AS)) (fun _ _ _ _ _ _ _ => none) (fun mK ih w3 w6a w6l w6c w7 w8 S => b44_l1_1_0_1_0 call n ih w3 w6a w6l w6c w7 w8 S) m
theorem J44_l1_1_0_1_0_succ (call : CallA) (n : Nat)  (m : Nat) (w3 : Int) (w6a : Option Pos) (w6l : Nat) (w6c : Cap) (w7 : Int) (w8 : Int) (S : AS) : J44_l1_1_0_1_0 call n  (m + 1) w3 w6a w6l w6c w7 w8 S = b44_l1_1_0_1_0 call n (J44_l1_1_0_1_0 call n  m) w3 w6a w6l w6c w7 w8 S := rfl
theorem h44_l1_1_0_1_0 (call : CallA) (n : Nat)  (m : Nat) : r44_l1_1_0_1_0 call n  m = J44_l1_1_0_1_0 call n  m := by
  induction m with
  | zero => rfl
  | succ m ih =>
    funext w3 w6a w6l w6c w7 w8 S
    rw [J44_l1_1_0_1_0_succ, a44_l1_1_0_1_0, ih]
def J44 (call : CallA) (n : Nat) (x0a : Option Pos) (x0l : Nat) (x0c : Cap) (S : AS) : Option (AV × AS) := b44_entry call n (J44_l1_1_0_1_0 call n  n) x0a x0l x0c S
theorem run44 (o : Orc) (n : Nat) (args : List AV) (S : AS) (ho : o 44 args = none) : evF E o (n + 1) (.fn 44) args S = evC E (evF E o n) n 44 (E.at 44 []) 0 (enumT 0 args) S (retK E (E.fn 44)) := by
  rw [evF, ho]; kernel_rfl
theorem J44_eq (call : CallA) (n : Nat) (x0a : Option Pos) (x0l : Nat) (x0c : Cap) (S : AS) : evC E call n 44 (E.at 44 []) 0 (enumT 0 [(.sl x0a x0l x0c)]) S (retK E (E.fn 44)) = J44 call n x0a x0l x0c S := by
  rw [J44, a44_entry, h44_l1_1_0_1_0 call n  n]
theorem F44 {o : Orc} (n : Nat) (x0a : Option Pos) (x0l : Nat) (x0c : Cap) (S : AS) (ho : ∀ args, o 44 args = none) : evF E o (n + 1) (.fn 44) [(.sl x0a x0l x0c)] S = J44 (evF E o n) n x0a x0l x0c S := (run44 o n [(.sl x0a x0l x0c)] S (ho _)).trans (J44_eq _ _ x0a x0l x0c S)
def b45_entry (call : CallA) (n : Nat)   (x0a : Option Pos) (x0l : Nat) (x0c : Cap) (S : AS) : Option (AV × AS) :=
 cond x0a.isNone (
 some ((.sl none 0 (.ex 0)), S)) (
 newA S (.cells []) fun b1 S2 =>
 appendA 1 1 S2 (some (.rw b1, 0)) 0 (.ex 0) x0l (firstA S2 1 x0l (.sl x0a x0l x0c)) fun v3a v3l v3c S4 =>
 some ((.sl v3a v3l v3c), S4))

theorem a45_entry (call : CallA) (n : Nat) (x0a : Option Pos) (x0l : Nat) (x0c : Cap) (S : AS) : evC E call n 45 (E.at 45 []) 0 (enumT 0 [(.sl x0a x0l x0c)]) S (retK E (E.fn 45)) = b45_entry call n  x0a x0l x0c S := by kernel_rfl
def J45 (call : CallA) (n : Nat) (x0a : Option Pos) (x0l : Nat) (x0c : Cap) (S : AS) : Option (AV × AS) := b45_entry call n  x0a x0l x0c S
theorem run45 (o : Orc) (n : Nat) (args : List AV) (S : AS) (ho : o 45 args = none) : evF E o (n + 1) (.fn 45) args S = evC E (evF E o n) n 45 (E.at 45 []) 0 (enumT 0 args) S (retK E (E.fn 45)) := by
  rw [evF, ho]; kernel_rfl
theorem J45_eq (call : CallA) (n : Nat) (x0a : Option Pos) (x0l : Nat) (x0c : Cap) (S : AS) : evC E call n 45 (E.at 45 []) 0 (enumT 0 [(.sl x0a x0l x0c)]) S (retK E (E.fn 45)) = J45 call n x0a x0l x0c S := by
  rw [J45, a45_entry]
theorem F45 {o : Orc} (n : Nat) (x0a : Option Pos) (x0l : Nat) (x0c : Cap) (S : AS) (ho : ∀ args, o 45 args = none) : evF E o (n + 1) (.fn 45) [(.sl x0a x0l x0c)] S = J45 (evF E o n) n x0a x0l x0c S := (run45 o n [(.sl x0a x0l x0c)] S (ho _)).trans (J45_eq _ _ x0a x0l x0c S)
def b46_l1_1_0_1_0 (call : CallA) (n : Nat)  (l1_1_0_1_0 : Option Pos → Nat → Cap → Option Pos → Nat → Cap → Bool → Int → Int → AS → Option (AV × AS)) (w0a : Option Pos) (w0l : Nat) (w0c : Cap) (w1a : Option Pos) (w1l : Nat) (w1c : Cap) (w4 : Bool) (w12 : Int) (w13 : Int) (S : AS) : Option (AV × AS) :=
 cond (decide (w13 < w12)) (
 ixSl 1 w0a w0l w13 fun p1 =>
 ldI .u8 S p1.1 p1.2 fun v2 =>
 ixSl 1 w1a w1l w13 fun p3 =>
 ldI .u8 S p3.1 p3.2 fun v4 =>
 cond (v2 != v4) (
 some ((.bool false), S)) (
 l1_1_0_1_0 w0a w0l w0c w1a w1l w1c w4 w12 (IntKind.wrap .i64 (w13 + 1)) S)) (
 some ((.bool true), S))

def b46_entry (call : CallA) (n : Nat)  (l1_1_0_1_0 : Option Pos → Nat → Cap → Option Pos → Nat → Cap → Bool → Int → Int → AS → Option (AV × AS)) (x0a : Option Pos) (x0l : Nat) (x0c : Cap) (x1a : Option Pos) (x1l : Nat) (x1c : Cap) (S : AS) : Option (AV × AS) :=
 cond (((x0l : Nat) : Int) != ((x1l : Nat) : Int)) (
 some ((.bool false), S)) (
 l1_1_0_1_0 x0a x0l x0c x1a x1l x1c false ((x0l : Nat) : Int) 0 S)

def r46_l1_1_0_1_0 (call : CallA) (n : Nat)  (m : Nat) (w0a : Option Pos) (w0l : Nat) (w0c : Cap) (w1a : Option Pos) (w1l : Nat) (w1c : Cap) (w4 : Bool) (w12 : Int) (w13 : Int) (S : AS) : Option (AV × AS) := loopN (evC E call n 46 (E.at 46 [1, 1, 0, 1, 0, 0]) 0) [0, 1, 4, 12, 13] m [(0, (.sl w0a w0l w0c)), (1, (.sl w1a w1l w1c)), (4, (.bool w4)), (12, (.int .i64 w12)), (13, (.int .i64 w13))] S (kBlk 0 (kSeq E call n 46 (E.at 46 [1, 1, 1]) 0 (retK E (E.fn 46))))
theorem a46_l1_1_0_1_0 (call : CallA) (n : Nat)  (m : Nat) (w0a : Option Pos) (w0l : Nat) (w0c : Cap) (w1a : Option Pos) (w1l : Nat) (w1c : Cap) (w4 : Bool) (w12 : Int) (w13 : Int) (S : AS) : r46_l1_1_0_1_0 call n  (m + 1) w0a w0l w0c w1a w1l w1c w4 w12 w13 S = b46_l1_1_0_1_0 call n (r46_l1_1_0_1_0 call n  m) w0a w0l w0c w1a w1l w1c w4 w12 w13 S := by kernel_rfl
theorem a46_entry (call : CallA) (n : Nat) (x0a : Option Pos) (x0l : Nat) (x0c : Cap) (x1a : Option Pos) (x1l : Nat) (x1c : Cap) (S : AS) : evC E call n 46 (E.at 46 []) 0 (enumT 0 [(.sl x0a x0l x0c), (.sl x1a x1l x1c)]) S (retK E (E.fn 46)) = b46_entry call n (r46_l1_1_0_1_0 call n  n) x0a x0l x0c x1a x1l x1c S := by kernel_rfl
def J46_l1_1_0_1_0 (call : CallA) (n : Nat)  (m : Nat) : Option Pos → Nat → Cap → Option Pos → Nat → Cap → Bool → Int → Int → AS → Option (AV × AS) := Nat.rec (motive := fun _ => Option Pos → Nat → Cap → Option Pos → Nat → Cap → Bool → Int → Int → AS → Option (AV × AS)) (fun _ _ _ _ _ _ _ _ _ _ => none) (fun mK ih w0a w0l w0c w1a w1l w1c w4 w12 w13 S => b46_l1_1_0_1_0 call n ih w0a w0l w0c w1a w1l w1c w4 w12 w13 S) m
theorem J46_l1_1_0_1_0_succ (call : CallA) (n : Nat)  (m : Nat) (w0a : Option Pos) (w0l : Nat) (w0c : Cap) (w1a : Option Pos) (w1l : Nat) (w1c : Cap) (w4 : Bool) (w12 : Int) (w13 : Int) (S : AS) : J46_l1_1_0_1_0 call n  (m + 1) w0a w0l w0c w1a w1l w1c w4 w12 w13 S = b46_l1_1_0_1_0 call n (J46_l1_1_0_1_0 call n  m) w0a w0l w0c w1a w1l w1c w4 w12 w13 S := rfl
theorem h46_l1_1_0_1_0 (call : CallA) (n : Nat)  (m : Nat) : r46_l1_1_0_1_0 call n  m = J46_l1_1_0_1_0 call n  m := by
  induction m with
  | zero => rfl
  | succ m ih =>
    funext w0a w0l w0c w1a w1l w1c w4 w12 w13 S
    rw [J46_l1_1_0_1_0_succ, a46_l1_1_0_1_0, ih]
def J46 (call : CallA) (n : Nat) (x0a : Option Pos) (x0l : Nat) (x0c : Cap) (x1a : Option Pos) (x1l : Nat) (x1c : Cap) (S : AS) : Option (AV × AS) := b46_entry call n (J46_l1_1_0_1_0 call n  n) x0a x0l x0c x1a x1l x1c S
theorem run46 (o : Orc) (n : Nat) (args : List AV) (S : AS) (ho : o 46 args = none) : evF E o (n + 1) (.fn 46) args S = evC E (evF E o n) n 46 (E.at 46 []) 0 (enumT 0 args) S (retK E (E.fn 46)) := by
  rw [evF, ho]; kernel_rfl
theorem J46_eq (call : CallA) (n : Nat) (x0a : Option Pos) (x0l : Nat) (x0c : Cap) (x1a : Option Pos) (x1l : Nat) (x1c : Cap) (S : AS) : evC E call n 46 (E.at 46 []) 0 (enumT 0 [(.sl x0a x0l x0c), (.sl x1a x1l x1c)]) S (retK E (E.fn 46)) = J46 call n x0a x0l x0c x1a x1l x1c S := by
  rw [J46, a46_entry, h46_l1_1_0_1_0 call n  n]
theorem F46 {o : Orc} (n : Nat) (x0a : Option Pos) (x0l : Nat) (x0c : Cap) (x1a : Option Pos) (x1l : Nat) (x1c : Cap) (S : AS) (ho : ∀ args, o 46 args = none) : evF E o (n + 1) (.fn 46) [(.sl x0a x0l x0c), (.sl x1a x1l x1c)] S = J46 (evF E o n) n x0a x0l x0c x1a x1l x1c S := (run46 o n [(.sl x0a x0l x0c), (.sl x1a x1l x1c)] S (ho _)).trans (J46_eq _ _ x0a x0l x0c x1a x1l x1c S)
def b47_l1_1_0_1_0 (call : CallA) (n : Nat)  (l1_1_0_1_0 : Option Pos → Nat → Cap → Int → Int → Int → Int → AS → Option (AV × AS)) (w0a : Option Pos) (w0l : Nat) (w0c : Cap) (w1 : Int) (w2 : Int) (w7 : Int) (w8 : Int) (S : AS) : Option (AV × AS) :=
 cond (decide (w8 < w2)) (
 ixSl 1 w0a w0l (IntKind.wrap .i64 (w1 + w8)) fun p1 =>
 ldI .u8 S p1.1 p1.2 fun v2 =>
 l1_1_0_1_0 w0a w0l w0c w1 w2 (orI .u64 (shlI .u64 w7 8) (IntKind.wrap .u64 v2)) (IntKind.wrap .i64 (w8 + 1)) S) (
 some ((.int .u64 w7), S))

def b47_entry (call : CallA) (n : Nat)  (l1_1_0_1_0 : Option Pos → Nat → Cap → Int → Int → Int → Int → AS → Option (AV × AS)) (x0a : Option Pos) (x0l : Nat) (x0c : Cap) (x1 : Int) (x2 : Int) (S : AS) : Option (AV × AS) :=
 l1_1_0_1_0 x0a x0l x0c x1 x2 0 0 S

def r47_l1_1_0_1_0 (call : CallA) (n : Nat)  (m : Nat) (w0a : Option Pos) (w0l : Nat) (w0c : Cap) (w1 : Int) (w2 : Int) (w7 : Int) (w8 : Int) (S : AS) : Option (AV × AS) := loopN (evC E call n 47 (E.at 47 [1, 1, 0, 1, 0, 0]) 0) [0, 1, 2, 7, 8] m [(0, (.sl w0a w0l w0c)), (1, (.int .i64 w1)), (2, (.int .i64 w2)), (7, (.int .u64 w7)), (8, (.int .i64 w8))] S (kBlk 0 (kSeq E call n 47 (E.at 47 [1, 1, 1]) 0 (retK E (E.fn 47))))
theorem a47_l1_1_0_1_0 (call : CallA) (n : Nat)  (m : Nat) (w0a : Option Pos) (w0l : Nat) (w0c : Cap) (w1 : Int) (w2 : Int) (w7 : Int) (w8 : Int) (S : AS) : r47_l1_1_0_1_0 call n  (m + 1) w0a w0l w0c w1 w2 w7 w8 S = b47_l1_1_0_1_0 call n (r47_l1_1_0_1_0 call n  m) w0a w0l w0c w1 w2 w7 w8 S := by kernel_rfl
theorem a47_entry (call : CallA) (n : Nat) (x0a : Option Pos) (x0l : Nat) (x0c : Cap) (x1 : Int) (x2 : Int) (S : AS) : evC E call n 47 (E.at 47 []) 0 (enumT 0 [(.sl x0a x0l x0c), (.int .i64 x1), (.int .i64 x2)]) S (retK E (E.fn 47)) = b47_entry call n (r47_l1_1_0_1_0 call n  n) x0a x0l x0c x1 x2 S := by kernel_rfl
def J47_l1_1_0_1_0 (call : CallA) (n : Nat)  (m : Nat) : Option Pos → Nat → Cap → Int → Int → Int → Int → AS → Option (AV × AS) := Nat.rec (motive := fun _ => Option Pos → Nat → Cap → Int → Int → Int → Int → AS → Option (AV × AS)) (fun _ _ _ _ _ _ _ _ => none) (fun mK ih w0a w0l w0c w1 w2 w7 w8 S => b47_l1_1_0_1_0 call n ih w0a w0l w0c w1 w2 w7 w8 S) m
theorem J47_l1_1_0_1_0_succ (call : CallA) (n : Nat)  (m : Nat) (w0a : Option Pos) (w0l : Nat) (w0c : Cap) (w1 : Int) (w2 : Int) (w7 : Int) (w8 : Int) (S : AS) : J47_l1_1_0_1_0 call n  (m + 1) w0a w0l w0c w1 w2 w7 w8 S = b47_l1_1_0_1_0 call n (J47_l1_1_0_1_0 call n  m) w0a w0l w0c w1 w2 w7 w8 S := rfl
theorem h47_l1_1_0_1_0 (call : CallA) (n : Nat)  (m : Nat) : r47_l1_1_0_1_0 call n  m = J47_l1_1_0_1_0 call n  m := by
  induction m with
  | zero => rfl
  | succ m ih =>
    funext w0a w0l w0c w1 w2 w7 w8 S
    rw [J47_l1_1_0_1_0_succ, a47_l1_1_0_1_0, ih]
def J47 (call : CallA) (n : Nat) (x0a : Option Pos) (x0l : Nat) (x0c : Cap) (x1 : Int) (x2 : Int) (S : AS) : Option (AV × AS) := b47_entry call n (J47_l1_1_0_1_0 call n  n) x0a x0l x0c x1 x2 S
theorem run47 (o : Orc) (n : Nat) (args : List AV) (S : AS) (ho : o 47 args = none) : evF E o (n + 1) (.fn 47) args S = evC E (evF E o n) n 47 (E.at 47 []) 0 (enumT 0 args) S (retK E (E.fn 47)) := by
  rw [evF, ho]; kernel_rfl
theorem J47_eq (call : CallA) (n : Nat) (x0a : Option Pos) (x0l : Nat) (x0c : Cap) (x1 : Int) (x2 : Int) (S : AS) : evC E call n 47 (E.at 47 []) 0 (enumT 0 [(.sl x0a x0l x0c), (.int .i64 x1), (.int .i64 x2)]) S (retK E (E.fn 47)) = J47 call n x0a x0l x0c x1 x2 S := by
  rw [J47, a47_entry, h47_l1_1_0_1_0 call n  n]
theorem F47 {o : Orc} (n : Nat) (x0a : Option Pos) (x0l : Nat) (x0c : Cap) (x1 : Int) (x2 : Int) (S : AS) (ho : ∀ args, o 47 args = none) : evF E o (n + 1) (.fn 47) [(.sl x0a x0l x0c), (.int .i64 x1), (.int .i64 x2)] S = J47 (evF E o n) n x0a x0l x0c x1 x2 S := (run47 o n [(.sl x0a x0l x0c), (.int .i64 x1), (.int .i64 x2)] S (ho _)).trans (J47_eq _ _ x0a x0l x0c x1 x2 S)
def b48_l1_1_0_1_0 (call : CallA) (n : Nat)  (l1_1_0_1_0 : Int → Option Pos → Nat → Cap → Int → Int → AS → Option (AV × AS)) (w3 : Int) (w14a : Option Pos) (w14l : Nat) (w14c : Cap) (w15 : Int) (w16 : Int) (S : AS) : Option (AV × AS) :=
 cond (decide (w16 < w15)) (
 ixSl 3 w14a w14l w16 fun p5 =>
 S.ldn p5.1 p5.2 3 fun g6 =>
 newA S (.cells [(.int .i64 0), (.int .u64 0), (.int .u64 0)]) fun b7 S8 =>
 ifO (g6.length = 3) <|
 S8.stn (.rw b7) 0 g6 fun S9 =>
 ldI .i64 S9 (.rw b7) 0 fun v10 =>
 l1_1_0_1_0 (IntKind.wrap .u64 (w3 + (IntKind.wrap .u64 v10))) w14a w14l w14c w15 (IntKind.wrap .i64 (w16 + 1)) S9) (
 some ((.int .u64 w3), S))

def b48_entry (call : CallA) (n : Nat)  (l1_1_0_1_0 : Int → Option Pos → Nat → Cap → Int → Int → AS → Option (AV × AS)) (x0 : Option Pos) (S : AS) : Option (AV × AS) :=
 gO x0 fun p1 =>
 ldI .u64 S p1.1 (p1.2 + 3 + 2) fun v2 =>
 gO x0 fun p3 =>
 ldL S p3.1 (p3.2 + 9) fun v4a v4l v4c =>
 l1_1_0_1_0 v2 v4a v4l v4c ((v4l : Nat) : Int) 0 S

def r48_l1_1_0_1_0 (call : CallA) (n : Nat)  (m : Nat) (w3 : Int) (w14a : Option Pos) (w14l : Nat) (w14c : Cap) (w15 : Int) (w16 : Int) (S : AS) : Option (AV × AS) := loopN (evC E call n 48 (E.at 48 [1, 1, 0, 1, 0, 0]) 0) [3, 14, 15, 16] m [(3, (.int .u64 w3)), (14, (.sl w14a w14l w14c)), (15, (.int .i64 w15)), (16, (.int .i64 w16))] S (kBlk 0 (kSeq E call n 48 (E.at 48 [1, 1, 1]) 0 (retK E (E.fn 48))))
theorem a48_l1_1_0_1_0 (call : CallA) (n : Nat)  (m : Nat) (w3 : Int) (w14a : Option Pos) (w14l : Nat) (w14c : Cap) (w15 : Int) (w16 : Int) (S : AS) : r48_l1_1_0_1_0 call n  (m + 1) w3 w14a w14l w14c w15 w16 S = b48_l1_1_0_1_0 call n (r48_l1_1_0_1_0 call n  m) w3 w14a w14l w14c w15 w16 S := by kernel_rfl
theorem a48_entry (call : CallA) (n : Nat) (x0 : Option Pos) (S : AS) : evC E call n 48 (E.at 48 []) 0 (enumT 0 [(.ptr x0)]) S (retK E (E.fn 48)) = b48_entry call n (r48_l1_1_0_1_0 call n  n) x0 S := by kernel_rfl
def J48_l1_1_0_1_0 (call : CallA) (n : Nat)  (m : Nat) : Int → Option Pos → Nat → Cap → Int → Int → AS → Option (AV × AS) := Nat.rec (motive := fun _ => Int → Option Pos → Nat → Cap → Int → Int → AS → Option (AV × AS)) (fun _ _ _ _ _ _ _ => none) (fun mK ih w3 w14a w14l w14c w15 w16 S => b48_l1_1_0_1_0 call n ih w3 w14a w14l w14c w15 w16 S) m
theorem J48_l1_1_0_1_0_succ (call : CallA) (n : Nat)  (m : Nat) (w3 : Int) (w14a : Option Pos) (w14l : Nat) (w14c : Cap) (w15 : Int) (w16 : Int) (S : AS) : J48_l1_1_0_1_0 call n  (m + 1) w3 w14a w14l w14c w15 w16 S = b48_l1_1_0_1_0 call n (J48_l1_1_0_1_0 call n  m) w3 w14a w14l w14c w15 w16 S := rfl
theorem h48_l1_1_0_1_0 (call : CallA) (n : Nat)  (m : Nat) : r48_l1_1_0_1_0 call n  m = J48_l1_1_0_1_0 call n  m := by
  induction m with
  | zero => rfl
  | succ m ih =>
    funext w3 w14a w14l w14c w15 w16 S
    rw [J48_l1_1_0_1_0_succ, a48_l1_1_0_1_0, ih]
def J48 (call : CallA) (n : Nat) (x0 : Option Pos) (S : AS) : Option (AV × AS) := b48_entry call n (J48_l1_1_0_1_0 call n  n) x0 S
theorem run48 (o : Orc) (n : Nat) (args : List AV) (S : AS) (ho : o 48 args = none) : evF E o (n + 1) (.fn 48) args S = evC E (evF E o n) n 48 (E.at 48 []) 0 (enumT 0 args) S (retK E (E.fn 48)) := by
  rw [evF, ho]; kernel_rfl
theorem J48_eq (call : CallA) (n : Nat) (x0 : Option Pos) (S : AS) : evC E call n 48 (E.at 48 []) 0 (enumT 0 [(.ptr x0)]) S (retK E (E.fn 48)) = J48 call n x0 S := by
  rw [J48, a48_entry, h48_l1_1_0_1_0 call n  n]
theorem F48 {o : Orc} (n : Nat) (x0 : Option Pos) (S : AS) (ho : ∀ args, o 48 args = none) : evF E o (n + 1) (.fn 48) [(.ptr x0)] S = J48 (evF E o n) n x0 S := (run48 o n [(.ptr x0)] S (ho _)).trans (J48_eq _ _ x0 S)
def b49_entry (call : CallA) (n : Nat)   (x0 : Option Pos) (x1 : Int) (S : AS) : Option (AV × AS) :=
 gO x0 fun p1 =>
 ldI .i64 S p1.1 (p1.2 + 1) fun v2 =>
 gO x0 fun p3 =>
 ldI .i64 S p3.1 (p3.2 + 2) fun v4 =>
 nz (IntKind.wrap .u64 (IntKind.wrap .i64 (v4 - 2))) <|
 some ((.int .i64 (IntKind.wrap .i64 ((IntKind.wrap .i64 (v2 + 2)) + (IntKind.wrap .i64 (Int.tmod x1 (IntKind.wrap .u64 (IntKind.wrap .i64 (v4 - 2)))))))), S)

theorem a49_entry (call : CallA) (n : Nat) (x0 : Option Pos) (x1 : Int) (S : AS) : evC E call n 49 (E.at 49 []) 0 (enumT 0 [(.ptr x0), (.int .u64 x1)]) S (retK E (E.fn 49)) = b49_entry call n  x0 x1 S := by kernel_rfl
def J49 (call : CallA) (n : Nat) (x0 : Option Pos) (x1 : Int) (S : AS) : Option (AV × AS) := b49_entry call n  x0 x1 S
theorem run49 (o : Orc) (n : Nat) (args : List AV) (S : AS) (ho : o 49 args = none) : evF E o (n + 1) (.fn 49) args S = evC E (evF E o n) n 49 (E.at 49 []) 0 (enumT 0 args) S (retK E (E.fn 49)) := by
  rw [evF, ho]; kernel_rfl
theorem J49_eq (call : CallA) (n : Nat) (x0 : Option Pos) (x1 : Int) (S : AS) : evC E call n 49 (E.at 49 []) 0 (enumT 0 [(.ptr x0), (.int .u64 x1)]) S (retK E (E.fn 49)) = J49 call n x0 x1 S := by
  rw [J49, a49_entry]
theorem F49 {o : Orc} (n : Nat) (x0 : Option Pos) (x1 : Int) (S : AS) (ho : ∀ args, o 49 args = none) : evF E o (n + 1) (.fn 49) [(.ptr x0), (.int .u64 x1)] S = J49 (evF E o n) n x0 x1 S := (run49 o n [(.ptr x0), (.int .u64 x1)] S (ho _)).trans (J49_eq _ _ x0 x1 S)
def b50_entry (call : CallA) (n : Nat)   (x0 : AV) (x1 : Int) (x2 : Int) (S : AS) : Option (AV × AS) :=
 ifNil E .eql ty86 x0 fun b1 =>
 cond b1 (
 some ((.int .i64 7), S)) (
 cond (decide (x2 < 6)) (
 some ((.int .i64 2), S)) (
 cond (decide (x1 < 0)) (
 some ((.int .i64 2), S)) (
 invV E call x0 "Len" [] S fun v3 S2 =>
 gIk .i64 v3 fun v4 =>
 cond (decide (x1 > v4)) (
 some ((.int .i64 2), S2)) (
 invV E call x0 "Len" [] S2 fun v6 S5 =>
 gIk .i64 v6 fun v7 =>
 cond (decide (x2 > (IntKind.wrap .i64 (v7 - x1)))) (
 some ((.int .i64 2), S5)) (
 some ((.int .i64 0), S5))))))

theorem a50_entry (call : CallA) (n : Nat) (x0 : AV) (x1 : Int) (x2 : Int) (S : AS) : evC E call n 50 (E.at 50 []) 0 (enumT 0 [x0, (.int .i64 x1), (.int .i64 x2)]) S (retK E (E.fn 50)) = b50_entry call n  x0 x1 x2 S := by kernel_rfl
def J50 (call : CallA) (n : Nat) (x0 : AV) (x1 : Int) (x2 : Int) (S : AS) : Option (AV × AS) := b50_entry call n  x0 x1 x2 S
theorem run50 (o : Orc) (n : Nat) (args : List AV) (S : AS) (ho : o 50 args = none) : evF E o (n + 1) (.fn 50) args S = evC E (evF E o n) n 50 (E.at 50 []) 0 (enumT 0 args) S (retK E (E.fn 50)) := by
  rw [evF, ho]; kernel_rfl
theorem J50_eq (call : CallA) (n : Nat) (x0 : AV) (x1 : Int) (x2 : Int) (S : AS) : evC E call n 50 (E.at 50 []) 0 (enumT 0 [x0, (.int .i64 x1), (.int .i64 x2)]) S (retK E (E.fn 50)) = J50 call n x0 x1 x2 S := by
  rw [J50, a50_entry]
theorem F50 {o : Orc} (n : Nat) (x0 : AV) (x1 : Int) (x2 : Int) (S : AS) (ho : ∀ args, o 50 args = none) : evF E o (n + 1) (.fn 50) [x0, (.int .i64 x1), (.int .i64 x2)] S = J50 (evF E o n) n x0 x1 x2 S := (run50 o n [x0, (.int .i64 x1), (.int .i64 x2)] S (ho _)).trans (J50_eq _ _ x0 x1 x2 S)
def b51_l1_1_0_1_0 (call : CallA) (n : Nat)  (j1_1_0_1_0_0_1_1_1 : Option Pos → Bool → Int → AS → Option (AV × AS)) (j1_1_1 : Bool → AS → Option (AV × AS)) (w0 : Option Pos) (w2 : AV) (w3 : Bool) (w8 : Int) (S : AS) : Option (AV × AS) :=
 cond (decide (w8 < 2)) (
 gO w0 fun p1 =>
 ldV S p1.1 p1.2 fun v2 =>
 gO w0 fun p3 =>
 ldI .i64 S p3.1 (p3.2 + 1) fun v4 =>
 nilV E v2 fun v5 =>
 invV E call v2 "Read" [(.int .i64 (IntKind.wrap .i64 (v4 + w8)))] S fun v7 S6 =>
 gT v7 fun v8 =>
 atL v8 0 fun v9a v9l v9c =>
 atI .i64 v8 1 fun v10 =>
 cond (v10 != 0) (
 some ((.int .i64 v10), S6)) (
 callT call 20 [(.sl v9a v9l v9c)] S6 fun v12 S11 =>
 atG 6 v12 0 fun g13 =>
 atI .i64 v12 1 fun v14 =>
 newA S11 (.cells [(.int .u64 0), (.int .u64 0), (.int .u64 0), (.int .u64 0), (.int .u64 0), (.int .u64 0)]) fun b15 S16 =>
 ifO (g13.length = 6) <|
 S16.stn (.rw b15) 0 g13 fun S17 =>
 cond (v14 == 0) (
 cond (!w3) (
 S17.ldn (.rw b15) 0 6 fun g18 =>
 gO w0 fun p19 =>
 ifO (g18.length = 6) <|
 S17.stn p19.1 (p19.2 + 3) g18 fun S20 =>
 j1_1_0_1_0_0_1_1_1 w0 true w8 S20) (
 ldI .u64 S17 (.rw b15) 0 fun v21 =>
 gO w0 fun p22 =>
 ldI .u64 S17 p22.1 (p22.2 + 3) fun v23 =>
 cond (decide (v21 > v23)) (
 S17.ldn (.rw b15) 0 6 fun g24 =>
 gO w0 fun p25 =>
 ifO (g24.length = 6) <|
 S17.stn p25.1 (p25.2 + 3) g24 fun S26 =>
 j1_1_0_1_0_0_1_1_1 w0 true w8 S26) (
 j1_1_0_1_0_0_1_1_1 w0 w3 w8 S17))) (
 j1_1_0_1_0_0_1_1_1 w0 w3 w8 S17))) (
 j1_1_1 w3 S)

def b51_j1_1_0_1_0_0_1_1_1 (call : CallA) (n : Nat)  (l1_1_0_1_0 : Option Pos → AV → Bool → Int → AS → Option (AV × AS)) (w0 : Option Pos) (w3 : Bool) (w8 : Int) (S : AS) : Option (AV × AS) :=
 l1_1_0_1_0 w0 .undef w3 (IntKind.wrap .i64 (w8 + 1)) S

def b51_j1_1_1 (call : CallA) (n : Nat)   (w3 : Bool) (S : AS) : Option (AV × AS) :=
 cond (!w3) (
 some ((.int .i64 80), S)) (
 some ((.int .i64 0), S))

def b51_entry (call : CallA) (n : Nat)  (l1_1_0_1_0 : Option Pos → AV → Bool → Int → AS → Option (AV × AS)) (x0 : Option Pos) (S : AS) : Option (AV × AS) :=
 l1_1_0_1_0 x0 (.int .i64 0) false 0 S

def r51_l1_1_0_1_0 (call : CallA) (n : Nat)  (m : Nat) (w0 : Option Pos) (w2 : AV) (w3 : Bool) (w8 : Int) (S : AS) : Option (AV × AS) := loopN (evC E call n 51 (E.at 51 [1, 1, 0, 1, 0, 0]) 0) [0, 2, 3, 8] m [(0, (.ptr w0)), (2, w2), (3, (.bool w3)), (8, (.int .i64 w8))] S (kBlk 0 (kSeq E call n 51 (E.at 51 [1, 1, 1]) 0 (retK E (E.fn 51))))
def r51_j1_1_0_1_0_0_1_1_1 (call : CallA) (n : Nat) (m1_1_0_1_0 : Nat) (w0 : Option Pos) (w3 : Bool) (w8 : Int) (S : AS) : Option (AV × AS) := evC E call n 51 (E.at 51 [1, 1, 0, 1, 0, 0, 1, 1, 1]) 0 [(0, (.ptr w0)), (3, (.bool w3)), (8, (.int .i64 w8))] S (kLp (evC E call n 51 (E.at 51 [1, 1, 0, 1, 0, 0]) 0) [0, 2, 3, 8] m1_1_0_1_0 (kBlk 0 (kSeq E call n 51 (E.at 51 [1, 1, 1]) 0 (retK E (E.fn 51)))))
def r51_j1_1_1 (call : CallA) (n : Nat)  (w3 : Bool) (S : AS) : Option (AV × AS) := evC E call n 51 (E.at 51 [1, 1, 1]) 0 [(3, (.bool w3))] S (retK E (E.fn 51))
theorem a51_l1_1_0_1_0 (call : CallA) (n : Nat)  (m : Nat) (w0 : Option Pos) (w2 : AV) (w3 : Bool) (w8 : Int) (S : AS) : r51_l1_1_0_1_0 call n  (m + 1) w0 w2 w3 w8 S = b51_l1_1_0_1_0 call n (r51_j1_1_0_1_0_0_1_1_1 call n m) (r51_j1_1_1 call n ) w0 w2 w3 w8 S := by kernel_rfl
theorem a51_j1_1_0_1_0_0_1_1_1 (call : CallA) (n : Nat) (m1_1_0_1_0 : Nat) (w0 : Option Pos) (w3 : Bool) (w8 : Int) (S : AS) : r51_j1_1_0_1_0_0_1_1_1 call n m1_1_0_1_0 w0 w3 w8 S = b51_j1_1_0_1_0_0_1_1_1 call n (r51_l1_1_0_1_0 call n  m1_1_0_1_0) w0 w3 w8 S := by kernel_rfl
theorem a51_j1_1_1 (call : CallA) (n : Nat)  (w3 : Bool) (S : AS) : r51_j1_1_1 call n  w3 S = b51_j1_1_1 call n  w3 S := by kernel_rfl
theorem a51_entry (call : CallA) (n : Nat) (x0 : Option Pos) (S : AS) : evC E call n 51 (E.at 51 []) 0 (enumT 0 [(.ptr x0)]) S (retK E (E.fn 51)) = b51_entry call n (r51_l1_1_0_1_0 call n  n) x0 S := by kernel_rfl
def J51_j1_1_0_1_0_0_1_1_1 (call : CallA) (n : Nat) (n1_1_0_1_0 : Option Pos → AV → Bool → Int → AS → Option (AV × AS)) (w0 : Option Pos) (w3 : Bool) (w8 : Int) (S : AS) : Option (AV × AS) := b51_j1_1_0_1_0_0_1_1_1 call n n1_1_0_1_0 w0 w3 w8 S
theorem h51_j1_1_0_1_0_0_1_1_1 (call : CallA) (n : Nat) (m1_1_0_1_0 : Nat) : r51_j1_1_0_1_0_0_1_1_1 call n m1_1_0_1_0 = J51_j1_1_0_1_0_0_1_1_1 call n (r51_l1_1_0_1_0 call n  m1_1_0_1_0) := by
  funext w0 w3 w8 S
  rw [J51_j1_1_0_1_0_0_1_1_1, a51_j1_1_0_1_0_0_1_1_1]
def J51_j1_1_1 (call : CallA) (n : Nat)  (w3 : Bool) (S : AS) : Option (AV × AS) := b51_j1_1_1 call n  w3 S
theorem h51_j1_1_1 (call : CallA) (n : Nat)  : r51_j1_1_1 call n  = J51_j1_1_1 call n  := by
  funext w3 S
  rw [J51_j1_1_1, a51_j1_1_1]
def J51_l1_1_0_1_0 (call : CallA) (n : Nat)  (m : Nat) : Option Pos → AV → Bool → Int → AS → Option (AV × AS) := Nat.rec (motive := fun _ => Option Pos → AV → Bool → Int → AS → Option (AV × AS)) (fun _ _ _ _ _ => none) (fun mK ih w0 w2 w3 w8 S => b51_l1_1_0_1_0 call n (J51_j1_1_0_1_0_0_1_1_1 call n ih) (J51_j1_1_1 call n ) w0 w2 w3 w8 S) m
theorem J51_l1_1_0_1_0_succ (call : CallA) (n : Nat)  (m : Nat) (w0 : Option Pos) (w2 : AV) (w3 : Bool) (w8 : Int) (S : AS) : J51_l1_1_0_1_0 call n  (m + 1) w0 w2 w3 w8 S = b51_l1_1_0_1_0 call n (J51_j1_1_0_1_0_0_1_1_1 call n (J51_l1_1_0_1_0 call n  m)) (J51_j1_1_1 call n ) w0 w2 w3 w8 S := rfl
theorem h51_l1_1_0_1_0 (call : CallA) (n : Nat)  (m : Nat) : r51_l1_1_0_1_0 call n  m = J51_l1_1_0_1_0 call n  m := by
  induction m with
  | zero => rfl
  | succ m ih =>
    funext w0 w2 w3 w8 S
    rw [J51_l1_1_0_1_0_succ, a51_l1_1_0_1_0, h51_j1_1_0_1_0_0_1_1_1 call n m, h51_j1_1_1 call n , ih]
def J51 (call : CallA) (n : Nat) (x0 : Option Pos) (S : AS) : Option (AV × AS) := b51_entry call n (J51_l1_1_0_1_0 call n  n) x0 S
theorem run51 (o : Orc) (n : Nat) (args : List AV) (S : AS) (ho : o 51 args = none) : evF E o (n + 1) (.fn 51) args S = evC E (evF E o n) n 51 (E.at 51 []) 0 (enumT 0 args) S (retK E (E.fn 51)) := by
  rw [evF, ho]; kernel_rfl
theorem J51_eq (call : CallA) (n : Nat) (x0 : Option Pos) (S : AS) : evC E call n 51 (E.at 51 []) 0 (enumT 0 [(.ptr x0)]) S (retK E (E.fn 51)) = J51 call n x0 S := by
  rw [J51, a51_entry, h51_l1_1_0_1_0 call n  n]
theorem F51 {o : Orc} (n : Nat) (x0 : Option Pos) (S : AS) (ho : ∀ args, o 51 args = none) : evF E o (n + 1) (.fn 51) [(.ptr x0)] S = J51 (evF E o n) n x0 S := (run51 o n [(.ptr x0)] S (ho _)).trans (J51_eq _ _ x0 S)
def b52_l1_1_1_0_1_0 (call : CallA) (n : Nat)  (l1_1_1_0_1_0 : Option Pos → Int → Int → Int → Option Pos → Option Pos → Nat → Cap → Option Pos → Bool → Int → Option Pos → Nat → Cap → Option Pos → Int → AS → Option (AV × AS)) (w0 : Option Pos) (w1 : Int) (w2 : Int) (w4 : Int) (w8 : Option Pos) (w10a : Option Pos) (w10l : Nat) (w10c : Cap) (w11 : Option Pos) (w12 : Bool) (w13 : Int) (w14a : Option Pos) (w14l : Nat) (w14c : Cap) (w15 : Option Pos) (w16 : Int) (S : AS) : Option (AV × AS) :=
 cond (w16 == 0) (
 gO w0 fun p7 =>
 ldV S p7.1 p7.2 fun v8 =>
 callI .i64 call 49 [(.ptr w0), (.int .u64 (IntKind.wrap .u64 (w1 + (IntKind.wrap .u64 w16))))] S fun v10 S9 =>
 ldV S9 p7.1 p7.2 fun v11 =>
 cond (AV.beq v11 v8) (
 nilV E v8 fun v12 =>
 invV E call v8 "Read" [(.int .i64 v10)] S9 fun v14 S13 =>
 gT v14 fun v15 =>
 atL v15 0 fun v16a v16l v16c =>
 atI .i64 v15 1 fun v17 =>
 cond (v17 != 0) (
 gO w11 fun p19 =>
 S13.stn p19.1 p19.2 [(.int .i64 0), (.int .u64 0), (.int .u64 0)] fun S18 =>
 gO w11 fun p20 =>
 S18.ldn p20.1 p20.2 3 fun g21 =>
 some (.tup [(.sl none 0 (.ex 0)), (.agg g21), (.bool false), (.int .i64 v17)], S18)) (
 callT call 18 [(.sl v16a v16l v16c)] S13 fun v23 S22 =>
 atG 7 v23 0 fun g24 =>
 atI .i64 v23 1 fun v25 =>
 newA S22 (.cells [(.int .u64 0), (.int .u64 0), (.int .u64 0), (.int .u64 0), (.int .i64 0), (.int .i64 0), (.sl none 0 (.ex 0))]) fun b26 S27 =>
 ifO (g24.length = 7) <|
 S27.stn (.rw b26) 0 g24 fun S28 =>
 cond (v25 != 0) (
 gO w11 fun p30 =>
 S28.stn p30.1 p30.2 [(.int .i64 0), (.int .u64 0), (.int .u64 0)] fun S29 =>
 gO w11 fun p31 =>
 S29.ldn p31.1 p31.2 3 fun g32 =>
 some (.tup [(.sl none 0 (.ex 0)), (.agg g32), (.bool false), (.int .i64 0)], S29)) (
 ldI .u64 S28 (.rw b26) 2 fun v33 =>
 cond (v33 != (IntKind.wrap .u64 (w1 + (IntKind.wrap .u64 w16)))) (
 gO w11 fun p35 =>
 S28.stn p35.1 p35.2 [(.int .i64 0), (.int .u64 0), (.int .u64 0)] fun S34 =>
 gO w11 fun p36 =>
 S34.ldn p36.1 p36.2 3 fun g37 =>
 some (.tup [(.sl none 0 (.ex 0)), (.agg g37), (.bool false), (.int .i64 0)], S34)) (
 ldI .i64 S28 (.rw b26) 4 fun v38 =>
 cond (v38 != w16) (
 gO w11 fun p40 =>
 S28.stn p40.1 p40.2 [(.int .i64 0), (.int .u64 0), (.int .u64 0)] fun S39 =>
 gO w11 fun p41 =>
 S39.ldn p41.1 p41.2 3 fun g42 =>
 some (.tup [(.sl none 0 (.ex 0)), (.agg g42), (.bool false), (.int .i64 0)], S39)) (
 ldI .u64 S28 (.rw b26) 0 fun v43 =>
 ldI .u64 S28 (.rw b26) 1 fun v44 =>
 newA S28 (.cells [(.int .u64 0), (.int .u64 0)]) fun b45 S46 =>
 S46.stn (.rw b45) 0 [(.int .u64 v43), (.int .u64 v44)] fun S47 =>
 cond (w16 == 0) (
 ldI .u64 S47 (.rw b26) 3 fun v48 =>
 cond (v48 != w2) (
 gO w11 fun p50 =>
 S47.stn p50.1 p50.2 [(.int .i64 0), (.int .u64 0), (.int .u64 0)] fun S49 =>
 gO w11 fun p51 =>
 S49.ldn p51.1 p51.2 3 fun g52 =>
 some (.tup [(.sl none 0 (.ex 0)), (.agg g52), (.bool false), (.int .i64 0)], S49)) (
 ldI .u64 S47 (.rw b26) 0 fun v53 =>
 gO w0 fun p54 =>
 ldI .u64 S47 p54.1 (p54.2 + 3 + 1) fun v55 =>
 cond (decide (v53 > v55)) (
 gO w11 fun p57 =>
 S47.stn p57.1 p57.2 [(.int .i64 0), (.int .u64 0), (.int .u64 0)] fun S56 =>
 gO w11 fun p58 =>
 S56.ldn p58.1 p58.2 3 fun g59 =>
 some (.tup [(.sl none 0 (.ex 0)), (.agg g59), (.bool false), (.int .i64 0)], S56)) (
 S47.ldn (.rw b45) 0 2 fun g60 =>
 gO w8 fun p61 =>
 S47.ldn p61.1 p61.2 2 fun g62 =>
 callB call 56 [(.agg g60), (.agg g62)] S47 fun v64 S63 =>
 cond (!v64) (
 gO w11 fun p66 =>
 S63.stn p66.1 p66.2 [(.int .i64 0), (.int .u64 0), (.int .u64 0)] fun S65 =>
 gO w11 fun p67 =>
 S65.ldn p67.1 p67.2 3 fun g68 =>
 some (.tup [(.sl none 0 (.ex 0)), (.agg g68), (.bool false), (.int .i64 0)], S65)) (
 ldI .i64 S63 (.rw b26) 5 fun v69 =>
 cond (decide (v69 > w4)) (
 gO w11 fun p71 =>
 S63.stn p71.1 p71.2 [(.int .i64 0), (.int .u64 0), (.int .u64 0)] fun S70 =>
 gO w11 fun p72 =>
 S70.ldn p72.1 p72.2 3 fun g73 =>
 some (.tup [(.sl none 0 (.ex 0)), (.agg g73), (.bool false), (.int .i64 0)], S70)) (
 S63.ldn (.rw b26) 0 7 fun g74 =>
 gO w15 fun p76 =>
 ifO (g74.length = 7) <|
 S63.stn p76.1 p76.2 g74 fun S75 =>
 ldL S75 (.rw b26) 6 fun v77a v77l v77c =>
 appendA 1 1 S75 w14a w14l w14c v77l (firstA S75 1 v77l (.sl v77a v77l v77c)) fun v78a v78l v78c S79 =>
 l1_1_1_0_1_0 w0 w1 w2 w4 w8 w10a w10l w10c w11 w12 w13 v78a v78l v78c w15 (IntKind.wrap .i64 (w16 + 1)) S79))))) (
 S47.ldn (.rw b45) 0 2 fun g80 =>
 gO w15 fun p81 =>
 ldI .u64 S47 p81.1 p81.2 fun v82 =>
 gO w15 fun p83 =>
 ldI .u64 S47 p83.1 (p83.2 + 1) fun v84 =>
 aggNe ty93 g80 [(.int .u64 v82), (.int .u64 v84)] fun b85 =>
 cond b85 (
 gO w11 fun p87 =>
 S47.stn p87.1 p87.2 [(.int .i64 0), (.int .u64 0), (.int .u64 0)] fun S86 =>
 gO w11 fun p88 =>
 S86.ldn p88.1 p88.2 3 fun g89 =>
 some (.tup [(.sl none 0 (.ex 0)), (.agg g89), (.bool false), (.int .i64 0)], S86)) (
 ldI .u64 S47 (.rw b26) 3 fun v90 =>
 cond (v90 != w2) (
 gO w11 fun p92 =>
 S47.stn p92.1 p92.2 [(.int .i64 0), (.int .u64 0), (.int .u64 0)] fun S91 =>
 gO w11 fun p93 =>
 S91.ldn p93.1 p93.2 3 fun g94 =>
 some (.tup [(.sl none 0 (.ex 0)), (.agg g94), (.bool false), (.int .i64 0)], S91)) (
 ldI .i64 S47 (.rw b26) 5 fun v95 =>
 gO w15 fun p96 =>
 ldI .i64 S47 p96.1 (p96.2 + 5) fun v97 =>
 cond (v95 != v97) (
 gO w11 fun p99 =>
 S47.stn p99.1 p99.2 [(.int .i64 0), (.int .u64 0), (.int .u64 0)] fun S98 =>
 gO w11 fun p100 =>
 S98.ldn p100.1 p100.2 3 fun g101 =>
 some (.tup [(.sl none 0 (.ex 0)), (.agg g101), (.bool false), (.int .i64 0)], S98)) (
 ldL S47 (.rw b26) 6 fun v102a v102l v102c =>
 appendA 1 1 S47 w14a w14l w14c v102l (firstA S47 1 v102l (.sl v102a v102l v102c)) fun v103a v103l v103c S104 =>
 l1_1_1_0_1_0 w0 w1 w2 w4 w8 w10a w10l w10c w11 w12 w13 v103a v103l v103c w15 (IntKind.wrap .i64 (w16 + 1)) S104))))))))) none) (
 gO w15 fun p105 =>
 ldI .i64 S p105.1 (p105.2 + 5) fun v106 =>
 cond (decide (w16 < v106)) (
 gO w0 fun p107 =>
 ldV S p107.1 p107.2 fun v108 =>
 callI .i64 call 49 [(.ptr w0), (.int .u64 (IntKind.wrap .u64 (w1 + (IntKind.wrap .u64 w16))))] S fun v110 S109 =>
 ldV S109 p107.1 p107.2 fun v111 =>
 cond (AV.beq v111 v108) (
 nilV E v108 fun v112 =>
 invV E call v108 "Read" [(.int .i64 v110)] S109 fun v114 S113 =>
 gT v114 fun v115 =>
 atL v115 0 fun v116a v116l v116c =>
 atI .i64 v115 1 fun v117 =>
 cond (v117 != 0) (
 gO w11 fun p119 =>
 S113.stn p119.1 p119.2 [(.int .i64 0), (.int .u64 0), (.int .u64 0)] fun S118 =>
 gO w11 fun p120 =>
 S118.ldn p120.1 p120.2 3 fun g121 =>
 some (.tup [(.sl none 0 (.ex 0)), (.agg g121), (.bool false), (.int .i64 v117)], S118)) (
 callT call 18 [(.sl v116a v116l v116c)] S113 fun v123 S122 =>
 atG 7 v123 0 fun g124 =>
 atI .i64 v123 1 fun v125 =>
 newA S122 (.cells [(.int .u64 0), (.int .u64 0), (.int .u64 0), (.int .u64 0), (.int .i64 0), (.int .i64 0), (.sl none 0 (.ex 0))]) fun b126 S127 =>
 ifO (g124.length = 7) <|
 S127.stn (.rw b126) 0 g124 fun S128 =>
 cond (v125 != 0) (
 gO w11 fun p130 =>
 S128.stn p130.1 p130.2 [(.int .i64 0), (.int .u64 0), (.int .u64 0)] fun S129 =>
 gO w11 fun p131 =>
 S129.ldn p131.1 p131.2 3 fun g132 =>
 some (.tup [(.sl none 0 (.ex 0)), (.agg g132), (.bool false), (.int .i64 0)], S129)) (
 ldI .u64 S128 (.rw b126) 2 fun v133 =>
 cond (v133 != (IntKind.wrap .u64 (w1 + (IntKind.wrap .u64 w16)))) (
 gO w11 fun p135 =>
 S128.stn p135.1 p135.2 [(.int .i64 0), (.int .u64 0), (.int .u64 0)] fun S134 =>
 gO w11 fun p136 =>
 S134.ldn p136.1 p136.2 3 fun g137 =>
 some (.tup [(.sl none 0 (.ex 0)), (.agg g137), (.bool false), (.int .i64 0)], S134)) (
 ldI .i64 S128 (.rw b126) 4 fun v138 =>
 cond (v138 != w16) (
 gO w11 fun p140 =>
 S128.stn p140.1 p140.2 [(.int .i64 0), (.int .u64 0), (.int .u64 0)] fun S139 =>
 gO w11 fun p141 =>
 S139.ldn p141.1 p141.2 3 fun g142 =>
 some (.tup [(.sl none 0 (.ex 0)), (.agg g142), (.bool false), (.int .i64 0)], S139)) (
 ldI .u64 S128 (.rw b126) 0 fun v143 =>
 ldI .u64 S128 (.rw b126) 1 fun v144 =>
 newA S128 (.cells [(.int .u64 0), (.int .u64 0)]) fun b145 S146 =>
 S146.stn (.rw b145) 0 [(.int .u64 v143), (.int .u64 v144)] fun S147 =>
 cond (w16 == 0) (
 ldI .u64 S147 (.rw b126) 3 fun v148 =>
 cond (v148 != w2) (
 gO w11 fun p150 =>
 S147.stn p150.1 p150.2 [(.int .i64 0), (.int .u64 0), (.int .u64 0)] fun S149 =>
 gO w11 fun p151 =>
 S149.ldn p151.1 p151.2 3 fun g152 =>
 some (.tup [(.sl none 0 (.ex 0)), (.agg g152), (.bool false), (.int .i64 0)], S149)) (
 ldI .u64 S147 (.rw b126) 0 fun v153 =>
 gO w0 fun p154 =>
 ldI .u64 S147 p154.1 (p154.2 + 3 + 1) fun v155 =>
 cond (decide (v153 > v155)) (
 gO w11 fun p157 =>
 S147.stn p157.1 p157.2 [(.int .i64 0), (.int .u64 0), (.int .u64 0)] fun S156 =>
 gO w11 fun p158 =>
 S156.ldn p158.1 p158.2 3 fun g159 =>
 some (.tup [(.sl none 0 (.ex 0)), (.agg g159), (.bool false), (.int .i64 0)], S156)) (
 S147.ldn (.rw b145) 0 2 fun g160 =>
 gO w8 fun p161 =>
 S147.ldn p161.1 p161.2 2 fun g162 =>
 callB call 56 [(.agg g160), (.agg g162)] S147 fun v164 S163 =>
 cond (!v164) (
 gO w11 fun p166 =>
 S163.stn p166.1 p166.2 [(.int .i64 0), (.int .u64 0), (.int .u64 0)] fun S165 =>
 gO w11 fun p167 =>
 S165.ldn p167.1 p167.2 3 fun g168 =>
 some (.tup [(.sl none 0 (.ex 0)), (.agg g168), (.bool false), (.int .i64 0)], S165)) (
 ldI .i64 S163 (.rw b126) 5 fun v169 =>
 cond (decide (v169 > w4)) (
 gO w11 fun p171 =>
 S163.stn p171.1 p171.2 [(.int .i64 0), (.int .u64 0), (.int .u64 0)] fun S170 =>
 gO w11 fun p172 =>
 S170.ldn p172.1 p172.2 3 fun g173 =>
 some (.tup [(.sl none 0 (.ex 0)), (.agg g173), (.bool false), (.int .i64 0)], S170)) (
 S163.ldn (.rw b126) 0 7 fun g174 =>
 gO w15 fun p176 =>
 ifO (g174.length = 7) <|
 S163.stn p176.1 p176.2 g174 fun S175 =>
 ldL S175 (.rw b126) 6 fun v177a v177l v177c =>
 appendA 1 1 S175 w14a w14l w14c v177l (firstA S175 1 v177l (.sl v177a v177l v177c)) fun v178a v178l v178c S179 =>
 l1_1_1_0_1_0 w0 w1 w2 w4 w8 w10a w10l w10c w11 w12 w13 v178a v178l v178c w15 (IntKind.wrap .i64 (w16 + 1)) S179))))) (
 S147.ldn (.rw b145) 0 2 fun g180 =>
 gO w15 fun p181 =>
 ldI .u64 S147 p181.1 p181.2 fun v182 =>
 gO w15 fun p183 =>
 ldI .u64 S147 p183.1 (p183.2 + 1) fun v184 =>
 aggNe ty93 g180 [(.int .u64 v182), (.int .u64 v184)] fun b185 =>
 cond b185 (
 gO w11 fun p187 =>
 S147.stn p187.1 p187.2 [(.int .i64 0), (.int .u64 0), (.int .u64 0)] fun S186 =>
 gO w11 fun p188 =>
 S186.ldn p188.1 p188.2 3 fun g189 =>
 some (.tup [(.sl none 0 (.ex 0)), (.agg g189), (.bool false), (.int .i64 0)], S186)) (
 ldI .u64 S147 (.rw b126) 3 fun v190 =>
 cond (v190 != w2) (
 gO w11 fun p192 =>
 S147.stn p192.1 p192.2 [(.int .i64 0), (.int .u64 0), (.int .u64 0)] fun S191 =>
 gO w11 fun p193 =>
 S191.ldn p193.1 p193.2 3 fun g194 =>
 some (.tup [(.sl none 0 (.ex 0)), (.agg g194), (.bool false), (.int .i64 0)], S191)) (
 ldI .i64 S147 (.rw b126) 5 fun v195 =>
 gO w15 fun p196 =>
 ldI .i64 S147 p196.1 (p196.2 + 5) fun v197 =>
 cond (v195 != v197) (
 gO w11 fun p199 =>
 S147.stn p199.1 p199.2 [(.int .i64 0), (.int .u64 0), (.int .u64 0)] fun S198 =>
 gO w11 fun p200 =>
 S198.ldn p200.1 p200.2 3 fun g201 =>
 some (.tup [(.sl none 0 (.ex 0)), (.agg g201), (.bool false), (.int .i64 0)], S198)) (
 ldL S147 (.rw b126) 6 fun v202a v202l v202c =>
 appendA 1 1 S147 w14a w14l w14c v202l (firstA S147 1 v202l (.sl v202a v202l v202c)) fun v203a v203l v203c S204 =>
 l1_1_1_0_1_0 w0 w1 w2 w4 w8 w10a w10l w10c w11 w12 w13 v203a v203l v203c w15 (IntKind.wrap .i64 (w16 + 1)) S204))))))))) none) (
 callT call 22 [(.sl w14a w14l w14c)] S fun v206 S205 =>
 atL v206 0 fun v207a v207l v207c =>
 atI .i64 v206 1 fun v208 =>
 gO w15 fun p209 =>
 ldI .i64 S205 p209.1 (p209.2 + 5) fun v210 =>
 gO w15 fun p211 =>
 ldI .u64 S205 p211.1 p211.2 fun v212 =>
 gO w15 fun p213 =>
 ldI .u64 S205 p213.1 (p213.2 + 1) fun v214 =>
 gO w11 fun p216 =>
 S205.stn p216.1 p216.2 [(.int .i64 v210), (.int .u64 v212), (.int .u64 v214)] fun S215 =>
 gO w11 fun p217 =>
 S215.ldn p217.1 p217.2 3 fun g218 =>
 some (.tup [(.sl v207a v207l v207c), (.agg g218), (.bool (v208 == 0)), (.int .i64 0)], S215)))

def b52_entry (call : CallA) (n : Nat)  (l1_1_1_0_1_0 : Option Pos → Int → Int → Int → Option Pos → Option Pos → Nat → Cap → Option Pos → Bool → Int → Option Pos → Nat → Cap → Option Pos → Int → AS → Option (AV × AS)) (x0 : Option Pos) (x1 : Int) (x2 : Int) (x3 : List AV) (x4 : Int) (S : AS) : Option (AV × AS) :=
 ifO (x3.length = 2) <|
 newA S (.cells x3) fun b1 S2 =>
 newA S2 (.cells [(.int .i64 0), (.int .u64 0), (.int .u64 0)]) fun b3 S4 =>
 newA S4 (.cells [(.int .u64 0), (.int .u64 0), (.int .u64 0), (.int .u64 0), (.int .i64 0), (.int .i64 0), (.sl none 0 (.ex 0))]) fun b5 S6 =>
 l1_1_1_0_1_0 x0 x1 x2 x4 (some ((.rw b1), 0)) none 0 (.ex 0) (some ((.rw b3), 0)) false 0 none 0 (.ex 0) (some ((.rw b5), 0)) 0 S6

def r52_l1_1_1_0_1_0 (call : CallA) (n : Nat)  (m : Nat) (w0 : Option Pos) (w1 : Int) (w2 : Int) (w4 : Int) (w8 : Option Pos) (w10a : Option Pos) (w10l : Nat) (w10c : Cap) (w11 : Option Pos) (w12 : Bool) (w13 : Int) (w14a : Option Pos) (w14l : Nat) (w14c : Cap) (w15 : Option Pos) (w16 : Int) (S : AS) : Option (AV × AS) := loopN (evC E call n 52 (E.at 52 [1, 1, 1, 0, 1, 0, 0]) 0) [0, 1, 2, 4, 8, 10, 11, 12, 13, 14, 15, 16] m [(0, (.ptr w0)), (1, (.int .u64 w1)), (2, (.int .u64 w2)), (4, (.int .i64 w4)), (8, (.ptr w8)), (10, (.sl w10a w10l w10c)), (11, (.ptr w11)), (12, (.bool w12)), (13, (.int .i64 w13)), (14, (.sl w14a w14l w14c)), (15, (.ptr w15)), (16, (.int .i64 w16))] S (kBlk 0 (kSeq E call n 52 (E.at 52 [1, 1, 1, 1]) 0 (retK E (E.fn 52))))
theorem a52_l1_1_1_0_1_0 (call : CallA) (n : Nat)  (m : Nat) (w0 : Option Pos) (w1 : Int) (w2 : Int) (w4 : Int) (w8 : Option Pos) (w10a : Option Pos) (w10l : Nat) (w10c : Cap) (w11 : Option Pos) (w12 : Bool) (w13 : Int) (w14a : Option Pos) (w14l : Nat) (w14c : Cap) (w15 : Option Pos) (w16 : Int) (S : AS) : r52_l1_1_1_0_1_0 call n  (m + 1) w0 w1 w2 w4 w8 w10a w10l w10c w11 w12 w13 w14a w14l w14c w15 w16 S = b52_l1_1_1_0_1_0 call n (r52_l1_1_1_0_1_0 call n  m) w0 w1 w2 w4 w8 w10a w10l w10c w11 w12 w13 w14a w14l w14c w15 w16 S := by kernel_rfl
theorem a52_entry (call : CallA) (n : Nat) (x0 : Option Pos) (x1 : Int) (x2 : Int) (x3 : List AV) (x4 : Int) (S : AS) : evC E call n 52 (E.at 52 []) 0 (enumT 0 [(.ptr x0), (.int .u64 x1), (.int .u64 x2), (.agg x3), (.int .i64 x4)]) S (retK E (E.fn 52)) = b52_entry call n (r52_l1_1_1_0_1_0 call n  n) x0 x1 x2 x3 x4 S := by kernel_rfl
def J52_l1_1_1_0_1_0 (call : CallA) (n : Nat)  (m : Nat) : Option Pos → Int → Int → Int → Option Pos → Option Pos → Nat → Cap → Option Pos → Bool → Int → Option Pos → Nat → Cap → Option Pos → Int → AS → Option (AV × AS) := Nat.rec (motive := fun _ => Option Pos → Int → Int → Int → Option Pos → Option Pos → Nat → Cap → Option Pos → Bool → Int → Option Pos → Nat → Cap → Option Pos → Int → AS → Option (AV × AS)) (fun _ _ _ _ _ _ _ _ _ _ _ _ _ _ _ _ _ => none) (fun mK ih w0 w1 w2 w4 w8 w10a w10l w10c w11 w12 w13 w14a w14l w14c w15 w16 S => b52_l1_1_1_0_1_0 call n ih w0 w1 w2 w4 w8 w10a w10l w10c w11 w12 w13 w14a w14l w14c w15 w16 S) m
theorem J52_l1_1_1_0_1_0_succ (call : CallA) (n : Nat)  (m : Nat) (w0 : Option Pos) (w1 : Int) (w2 : Int) (w4 : Int) (w8 : Option Pos) (w10a : Option Pos) (w10l : Nat) (w10c : Cap) (w11 : Option Pos) (w12 : Bool) (w13 : Int) (w14a : Option Pos) (w14l : Nat) (w14c : Cap) (w15 : Option Pos) (w16 : Int) (S : AS) : J52_l1_1_1_0_1_0 call n  (m + 1) w0 w1 w2 w4 w8 w10a w10l w10c w11 w12 w13 w14a w14l w14c w15 w16 S = b52_l1_1_1_0_1_0 call n (J52_l1_1_1_0_1_0 call n  m) w0 w1 w2 w4 w8 w10a w10l w10c w11 w12 w13 w14a w14l w14c w15 w16 S := rfl
theorem h52_l1_1_1_0_1_0 (call : CallA) (n : Nat)  (m : Nat) : r52_l1_1_1_0_1_0 call n  m = J52_l1_1_1_0_1_0 call n  m := by
  induction m with
  | zero => rfl
  | succ m ih =>
    funext w0 w1 w2 w4 w8 w10a w10l w10c w11 w12 w13 w14a w14l w14c w15 w16 S
    rw [J52_l1_1_1_0_1_0_succ, a52_l1_1_1_0_1_0, ih]
def J52 (call : CallA) (n : Nat) (x0 : Option Pos) (x1 : Int) (x2 : Int) (x3 : List AV) (x4 : Int) (S : AS) : Option (AV × AS) := b52_entry call n (J52_l1_1_1_0_1_0 call n  n) x0 x1 x2 x3 x4 S
theorem run52 (o : Orc) (n : Nat) (args : List AV) (S : AS) (ho : o 52 args = none) : evF E o (n + 1) (.fn 52) args S = evC E (evF E o n) n 52 (E.at 52 []) 0 (enumT 0 args) S (retK E (E.fn 52)) := by
  rw [evF, ho]; kernel_rfl
theorem J52_eq (call : CallA) (n : Nat) (x0 : Option Pos) (x1 : Int) (x2 : Int) (x3 : List AV) (x4 : Int) (S : AS) : evC E call n 52 (E.at 52 []) 0 (enumT 0 [(.ptr x0), (.int .u64 x1), (.int .u64 x2), (.agg x3), (.int .i64 x4)]) S (retK E (E.fn 52)) = J52 call n x0 x1 x2 x3 x4 S := by
  rw [J52, a52_entry, h52_l1_1_1_0_1_0 call n  n]
theorem F52 {o : Orc} (n : Nat) (x0 : Option Pos) (x1 : Int) (x2 : Int) (x3 : List AV) (x4 : Int) (S : AS) (ho : ∀ args, o 52 args = none) : evF E o (n + 1) (.fn 52) [(.ptr x0), (.int .u64 x1), (.int .u64 x2), (.agg x3), (.int .i64 x4)] S = J52 (evF E o n) n x0 x1 x2 x3 x4 S := (run52 o n [(.ptr x0), (.int .u64 x1), (.int .u64 x2), (.agg x3), (.int .i64 x4)] S (ho _)).trans (J52_eq _ _ x0 x1 x2 x3 x4 S)
def b53_entry (call : CallA) (n : Nat)   (x0 : Option Pos) (x1 : List AV) (S : AS) : Option (AV × AS) :=
 ifO (x1.length = 6) <|
 newA S (.cells x1) fun b1 S2 =>
 gO x0 fun p3 =>
 ldI .u64 S2 p3.1 (p3.2 + 3) fun v4 =>
 S2.stn (.rw b1) 0 [(.int .u64 (IntKind.wrap .u64 (v4 + 1)))] fun S5 =>
 S5.ldn (.rw b1) 0 6 fun g6 =>
 callT call 10 [(.agg g6)] S5 fun v8 S7 =>
 atL v8 0 fun v9a v9l v9c =>
 atI .i64 v8 1 fun v10 =>
 cond (v10 != 0) (
 some ((.int .i64 5), S7)) (
 gO x0 fun p11 =>
 ldI .u64 S7 p11.1 (p11.2 + 3) fun v12 =>
 gO x0 fun p13 =>
 S7.stn p13.1 (p13.2 + 3) [(.int .u64 (IntKind.wrap .u64 (v12 + 1)))] fun S14 =>
 gO x0 fun p15 =>
 ldI .i64 S14 p15.1 (p15.2 + 1) fun v16 =>
 ldI .u64 S14 (.rw b1) 0 fun v17 =>
 cond ((Int.tmod v17 2) == 0) (
 gO x0 fun p18 =>
 ldV S14 p18.1 p18.2 fun v19 =>
 invV E call v19 "Write" [(.int .i64 (IntKind.wrap .i64 (v16 + 1))), (.sl v9a v9l v9c)] S14 fun v21 S20 =>
 gIk .i64 v21 fun v22 =>
 cond (v22 != 0) (
 some ((.int .i64 v22), S20)) (
 gO x0 fun p23 =>
 ldV S20 p23.1 p23.2 fun v24 =>
 invV E call v24 "Flush" [] S20 fun v26 S25 =>
 gIk .i64 v26 fun v27 =>
 cond (v27 != 0) (
 some ((.int .i64 v27), S25)) (
 S25.ldn (.rw b1) 0 6 fun g28 =>
 gO x0 fun p29 =>
 ifO (g28.length = 6) <|
 S25.stn p29.1 (p29.2 + 3) g28 fun S30 =>
 some ((.int .i64 0), S30)))) (
 gO x0 fun p31 =>
 ldV S14 p31.1 p31.2 fun v32 =>
 invV E call v32 "Write" [(.int .i64 v16), (.sl v9a v9l v9c)] S14 fun v34 S33 =>
 gIk .i64 v34 fun v35 =>
 cond (v35 != 0) (
 some ((.int .i64 v35), S33)) (
 gO x0 fun p36 =>
 ldV S33 p36.1 p36.2 fun v37 =>
 invV E call v37 "Flush" [] S33 fun v39 S38 =>
 gIk .i64 v39 fun v40 =>
 cond (v40 != 0) (
 some ((.int .i64 v40), S38)) (
 S38.ldn (.rw b1) 0 6 fun g41 =>
 gO x0 fun p42 =>
 ifO (g41.length = 6) <|
 S38.stn p42.1 (p42.2 + 3) g41 fun S43 =>
 some ((.int .i64 0), S43)))))

theorem a53_entry (call : CallA) (n : Nat) (x0 : Option Pos) (x1 : List AV) (S : AS) : evC E call n 53 (E.at 53 []) 0 (enumT 0 [(.ptr x0), (.agg x1)]) S (retK E (E.fn 53)) = b53_entry call n  x0 x1 S := by kernel_rfl
def J53 (call : CallA) (n : Nat) (x0 : Option Pos) (x1 : List AV) (S : AS) : Option (AV × AS) := b53_entry call n  x0 x1 S
theorem run53 (o : Orc) (n : Nat) (args : List AV) (S : AS) (ho : o 53 args = none) : evF E o (n + 1) (.fn 53) args S = evC E (evF E o n) n 53 (E.at 53 []) 0 (enumT 0 args) S (retK E (E.fn 53)) := by
  rw [evF, ho]; kernel_rfl
theorem J53_eq (call : CallA) (n : Nat) (x0 : Option Pos) (x1 : List AV) (S : AS) : evC E call n 53 (E.at 53 []) 0 (enumT 0 [(.ptr x0), (.agg x1)]) S (retK E (E.fn 53)) = J53 call n x0 x1 S := by
  rw [J53, a53_entry]
theorem F53 {o : Orc} (n : Nat) (x0 : Option Pos) (x1 : List AV) (S : AS) (ho : ∀ args, o 53 args = none) : evF E o (n + 1) (.fn 53) [(.ptr x0), (.agg x1)] S = J53 (evF E o n) n x0 x1 S := (run53 o n [(.ptr x0), (.agg x1)] S (ho _)).trans (J53_eq _ _ x0 x1 S)
def b54_entry (call : CallA) (n : Nat)   (x0a : Option Pos) (x0l : Nat) (x0c : Cap) (S : AS) : Option (AV × AS) :=
 cond x0a.isNone (
 some ((.sl none 0 (.ex 0)), S)) (
 newA S (.cells []) fun b1 S2 =>
 appendA 3 24 S2 (some (.rw b1, 0)) 0 (.ex 0) x0l (firstA S2 3 x0l (.sl x0a x0l x0c)) fun v3a v3l v3c S4 =>
 some ((.sl v3a v3l v3c), S4))

theorem a54_entry (call : CallA) (n : Nat) (x0a : Option Pos) (x0l : Nat) (x0c : Cap) (S : AS) : evC E call n 54 (E.at 54 []) 0 (enumT 0 [(.sl x0a x0l x0c)]) S (retK E (E.fn 54)) = b54_entry call n  x0a x0l x0c S := by kernel_rfl
def J54 (call : CallA) (n : Nat) (x0a : Option Pos) (x0l : Nat) (x0c : Cap) (S : AS) : Option (AV × AS) := b54_entry call n  x0a x0l x0c S
theorem run54 (o : Orc) (n : Nat) (args : List AV) (S : AS) (ho : o 54 args = none) : evF E o (n + 1) (.fn 54) args S = evC E (evF E o n) n 54 (E.at 54 []) 0 (enumT 0 args) S (retK E (E.fn 54)) := by
  rw [evF, ho]; kernel_rfl
theorem J54_eq (call : CallA) (n : Nat) (x0a : Option Pos) (x0l : Nat) (x0c : Cap) (S : AS) : evC E call n 54 (E.at 54 []) 0 (enumT 0 [(.sl x0a x0l x0c)]) S (retK E (E.fn 54)) = J54 call n x0a x0l x0c S := by
  rw [J54, a54_entry]
theorem F54 {o : Orc} (n : Nat) (x0a : Option Pos) (x0l : Nat) (x0c : Cap) (S : AS) (ho : ∀ args, o 54 args = none) : evF E o (n + 1) (.fn 54) [(.sl x0a x0l x0c)] S = J54 (evF E o n) n x0a x0l x0c S := (run54 o n [(.sl x0a x0l x0c)] S (ho _)).trans (J54_eq _ _ x0a x0l x0c S)
def b55_l1_0 (call : CallA) (n : Nat)  (l1_0 : Option Pos → Nat → Cap → Int → Int → AS → Option (AV × AS)) (w0a : Option Pos) (w0l : Nat) (w0c : Cap) (w1 : Int) (w4 : Int) (S : AS) : Option (AV × AS) :=
 cond (decide (w4 ≥ 0)) (
 ixSl 1 w0a w0l w4 fun p1 =>
 S.stn p1.1 p1.2 [(.int .u8 (IntKind.wrap .u8 w1))] fun S2 =>
 l1_0 w0a w0l w0c (shrI .u64 w1 8) (IntKind.wrap .i64 (w4 - 1)) S2) (
 some (.tup [], S))

def b55_entry (call : CallA) (n : Nat)  (l1_0 : Option Pos → Nat → Cap → Int → Int → AS → Option (AV × AS)) (x0a : Option Pos) (x0l : Nat) (x0c : Cap) (x1 : Int) (S : AS) : Option (AV × AS) :=
 l1_0 x0a x0l x0c x1 (IntKind.wrap .i64 (((x0l : Nat) : Int) - 1)) S

def r55_l1_0 (call : CallA) (n : Nat)  (m : Nat) (w0a : Option Pos) (w0l : Nat) (w0c : Cap) (w1 : Int) (w4 : Int) (S : AS) : Option (AV × AS) := loopN (evC E call n 55 (E.at 55 [1, 0, 0]) 0) [0, 1, 4] m [(0, (.sl w0a w0l w0c)), (1, (.int .u64 w1)), (4, (.int .i64 w4))] S (kBlk 0 (retK E (E.fn 55)))
theorem a55_l1_0 (call : CallA) (n : Nat)  (m : Nat) (w0a : Option Pos) (w0l : Nat) (w0c : Cap) (w1 : Int) (w4 : Int) (S : AS) : r55_l1_0 call n  (m + 1) w0a w0l w0c w1 w4 S = b55_l1_0 call n (r55_l1_0 call n  m) w0a w0l w0c w1 w4 S := by kernel_rfl
theorem a55_entry (call : CallA) (n : Nat) (x0a : Option Pos) (x0l : Nat) (x0c : Cap) (x1 : Int) (S : AS) : evC E call n 55 (E.at 55 []) 0 (enumT 0 [(.sl x0a x0l x0c), (.int .u64 x1)]) S (retK E (E.fn 55)) = b55_entry call n (r55_l1_0 call n  n) x0a x0l x0c x1 S := by kernel_rfl
def J55_l1_0 (call : CallA) (n : Nat)  (m : Nat) : Option Pos → Nat → Cap → Int → Int → AS → Option (AV × AS) := Nat.rec (motive := fun _ => Option Pos → Nat → Cap → Int → Int → AS → Option (AV × AS)) (fun _ _ _ _ _ _ => none) (fun mK ih w0a w0l w0c w1 w4 S => b55_l1_0 call n ih w0a w0l w0c w1 w4 S) m
theorem J55_l1_0_succ (call : CallA) (n : Nat)  (m : Nat) (w0a : Option Pos) (w0l : Nat) (w0c : Cap) (w1 : Int) (w4 : Int) (S : AS) : J55_l1_0 call n  (m + 1) w0a w0l w0c w1 w4 S = b55_l1_0 call n (J55_l1_0 call n  m) w0a w0l w0c w1 w4 S := rfl
theorem h55_l1_0 (call : CallA) (n : Nat)  (m : Nat) : r55_l1_0 call n  m = J55_l1_0 call n  m := by
  induction m with
  | zero => rfl
  | succ m ih =>
    funext w0a w0l w0c w1 w4 S
    rw [J55_l1_0_succ, a55_l1_0, ih]
def J55 (call : CallA) (n : Nat) (x0a : Option Pos) (x0l : Nat) (x0c : Cap) (x1 : Int) (S : AS) : Option (AV × AS) := b55_entry call n (J55_l1_0 call n  n) x0a x0l x0c x1 S
theorem run55 (o : Orc) (n : Nat) (args : List AV) (S : AS) (ho : o 55 args = none) : evF E o (n + 1) (.fn 55) args S = evC E (evF E o n) n 55 (E.at 55 []) 0 (enumT 0 args) S (retK E (E.fn 55)) := by
  rw [evF, ho]; kernel_rfl
theorem J55_eq (call : CallA) (n : Nat) (x0a : Option Pos) (x0l : Nat) (x0c : Cap) (x1 : Int) (S : AS) : evC E call n 55 (E.at 55 []) 0 (enumT 0 [(.sl x0a x0l x0c), (.int .u64 x1)]) S (retK E (E.fn 55)) = J55 call n x0a x0l x0c x1 S := by
  rw [J55, a55_entry, h55_l1_0 call n  n]
theorem F55 {o : Orc} (n : Nat) (x0a : Option Pos) (x0l : Nat) (x0c : Cap) (x1 : Int) (S : AS) (ho : ∀ args, o 55 args = none) : evF E o (n + 1) (.fn 55) [(.sl x0a x0l x0c), (.int .u64 x1)] S = J55 (evF E o n) n x0a x0l x0c x1 S := (run55 o n [(.sl x0a x0l x0c), (.int .u64 x1)] S (ho _)).trans (J55_eq _ _ x0a x0l x0c x1 S)
def b56_entry (call : CallA) (n : Nat)   (x0 : List AV) (x1 : List AV) (S : AS) : Option (AV × AS) :=
 ifO (x0.length = 2) <|
 newA S (.cells x0) fun b1 S2 =>
 ifO (x1.length = 2) <|
 newA S2 (.cells x1) fun b3 S4 =>
 ldI .u64 S4 (.rw b1) 0 fun v5 =>
 ldI .u64 S4 (.rw b3) 0 fun v6 =>
 cond (decide (v5 > v6)) (
 some ((.bool true), S4)) (
 ldI .u64 S4 (.rw b1) 0 fun v7 =>
 ldI .u64 S4 (.rw b3) 0 fun v8 =>
 cond (v7 == v8) (
 ldI .u64 S4 (.rw b1) 1 fun v9 =>
 ldI .u64 S4 (.rw b3) 1 fun v10 =>
 some ((.bool (decide (v9 > v10))), S4)) (
 some ((.bool false), S4)))

theorem a56_entry (call : CallA) (n : Nat) (x0 : List AV) (x1 : List AV) (S : AS) : evC E call n 56 (E.at 56 []) 0 (enumT 0 [(.agg x0), (.agg x1)]) S (retK E (E.fn 56)) = b56_entry call n  x0 x1 S := by kernel_rfl
def J56 (call : CallA) (n : Nat) (x0 : List AV) (x1 : List AV) (S : AS) : Option (AV × AS) := b56_entry call n  x0 x1 S
theorem run56 (o : Orc) (n : Nat) (args : List AV) (S : AS) (ho : o 56 args = none) : evF E o (n + 1) (.fn 56) args S = evC E (evF E o n) n 56 (E.at 56 []) 0 (enumT 0 args) S (retK E (E.fn 56)) := by
  rw [evF, ho]; kernel_rfl
theorem J56_eq (call : CallA) (n : Nat) (x0 : List AV) (x1 : List AV) (S : AS) : evC E call n 56 (E.at 56 []) 0 (enumT 0 [(.agg x0), (.agg x1)]) S (retK E (E.fn 56)) = J56 call n x0 x1 S := by
  rw [J56, a56_entry]
theorem F56 {o : Orc} (n : Nat) (x0 : List AV) (x1 : List AV) (S : AS) (ho : ∀ args, o 56 args = none) : evF E o (n + 1) (.fn 56) [(.agg x0), (.agg x1)] S = J56 (evF E o n) n x0 x1 S := (run56 o n [(.agg x0), (.agg x1)] S (ho _)).trans (J56_eq _ _ x0 x1 S)
end
end Go.Jn
