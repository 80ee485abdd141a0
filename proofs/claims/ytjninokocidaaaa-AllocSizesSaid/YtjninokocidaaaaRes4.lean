/- Plain readings of the functions, and that they are what the evaluator does: by program. -/
import Derived.Test.YtjninokocidaaaaGrRes
import Derived.Test.YtjninokocidaaaaENV
import Derived.KernelRfl
set_option maxRecDepth 100000
set_option linter.unusedVariables false
namespace Go.Al
open Go.Gr
noncomputable section
def b42_j1 (call : CallA) (n : Nat) (j1_1 : Option Pos → Int → Int → AS → Option (AV × AS)) (w0 : Option Pos) (w1 : Int) (w2 : Int) (S : AS) : Option (AV × AS) :=
 cond (w2 == 0) (
 gO w0 fun p9 =>
 ldI .i64 S p9.1 (p9.2 + 5) fun v10 =>
 gO w0 fun p11 =>
 S.stn p11.1 (p11.2 + 5) [(.int .i64 (IntKind.wrap .i64 (v10 + 1)))] fun S12 =>
 j1_1 w0 w1 w2 S12) (
 j1_1 w0 w1 w2 S)

def b42_j1_1 (call : CallA) (n : Nat)  (w0 : Option Pos) (w1 : Int) (w2 : Int) (S : AS) : Option (AV × AS) :=
 gO w0 fun p13 =>
 ldL S p13.1 p13.2 fun v14a v14l v14c =>
 ixSl 1 v14a v14l w1 fun p15 =>
 S.stn p15.1 p15.2 [(.int .u8 (IntKind.wrap .u8 w2))] fun S16 =>
 some (.tup [], S16)

def b42_entry (call : CallA) (n : Nat) (j1 : Option Pos → Int → Int → AS → Option (AV × AS)) (x0 : Option Pos) (x1 : Int) (x2 : Int) (S : AS) : Option (AV × AS) :=
 gO x0 fun p1 =>
 ldL S p1.1 p1.2 fun v2a v2l v2c =>
 ixSl 1 v2a v2l x1 fun p3 =>
 ldI .u8 S p3.1 p3.2 fun v4 =>
 cond (v4 == 0) (
 gO x0 fun p5 =>
 ldI .i64 S p5.1 (p5.2 + 5) fun v6 =>
 gO x0 fun p7 =>
 S.stn p7.1 (p7.2 + 5) [(.int .i64 (IntKind.wrap .i64 (v6 - 1)))] fun S8 =>
 j1 x0 x1 x2 S8) (
 j1 x0 x1 x2 S)

def r42_j1 (call : CallA) (n : Nat)  (w0 : Option Pos) (w1 : Int) (w2 : Int) (S : AS) : Option (AV × AS) := evC E call n 42 (E.at 42 [1]) 0 [(0, (.ptr w0)), (1, (.int .i64 w1)), (2, (.int .i64 w2))] S (retK E (E.fn 42))
def r42_j1_1 (call : CallA) (n : Nat)  (w0 : Option Pos) (w1 : Int) (w2 : Int) (S : AS) : Option (AV × AS) := evC E call n 42 (E.at 42 [1, 1]) 0 [(0, (.ptr w0)), (1, (.int .i64 w1)), (2, (.int .i64 w2))] S (retK E (E.fn 42))
theorem a42_j1 (call : CallA) (n : Nat)  (w0 : Option Pos) (w1 : Int) (w2 : Int) (S : AS) : r42_j1 call n  w0 w1 w2 S = b42_j1 call n (r42_j1_1 call n ) w0 w1 w2 S := by kernel_rfl
theorem a42_j1_1 (call : CallA) (n : Nat)  (w0 : Option Pos) (w1 : Int) (w2 : Int) (S : AS) : r42_j1_1 call n  w0 w1 w2 S = b42_j1_1 call n  w0 w1 w2 S := by kernel_rfl
theorem a42_entry (call : CallA) (n : Nat) (x0 : Option Pos) (x1 : Int) (x2 : Int) (S : AS) : evC E call n 42 (E.at 42 []) 0 (enumT 0 [(.ptr x0), (.int .i64 x1), (.int .i64 x2)]) S (retK E (E.fn 42)) = b42_entry call n (r42_j1 call n ) x0 x1 x2 S := by kernel_rfl
def J42_j1_1 (call : CallA) (n : Nat)  (w0 : Option Pos) (w1 : Int) (w2 : Int) (S : AS) : Option (AV × AS) := b42_j1_1 call n  w0 w1 w2 S
theorem h42_j1_1 (call : CallA) (n : Nat)  : r42_j1_1 call n  = J42_j1_1 call n  := by
  funext w0 w1 w2 S
  rw [J42_j1_1, a42_j1_1]
def J42_j1 (call : CallA) (n : Nat)  (w0 : Option Pos) (w1 : Int) (w2 : Int) (S : AS) : Option (AV × AS) := b42_j1 call n (J42_j1_1 call n ) w0 w1 w2 S
theorem h42_j1 (call : CallA) (n : Nat)  : r42_j1 call n  = J42_j1 call n  := by
  funext w0 w1 w2 S
  rw [J42_j1, a42_j1, h42_j1_1 call n ]
def J42 (call : CallA) (n : Nat) (x0 : Option Pos) (x1 : Int) (x2 : Int) (S : AS) : Option (AV × AS) := b42_entry call n (J42_j1 call n ) x0 x1 x2 S
theorem run42 (o : Orc) (n : Nat) (args : List AV) (S : AS) (ho : o 42 args = none) : evF E o (n + 1) (.fn 42) args S = evC E (evF E o n) n 42 (E.at 42 []) 0 (enumT 0 args) S (retK E (E.fn 42)) := by
  rw [evF, ho]; kernel_rfl
theorem J42_eq (call : CallA) (n : Nat) (x0 : Option Pos) (x1 : Int) (x2 : Int) (S : AS) : evC E call n 42 (E.at 42 []) 0 (enumT 0 [(.ptr x0), (.int .i64 x1), (.int .i64 x2)]) S (retK E (E.fn 42)) = J42 call n x0 x1 x2 S := by
  rw [J42, a42_entry, h42_j1 call n ]
theorem F42 {o : Orc} (n : Nat) (x0 : Option Pos) (x1 : Int) (x2 : Int) (S : AS) (ho : ∀ args, o 42 args = none) : evF E o (n + 1) (.fn 42) [(.ptr x0), (.int .i64 x1), (.int .i64 x2)] S = J42 (evF E o n) n x0 x1 x2 S := (run42 o n [(.ptr x0), (.int .i64 x1), (.int .i64 x2)] S (ho _)).trans (J42_eq _ _ x0 x1 x2 S)
def b43_entry (call : CallA) (n : Nat)  (x0a : Option Pos) (x0l : Nat) (x0c : Cap) (S : AS) : Option (AV × AS) :=
 callI .i64 call 64 [(.int .u64 (IntKind.wrap .u64 ((x0l : Nat) : Int)))] S fun v2 S1 =>
 callT call 63 [(.sl x0a x0l x0c), (.int .i64 0), (.int .i64 ((x0l : Nat) : Int)), (.int .i64 v2)] S1 fun v4 S3 =>
 some (.tup [], S3)

theorem a43_entry (call : CallA) (n : Nat) (x0a : Option Pos) (x0l : Nat) (x0c : Cap) (S : AS) : evC E call n 43 (E.at 43 []) 0 (enumT 0 [(.sl x0a x0l x0c)]) S (retK E (E.fn 43)) = b43_entry call n  x0a x0l x0c S := by kernel_rfl
def J43 (call : CallA) (n : Nat) (x0a : Option Pos) (x0l : Nat) (x0c : Cap) (S : AS) : Option (AV × AS) := b43_entry call n  x0a x0l x0c S
theorem run43 (o : Orc) (n : Nat) (args : List AV) (S : AS) (ho : o 43 args = none) : evF E o (n + 1) (.fn 43) args S = evC E (evF E o n) n 43 (E.at 43 []) 0 (enumT 0 args) S (retK E (E.fn 43)) := by
  rw [evF, ho]; kernel_rfl
theorem J43_eq (call : CallA) (n : Nat) (x0a : Option Pos) (x0l : Nat) (x0c : Cap) (S : AS) : evC E call n 43 (E.at 43 []) 0 (enumT 0 [(.sl x0a x0l x0c)]) S (retK E (E.fn 43)) = J43 call n x0a x0l x0c S := by
  rw [J43, a43_entry]
theorem F43 {o : Orc} (n : Nat) (x0a : Option Pos) (x0l : Nat) (x0c : Cap) (S : AS) (ho : ∀ args, o 43 args = none) : evF E o (n + 1) (.fn 43) [(.sl x0a x0l x0c)] S = J43 (evF E o n) n x0a x0l x0c S := (run43 o n [(.sl x0a x0l x0c)] S (ho _)).trans (J43_eq _ _ x0a x0l x0c S)
def b44_l1_0_1_0 (call : CallA) (n : Nat) (l1_0_1_0 : Option Pos → Nat → Cap → Int → Int → Int → Int → AS → Option (AV × AS)) (w0a : Option Pos) (w0l : Nat) (w0c : Cap) (w1 : Int) (w4 : Int) (w7 : Int) (w8 : Int) (S : AS) : Option (AV × AS) :=
 cond (decide (w8 < w7)) (
 ixSl 1 w0a w0l w8 fun p1 =>
 ldI .i64 S p1.1 p1.2 fun v2 =>
 cond (w1 == v2) (
 some ((.int .i64 w8), S)) (
 l1_0_1_0 w0a w0l w0c w1 w4 w7 (IntKind.wrap .i64 (w8 + 1)) S)) (
 some ((.int .i64 (-1)), S))

def b44_entry (call : CallA) (n : Nat) (l1_0_1_0 : Option Pos → Nat → Cap → Int → Int → Int → Int → AS → Option (AV × AS)) (x0a : Option Pos) (x0l : Nat) (x0c : Cap) (x1 : Int) (S : AS) : Option (AV × AS) :=
 l1_0_1_0 x0a x0l x0c x1 0 ((x0l : Nat) : Int) 0 S

def r44_l1_0_1_0 (call : CallA) (n : Nat)  (m : Nat) (w0a : Option Pos) (w0l : Nat) (w0c : Cap) (w1 : Int) (w4 : Int) (w7 : Int) (w8 : Int) (S : AS) : Option (AV × AS) := loopN (evC E call n 44 (E.at 44 [1, 0, 1, 0, 0]) 0) [0, 1, 4, 7, 8] m [(0, (.sl w0a w0l w0c)), (1, (.int .i64 w1)), (4, (.int .i64 w4)), (7, (.int .i64 w7)), (8, (.int .i64 w8))] S (kBlk 0 (kSeq E call n 44 (E.at 44 [1, 1]) 0 (retK E (E.fn 44))))
theorem a44_l1_0_1_0 (call : CallA) (n : Nat)  (m : Nat) (w0a : Option Pos) (w0l : Nat) (w0c : Cap) (w1 : Int) (w4 : Int) (w7 : Int) (w8 : Int) (S : AS) : r44_l1_0_1_0 call n  (m + 1) w0a w0l w0c w1 w4 w7 w8 S = b44_l1_0_1_0 call n (r44_l1_0_1_0 call n  m) w0a w0l w0c w1 w4 w7 w8 S := by kernel_rfl
theorem a44_entry (call : CallA) (n : Nat) (x0a : Option Pos) (x0l : Nat) (x0c : Cap) (x1 : Int) (S : AS) : evC E call n 44 (E.at 44 []) 0 (enumT 0 [(.sl x0a x0l x0c), (.int .i64 x1)]) S (retK E (E.fn 44)) = b44_entry call n (r44_l1_0_1_0 call n  n) x0a x0l x0c x1 S := by kernel_rfl
def J44_l1_0_1_0 (call : CallA) (n : Nat)  (m : Nat) : Option Pos → Nat → Cap → Int → Int → Int → Int → AS → Option (AV × AS) := Nat.rec (motive := fun _ => Option Pos → Nat → Cap → Int → Int → Int → Int → AS → Option (AV × AS)) (fun _ _ _ _ _ _ _ _ => none) (fun _ ih w0a w0l w0c w1 w4 w7 w8 S => b44_l1_0_1_0 call n ih w0a w0l w0c w1 w4 w7 w8 S) m
theorem J44_l1_0_1_0_succ (call : CallA) (n : Nat)  (m : Nat) (w0a : Option Pos) (w0l : Nat) (w0c : Cap) (w1 : Int) (w4 : Int) (w7 : Int) (w8 : Int) (S : AS) : J44_l1_0_1_0 call n  (m + 1) w0a w0l w0c w1 w4 w7 w8 S = b44_l1_0_1_0 call n (J44_l1_0_1_0 call n  m) w0a w0l w0c w1 w4 w7 w8 S := rfl
theorem h44_l1_0_1_0 (call : CallA) (n : Nat)  (m : Nat) : r44_l1_0_1_0 call n  m = J44_l1_0_1_0 call n  m := by
  induction m with
  | zero => rfl
  | succ m ih =>
    funext w0a w0l w0c w1 w4 w7 w8 S
    rw [J44_l1_0_1_0_succ, a44_l1_0_1_0, ih]
def J44 (call : CallA) (n : Nat) (x0a : Option Pos) (x0l : Nat) (x0c : Cap) (x1 : Int) (S : AS) : Option (AV × AS) := b44_entry call n (J44_l1_0_1_0 call n  n) x0a x0l x0c x1 S
theorem run44 (o : Orc) (n : Nat) (args : List AV) (S : AS) (ho : o 44 args = none) : evF E o (n + 1) (.fn 44) args S = evC E (evF E o n) n 44 (E.at 44 []) 0 (enumT 0 args) S (retK E (E.fn 44)) := by
  rw [evF, ho]; kernel_rfl
theorem J44_eq (call : CallA) (n : Nat) (x0a : Option Pos) (x0l : Nat) (x0c : Cap) (x1 : Int) (S : AS) : evC E call n 44 (E.at 44 []) 0 (enumT 0 [(.sl x0a x0l x0c), (.int .i64 x1)]) S (retK E (E.fn 44)) = J44 call n x0a x0l x0c x1 S := by
  rw [J44, a44_entry, h44_l1_0_1_0 call n  n]
theorem F44 {o : Orc} (n : Nat) (x0a : Option Pos) (x0l : Nat) (x0c : Cap) (x1 : Int) (S : AS) (ho : ∀ args, o 44 args = none) : evF E o (n + 1) (.fn 44) [(.sl x0a x0l x0c), (.int .i64 x1)] S = J44 (evF E o n) n x0a x0l x0c x1 S := (run44 o n [(.sl x0a x0l x0c), (.int .i64 x1)] S (ho _)).trans (J44_eq _ _ x0a x0l x0c x1 S)
def b45_entry (call : CallA) (n : Nat)  (x0a : Option Pos) (x0l : Nat) (x0c : Cap) (x1 : Int) (x2 : Int) (S : AS) : Option (AV × AS) :=
 slSl 1 x0a x0l x0c (some x1) (some x2) (some ((x0l : Nat) : Int)) fun v1a v1l v1c =>
 cond (x1 == x2) (
 some ((.sl x0a x0l x0c), S)) (
 slSl 1 x0a x0l x0c none (some x1) none fun v2a v2l v2c =>
 slSl 1 x0a x0l x0c (some x2) none none fun v3a v3l v3c =>
 appendA 1 8 S v2a v2l v2c v3l (firstA S 1 v3l (.sl v3a v3l v3c)) fun v4a v4l v4c S5 =>
 slSl 1 v4a v4l v4c (some ((v4l : Nat) : Int)) (some ((x0l : Nat) : Int)) none fun v6a v6l v6c =>
 clearA [(.int .i64 0)] S5 v6a v6l fun S7 =>
 some ((.sl v4a v4l v4c), S7))

theorem a45_entry (call : CallA) (n : Nat) (x0a : Option Pos) (x0l : Nat) (x0c : Cap) (x1 : Int) (x2 : Int) (S : AS) : evC E call n 45 (E.at 45 []) 0 (enumT 0 [(.sl x0a x0l x0c), (.int .i64 x1), (.int .i64 x2)]) S (retK E (E.fn 45)) = b45_entry call n  x0a x0l x0c x1 x2 S := by kernel_rfl
def J45 (call : CallA) (n : Nat) (x0a : Option Pos) (x0l : Nat) (x0c : Cap) (x1 : Int) (x2 : Int) (S : AS) : Option (AV × AS) := b45_entry call n  x0a x0l x0c x1 x2 S
theorem run45 (o : Orc) (n : Nat) (args : List AV) (S : AS) (ho : o 45 args = none) : evF E o (n + 1) (.fn 45) args S = evC E (evF E o n) n 45 (E.at 45 []) 0 (enumT 0 args) S (retK E (E.fn 45)) := by
  rw [evF, ho]; kernel_rfl
theorem J45_eq (call : CallA) (n : Nat) (x0a : Option Pos) (x0l : Nat) (x0c : Cap) (x1 : Int) (x2 : Int) (S : AS) : evC E call n 45 (E.at 45 []) 0 (enumT 0 [(.sl x0a x0l x0c), (.int .i64 x1), (.int .i64 x2)]) S (retK E (E.fn 45)) = J45 call n x0a x0l x0c x1 x2 S := by
  rw [J45, a45_entry]
theorem F45 {o : Orc} (n : Nat) (x0a : Option Pos) (x0l : Nat) (x0c : Cap) (x1 : Int) (x2 : Int) (S : AS) (ho : ∀ args, o 45 args = none) : evF E o (n + 1) (.fn 45) [(.sl x0a x0l x0c), (.int .i64 x1), (.int .i64 x2)] S = J45 (evF E o n) n x0a x0l x0c x1 x2 S := (run45 o n [(.sl x0a x0l x0c), (.int .i64 x1), (.int .i64 x2)] S (ho _)).trans (J45_eq _ _ x0a x0l x0c x1 x2 S)
def b46_entry (call : CallA) (n : Nat)  (x0a : Option Pos) (x0l : Nat) (x0c : Cap) (S : AS) : Option (AV × AS) :=
 cond x0a.isNone (
 some ((.sl none 0 (.ex 0)), S)) (
 newA S (.cells []) fun b1 S2 =>
 appendA 1 8 S2 (some (.rw b1, 0)) 0 (.ex 0) x0l (firstA S2 1 x0l (.sl x0a x0l x0c)) fun v3a v3l v3c S4 =>
 some ((.sl v3a v3l v3c), S4))

theorem a46_entry (call : CallA) (n : Nat) (x0a : Option Pos) (x0l : Nat) (x0c : Cap) (S : AS) : evC E call n 46 (E.at 46 []) 0 (enumT 0 [(.sl x0a x0l x0c)]) S (retK E (E.fn 46)) = b46_entry call n  x0a x0l x0c S := by kernel_rfl
def J46 (call : CallA) (n : Nat) (x0a : Option Pos) (x0l : Nat) (x0c : Cap) (S : AS) : Option (AV × AS) := b46_entry call n  x0a x0l x0c S
theorem run46 (o : Orc) (n : Nat) (args : List AV) (S : AS) (ho : o 46 args = none) : evF E o (n + 1) (.fn 46) args S = evC E (evF E o n) n 46 (E.at 46 []) 0 (enumT 0 args) S (retK E (E.fn 46)) := by
  rw [evF, ho]; kernel_rfl
theorem J46_eq (call : CallA) (n : Nat) (x0a : Option Pos) (x0l : Nat) (x0c : Cap) (S : AS) : evC E call n 46 (E.at 46 []) 0 (enumT 0 [(.sl x0a x0l x0c)]) S (retK E (E.fn 46)) = J46 call n x0a x0l x0c S := by
  rw [J46, a46_entry]
theorem F46 {o : Orc} (n : Nat) (x0a : Option Pos) (x0l : Nat) (x0c : Cap) (S : AS) (ho : ∀ args, o 46 args = none) : evF E o (n + 1) (.fn 46) [(.sl x0a x0l x0c)] S = J46 (evF E o n) n x0a x0l x0c S := (run46 o n [(.sl x0a x0l x0c)] S (ho _)).trans (J46_eq _ _ x0a x0l x0c S)
def b47_entry (call : CallA) (n : Nat)  (x0 : Option Pos) (x1 : Int) (S : AS) : Option (AV × AS) :=
 callB call 65 [(.ptr x0), (.int .i64 x1)] S fun v2 S1 =>
 cond (!v2) (
 some (.tup [(.int .i64 0), (.int .i64 2)], S1)) (
 callI .i64 call 56 [(.ptr x0), (.int .i64 0)] S1 fun v4 S3 =>
 gO x0 fun p5 =>
 ldI .i64 S3 p5.1 (p5.2 + 3) fun v6 =>
 ldI .i64 S1 p5.1 (p5.2 + 3) fun v7 =>
 cond (AV.beq (.int .i64 v7) (.int .i64 v6)) (
 cond (decide (v4 ≤ v6)) (
 some (.tup [(.int .i64 0), (.int .i64 100)], S3)) (
 callI .i64 call 66 [(.ptr x0), (.int .i64 x1)] S3 fun v9 S8 =>
 some (.tup [(.int .i64 v9), (.int .i64 0)], S8))) none)

theorem a47_entry (call : CallA) (n : Nat) (x0 : Option Pos) (x1 : Int) (S : AS) : evC E call n 47 (E.at 47 []) 0 (enumT 0 [(.ptr x0), (.int .i64 x1)]) S (retK E (E.fn 47)) = b47_entry call n  x0 x1 S := by kernel_rfl
def J47 (call : CallA) (n : Nat) (x0 : Option Pos) (x1 : Int) (S : AS) : Option (AV × AS) := b47_entry call n  x0 x1 S
theorem run47 (o : Orc) (n : Nat) (args : List AV) (S : AS) (ho : o 47 args = none) : evF E o (n + 1) (.fn 47) args S = evC E (evF E o n) n 47 (E.at 47 []) 0 (enumT 0 args) S (retK E (E.fn 47)) := by
  rw [evF, ho]; kernel_rfl
theorem J47_eq (call : CallA) (n : Nat) (x0 : Option Pos) (x1 : Int) (S : AS) : evC E call n 47 (E.at 47 []) 0 (enumT 0 [(.ptr x0), (.int .i64 x1)]) S (retK E (E.fn 47)) = J47 call n x0 x1 S := by
  rw [J47, a47_entry]
theorem F47 {o : Orc} (n : Nat) (x0 : Option Pos) (x1 : Int) (S : AS) (ho : ∀ args, o 47 args = none) : evF E o (n + 1) (.fn 47) [(.ptr x0), (.int .i64 x1)] S = J47 (evF E o n) n x0 x1 S := (run47 o n [(.ptr x0), (.int .i64 x1)] S (ho _)).trans (J47_eq _ _ x0 x1 S)
def b48_entry (call : CallA) (n : Nat)  (x0 : Option Pos) (x1 : Int) (S : AS) : Option (AV × AS) :=
 callB call 65 [(.ptr x0), (.int .i64 x1)] S fun v2 S1 =>
 cond (!v2) (
 some (.tup [(.int .i64 0), (.int .i64 2)], S1)) (
 gO x0 fun p3 =>
 ldI .i64 S1 p3.1 (p3.2 + 3) fun v4 =>
 cond (v4 == 0) (
 some (.tup [(.int .i64 0), (.int .i64 100)], S1)) (
 gO x0 fun p5 =>
 ldI .i64 S1 p5.1 (p5.2 + 3) fun v6 =>
 gO x0 fun p7 =>
 S1.stn p7.1 (p7.2 + 3) [(.int .i64 (IntKind.wrap .i64 (v6 - 1)))] fun S8 =>
 callI .i64 call 66 [(.ptr x0), (.int .i64 x1)] S8 fun v10 S9 =>
 some (.tup [(.int .i64 v10), (.int .i64 0)], S9)))

theorem a48_entry (call : CallA) (n : Nat) (x0 : Option Pos) (x1 : Int) (S : AS) : evC E call n 48 (E.at 48 []) 0 (enumT 0 [(.ptr x0), (.int .i64 x1)]) S (retK E (E.fn 48)) = b48_entry call n  x0 x1 S := by kernel_rfl
def J48 (call : CallA) (n : Nat) (x0 : Option Pos) (x1 : Int) (S : AS) : Option (AV × AS) := b48_entry call n  x0 x1 S
theorem run48 (o : Orc) (n : Nat) (args : List AV) (S : AS) (ho : o 48 args = none) : evF E o (n + 1) (.fn 48) args S = evC E (evF E o n) n 48 (E.at 48 []) 0 (enumT 0 args) S (retK E (E.fn 48)) := by
  rw [evF, ho]; kernel_rfl
theorem J48_eq (call : CallA) (n : Nat) (x0 : Option Pos) (x1 : Int) (S : AS) : evC E call n 48 (E.at 48 []) 0 (enumT 0 [(.ptr x0), (.int .i64 x1)]) S (retK E (E.fn 48)) = J48 call n x0 x1 S := by
  rw [J48, a48_entry]
theorem F48 {o : Orc} (n : Nat) (x0 : Option Pos) (x1 : Int) (S : AS) (ho : ∀ args, o 48 args = none) : evF E o (n + 1) (.fn 48) [(.ptr x0), (.int .i64 x1)] S = J48 (evF E o n) n x0 x1 S := (run48 o n [(.ptr x0), (.int .i64 x1)] S (ho _)).trans (J48_eq _ _ x0 x1 S)
def b49_entry (call : CallA) (n : Nat)  (x0 : Option Pos) (x1 : Int) (S : AS) : Option (AV × AS) :=
 callB call 65 [(.ptr x0), (.int .i64 x1)] S fun v2 S1 =>
 cond (!v2) (
 some ((.int .i64 2), S1)) (
 gO x0 fun p3 =>
 ldL S1 p3.1 p3.2 fun v4a v4l v4c =>
 ixSl 1 v4a v4l x1 fun p5 =>
 ldI .i64 S1 p5.1 p5.2 fun v6 =>
 cond (v6 == 1) (
 gO x0 fun p7 =>
 ldL S1 p7.1 p7.2 fun v8a v8l v8c =>
 ixSl 1 v8a v8l x1 fun p9 =>
 S1.stn p9.1 p9.2 [(.int .i64 3)] fun S10 =>
 gO x0 fun p11 =>
 ldL S10 p11.1 (p11.2 + 2) fun v12a v12l v12c =>
 newA S10 (.cells [(.int .i64 x1)]) fun b13 S14 =>
 appendA 1 8 S14 v12a v12l v12c 1 (firstA S14 1 1 (.sl (some (.rw b13, 0)) 1 (.ex 1))) fun v15a v15l v15c S16 =>
 gO x0 fun p17 =>
 S16.stn p17.1 (p17.2 + 2) [(.sl v15a v15l v15c)] fun S18 =>
 some ((.int .i64 0), S18)) (
 cond (v6 == 2) (
 gO x0 fun p19 =>
 ldL S1 p19.1 p19.2 fun v20a v20l v20c =>
 ixSl 1 v20a v20l x1 fun p21 =>
 S1.stn p21.1 p21.2 [(.int .i64 0)] fun S22 =>
 gO x0 fun p23 =>
 ldL S22 p23.1 (p23.2 + 1) fun v24a v24l v24c =>
 callL call 67 [(.sl v24a v24l v24c), (.int .i64 x1)] S22 fun v26a v26l v26c S25 =>
 gO x0 fun p27 =>
 S25.stn p27.1 (p27.2 + 1) [(.sl v26a v26l v26c)] fun S28 =>
 some ((.int .i64 0), S28)) (
 some ((.int .i64 101), S1))))

theorem a49_entry (call : CallA) (n : Nat) (x0 : Option Pos) (x1 : Int) (S : AS) : evC E call n 49 (E.at 49 []) 0 (enumT 0 [(.ptr x0), (.int .i64 x1)]) S (retK E (E.fn 49)) = b49_entry call n  x0 x1 S := by kernel_rfl
def J49 (call : CallA) (n : Nat) (x0 : Option Pos) (x1 : Int) (S : AS) : Option (AV × AS) := b49_entry call n  x0 x1 S
theorem run49 (o : Orc) (n : Nat) (args : List AV) (S : AS) (ho : o 49 args = none) : evF E o (n + 1) (.fn 49) args S = evC E (evF E o n) n 49 (E.at 49 []) 0 (enumT 0 args) S (retK E (E.fn 49)) := by
  rw [evF, ho]; kernel_rfl
theorem J49_eq (call : CallA) (n : Nat) (x0 : Option Pos) (x1 : Int) (S : AS) : evC E call n 49 (E.at 49 []) 0 (enumT 0 [(.ptr x0), (.int .i64 x1)]) S (retK E (E.fn 49)) = J49 call n x0 x1 S := by
  rw [J49, a49_entry]
theorem F49 {o : Orc} (n : Nat) (x0 : Option Pos) (x1 : Int) (S : AS) (ho : ∀ args, o 49 args = none) : evF E o (n + 1) (.fn 49) [(.ptr x0), (.int .i64 x1)] S = J49 (evF E o n) n x0 x1 S := (run49 o n [(.ptr x0), (.int .i64 x1)] S (ho _)).trans (J49_eq _ _ x0 x1 S)
def b50_entry (call : CallA) (n : Nat)  (x0 : Option Pos) (x1 : Int) (S : AS) : Option (AV × AS) :=
 callB call 65 [(.ptr x0), (.int .i64 x1)] S fun v2 S1 =>
 cond (!v2) (
 some ((.int .i64 2), S1)) (
 gO x0 fun p3 =>
 ldL S1 p3.1 p3.2 fun v4a v4l v4c =>
 ixSl 1 v4a v4l x1 fun p5 =>
 ldI .i64 S1 p5.1 p5.2 fun v6 =>
 cond (v6 != 0) (
 some ((.int .i64 101), S1)) (
 callI .i64 call 56 [(.ptr x0), (.int .i64 0)] S1 fun v8 S7 =>
 gO x0 fun p9 =>
 ldI .i64 S7 p9.1 (p9.2 + 3) fun v10 =>
 ldI .i64 S1 p9.1 (p9.2 + 3) fun v11 =>
 cond (AV.beq (.int .i64 v11) (.int .i64 v10)) (
 cond (decide (v8 ≤ v10)) (
 some ((.int .i64 101), S7)) (
 gO x0 fun p12 =>
 ldL S7 p12.1 p12.2 fun v13a v13l v13c =>
 ixSl 1 v13a v13l x1 fun p14 =>
 S7.stn p14.1 p14.2 [(.int .i64 2)] fun S15 =>
 gO x0 fun p16 =>
 ldL S15 p16.1 (p16.2 + 1) fun v17a v17l v17c =>
 newA S15 (.cells [(.int .i64 x1)]) fun b18 S19 =>
 appendA 1 8 S19 v17a v17l v17c 1 (firstA S19 1 1 (.sl (some (.rw b18, 0)) 1 (.ex 1))) fun v20a v20l v20c S21 =>
 gO x0 fun p22 =>
 S21.stn p22.1 (p22.2 + 1) [(.sl v20a v20l v20c)] fun S23 =>
 some ((.int .i64 0), S23))) none))

theorem a50_entry (call : CallA) (n : Nat) (x0 : Option Pos) (x1 : Int) (S : AS) : evC E call n 50 (E.at 50 []) 0 (enumT 0 [(.ptr x0), (.int .i64 x1)]) S (retK E (E.fn 50)) = b50_entry call n  x0 x1 S := by kernel_rfl
def J50 (call : CallA) (n : Nat) (x0 : Option Pos) (x1 : Int) (S : AS) : Option (AV × AS) := b50_entry call n  x0 x1 S
theorem run50 (o : Orc) (n : Nat) (args : List AV) (S : AS) (ho : o 50 args = none) : evF E o (n + 1) (.fn 50) args S = evC E (evF E o n) n 50 (E.at 50 []) 0 (enumT 0 args) S (retK E (E.fn 50)) := by
  rw [evF, ho]; kernel_rfl
theorem J50_eq (call : CallA) (n : Nat) (x0 : Option Pos) (x1 : Int) (S : AS) : evC E call n 50 (E.at 50 []) 0 (enumT 0 [(.ptr x0), (.int .i64 x1)]) S (retK E (E.fn 50)) = J50 call n x0 x1 S := by
  rw [J50, a50_entry]
theorem F50 {o : Orc} (n : Nat) (x0 : Option Pos) (x1 : Int) (S : AS) (ho : ∀ args, o 50 args = none) : evF E o (n + 1) (.fn 50) [(.ptr x0), (.int .i64 x1)] S = J50 (evF E o n) n x0 x1 S := (run50 o n [(.ptr x0), (.int .i64 x1)] S (ho _)).trans (J50_eq _ _ x0 x1 S)
def b51_entry (call : CallA) (n : Nat)  (x0 : Option Pos) (x1 : Int) (S : AS) : Option (AV × AS) :=
 cond (decide (x1 < 0)) (
 some ((.int .i64 2), S)) (
 callI .i64 call 56 [(.ptr x0), (.int .i64 0)] S fun v2 S1 =>
 gO x0 fun p3 =>
 ldI .i64 S1 p3.1 (p3.2 + 3) fun v4 =>
 ldI .i64 S p3.1 (p3.2 + 3) fun v5 =>
 cond (AV.beq (.int .i64 v5) (.int .i64 v4)) (
 cond (decide (x1 > (IntKind.wrap .i64 (v2 - v4)))) (
 some ((.int .i64 100), S1)) (
 gO x0 fun p6 =>
 ldI .i64 S1 p6.1 (p6.2 + 3) fun v7 =>
 gO x0 fun p8 =>
 S1.stn p8.1 (p8.2 + 3) [(.int .i64 (IntKind.wrap .i64 (v7 + x1)))] fun S9 =>
 some ((.int .i64 0), S9))) none)

theorem a51_entry (call : CallA) (n : Nat) (x0 : Option Pos) (x1 : Int) (S : AS) : evC E call n 51 (E.at 51 []) 0 (enumT 0 [(.ptr x0), (.int .i64 x1)]) S (retK E (E.fn 51)) = b51_entry call n  x0 x1 S := by kernel_rfl
def J51 (call : CallA) (n : Nat) (x0 : Option Pos) (x1 : Int) (S : AS) : Option (AV × AS) := b51_entry call n  x0 x1 S
theorem run51 (o : Orc) (n : Nat) (args : List AV) (S : AS) (ho : o 51 args = none) : evF E o (n + 1) (.fn 51) args S = evC E (evF E o n) n 51 (E.at 51 []) 0 (enumT 0 args) S (retK E (E.fn 51)) := by
  rw [evF, ho]; kernel_rfl
theorem J51_eq (call : CallA) (n : Nat) (x0 : Option Pos) (x1 : Int) (S : AS) : evC E call n 51 (E.at 51 []) 0 (enumT 0 [(.ptr x0), (.int .i64 x1)]) S (retK E (E.fn 51)) = J51 call n x0 x1 S := by
  rw [J51, a51_entry]
theorem F51 {o : Orc} (n : Nat) (x0 : Option Pos) (x1 : Int) (S : AS) (ho : ∀ args, o 51 args = none) : evF E o (n + 1) (.fn 51) [(.ptr x0), (.int .i64 x1)] S = J51 (evF E o n) n x0 x1 S := (run51 o n [(.ptr x0), (.int .i64 x1)] S (ho _)).trans (J51_eq _ _ x0 x1 S)
def b52_entry (call : CallA) (n : Nat)  (x0 : Option Pos) (x1 : Int) (S : AS) : Option (AV × AS) :=
 cond (decide (x1 < 0)) (
 some ((.int .i64 2), S)) (
 gO x0 fun p1 =>
 ldI .i64 S p1.1 (p1.2 + 3) fun v2 =>
 cond (decide (x1 > v2)) (
 some ((.int .i64 2), S)) (
 gO x0 fun p3 =>
 ldI .i64 S p3.1 (p3.2 + 3) fun v4 =>
 gO x0 fun p5 =>
 S.stn p5.1 (p5.2 + 3) [(.int .i64 (IntKind.wrap .i64 (v4 - x1)))] fun S6 =>
 some ((.int .i64 0), S6)))

theorem a52_entry (call : CallA) (n : Nat) (x0 : Option Pos) (x1 : Int) (S : AS) : evC E call n 52 (E.at 52 []) 0 (enumT 0 [(.ptr x0), (.int .i64 x1)]) S (retK E (E.fn 52)) = b52_entry call n  x0 x1 S := by kernel_rfl
def J52 (call : CallA) (n : Nat) (x0 : Option Pos) (x1 : Int) (S : AS) : Option (AV × AS) := b52_entry call n  x0 x1 S
theorem run52 (o : Orc) (n : Nat) (args : List AV) (S : AS) (ho : o 52 args = none) : evF E o (n + 1) (.fn 52) args S = evC E (evF E o n) n 52 (E.at 52 []) 0 (enumT 0 args) S (retK E (E.fn 52)) := by
  rw [evF, ho]; kernel_rfl
theorem J52_eq (call : CallA) (n : Nat) (x0 : Option Pos) (x1 : Int) (S : AS) : evC E call n 52 (E.at 52 []) 0 (enumT 0 [(.ptr x0), (.int .i64 x1)]) S (retK E (E.fn 52)) = J52 call n x0 x1 S := by
  rw [J52, a52_entry]
theorem F52 {o : Orc} (n : Nat) (x0 : Option Pos) (x1 : Int) (S : AS) (ho : ∀ args, o 52 args = none) : evF E o (n + 1) (.fn 52) [(.ptr x0), (.int .i64 x1)] S = J52 (evF E o n) n x0 x1 S := (run52 o n [(.ptr x0), (.int .i64 x1)] S (ho _)).trans (J52_eq _ _ x0 x1 S)
def b53_entry (call : CallA) (n : Nat)  (x0 : Option Pos) (S : AS) : Option (AV × AS) :=
 gO x0 fun p1 =>
 ldI .i64 S p1.1 (p1.2 + 4) fun v2 =>
 cond (decide (v2 > 0)) (
 callL call 68 [(.ptr x0), (.int .i64 3), (.int .i64 4)] S fun v4a v4l v4c S3 =>
 callL call 68 [(.ptr x0), (.int .i64 2), (.int .i64 1)] S3 fun v6a v6l v6c S5 =>
 gO x0 fun p7 =>
 S5.stn p7.1 (p7.2 + 1) [(.sl none 0 (.ex 0))] fun S8 =>
 gO x0 fun p9 =>
 S8.stn p9.1 (p9.2 + 2) [(.sl none 0 (.ex 0))] fun S10 =>
 some (.tup [(.sl v6a v6l v6c), (.sl v4a v4l v4c)], S10)) (
 callL call 68 [(.ptr x0), (.int .i64 3), (.int .i64 0)] S fun v12a v12l v12c S11 =>
 callL call 68 [(.ptr x0), (.int .i64 2), (.int .i64 1)] S11 fun v14a v14l v14c S13 =>
 gO x0 fun p15 =>
 S13.stn p15.1 (p15.2 + 1) [(.sl none 0 (.ex 0))] fun S16 =>
 gO x0 fun p17 =>
 S16.stn p17.1 (p17.2 + 2) [(.sl none 0 (.ex 0))] fun S18 =>
 some (.tup [(.sl v14a v14l v14c), (.sl v12a v12l v12c)], S18))

theorem a53_entry (call : CallA) (n : Nat) (x0 : Option Pos) (S : AS) : evC E call n 53 (E.at 53 []) 0 (enumT 0 [(.ptr x0)]) S (retK E (E.fn 53)) = b53_entry call n  x0 S := by kernel_rfl
def J53 (call : CallA) (n : Nat) (x0 : Option Pos) (S : AS) : Option (AV × AS) := b53_entry call n  x0 S
theorem run53 (o : Orc) (n : Nat) (args : List AV) (S : AS) (ho : o 53 args = none) : evF E o (n + 1) (.fn 53) args S = evC E (evF E o n) n 53 (E.at 53 []) 0 (enumT 0 args) S (retK E (E.fn 53)) := by
  rw [evF, ho]; kernel_rfl
theorem J53_eq (call : CallA) (n : Nat) (x0 : Option Pos) (S : AS) : evC E call n 53 (E.at 53 []) 0 (enumT 0 [(.ptr x0)]) S (retK E (E.fn 53)) = J53 call n x0 S := by
  rw [J53, a53_entry]
theorem F53 {o : Orc} (n : Nat) (x0 : Option Pos) (S : AS) (ho : ∀ args, o 53 args = none) : evF E o (n + 1) (.fn 53) [(.ptr x0)] S = J53 (evF E o n) n x0 S := (run53 o n [(.ptr x0)] S (ho _)).trans (J53_eq _ _ x0 S)
def b54_entry (call : CallA) (n : Nat)  (x0 : Option Pos) (S : AS) : Option (AV × AS) :=
 callL call 68 [(.ptr x0), (.int .i64 2), (.int .i64 0)] S fun v2a v2l v2c S1 =>
 callL call 68 [(.ptr x0), (.int .i64 3), (.int .i64 1)] S1 fun v4a v4l v4c S3 =>
 gO x0 fun p5 =>
 S3.stn p5.1 (p5.2 + 1) [(.sl none 0 (.ex 0))] fun S6 =>
 gO x0 fun p7 =>
 S6.stn p7.1 (p7.2 + 2) [(.sl none 0 (.ex 0))] fun S8 =>
 some (.tup [], S8)

theorem a54_entry (call : CallA) (n : Nat) (x0 : Option Pos) (S : AS) : evC E call n 54 (E.at 54 []) 0 (enumT 0 [(.ptr x0)]) S (retK E (E.fn 54)) = b54_entry call n  x0 S := by kernel_rfl
def J54 (call : CallA) (n : Nat) (x0 : Option Pos) (S : AS) : Option (AV × AS) := b54_entry call n  x0 S
theorem run54 (o : Orc) (n : Nat) (args : List AV) (S : AS) (ho : o 54 args = none) : evF E o (n + 1) (.fn 54) args S = evC E (evF E o n) n 54 (E.at 54 []) 0 (enumT 0 args) S (retK E (E.fn 54)) := by
  rw [evF, ho]; kernel_rfl
theorem J54_eq (call : CallA) (n : Nat) (x0 : Option Pos) (S : AS) : evC E call n 54 (E.at 54 []) 0 (enumT 0 [(.ptr x0)]) S (retK E (E.fn 54)) = J54 call n x0 S := by
  rw [J54, a54_entry]
theorem F54 {o : Orc} (n : Nat) (x0 : Option Pos) (S : AS) (ho : ∀ args, o 54 args = none) : evF E o (n + 1) (.fn 54) [(.ptr x0)] S = J54 (evF E o n) n x0 S := (run54 o n [(.ptr x0)] S (ho _)).trans (J54_eq _ _ x0 S)
def b55_entry (call : CallA) (n : Nat)  (x0 : Option Pos) (S : AS) : Option (AV × AS) :=
 gO x0 fun p1 =>
 ldI .i64 S p1.1 (p1.2 + 4) fun v2 =>
 cond (v2 == 0) (
 some ((.sl none 0 (.ex 0)), S)) (
 gO x0 fun p3 =>
 ldI .i64 S p3.1 (p3.2 + 4) fun v4 =>
 gO x0 fun p5 =>
 S.stn p5.1 (p5.2 + 4) [(.int .i64 (IntKind.wrap .i64 (v4 - 1)))] fun S6 =>
 gO x0 fun p7 =>
 ldI .i64 S6 p7.1 (p7.2 + 4) fun v8 =>
 cond (decide (v8 > 0)) (
 some ((.sl none 0 (.ex 0)), S6)) (
 callL call 68 [(.ptr x0), (.int .i64 4), (.int .i64 0)] S6 fun v10a v10l v10c S9 =>
 some ((.sl v10a v10l v10c), S9)))

theorem a55_entry (call : CallA) (n : Nat) (x0 : Option Pos) (S : AS) : evC E call n 55 (E.at 55 []) 0 (enumT 0 [(.ptr x0)]) S (retK E (E.fn 55)) = b55_entry call n  x0 S := by kernel_rfl
def J55 (call : CallA) (n : Nat) (x0 : Option Pos) (S : AS) : Option (AV × AS) := b55_entry call n  x0 S
theorem run55 (o : Orc) (n : Nat) (args : List AV) (S : AS) (ho : o 55 args = none) : evF E o (n + 1) (.fn 55) args S = evC E (evF E o n) n 55 (E.at 55 []) 0 (enumT 0 args) S (retK E (E.fn 55)) := by
  rw [evF, ho]; kernel_rfl
theorem J55_eq (call : CallA) (n : Nat) (x0 : Option Pos) (S : AS) : evC E call n 55 (E.at 55 []) 0 (enumT 0 [(.ptr x0)]) S (retK E (E.fn 55)) = J55 call n x0 S := by
  rw [J55, a55_entry]
theorem F55 {o : Orc} (n : Nat) (x0 : Option Pos) (S : AS) (ho : ∀ args, o 55 args = none) : evF E o (n + 1) (.fn 55) [(.ptr x0)] S = J55 (evF E o n) n x0 S := (run55 o n [(.ptr x0)] S (ho _)).trans (J55_eq _ _ x0 S)
def b57_l1_1_0_1_0 (call : CallA) (n : Nat) (j1_1_0_1_0_0_1_1 : Option Pos → Option Pos → Nat → Cap → Int → AS → Option (AV × AS)) (w0 : Option Pos) (w3a : Option Pos) (w3l : Nat) (w3c : Cap) (w4 : Int) (S : AS) : Option (AV × AS) :=
 gO w0 fun p7 =>
 ldL S p7.1 p7.2 fun v8a v8l v8c =>
 cond (decide (w4 < ((v8l : Nat) : Int))) (
 gO w0 fun p9 =>
 ldL S p9.1 p9.2 fun v10a v10l v10c =>
 ixSl 1 v10a v10l w4 fun p11 =>
 ldI .i64 S p11.1 p11.2 fun v12 =>
 cond (v12 == 1) (
 ixSl 1 w3a w3l (IntKind.wrap .i64 (Int.tdiv w4 8)) fun p13 =>
 ldI .u8 S p13.1 p13.2 fun v14 =>
 nneg (IntKind.wrap .u64 (Int.tmod w4 8)) <|
 ixSl 1 w3a w3l (IntKind.wrap .i64 (Int.tdiv w4 8)) fun p15 =>
 S.stn p15.1 p15.2 [(.int .u8 (orI .u8 v14 (shlI .u8 1 (IntKind.wrap .u64 (Int.tmod w4 8)))))] fun S16 =>
 j1_1_0_1_0_0_1_1 w0 w3a w3l w3c w4 S16) (
 gO w0 fun p17 =>
 ldL S p17.1 p17.2 fun v18a v18l v18c =>
 ixSl 1 v18a v18l w4 fun p19 =>
 ldI .i64 S p19.1 p19.2 fun v20 =>
 cond (v20 == 3) (
 ixSl 1 w3a w3l (IntKind.wrap .i64 (Int.tdiv w4 8)) fun p21 =>
 ldI .u8 S p21.1 p21.2 fun v22 =>
 nneg (IntKind.wrap .u64 (Int.tmod w4 8)) <|
 ixSl 1 w3a w3l (IntKind.wrap .i64 (Int.tdiv w4 8)) fun p23 =>
 S.stn p23.1 p23.2 [(.int .u8 (orI .u8 v22 (shlI .u8 1 (IntKind.wrap .u64 (Int.tmod w4 8)))))] fun S24 =>
 j1_1_0_1_0_0_1_1 w0 w3a w3l w3c w4 S24) (
 j1_1_0_1_0_0_1_1 w0 w3a w3l w3c w4 S))) (
 some ((.sl w3a w3l w3c), S))

def b57_j1_1_0_1_0_0_1_1 (call : CallA) (n : Nat) (l1_1_0_1_0 : Option Pos → Option Pos → Nat → Cap → Int → AS → Option (AV × AS)) (w0 : Option Pos) (w3a : Option Pos) (w3l : Nat) (w3c : Cap) (w4 : Int) (S : AS) : Option (AV × AS) :=
 l1_1_0_1_0 w0 w3a w3l w3c (IntKind.wrap .i64 (w4 + 1)) S

def b57_entry (call : CallA) (n : Nat) (l1_1_0_1_0 : Option Pos → Option Pos → Nat → Cap → Int → AS → Option (AV × AS)) (x0 : Option Pos) (S : AS) : Option (AV × AS) :=
 gO x0 fun p1 =>
 ldL S p1.1 p1.2 fun v2a v2l v2c =>
 mkSl 1 (IntKind.wrap .i64 (Int.tdiv (IntKind.wrap .i64 (((v2l : Nat) : Int) + 7)) 8)) (IntKind.wrap .i64 (Int.tdiv (IntKind.wrap .i64 (((v2l : Nat) : Int) + 7)) 8)) fun l5 c6 =>
 newA S (.cells (zeros c6 [(.int .u8 0)])) fun b3 S4 =>
 l1_1_0_1_0 x0 (some (.rw b3, 0)) l5 (.ex c6) 0 S4

def r57_l1_1_0_1_0 (call : CallA) (n : Nat)  (m : Nat) (w0 : Option Pos) (w3a : Option Pos) (w3l : Nat) (w3c : Cap) (w4 : Int) (S : AS) : Option (AV × AS) := loopN (evC E call n 57 (E.at 57 [1, 1, 0, 1, 0, 0]) 0) [0, 3, 4] m [(0, (.ptr w0)), (3, (.sl w3a w3l w3c)), (4, (.int .i64 w4))] S (kBlk 0 (kSeq E call n 57 (E.at 57 [1, 1, 1]) 0 (retK E (E.fn 57))))
def r57_j1_1_0_1_0_0_1_1 (call : CallA) (n : Nat) (m1_1_0_1_0 : Nat) (w0 : Option Pos) (w3a : Option Pos) (w3l : Nat) (w3c : Cap) (w4 : Int) (S : AS) : Option (AV × AS) := evC E call n 57 (E.at 57 [1, 1, 0, 1, 0, 0, 1, 1]) 0 [(0, (.ptr w0)), (3, (.sl w3a w3l w3c)), (4, (.int .i64 w4))] S (kLp (evC E call n 57 (E.at 57 [1, 1, 0, 1, 0, 0]) 0) [0, 3, 4] m1_1_0_1_0 (kBlk 0 (kSeq E call n 57 (E.at 57 [1, 1, 1]) 0 (retK E (E.fn 57)))))
theorem a57_l1_1_0_1_0 (call : CallA) (n : Nat)  (m : Nat) (w0 : Option Pos) (w3a : Option Pos) (w3l : Nat) (w3c : Cap) (w4 : Int) (S : AS) : r57_l1_1_0_1_0 call n  (m + 1) w0 w3a w3l w3c w4 S = b57_l1_1_0_1_0 call n (r57_j1_1_0_1_0_0_1_1 call n m) w0 w3a w3l w3c w4 S := by kernel_rfl
theorem a57_j1_1_0_1_0_0_1_1 (call : CallA) (n : Nat) (m1_1_0_1_0 : Nat) (w0 : Option Pos) (w3a : Option Pos) (w3l : Nat) (w3c : Cap) (w4 : Int) (S : AS) : r57_j1_1_0_1_0_0_1_1 call n m1_1_0_1_0 w0 w3a w3l w3c w4 S = b57_j1_1_0_1_0_0_1_1 call n (r57_l1_1_0_1_0 call n  m1_1_0_1_0) w0 w3a w3l w3c w4 S := by kernel_rfl
theorem a57_entry (call : CallA) (n : Nat) (x0 : Option Pos) (S : AS) : evC E call n 57 (E.at 57 []) 0 (enumT 0 [(.ptr x0)]) S (retK E (E.fn 57)) = b57_entry call n (r57_l1_1_0_1_0 call n  n) x0 S := by kernel_rfl
def J57_j1_1_0_1_0_0_1_1 (call : CallA) (n : Nat) (n1_1_0_1_0 : Option Pos → Option Pos → Nat → Cap → Int → AS → Option (AV × AS)) (w0 : Option Pos) (w3a : Option Pos) (w3l : Nat) (w3c : Cap) (w4 : Int) (S : AS) : Option (AV × AS) := b57_j1_1_0_1_0_0_1_1 call n n1_1_0_1_0 w0 w3a w3l w3c w4 S
theorem h57_j1_1_0_1_0_0_1_1 (call : CallA) (n : Nat) (m1_1_0_1_0 : Nat) : r57_j1_1_0_1_0_0_1_1 call n m1_1_0_1_0 = J57_j1_1_0_1_0_0_1_1 call n (r57_l1_1_0_1_0 call n  m1_1_0_1_0) := by
  funext w0 w3a w3l w3c w4 S
  rw [J57_j1_1_0_1_0_0_1_1, a57_j1_1_0_1_0_0_1_1]
def J57_l1_1_0_1_0 (call : CallA) (n : Nat)  (m : Nat) : Option Pos → Option Pos → Nat → Cap → Int → AS → Option (AV × AS) := Nat.rec (motive := fun _ => Option Pos → Option Pos → Nat → Cap → Int → AS → Option (AV × AS)) (fun _ _ _ _ _ _ => none) (fun _ ih w0 w3a w3l w3c w4 S => b57_l1_1_0_1_0 call n (J57_j1_1_0_1_0_0_1_1 call n ih) w0 w3a w3l w3c w4 S) m
theorem J57_l1_1_0_1_0_succ (call : CallA) (n : Nat)  (m : Nat) (w0 : Option Pos) (w3a : Option Pos) (w3l : Nat) (w3c : Cap) (w4 : Int) (S : AS) : J57_l1_1_0_1_0 call n  (m + 1) w0 w3a w3l w3c w4 S = b57_l1_1_0_1_0 call n (J57_j1_1_0_1_0_0_1_1 call n (J57_l1_1_0_1_0 call n  m)) w0 w3a w3l w3c w4 S := rfl
theorem h57_l1_1_0_1_0 (call : CallA) (n : Nat)  (m : Nat) : r57_l1_1_0_1_0 call n  m = J57_l1_1_0_1_0 call n  m := by
  induction m with
  | zero => rfl
  | succ m ih =>
    funext w0 w3a w3l w3c w4 S
    rw [J57_l1_1_0_1_0_succ, a57_l1_1_0_1_0, h57_j1_1_0_1_0_0_1_1 call n m, ih]
def J57 (call : CallA) (n : Nat) (x0 : Option Pos) (S : AS) : Option (AV × AS) := b57_entry call n (J57_l1_1_0_1_0 call n  n) x0 S
theorem run57 (o : Orc) (n : Nat) (args : List AV) (S : AS) (ho : o 57 args = none) : evF E o (n + 1) (.fn 57) args S = evC E (evF E o n) n 57 (E.at 57 []) 0 (enumT 0 args) S (retK E (E.fn 57)) := by
  rw [evF, ho]; kernel_rfl
theorem J57_eq (call : CallA) (n : Nat) (x0 : Option Pos) (S : AS) : evC E call n 57 (E.at 57 []) 0 (enumT 0 [(.ptr x0)]) S (retK E (E.fn 57)) = J57 call n x0 S := by
  rw [J57, a57_entry, h57_l1_1_0_1_0 call n  n]
theorem F57 {o : Orc} (n : Nat) (x0 : Option Pos) (S : AS) (ho : ∀ args, o 57 args = none) : evF E o (n + 1) (.fn 57) [(.ptr x0)] S = J57 (evF E o n) n x0 S := (run57 o n [(.ptr x0)] S (ho _)).trans (J57_eq _ _ x0 S)
def b58_l1_1_0_1_0 (call : CallA) (n : Nat) (l1_1_0_1_0 : Option Pos → Nat → Cap → Option Pos → Nat → Cap → Bool → Int → AS → Option (AV × AS)) (w0a : Option Pos) (w0l : Nat) (w0c : Cap) (w1a : Option Pos) (w1l : Nat) (w1c : Cap) (w4 : Bool) (w5 : Int) (S : AS) : Option (AV × AS) :=
 cond (decide (w5 < ((w0l : Nat) : Int))) (
 ixSl 2 w0a w0l w5 fun p1 =>
 S.ldn p1.1 p1.2 2 fun g2 =>
 ixSl 2 w1a w1l w5 fun p3 =>
 S.ldn p3.1 p3.2 2 fun g4 =>
 aggNe ty54 g2 g4 fun b5 =>
 cond b5 (
 some ((.bool false), S)) (
 l1_1_0_1_0 w0a w0l w0c w1a w1l w1c w4 (IntKind.wrap .i64 (w5 + 1)) S)) (
 some ((.bool true), S))

def b58_entry (call : CallA) (n : Nat) (l1_1_0_1_0 : Option Pos → Nat → Cap → Option Pos → Nat → Cap → Bool → Int → AS → Option (AV × AS)) (x0a : Option Pos) (x0l : Nat) (x0c : Cap) (x1a : Option Pos) (x1l : Nat) (x1c : Cap) (S : AS) : Option (AV × AS) :=
 cond (((x0l : Nat) : Int) != ((x1l : Nat) : Int)) (
 some ((.bool false), S)) (
 l1_1_0_1_0 x0a x0l x0c x1a x1l x1c false 0 S)

def r58_l1_1_0_1_0 (call : CallA) (n : Nat)  (m : Nat) (w0a : Option Pos) (w0l : Nat) (w0c : Cap) (w1a : Option Pos) (w1l : Nat) (w1c : Cap) (w4 : Bool) (w5 : Int) (S : AS) : Option (AV × AS) := loopN (evC E call n 58 (E.at 58 [1, 1, 0, 1, 0, 0]) 0) [0, 1, 4, 5] m [(0, (.sl w0a w0l w0c)), (1, (.sl w1a w1l w1c)), (4, (.bool w4)), (5, (.int .i64 w5))] S (kBlk 0 (kSeq E call n 58 (E.at 58 [1, 1, 1]) 0 (retK E (E.fn 58))))
theorem a58_l1_1_0_1_0 (call : CallA) (n : Nat)  (m : Nat) (w0a : Option Pos) (w0l : Nat) (w0c : Cap) (w1a : Option Pos) (w1l : Nat) (w1c : Cap) (w4 : Bool) (w5 : Int) (S : AS) : r58_l1_1_0_1_0 call n  (m + 1) w0a w0l w0c w1a w1l w1c w4 w5 S = b58_l1_1_0_1_0 call n (r58_l1_1_0_1_0 call n  m) w0a w0l w0c w1a w1l w1c w4 w5 S := by kernel_rfl
theorem a58_entry (call : CallA) (n : Nat) (x0a : Option Pos) (x0l : Nat) (x0c : Cap) (x1a : Option Pos) (x1l : Nat) (x1c : Cap) (S : AS) : evC E call n 58 (E.at 58 []) 0 (enumT 0 [(.sl x0a x0l x0c), (.sl x1a x1l x1c)]) S (retK E (E.fn 58)) = b58_entry call n (r58_l1_1_0_1_0 call n  n) x0a x0l x0c x1a x1l x1c S := by kernel_rfl
def J58_l1_1_0_1_0 (call : CallA) (n : Nat)  (m : Nat) : Option Pos → Nat → Cap → Option Pos → Nat → Cap → Bool → Int → AS → Option (AV × AS) := Nat.rec (motive := fun _ => Option Pos → Nat → Cap → Option Pos → Nat → Cap → Bool → Int → AS → Option (AV × AS)) (fun _ _ _ _ _ _ _ _ _ => none) (fun _ ih w0a w0l w0c w1a w1l w1c w4 w5 S => b58_l1_1_0_1_0 call n ih w0a w0l w0c w1a w1l w1c w4 w5 S) m
theorem J58_l1_1_0_1_0_succ (call : CallA) (n : Nat)  (m : Nat) (w0a : Option Pos) (w0l : Nat) (w0c : Cap) (w1a : Option Pos) (w1l : Nat) (w1c : Cap) (w4 : Bool) (w5 : Int) (S : AS) : J58_l1_1_0_1_0 call n  (m + 1) w0a w0l w0c w1a w1l w1c w4 w5 S = b58_l1_1_0_1_0 call n (J58_l1_1_0_1_0 call n  m) w0a w0l w0c w1a w1l w1c w4 w5 S := rfl
theorem h58_l1_1_0_1_0 (call : CallA) (n : Nat)  (m : Nat) : r58_l1_1_0_1_0 call n  m = J58_l1_1_0_1_0 call n  m := by
  induction m with
  | zero => rfl
  | succ m ih =>
    funext w0a w0l w0c w1a w1l w1c w4 w5 S
    rw [J58_l1_1_0_1_0_succ, a58_l1_1_0_1_0, ih]
def J58 (call : CallA) (n : Nat) (x0a : Option Pos) (x0l : Nat) (x0c : Cap) (x1a : Option Pos) (x1l : Nat) (x1c : Cap) (S : AS) : Option (AV × AS) := b58_entry call n (J58_l1_1_0_1_0 call n  n) x0a x0l x0c x1a x1l x1c S
theorem run58 (o : Orc) (n : Nat) (args : List AV) (S : AS) (ho : o 58 args = none) : evF E o (n + 1) (.fn 58) args S = evC E (evF E o n) n 58 (E.at 58 []) 0 (enumT 0 args) S (retK E (E.fn 58)) := by
  rw [evF, ho]; kernel_rfl
theorem J58_eq (call : CallA) (n : Nat) (x0a : Option Pos) (x0l : Nat) (x0c : Cap) (x1a : Option Pos) (x1l : Nat) (x1c : Cap) (S : AS) : evC E call n 58 (E.at 58 []) 0 (enumT 0 [(.sl x0a x0l x0c), (.sl x1a x1l x1c)]) S (retK E (E.fn 58)) = J58 call n x0a x0l x0c x1a x1l x1c S := by
  rw [J58, a58_entry, h58_l1_1_0_1_0 call n  n]
theorem F58 {o : Orc} (n : Nat) (x0a : Option Pos) (x0l : Nat) (x0c : Cap) (x1a : Option Pos) (x1l : Nat) (x1c : Cap) (S : AS) (ho : ∀ args, o 58 args = none) : evF E o (n + 1) (.fn 58) [(.sl x0a x0l x0c), (.sl x1a x1l x1c)] S = J58 (evF E o n) n x0a x0l x0c x1a x1l x1c S := (run58 o n [(.sl x0a x0l x0c), (.sl x1a x1l x1c)] S (ho _)).trans (J58_eq _ _ x0a x0l x0c x1a x1l x1c S)
def b59_l1_1_0_1_0 (call : CallA) (n : Nat) (l1_1_0_1_0 : Option Pos → Option Pos → Nat → Cap → Int → AS → Option (AV × AS)) (l1_1_0_1_0_0_1_0_0_1_1_0_0 : Option Pos → Option Pos → Nat → Cap → Int → Int → AS → Option (AV × AS)) (w0 : Option Pos) (w3a : Option Pos) (w3l : Nat) (w3c : Cap) (w4 : Int) (S : AS) : Option (AV × AS) :=
 gO w0 fun p1 =>
 ldL S p1.1 p1.2 fun v2a v2l v2c =>
 cond (decide (w4 < ((v2l : Nat) : Int))) (
 gO w0 fun p3 =>
 ldL S p3.1 p3.2 fun v4a v4l v4c =>
 ixSl 1 v4a v4l w4 fun p5 =>
 ldI .i64 S p5.1 p5.2 fun v6 =>
 cond (v6 != 0) (
 l1_1_0_1_0 w0 w3a w3l w3c (IntKind.wrap .i64 (w4 + 1)) S) (
 l1_1_0_1_0_0_1_0_0_1_1_0_0 w0 w3a w3l w3c w4 0 S)) (
 some ((.sl w3a w3l w3c), S))

def b59_l1_1_0_1_0_0_1_0_0_1_1_0_0 (call : CallA) (n : Nat) (l1_1_0_1_0_0_1_0_0_1_1_0_0 : Option Pos → Option Pos → Nat → Cap → Int → Int → AS → Option (AV × AS)) (l1_1_0_1_0 : Option Pos → Option Pos → Nat → Cap → Int → AS → Option (AV × AS)) (w0 : Option Pos) (w3a : Option Pos) (w3l : Nat) (w3c : Cap) (w4 : Int) (w5 : Int) (S : AS) : Option (AV × AS) :=
 gO w0 fun p7 =>
 ldL S p7.1 p7.2 fun v8a v8l v8c =>
 cond (decide ((IntKind.wrap .i64 (w4 + w5)) < ((v8l : Nat) : Int))) (
 gO w0 fun p9 =>
 ldL S p9.1 p9.2 fun v10a v10l v10c =>
 ixSl 1 v10a v10l (IntKind.wrap .i64 (w4 + w5)) fun p11 =>
 ldI .i64 S p11.1 p11.2 fun v12 =>
 cond (v12 == 0) (
 l1_1_0_1_0_0_1_0_0_1_1_0_0 w0 w3a w3l w3c w4 (IntKind.wrap .i64 (w5 + 1)) S) (
 newA S (.cells [(.int .i64 w4), (.int .i64 w5)]) fun b13 S14 =>
 appendA 2 16 S14 w3a w3l w3c 1 (firstA S14 2 1 (.sl (some (.rw b13, 0)) 1 (.ex 1))) fun v15a v15l v15c S16 =>
 l1_1_0_1_0 w0 v15a v15l v15c (IntKind.wrap .i64 ((IntKind.wrap .i64 (w4 + w5)) + 1)) S16)) (
 newA S (.cells [(.int .i64 w4), (.int .i64 w5)]) fun b17 S18 =>
 appendA 2 16 S18 w3a w3l w3c 1 (firstA S18 2 1 (.sl (some (.rw b17, 0)) 1 (.ex 1))) fun v19a v19l v19c S20 =>
 l1_1_0_1_0 w0 v19a v19l v19c (IntKind.wrap .i64 ((IntKind.wrap .i64 (w4 + w5)) + 1)) S20)

def b59_entry (call : CallA) (n : Nat) (l1_1_0_1_0 : Option Pos → Option Pos → Nat → Cap → Int → AS → Option (AV × AS)) (x0 : Option Pos) (S : AS) : Option (AV × AS) :=
 l1_1_0_1_0 x0 none 0 (.ex 0) 0 S

def r59_l1_1_0_1_0 (call : CallA) (n : Nat)  (m : Nat) (w0 : Option Pos) (w3a : Option Pos) (w3l : Nat) (w3c : Cap) (w4 : Int) (S : AS) : Option (AV × AS) := loopN (evC E call n 59 (E.at 59 [1, 1, 0, 1, 0, 0]) 0) [0, 3, 4] m [(0, (.ptr w0)), (3, (.sl w3a w3l w3c)), (4, (.int .i64 w4))] S (kBlk 0 (kSeq E call n 59 (E.at 59 [1, 1, 1]) 0 (retK E (E.fn 59))))
def r59_l1_1_0_1_0_0_1_0_0_1_1_0_0 (call : CallA) (n : Nat) (m1_1_0_1_0 : Nat) (m : Nat) (w0 : Option Pos) (w3a : Option Pos) (w3l : Nat) (w3c : Cap) (w4 : Int) (w5 : Int) (S : AS) : Option (AV × AS) := loopN (evC E call n 59 (E.at 59 [1, 1, 0, 1, 0, 0, 1, 0, 0, 1, 1, 0, 0, 0]) 2) [0, 3, 4, 5] m [(0, (.ptr w0)), (3, (.sl w3a w3l w3c)), (4, (.int .i64 w4)), (5, (.int .i64 w5))] S (kBlk 2 (kSeq E call n 59 (E.at 59 [1, 1, 0, 1, 0, 0, 1, 0, 0, 1, 1, 1]) 1 (kBlk 1 (kSeq E call n 59 (E.at 59 [1, 1, 0, 1, 0, 0, 1, 1]) 0 (kLp (evC E call n 59 (E.at 59 [1, 1, 0, 1, 0, 0]) 0) [0, 3, 4] m1_1_0_1_0 (kBlk 0 (kSeq E call n 59 (E.at 59 [1, 1, 1]) 0 (retK E (E.fn 59)))))))))
theorem a59_l1_1_0_1_0 (call : CallA) (n : Nat)  (m : Nat) (w0 : Option Pos) (w3a : Option Pos) (w3l : Nat) (w3c : Cap) (w4 : Int) (S : AS) : r59_l1_1_0_1_0 call n  (m + 1) w0 w3a w3l w3c w4 S = b59_l1_1_0_1_0 call n (r59_l1_1_0_1_0 call n  m) (r59_l1_1_0_1_0_0_1_0_0_1_1_0_0 call n m n) w0 w3a w3l w3c w4 S := by kernel_rfl
theorem a59_l1_1_0_1_0_0_1_0_0_1_1_0_0 (call : CallA) (n : Nat) (m1_1_0_1_0 : Nat) (m : Nat) (w0 : Option Pos) (w3a : Option Pos) (w3l : Nat) (w3c : Cap) (w4 : Int) (w5 : Int) (S : AS) : r59_l1_1_0_1_0_0_1_0_0_1_1_0_0 call n m1_1_0_1_0 (m + 1) w0 w3a w3l w3c w4 w5 S = b59_l1_1_0_1_0_0_1_0_0_1_1_0_0 call n (r59_l1_1_0_1_0_0_1_0_0_1_1_0_0 call n m1_1_0_1_0 m) (r59_l1_1_0_1_0 call n  m1_1_0_1_0) w0 w3a w3l w3c w4 w5 S := by kernel_rfl
theorem a59_entry (call : CallA) (n : Nat) (x0 : Option Pos) (S : AS) : evC E call n 59 (E.at 59 []) 0 (enumT 0 [(.ptr x0)]) S (retK E (E.fn 59)) = b59_entry call n (r59_l1_1_0_1_0 call n  n) x0 S := by kernel_rfl
def J59_l1_1_0_1_0_0_1_0_0_1_1_0_0 (call : CallA) (n : Nat) (n1_1_0_1_0 : Option Pos → Option Pos → Nat → Cap → Int → AS → Option (AV × AS)) (m : Nat) : Option Pos → Option Pos → Nat → Cap → Int → Int → AS → Option (AV × AS) := Nat.rec (motive := fun _ => Option Pos → Option Pos → Nat → Cap → Int → Int → AS → Option (AV × AS)) (fun _ _ _ _ _ _ _ => none) (fun _ ih w0 w3a w3l w3c w4 w5 S => b59_l1_1_0_1_0_0_1_0_0_1_1_0_0 call n ih n1_1_0_1_0 w0 w3a w3l w3c w4 w5 S) m
theorem J59_l1_1_0_1_0_0_1_0_0_1_1_0_0_succ (call : CallA) (n : Nat) (n1_1_0_1_0 : Option Pos → Option Pos → Nat → Cap → Int → AS → Option (AV × AS)) (m : Nat) (w0 : Option Pos) (w3a : Option Pos) (w3l : Nat) (w3c : Cap) (w4 : Int) (w5 : Int) (S : AS) : J59_l1_1_0_1_0_0_1_0_0_1_1_0_0 call n n1_1_0_1_0 (m + 1) w0 w3a w3l w3c w4 w5 S = b59_l1_1_0_1_0_0_1_0_0_1_1_0_0 call n (J59_l1_1_0_1_0_0_1_0_0_1_1_0_0 call n n1_1_0_1_0 m) n1_1_0_1_0 w0 w3a w3l w3c w4 w5 S := rfl
theorem h59_l1_1_0_1_0_0_1_0_0_1_1_0_0 (call : CallA) (n : Nat) (m1_1_0_1_0 : Nat) (m : Nat) : r59_l1_1_0_1_0_0_1_0_0_1_1_0_0 call n m1_1_0_1_0 m = J59_l1_1_0_1_0_0_1_0_0_1_1_0_0 call n (r59_l1_1_0_1_0 call n  m1_1_0_1_0) m := by
  induction m with
  | zero => rfl
  | succ m ih =>
    funext w0 w3a w3l w3c w4 w5 S
    rw [J59_l1_1_0_1_0_0_1_0_0_1_1_0_0_succ, a59_l1_1_0_1_0_0_1_0_0_1_1_0_0, ih]
def J59_l1_1_0_1_0 (call : CallA) (n : Nat)  (m : Nat) : Option Pos → Option Pos → Nat → Cap → Int → AS → Option (AV × AS) := Nat.rec (motive := fun _ => Option Pos → Option Pos → Nat → Cap → Int → AS → Option (AV × AS)) (fun _ _ _ _ _ _ => none) (fun _ ih w0 w3a w3l w3c w4 S => b59_l1_1_0_1_0 call n ih (J59_l1_1_0_1_0_0_1_0_0_1_1_0_0 call n ih n) w0 w3a w3l w3c w4 S) m
theorem J59_l1_1_0_1_0_succ (call : CallA) (n : Nat)  (m : Nat) (w0 : Option Pos) (w3a : Option Pos) (w3l : Nat) (w3c : Cap) (w4 : Int) (S : AS) : J59_l1_1_0_1_0 call n  (m + 1) w0 w3a w3l w3c w4 S = b59_l1_1_0_1_0 call n (J59_l1_1_0_1_0 call n  m) (J59_l1_1_0_1_0_0_1_0_0_1_1_0_0 call n (J59_l1_1_0_1_0 call n  m) n) w0 w3a w3l w3c w4 S := rfl
theorem h59_l1_1_0_1_0 (call : CallA) (n : Nat)  (m : Nat) : r59_l1_1_0_1_0 call n  m = J59_l1_1_0_1_0 call n  m := by
  induction m with
  | zero => rfl
  | succ m ih =>
    funext w0 w3a w3l w3c w4 S
    rw [J59_l1_1_0_1_0_succ, a59_l1_1_0_1_0, h59_l1_1_0_1_0_0_1_0_0_1_1_0_0 call n m n, ih]
def J59 (call : CallA) (n : Nat) (x0 : Option Pos) (S : AS) : Option (AV × AS) := b59_entry call n (J59_l1_1_0_1_0 call n  n) x0 S
theorem run59 (o : Orc) (n : Nat) (args : List AV) (S : AS) (ho : o 59 args = none) : evF E o (n + 1) (.fn 59) args S = evC E (evF E o n) n 59 (E.at 59 []) 0 (enumT 0 args) S (retK E (E.fn 59)) := by
  rw [evF, ho]; kernel_rfl
theorem J59_eq (call : CallA) (n : Nat) (x0 : Option Pos) (S : AS) : evC E call n 59 (E.at 59 []) 0 (enumT 0 [(.ptr x0)]) S (retK E (E.fn 59)) = J59 call n x0 S := by
  rw [J59, a59_entry, h59_l1_1_0_1_0 call n  n]
theorem F59 {o : Orc} (n : Nat) (x0 : Option Pos) (S : AS) (ho : ∀ args, o 59 args = none) : evF E o (n + 1) (.fn 59) [(.ptr x0)] S = J59 (evF E o n) n x0 S := (run59 o n [(.ptr x0)] S (ho _)).trans (J59_eq _ _ x0 S)
def b60_entry (call : CallA) (n : Nat)  (x0 : Option Pos) (x1 : Int) (S : AS) : Option (AV × AS) :=
 callB call 65 [(.ptr x0), (.int .i64 x1)] S fun v2 S1 =>
 cond (!v2) (
 some ((.int .i64 (-1)), S1)) (
 gO x0 fun p3 =>
 ldL S1 p3.1 p3.2 fun v4a v4l v4c =>
 ixSl 1 v4a v4l x1 fun p5 =>
 ldI .i64 S1 p5.1 p5.2 fun v6 =>
 some ((.int .i64 v6), S1))

theorem a60_entry (call : CallA) (n : Nat) (x0 : Option Pos) (x1 : Int) (S : AS) : evC E call n 60 (E.at 60 []) 0 (enumT 0 [(.ptr x0), (.int .i64 x1)]) S (retK E (E.fn 60)) = b60_entry call n  x0 x1 S := by kernel_rfl
def J60 (call : CallA) (n : Nat) (x0 : Option Pos) (x1 : Int) (S : AS) : Option (AV × AS) := b60_entry call n  x0 x1 S
theorem run60 (o : Orc) (n : Nat) (args : List AV) (S : AS) (ho : o 60 args = none) : evF E o (n + 1) (.fn 60) args S = evC E (evF E o n) n 60 (E.at 60 []) 0 (enumT 0 args) S (retK E (E.fn 60)) := by
  rw [evF, ho]; kernel_rfl
theorem J60_eq (call : CallA) (n : Nat) (x0 : Option Pos) (x1 : Int) (S : AS) : evC E call n 60 (E.at 60 []) 0 (enumT 0 [(.ptr x0), (.int .i64 x1)]) S (retK E (E.fn 60)) = J60 call n x0 x1 S := by
  rw [J60, a60_entry]
theorem F60 {o : Orc} (n : Nat) (x0 : Option Pos) (x1 : Int) (S : AS) (ho : ∀ args, o 60 args = none) : evF E o (n + 1) (.fn 60) [(.ptr x0), (.int .i64 x1)] S = J60 (evF E o n) n x0 x1 S := (run60 o n [(.ptr x0), (.int .i64 x1)] S (ho _)).trans (J60_eq _ _ x0 x1 S)
def b61_entry (call : CallA) (n : Nat)  (x0a : Option Pos) (x0l : Nat) (x0c : Cap) (S : AS) : Option (AV × AS) :=
 cond x0a.isNone (
 some ((.sl none 0 (.ex 0)), S)) (
 newA S (.cells []) fun b1 S2 =>
 appendA 1 1 S2 (some (.rw b1, 0)) 0 (.ex 0) x0l (firstA S2 1 x0l (.sl x0a x0l x0c)) fun v3a v3l v3c S4 =>
 some ((.sl v3a v3l v3c), S4))

theorem a61_entry (call : CallA) (n : Nat) (x0a : Option Pos) (x0l : Nat) (x0c : Cap) (S : AS) : evC E call n 61 (E.at 61 []) 0 (enumT 0 [(.sl x0a x0l x0c)]) S (retK E (E.fn 61)) = b61_entry call n  x0a x0l x0c S := by kernel_rfl
def J61 (call : CallA) (n : Nat) (x0a : Option Pos) (x0l : Nat) (x0c : Cap) (S : AS) : Option (AV × AS) := b61_entry call n  x0a x0l x0c S
theorem run61 (o : Orc) (n : Nat) (args : List AV) (S : AS) (ho : o 61 args = none) : evF E o (n + 1) (.fn 61) args S = evC E (evF E o n) n 61 (E.at 61 []) 0 (enumT 0 args) S (retK E (E.fn 61)) := by
  rw [evF, ho]; kernel_rfl
theorem J61_eq (call : CallA) (n : Nat) (x0a : Option Pos) (x0l : Nat) (x0c : Cap) (S : AS) : evC E call n 61 (E.at 61 []) 0 (enumT 0 [(.sl x0a x0l x0c)]) S (retK E (E.fn 61)) = J61 call n x0a x0l x0c S := by
  rw [J61, a61_entry]
theorem F61 {o : Orc} (n : Nat) (x0a : Option Pos) (x0l : Nat) (x0c : Cap) (S : AS) (ho : ∀ args, o 61 args = none) : evF E o (n + 1) (.fn 61) [(.sl x0a x0l x0c)] S = J61 (evF E o n) n x0a x0l x0c S := (run61 o n [(.sl x0a x0l x0c)] S (ho _)).trans (J61_eq _ _ x0a x0l x0c S)
def b62_l1_0_1_0 (call : CallA) (n : Nat) (l1_0_1_0 : Option Pos → Nat → Cap → Int → Int → Int → Int → AS → Option (AV × AS)) (w0a : Option Pos) (w0l : Nat) (w0c : Cap) (w1 : Int) (w4 : Int) (w7 : Int) (w8 : Int) (S : AS) : Option (AV × AS) :=
 cond (decide (w8 < w7)) (
 ixSl 1 w0a w0l w8 fun p1 =>
 ldI .u8 S p1.1 p1.2 fun v2 =>
 cond (w1 == v2) (
 some ((.int .i64 w8), S)) (
 l1_0_1_0 w0a w0l w0c w1 w4 w7 (IntKind.wrap .i64 (w8 + 1)) S)) (
 some ((.int .i64 (-1)), S))

def b62_entry (call : CallA) (n : Nat) (l1_0_1_0 : Option Pos → Nat → Cap → Int → Int → Int → Int → AS → Option (AV × AS)) (x0a : Option Pos) (x0l : Nat) (x0c : Cap) (x1 : Int) (S : AS) : Option (AV × AS) :=
 l1_0_1_0 x0a x0l x0c x1 0 ((x0l : Nat) : Int) 0 S

def r62_l1_0_1_0 (call : CallA) (n : Nat)  (m : Nat) (w0a : Option Pos) (w0l : Nat) (w0c : Cap) (w1 : Int) (w4 : Int) (w7 : Int) (w8 : Int) (S : AS) : Option (AV × AS) := loopN (evC E call n 62 (E.at 62 [1, 0, 1, 0, 0]) 0) [0, 1, 4, 7, 8] m [(0, (.sl w0a w0l w0c)), (1, (.int .u8 w1)), (4, (.int .i64 w4)), (7, (.int .i64 w7)), (8, (.int .i64 w8))] S (kBlk 0 (kSeq E call n 62 (E.at 62 [1, 1]) 0 (retK E (E.fn 62))))
theorem a62_l1_0_1_0 (call : CallA) (n : Nat)  (m : Nat) (w0a : Option Pos) (w0l : Nat) (w0c : Cap) (w1 : Int) (w4 : Int) (w7 : Int) (w8 : Int) (S : AS) : r62_l1_0_1_0 call n  (m + 1) w0a w0l w0c w1 w4 w7 w8 S = b62_l1_0_1_0 call n (r62_l1_0_1_0 call n  m) w0a w0l w0c w1 w4 w7 w8 S := by kernel_rfl
theorem a62_entry (call : CallA) (n : Nat) (x0a : Option Pos) (x0l : Nat) (x0c : Cap) (x1 : Int) (S : AS) : evC E call n 62 (E.at 62 []) 0 (enumT 0 [(.sl x0a x0l x0c), (.int .u8 x1)]) S (retK E (E.fn 62)) = b62_entry call n (r62_l1_0_1_0 call n  n) x0a x0l x0c x1 S := by kernel_rfl
def J62_l1_0_1_0 (call : CallA) (n : Nat)  (m : Nat) : Option Pos → Nat → Cap → Int → Int → Int → Int → AS → Option (AV × AS) := Nat.rec (motive := fun _ => Option Pos → Nat → Cap → Int → Int → Int → Int → AS → Option (AV × AS)) (fun _ _ _ _ _ _ _ _ => none) (fun _ ih w0a w0l w0c w1 w4 w7 w8 S => b62_l1_0_1_0 call n ih w0a w0l w0c w1 w4 w7 w8 S) m
theorem J62_l1_0_1_0_succ (call : CallA) (n : Nat)  (m : Nat) (w0a : Option Pos) (w0l : Nat) (w0c : Cap) (w1 : Int) (w4 : Int) (w7 : Int) (w8 : Int) (S : AS) : J62_l1_0_1_0 call n  (m + 1) w0a w0l w0c w1 w4 w7 w8 S = b62_l1_0_1_0 call n (J62_l1_0_1_0 call n  m) w0a w0l w0c w1 w4 w7 w8 S := rfl
theorem h62_l1_0_1_0 (call : CallA) (n : Nat)  (m : Nat) : r62_l1_0_1_0 call n  m = J62_l1_0_1_0 call n  m := by
  induction m with
  | zero => rfl
  | succ m ih =>
    funext w0a w0l w0c w1 w4 w7 w8 S
    rw [J62_l1_0_1_0_succ, a62_l1_0_1_0, ih]
def J62 (call : CallA) (n : Nat) (x0a : Option Pos) (x0l : Nat) (x0c : Cap) (x1 : Int) (S : AS) : Option (AV × AS) := b62_entry call n (J62_l1_0_1_0 call n  n) x0a x0l x0c x1 S
theorem run62 (o : Orc) (n : Nat) (args : List AV) (S : AS) (ho : o 62 args = none) : evF E o (n + 1) (.fn 62) args S = evC E (evF E o n) n 62 (E.at 62 []) 0 (enumT 0 args) S (retK E (E.fn 62)) := by
  rw [evF, ho]; kernel_rfl
theorem J62_eq (call : CallA) (n : Nat) (x0a : Option Pos) (x0l : Nat) (x0c : Cap) (x1 : Int) (S : AS) : evC E call n 62 (E.at 62 []) 0 (enumT 0 [(.sl x0a x0l x0c), (.int .u8 x1)]) S (retK E (E.fn 62)) = J62 call n x0a x0l x0c x1 S := by
  rw [J62, a62_entry, h62_l1_0_1_0 call n  n]
theorem F62 {o : Orc} (n : Nat) (x0a : Option Pos) (x0l : Nat) (x0c : Cap) (x1 : Int) (S : AS) (ho : ∀ args, o 62 args = none) : evF E o (n + 1) (.fn 62) [(.sl x0a x0l x0c), (.int .u8 x1)] S = J62 (evF E o n) n x0a x0l x0c x1 S := (run62 o n [(.sl x0a x0l x0c), (.int .u8 x1)] S (ho _)).trans (J62_eq _ _ x0a x0l x0c x1 S)
def b64_entry (call : CallA) (n : Nat)  (x0 : Int) (S : AS) : Option (AV × AS) :=
 callI .i64 call 79 [(.int .u64 x0)] S fun v2 S1 =>
 some ((.int .i64 v2), S1)

theorem a64_entry (call : CallA) (n : Nat) (x0 : Int) (S : AS) : evC E call n 64 (E.at 64 []) 0 (enumT 0 [(.int .u64 x0)]) S (retK E (E.fn 64)) = b64_entry call n  x0 S := by kernel_rfl
def J64 (call : CallA) (n : Nat) (x0 : Int) (S : AS) : Option (AV × AS) := b64_entry call n  x0 S
theorem run64 (o : Orc) (n : Nat) (args : List AV) (S : AS) (ho : o 64 args = none) : evF E o (n + 1) (.fn 64) args S = evC E (evF E o n) n 64 (E.at 64 []) 0 (enumT 0 args) S (retK E (E.fn 64)) := by
  rw [evF, ho]; kernel_rfl
theorem J64_eq (call : CallA) (n : Nat) (x0 : Int) (S : AS) : evC E call n 64 (E.at 64 []) 0 (enumT 0 [(.int .u64 x0)]) S (retK E (E.fn 64)) = J64 call n x0 S := by
  rw [J64, a64_entry]
theorem F64 {o : Orc} (n : Nat) (x0 : Int) (S : AS) (ho : ∀ args, o 64 args = none) : evF E o (n + 1) (.fn 64) [(.int .u64 x0)] S = J64 (evF E o n) n x0 S := (run64 o n [(.int .u64 x0)] S (ho _)).trans (J64_eq _ _ x0 S)
def b65_entry (call : CallA) (n : Nat)  (x0 : Option Pos) (x1 : Int) (S : AS) : Option (AV × AS) :=
 cond (decide (x1 ≥ 0)) (
 gO x0 fun p1 =>
 ldL S p1.1 p1.2 fun v2a v2l v2c =>
 some ((.bool (decide (x1 < ((v2l : Nat) : Int)))), S)) (
 some ((.bool false), S))

theorem a65_entry (call : CallA) (n : Nat) (x0 : Option Pos) (x1 : Int) (S : AS) : evC E call n 65 (E.at 65 []) 0 (enumT 0 [(.ptr x0), (.int .i64 x1)]) S (retK E (E.fn 65)) = b65_entry call n  x0 x1 S := by kernel_rfl
def J65 (call : CallA) (n : Nat) (x0 : Option Pos) (x1 : Int) (S : AS) : Option (AV × AS) := b65_entry call n  x0 x1 S
theorem run65 (o : Orc) (n : Nat) (args : List AV) (S : AS) (ho : o 65 args = none) : evF E o (n + 1) (.fn 65) args S = evC E (evF E o n) n 65 (E.at 65 []) 0 (enumT 0 args) S (retK E (E.fn 65)) := by
  rw [evF, ho]; kernel_rfl
theorem J65_eq (call : CallA) (n : Nat) (x0 : Option Pos) (x1 : Int) (S : AS) : evC E call n 65 (E.at 65 []) 0 (enumT 0 [(.ptr x0), (.int .i64 x1)]) S (retK E (E.fn 65)) = J65 call n x0 x1 S := by
  rw [J65, a65_entry]
theorem F65 {o : Orc} (n : Nat) (x0 : Option Pos) (x1 : Int) (S : AS) (ho : ∀ args, o 65 args = none) : evF E o (n + 1) (.fn 65) [(.ptr x0), (.int .i64 x1)] S = J65 (evF E o n) n x0 x1 S := (run65 o n [(.ptr x0), (.int .i64 x1)] S (ho _)).trans (J65_eq _ _ x0 x1 S)
end
end Go.Al
