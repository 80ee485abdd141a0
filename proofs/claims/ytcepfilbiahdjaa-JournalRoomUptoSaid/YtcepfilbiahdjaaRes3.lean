/- Plain readings of the functions, and that they are what the evaluator does: by program. -/
import Derived.Test.YtcepfilbiahdjaaGrRes
import Derived.Test.YtcepfilbiahdjaaENV
import Derived.KernelRfl
set_option maxRecDepth 100000
set_option linter.unusedVariables false
namespace Go.Jn
open Go.Gr
noncomputable section
def b47_l1_1_0_1_0 (call : CallA) (n : Nat)  (l1_1_0_1_0 : Option Pos → Option Pos → Bool → Int → AS → Option (AV × AS)) (j1_1_1 : Option Pos → Option Pos → AS → Option (AV × AS)) (w0 : Option Pos) (w1 : Option Pos) (w4 : Bool) (w5 : Int) (S : AS) : Option (AV × AS) :=
 gO w0 fun p9 =>
 ldL S p9.1 p9.2 fun v10a v10l v10c =>
 cond (decide (w5 < ((v10l : Nat) : Int))) (
 gO w0 fun p11 =>
 ldL S p11.1 p11.2 fun v12a v12l v12c =>
 ixSl 1 v12a v12l w5 fun p13 =>
 ldS S p13.1 p13.2 fun v14 =>
 gO w1 fun p15 =>
 ldL S p15.1 p15.2 fun v16a v16l v16c =>
 ixSl 1 v16a v16l w5 fun p17 =>
 ldS S p17.1 p17.2 fun v18 =>
 cond (!(v14 == v18)) (
 some ((.bool false), S)) (
 l1_1_0_1_0 w0 w1 w4 (IntKind.wrap .i64 (w5 + 1)) S)) (
 j1_1_1 w0 w1 S)

def b47_j1_1_1 (call : CallA) (n : Nat)  (l1_1_1_0_1_0 : Option Pos → Option Pos → AV → Int → AS → Option (AV × AS)) (w0 : Option Pos) (w1 : Option Pos) (S : AS) : Option (AV × AS) :=
 l1_1_1_0_1_0 w0 w1 .undef 0 S

def b47_l1_1_1_0_1_0 (call : CallA) (n : Nat)  (l1_1_1_0_1_0 : Option Pos → Option Pos → AV → Int → AS → Option (AV × AS)) (w0 : Option Pos) (w1 : Option Pos) (w4 : AV) (w6 : Int) (S : AS) : Option (AV × AS) :=
 gO w0 fun p19 =>
 ldL S p19.1 (p19.2 + 1) fun v20a v20l v20c =>
 cond (decide (w6 < ((v20l : Nat) : Int))) (
 gO w0 fun p21 =>
 ldL S p21.1 (p21.2 + 1) fun v22a v22l v22c =>
 ixSl 2 v22a v22l w6 fun p23 =>
 S.ldn p23.1 p23.2 2 fun g24 =>
 gO w1 fun p25 =>
 ldL S p25.1 (p25.2 + 1) fun v26a v26l v26c =>
 ixSl 2 v26a v26l w6 fun p27 =>
 S.ldn p27.1 p27.2 2 fun g28 =>
 aggNe ty107 g24 g28 fun b29 =>
 cond b29 (
 some ((.bool false), S)) (
 l1_1_1_0_1_0 w0 w1 w4 (IntKind.wrap .i64 (w6 + 1)) S)) (
 some ((.bool true), S))

def b47_entry (call : CallA) (n : Nat)  (l1_1_0_1_0 : Option Pos → Option Pos → Bool → Int → AS → Option (AV × AS)) (x0 : Option Pos) (x1 : Option Pos) (S : AS) : Option (AV × AS) :=
 gO x0 fun p1 =>
 ldL S p1.1 p1.2 fun v2a v2l v2c =>
 gO x1 fun p3 =>
 ldL S p3.1 p3.2 fun v4a v4l v4c =>
 cond (((v2l : Nat) : Int) != ((v4l : Nat) : Int)) (
 some ((.bool false), S)) (
 gO x0 fun p5 =>
 ldL S p5.1 (p5.2 + 1) fun v6a v6l v6c =>
 gO x1 fun p7 =>
 ldL S p7.1 (p7.2 + 1) fun v8a v8l v8c =>
 cond (((v6l : Nat) : Int) != ((v8l : Nat) : Int)) (
 some ((.bool false), S)) (
 l1_1_0_1_0 x0 x1 false 0 S))

def r47_l1_1_0_1_0 (call : CallA) (n : Nat)  (m : Nat) (w0 : Option Pos) (w1 : Option Pos) (w4 : Bool) (w5 : Int) (S : AS) : Option (AV × AS) := loopN (evC E call n 47 (E.at 47 [1, 1, 0, 1, 0, 0]) 0) [0, 1, 4, 5] m [(0, (.ptr w0)), (1, (.ptr w1)), (4, (.bool w4)), (5, (.int .i64 w5))] S (kBlk 0 (kSeq E call n 47 (E.at 47 [1, 1, 1]) 0 (retK E (E.fn 47))))
def r47_j1_1_1 (call : CallA) (n : Nat)  (w0 : Option Pos) (w1 : Option Pos) (S : AS) : Option (AV × AS) := evC E call n 47 (E.at 47 [1, 1, 1]) 0 [(0, (.ptr w0)), (1, (.ptr w1))] S (retK E (E.fn 47))
def r47_l1_1_1_0_1_0 (call : CallA) (n : Nat)  (m : Nat) (w0 : Option Pos) (w1 : Option Pos) (w4 : AV) (w6 : Int) (S : AS) : Option (AV × AS) := loopN (evC E call n 47 (E.at 47 [1, 1, 1, 0, 1, 0, 0]) 2) [0, 1, 4, 6] m [(0, (.ptr w0)), (1, (.ptr w1)), (4, w4), (6, (.int .i64 w6))] S (kBlk 2 (kSeq E call n 47 (E.at 47 [1, 1, 1, 1]) 0 (retK E (E.fn 47))))
theorem a47_l1_1_0_1_0 (call : CallA) (n : Nat)  (m : Nat) (w0 : Option Pos) (w1 : Option Pos) (w4 : Bool) (w5 : Int) (S : AS) : r47_l1_1_0_1_0 call n  (m + 1) w0 w1 w4 w5 S = b47_l1_1_0_1_0 call n (r47_l1_1_0_1_0 call n  m) (r47_j1_1_1 call n ) w0 w1 w4 w5 S := by kernel_rfl
theorem a47_j1_1_1 (call : CallA) (n : Nat)  (w0 : Option Pos) (w1 : Option Pos) (S : AS) : r47_j1_1_1 call n  w0 w1 S = b47_j1_1_1 call n (r47_l1_1_1_0_1_0 call n  n) w0 w1 S := by kernel_rfl
theorem a47_l1_1_1_0_1_0 (call : CallA) (n : Nat)  (m : Nat) (w0 : Option Pos) (w1 : Option Pos) (w4 : AV) (w6 : Int) (S : AS) : r47_l1_1_1_0_1_0 call n  (m + 1) w0 w1 w4 w6 S = b47_l1_1_1_0_1_0 call n (r47_l1_1_1_0_1_0 call n  m) w0 w1 w4 w6 S := by kernel_rfl
theorem a47_entry (call : CallA) (n : Nat) (x0 : Option Pos) (x1 : Option Pos) (S : AS) : evC E call n 47 (E.at 47 []) 0 (enumT 0 [(.ptr x0), (.ptr x1)]) S (retK E (E.fn 47)) = b47_entry call n (r47_l1_1_0_1_0 call n  n) x0 x1 S := by kernel_rfl
def J47_l1_1_1_0_1_0 (call : CallA) (n : Nat)  (m : Nat) : Option Pos → Option Pos → AV → Int → AS → Option (AV × AS) := Nat.rec (motive := fun _ => Option Pos → Option Pos → AV → Int → AS → Option (AV × AS)) (fun _ _ _ _ _ => none) (fun mK ih w0 w1 w4 w6 S => b47_l1_1_1_0_1_0 call n ih w0 w1 w4 w6 S) m
theorem J47_l1_1_1_0_1_0_succ (call : CallA) (n : Nat)  (m : Nat) (w0 : Option Pos) (w1 : Option Pos) (w4 : AV) (w6 : Int) (S : AS) : J47_l1_1_1_0_1_0 call n  (m + 1) w0 w1 w4 w6 S = b47_l1_1_1_0_1_0 call n (J47_l1_1_1_0_1_0 call n  m) w0 w1 w4 w6 S := rfl
theorem h47_l1_1_1_0_1_0 (call : CallA) (n : Nat)  (m : Nat) : r47_l1_1_1_0_1_0 call n  m = J47_l1_1_1_0_1_0 call n  m := by
  induction m with
  | zero => rfl
  | succ m ih =>
    funext w0 w1 w4 w6 S
    rw [J47_l1_1_1_0_1_0_succ, a47_l1_1_1_0_1_0, ih]
def J47_j1_1_1 (call : CallA) (n : Nat)  (w0 : Option Pos) (w1 : Option Pos) (S : AS) : Option (AV × AS) := b47_j1_1_1 call n (J47_l1_1_1_0_1_0 call n  n) w0 w1 S
theorem h47_j1_1_1 (call : CallA) (n : Nat)  : r47_j1_1_1 call n  = J47_j1_1_1 call n  := by
  funext w0 w1 S
  rw [J47_j1_1_1, a47_j1_1_1, h47_l1_1_1_0_1_0 call n  n]
def J47_l1_1_0_1_0 (call : CallA) (n : Nat)  (m : Nat) : Option Pos → Option Pos → Bool → Int → AS → Option (AV × AS) := Nat.rec (motive := fun _ => Option Pos → Option Pos → Bool → Int → AS → Option (AV × AS)) (fun _ _ _ _ _ => none) (fun mK ih w0 w1 w4 w5 S => b47_l1_1_0_1_0 call n ih (J47_j1_1_1 call n ) w0 w1 w4 w5 S) m
theorem J47_l1_1_0_1_0_succ (call : CallA) (n : Nat)  (m : Nat) (w0 : Option Pos) (w1 : Option Pos) (w4 : Bool) (w5 : Int) (S : AS) : J47_l1_1_0_1_0 call n  (m + 1) w0 w1 w4 w5 S = b47_l1_1_0_1_0 call n (J47_l1_1_0_1_0 call n  m) (J47_j1_1_1 call n ) w0 w1 w4 w5 S := rfl
theorem h47_l1_1_0_1_0 (call : CallA) (n : Nat)  (m : Nat) : r47_l1_1_0_1_0 call n  m = J47_l1_1_0_1_0 call n  m := by
  induction m with
  | zero => rfl
  | succ m ih =>
    funext w0 w1 w4 w5 S
    rw [J47_l1_1_0_1_0_succ, a47_l1_1_0_1_0, h47_j1_1_1 call n , ih]
def J47 (call : CallA) (n : Nat) (x0 : Option Pos) (x1 : Option Pos) (S : AS) : Option (AV × AS) := b47_entry call n (J47_l1_1_0_1_0 call n  n) x0 x1 S
theorem run47 (o : Orc) (n : Nat) (args : List AV) (S : AS) (ho : o 47 args = none) : evF E o (n + 1) (.fn 47) args S = evC E (evF E o n) n 47 (E.at 47 []) 0 (enumT 0 args) S (retK E (E.fn 47)) := by
  rw [evF, ho]; kernel_rfl
theorem J47_eq (call : CallA) (n : Nat) (x0 : Option Pos) (x1 : Option Pos) (S : AS) : evC E call n 47 (E.at 47 []) 0 (enumT 0 [(.ptr x0), (.ptr x1)]) S (retK E (E.fn 47)) = J47 call n x0 x1 S := by
  rw [J47, a47_entry, h47_l1_1_0_1_0 call n  n]
theorem F47 {o : Orc} (n : Nat) (x0 : Option Pos) (x1 : Option Pos) (S : AS) (ho : ∀ args, o 47 args = none) : evF E o (n + 1) (.fn 47) [(.ptr x0), (.ptr x1)] S = J47 (evF E o n) n x0 x1 S := (run47 o n [(.ptr x0), (.ptr x1)] S (ho _)).trans (J47_eq _ _ x0 x1 S)
def b48_entry (call : CallA) (n : Nat)   (x0 : Option Pos) (S : AS) : Option (AV × AS) :=
 gO x0 fun p1 =>
 ldI .u64 S p1.1 (p1.2 + 7) fun v2 =>
 gO x0 fun p3 =>
 ldL S p3.1 (p3.2 + 8) fun v4a v4l v4c =>
 some ((.int .u64 (IntKind.wrap .u64 (v2 + (IntKind.wrap .u64 ((v4l : Nat) : Int))))), S)

theorem a48_entry (call : CallA) (n : Nat) (x0 : Option Pos) (S : AS) : evC E call n 48 (E.at 48 []) 0 (enumT 0 [(.ptr x0)]) S (retK E (E.fn 48)) = b48_entry call n  x0 S := by kernel_rfl
def J48 (call : CallA) (n : Nat) (x0 : Option Pos) (S : AS) : Option (AV × AS) := b48_entry call n  x0 S
theorem run48 (o : Orc) (n : Nat) (args : List AV) (S : AS) (ho : o 48 args = none) : evF E o (n + 1) (.fn 48) args S = evC E (evF E o n) n 48 (E.at 48 []) 0 (enumT 0 args) S (retK E (E.fn 48)) := by
  rw [evF, ho]; kernel_rfl
theorem J48_eq (call : CallA) (n : Nat) (x0 : Option Pos) (S : AS) : evC E call n 48 (E.at 48 []) 0 (enumT 0 [(.ptr x0)]) S (retK E (E.fn 48)) = J48 call n x0 S := by
  rw [J48, a48_entry]
theorem F48 {o : Orc} (n : Nat) (x0 : Option Pos) (S : AS) (ho : ∀ args, o 48 args = none) : evF E o (n + 1) (.fn 48) [(.ptr x0)] S = J48 (evF E o n) n x0 S := (run48 o n [(.ptr x0)] S (ho _)).trans (J48_eq _ _ x0 S)
def b49_entry (call : CallA) (n : Nat)   (x0 : Option Pos) (S : AS) : Option (AV × AS) :=
 gO x0 fun p1 =>
 ldI .i64 S p1.1 (p1.2 + 2) fun v2 =>
 callI .i64 call 63 [(.ptr x0)] S fun v4 S3 =>
 ldI .i64 S3 p1.1 (p1.2 + 2) fun v5 =>
 cond (AV.beq (.int .i64 v5) (.int .i64 v2)) (
 some ((.int .i64 (IntKind.wrap .i64 ((IntKind.wrap .i64 (v2 - 2)) - v4))), S3)) none

theorem a49_entry (call : CallA) (n : Nat) (x0 : Option Pos) (S : AS) : evC E call n 49 (E.at 49 []) 0 (enumT 0 [(.ptr x0)]) S (retK E (E.fn 49)) = b49_entry call n  x0 S := by kernel_rfl
def J49 (call : CallA) (n : Nat) (x0 : Option Pos) (S : AS) : Option (AV × AS) := b49_entry call n  x0 S
theorem run49 (o : Orc) (n : Nat) (args : List AV) (S : AS) (ho : o 49 args = none) : evF E o (n + 1) (.fn 49) args S = evC E (evF E o n) n 49 (E.at 49 []) 0 (enumT 0 args) S (retK E (E.fn 49)) := by
  rw [evF, ho]; kernel_rfl
theorem J49_eq (call : CallA) (n : Nat) (x0 : Option Pos) (S : AS) : evC E call n 49 (E.at 49 []) 0 (enumT 0 [(.ptr x0)]) S (retK E (E.fn 49)) = J49 call n x0 S := by
  rw [J49, a49_entry]
theorem F49 {o : Orc} (n : Nat) (x0 : Option Pos) (S : AS) (ho : ∀ args, o 49 args = none) : evF E o (n + 1) (.fn 49) [(.ptr x0)] S = J49 (evF E o n) n x0 S := (run49 o n [(.ptr x0)] S (ho _)).trans (J49_eq _ _ x0 S)
def b53_l1_1_0_1_0 (call : CallA) (n : Nat)  (j1_1_0_1_0_0_1_1_1 : Option Pos → Bool → Int → AS → Option (AV × AS)) (j1_1_1 : Bool → AS → Option (AV × AS)) (w0 : Option Pos) (w2 : AV) (w3 : Bool) (w8 : Int) (S : AS) : Option (AV × AS) :=
 cond (decide (w8 < 2)) (
 gO w0 fun p1 =>
 ldV S p1.1 p1.2 fun v2 =>
 gO w0 fun p3 =>
 ldI .i64 S p3.1 (p3.2 + 1) fun v4 =>
 nilV E v2 fun v5 =>
 invV E call v2 "Read" [(.int .i64 (IntKind.wrap .i64 (v4 + w8)))] S fun v7 S6 =>
 gT v7 fun v8 =>
 atL v8 0 fun v9a v9l v9c =>
 atI .i64 v8 1 fun v10 =>
 cond (v10 != 0) (
 some ((.int .i64 v10), S6)) (
 callT call 68 [(.sl v9a v9l v9c)] S6 fun v12 S11 =>
 atG 6 v12 0 fun g13 =>
 atI .i64 v12 1 fun v14 =>
 newA S11 (.cells [(.int .u64 0), (.int .u64 0), (.int .u64 0), (.int .u64 0), (.int .u64 0), (.int .u64 0)]) fun b15 S16 =>
 ifO (g13.length = 6) <|
 S16.stn (.rw b15) 0 g13 fun S17 =>
 cond (v14 == 0) (
 cond (!w3) (
 S17.ldn (.rw b15) 0 6 fun g18 =>
 gO w0 fun p19 =>
 ifO (g18.length = 6) <|
 S17.stn p19.1 (p19.2 + 3) g18 fun S20 =>
 j1_1_0_1_0_0_1_1_1 w0 true w8 S20) (
 ldI .u64 S17 (.rw b15) 0 fun v21 =>
 gO w0 fun p22 =>
 ldI .u64 S17 p22.1 (p22.2 + 3) fun v23 =>
 cond (decide (v21 > v23)) (
 S17.ldn (.rw b15) 0 6 fun g24 =>
 gO w0 fun p25 =>
 ifO (g24.length = 6) <|
 S17.stn p25.1 (p25.2 + 3) g24 fun S26 =>
 j1_1_0_1_0_0_1_1_1 w0 true w8 S26) (
 j1_1_0_1_0_0_1_1_1 w0 w3 w8 S17))) (
 j1_1_0_1_0_0_1_1_1 w0 w3 w8 S17))) (
 j1_1_1 w3 S)

def b53_j1_1_0_1_0_0_1_1_1 (call : CallA) (n : Nat)  (l1_1_0_1_0 : Option Pos → AV → Bool → Int → AS → Option (AV × AS)) (w0 : Option Pos) (w3 : Bool) (w8 : Int) (S : AS) : Option (AV × AS) :=
 l1_1_0_1_0 w0 .undef w3 (IntKind.wrap .i64 (w8 + 1)) S

def b53_j1_1_1 (call : CallA) (n : Nat)   (w3 : Bool) (S : AS) : Option (AV × AS) :=
 cond (!w3) (
 some ((.int .i64 80), S)) (
 some ((.int .i64 0), S))

def b53_entry (call : CallA) (n : Nat)  (l1_1_0_1_0 : Option Pos → AV → Bool → Int → AS → Option (AV × AS)) (x0 : Option Pos) (S : AS) : Option (AV × AS) :=
 l1_1_0_1_0 x0 (.int .i64 0) false 0 S

def r53_l1_1_0_1_0 (call : CallA) (n : Nat)  (m : Nat) (w0 : Option Pos) (w2 : AV) (w3 : Bool) (w8 : Int) (S : AS) : Option (AV × AS) := loopN (evC E call n 53 (E.at 53 [1, 1, 0, 1, 0, 0]) 0) [0, 2, 3, 8] m [(0, (.ptr w0)), (2, w2), (3, (.bool w3)), (8, (.int .i64 w8))] S (kBlk 0 (kSeq E call n 53 (E.at 53 [1, 1, 1]) 0 (retK E (E.fn 53))))
def r53_j1_1_0_1_0_0_1_1_1 (call : CallA) (n : Nat) (m1_1_0_1_0 : Nat) (w0 : Option Pos) (w3 : Bool) (w8 : Int) (S : AS) : Option (AV × AS) := evC E call n 53 (E.at 53 [1, 1, 0, 1, 0, 0, 1, 1, 1]) 0 [(0, (.ptr w0)), (3, (.bool w3)), (8, (.int .i64 w8))] S (kLp (evC E call n 53 (E.at 53 [1, 1, 0, 1, 0, 0]) 0) [0, 2, 3, 8] m1_1_0_1_0 (kBlk 0 (kSeq E call n 53 (E.at 53 [1, 1, 1]) 0 (retK E (E.fn 53)))))
def r53_j1_1_1 (call : CallA) (n : Nat)  (w3 : Bool) (S : AS) : Option (AV × AS) := evC E call n 53 (E.at 53 [1, 1, 1]) 0 [(3, (.bool w3))] S (retK E (E.fn 53))
theorem a53_l1_1_0_1_0 (call : CallA) (n : Nat)  (m : Nat) (w0 : Option Pos) (w2 : AV) (w3 : Bool) (w8 : Int) (S : AS) : r53_l1_1_0_1_0 call n  (m + 1) w0 w2 w3 w8 S = b53_l1_1_0_1_0 call n (r53_j1_1_0_1_0_0_1_1_1 call n m) (r53_j1_1_1 call n ) w0 w2 w3 w8 S := by kernel_rfl
theorem a53_j1_1_0_1_0_0_1_1_1 (call : CallA) (n : Nat) (m1_1_0_1_0 : Nat) (w0 : Option Pos) (w3 : Bool) (w8 : Int) (S : AS) : r53_j1_1_0_1_0_0_1_1_1 call n m1_1_0_1_0 w0 w3 w8 S = b53_j1_1_0_1_0_0_1_1_1 call n (r53_l1_1_0_1_0 call n  m1_1_0_1_0) w0 w3 w8 S := by kernel_rfl
theorem a53_j1_1_1 (call : CallA) (n : Nat)  (w3 : Bool) (S : AS) : r53_j1_1_1 call n  w3 S = b53_j1_1_1 call n  w3 S := by kernel_rfl
theorem a53_entry (call : CallA) (n : Nat) (x0 : Option Pos) (S : AS) : evC E call n 53 (E.at 53 []) 0 (enumT 0 [(.ptr x0)]) S (retK E (E.fn 53)) = b53_entry call n (r53_l1_1_0_1_0 call n  n) x0 S := by kernel_rfl
def J53_j1_1_0_1_0_0_1_1_1 (call : CallA) (n : Nat) (n1_1_0_1_0 : Option Pos → AV → Bool → Int → AS → Option (AV × AS)) (w0 : Option Pos) (w3 : Bool) (w8 : Int) (S : AS) : Option (AV × AS) := b53_j1_1_0_1_0_0_1_1_1 call n n1_1_0_1_0 w0 w3 w8 S
theorem h53_j1_1_0_1_0_0_1_1_1 (call : CallA) (n : Nat) (m1_1_0_1_0 : Nat) : r53_j1_1_0_1_0_0_1_1_1 call n m1_1_0_1_0 = J53_j1_1_0_1_0_0_1_1_1 call n (r53_l1_1_0_1_0 call n  m1_1_0_1_0) := by
  funext w0 w3 w8 S
  rw [J53_j1_1_0_1_0_0_1_1_1, a53_j1_1_0_1_0_0_1_1_1]
def J53_j1_1_1 (call : CallA) (n : Nat)  (w3 : Bool) (S : AS) : Option (AV × AS) := b53_j1_1_1 call n  w3 S
theorem h53_j1_1_1 (call : CallA) (n : Nat)  : r53_j1_1_1 call n  = J53_j1_1_1 call n  := by
  funext w3 S
  rw [J53_j1_1_1, a53_j1_1_1]
def J53_l1_1_0_1_0 (call : CallA) (n : Nat)  (m : Nat) : Option Pos → AV → Bool → Int → AS → Option (AV × AS) := Nat.rec (motive := fun _ => Option Pos → AV → Bool → Int → AS → Option (AV × AS)) (fun _ _ _ _ _ => none) (fun mK ih w0 w2 w3 w8 S => b53_l1_1_0_1_0 call n (J53_j1_1_0_1_0_0_1_1_1 call n ih) (J53_j1_1_1 call n ) w0 w2 w3 w8 S) m
theorem J53_l1_1_0_1_0_succ (call : CallA) (n : Nat)  (m : Nat) (w0 : Option Pos) (w2 : AV) (w3 : Bool) (w8 : Int) (S : AS) : J53_l1_1_0_1_0 call n  (m + 1) w0 w2 w3 w8 S = b53_l1_1_0_1_0 call n (J53_j1_1_0_1_0_0_1_1_1 call n (J53_l1_1_0_1_0 call n  m)) (J53_j1_1_1 call n ) w0 w2 w3 w8 S := rfl
theorem h53_l1_1_0_1_0 (call : CallA) (n : Nat)  (m : Nat) : r53_l1_1_0_1_0 call n  m = J53_l1_1_0_1_0 call n  m := by
  induction m with
  | zero => rfl
  | succ m ih =>
    funext w0 w2 w3 w8 S
    rw [J53_l1_1_0_1_0_succ, a53_l1_1_0_1_0, h53_j1_1_0_1_0_0_1_1_1 call n m, h53_j1_1_1 call n , ih]
def J53 (call : CallA) (n : Nat) (x0 : Option Pos) (S : AS) : Option (AV × AS) := b53_entry call n (J53_l1_1_0_1_0 call n  n) x0 S
theorem run53 (o : Orc) (n : Nat) (args : List AV) (S : AS) (ho : o 53 args = none) : evF E o (n + 1) (.fn 53) args S = evC E (evF E o n) n 53 (E.at 53 []) 0 (enumT 0 args) S (retK E (E.fn 53)) := by
  rw [evF, ho]; kernel_rfl
theorem J53_eq (call : CallA) (n : Nat) (x0 : Option Pos) (S : AS) : evC E call n 53 (E.at 53 []) 0 (enumT 0 [(.ptr x0)]) S (retK E (E.fn 53)) = J53 call n x0 S := by
  rw [J53, a53_entry, h53_l1_1_0_1_0 call n  n]
theorem F53 {o : Orc} (n : Nat) (x0 : Option Pos) (S : AS) (ho : ∀ args, o 53 args = none) : evF E o (n + 1) (.fn 53) [(.ptr x0)] S = J53 (evF E o n) n x0 S := (run53 o n [(.ptr x0)] S (ho _)).trans (J53_eq _ _ x0 S)
def b54_l1_1_1_0_1_0 (call : CallA) (n : Nat)  (l1_1_1_0_1_0 : Option Pos → Int → Int → Int → Option Pos → Option Pos → Nat → Cap → Option Pos → Bool → Int → Option Pos → Nat → Cap → Option Pos → Int → AS → Option (AV × AS)) (w0 : Option Pos) (w1 : Int) (w2 : Int) (w4 : Int) (w8 : Option Pos) (w10a : Option Pos) (w10l : Nat) (w10c : Cap) (w11 : Option Pos) (w12 : Bool) (w13 : Int) (w14a : Option Pos) (w14l : Nat) (w14c : Cap) (w15 : Option Pos) (w16 : Int) (S : AS) : Option (AV × AS) :=
 cond (w16 == 0) (
 gO w0 fun p7 =>
 ldV S p7.1 p7.2 fun v8 =>
 callI .i64 call 37 [(.ptr w0), (.int .u64 (IntKind.wrap .u64 (w1 + (IntKind.wrap .u64 w16))))] S fun v10 S9 =>
 ldV S9 p7.1 p7.2 fun v11 =>
 cond (AV.beq v11 v8) (
 nilV E v8 fun v12 =>
 invV E call v8 "Read" [(.int .i64 v10)] S9 fun v14 S13 =>
 gT v14 fun v15 =>
 atL v15 0 fun v16a v16l v16c =>
 atI .i64 v15 1 fun v17 =>
 cond (v17 != 0) (
 gO w11 fun p19 =>
 S13.stn p19.1 p19.2 [(.int .i64 0), (.int .u64 0), (.int .u64 0)] fun S18 =>
 gO w11 fun p20 =>
 S18.ldn p20.1 p20.2 3 fun g21 =>
 some (.tup [(.sl none 0 (.ex 0)), (.agg g21), (.bool false), (.int .i64 v17)], S18)) (
 callT call 69 [(.sl v16a v16l v16c)] S13 fun v23 S22 =>
 atG 7 v23 0 fun g24 =>
 atI .i64 v23 1 fun v25 =>
 newA S22 (.cells [(.int .u64 0), (.int .u64 0), (.int .u64 0), (.int .u64 0), (.int .i64 0), (.int .i64 0), (.sl none 0 (.ex 0))]) fun b26 S27 =>
 ifO (g24.length = 7) <|
 S27.stn (.rw b26) 0 g24 fun S28 =>
 cond (v25 != 0) (
 gO w11 fun p30 =>
 S28.stn p30.1 p30.2 [(.int .i64 0), (.int .u64 0), (.int .u64 0)] fun S29 =>
 gO w11 fun p31 =>
 S29.ldn p31.1 p31.2 3 fun g32 =>
 some (.tup [(.sl none 0 (.ex 0)), (.agg g32), (.bool false), (.int .i64 0)], S29)) (
 ldI .u64 S28 (.rw b26) 2 fun v33 =>
 cond (v33 != (IntKind.wrap .u64 (w1 + (IntKind.wrap .u64 w16)))) (
 gO w11 fun p35 =>
 S28.stn p35.1 p35.2 [(.int .i64 0), (.int .u64 0), (.int .u64 0)] fun S34 =>
 gO w11 fun p36 =>
 S34.ldn p36.1 p36.2 3 fun g37 =>
 some (.tup [(.sl none 0 (.ex 0)), (.agg g37), (.bool false), (.int .i64 0)], S34)) (
 ldI .i64 S28 (.rw b26) 4 fun v38 =>
 cond (v38 != w16) (
 gO w11 fun p40 =>
 S28.stn p40.1 p40.2 [(.int .i64 0), (.int .u64 0), (.int .u64 0)] fun S39 =>
 gO w11 fun p41 =>
 S39.ldn p41.1 p41.2 3 fun g42 =>
 some (.tup [(.sl none 0 (.ex 0)), (.agg g42), (.bool false), (.int .i64 0)], S39)) (
 ldI .u64 S28 (.rw b26) 0 fun v43 =>
 ldI .u64 S28 (.rw b26) 1 fun v44 =>
 newA S28 (.cells [(.int .u64 0), (.int .u64 0)]) fun b45 S46 =>
 S46.stn (.rw b45) 0 [(.int .u64 v43), (.int .u64 v44)] fun S47 =>
 cond (w16 == 0) (
 ldI .u64 S47 (.rw b26) 3 fun v48 =>
 cond (v48 != w2) (
 gO w11 fun p50 =>
 S47.stn p50.1 p50.2 [(.int .i64 0), (.int .u64 0), (.int .u64 0)] fun S49 =>
 gO w11 fun p51 =>
 S49.ldn p51.1 p51.2 3 fun g52 =>
 some (.tup [(.sl none 0 (.ex 0)), (.agg g52), (.bool false), (.int .i64 0)], S49)) (
 ldI .u64 S47 (.rw b26) 0 fun v53 =>
 gO w0 fun p54 =>
 ldI .u64 S47 p54.1 (p54.2 + 3 + 1) fun v55 =>
 cond (decide (v53 > v55)) (
 gO w11 fun p57 =>
 S47.stn p57.1 p57.2 [(.int .i64 0), (.int .u64 0), (.int .u64 0)] fun S56 =>
 gO w11 fun p58 =>
 S56.ldn p58.1 p58.2 3 fun g59 =>
 some (.tup [(.sl none 0 (.ex 0)), (.agg g59), (.bool false), (.int .i64 0)], S56)) (
 S47.ldn (.rw b45) 0 2 fun g60 =>
 gO w8 fun p61 =>
 S47.ldn p61.1 p61.2 2 fun g62 =>
 callB call 70 [(.agg g60), (.agg g62)] S47 fun v64 S63 =>
 cond (!v64) (
 gO w11 fun p66 =>
 S63.stn p66.1 p66.2 [(.int .i64 0), (.int .u64 0), (.int .u64 0)] fun S65 =>
 gO w11 fun p67 =>
 S65.ldn p67.1 p67.2 3 fun g68 =>
 some (.tup [(.sl none 0 (.ex 0)), (.agg g68), (.bool false), (.int .i64 0)], S65)) (
 ldI .i64 S63 (.rw b26) 5 fun v69 =>
 cond (decide (v69 > w4)) (
 gO w11 fun p71 =>
 S63.stn p71.1 p71.2 [(.int .i64 0), (.int .u64 0), (.int .u64 0)] fun S70 =>
 gO w11 fun p72 =>
 S70.ldn p72.1 p72.2 3 fun g73 =>
 some (.tup [(.sl none 0 (.ex 0)), (.agg g73), (.bool false), (.int .i64 0)], S70)) (
 S63.ldn (.rw b26) 0 7 fun g74 =>
 gO w15 fun p76 =>
 ifO (g74.length = 7) <|
 S63.stn p76.1 p76.2 g74 fun S75 =>
 ldL S75 (.rw b26) 6 fun v77a v77l v77c =>
 appendA 1 1 S75 w14a w14l w14c v77l (firstA S75 1 v77l (.sl v77a v77l v77c)) fun v78a v78l v78c S79 =>
 l1_1_1_0_1_0 w0 w1 w2 w4 w8 w10a w10l w10c w11 w12 w13 v78a v78l v78c w15 (IntKind.wrap .i64 (w16 + 1)) S79))))) (
 S47.ldn (.rw b45) 0 2 fun g80 =>
 gO w15 fun p81 =>
 ldI .u64 S47 p81.1 p81.2 fun v82 =>
 gO w15 fun p83 =>
 ldI .u64 S47 p83.1 (p83.2 + 1) fun v84 =>
 aggNe ty85 g80 [(.int .u64 v82), (.int .u64 v84)] fun b85 =>
 cond b85 (
 gO w11 fun p87 =>
 S47.stn p87.1 p87.2 [(.int .i64 0), (.int .u64 0), (.int .u64 0)] fun S86 =>
 gO w11 fun p88 =>
 S86.ldn p88.1 p88.2 3 fun g89 =>
 some (.tup [(.sl none 0 (.ex 0)), (.agg g89), (.bool false), (.int .i64 0)], S86)) (
 ldI .u64 S47 (.rw b26) 3 fun v90 =>
 cond (v90 != w2) (
 gO w11 fun p92 =>
 S47.stn p92.1 p92.2 [(.int .i64 0), (.int .u64 0), (.int .u64 0)] fun S91 =>
 gO w11 fun p93 =>
 S91.ldn p93.1 p93.2 3 fun g94 =>
 some (.tup [(.sl none 0 (.ex 0)), (.agg g94), (.bool false), (.int .i64 0)], S91)) (
 ldI .i64 S47 (.rw b26) 5 fun v95 =>
 gO w15 fun p96 =>
 ldI .i64 S47 p96.1 (p96.2 + 5) fun v97 =>
 cond (v95 != v97) (
 gO w11 fun p99 =>
 S47.stn p99.1 p99.2 [(.int .i64 0), (.int .u64 0), (.int .u64 0)] fun S98 =>
 gO w11 fun p100 =>
 S98.ldn p100.1 p100.2 3 fun g101 =>
 some (.tup [(.sl none 0 (.ex 0)), (.agg g101), (.bool false), (.int .i64 0)], S98)) (
 ldL S47 (.rw b26) 6 fun v102a v102l v102c =>
 appendA 1 1 S47 w14a w14l w14c v102l (firstA S47 1 v102l (.sl v102a v102l v102c)) fun v103a v103l v103c S104 =>
 l1_1_1_0_1_0 w0 w1 w2 w4 w8 w10a w10l w10c w11 w12 w13 v103a v103l v103c w15 (IntKind.wrap .i64 (w16 + 1)) S104))))))))) none) (
 gO w15 fun p105 =>
 ldI .i64 S p105.1 (p105.2 + 5) fun v106 =>
 cond (decide (w16 < v106)) (
 gO w0 fun p107 =>
 ldV S p107.1 p107.2 fun v108 =>
 callI .i64 call 37 [(.ptr w0), (.int .u64 (IntKind.wrap .u64 (w1 + (IntKind.wrap .u64 w16))))] S fun v110 S109 =>
 ldV S109 p107.1 p107.2 fun v111 =>
 cond (AV.beq v111 v108) (
 nilV E v108 fun v112 =>
 invV E call v108 "Read" [(.int .i64 v110)] S109 fun v114 S113 =>
 gT v114 fun v115 =>
 atL v115 0 fun v116a v116l v116c =>
 atI .i64 v115 1 fun v117 =>
 cond (v117 != 0) (
 gO w11 fun p119 =>
 S113.stn p119.1 p119.2 [(.int .i64 0), (.int .u64 0), (.int .u64 0)] fun S118 =>
 gO w11 fun p120 =>
 S118.ldn p120.1 p120.2 3 fun g121 =>
 some (.tup [(.sl none 0 (.ex 0)), (.agg g121), (.bool false), (.int .i64 v117)], S118)) (
 callT call 69 [(.sl v116a v116l v116c)] S113 fun v123 S122 =>
 atG 7 v123 0 fun g124 =>
 atI .i64 v123 1 fun v125 =>
 newA S122 (.cells [(.int .u64 0), (.int .u64 0), (.int .u64 0), (.int .u64 0), (.int .i64 0), (.int .i64 0), (.sl none 0 (.ex 0))]) fun b126 S127 =>
 ifO (g124.length = 7) <|
 S127.stn (.rw b126) 0 g124 fun S128 =>
 cond (v125 != 0) (
 gO w11 fun p130 =>
 S128.stn p130.1 p130.2 [(.int .i64 0), (.int .u64 0), (.int .u64 0)] fun S129 =>
 gO w11 fun p131 =>
 S129.ldn p131.1 p131.2 3 fun g132 =>
 some (.tup [(.sl none 0 (.ex 0)), (.agg g132), (.bool false), (.int .i64 0)], S129)) (
 ldI .u64 S128 (.rw b126) 2 fun v133 =>
 cond (v133 != (IntKind.wrap .u64 (w1 + (IntKind.wrap .u64 w16)))) (
 gO w11 fun p135 =>
 S128.stn p135.1 p135.2 [(.int .i64 0), (.int .u64 0), (.int .u64 0)] fun S134 =>
 gO w11 fun p136 =>
 S134.ldn p136.1 p136.2 3 fun g137 =>
 some (.tup [(.sl none 0 (.ex 0)), (.agg g137), (.bool false), (.int .i64 0)], S134)) (
 ldI .i64 S128 (.rw b126) 4 fun v138 =>
 cond (v138 != w16) (
 gO w11 fun p140 =>
 S128.stn p140.1 p140.2 [(.int .i64 0), (.int .u64 0), (.int .u64 0)] fun S139 =>
 gO w11 fun p141 =>
 S139.ldn p141.1 p141.2 3 fun g142 =>
 some (.tup [(.sl none 0 (.ex 0)), (.agg g142), (.bool false), (.int .i64 0)], S139)) (
 ldI .u64 S128 (.rw b126) 0 fun v143 =>
 ldI .u64 S128 (.rw b126) 1 fun v144 =>
 newA S128 (.cells [(.int .u64 0), (.int .u64 0)]) fun b145 S146 =>
 S146.stn (.rw b145) 0 [(.int .u64 v143), (.int .u64 v144)] fun S147 =>
 cond (w16 == 0) (
 ldI .u64 S147 (.rw b126) 3 fun v148 =>
 cond (v148 != w2) (
 gO w11 fun p150 =>
 S147.stn p150.1 p150.2 [(.int .i64 0), (.int .u64 0), (.int .u64 0)] fun S149 =>
 gO w11 fun p151 =>
 S149.ldn p151.1 p151.2 3 fun g152 =>
 some (.tup [(.sl none 0 (.ex 0)), (.agg g152), (.bool false), (.int .i64 0)], S149)) (
 ldI .u64 S147 (.rw b126) 0 fun v153 =>
 gO w0 fun p154 =>
 ldI .u64 S147 p154.1 (p154.2 + 3 + 1) fun v155 =>
 cond (decide (v153 > v155)) (
 gO w11 fun p157 =>
 S147.stn p157.1 p157.2 [(.int .i64 0), (.int .u64 0), (.int .u64 0)] fun S156 =>
 gO w11 fun p158 =>
 S156.ldn p158.1 p158.2 3 fun g159 =>
 some (.tup [(.sl none 0 (.ex 0)), (.agg g159), (.bool false), (.int .i64 0)], S156)) (
 S147.ldn (.rw b145) 0 2 fun g160 =>
 gO w8 fun p161 =>
 S147.ldn p161.1 p161.2 2 fun g162 =>
 callB call 70 [(.agg g160), (.agg g162)] S147 fun v164 S163 =>
 cond (!v164) (
 gO w11 fun p166 =>
 S163.stn p166.1 p166.2 [(.int .i64 0), (.int .u64 0), (.int .u64 0)] fun S165 =>
 gO w11 fun p167 =>
 S165.ldn p167.1 p167.2 3 fun g168 =>
 some (.tup [(.sl none 0 (.ex 0)), (.agg g168), (.bool false), (.int .i64 0)], S165)) (
 ldI .i64 S163 (.rw b126) 5 fun v169 =>
 cond (decide (v169 > w4)) (
 gO w11 fun p171 =>
 S163.stn p171.1 p171.2 [(.int .i64 0), (.int .u64 0), (.int .u64 0)] fun S170 =>
 gO w11 fun p172 =>
 S170.ldn p172.1 p172.2 3 fun g173 =>
 some (.tup [(.sl none 0 (.ex 0)), (.agg g173), (.bool false), (.int .i64 0)], S170)) (
 S163.ldn (.rw b126) 0 7 fun g174 =>
 gO w15 fun p176 =>
 ifO (g174.length = 7) <|
 S163.stn p176.1 p176.2 g174 fun S175 =>
 ldL S175 (.rw b126) 6 fun v177a v177l v177c =>
 appendA 1 1 S175 w14a w14l w14c v177l (firstA S175 1 v177l (.sl v177a v177l v177c)) fun v178a v178l v178c S179 =>
 l1_1_1_0_1_0 w0 w1 w2 w4 w8 w10a w10l w10c w11 w12 w13 v178a v178l v178c w15 (IntKind.wrap .i64 (w16 + 1)) S179))))) (
 S147.ldn (.rw b145) 0 2 fun g180 =>
 gO w15 fun p181 =>
 ldI .u64 S147 p181.1 p181.2 fun v182 =>
 gO w15 fun p183 =>
 ldI .u64 S147 p183.1 (p183.2 + 1) fun v184 =>
 aggNe ty85 g180 [(.int .u64 v182), (.int .u64 v184)] fun b185 =>
 cond b185 (
 gO w11 fun p187 =>
 S147.stn p187.1 p187.2 [(.int .i64 0), (.int .u64 0), (.int .u64 0)] fun S186 =>
 gO w11 fun p188 =>
 S186.ldn p188.1 p188.2 3 fun g189 =>
 some (.tup [(.sl none 0 (.ex 0)), (.agg g189), (.bool false), (.int .i64 0)], S186)) (
 ldI .u64 S147 (.rw b126) 3 fun v190 =>
 cond (v190 != w2) (
 gO w11 fun p192 =>
 S147.stn p192.1 p192.2 [(.int .i64 0), (.int .u64 0), (.int .u64 0)] fun S191 =>
 gO w11 fun p193 =>
 S191.ldn p193.1 p193.2 3 fun g194 =>
 some (.tup [(.sl none 0 (.ex 0)), (.agg g194), (.bool false), (.int .i64 0)], S191)) (
 ldI .i64 S147 (.rw b126) 5 fun v195 =>
 gO w15 fun p196 =>
 ldI .i64 S147 p196.1 (p196.2 + 5) fun v197 =>
 cond (v195 != v197) (
 gO w11 fun p199 =>
 S147.stn p199.1 p199.2 [(.int .i64 0), (.int .u64 0), (.int .u64 0)] fun S198 =>
 gO w11 fun p200 =>
 S198.ldn p200.1 p200.2 3 fun g201 =>
 some (.tup [(.sl none 0 (.ex 0)), (.agg g201), (.bool false), (.int .i64 0)], S198)) (
 ldL S147 (.rw b126) 6 fun v202a v202l v202c =>
 appendA 1 1 S147 w14a w14l w14c v202l (firstA S147 1 v202l (.sl v202a v202l v202c)) fun v203a v203l v203c S204 =>
 l1_1_1_0_1_0 w0 w1 w2 w4 w8 w10a w10l w10c w11 w12 w13 v203a v203l v203c w15 (IntKind.wrap .i64 (w16 + 1)) S204))))))))) none) (
 callT call 71 [(.sl w14a w14l w14c)] S fun v206 S205 =>
 atL v206 0 fun v207a v207l v207c =>
 atI .i64 v206 1 fun v208 =>
 gO w15 fun p209 =>
 ldI .i64 S205 p209.1 (p209.2 + 5) fun v210 =>
 gO w15 fun p211 =>
 ldI .u64 S205 p211.1 p211.2 fun v212 =>
 gO w15 fun p213 =>
 ldI .u64 S205 p213.1 (p213.2 + 1) fun v214 =>
 gO w11 fun p216 =>
 S205.stn p216.1 p216.2 [(.int .i64 v210), (.int .u64 v212), (.int .u64 v214)] fun S215 =>
 gO w11 fun p217 =>
 S215.ldn p217.1 p217.2 3 fun g218 =>
 some (.tup [(.sl v207a v207l v207c), (.agg g218), (.bool (v208 == 0)), (.int .i64 0)], S215)))

def b54_entry (call : CallA) (n : Nat)  (l1_1_1_0_1_0 : Option Pos → Int → Int → Int → Option Pos → Option Pos → Nat → Cap → Option Pos → Bool → Int → Option Pos → Nat → Cap → Option Pos → Int → AS → Option (AV × AS)) (x0 : Option Pos) (x1 : Int) (x2 : Int) (x3 : List AV) (x4 : Int) (S : AS) : Option (AV × AS) :=
 ifO (x3.length = 2) <|
 newA S (.cells x3) fun b1 S2 =>
 newA S2 (.cells [(.int .i64 0), (.int .u64 0), (.int .u64 0)]) fun b3 S4 =>
 newA S4 (.cells [(.int .u64 0), (.int .u64 0), (.int .u64 0), (.int .u64 0), (.int .i64 0), (.int .i64 0), (.sl none 0 (.ex 0))]) fun b5 S6 =>
 l1_1_1_0_1_0 x0 x1 x2 x4 (some ((.rw b1), 0)) none 0 (.ex 0) (some ((.rw b3), 0)) false 0 none 0 (.ex 0) (some ((.rw b5), 0)) 0 S6

def r54_l1_1_1_0_1_0 (call : CallA) (n : Nat)  (m : Nat) (w0 : Option Pos) (w1 : Int) (w2 : Int) (w4 : Int) (w8 : Option Pos) (w10a : Option Pos) (w10l : Nat) (w10c : Cap) (w11 : Option Pos) (w12 : Bool) (w13 : Int) (w14a : Option Pos) (w14l : Nat) (w14c : Cap) (w15 : Option Pos) (w16 : Int) (S : AS) : Option (AV × AS) := loopN (evC E call n 54 (E.at 54 [1, 1, 1, 0, 1, 0, 0]) 0) [0, 1, 2, 4, 8, 10, 11, 12, 13, 14, 15, 16] m [(0, (.ptr w0)), (1, (.int .u64 w1)), (2, (.int .u64 w2)), (4, (.int .i64 w4)), (8, (.ptr w8)), (10, (.sl w10a w10l w10c)), (11, (.ptr w11)), (12, (.bool w12)), (13, (.int .i64 w13)), (14, (.sl w14a w14l w14c)), (15, (.ptr w15)), (16, (.int .i64 w16))] S (kBlk 0 (kSeq E call n 54 (E.at 54 [1, 1, 1, 1]) 0 (retK E (E.fn 54))))
theorem a54_l1_1_1_0_1_0 (call : CallA) (n : Nat)  (m : Nat) (w0 : Option Pos) (w1 : Int) (w2 : Int) (w4 : Int) (w8 : Option Pos) (w10a : Option Pos) (w10l : Nat) (w10c : Cap) (w11 : Option Pos) (w12 : Bool) (w13 : Int) (w14a : Option Pos) (w14l : Nat) (w14c : Cap) (w15 : Option Pos) (w16 : Int) (S : AS) : r54_l1_1_1_0_1_0 call n  (m + 1) w0 w1 w2 w4 w8 w10a w10l w10c w11 w12 w13 w14a w14l w14c w15 w16 S = b54_l1_1_1_0_1_0 call n (r54_l1_1_1_0_1_0 call n  m) w0 w1 w2 w4 w8 w10a w10l w10c w11 w12 w13 w14a w14l w14c w15 w16 S := by kernel_rfl
theorem a54_entry (call : CallA) (n : Nat) (x0 : Option Pos) (x1 : Int) (x2 : Int) (x3 : List AV) (x4 : Int) (S : AS) : evC E call n 54 (E.at 54 []) 0 (enumT 0 [(.ptr x0), (.int .u64 x1), (.int .u64 x2), (.agg x3), (.int .i64 x4)]) S (retK E (E.fn 54)) = b54_entry call n (r54_l1_1_1_0_1_0 call n  n) x0 x1 x2 x3 x4 S := by kernel_rfl
def J54_l1_1_1_0_1_0 (call : CallA) (n : Nat)  (m : Nat) : Option Pos → Int → Int → Int → Option Pos → Option Pos → Nat → Cap → Option Pos → Bool → Int → Option Pos → Nat → Cap → Option Pos → Int → AS → Option (AV × AS) := Nat.rec (motive := fun _ => Option Pos → Int → Int → Int → Option Pos → Option Pos → Nat → Cap → Option Pos → Bool → Int → Option Pos → Nat → Cap → Option Pos → Int → AS → Option (AV × AS)) (fun _ _ _ _ _ _ _ _ _ _ _ _ _ _ _ _ _ => none) (fun mK ih w0 w1 w2 w4 w8 w10a w10l w10c w11 w12 w13 w14a w14l w14c w15 w16 S => b54_l1_1_1_0_1_0 call n ih w0 w1 w2 w4 w8 w10a w10l w10c w11 w12 w13 w14a w14l w14c w15 w16 S) m
theorem J54_l1_1_1_0_1_0_succ (call : CallA) (n : Nat)  (m : Nat) (w0 : Option Pos) (w1 : Int) (w2 : Int) (w4 : Int) (w8 : Option Pos) (w10a : Option Pos) (w10l : Nat) (w10c : Cap) (w11 : Option Pos) (w12 : Bool) (w13 : Int) (w14a : Option Pos) (w14l : Nat) (w14c : Cap) (w15 : Option Pos) (w16 : Int) (S : AS) : J54_l1_1_1_0_1_0 call n  (m + 1) w0 w1 w2 w4 w8 w10a w10l w10c w11 w12 w13 w14a w14l w14c w15 w16 S = b54_l1_1_1_0_1_0 call n (J54_l1_1_1_0_1_0 call n  m) w0 w1 w2 w4 w8 w10a w10l w10c w11 w12 w13 w14a w14l w14c w15 w16 S := rfl
theorem h54_l1_1_1_0_1_0 (call : CallA) (n : Nat)  (m : Nat) : r54_l1_1_1_0_1_0 call n  m = J54_l1_1_1_0_1_0 call n  m := by
  induction m with
  | zero => rfl
  | succ m ih =>
    funext w0 w1 w2 w4 w8 w10a w10l w10c w11 w12 w13 w14a w14l w14c w15 w16 S
    rw [J54_l1_1_1_0_1_0_succ, a54_l1_1_1_0_1_0, ih]
def J54 (call : CallA) (n : Nat) (x0 : Option Pos) (x1 : Int) (x2 : Int) (x3 : List AV) (x4 : Int) (S : AS) : Option (AV × AS) := b54_entry call n (J54_l1_1_1_0_1_0 call n  n) x0 x1 x2 x3 x4 S
theorem run54 (o : Orc) (n : Nat) (args : List AV) (S : AS) (ho : o 54 args = none) : evF E o (n + 1) (.fn 54) args S = evC E (evF E o n) n 54 (E.at 54 []) 0 (enumT 0 args) S (retK E (E.fn 54)) := by
  rw [evF, ho]; kernel_rfl
theorem J54_eq (call : CallA) (n : Nat) (x0 : Option Pos) (x1 : Int) (x2 : Int) (x3 : List AV) (x4 : Int) (S : AS) : evC E call n 54 (E.at 54 []) 0 (enumT 0 [(.ptr x0), (.int .u64 x1), (.int .u64 x2), (.agg x3), (.int .i64 x4)]) S (retK E (E.fn 54)) = J54 call n x0 x1 x2 x3 x4 S := by
  rw [J54, a54_entry, h54_l1_1_1_0_1_0 call n  n]
theorem F54 {o : Orc} (n : Nat) (x0 : Option Pos) (x1 : Int) (x2 : Int) (x3 : List AV) (x4 : Int) (S : AS) (ho : ∀ args, o 54 args = none) : evF E o (n + 1) (.fn 54) [(.ptr x0), (.int .u64 x1), (.int .u64 x2), (.agg x3), (.int .i64 x4)] S = J54 (evF E o n) n x0 x1 x2 x3 x4 S := (run54 o n [(.ptr x0), (.int .u64 x1), (.int .u64 x2), (.agg x3), (.int .i64 x4)] S (ho _)).trans (J54_eq _ _ x0 x1 x2 x3 x4 S)
def b55_l1_1_0_1_0 (call : CallA) (n : Nat)  (l1_1_0_1_0 : Option Pos → Nat → Cap → Option Pos → Nat → Cap → Bool → Int → AS → Option (AV × AS)) (w0a : Option Pos) (w0l : Nat) (w0c : Cap) (w1a : Option Pos) (w1l : Nat) (w1c : Cap) (w4 : Bool) (w5 : Int) (S : AS) : Option (AV × AS) :=
 cond (decide (w5 < ((w0l : Nat) : Int))) (
 ixSl 2 w0a w0l w5 fun p1 =>
 ldI .i64 S p1.1 p1.2 fun v2 =>
 ixSl 2 w1a w1l w5 fun p3 =>
 ldI .i64 S p3.1 p3.2 fun v4 =>
 cond (v2 != v4) (
 some ((.bool false), S)) (
 ixSl 2 w0a w0l w5 fun p5 =>
 ldL S p5.1 (p5.2 + 1) fun v6a v6l v6c =>
 bytesStr S v6a v6l fun s7 =>
 ixSl 2 w1a w1l w5 fun p8 =>
 ldL S p8.1 (p8.2 + 1) fun v9a v9l v9c =>
 bytesStr S v9a v9l fun s10 =>
 cond (!(s7 == s10)) (
 some ((.bool false), S)) (
 l1_1_0_1_0 w0a w0l w0c w1a w1l w1c w4 (IntKind.wrap .i64 (w5 + 1)) S))) (
 some ((.bool true), S))

def b55_entry (call : CallA) (n : Nat)  (l1_1_0_1_0 : Option Pos → Nat → Cap → Option Pos → Nat → Cap → Bool → Int → AS → Option (AV × AS)) (x0a : Option Pos) (x0l : Nat) (x0c : Cap) (x1a : Option Pos) (x1l : Nat) (x1c : Cap) (S : AS) : Option (AV × AS) :=
 cond (((x0l : Nat) : Int) != ((x1l : Nat) : Int)) (
 some ((.bool false), S)) (
 l1_1_0_1_0 x0a x0l x0c x1a x1l x1c false 0 S)

def r55_l1_1_0_1_0 (call : CallA) (n : Nat)  (m : Nat) (w0a : Option Pos) (w0l : Nat) (w0c : Cap) (w1a : Option Pos) (w1l : Nat) (w1c : Cap) (w4 : Bool) (w5 : Int) (S : AS) : Option (AV × AS) := loopN (evC E call n 55 (E.at 55 [1, 1, 0, 1, 0, 0]) 0) [0, 1, 4, 5] m [(0, (.sl w0a w0l w0c)), (1, (.sl w1a w1l w1c)), (4, (.bool w4)), (5, (.int .i64 w5))] S (kBlk 0 (kSeq E call n 55 (E.at 55 [1, 1, 1]) 0 (retK E (E.fn 55))))
theorem a55_l1_1_0_1_0 (call : CallA) (n : Nat)  (m : Nat) (w0a : Option Pos) (w0l : Nat) (w0c : Cap) (w1a : Option Pos) (w1l : Nat) (w1c : Cap) (w4 : Bool) (w5 : Int) (S : AS) : r55_l1_1_0_1_0 call n  (m + 1) w0a w0l w0c w1a w1l w1c w4 w5 S = b55_l1_1_0_1_0 call n (r55_l1_1_0_1_0 call n  m) w0a w0l w0c w1a w1l w1c w4 w5 S := by kernel_rfl
theorem a55_entry (call : CallA) (n : Nat) (x0a : Option Pos) (x0l : Nat) (x0c : Cap) (x1a : Option Pos) (x1l : Nat) (x1c : Cap) (S : AS) : evC E call n 55 (E.at 55 []) 0 (enumT 0 [(.sl x0a x0l x0c), (.sl x1a x1l x1c)]) S (retK E (E.fn 55)) = b55_entry call n (r55_l1_1_0_1_0 call n  n) x0a x0l x0c x1a x1l x1c S := by kernel_rfl
def J55_l1_1_0_1_0 (call : CallA) (n : Nat)  (m : Nat) : Option Pos → Nat → Cap → Option Pos → Nat → Cap → Bool → Int → AS → Option (AV × AS) := Nat.rec (motive := fun _ => Option Pos → Nat → Cap → Option Pos → Nat → Cap → Bool → Int → AS → Option (AV × AS)) (fun _ _ _ _ _ _ _ _ _ => none) (fun mK ih w0a w0l w0c w1a w1l w1c w4 w5 S => b55_l1_1_0_1_0 call n ih w0a w0l w0c w1a w1l w1c w4 w5 S) m
theorem J55_l1_1_0_1_0_succ (call : CallA) (n : Nat)  (m : Nat) (w0a : Option Pos) (w0l : Nat) (w0c : Cap) (w1a : Option Pos) (w1l : Nat) (w1c : Cap) (w4 : Bool) (w5 : Int) (S : AS) : J55_l1_1_0_1_0 call n  (m + 1) w0a w0l w0c w1a w1l w1c w4 w5 S = b55_l1_1_0_1_0 call n (J55_l1_1_0_1_0 call n  m) w0a w0l w0c w1a w1l w1c w4 w5 S := rfl
theorem h55_l1_1_0_1_0 (call : CallA) (n : Nat)  (m : Nat) : r55_l1_1_0_1_0 call n  m = J55_l1_1_0_1_0 call n  m := by
  induction m with
  | zero => rfl
  | succ m ih =>
    funext w0a w0l w0c w1a w1l w1c w4 w5 S
    rw [J55_l1_1_0_1_0_succ, a55_l1_1_0_1_0, ih]
def J55 (call : CallA) (n : Nat) (x0a : Option Pos) (x0l : Nat) (x0c : Cap) (x1a : Option Pos) (x1l : Nat) (x1c : Cap) (S : AS) : Option (AV × AS) := b55_entry call n (J55_l1_1_0_1_0 call n  n) x0a x0l x0c x1a x1l x1c S
theorem run55 (o : Orc) (n : Nat) (args : List AV) (S : AS) (ho : o 55 args = none) : evF E o (n + 1) (.fn 55) args S = evC E (evF E o n) n 55 (E.at 55 []) 0 (enumT 0 args) S (retK E (E.fn 55)) := by
  rw [evF, ho]; kernel_rfl
theorem J55_eq (call : CallA) (n : Nat) (x0a : Option Pos) (x0l : Nat) (x0c : Cap) (x1a : Option Pos) (x1l : Nat) (x1c : Cap) (S : AS) : evC E call n 55 (E.at 55 []) 0 (enumT 0 [(.sl x0a x0l x0c), (.sl x1a x1l x1c)]) S (retK E (E.fn 55)) = J55 call n x0a x0l x0c x1a x1l x1c S := by
  rw [J55, a55_entry, h55_l1_1_0_1_0 call n  n]
theorem F55 {o : Orc} (n : Nat) (x0a : Option Pos) (x0l : Nat) (x0c : Cap) (x1a : Option Pos) (x1l : Nat) (x1c : Cap) (S : AS) (ho : ∀ args, o 55 args = none) : evF E o (n + 1) (.fn 55) [(.sl x0a x0l x0c), (.sl x1a x1l x1c)] S = J55 (evF E o n) n x0a x0l x0c x1a x1l x1c S := (run55 o n [(.sl x0a x0l x0c), (.sl x1a x1l x1c)] S (ho _)).trans (J55_eq _ _ x0a x0l x0c x1a x1l x1c S)
def b56_entry (call : CallA) (n : Nat)   (x0a : Option Pos) (x0l : Nat) (x0c : Cap) (x1 : Int) (x2 : Int) (S : AS) : Option (AV × AS) :=
 appendZA 1 1 [(.int .u8 0)] S x0a x0l x0c x2 fun v1a v1l v1c S2 =>
 slSl 1 v1a v1l v1c (some (IntKind.wrap .i64 (((v1l : Nat) : Int) - x2))) none none fun v3a v3l v3c =>
 callT call 72 [(.sl v3a v3l v3c), (.int .u64 x1)] S2 fun v5 S4 =>
 some ((.sl v1a v1l v1c), S4)

theorem a56_entry (call : CallA) (n : Nat) (x0a : Option Pos) (x0l : Nat) (x0c : Cap) (x1 : Int) (x2 : Int) (S : AS) : evC E call n 56 (E.at 56 []) 0 (enumT 0 [(.sl x0a x0l x0c), (.int .u64 x1), (.int .i64 x2)]) S (retK E (E.fn 56)) = b56_entry call n  x0a x0l x0c x1 x2 S := by kernel_rfl
def J56 (call : CallA) (n : Nat) (x0a : Option Pos) (x0l : Nat) (x0c : Cap) (x1 : Int) (x2 : Int) (S : AS) : Option (AV × AS) := b56_entry call n  x0a x0l x0c x1 x2 S
theorem run56 (o : Orc) (n : Nat) (args : List AV) (S : AS) (ho : o 56 args = none) : evF E o (n + 1) (.fn 56) args S = evC E (evF E o n) n 56 (E.at 56 []) 0 (enumT 0 args) S (retK E (E.fn 56)) := by
  rw [evF, ho]; kernel_rfl
theorem J56_eq (call : CallA) (n : Nat) (x0a : Option Pos) (x0l : Nat) (x0c : Cap) (x1 : Int) (x2 : Int) (S : AS) : evC E call n 56 (E.at 56 []) 0 (enumT 0 [(.sl x0a x0l x0c), (.int .u64 x1), (.int .i64 x2)]) S (retK E (E.fn 56)) = J56 call n x0a x0l x0c x1 x2 S := by
  rw [J56, a56_entry]
theorem F56 {o : Orc} (n : Nat) (x0a : Option Pos) (x0l : Nat) (x0c : Cap) (x1 : Int) (x2 : Int) (S : AS) (ho : ∀ args, o 56 args = none) : evF E o (n + 1) (.fn 56) [(.sl x0a x0l x0c), (.int .u64 x1), (.int .i64 x2)] S = J56 (evF E o n) n x0a x0l x0c x1 x2 S := (run56 o n [(.sl x0a x0l x0c), (.int .u64 x1), (.int .i64 x2)] S (ho _)).trans (J56_eq _ _ x0a x0l x0c x1 x2 S)
def b57_entry (call : CallA) (n : Nat)   (x0a : Option Pos) (x0l : Nat) (x0c : Cap) (S : AS) : Option (AV × AS) :=
 appendZA 1 1 [(.int .u8 0)] S x0a x0l x0c (IntKind.wrap .i64 (384 - ((x0l : Nat) : Int))) fun v1a v1l v1c S2 =>
 some ((.sl v1a v1l v1c), S2)

theorem a57_entry (call : CallA) (n : Nat) (x0a : Option Pos) (x0l : Nat) (x0c : Cap) (S : AS) : evC E call n 57 (E.at 57 []) 0 (enumT 0 [(.sl x0a x0l x0c)]) S (retK E (E.fn 57)) = b57_entry call n  x0a x0l x0c S := by kernel_rfl
def J57 (call : CallA) (n : Nat) (x0a : Option Pos) (x0l : Nat) (x0c : Cap) (S : AS) : Option (AV × AS) := b57_entry call n  x0a x0l x0c S
theorem run57 (o : Orc) (n : Nat) (args : List AV) (S : AS) (ho : o 57 args = none) : evF E o (n + 1) (.fn 57) args S = evC E (evF E o n) n 57 (E.at 57 []) 0 (enumT 0 args) S (retK E (E.fn 57)) := by
  rw [evF, ho]; kernel_rfl
theorem J57_eq (call : CallA) (n : Nat) (x0a : Option Pos) (x0l : Nat) (x0c : Cap) (S : AS) : evC E call n 57 (E.at 57 []) 0 (enumT 0 [(.sl x0a x0l x0c)]) S (retK E (E.fn 57)) = J57 call n x0a x0l x0c S := by
  rw [J57, a57_entry]
theorem F57 {o : Orc} (n : Nat) (x0a : Option Pos) (x0l : Nat) (x0c : Cap) (S : AS) (ho : ∀ args, o 57 args = none) : evF E o (n + 1) (.fn 57) [(.sl x0a x0l x0c)] S = J57 (evF E o n) n x0a x0l x0c S := (run57 o n [(.sl x0a x0l x0c)] S (ho _)).trans (J57_eq _ _ x0a x0l x0c S)
def b58_entry (call : CallA) (n : Nat)   (x0a : Option Pos) (x0l : Nat) (x0c : Cap) (S : AS) : Option (AV × AS) :=
 appendZA 1 1 [(.int .u8 0)] S x0a x0l x0c (IntKind.wrap .i64 (384 - ((x0l : Nat) : Int))) fun v1a v1l v1c S2 =>
 some ((.sl v1a v1l v1c), S2)

theorem a58_entry (call : CallA) (n : Nat) (x0a : Option Pos) (x0l : Nat) (x0c : Cap) (S : AS) : evC E call n 58 (E.at 58 []) 0 (enumT 0 [(.sl x0a x0l x0c)]) S (retK E (E.fn 58)) = b58_entry call n  x0a x0l x0c S := by kernel_rfl
def J58 (call : CallA) (n : Nat) (x0a : Option Pos) (x0l : Nat) (x0c : Cap) (S : AS) : Option (AV × AS) := b58_entry call n  x0a x0l x0c S
theorem run58 (o : Orc) (n : Nat) (args : List AV) (S : AS) (ho : o 58 args = none) : evF E o (n + 1) (.fn 58) args S = evC E (evF E o n) n 58 (E.at 58 []) 0 (enumT 0 args) S (retK E (E.fn 58)) := by
  rw [evF, ho]; kernel_rfl
theorem J58_eq (call : CallA) (n : Nat) (x0a : Option Pos) (x0l : Nat) (x0c : Cap) (S : AS) : evC E call n 58 (E.at 58 []) 0 (enumT 0 [(.sl x0a x0l x0c)]) S (retK E (E.fn 58)) = J58 call n x0a x0l x0c S := by
  rw [J58, a58_entry]
theorem F58 {o : Orc} (n : Nat) (x0a : Option Pos) (x0l : Nat) (x0c : Cap) (S : AS) (ho : ∀ args, o 58 args = none) : evF E o (n + 1) (.fn 58) [(.sl x0a x0l x0c)] S = J58 (evF E o n) n x0a x0l x0c S := (run58 o n [(.sl x0a x0l x0c)] S (ho _)).trans (J58_eq _ _ x0a x0l x0c S)
def b59_l1_1_0_1_0 (call : CallA) (n : Nat)  (l1_1_0_1_0 : Option Pos → Int → Option Pos → Nat → Cap → Int → Int → AS → Option (AV × AS)) (j1_1_1 : Option Pos → Int → AS → Option (AV × AS)) (w0 : Option Pos) (w1 : Int) (w4a : Option Pos) (w4l : Nat) (w4c : Cap) (w5 : Int) (w6 : Int) (S : AS) : Option (AV × AS) :=
 cond (decide (w6 ≥ 0)) (
 gO w0 fun p5 =>
 ldL S p5.1 (p5.2 + 1) fun v6a v6l v6c =>
 ixSl 2 v6a v6l w6 fun p7 =>
 ldI .i64 S p7.1 p7.2 fun v8 =>
 cond (v8 == w1) (
 gO w0 fun p9 =>
 ldL S p9.1 (p9.2 + 1) fun v10a v10l v10c =>
 ixSl 2 v10a v10l w6 fun p11 =>
 ldS S p11.1 (p11.2 + 1) fun v12 =>
 ifO (v12.length ≤ pow46) <|
 newA S (.cells (ofBytes v12)) fun b13 S14 =>
 some (.tup [(.sl (some (.rw b13, 0)) v12.length (.op 1 v12.length)), (.int .i64 0)], S14)) (
 l1_1_0_1_0 w0 w1 w4a w4l w4c w5 (IntKind.wrap .i64 (w6 - 1)) S)) (
 j1_1_1 w0 w1 S)

def b59_j1_1_1 (call : CallA) (n : Nat)   (w0 : Option Pos) (w1 : Int) (S : AS) : Option (AV × AS) :=
 gO w0 fun p15 =>
 ldL S p15.1 p15.2 fun v16a v16l v16c =>
 ixSl 1 v16a v16l w1 fun p17 =>
 ldS S p17.1 p17.2 fun v18 =>
 ifO (v18.length ≤ pow46) <|
 newA S (.cells (ofBytes v18)) fun b19 S20 =>
 some (.tup [(.sl (some (.rw b19, 0)) v18.length (.op 1 v18.length)), (.int .i64 0)], S20)

def b59_entry (call : CallA) (n : Nat)  (l1_1_0_1_0 : Option Pos → Int → Option Pos → Nat → Cap → Int → Int → AS → Option (AV × AS)) (x0 : Option Pos) (x1 : Int) (S : AS) : Option (AV × AS) :=
 cond (decide (x1 < 0)) (
 some (.tup [(.sl none 0 (.ex 0)), (.int .i64 2)], S)) (
 gO x0 fun p1 =>
 ldL S p1.1 p1.2 fun v2a v2l v2c =>
 cond (decide (x1 ≥ ((v2l : Nat) : Int))) (
 some (.tup [(.sl none 0 (.ex 0)), (.int .i64 2)], S)) (
 gO x0 fun p3 =>
 ldL S p3.1 (p3.2 + 1) fun v4a v4l v4c =>
 l1_1_0_1_0 x0 x1 none 0 (.ex 0) 0 (IntKind.wrap .i64 (((v4l : Nat) : Int) - 1)) S))

def r59_l1_1_0_1_0 (call : CallA) (n : Nat)  (m : Nat) (w0 : Option Pos) (w1 : Int) (w4a : Option Pos) (w4l : Nat) (w4c : Cap) (w5 : Int) (w6 : Int) (S : AS) : Option (AV × AS) := loopN (evC E call n 59 (E.at 59 [1, 1, 0, 1, 0, 0]) 0) [0, 1, 4, 5, 6] m [(0, (.ptr w0)), (1, (.int .i64 w1)), (4, (.sl w4a w4l w4c)), (5, (.int .i64 w5)), (6, (.int .i64 w6))] S (kBlk 0 (kSeq E call n 59 (E.at 59 [1, 1, 1]) 0 (retK E (E.fn 59))))
def r59_j1_1_1 (call : CallA) (n : Nat)  (w0 : Option Pos) (w1 : Int) (S : AS) : Option (AV × AS) := evC E call n 59 (E.at 59 [1, 1, 1]) 0 [(0, (.ptr w0)), (1, (.int .i64 w1))] S (retK E (E.fn 59))
theorem a59_l1_1_0_1_0 (call : CallA) (n : Nat)  (m : Nat) (w0 : Option Pos) (w1 : Int) (w4a : Option Pos) (w4l : Nat) (w4c : Cap) (w5 : Int) (w6 : Int) (S : AS) : r59_l1_1_0_1_0 call n  (m + 1) w0 w1 w4a w4l w4c w5 w6 S = b59_l1_1_0_1_0 call n (r59_l1_1_0_1_0 call n  m) (r59_j1_1_1 call n ) w0 w1 w4a w4l w4c w5 w6 S := by kernel_rfl
theorem a59_j1_1_1 (call : CallA) (n : Nat)  (w0 : Option Pos) (w1 : Int) (S : AS) : r59_j1_1_1 call n  w0 w1 S = b59_j1_1_1 call n  w0 w1 S := by kernel_rfl
theorem a59_entry (call : CallA) (n : Nat) (x0 : Option Pos) (x1 : Int) (S : AS) : evC E call n 59 (E.at 59 []) 0 (enumT 0 [(.ptr x0), (.int .i64 x1)]) S (retK E (E.fn 59)) = b59_entry call n (r59_l1_1_0_1_0 call n  n) x0 x1 S := by kernel_rfl
def J59_j1_1_1 (call : CallA) (n : Nat)  (w0 : Option Pos) (w1 : Int) (S : AS) : Option (AV × AS) := b59_j1_1_1 call n  w0 w1 S
theorem h59_j1_1_1 (call : CallA) (n : Nat)  : r59_j1_1_1 call n  = J59_j1_1_1 call n  := by
  funext w0 w1 S
  rw [J59_j1_1_1, a59_j1_1_1]
def J59_l1_1_0_1_0 (call : CallA) (n : Nat)  (m : Nat) : Option Pos → Int → Option Pos → Nat → Cap → Int → Int → AS → Option (AV × AS) := Nat.rec (motive := fun _ => Option Pos → Int → Option Pos → Nat → Cap → Int → Int → AS → Option (AV × AS)) (fun _ _ _ _ _ _ _ _ => none) (fun mK ih w0 w1 w4a w4l w4c w5 w6 S => b59_l1_1_0_1_0 call n ih (J59_j1_1_1 call n ) w0 w1 w4a w4l w4c w5 w6 S) m
theorem J59_l1_1_0_1_0_succ (call : CallA) (n : Nat)  (m : Nat) (w0 : Option Pos) (w1 : Int) (w4a : Option Pos) (w4l : Nat) (w4c : Cap) (w5 : Int) (w6 : Int) (S : AS) : J59_l1_1_0_1_0 call n  (m + 1) w0 w1 w4a w4l w4c w5 w6 S = b59_l1_1_0_1_0 call n (J59_l1_1_0_1_0 call n  m) (J59_j1_1_1 call n ) w0 w1 w4a w4l w4c w5 w6 S := rfl
theorem h59_l1_1_0_1_0 (call : CallA) (n : Nat)  (m : Nat) : r59_l1_1_0_1_0 call n  m = J59_l1_1_0_1_0 call n  m := by
  induction m with
  | zero => rfl
  | succ m ih =>
    funext w0 w1 w4a w4l w4c w5 w6 S
    rw [J59_l1_1_0_1_0_succ, a59_l1_1_0_1_0, h59_j1_1_1 call n , ih]
def J59 (call : CallA) (n : Nat) (x0 : Option Pos) (x1 : Int) (S : AS) : Option (AV × AS) := b59_entry call n (J59_l1_1_0_1_0 call n  n) x0 x1 S
theorem run59 (o : Orc) (n : Nat) (args : List AV) (S : AS) (ho : o 59 args = none) : evF E o (n + 1) (.fn 59) args S = evC E (evF E o n) n 59 (E.at 59 []) 0 (enumT 0 args) S (retK E (E.fn 59)) := by
  rw [evF, ho]; kernel_rfl
theorem J59_eq (call : CallA) (n : Nat) (x0 : Option Pos) (x1 : Int) (S : AS) : evC E call n 59 (E.at 59 []) 0 (enumT 0 [(.ptr x0), (.int .i64 x1)]) S (retK E (E.fn 59)) = J59 call n x0 x1 S := by
  rw [J59, a59_entry, h59_l1_1_0_1_0 call n  n]
theorem F59 {o : Orc} (n : Nat) (x0 : Option Pos) (x1 : Int) (S : AS) (ho : ∀ args, o 59 args = none) : evF E o (n + 1) (.fn 59) [(.ptr x0), (.int .i64 x1)] S = J59 (evF E o n) n x0 x1 S := (run59 o n [(.ptr x0), (.int .i64 x1)] S (ho _)).trans (J59_eq _ _ x0 x1 S)
def b60_entry (call : CallA) (n : Nat)   (x0a : Option Pos) (x0l : Nat) (x0c : Cap) (S : AS) : Option (AV × AS) :=
 newA S (.cells [(.int .u64 0), (.int .u64 0), (.int .u64 0), (.int .u64 0), (.int .u64 0), (.int .u64 0)]) fun b1 S2 =>
 cond (((x0l : Nat) : Int) != 384) (
 S2.stn (.rw b1) 0 [(.int .u64 0), (.int .u64 0), (.int .u64 0), (.int .u64 0), (.int .u64 0), (.int .u64 0)] fun S3 =>
 S3.ldn (.rw b1) 0 6 fun g4 =>
 some (.tup [(.agg g4), (.int .i64 81)], S3)) (
 callI .u64 call 73 [(.sl x0a x0l x0c), (.int .i64 4), (.int .i64 8)] S2 fun v6 S5 =>
 callI .u64 call 73 [(.sl x0a x0l x0c), (.int .i64 12), (.int .i64 8)] S5 fun v8 S7 =>
 callI .u64 call 73 [(.sl x0a x0l x0c), (.int .i64 20), (.int .i64 8)] S7 fun v10 S9 =>
 callI .u64 call 73 [(.sl x0a x0l x0c), (.int .i64 28), (.int .i64 8)] S9 fun v12 S11 =>
 callI .u64 call 73 [(.sl x0a x0l x0c), (.int .i64 36), (.int .i64 8)] S11 fun v14 S13 =>
 callI .u64 call 73 [(.sl x0a x0l x0c), (.int .i64 44), (.int .i64 8)] S13 fun v16 S15 =>
 newA S15 (.cells [(.int .u64 0), (.int .u64 0), (.int .u64 0), (.int .u64 0), (.int .u64 0), (.int .u64 0)]) fun b17 S18 =>
 S18.stn (.rw b17) 0 [(.int .u64 v6), (.int .u64 v8), (.int .u64 v10), (.int .u64 v12), (.int .u64 v14), (.int .u64 v16)] fun S19 =>
 S19.ldn (.rw b17) 0 6 fun g20 =>
 callT call 45 [(.agg g20)] S19 fun v22 S21 =>
 atL v22 0 fun v23a v23l v23c =>
 atI .i64 v22 1 fun v24 =>
 cond (v24 != 0) (
 S21.stn (.rw b1) 0 [(.int .u64 0), (.int .u64 0), (.int .u64 0), (.int .u64 0), (.int .u64 0), (.int .u64 0)] fun S25 =>
 S25.ldn (.rw b1) 0 6 fun g26 =>
 some (.tup [(.agg g26), (.int .i64 81)], S25)) (
 bytesStr S21 v23a v23l fun s27 =>
 bytesStr S21 x0a x0l fun s28 =>
 cond (!(s27 == s28)) (
 S21.stn (.rw b1) 0 [(.int .u64 0), (.int .u64 0), (.int .u64 0), (.int .u64 0), (.int .u64 0), (.int .u64 0)] fun S29 =>
 S29.ldn (.rw b1) 0 6 fun g30 =>
 some (.tup [(.agg g30), (.int .i64 81)], S29)) (
 S21.ldn (.rw b17) 0 6 fun g31 =>
 ifO (g31.length = 6) <|
 S21.stn (.rw b1) 0 g31 fun S32 =>
 S32.ldn (.rw b1) 0 6 fun g33 =>
 some (.tup [(.agg g33), (.int .i64 0)], S32))))

theorem a60_entry (call : CallA) (n : Nat) (x0a : Option Pos) (x0l : Nat) (x0c : Cap) (S : AS) : evC E call n 60 (E.at 60 []) 0 (enumT 0 [(.sl x0a x0l x0c)]) S (retK E (E.fn 60)) = b60_entry call n  x0a x0l x0c S := by kernel_rfl
def J60 (call : CallA) (n : Nat) (x0a : Option Pos) (x0l : Nat) (x0c : Cap) (S : AS) : Option (AV × AS) := b60_entry call n  x0a x0l x0c S
theorem run60 (o : Orc) (n : Nat) (args : List AV) (S : AS) (ho : o 60 args = none) : evF E o (n + 1) (.fn 60) args S = evC E (evF E o n) n 60 (E.at 60 []) 0 (enumT 0 args) S (retK E (E.fn 60)) := by
  rw [evF, ho]; kernel_rfl
theorem J60_eq (call : CallA) (n : Nat) (x0a : Option Pos) (x0l : Nat) (x0c : Cap) (S : AS) : evC E call n 60 (E.at 60 []) 0 (enumT 0 [(.sl x0a x0l x0c)]) S (retK E (E.fn 60)) = J60 call n x0a x0l x0c S := by
  rw [J60, a60_entry]
theorem F60 {o : Orc} (n : Nat) (x0a : Option Pos) (x0l : Nat) (x0c : Cap) (S : AS) (ho : ∀ args, o 60 args = none) : evF E o (n + 1) (.fn 60) [(.sl x0a x0l x0c)] S = J60 (evF E o n) n x0a x0l x0c S := (run60 o n [(.sl x0a x0l x0c)] S (ho _)).trans (J60_eq _ _ x0a x0l x0c S)
def b63_l1_1_0_1_0 (call : CallA) (n : Nat)  (l1_1_0_1_0 : Option Pos → Int → Int → AS → Option (AV × AS)) (w0 : Option Pos) (w3 : Int) (w4 : Int) (S : AS) : Option (AV × AS) :=
 gO w0 fun p1 =>
 ldL S p1.1 (p1.2 + 8) fun v2a v2l v2c =>
 cond (decide (w4 < ((v2l : Nat) : Int))) (
 gO w0 fun p3 =>
 ldL S p3.1 (p3.2 + 8) fun v4a v4l v4c =>
 ixSl 1 v4a v4l w4 fun p5 =>
 ldI .i64 S p5.1 p5.2 fun v6 =>
 l1_1_0_1_0 w0 (IntKind.wrap .i64 (w3 + v6)) (IntKind.wrap .i64 (w4 + 1)) S) (
 some ((.int .i64 w3), S))

def b63_entry (call : CallA) (n : Nat)  (l1_1_0_1_0 : Option Pos → Int → Int → AS → Option (AV × AS)) (x0 : Option Pos) (S : AS) : Option (AV × AS) :=
 l1_1_0_1_0 x0 0 0 S

def r63_l1_1_0_1_0 (call : CallA) (n : Nat)  (m : Nat) (w0 : Option Pos) (w3 : Int) (w4 : Int) (S : AS) : Option (AV × AS) := loopN (evC E call n 63 (E.at 63 [1, 1, 0, 1, 0, 0]) 0) [0, 3, 4] m [(0, (.ptr w0)), (3, (.int .i64 w3)), (4, (.int .i64 w4))] S (kBlk 0 (kSeq E call n 63 (E.at 63 [1, 1, 1]) 0 (retK E (E.fn 63))))
theorem a63_l1_1_0_1_0 (call : CallA) (n : Nat)  (m : Nat) (w0 : Option Pos) (w3 : Int) (w4 : Int) (S : AS) : r63_l1_1_0_1_0 call n  (m + 1) w0 w3 w4 S = b63_l1_1_0_1_0 call n (r63_l1_1_0_1_0 call n  m) w0 w3 w4 S := by kernel_rfl
theorem a63_entry (call : CallA) (n : Nat) (x0 : Option Pos) (S : AS) : evC E call n 63 (E.at 63 []) 0 (enumT 0 [(.ptr x0)]) S (retK E (E.fn 63)) = b63_entry call n (r63_l1_1_0_1_0 call n  n) x0 S := by kernel_rfl
def J63_l1_1_0_1_0 (call : CallA) (n : Nat)  (m : Nat) : Option Pos → Int → Int → AS → Option (AV × AS) := Nat.rec (motive := fun _ => Option Pos → Int → Int → AS → Option (AV × AS)) (fun _ _ _ _ => none) (fun mK ih w0 w3 w4 S => b63_l1_1_0_1_0 call n ih w0 w3 w4 S) m
theorem J63_l1_1_0_1_0_succ (call : CallA) (n : Nat)  (m : Nat) (w0 : Option Pos) (w3 : Int) (w4 : Int) (S : AS) : J63_l1_1_0_1_0 call n  (m + 1) w0 w3 w4 S = b63_l1_1_0_1_0 call n (J63_l1_1_0_1_0 call n  m) w0 w3 w4 S := rfl
theorem h63_l1_1_0_1_0 (call : CallA) (n : Nat)  (m : Nat) : r63_l1_1_0_1_0 call n  m = J63_l1_1_0_1_0 call n  m := by
  induction m with
  | zero => rfl
  | succ m ih =>
    funext w0 w3 w4 S
    rw [J63_l1_1_0_1_0_succ, a63_l1_1_0_1_0, ih]
def J63 (call : CallA) (n : Nat) (x0 : Option Pos) (S : AS) : Option (AV × AS) := b63_entry call n (J63_l1_1_0_1_0 call n  n) x0 S
theorem run63 (o : Orc) (n : Nat) (args : List AV) (S : AS) (ho : o 63 args = none) : evF E o (n + 1) (.fn 63) args S = evC E (evF E o n) n 63 (E.at 63 []) 0 (enumT 0 args) S (retK E (E.fn 63)) := by
  rw [evF, ho]; kernel_rfl
theorem J63_eq (call : CallA) (n : Nat) (x0 : Option Pos) (S : AS) : evC E call n 63 (E.at 63 []) 0 (enumT 0 [(.ptr x0)]) S (retK E (E.fn 63)) = J63 call n x0 S := by
  rw [J63, a63_entry, h63_l1_1_0_1_0 call n  n]
theorem F63 {o : Orc} (n : Nat) (x0 : Option Pos) (S : AS) (ho : ∀ args, o 63 args = none) : evF E o (n + 1) (.fn 63) [(.ptr x0)] S = J63 (evF E o n) n x0 S := (run63 o n [(.ptr x0)] S (ho _)).trans (J63_eq _ _ x0 S)
def b64_entry (call : CallA) (n : Nat)   (x0 : Int) (S : AS) : Option (AV × AS) :=
 cond (decide (x0 < 1)) (
 some ((.int .i64 0), S)) (
 cond (decide (x0 > 64)) (
 some ((.int .i64 0), S)) (
 some ((.int .i64 (IntKind.wrap .i64 (Int.tdiv (IntKind.wrap .i64 ((IntKind.wrap .i64 ((IntKind.wrap .i64 (4 + (IntKind.wrap .i64 (388 * x0)))) + 336)) - 1)) 336))), S)))

theorem a64_entry (call : CallA) (n : Nat) (x0 : Int) (S : AS) : evC E call n 64 (E.at 64 []) 0 (enumT 0 [(.int .i64 x0)]) S (retK E (E.fn 64)) = b64_entry call n  x0 S := by kernel_rfl
def J64 (call : CallA) (n : Nat) (x0 : Int) (S : AS) : Option (AV × AS) := b64_entry call n  x0 S
theorem run64 (o : Orc) (n : Nat) (args : List AV) (S : AS) (ho : o 64 args = none) : evF E o (n + 1) (.fn 64) args S = evC E (evF E o n) n 64 (E.at 64 []) 0 (enumT 0 args) S (retK E (E.fn 64)) := by
  rw [evF, ho]; kernel_rfl
theorem J64_eq (call : CallA) (n : Nat) (x0 : Int) (S : AS) : evC E call n 64 (E.at 64 []) 0 (enumT 0 [(.int .i64 x0)]) S (retK E (E.fn 64)) = J64 call n x0 S := by
  rw [J64, a64_entry]
theorem F64 {o : Orc} (n : Nat) (x0 : Int) (S : AS) (ho : ∀ args, o 64 args = none) : evF E o (n + 1) (.fn 64) [(.int .i64 x0)] S = J64 (evF E o n) n x0 S := (run64 o n [(.int .i64 x0)] S (ho _)).trans (J64_eq _ _ x0 S)
def b65_entry (call : CallA) (n : Nat)   (x0 : Option Pos) (S : AS) : Option (AV × AS) :=
 gO x0 fun p1 =>
 ldI .u64 S p1.1 (p1.2 + 6) fun v2 =>
 callI .i64 call 63 [(.ptr x0)] S fun v4 S3 =>
 ldI .u64 S3 p1.1 (p1.2 + 6) fun v5 =>
 cond (AV.beq (.int .u64 v5) (.int .u64 v2)) (
 some ((.int .u64 (IntKind.wrap .u64 (v2 + (IntKind.wrap .u64 v4)))), S3)) none

theorem a65_entry (call : CallA) (n : Nat) (x0 : Option Pos) (S : AS) : evC E call n 65 (E.at 65 []) 0 (enumT 0 [(.ptr x0)]) S (retK E (E.fn 65)) = b65_entry call n  x0 S := by kernel_rfl
def J65 (call : CallA) (n : Nat) (x0 : Option Pos) (S : AS) : Option (AV × AS) := b65_entry call n  x0 S
theorem run65 (o : Orc) (n : Nat) (args : List AV) (S : AS) (ho : o 65 args = none) : evF E o (n + 1) (.fn 65) args S = evC E (evF E o n) n 65 (E.at 65 []) 0 (enumT 0 args) S (retK E (E.fn 65)) := by
  rw [evF, ho]; kernel_rfl
theorem J65_eq (call : CallA) (n : Nat) (x0 : Option Pos) (S : AS) : evC E call n 65 (E.at 65 []) 0 (enumT 0 [(.ptr x0)]) S (retK E (E.fn 65)) = J65 call n x0 S := by
  rw [J65, a65_entry]
theorem F65 {o : Orc} (n : Nat) (x0 : Option Pos) (S : AS) (ho : ∀ args, o 65 args = none) : evF E o (n + 1) (.fn 65) [(.ptr x0)] S = J65 (evF E o n) n x0 S := (run65 o n [(.ptr x0)] S (ho _)).trans (J65_eq _ _ x0 S)
end
end Go.Jn
