/- Plain readings of the functions, and that they are what the evaluator does: by program. -/
import Derived.Test.YteakdhikjddogaaDoorGrRes
import Derived.Test.YteakdhikjddogaaDoorENV
import Derived.KernelRfl
set_option maxRecDepth 100000
set_option linter.unusedVariables false
namespace Go.Ct
open Go.Gr
noncomputable section
def b40_l1_1_1_1_0_1_0 (call : CallA) (n : Nat)  (l1_1_1_1_0_1_0 : Option Pos → Option Pos → Option Pos → Nat → Cap → Int → AS → Option (AV × AS)) (j1_1_1_1_1 : Option Pos → Option Pos → Option Pos → Nat → Cap → AS → Option (AV × AS)) (w0 : Option Pos) (w3 : Option Pos) (w7a : Option Pos) (w7l : Nat) (w7c : Cap) (w8 : Int) (S : AS) : Option (AV × AS) :=
 gO w0 fun p6 =>
 ldL S p6.1 p6.2 fun v7a v7l v7c =>
 cond (decide (w8 < ((v7l : Nat) : Int))) (
 gO w0 fun p8 =>
 ldL S p8.1 p8.2 fun v9a v9l v9c =>
 ixSl 4 v9a v9l w8 fun p10 =>
 ldI .u64 S p10.1 (p10.2 + 1) fun v11 =>
 newA S (.cells [(.int .u64 v11)]) fun b12 S13 =>
 appendA 1 8 S13 w7a w7l w7c 1 (firstA S13 1 1 (.sl (some (.rw b12, 0)) 1 (.ex 1))) fun v14a v14l v14c S15 =>
 l1_1_1_1_0_1_0 w0 w3 v14a v14l v14c (IntKind.wrap .i64 (w8 + 1)) S15) (
 j1_1_1_1_1 w0 w3 w7a w7l w7c S)

def b40_j1_1_1_1_1 (call : CallA) (n : Nat)  (l1_1_1_1_1_1_1_1_0_1_0 : Option Pos → Option Pos → Nat → Cap → Option Pos → Nat → Cap → Option Pos → Nat → Cap → Int → AS → Option (AV × AS)) (w0 : Option Pos) (w3 : Option Pos) (w7a : Option Pos) (w7l : Nat) (w7c : Cap) (S : AS) : Option (AV × AS) :=
 gO w3 fun p16 =>
 S.ldn p16.1 p16.2 2 fun g17 =>
 callL call 14 [(.agg g17), (.sl w7a w7l w7c)] S fun v19a v19l v19c S18 =>
 l1_1_1_1_1_1_1_1_0_1_0 w0 v19a v19l v19c none 0 (.ex 0) none 0 (.ex 0) 0 S18

def b40_l1_1_1_1_1_1_1_1_0_1_0 (call : CallA) (n : Nat)  (j1_1_1_1_1_1_1_1_0_1_0_0_1_1 : Option Pos → Option Pos → Nat → Cap → Option Pos → Nat → Cap → Option Pos → Nat → Cap → Int → AS → Option (AV × AS)) (j1_1_1_1_1_1_1_1_1 : Option Pos → Option Pos → Nat → Cap → Option Pos → Nat → Cap → AS → Option (AV × AS)) (w0 : Option Pos) (w9a : Option Pos) (w9l : Nat) (w9c : Cap) (w10a : Option Pos) (w10l : Nat) (w10c : Cap) (w11a : Option Pos) (w11l : Nat) (w11c : Cap) (w12 : Int) (S : AS) : Option (AV × AS) :=
 gO w0 fun p20 =>
 ldL S p20.1 p20.2 fun v21a v21l v21c =>
 cond (decide (w12 < ((v21l : Nat) : Int))) (
 ixSl 1 w9a w9l w12 fun p22 =>
 ldB S p22.1 p22.2 fun v23 =>
 cond v23 (
 gO w0 fun p24 =>
 ldL S p24.1 p24.2 fun v25a v25l v25c =>
 ixSl 4 v25a v25l w12 fun p26 =>
 S.ldn p26.1 p26.2 4 fun g27 =>
 ifO (g27.length = 4) <|
 ifO (0 + g27.length ≤ ([(.int .u32 0), (.int .u64 0), (.str ([])), (.int .u64 0)] : List AV).length) <|
 newA S (.cells (splice [(.int .u32 0), (.int .u64 0), (.str ([])), (.int .u64 0)] 0 g27)) fun b28 S29 =>
 appendA 4 40 S29 w11a w11l w11c 1 (firstA S29 4 1 (.sl (some (.rw b28, 0)) 1 (.ex 1))) fun v31a v31l v31c S32 =>
 j1_1_1_1_1_1_1_1_0_1_0_0_1_1 w0 w9a w9l w9c w10a w10l w10c v31a v31l v31c w12 S32) (
 gO w0 fun p33 =>
 ldL S p33.1 p33.2 fun v34a v34l v34c =>
 ixSl 4 v34a v34l w12 fun p35 =>
 ldI .u32 S p35.1 p35.2 fun v36 =>
 newA S (.cells [(.int .u32 v36)]) fun b37 S38 =>
 appendA 1 4 S38 w10a w10l w10c 1 (firstA S38 1 1 (.sl (some (.rw b37, 0)) 1 (.ex 1))) fun v39a v39l v39c S40 =>
 j1_1_1_1_1_1_1_1_0_1_0_0_1_1 w0 w9a w9l w9c v39a v39l v39c w11a w11l w11c w12 S40)) (
 j1_1_1_1_1_1_1_1_1 w0 w10a w10l w10c w11a w11l w11c S)

def b40_j1_1_1_1_1_1_1_1_0_1_0_0_1_1 (call : CallA) (n : Nat)  (l1_1_1_1_1_1_1_1_0_1_0 : Option Pos → Option Pos → Nat → Cap → Option Pos → Nat → Cap → Option Pos → Nat → Cap → Int → AS → Option (AV × AS)) (w0 : Option Pos) (w9a : Option Pos) (w9l : Nat) (w9c : Cap) (w10a : Option Pos) (w10l : Nat) (w10c : Cap) (w11a : Option Pos) (w11l : Nat) (w11c : Cap) (w12 : Int) (S : AS) : Option (AV × AS) :=
 l1_1_1_1_1_1_1_1_0_1_0 w0 w9a w9l w9c w10a w10l w10c w11a w11l w11c (IntKind.wrap .i64 (w12 + 1)) S

def b40_j1_1_1_1_1_1_1_1_1 (call : CallA) (n : Nat)   (w0 : Option Pos) (w10a : Option Pos) (w10l : Nat) (w10c : Cap) (w11a : Option Pos) (w11l : Nat) (w11c : Cap) (S : AS) : Option (AV × AS) :=
 gO w0 fun p41 =>
 S.stn p41.1 p41.2 [(.sl w11a w11l w11c)] fun S42 =>
 some (.tup [(.sl w10a w10l w10c), (.int .i64 0)], S42)

def b40_entry (call : CallA) (n : Nat)  (l1_1_1_1_0_1_0 : Option Pos → Option Pos → Option Pos → Nat → Cap → Int → AS → Option (AV × AS)) (x0 : Option Pos) (x1 : List AV) (S : AS) : Option (AV × AS) :=
 ifO (x1.length = 2) <|
 newA S (.cells x1) fun b1 S2 =>
 S2.ldn (.rw b1) 0 2 fun g3 =>
 callI .i64 call 17 [(.agg g3)] S2 fun v5 S4 =>
 cond (v5 != 0) (
 some (.tup [(.sl none 0 (.ex 0)), (.int .i64 v5)], S4)) (
 l1_1_1_1_0_1_0 x0 (some ((.rw b1), 0)) none 0 (.ex 0) 0 S4)

def r40_l1_1_1_1_0_1_0 (call : CallA) (n : Nat)  (m : Nat) (w0 : Option Pos) (w3 : Option Pos) (w7a : Option Pos) (w7l : Nat) (w7c : Cap) (w8 : Int) (S : AS) : Option (AV × AS) := loopN (evC E call n 40 (E.at 40 [1, 1, 1, 1, 0, 1, 0, 0]) 0) [0, 3, 7, 8] m [(0, (.ptr w0)), (3, (.ptr w3)), (7, (.sl w7a w7l w7c)), (8, (.int .i64 w8))] S (kBlk 0 (kSeq E call n 40 (E.at 40 [1, 1, 1, 1, 1]) 0 (retK E (E.fn 40))))
def r40_j1_1_1_1_1 (call : CallA) (n : Nat)  (w0 : Option Pos) (w3 : Option Pos) (w7a : Option Pos) (w7l : Nat) (w7c : Cap) (S : AS) : Option (AV × AS) := evC E call n 40 (E.at 40 [1, 1, 1, 1, 1]) 0 [(0, (.ptr w0)), (3, (.ptr w3)), (7, (.sl w7a w7l w7c))] S (retK E (E.fn 40))
def r40_l1_1_1_1_1_1_1_1_0_1_0 (call : CallA) (n : Nat)  (m : Nat) (w0 : Option Pos) (w9a : Option Pos) (w9l : Nat) (w9c : Cap) (w10a : Option Pos) (w10l : Nat) (w10c : Cap) (w11a : Option Pos) (w11l : Nat) (w11c : Cap) (w12 : Int) (S : AS) : Option (AV × AS) := loopN (evC E call n 40 (E.at 40 [1, 1, 1, 1, 1, 1, 1, 1, 0, 1, 0, 0]) 2) [0, 9, 10, 11, 12] m [(0, (.ptr w0)), (9, (.sl w9a w9l w9c)), (10, (.sl w10a w10l w10c)), (11, (.sl w11a w11l w11c)), (12, (.int .i64 w12))] S (kBlk 2 (kSeq E call n 40 (E.at 40 [1, 1, 1, 1, 1, 1, 1, 1, 1]) 0 (retK E (E.fn 40))))
def r40_j1_1_1_1_1_1_1_1_0_1_0_0_1_1 (call : CallA) (n : Nat) (m1_1_1_1_1_1_1_1_0_1_0 : Nat) (w0 : Option Pos) (w9a : Option Pos) (w9l : Nat) (w9c : Cap) (w10a : Option Pos) (w10l : Nat) (w10c : Cap) (w11a : Option Pos) (w11l : Nat) (w11c : Cap) (w12 : Int) (S : AS) : Option (AV × AS) := evC E call n 40 (E.at 40 [1, 1, 1, 1, 1, 1, 1, 1, 0, 1, 0, 0, 1, 1]) 2 [(0, (.ptr w0)), (9, (.sl w9a w9l w9c)), (10, (.sl w10a w10l w10c)), (11, (.sl w11a w11l w11c)), (12, (.int .i64 w12))] S (kLp (evC E call n 40 (E.at 40 [1, 1, 1, 1, 1, 1, 1, 1, 0, 1, 0, 0]) 2) [0, 9, 10, 11, 12] m1_1_1_1_1_1_1_1_0_1_0 (kBlk 2 (kSeq E call n 40 (E.at 40 [1, 1, 1, 1, 1, 1, 1, 1, 1]) 0 (retK E (E.fn 40)))))
def r40_j1_1_1_1_1_1_1_1_1 (call : CallA) (n : Nat)  (w0 : Option Pos) (w10a : Option Pos) (w10l : Nat) (w10c : Cap) (w11a : Option Pos) (w11l : Nat) (w11c : Cap) (S : AS) : Option (AV × AS) := evC E call n 40 (E.at 40 [1, 1, 1, 1, 1, 1, 1, 1, 1]) 0 [(0, (.ptr w0)), (10, (.sl w10a w10l w10c)), (11, (.sl w11a w11l w11c))] S (retK E (E.fn 40))
theorem a40_l1_1_1_1_0_1_0 (call : CallA) (n : Nat)  (m : Nat) (w0 : Option Pos) (w3 : Option Pos) (w7a : Option Pos) (w7l : Nat) (w7c : Cap) (w8 : Int) (S : AS) : r40_l1_1_1_1_0_1_0 call n  (m + 1) w0 w3 w7a w7l w7c w8 S = b40_l1_1_1_1_0_1_0 call n (r40_l1_1_1_1_0_1_0 call n  m) (r40_j1_1_1_1_1 call n ) w0 w3 w7a w7l w7c w8 S := by kernel_rfl
theorem a40_j1_1_1_1_1 (call : CallA) (n : Nat)  (w0 : Option Pos) (w3 : Option Pos) (w7a : Option Pos) (w7l : Nat) (w7c : Cap) (S : AS) : r40_j1_1_1_1_1 call n  w0 w3 w7a w7l w7c S = b40_j1_1_1_1_1 call n (r40_l1_1_1_1_1_1_1_1_0_1_0 call n  n) w0 w3 w7a w7l w7c S := by kernel_rfl
theorem a40_l1_1_1_1_1_1_1_1_0_1_0 (call : CallA) (n : Nat)  (m : Nat) (w0 : Option Pos) (w9a : Option Pos) (w9l : Nat) (w9c : Cap) (w10a : Option Pos) (w10l : Nat) (w10c : Cap) (w11a : Option Pos) (w11l : Nat) (w11c : Cap) (w12 : Int) (S : AS) : r40_l1_1_1_1_1_1_1_1_0_1_0 call n  (m + 1) w0 w9a w9l w9c w10a w10l w10c w11a w11l w11c w12 S = b40_l1_1_1_1_1_1_1_1_0_1_0 call n (r40_j1_1_1_1_1_1_1_1_0_1_0_0_1_1 call n m) (r40_j1_1_1_1_1_1_1_1_1 call n ) w0 w9a w9l w9c w10a w10l w10c w11a w11l w11c w12 S := by kernel_rfl
theorem a40_j1_1_1_1_1_1_1_1_0_1_0_0_1_1 (call : CallA) (n : Nat) (m1_1_1_1_1_1_1_1_0_1_0 : Nat) (w0 : Option Pos) (w9a : Option Pos) (w9l : Nat) (w9c : Cap) (w10a : Option Pos) (w10l : Nat) (w10c : Cap) (w11a : Option Pos) (w11l : Nat) (w11c : Cap) (w12 : Int) (S : AS) : r40_j1_1_1_1_1_1_1_1_0_1_0_0_1_1 call n m1_1_1_1_1_1_1_1_0_1_0 w0 w9a w9l w9c w10a w10l w10c w11a w11l w11c w12 S = b40_j1_1_1_1_1_1_1_1_0_1_0_0_1_1 call n (r40_l1_1_1_1_1_1_1_1_0_1_0 call n  m1_1_1_1_1_1_1_1_0_1_0) w0 w9a w9l w9c w10a w10l w10c w11a w11l w11c w12 S := by kernel_rfl
theorem a40_j1_1_1_1_1_1_1_1_1 (call : CallA) (n : Nat)  (w0 : Option Pos) (w10a : Option Pos) (w10l : Nat) (w10c : Cap) (w11a : Option Pos) (w11l : Nat) (w11c : Cap) (S : AS) : r40_j1_1_1_1_1_1_1_1_1 call n  w0 w10a w10l w10c w11a w11l w11c S = b40_j1_1_1_1_1_1_1_1_1 call n  w0 w10a w10l w10c w11a w11l w11c S := by kernel_rfl
theorem a40_entry (call : CallA) (n : Nat) (x0 : Option Pos) (x1 : List AV) (S : AS) : evC E call n 40 (E.at 40 []) 0 (enumT 0 [(.ptr x0), (.agg x1)]) S (retK E (E.fn 40)) = b40_entry call n (r40_l1_1_1_1_0_1_0 call n  n) x0 x1 S := by kernel_rfl
def J40_j1_1_1_1_1_1_1_1_0_1_0_0_1_1 (call : CallA) (n : Nat) (n1_1_1_1_1_1_1_1_0_1_0 : Option Pos → Option Pos → Nat → Cap → Option Pos → Nat → Cap → Option Pos → Nat → Cap → Int → AS → Option (AV × AS)) (w0 : Option Pos) (w9a : Option Pos) (w9l : Nat) (w9c : Cap) (w10a : Option Pos) (w10l : Nat) (w10c : Cap) (w11a : Option Pos) (w11l : Nat) (w11c : Cap) (w12 : Int) (S : AS) : Option (AV × AS) := b40_j1_1_1_1_1_1_1_1_0_1_0_0_1_1 call n n1_1_1_1_1_1_1_1_0_1_0 w0 w9a w9l w9c w10a w10l w10c w11a w11l w11c w12 S
theorem h40_j1_1_1_1_1_1_1_1_0_1_0_0_1_1 (call : CallA) (n : Nat) (m1_1_1_1_1_1_1_1_0_1_0 : Nat) : r40_j1_1_1_1_1_1_1_1_0_1_0_0_1_1 call n m1_1_1_1_1_1_1_1_0_1_0 = J40_j1_1_1_1_1_1_1_1_0_1_0_0_1_1 call n (r40_l1_1_1_1_1_1_1_1_0_1_0 call n  m1_1_1_1_1_1_1_1_0_1_0) := by
  funext w0 w9a w9l w9c w10a w10l w10c w11a w11l w11c w12 S
  rw [J40_j1_1_1_1_1_1_1_1_0_1_0_0_1_1, a40_j1_1_1_1_1_1_1_1_0_1_0_0_1_1]
def J40_j1_1_1_1_1_1_1_1_1 (call : CallA) (n : Nat)  (w0 : Option Pos) (w10a : Option Pos) (w10l : Nat) (w10c : Cap) (w11a : Option Pos) (w11l : Nat) (w11c : Cap) (S : AS) : Option (AV × AS) := b40_j1_1_1_1_1_1_1_1_1 call n  w0 w10a w10l w10c w11a w11l w11c S
theorem h40_j1_1_1_1_1_1_1_1_1 (call : CallA) (n : Nat)  : r40_j1_1_1_1_1_1_1_1_1 call n  = J40_j1_1_1_1_1_1_1_1_1 call n  := by
  funext w0 w10a w10l w10c w11a w11l w11c S
  rw [J40_j1_1_1_1_1_1_1_1_1, a40_j1_1_1_1_1_1_1_1_1]
def J40_l1_1_1_1_1_1_1_1_0_1_0 (call : CallA) (n : Nat)  (m : Nat) : Option Pos → Option Pos → Nat → Cap → Option Pos → Nat → Cap → Option Pos → Nat → Cap → Int → AS → Option (AV × AS) := Nat.rec (motive := fun _ => Option Pos → Option Pos → Nat → Cap → Option Pos → Nat → Cap → Option Pos → Nat → Cap → Int → AS → Option (AV × AS)) (fun _ _ _ _ _ _ _ _ _ _ _ _ => none) (fun mK ih w0 w9a w9l w9c w10a w10l w10c w11a w11l w11c w12 S => b40_l1_1_1_1_1_1_1_1_0_1_0 call n (J40_j1_1_1_1_1_1_1_1_0_1_0_0_1_1 call n ih) (J40_j1_1_1_1_1_1_1_1_1 call n ) w0 w9a w9l w9c w10a w10l w10c w11a w11l w11c w12 S) m
theorem J40_l1_1_1_1_1_1_1_1_0_1_0_succ (call : CallA) (n : Nat)  (m : Nat) (w0 : Option Pos) (w9a : Option Pos) (w9l : Nat) (w9c : Cap) (w10a : Option Pos) (w10l : Nat) (w10c : Cap) (w11a : Option Pos) (w11l : Nat) (w11c : Cap) (w12 : Int) (S : AS) : J40_l1_1_1_1_1_1_1_1_0_1_0 call n  (m + 1) w0 w9a w9l w9c w10a w10l w10c w11a w11l w11c w12 S = b40_l1_1_1_1_1_1_1_1_0_1_0 call n (J40_j1_1_1_1_1_1_1_1_0_1_0_0_1_1 call n (J40_l1_1_1_1_1_1_1_1_0_1_0 call n  m)) (J40_j1_1_1_1_1_1_1_1_1 call n ) w0 w9a w9l w9c w10a w10l w10c w11a w11l w11c w12 S := rfl
theorem h40_l1_1_1_1_1_1_1_1_0_1_0 (call : CallA) (n : Nat)  (m : Nat) : r40_l1_1_1_1_1_1_1_1_0_1_0 call n  m = J40_l1_1_1_1_1_1_1_1_0_1_0 call n  m := by
  induction m with
  | zero => rfl
  | succ m ih =>
    funext w0 w9a w9l w9c w10a w10l w10c w11a w11l w11c w12 S
    rw [J40_l1_1_1_1_1_1_1_1_0_1_0_succ, a40_l1_1_1_1_1_1_1_1_0_1_0, h40_j1_1_1_1_1_1_1_1_0_1_0_0_1_1 call n m, h40_j1_1_1_1_1_1_1_1_1 call n , ih]
def J40_j1_1_1_1_1 (call : CallA) (n : Nat)  (w0 : Option Pos) (w3 : Option Pos) (w7a : Option Pos) (w7l : Nat) (w7c : Cap) (S : AS) : Option (AV × AS) := b40_j1_1_1_1_1 call n (J40_l1_1_1_1_1_1_1_1_0_1_0 call n  n) w0 w3 w7a w7l w7c S
theorem h40_j1_1_1_1_1 (call : CallA) (n : Nat)  : r40_j1_1_1_1_1 call n  = J40_j1_1_1_1_1 call n  := by
  funext w0 w3 w7a w7l w7c S
  rw [J40_j1_1_1_1_1, a40_j1_1_1_1_1, h40_l1_1_1_1_1_1_1_1_0_1_0 call n  n]
def J40_l1_1_1_1_0_1_0 (call : CallA) (n : Nat)  (m : Nat) : Option Pos → Option Pos → Option Pos → Nat → Cap → Int → AS → Option (AV × AS) := Nat.rec (motive := fun _ => Option Pos → Option Pos → Option Pos → Nat → Cap → Int → AS → Option (AV × AS)) (fun _ _ _ _ _ _ _ => none) (fun mK ih w0 w3 w7a w7l w7c w8 S => b40_l1_1_1_1_0_1_0 call n ih (J40_j1_1_1_1_1 call n ) w0 w3 w7a w7l w7c w8 S) m
theorem J40_l1_1_1_1_0_1_0_succ (call : CallA) (n : Nat)  (m : Nat) (w0 : Option Pos) (w3 : Option Pos) (w7a : Option Pos) (w7l : Nat) (w7c : Cap) (w8 : Int) (S : AS) : J40_l1_1_1_1_0_1_0 call n  (m + 1) w0 w3 w7a w7l w7c w8 S = b40_l1_1_1_1_0_1_0 call n (J40_l1_1_1_1_0_1_0 call n  m) (J40_j1_1_1_1_1 call n ) w0 w3 w7a w7l w7c w8 S := rfl
theorem h40_l1_1_1_1_0_1_0 (call : CallA) (n : Nat)  (m : Nat) : r40_l1_1_1_1_0_1_0 call n  m = J40_l1_1_1_1_0_1_0 call n  m := by
  induction m with
  | zero => rfl
  | succ m ih =>
    funext w0 w3 w7a w7l w7c w8 S
    rw [J40_l1_1_1_1_0_1_0_succ, a40_l1_1_1_1_0_1_0, h40_j1_1_1_1_1 call n , ih]
def J40 (call : CallA) (n : Nat) (x0 : Option Pos) (x1 : List AV) (S : AS) : Option (AV × AS) := b40_entry call n (J40_l1_1_1_1_0_1_0 call n  n) x0 x1 S
theorem run40 (o : Orc) (n : Nat) (args : List AV) (S : AS) (ho : o 40 args = none) : evF E o (n + 1) (.fn 40) args S = evC E (evF E o n) n 40 (E.at 40 []) 0 (enumT 0 args) S (retK E (E.fn 40)) := by
  rw [evF, ho]; kernel_rfl
theorem J40_eq (call : CallA) (n : Nat) (x0 : Option Pos) (x1 : List AV) (S : AS) : evC E call n 40 (E.at 40 []) 0 (enumT 0 [(.ptr x0), (.agg x1)]) S (retK E (E.fn 40)) = J40 call n x0 x1 S := by
  rw [J40, a40_entry, h40_l1_1_1_1_0_1_0 call n  n]
theorem F40 {o : Orc} (n : Nat) (x0 : Option Pos) (x1 : List AV) (S : AS) (ho : ∀ args, o 40 args = none) : evF E o (n + 1) (.fn 40) [(.ptr x0), (.agg x1)] S = J40 (evF E o n) n x0 x1 S := (run40 o n [(.ptr x0), (.agg x1)] S (ho _)).trans (J40_eq _ _ x0 x1 S)
def b41_l1_1_0_1_0 (call : CallA) (n : Nat)  (l1_1_0_1_0 : Option Pos → Nat → Cap → Option Pos → Nat → Cap → Bool → Int → AS → Option (AV × AS)) (w0a : Option Pos) (w0l : Nat) (w0c : Cap) (w1a : Option Pos) (w1l : Nat) (w1c : Cap) (w4 : Bool) (w5 : Int) (S : AS) : Option (AV × AS) :=
 cond (decide (w5 < ((w0l : Nat) : Int))) (
 ixSl 1 w0a w0l w5 fun p1 =>
 ldI .u32 S p1.1 p1.2 fun v2 =>
 ixSl 1 w1a w1l w5 fun p3 =>
 ldI .u32 S p3.1 p3.2 fun v4 =>
 cond (v2 != v4) (
 some ((.bool false), S)) (
 l1_1_0_1_0 w0a w0l w0c w1a w1l w1c w4 (IntKind.wrap .i64 (w5 + 1)) S)) (
 some ((.bool true), S))

def b41_entry (call : CallA) (n : Nat)  (l1_1_0_1_0 : Option Pos → Nat → Cap → Option Pos → Nat → Cap → Bool → Int → AS → Option (AV × AS)) (x0a : Option Pos) (x0l : Nat) (x0c : Cap) (x1a : Option Pos) (x1l : Nat) (x1c : Cap) (S : AS) : Option (AV × AS) :=
 cond (((x0l : Nat) : Int) != ((x1l : Nat) : Int)) (
 some ((.bool false), S)) (
 l1_1_0_1_0 x0a x0l x0c x1a x1l x1c false 0 S)

def r41_l1_1_0_1_0 (call : CallA) (n : Nat)  (m : Nat) (w0a : Option Pos) (w0l : Nat) (w0c : Cap) (w1a : Option Pos) (w1l : Nat) (w1c : Cap) (w4 : Bool) (w5 : Int) (S : AS) : Option (AV × AS) := loopN (evC E call n 41 (E.at 41 [1, 1, 0, 1, 0, 0]) 0) [0, 1, 4, 5] m [(0, (.sl w0a w0l w0c)), (1, (.sl w1a w1l w1c)), (4, (.bool w4)), (5, (.int .i64 w5))] S (kBlk 0 (kSeq E call n 41 (E.at 41 [1, 1, 1]) 0 (retK E (E.fn 41))))
theorem a41_l1_1_0_1_0 (call : CallA) (n : Nat)  (m : Nat) (w0a : Option Pos) (w0l : Nat) (w0c : Cap) (w1a : Option Pos) (w1l : Nat) (w1c : Cap) (w4 : Bool) (w5 : Int) (S : AS) : r41_l1_1_0_1_0 call n  (m + 1) w0a w0l w0c w1a w1l w1c w4 w5 S = b41_l1_1_0_1_0 call n (r41_l1_1_0_1_0 call n  m) w0a w0l w0c w1a w1l w1c w4 w5 S := by kernel_rfl
theorem a41_entry (call : CallA) (n : Nat) (x0a : Option Pos) (x0l : Nat) (x0c : Cap) (x1a : Option Pos) (x1l : Nat) (x1c : Cap) (S : AS) : evC E call n 41 (E.at 41 []) 0 (enumT 0 [(.sl x0a x0l x0c), (.sl x1a x1l x1c)]) S (retK E (E.fn 41)) = b41_entry call n (r41_l1_1_0_1_0 call n  n) x0a x0l x0c x1a x1l x1c S := by kernel_rfl
def J41_l1_1_0_1_0 (call : CallA) (n : Nat)  (m : Nat) : Option Pos → Nat → Cap → Option Pos → Nat → Cap → Bool → Int → AS → Option (AV × AS) := Nat.rec (motive := fun _ => Option Pos → Nat → Cap → Option Pos → Nat → Cap → Bool → Int → AS → Option (AV × AS)) (fun _ _ _ _ _ _ _ _ _ => none) (fun mK ih w0a w0l w0c w1a w1l w1c w4 w5 S => b41_l1_1_0_1_0 call n ih w0a w0l w0c w1a w1l w1c w4 w5 S) m
theorem J41_l1_1_0_1_0_succ (call : CallA) (n : Nat)  (m : Nat) (w0a : Option Pos) (w0l : Nat) (w0c : Cap) (w1a : Option Pos) (w1l : Nat) (w1c : Cap) (w4 : Bool) (w5 : Int) (S : AS) : J41_l1_1_0_1_0 call n  (m + 1) w0a w0l w0c w1a w1l w1c w4 w5 S = b41_l1_1_0_1_0 call n (J41_l1_1_0_1_0 call n  m) w0a w0l w0c w1a w1l w1c w4 w5 S := rfl
theorem h41_l1_1_0_1_0 (call : CallA) (n : Nat)  (m : Nat) : r41_l1_1_0_1_0 call n  m = J41_l1_1_0_1_0 call n  m := by
  induction m with
  | zero => rfl
  | succ m ih =>
    funext w0a w0l w0c w1a w1l w1c w4 w5 S
    rw [J41_l1_1_0_1_0_succ, a41_l1_1_0_1_0, ih]
def J41 (call : CallA) (n : Nat) (x0a : Option Pos) (x0l : Nat) (x0c : Cap) (x1a : Option Pos) (x1l : Nat) (x1c : Cap) (S : AS) : Option (AV × AS) := b41_entry call n (J41_l1_1_0_1_0 call n  n) x0a x0l x0c x1a x1l x1c S
theorem run41 (o : Orc) (n : Nat) (args : List AV) (S : AS) (ho : o 41 args = none) : evF E o (n + 1) (.fn 41) args S = evC E (evF E o n) n 41 (E.at 41 []) 0 (enumT 0 args) S (retK E (E.fn 41)) := by
  rw [evF, ho]; kernel_rfl
theorem J41_eq (call : CallA) (n : Nat) (x0a : Option Pos) (x0l : Nat) (x0c : Cap) (x1a : Option Pos) (x1l : Nat) (x1c : Cap) (S : AS) : evC E call n 41 (E.at 41 []) 0 (enumT 0 [(.sl x0a x0l x0c), (.sl x1a x1l x1c)]) S (retK E (E.fn 41)) = J41 call n x0a x0l x0c x1a x1l x1c S := by
  rw [J41, a41_entry, h41_l1_1_0_1_0 call n  n]
theorem F41 {o : Orc} (n : Nat) (x0a : Option Pos) (x0l : Nat) (x0c : Cap) (x1a : Option Pos) (x1l : Nat) (x1c : Cap) (S : AS) (ho : ∀ args, o 41 args = none) : evF E o (n + 1) (.fn 41) [(.sl x0a x0l x0c), (.sl x1a x1l x1c)] S = J41 (evF E o n) n x0a x0l x0c x1a x1l x1c S := (run41 o n [(.sl x0a x0l x0c), (.sl x1a x1l x1c)] S (ho _)).trans (J41_eq _ _ x0a x0l x0c x1a x1l x1c S)
def b42_j1_1_1_1 (call : CallA) (n : Nat)  (l1_1_1_1_0_1_0 : Option Pos → Nat → Cap → Option Pos → Option Pos → Nat → Cap → AS → Option (AV × AS)) (w0a : Option Pos) (w0l : Nat) (w0c : Cap) (w4 : Option Pos) (S : AS) : Option (AV × AS) :=
 slSl 1 w0a w0l w0c (some 20) none none fun v16a v16l v16c =>
 l1_1_1_1_0_1_0 w0a w0l w0c w4 v16a v16l v16c S

def b42_l1_1_1_1_0_1_0 (call : CallA) (n : Nat)  (l1_1_1_1_0_1_0 : Option Pos → Nat → Cap → Option Pos → Option Pos → Nat → Cap → AS → Option (AV × AS)) (j1_1_1_1_1 : Option Pos → Nat → Cap → Option Pos → AS → Option (AV × AS)) (w0a : Option Pos) (w0l : Nat) (w0c : Cap) (w4 : Option Pos) (w5a : Option Pos) (w5l : Nat) (w5c : Cap) (S : AS) : Option (AV × AS) :=
 cond (decide (((w5l : Nat) : Int) > 0)) (
 drawA S 24 fun b17 S18 =>
 gO w4 fun p19 =>
 ldL S18 p19.1 p19.2 fun v20a v20l v20c =>
 slSl 1 w5a w5l w5c none (some 4) none fun v21a v21l v21c =>
 callI .u64 call 53 [(.sl v21a v21l v21c)] S18 fun v23 S22 =>
 ldL S22 p19.1 p19.2 fun v24a v24l v24c =>
 cond (AV.beq (.sl v24a v24l v24c) (.sl v20a v20l v20c)) (
 slSl 1 w5a w5l w5c (some 4) (some 12) none fun v25a v25l v25c =>
 callI .u64 call 53 [(.sl v25a v25l v25c)] S22 fun v27 S26 =>
 ldL S26 p19.1 p19.2 fun v28a v28l v28c =>
 cond (AV.beq (.sl v28a v28l v28c) (.sl v20a v20l v20c)) (
 slSl 1 w5a w5l w5c (some 12) (some 44) none fun v29a v29l v29c =>
 bytesStr S26 v29a v29l fun s30 =>
 bytesStr S22 v29a v29l fun s31 =>
 cond (AV.beq (.str s31) (.str s30)) (
 bytesStr S18 v29a v29l fun s32 =>
 cond (AV.beq (.str s32) (.str s30)) (
 slSl 1 w5a w5l w5c (some 44) (some 52) none fun v33a v33l v33c =>
 callI .u64 call 53 [(.sl v33a v33l v33c)] S26 fun v35 S34 =>
 bytesStr S34 v29a v29l fun s36 =>
 cond (AV.beq (.str s36) (.str s30)) (
 ldL S34 p19.1 p19.2 fun v37a v37l v37c =>
 cond (AV.beq (.sl v37a v37l v37c) (.sl v20a v20l v20c)) (
 layA S34 (b17 + 19) (.cells [(.int .u32 (IntKind.wrap .u32 v23)), (.int .u64 v27), (.str s30), (.int .u64 v35)]) fun S38 =>
 appendA 4 40 S38 v20a v20l v20c 1 (firstA S38 4 1 (.sl (some (.rw (b17 + 19), 0)) 1 (.ex 1))) fun v39a v39l v39c S40 =>
 gO w4 fun p41 =>
 S40.stn p41.1 p41.2 [(.sl v39a v39l v39c)] fun S42 =>
 slSl 1 w5a w5l w5c (some 52) none none fun v43a v43l v43c =>
 l1_1_1_1_0_1_0 w0a w0l w0c w4 v43a v43l v43c S42) none) none) none) none) none) none) (
 j1_1_1_1_1 w0a w0l w0c w4 S)

def b42_j1_1_1_1_1 (call : CallA) (n : Nat)   (w0a : Option Pos) (w0l : Nat) (w0c : Cap) (w4 : Option Pos) (S : AS) : Option (AV × AS) :=
 slSl 1 w0a w0l w0c (some 16) (some 20) none fun v44a v44l v44c =>
 callI .u64 call 53 [(.sl v44a v44l v44c)] S fun v46 S45 =>
 gO w4 fun p47 =>
 ldL S45 p47.1 p47.2 fun v48a v48l v48c =>
 ldL S p47.1 p47.2 fun v49a v49l v49c =>
 cond (AV.beq (.sl v49a v49l v49c) (.sl v48a v48l v48c)) (
 cond (AV.beq (.int .i64 ((v48l : Nat) : Int)) (.int .i64 ((v48l : Nat) : Int))) (
 cond (v46 != (IntKind.wrap .u64 ((v48l : Nat) : Int))) (
 some (.tup [(.ptr none), (.int .i64 181)], S45)) (
 callB call 54 [(.ptr w4)] S45 fun v51 S50 =>
 cond (!v51) (
 some (.tup [(.ptr none), (.int .i64 181)], S50)) (
 some (.tup [(.ptr w4), (.int .i64 0)], S50)))) none) none

def b42_entry (call : CallA) (n : Nat)  (j1_1_1_1 : Option Pos → Nat → Cap → Option Pos → AS → Option (AV × AS)) (x0a : Option Pos) (x0l : Nat) (x0c : Cap) (S : AS) : Option (AV × AS) :=
 cond (decide (((x0l : Nat) : Int) < 20)) (
 some (.tup [(.ptr none), (.int .i64 181)], S)) (
 cond ((Int.tmod (IntKind.wrap .i64 (((x0l : Nat) : Int) - 20)) 52) != 0) (
 some (.tup [(.ptr none), (.int .i64 181)], S)) (
 slSl 1 x0a x0l x0c none (some 4) none fun v1a v1l v1c =>
 bytesStr S v1a v1l fun s2 =>
 cond (!(s2 == ([67, 65, 84, 49]))) (
 some (.tup [(.ptr none), (.int .i64 181)], S)) (
 drawA S 10 fun b3 S4 =>
 slSl 1 x0a x0l x0c (some 4) (some 8) none fun v5a v5l v5c =>
 callI .u64 call 53 [(.sl v5a v5l v5c)] S4 fun v7 S6 =>
 slSl 1 x0a x0l x0c (some 8) (some 16) none fun v8a v8l v8c =>
 callI .u64 call 53 [(.sl v8a v8l v8c)] S6 fun v10 S9 =>
 layA S9 (b3 + 8) (.cells [(.sl none 0 (.ex 0)), (.int .u64 (IntKind.wrap .u64 (v7 - 1))), (.int .u64 v10)]) fun S11 =>
 slSl 1 x0a x0l x0c (some 4) (some 8) none fun v12a v12l v12c =>
 callI .u64 call 53 [(.sl v12a v12l v12c)] S11 fun v14 S13 =>
 cond (v14 == 0) (
 S13.stn (.rw (b3 + 8)) 1 [(.int .u64 4294967295)] fun S15 =>
 j1_1_1_1 x0a x0l x0c (some ((.rw (b3 + 8)), 0)) S15) (
 j1_1_1_1 x0a x0l x0c (some ((.rw (b3 + 8)), 0)) S13))))

def r42_j1_1_1_1 (call : CallA) (n : Nat)  (w0a : Option Pos) (w0l : Nat) (w0c : Cap) (w4 : Option Pos) (S : AS) : Option (AV × AS) := evC E call n 42 (E.at 42 [1, 1, 1, 1]) 0 [(0, (.sl w0a w0l w0c)), (4, (.ptr w4))] S (retK E (E.fn 42))
def r42_l1_1_1_1_0_1_0 (call : CallA) (n : Nat)  (m : Nat) (w0a : Option Pos) (w0l : Nat) (w0c : Cap) (w4 : Option Pos) (w5a : Option Pos) (w5l : Nat) (w5c : Cap) (S : AS) : Option (AV × AS) := loopN (evC E call n 42 (E.at 42 [1, 1, 1, 1, 0, 1, 0, 0]) 0) [0, 4, 5] m [(0, (.sl w0a w0l w0c)), (4, (.ptr w4)), (5, (.sl w5a w5l w5c))] S (kBlk 0 (kSeq E call n 42 (E.at 42 [1, 1, 1, 1, 1]) 0 (retK E (E.fn 42))))
def r42_j1_1_1_1_1 (call : CallA) (n : Nat)  (w0a : Option Pos) (w0l : Nat) (w0c : Cap) (w4 : Option Pos) (S : AS) : Option (AV × AS) := evC E call n 42 (E.at 42 [1, 1, 1, 1, 1]) 0 [(0, (.sl w0a w0l w0c)), (4, (.ptr w4))] S (retK E (E.fn 42))
theorem a42_j1_1_1_1 (call : CallA) (n : Nat)  (w0a : Option Pos) (w0l : Nat) (w0c : Cap) (w4 : Option Pos) (S : AS) : r42_j1_1_1_1 call n  w0a w0l w0c w4 S = b42_j1_1_1_1 call n (r42_l1_1_1_1_0_1_0 call n  n) w0a w0l w0c w4 S := by kernel_rfl
theorem a42_l1_1_1_1_0_1_0 (call : CallA) (n : Nat)  (m : Nat) (w0a : Option Pos) (w0l : Nat) (w0c : Cap) (w4 : Option Pos) (w5a : Option Pos) (w5l : Nat) (w5c : Cap) (S : AS) : r42_l1_1_1_1_0_1_0 call n  (m + 1) w0a w0l w0c w4 w5a w5l w5c S = b42_l1_1_1_1_0_1_0 call n (r42_l1_1_1_1_0_1_0 call n  m) (r42_j1_1_1_1_1 call n ) w0a w0l w0c w4 w5a w5l w5c S := by kernel_rfl
theorem a42_j1_1_1_1_1 (call : CallA) (n : Nat)  (w0a : Option Pos) (w0l : Nat) (w0c : Cap) (w4 : Option Pos) (S : AS) : r42_j1_1_1_1_1 call n  w0a w0l w0c w4 S = b42_j1_1_1_1_1 call n  w0a w0l w0c w4 S := by kernel_rfl
theorem a42_entry (call : CallA) (n : Nat) (x0a : Option Pos) (x0l : Nat) (x0c : Cap) (S : AS) : evC E call n 42 (E.at 42 []) 0 (enumT 0 [(.sl x0a x0l x0c)]) S (retK E (E.fn 42)) = b42_entry call n (r42_j1_1_1_1 call n ) x0a x0l x0c S := by kernel_rfl
def J42_j1_1_1_1_1 (call : CallA) (n : Nat)  (w0a : Option Pos) (w0l : Nat) (w0c : Cap) (w4 : Option Pos) (S : AS) : Option (AV × AS) := b42_j1_1_1_1_1 call n  w0a w0l w0c w4 S
theorem h42_j1_1_1_1_1 (call : CallA) (n : Nat)  : r42_j1_1_1_1_1 call n  = J42_j1_1_1_1_1 call n  := by
  funext w0a w0l w0c w4 S
  rw [J42_j1_1_1_1_1, a42_j1_1_1_1_1]
def J42_l1_1_1_1_0_1_0 (call : CallA) (n : Nat)  (m : Nat) : Option Pos → Nat → Cap → Option Pos → Option Pos → Nat → Cap → AS → Option (AV × AS) := Nat.rec (motive := fun _ => Option Pos → Nat → Cap → Option Pos → Option Pos → Nat → Cap → AS → Option (AV × AS)) (fun _ _ _ _ _ _ _ _ => none) (fun mK ih w0a w0l w0c w4 w5a w5l w5c S => b42_l1_1_1_1_0_1_0 call n ih (J42_j1_1_1_1_1 call n ) w0a w0l w0c w4 w5a w5l w5c S) m
theorem J42_l1_1_1_1_0_1_0_succ (call : CallA) (n : Nat)  (m : Nat) (w0a : Option Pos) (w0l : Nat) (w0c : Cap) (w4 : Option Pos) (w5a : Option Pos) (w5l : Nat) (w5c : Cap) (S : AS) : J42_l1_1_1_1_0_1_0 call n  (m + 1) w0a w0l w0c w4 w5a w5l w5c S = b42_l1_1_1_1_0_1_0 call n (J42_l1_1_1_1_0_1_0 call n  m) (J42_j1_1_1_1_1 call n ) w0a w0l w0c w4 w5a w5l w5c S := rfl
theorem h42_l1_1_1_1_0_1_0 (call : CallA) (n : Nat)  (m : Nat) : r42_l1_1_1_1_0_1_0 call n  m = J42_l1_1_1_1_0_1_0 call n  m := by
  induction m with
  | zero => rfl
  | succ m ih =>
    funext w0a w0l w0c w4 w5a w5l w5c S
    rw [J42_l1_1_1_1_0_1_0_succ, a42_l1_1_1_1_0_1_0, h42_j1_1_1_1_1 call n , ih]
def J42_j1_1_1_1 (call : CallA) (n : Nat)  (w0a : Option Pos) (w0l : Nat) (w0c : Cap) (w4 : Option Pos) (S : AS) : Option (AV × AS) := b42_j1_1_1_1 call n (J42_l1_1_1_1_0_1_0 call n  n) w0a w0l w0c w4 S
theorem h42_j1_1_1_1 (call : CallA) (n : Nat)  : r42_j1_1_1_1 call n  = J42_j1_1_1_1 call n  := by
  funext w0a w0l w0c w4 S
  rw [J42_j1_1_1_1, a42_j1_1_1_1, h42_l1_1_1_1_0_1_0 call n  n]
def J42 (call : CallA) (n : Nat) (x0a : Option Pos) (x0l : Nat) (x0c : Cap) (S : AS) : Option (AV × AS) := b42_entry call n (J42_j1_1_1_1 call n ) x0a x0l x0c S
theorem run42 (o : Orc) (n : Nat) (args : List AV) (S : AS) (ho : o 42 args = none) : evF E o (n + 1) (.fn 42) args S = evC E (evF E o n) n 42 (E.at 42 []) 0 (enumT 0 args) S (retK E (E.fn 42)) := by
  rw [evF, ho]; kernel_rfl
theorem J42_eq (call : CallA) (n : Nat) (x0a : Option Pos) (x0l : Nat) (x0c : Cap) (S : AS) : evC E call n 42 (E.at 42 []) 0 (enumT 0 [(.sl x0a x0l x0c)]) S (retK E (E.fn 42)) = J42 call n x0a x0l x0c S := by
  rw [J42, a42_entry, h42_j1_1_1_1 call n ]
theorem F42 {o : Orc} (n : Nat) (x0a : Option Pos) (x0l : Nat) (x0c : Cap) (S : AS) (ho : ∀ args, o 42 args = none) : evF E o (n + 1) (.fn 42) [(.sl x0a x0l x0c)] S = J42 (evF E o n) n x0a x0l x0c S := (run42 o n [(.sl x0a x0l x0c)] S (ho _)).trans (J42_eq _ _ x0a x0l x0c S)
def b43_entry (call : CallA) (n : Nat)   (x0a : Option Pos) (x0l : Nat) (x0c : Cap) (S : AS) : Option (AV × AS) :=
 cond x0a.isNone (
 some ((.sl none 0 (.ex 0)), S)) (
 newA S (.cells []) fun b1 S2 =>
 appendA 4 40 S2 (some (.rw b1, 0)) 0 (.ex 0) x0l (firstA S2 4 x0l (.sl x0a x0l x0c)) fun v3a v3l v3c S4 =>
 some ((.sl v3a v3l v3c), S4))

theorem a43_entry (call : CallA) (n : Nat) (x0a : Option Pos) (x0l : Nat) (x0c : Cap) (S : AS) : evC E call n 43 (E.at 43 []) 0 (enumT 0 [(.sl x0a x0l x0c)]) S (retK E (E.fn 43)) = b43_entry call n  x0a x0l x0c S := by kernel_rfl
def J43 (call : CallA) (n : Nat) (x0a : Option Pos) (x0l : Nat) (x0c : Cap) (S : AS) : Option (AV × AS) := b43_entry call n  x0a x0l x0c S
theorem run43 (o : Orc) (n : Nat) (args : List AV) (S : AS) (ho : o 43 args = none) : evF E o (n + 1) (.fn 43) args S = evC E (evF E o n) n 43 (E.at 43 []) 0 (enumT 0 args) S (retK E (E.fn 43)) := by
  rw [evF, ho]; kernel_rfl
theorem J43_eq (call : CallA) (n : Nat) (x0a : Option Pos) (x0l : Nat) (x0c : Cap) (S : AS) : evC E call n 43 (E.at 43 []) 0 (enumT 0 [(.sl x0a x0l x0c)]) S (retK E (E.fn 43)) = J43 call n x0a x0l x0c S := by
  rw [J43, a43_entry]
theorem F43 {o : Orc} (n : Nat) (x0a : Option Pos) (x0l : Nat) (x0c : Cap) (S : AS) (ho : ∀ args, o 43 args = none) : evF E o (n + 1) (.fn 43) [(.sl x0a x0l x0c)] S = J43 (evF E o n) n x0a x0l x0c S := (run43 o n [(.sl x0a x0l x0c)] S (ho _)).trans (J43_eq _ _ x0a x0l x0c S)
def b44_entry (call : CallA) (n : Nat)   (x0 : List UInt8) (x1 : List UInt8) (S : AS) : Option (AV × AS) :=
 callT call 55 [(.str x0), (.str x1)] S fun v2 S1 =>
 atS v2 0 fun v3 =>
 atB v2 1 fun v4 =>
 some (.tup [(.str v3), (.bool v4)], S1)

theorem a44_entry (call : CallA) (n : Nat) (x0 : List UInt8) (x1 : List UInt8) (S : AS) : evC E call n 44 (E.at 44 []) 0 (enumT 0 [(.str x0), (.str x1)]) S (retK E (E.fn 44)) = b44_entry call n  x0 x1 S := by kernel_rfl
def J44 (call : CallA) (n : Nat) (x0 : List UInt8) (x1 : List UInt8) (S : AS) : Option (AV × AS) := b44_entry call n  x0 x1 S
theorem run44 (o : Orc) (n : Nat) (args : List AV) (S : AS) (ho : o 44 args = none) : evF E o (n + 1) (.fn 44) args S = evC E (evF E o n) n 44 (E.at 44 []) 0 (enumT 0 args) S (retK E (E.fn 44)) := by
  rw [evF, ho]; kernel_rfl
theorem J44_eq (call : CallA) (n : Nat) (x0 : List UInt8) (x1 : List UInt8) (S : AS) : evC E call n 44 (E.at 44 []) 0 (enumT 0 [(.str x0), (.str x1)]) S (retK E (E.fn 44)) = J44 call n x0 x1 S := by
  rw [J44, a44_entry]
theorem F44 {o : Orc} (n : Nat) (x0 : List UInt8) (x1 : List UInt8) (S : AS) (ho : ∀ args, o 44 args = none) : evF E o (n + 1) (.fn 44) [(.str x0), (.str x1)] S = J44 (evF E o n) n x0 x1 S := (run44 o n [(.str x0), (.str x1)] S (ho _)).trans (J44_eq _ _ x0 x1 S)
def b45_entry (call : CallA) (n : Nat)   (x0 : List UInt8) (x1 : Int) (x2 : Int) (S : AS) : Option (AV × AS) :=
 callT call 56 [(.str x0), (.int .i64 x1), (.int .i64 x2)] S fun v2 S1 =>
 atI .u64 v2 0 fun v3 =>
 atV v2 1 fun v4 =>
 ifNil E .neq ty99 v4 fun b5 =>
 cond b5 (
 callV call 57 [(.str ([80, 97, 114, 115, 101, 85, 105, 110, 116])), (.str x0), (.int .i64 x1), (.int .i64 x2), v4] S1 fun v7 S6 =>
 some (.tup [(.int .u64 v3), v7], S6)) (
 some (.tup [(.int .u64 v3), .nilIface], S1))

theorem a45_entry (call : CallA) (n : Nat) (x0 : List UInt8) (x1 : Int) (x2 : Int) (S : AS) : evC E call n 45 (E.at 45 []) 0 (enumT 0 [(.str x0), (.int .i64 x1), (.int .i64 x2)]) S (retK E (E.fn 45)) = b45_entry call n  x0 x1 x2 S := by kernel_rfl
def J45 (call : CallA) (n : Nat) (x0 : List UInt8) (x1 : Int) (x2 : Int) (S : AS) : Option (AV × AS) := b45_entry call n  x0 x1 x2 S
theorem run45 (o : Orc) (n : Nat) (args : List AV) (S : AS) (ho : o 45 args = none) : evF E o (n + 1) (.fn 45) args S = evC E (evF E o n) n 45 (E.at 45 []) 0 (enumT 0 args) S (retK E (E.fn 45)) := by
  rw [evF, ho]; kernel_rfl
theorem J45_eq (call : CallA) (n : Nat) (x0 : List UInt8) (x1 : Int) (x2 : Int) (S : AS) : evC E call n 45 (E.at 45 []) 0 (enumT 0 [(.str x0), (.int .i64 x1), (.int .i64 x2)]) S (retK E (E.fn 45)) = J45 call n x0 x1 x2 S := by
  rw [J45, a45_entry]
theorem F45 {o : Orc} (n : Nat) (x0 : List UInt8) (x1 : Int) (x2 : Int) (S : AS) (ho : ∀ args, o 45 args = none) : evF E o (n + 1) (.fn 45) [(.str x0), (.int .i64 x1), (.int .i64 x2)] S = J45 (evF E o n) n x0 x1 x2 S := (run45 o n [(.str x0), (.int .i64 x1), (.int .i64 x2)] S (ho _)).trans (J45_eq _ _ x0 x1 x2 S)
def b46_entry (call : CallA) (n : Nat)   (x0a : Option Pos) (x0l : Nat) (x0c : Cap) (S : AS) : Option (AV × AS) :=
 callI .i64 call 59 [(.int .u64 (IntKind.wrap .u64 ((x0l : Nat) : Int)))] S fun v2 S1 =>
 callT call 58 [(.sl x0a x0l x0c), (.int .i64 0), (.int .i64 ((x0l : Nat) : Int)), (.int .i64 v2)] S1 fun v4 S3 =>
 some (.tup [], S3)

theorem a46_entry (call : CallA) (n : Nat) (x0a : Option Pos) (x0l : Nat) (x0c : Cap) (S : AS) : evC E call n 46 (E.at 46 []) 0 (enumT 0 [(.sl x0a x0l x0c)]) S (retK E (E.fn 46)) = b46_entry call n  x0a x0l x0c S := by kernel_rfl
def J46 (call : CallA) (n : Nat) (x0a : Option Pos) (x0l : Nat) (x0c : Cap) (S : AS) : Option (AV × AS) := b46_entry call n  x0a x0l x0c S
theorem run46 (o : Orc) (n : Nat) (args : List AV) (S : AS) (ho : o 46 args = none) : evF E o (n + 1) (.fn 46) args S = evC E (evF E o n) n 46 (E.at 46 []) 0 (enumT 0 args) S (retK E (E.fn 46)) := by
  rw [evF, ho]; kernel_rfl
theorem J46_eq (call : CallA) (n : Nat) (x0a : Option Pos) (x0l : Nat) (x0c : Cap) (S : AS) : evC E call n 46 (E.at 46 []) 0 (enumT 0 [(.sl x0a x0l x0c)]) S (retK E (E.fn 46)) = J46 call n x0a x0l x0c S := by
  rw [J46, a46_entry]
theorem F46 {o : Orc} (n : Nat) (x0a : Option Pos) (x0l : Nat) (x0c : Cap) (S : AS) (ho : ∀ args, o 46 args = none) : evF E o (n + 1) (.fn 46) [(.sl x0a x0l x0c)] S = J46 (evF E o n) n x0a x0l x0c S := (run46 o n [(.sl x0a x0l x0c)] S (ho _)).trans (J46_eq _ _ x0a x0l x0c S)
def b47_l1_1_0_1_0 (call : CallA) (n : Nat)  (l1_1_0_1_0_0_1_0_0_1_0_1_0_1_0 : Option Pos → Nat → Cap → Int → Option Pos → Nat → Cap → Int → AS → Option (AV × AS)) (l1_1_0_1_0 : Option Pos → Nat → Cap → Option Pos → Nat → Cap → Int → AS → Option (AV × AS)) (w0a : Option Pos) (w0l : Nat) (w0c : Cap) (w2a : Option Pos) (w2l : Nat) (w2c : Cap) (w3 : Int) (S : AS) : Option (AV × AS) :=
 cond (decide (w3 < ((w0l : Nat) : Int))) (
 ixSl 1 w0a w0l w3 fun p1 =>
 ldS S p1.1 p1.2 fun v2 =>
 ixSl 1 w0a w0l (IntKind.wrap .i64 (w3 - 1)) fun p3 =>
 ldS S p3.1 p3.2 fun v4 =>
 cond (v2 == v4) (
 slSl 1 w0a w0l w0c (some w3) none none fun v5a v5l v5c =>
 l1_1_0_1_0_0_1_0_0_1_0_1_0_1_0 w0a w0l w0c w3 v5a v5l v5c 1 S) (
 l1_1_0_1_0 w0a w0l w0c w2a w2l w2c (IntKind.wrap .i64 (w3 + 1)) S)) (
 some ((.sl w0a w0l w0c), S))

def b47_l1_1_0_1_0_0_1_0_0_1_0_1_0_1_0 (call : CallA) (n : Nat)  (l1_1_0_1_0_0_1_0_0_1_0_1_0_1_0 : Option Pos → Nat → Cap → Int → Option Pos → Nat → Cap → Int → AS → Option (AV × AS)) (w0a : Option Pos) (w0l : Nat) (w0c : Cap) (w3 : Int) (w4a : Option Pos) (w4l : Nat) (w4c : Cap) (w5 : Int) (S : AS) : Option (AV × AS) :=
 cond (decide (w5 < ((w4l : Nat) : Int))) (
 ixSl 1 w4a w4l w5 fun p6 =>
 ldS S p6.1 p6.2 fun v7 =>
 ixSl 1 w4a w4l (IntKind.wrap .i64 (w5 - 1)) fun p8 =>
 ldS S p8.1 p8.2 fun v9 =>
 cond (!(v7 == v9)) (
 ixSl 1 w4a w4l w5 fun p10 =>
 ldS S p10.1 p10.2 fun v11 =>
 ixSl 1 w0a w0l w3 fun p12 =>
 S.stn p12.1 p12.2 [(.str v11)] fun S13 =>
 l1_1_0_1_0_0_1_0_0_1_0_1_0_1_0 w0a w0l w0c (IntKind.wrap .i64 (w3 + 1)) w4a w4l w4c (IntKind.wrap .i64 (w5 + 1)) S13) (
 l1_1_0_1_0_0_1_0_0_1_0_1_0_1_0 w0a w0l w0c w3 w4a w4l w4c (IntKind.wrap .i64 (w5 + 1)) S)) (
 slSl 1 w0a w0l w0c (some w3) none none fun v14a v14l v14c =>
 clearA [(.str ([]))] S v14a v14l fun S15 =>
 slSl 1 w0a w0l w0c none (some w3) none fun v16a v16l v16c =>
 some ((.sl v16a v16l v16c), S15))

def b47_entry (call : CallA) (n : Nat)  (l1_1_0_1_0 : Option Pos → Nat → Cap → Option Pos → Nat → Cap → Int → AS → Option (AV × AS)) (x0a : Option Pos) (x0l : Nat) (x0c : Cap) (S : AS) : Option (AV × AS) :=
 cond (decide (((x0l : Nat) : Int) < 2)) (
 some ((.sl x0a x0l x0c), S)) (
 l1_1_0_1_0 x0a x0l x0c none 0 (.ex 0) 1 S)

def r47_l1_1_0_1_0 (call : CallA) (n : Nat)  (m : Nat) (w0a : Option Pos) (w0l : Nat) (w0c : Cap) (w2a : Option Pos) (w2l : Nat) (w2c : Cap) (w3 : Int) (S : AS) : Option (AV × AS) := loopN (evC E call n 47 (E.at 47 [1, 1, 0, 1, 0, 0]) 0) [0, 2, 3] m [(0, (.sl w0a w0l w0c)), (2, (.sl w2a w2l w2c)), (3, (.int .i64 w3))] S (kBlk 0 (kSeq E call n 47 (E.at 47 [1, 1, 1]) 0 (retK E (E.fn 47))))
def r47_l1_1_0_1_0_0_1_0_0_1_0_1_0_1_0 (call : CallA) (n : Nat) (m1_1_0_1_0 : Nat) (m : Nat) (w0a : Option Pos) (w0l : Nat) (w0c : Cap) (w3 : Int) (w4a : Option Pos) (w4l : Nat) (w4c : Cap) (w5 : Int) (S : AS) : Option (AV × AS) := loopN (evC E call n 47 (E.at 47 [1, 1, 0, 1, 0, 0, 1, 0, 0, 1, 0, 1, 0, 1, 0, 0]) 2) [0, 3, 4, 5] m [(0, (.sl w0a w0l w0c)), (3, (.int .i64 w3)), (4, (.sl w4a w4l w4c)), (5, (.int .i64 w5))] S (kBlk 2 (kSeq E call n 47 (E.at 47 [1, 1, 0, 1, 0, 0, 1, 0, 0, 1, 0, 1, 1]) 1 (kBlk 1 (kSeq E call n 47 (E.at 47 [1, 1, 0, 1, 0, 0, 1, 1]) 0 (kLp (evC E call n 47 (E.at 47 [1, 1, 0, 1, 0, 0]) 0) [0, 2, 3] m1_1_0_1_0 (kBlk 0 (kSeq E call n 47 (E.at 47 [1, 1, 1]) 0 (retK E (E.fn 47)))))))))
theorem a47_l1_1_0_1_0 (call : CallA) (n : Nat)  (m : Nat) (w0a : Option Pos) (w0l : Nat) (w0c : Cap) (w2a : Option Pos) (w2l : Nat) (w2c : Cap) (w3 : Int) (S : AS) : r47_l1_1_0_1_0 call n  (m + 1) w0a w0l w0c w2a w2l w2c w3 S = b47_l1_1_0_1_0 call n (r47_l1_1_0_1_0_0_1_0_0_1_0_1_0_1_0 call n m n) (r47_l1_1_0_1_0 call n  m) w0a w0l w0c w2a w2l w2c w3 S := by kernel_rfl
theorem a47_l1_1_0_1_0_0_1_0_0_1_0_1_0_1_0 (call : CallA) (n : Nat) (m1_1_0_1_0 : Nat) (m : Nat) (w0a : Option Pos) (w0l : Nat) (w0c : Cap) (w3 : Int) (w4a : Option Pos) (w4l : Nat) (w4c : Cap) (w5 : Int) (S : AS) : r47_l1_1_0_1_0_0_1_0_0_1_0_1_0_1_0 call n m1_1_0_1_0 (m + 1) w0a w0l w0c w3 w4a w4l w4c w5 S = b47_l1_1_0_1_0_0_1_0_0_1_0_1_0_1_0 call n (r47_l1_1_0_1_0_0_1_0_0_1_0_1_0_1_0 call n m1_1_0_1_0 m) w0a w0l w0c w3 w4a w4l w4c w5 S := by kernel_rfl
theorem a47_entry (call : CallA) (n : Nat) (x0a : Option Pos) (x0l : Nat) (x0c : Cap) (S : AS) : evC E call n 47 (E.at 47 []) 0 (enumT 0 [(.sl x0a x0l x0c)]) S (retK E (E.fn 47)) = b47_entry call n (r47_l1_1_0_1_0 call n  n) x0a x0l x0c S := by kernel_rfl
def J47_l1_1_0_1_0_0_1_0_0_1_0_1_0_1_0 (call : CallA) (n : Nat) (n1_1_0_1_0 : Option Pos → Nat → Cap → Option Pos → Nat → Cap → Int → AS → Option (AV × AS)) (m : Nat) : Option Pos → Nat → Cap → Int → Option Pos → Nat → Cap → Int → AS → Option (AV × AS) := Nat.rec (motive := fun _ => Option Pos → Nat → Cap → Int → Option Pos → Nat → Cap → Int → AS → Option (AV × AS)) (fun _ _ _ _ _ _ _ _ _ => none) (fun mK ih w0a w0l w0c w3 w4a w4l w4c w5 S => b47_l1_1_0_1_0_0_1_0_0_1_0_1_0_1_0 call n ih w0a w0l w0c w3 w4a w4l w4c w5 S) m
theorem J47_l1_1_0_1_0_0_1_0_0_1_0_1_0_1_0_succ (call : CallA) (n : Nat) (n1_1_0_1_0 : Option Pos → Nat → Cap → Option Pos → Nat → Cap → Int → AS → Option (AV × AS)) (m : Nat) (w0a : Option Pos) (w0l : Nat) (w0c : Cap) (w3 : Int) (w4a : Option Pos) (w4l : Nat) (w4c : Cap) (w5 : Int) (S : AS) : J47_l1_1_0_1_0_0_1_0_0_1_0_1_0_1_0 call n n1_1_0_1_0 (m + 1) w0a w0l w0c w3 w4a w4l w4c w5 S = b47_l1_1_0_1_0_0_1_0_0_1_0_1_0_1_0 call n (J47_l1_1_0_1_0_0_1_0_0_1_0_1_0_1_0 call n n1_1_0_1_0 m) w0a w0l w0c w3 w4a w4l w4c w5 S := rfl
theorem h47_l1_1_0_1_0_0_1_0_0_1_0_1_0_1_0 (call : CallA) (n : Nat) (m1_1_0_1_0 : Nat) (m : Nat) : r47_l1_1_0_1_0_0_1_0_0_1_0_1_0_1_0 call n m1_1_0_1_0 m = J47_l1_1_0_1_0_0_1_0_0_1_0_1_0_1_0 call n (r47_l1_1_0_1_0 call n  m1_1_0_1_0) m := by
  induction m with
  | zero => rfl
  | succ m ih =>
    funext w0a w0l w0c w3 w4a w4l w4c w5 S
    rw [J47_l1_1_0_1_0_0_1_0_0_1_0_1_0_1_0_succ, a47_l1_1_0_1_0_0_1_0_0_1_0_1_0_1_0, ih]
def J47_l1_1_0_1_0 (call : CallA) (n : Nat)  (m : Nat) : Option Pos → Nat → Cap → Option Pos → Nat → Cap → Int → AS → Option (AV × AS) := Nat.rec (motive := fun _ => Option Pos → Nat → Cap → Option Pos → Nat → Cap → Int → AS → Option (AV × AS)) (fun _ _ _ _ _ _ _ _ => none) (fun mK ih w0a w0l w0c w2a w2l w2c w3 S => b47_l1_1_0_1_0 call n (J47_l1_1_0_1_0_0_1_0_0_1_0_1_0_1_0 call n ih n) ih w0a w0l w0c w2a w2l w2c w3 S) m
theorem J47_l1_1_0_1_0_succ (call : CallA) (n : Nat)  (m : Nat) (w0a : Option Pos) (w0l : Nat) (w0c : Cap) (w2a : Option Pos) (w2l : Nat) (w2c : Cap) (w3 : Int) (S : AS) : J47_l1_1_0_1_0 call n  (m + 1) w0a w0l w0c w2a w2l w2c w3 S = b47_l1_1_0_1_0 call n (J47_l1_1_0_1_0_0_1_0_0_1_0_1_0_1_0 call n (J47_l1_1_0_1_0 call n  m) n) (J47_l1_1_0_1_0 call n  m) w0a w0l w0c w2a w2l w2c w3 S := rfl
theorem h47_l1_1_0_1_0 (call : CallA) (n : Nat)  (m : Nat) : r47_l1_1_0_1_0 call n  m = J47_l1_1_0_1_0 call n  m := by
  induction m with
  | zero => rfl
  | succ m ih =>
    funext w0a w0l w0c w2a w2l w2c w3 S
    rw [J47_l1_1_0_1_0_succ, a47_l1_1_0_1_0, h47_l1_1_0_1_0_0_1_0_0_1_0_1_0_1_0 call n m n, ih]
def J47 (call : CallA) (n : Nat) (x0a : Option Pos) (x0l : Nat) (x0c : Cap) (S : AS) : Option (AV × AS) := b47_entry call n (J47_l1_1_0_1_0 call n  n) x0a x0l x0c S
theorem run47 (o : Orc) (n : Nat) (args : List AV) (S : AS) (ho : o 47 args = none) : evF E o (n + 1) (.fn 47) args S = evC E (evF E o n) n 47 (E.at 47 []) 0 (enumT 0 args) S (retK E (E.fn 47)) := by
  rw [evF, ho]; kernel_rfl
theorem J47_eq (call : CallA) (n : Nat) (x0a : Option Pos) (x0l : Nat) (x0c : Cap) (S : AS) : evC E call n 47 (E.at 47 []) 0 (enumT 0 [(.sl x0a x0l x0c)]) S (retK E (E.fn 47)) = J47 call n x0a x0l x0c S := by
  rw [J47, a47_entry, h47_l1_1_0_1_0 call n  n]
theorem F47 {o : Orc} (n : Nat) (x0a : Option Pos) (x0l : Nat) (x0c : Cap) (S : AS) (ho : ∀ args, o 47 args = none) : evF E o (n + 1) (.fn 47) [(.sl x0a x0l x0c)] S = J47 (evF E o n) n x0a x0l x0c S := (run47 o n [(.sl x0a x0l x0c)] S (ho _)).trans (J47_eq _ _ x0a x0l x0c S)
def b48_entry (call : CallA) (n : Nat)   (x0a : Option Pos) (x0l : Nat) (x0c : Cap) (x1 : Int) (x2 : Int) (S : AS) : Option (AV × AS) :=
 appendZA 1 1 [(.int .u8 0)] S x0a x0l x0c x2 fun v1a v1l v1c S2 =>
 slSl 1 v1a v1l v1c (some (IntKind.wrap .i64 (((v1l : Nat) : Int) - x2))) none none fun v3a v3l v3c =>
 callT call 60 [(.sl v3a v3l v3c), (.int .u64 x1)] S2 fun v5 S4 =>
 some ((.sl v1a v1l v1c), S4)

theorem a48_entry (call : CallA) (n : Nat) (x0a : Option Pos) (x0l : Nat) (x0c : Cap) (x1 : Int) (x2 : Int) (S : AS) : evC E call n 48 (E.at 48 []) 0 (enumT 0 [(.sl x0a x0l x0c), (.int .u64 x1), (.int .i64 x2)]) S (retK E (E.fn 48)) = b48_entry call n  x0a x0l x0c x1 x2 S := by kernel_rfl
def J48 (call : CallA) (n : Nat) (x0a : Option Pos) (x0l : Nat) (x0c : Cap) (x1 : Int) (x2 : Int) (S : AS) : Option (AV × AS) := b48_entry call n  x0a x0l x0c x1 x2 S
theorem run48 (o : Orc) (n : Nat) (args : List AV) (S : AS) (ho : o 48 args = none) : evF E o (n + 1) (.fn 48) args S = evC E (evF E o n) n 48 (E.at 48 []) 0 (enumT 0 args) S (retK E (E.fn 48)) := by
  rw [evF, ho]; kernel_rfl
theorem J48_eq (call : CallA) (n : Nat) (x0a : Option Pos) (x0l : Nat) (x0c : Cap) (x1 : Int) (x2 : Int) (S : AS) : evC E call n 48 (E.at 48 []) 0 (enumT 0 [(.sl x0a x0l x0c), (.int .u64 x1), (.int .i64 x2)]) S (retK E (E.fn 48)) = J48 call n x0a x0l x0c x1 x2 S := by
  rw [J48, a48_entry]
theorem F48 {o : Orc} (n : Nat) (x0a : Option Pos) (x0l : Nat) (x0c : Cap) (x1 : Int) (x2 : Int) (S : AS) (ho : ∀ args, o 48 args = none) : evF E o (n + 1) (.fn 48) [(.sl x0a x0l x0c), (.int .u64 x1), (.int .i64 x2)] S = J48 (evF E o n) n x0a x0l x0c x1 x2 S := (run48 o n [(.sl x0a x0l x0c), (.int .u64 x1), (.int .i64 x2)] S (ho _)).trans (J48_eq _ _ x0a x0l x0c x1 x2 S)
def b49_entry (call : CallA) (n : Nat)   (x0 : Int) (x1 : Int) (S : AS) : Option (AV × AS) :=
 callS call 61 [(.int .u64 x0), (.int .i64 x1)] S fun v2 S1 =>
 some ((.str v2), S1)

theorem a49_entry (call : CallA) (n : Nat) (x0 : Int) (x1 : Int) (S : AS) : evC E call n 49 (E.at 49 []) 0 (enumT 0 [(.int .u64 x0), (.int .i64 x1)]) S (retK E (E.fn 49)) = b49_entry call n  x0 x1 S := by kernel_rfl
def J49 (call : CallA) (n : Nat) (x0 : Int) (x1 : Int) (S : AS) : Option (AV × AS) := b49_entry call n  x0 x1 S
theorem run49 (o : Orc) (n : Nat) (args : List AV) (S : AS) (ho : o 49 args = none) : evF E o (n + 1) (.fn 49) args S = evC E (evF E o n) n 49 (E.at 49 []) 0 (enumT 0 args) S (retK E (E.fn 49)) := by
  rw [evF, ho]; kernel_rfl
theorem J49_eq (call : CallA) (n : Nat) (x0 : Int) (x1 : Int) (S : AS) : evC E call n 49 (E.at 49 []) 0 (enumT 0 [(.int .u64 x0), (.int .i64 x1)]) S (retK E (E.fn 49)) = J49 call n x0 x1 S := by
  rw [J49, a49_entry]
theorem F49 {o : Orc} (n : Nat) (x0 : Int) (x1 : Int) (S : AS) (ho : ∀ args, o 49 args = none) : evF E o (n + 1) (.fn 49) [(.int .u64 x0), (.int .i64 x1)] S = J49 (evF E o n) n x0 x1 S := (run49 o n [(.int .u64 x0), (.int .i64 x1)] S (ho _)).trans (J49_eq _ _ x0 x1 S)
def b50_l1_0 (call : CallA) (n : Nat)  (l1_0 : AV → AV → Int → AS → Option (AV × AS)) (w0 : AV) (w1 : AV) (w3 : Int) (S : AS) : Option (AV × AS) :=
 cond (decide (w3 ≥ 0)) (
 gA w1 fun p3 =>
 ldL S p3.1 p3.2 fun v4a v4l v4c =>
 ixSl 1 v4a v4l w3 fun p5 =>
 ldI .u64 S p5.1 p5.2 fun v6 =>
 callFB call w0 [(.int .i64 w3), (.int .u64 v6)] S fun v8 S7 =>
 cond (!v8) (
 some (.tup [], S7)) (
 l1_0 w0 w1 (IntKind.wrap .i64 (w3 - 1)) S7)) (
 some (.tup [], S))

def b50_entry (call : CallA) (n : Nat)  (l1_0 : AV → AV → Int → AS → Option (AV × AS)) (x0 : AV) (x1 : AV) (S : AS) : Option (AV × AS) :=
 gA x1 fun p1 =>
 ldL S p1.1 p1.2 fun v2a v2l v2c =>
 l1_0 x0 x1 (IntKind.wrap .i64 (((v2l : Nat) : Int) - 1)) S

def r50_l1_0 (call : CallA) (n : Nat)  (m : Nat) (w0 : AV) (w1 : AV) (w3 : Int) (S : AS) : Option (AV × AS) := loopN (evC E call n 50 (E.at 50 [1, 0, 0]) 0) [0, 1, 3] m [(0, w0), (1, w1), (3, (.int .i64 w3))] S (kBlk 0 (retK E (E.fn 50)))
theorem a50_l1_0 (call : CallA) (n : Nat)  (m : Nat) (w0 : AV) (w1 : AV) (w3 : Int) (S : AS) : r50_l1_0 call n  (m + 1) w0 w1 w3 S = b50_l1_0 call n (r50_l1_0 call n  m) w0 w1 w3 S := by kernel_rfl
theorem a50_entry (call : CallA) (n : Nat) (x0 : AV) (x1 : AV) (S : AS) : evC E call n 50 (E.at 50 []) 0 (enumT 0 [x0, x1]) S (retK E (E.fn 50)) = b50_entry call n (r50_l1_0 call n  n) x0 x1 S := by kernel_rfl
def J50_l1_0 (call : CallA) (n : Nat)  (m : Nat) : AV → AV → Int → AS → Option (AV × AS) := Nat.rec (motive := fun _ => AV → AV → Int → AS → Option (AV × AS)) (fun _ _ _ _ => none) (fun mK ih w0 w1 w3 S => b50_l1_0 call n ih w0 w1 w3 S) m
theorem J50_l1_0_succ (call : CallA) (n : Nat)  (m : Nat) (w0 : AV) (w1 : AV) (w3 : Int) (S : AS) : J50_l1_0 call n  (m + 1) w0 w1 w3 S = b50_l1_0 call n (J50_l1_0 call n  m) w0 w1 w3 S := rfl
theorem h50_l1_0 (call : CallA) (n : Nat)  (m : Nat) : r50_l1_0 call n  m = J50_l1_0 call n  m := by
  induction m with
  | zero => rfl
  | succ m ih =>
    funext w0 w1 w3 S
    rw [J50_l1_0_succ, a50_l1_0, ih]
def J50 (call : CallA) (n : Nat) (x0 : AV) (x1 : AV) (S : AS) : Option (AV × AS) := b50_entry call n (J50_l1_0 call n  n) x0 x1 S
theorem run50 (o : Orc) (n : Nat) (args : List AV) (S : AS) (ho : o 50 args = none) : evF E o (n + 1) (.fn 50) args S = evC E (evF E o n) n 50 (E.at 50 []) 0 (enumT 0 args) S (retK E (E.fn 50)) := by
  rw [evF, ho]; kernel_rfl
theorem J50_eq (call : CallA) (n : Nat) (x0 : AV) (x1 : AV) (S : AS) : evC E call n 50 (E.at 50 []) 0 (enumT 0 [x0, x1]) S (retK E (E.fn 50)) = J50 call n x0 x1 S := by
  rw [J50, a50_entry, h50_l1_0 call n  n]
theorem F50 {o : Orc} (n : Nat) (x0 : AV) (x1 : AV) (S : AS) (ho : ∀ args, o 50 args = none) : evF E o (n + 1) (.fn 50) [x0, x1] S = J50 (evF E o n) n x0 x1 S := (run50 o n [x0, x1] S (ho _)).trans (J50_eq _ _ x0 x1 S)
def b51_l1_0_1_0 (call : CallA) (n : Nat)  (l1_0_1_0 : Option Pos → Nat → Cap → AV → Int → Int → Int → AS → Option (AV × AS)) (w0a : Option Pos) (w0l : Nat) (w0c : Cap) (w1 : AV) (w4 : Int) (w7 : Int) (w8 : Int) (S : AS) : Option (AV × AS) :=
 cond (decide (w8 < w7)) (
 ixSl 4 w0a w0l w8 fun p1 =>
 S.ldn p1.1 p1.2 4 fun g2 =>
 callFB call w1 [(.agg g2)] S fun v4 S3 =>
 cond v4 (
 some ((.int .i64 w8), S3)) (
 l1_0_1_0 w0a w0l w0c w1 w4 w7 (IntKind.wrap .i64 (w8 + 1)) S3)) (
 some ((.int .i64 (-1)), S))

def b51_entry (call : CallA) (n : Nat)  (l1_0_1_0 : Option Pos → Nat → Cap → AV → Int → Int → Int → AS → Option (AV × AS)) (x0a : Option Pos) (x0l : Nat) (x0c : Cap) (x1 : AV) (S : AS) : Option (AV × AS) :=
 l1_0_1_0 x0a x0l x0c x1 0 ((x0l : Nat) : Int) 0 S

def r51_l1_0_1_0 (call : CallA) (n : Nat)  (m : Nat) (w0a : Option Pos) (w0l : Nat) (w0c : Cap) (w1 : AV) (w4 : Int) (w7 : Int) (w8 : Int) (S : AS) : Option (AV × AS) := loopN (evC E call n 51 (E.at 51 [1, 0, 1, 0, 0]) 0) [0, 1, 4, 7, 8] m [(0, (.sl w0a w0l w0c)), (1, w1), (4, (.int .i64 w4)), (7, (.int .i64 w7)), (8, (.int .i64 w8))] S (kBlk 0 (kSeq E call n 51 (E.at 51 [1, 1]) 0 (retK E (E.fn 51))))
theorem a51_l1_0_1_0 (call : CallA) (n : Nat)  (m : Nat) (w0a : Option Pos) (w0l : Nat) (w0c : Cap) (w1 : AV) (w4 : Int) (w7 : Int) (w8 : Int) (S : AS) : r51_l1_0_1_0 call n  (m + 1) w0a w0l w0c w1 w4 w7 w8 S = b51_l1_0_1_0 call n (r51_l1_0_1_0 call n  m) w0a w0l w0c w1 w4 w7 w8 S := by kernel_rfl
theorem a51_entry (call : CallA) (n : Nat) (x0a : Option Pos) (x0l : Nat) (x0c : Cap) (x1 : AV) (S : AS) : evC E call n 51 (E.at 51 []) 0 (enumT 0 [(.sl x0a x0l x0c), x1]) S (retK E (E.fn 51)) = b51_entry call n (r51_l1_0_1_0 call n  n) x0a x0l x0c x1 S := by kernel_rfl
def J51_l1_0_1_0 (call : CallA) (n : Nat)  (m : Nat) : Option Pos → Nat → Cap → AV → Int → Int → Int → AS → Option (AV × AS) := Nat.rec (motive := fun _ => Option Pos → Nat → Cap → AV → Int → Int → Int → AS → Option (AV × AS)) (fun _ _ _ _ _ _ _ _ => none) (fun mK ih w0a w0l w0c w1 w4 w7 w8 S => b51_l1_0_1_0 call n ih w0a w0l w0c w1 w4 w7 w8 S) m
theorem J51_l1_0_1_0_succ (call : CallA) (n : Nat)  (m : Nat) (w0a : Option Pos) (w0l : Nat) (w0c : Cap) (w1 : AV) (w4 : Int) (w7 : Int) (w8 : Int) (S : AS) : J51_l1_0_1_0 call n  (m + 1) w0a w0l w0c w1 w4 w7 w8 S = b51_l1_0_1_0 call n (J51_l1_0_1_0 call n  m) w0a w0l w0c w1 w4 w7 w8 S := rfl
theorem h51_l1_0_1_0 (call : CallA) (n : Nat)  (m : Nat) : r51_l1_0_1_0 call n  m = J51_l1_0_1_0 call n  m := by
  induction m with
  | zero => rfl
  | succ m ih =>
    funext w0a w0l w0c w1 w4 w7 w8 S
    rw [J51_l1_0_1_0_succ, a51_l1_0_1_0, ih]
def J51 (call : CallA) (n : Nat) (x0a : Option Pos) (x0l : Nat) (x0c : Cap) (x1 : AV) (S : AS) : Option (AV × AS) := b51_entry call n (J51_l1_0_1_0 call n  n) x0a x0l x0c x1 S
theorem run51 (o : Orc) (n : Nat) (args : List AV) (S : AS) (ho : o 51 args = none) : evF E o (n + 1) (.fn 51) args S = evC E (evF E o n) n 51 (E.at 51 []) 0 (enumT 0 args) S (retK E (E.fn 51)) := by
  rw [evF, ho]; kernel_rfl
theorem J51_eq (call : CallA) (n : Nat) (x0a : Option Pos) (x0l : Nat) (x0c : Cap) (x1 : AV) (S : AS) : evC E call n 51 (E.at 51 []) 0 (enumT 0 [(.sl x0a x0l x0c), x1]) S (retK E (E.fn 51)) = J51 call n x0a x0l x0c x1 S := by
  rw [J51, a51_entry, h51_l1_0_1_0 call n  n]
theorem F51 {o : Orc} (n : Nat) (x0a : Option Pos) (x0l : Nat) (x0c : Cap) (x1 : AV) (S : AS) (ho : ∀ args, o 51 args = none) : evF E o (n + 1) (.fn 51) [(.sl x0a x0l x0c), x1] S = J51 (evF E o n) n x0a x0l x0c x1 S := (run51 o n [(.sl x0a x0l x0c), x1] S (ho _)).trans (J51_eq _ _ x0a x0l x0c x1 S)
def b52_entry (call : CallA) (n : Nat)   (x0 : List AV) (x1 : AV) (S : AS) : Option (AV × AS) :=
 ifO (x0.length = 4) <|
 newA S (.cells x0) fun b1 S2 =>
 ldI .u32 S2 (.rw b1) 0 fun v3 =>
 gA x1 fun p4 =>
 ldI .u32 S2 p4.1 p4.2 fun v5 =>
 some ((.bool (v3 == v5)), S2)

theorem a52_entry (call : CallA) (n : Nat) (x0 : List AV) (x1 : AV) (S : AS) : evC E call n 52 (E.at 52 []) 0 (enumT 0 [(.agg x0), x1]) S (retK E (E.fn 52)) = b52_entry call n  x0 x1 S := by kernel_rfl
def J52 (call : CallA) (n : Nat) (x0 : List AV) (x1 : AV) (S : AS) : Option (AV × AS) := b52_entry call n  x0 x1 S
theorem run52 (o : Orc) (n : Nat) (args : List AV) (S : AS) (ho : o 52 args = none) : evF E o (n + 1) (.fn 52) args S = evC E (evF E o n) n 52 (E.at 52 []) 0 (enumT 0 args) S (retK E (E.fn 52)) := by
  rw [evF, ho]; kernel_rfl
theorem J52_eq (call : CallA) (n : Nat) (x0 : List AV) (x1 : AV) (S : AS) : evC E call n 52 (E.at 52 []) 0 (enumT 0 [(.agg x0), x1]) S (retK E (E.fn 52)) = J52 call n x0 x1 S := by
  rw [J52, a52_entry]
theorem F52 {o : Orc} (n : Nat) (x0 : List AV) (x1 : AV) (S : AS) (ho : ∀ args, o 52 args = none) : evF E o (n + 1) (.fn 52) [(.agg x0), x1] S = J52 (evF E o n) n x0 x1 S := (run52 o n [(.agg x0), x1] S (ho _)).trans (J52_eq _ _ x0 x1 S)
def b53_l1_1_0_1_0 (call : CallA) (n : Nat)  (l1_1_0_1_0 : Int → Option Pos → Nat → Cap → Int → Int → AS → Option (AV × AS)) (w3 : Int) (w6a : Option Pos) (w6l : Nat) (w6c : Cap) (w7 : Int) (w8 : Int) (S : AS) : Option (AV × AS) :=
 cond (decide (w8 < w7)) (
 ixSl 1 w6a w6l w8 fun p1 =>
 ldI .u8 S p1.1 p1.2 fun v2 =>
 l1_1_0_1_0 (orI .u64 (shlI .u64 w3 8) (IntKind.wrap .u64 v2)) w6a w6l w6c w7 (IntKind.wrap .i64 (w8 + 1)) S) (
 some ((.int .u64 w3), S))

def b53_entry (call : CallA) (n : Nat)  (l1_1_0_1_0 : Int → Option Pos → Nat → Cap → Int → Int → AS → Option (AV × AS)) (x0a : Option Pos) (x0l : Nat) (x0c : Cap) (S : AS) : Option (AV × AS) :=
 l1_1_0_1_0 0 x0a x0l x0c ((x0l : Nat) : Int) 0 S

def r53_l1_1_0_1_0 (call : CallA) (n : Nat)  (m : Nat) (w3 : Int) (w6a : Option Pos) (w6l : Nat) (w6c : Cap) (w7 : Int) (w8 : Int) (S : AS) : Option (AV × AS) := loopN (evC E call n 53 (E.at 53 [1, 1, 0, 1, 0, 0]) 0) [3, 6, 7, 8] m [(3, (.int .u64 w3)), (6, (.sl w6a w6l w6c)), (7, (.int .i64 w7)), (8, (.int .i64 w8))] S (kBlk 0 (kSeq E call n 53 (E.at 53 [1, 1, 1]) 0 (retK E (E.fn 53))))
theorem a53_l1_1_0_1_0 (call : CallA) (n : Nat)  (m : Nat) (w3 : Int) (w6a : Option Pos) (w6l : Nat) (w6c : Cap) (w7 : Int) (w8 : Int) (S : AS) : r53_l1_1_0_1_0 call n  (m + 1) w3 w6a w6l w6c w7 w8 S = b53_l1_1_0_1_0 call n (r53_l1_1_0_1_0 call n  m) w3 w6a w6l w6c w7 w8 S := by kernel_rfl
theorem a53_entry (call : CallA) (n : Nat) (x0a : Option Pos) (x0l : Nat) (x0c : Cap) (S : AS) : evC E call n 53 (E.at 53 []) 0 (enumT 0 [(.sl x0a x0l x0c)]) S (retK E (E.fn 53)) = b53_entry call n (r53_l1_1_0_1_0 call n  n) x0a x0l x0c S := by kernel_rfl
def J53_l1_1_0_1_0 (call : CallA) (n : Nat)  (m : Nat) : Int → Option Pos → Nat → Cap → Int → Int → AS → Option (AV × AS) := Nat.rec (motive := fun _ => Int → Option Pos → Nat → Cap → Int → Int → AS → Option (AV × AS)) (fun _ _ _ _ _ _ _ => none) (fun mK ih w3 w6a w6l w6c w7 w8 S => b53_l1_1_0_1_0 call n ih w3 w6a w6l w6c w7 w8 S) m
theorem J53_l1_1_0_1_0_succ (call : CallA) (n : Nat)  (m : Nat) (w3 : Int) (w6a : Option Pos) (w6l : Nat) (w6c : Cap) (w7 : Int) (w8 : Int) (S : AS) : J53_l1_1_0_1_0 call n  (m + 1) w3 w6a w6l w6c w7 w8 S = b53_l1_1_0_1_0 call n (J53_l1_1_0_1_0 call n  m) w3 w6a w6l w6c w7 w8 S := rfl
theorem h53_l1_1_0_1_0 (call : CallA) (n : Nat)  (m : Nat) : r53_l1_1_0_1_0 call n  m = J53_l1_1_0_1_0 call n  m := by
  induction m with
  | zero => rfl
  | succ m ih =>
    funext w3 w6a w6l w6c w7 w8 S
    rw [J53_l1_1_0_1_0_succ, a53_l1_1_0_1_0, ih]
def J53 (call : CallA) (n : Nat) (x0a : Option Pos) (x0l : Nat) (x0c : Cap) (S : AS) : Option (AV × AS) := b53_entry call n (J53_l1_1_0_1_0 call n  n) x0a x0l x0c S
theorem run53 (o : Orc) (n : Nat) (args : List AV) (S : AS) (ho : o 53 args = none) : evF E o (n + 1) (.fn 53) args S = evC E (evF E o n) n 53 (E.at 53 []) 0 (enumT 0 args) S (retK E (E.fn 53)) := by
  rw [evF, ho]; kernel_rfl
theorem J53_eq (call : CallA) (n : Nat) (x0a : Option Pos) (x0l : Nat) (x0c : Cap) (S : AS) : evC E call n 53 (E.at 53 []) 0 (enumT 0 [(.sl x0a x0l x0c)]) S (retK E (E.fn 53)) = J53 call n x0a x0l x0c S := by
  rw [J53, a53_entry, h53_l1_1_0_1_0 call n  n]
theorem F53 {o : Orc} (n : Nat) (x0a : Option Pos) (x0l : Nat) (x0c : Cap) (S : AS) (ho : ∀ args, o 53 args = none) : evF E o (n + 1) (.fn 53) [(.sl x0a x0l x0c)] S = J53 (evF E o n) n x0a x0l x0c S := (run53 o n [(.sl x0a x0l x0c)] S (ho _)).trans (J53_eq _ _ x0a x0l x0c S)
end
end Go.Ct
