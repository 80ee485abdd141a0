/- Plain readings of the functions, and that they are what the evaluator does: by program. -/
import Derived.Test.YtffeeebegglejaaGrRes
import Derived.Test.YtffeeebegglejaaENV
import Derived.KernelRfl
set_option maxRecDepth 100000
set_option linter.unusedVariables false
namespace Go.Na
open Go.Gr
noncomputable section
def b46_l1_1_1_1_0_1_0 (call : CallA) (n : Nat) (l1_1_1_1_0_1_0 : Option Pos → Nat → Cap → Option Pos → Nat → Cap → Int → Int → AS → Option (AV × AS)) (j1_1_1_1_1 : Option Pos → Nat → Cap → AS → Option (AV × AS)) (w5a : Option Pos) (w5l : Nat) (w5c : Cap) (w36a : Option Pos) (w36l : Nat) (w36c : Cap) (w37 : Int) (w38 : Int) (S : AS) : Option (AV × AS) :=
cond (decide (w38 < w37)) (
ixSl 1 w36a w36l w38 fun p19 =>
ldI .u64 S p19.1 p19.2 fun v20 =>
callL call 58 [(.sl w5a w5l w5c), (.int .u64 v20), (.int .i64 8)] S fun v22a v22l v22c S21 =>
l1_1_1_1_0_1_0 v22a v22l v22c w36a w36l w36c w37 (IntKind.wrap .i64 (w38 + 1)) S21) (
j1_1_1_1_1 w5a w5l w5c S)

def b46_j1_1_1_1_1 (call : CallA) (n : Nat)  (w5a : Option Pos) (w5l : Nat) (w5c : Cap) (S : AS) : Option (AV × AS) :=
callL call 59 [(.sl w5a w5l w5c)] S fun v24a v24l v24c S23 =>
some (.tup [(.sl v24a v24l v24c), (.int .i64 0)], S23)

def b46_entry (call : CallA) (n : Nat) (l1_1_1_1_0_1_0 : Option Pos → Nat → Cap → Option Pos → Nat → Cap → Int → Int → AS → Option (AV × AS)) (x0 : List AV) (S : AS) : Option (AV × AS) :=
ifO (x0.length = 6) <|
newA S (.cells x0) fun b1 S2 =>
ldI .u64 S2 (.rw b1) 0 fun v3 =>
ldI .u64 S2 (.rw b1) 1 fun v4 =>
ldI .u64 S2 (.rw b1) 2 fun v5 =>
ldI .u64 S2 (.rw b1) 3 fun v6 =>
ldI .u64 S2 (.rw b1) 4 fun v7 =>
ldI .u64 S2 (.rw b1) 5 fun v8 =>
newA S2 (.cells [(.int .u64 v3), (.int .u64 v4), (.int .u64 v5), (.int .u64 v6), (.int .u64 v7), (.int .u64 v8)]) fun b9 S10 =>
ldI .u64 S10 (.rw b1) 0 fun v11 =>
cond (v11 == 0) (
some (.tup [(.sl none 0 (.ex 0)), (.int .i64 81)], S10)) (
ldI .u64 S10 (.rw b1) 1 fun v12 =>
cond (v12 == 0) (
some (.tup [(.sl none 0 (.ex 0)), (.int .i64 81)], S10)) (
callB call 36 [(.sl (some (.rw b9, 0)) 6 (.ex 6))] S10 fun v14 S13 =>
cond (!v14) (
some (.tup [(.sl none 0 (.ex 0)), (.int .i64 81)], S13)) (
newA S13 (.cells [(.int .u8 74), (.int .u8 83), (.int .u8 85), (.int .u8 80)]) fun b15 S16 =>
convLL S16 (some (.rw b15, 0)) 4 (.ex 4) fun v18a v18l v18c S17 =>
l1_1_1_1_0_1_0 v18a v18l v18c (some (.rw b9, 0)) 6 (.ex 6) ((6 : Nat) : Int) 0 S17)))

def r46_l1_1_1_1_0_1_0 (call : CallA) (n : Nat)  (m : Nat) (w5a : Option Pos) (w5l : Nat) (w5c : Cap) (w36a : Option Pos) (w36l : Nat) (w36c : Cap) (w37 : Int) (w38 : Int) (S : AS) : Option (AV × AS) := loopN (evC E call n 46 (E.at 46 [1, 1, 1, 1, 0, 1, 0, 0]) 0) [5, 36, 37, 38] m [(5, (.sl w5a w5l w5c)), (36, (.sl w36a w36l w36c)), (37, (.int .i64 w37)), (38, (.int .i64 w38))] S (kBlk 0 (kSeq E call n 46 (E.at 46 [1, 1, 1, 1, 1]) 0 (retK E (E.fn 46))))
def r46_j1_1_1_1_1 (call : CallA) (n : Nat)  (w5a : Option Pos) (w5l : Nat) (w5c : Cap) (S : AS) : Option (AV × AS) := evC E call n 46 (E.at 46 [1, 1, 1, 1, 1]) 0 [(5, (.sl w5a w5l w5c))] S (retK E (E.fn 46))
theorem a46_l1_1_1_1_0_1_0 (call : CallA) (n : Nat)  (m : Nat) (w5a : Option Pos) (w5l : Nat) (w5c : Cap) (w36a : Option Pos) (w36l : Nat) (w36c : Cap) (w37 : Int) (w38 : Int) (S : AS) : r46_l1_1_1_1_0_1_0 call n  (m + 1) w5a w5l w5c w36a w36l w36c w37 w38 S = b46_l1_1_1_1_0_1_0 call n (r46_l1_1_1_1_0_1_0 call n  m) (r46_j1_1_1_1_1 call n ) w5a w5l w5c w36a w36l w36c w37 w38 S := by kernel_rfl
theorem a46_j1_1_1_1_1 (call : CallA) (n : Nat)  (w5a : Option Pos) (w5l : Nat) (w5c : Cap) (S : AS) : r46_j1_1_1_1_1 call n  w5a w5l w5c S = b46_j1_1_1_1_1 call n  w5a w5l w5c S := by kernel_rfl
theorem a46_entry (call : CallA) (n : Nat) (x0 : List AV) (S : AS) : evC E call n 46 (E.at 46 []) 0 (enumT 0 [(.agg x0)]) S (retK E (E.fn 46)) = b46_entry call n (r46_l1_1_1_1_0_1_0 call n  n) x0 S := by kernel_rfl
def J46_j1_1_1_1_1 (call : CallA) (n : Nat)  (w5a : Option Pos) (w5l : Nat) (w5c : Cap) (S : AS) : Option (AV × AS) := b46_j1_1_1_1_1 call n  w5a w5l w5c S
theorem h46_j1_1_1_1_1 (call : CallA) (n : Nat)  : r46_j1_1_1_1_1 call n  = J46_j1_1_1_1_1 call n  := by
  funext w5a w5l w5c S
  rw [J46_j1_1_1_1_1, a46_j1_1_1_1_1]
def J46_l1_1_1_1_0_1_0 (call : CallA) (n : Nat)  (m : Nat) : Option Pos → Nat → Cap → Option Pos → Nat → Cap → Int → Int → AS → Option (AV × AS) := Nat.rec (motive := fun _ => Option Pos → Nat → Cap → Option Pos → Nat → Cap → Int → Int → AS → Option (AV × AS)) (fun _ _ _ _ _ _ _ _ _ => none) (fun _ ih w5a w5l w5c w36a w36l w36c w37 w38 S => b46_l1_1_1_1_0_1_0 call n ih (J46_j1_1_1_1_1 call n ) w5a w5l w5c w36a w36l w36c w37 w38 S) m
theorem J46_l1_1_1_1_0_1_0_succ (call : CallA) (n : Nat)  (m : Nat) (w5a : Option Pos) (w5l : Nat) (w5c : Cap) (w36a : Option Pos) (w36l : Nat) (w36c : Cap) (w37 : Int) (w38 : Int) (S : AS) : J46_l1_1_1_1_0_1_0 call n  (m + 1) w5a w5l w5c w36a w36l w36c w37 w38 S = b46_l1_1_1_1_0_1_0 call n (J46_l1_1_1_1_0_1_0 call n  m) (J46_j1_1_1_1_1 call n ) w5a w5l w5c w36a w36l w36c w37 w38 S := rfl
theorem h46_l1_1_1_1_0_1_0 (call : CallA) (n : Nat)  (m : Nat) : r46_l1_1_1_1_0_1_0 call n  m = J46_l1_1_1_1_0_1_0 call n  m := by
  induction m with
  | zero => rfl
  | succ m ih =>
    funext w5a w5l w5c w36a w36l w36c w37 w38 S
    rw [J46_l1_1_1_1_0_1_0_succ, a46_l1_1_1_1_0_1_0, h46_j1_1_1_1_1 call n , ih]
def J46 (call : CallA) (n : Nat) (x0 : List AV) (S : AS) : Option (AV × AS) := b46_entry call n (J46_l1_1_1_1_0_1_0 call n  n) x0 S
theorem run46 (o : Orc) (n : Nat) (args : List AV) (S : AS) (ho : o 46 args = none) : evF E o (n + 1) (.fn 46) args S = evC E (evF E o n) n 46 (E.at 46 []) 0 (enumT 0 args) S (retK E (E.fn 46)) := by
  rw [evF, ho]; kernel_rfl
theorem J46_eq (call : CallA) (n : Nat) (x0 : List AV) (S : AS) : evC E call n 46 (E.at 46 []) 0 (enumT 0 [(.agg x0)]) S (retK E (E.fn 46)) = J46 call n x0 S := by
  rw [J46, a46_entry, h46_l1_1_1_1_0_1_0 call n  n]
theorem F46 {o : Orc} (n : Nat) (x0 : List AV) (S : AS) (ho : ∀ args, o 46 args = none) : evF E o (n + 1) (.fn 46) [(.agg x0)] S = J46 (evF E o n) n x0 S := (run46 o n [(.agg x0)] S (ho _)).trans (J46_eq _ _ x0 S)
def b47_l1_1_0_1_0 (call : CallA) (n : Nat) (l1_1_0_1_0 : Int → Option Pos → Int → AS → Option (AV × AS)) (w0 : Int) (w7 : Option Pos) (w8 : Int) (S : AS) : Option (AV × AS) :=
cond (decide (w8 < w0)) (
drawA S 11 fun b3 S4 =>
gO w7 fun p5 =>
ldL S4 p5.1 p5.2 fun v6a v6l v6c =>
mkSl 1 384 384 fun l7 c8 =>
layA S4 (b3 + 6) (.cells [(.sl (some (.rw (b3 + 5), 0)) l7 (.ex c8))]) fun S9 =>
layA S9 (b3 + 5) (.cells (zeros c8 [(.int .u8 0)])) fun S10 =>
appendA 1 24 S10 v6a v6l v6c 1 (firstA S10 1 1 (.sl (some (.rw (b3 + 6), 0)) 1 (.ex 1))) fun v11a v11l v11c S12 =>
gO w7 fun p13 =>
S12.stn p13.1 p13.2 [(.sl v11a v11l v11c)] fun S14 =>
l1_1_0_1_0 w0 w7 (IntKind.wrap .i64 (w8 + 1)) S14) (
some ((.ptr w7), S))

def b47_entry (call : CallA) (n : Nat) (l1_1_0_1_0 : Int → Option Pos → Int → AS → Option (AV × AS)) (x0 : Int) (x1 : Int) (x2 : Int) (S : AS) : Option (AV × AS) :=
newA S (.cells [(.sl none 0 (.ex 0)), (.sl none 0 (.ex 0)), (.int .i64 0), (.int .i64 x1), (.int .i64 x2)]) fun b1 S2 =>
l1_1_0_1_0 x0 (some ((.rw b1), 0)) 0 S2

def r47_l1_1_0_1_0 (call : CallA) (n : Nat)  (m : Nat) (w0 : Int) (w7 : Option Pos) (w8 : Int) (S : AS) : Option (AV × AS) := loopN (evC E call n 47 (E.at 47 [1, 1, 0, 1, 0, 0]) 0) [0, 7, 8] m [(0, (.int .i64 w0)), (7, (.ptr w7)), (8, (.int .i64 w8))] S (kBlk 0 (kSeq E call n 47 (E.at 47 [1, 1, 1]) 0 (retK E (E.fn 47))))
theorem a47_l1_1_0_1_0 (call : CallA) (n : Nat)  (m : Nat) (w0 : Int) (w7 : Option Pos) (w8 : Int) (S : AS) : r47_l1_1_0_1_0 call n  (m + 1) w0 w7 w8 S = b47_l1_1_0_1_0 call n (r47_l1_1_0_1_0 call n  m) w0 w7 w8 S := by kernel_rfl
theorem a47_entry (call : CallA) (n : Nat) (x0 : Int) (x1 : Int) (x2 : Int) (S : AS) : evC E call n 47 (E.at 47 []) 0 (enumT 0 [(.int .i64 x0), (.int .i64 x1), (.int .i64 x2)]) S (retK E (E.fn 47)) = b47_entry call n (r47_l1_1_0_1_0 call n  n) x0 x1 x2 S := by kernel_rfl
def J47_l1_1_0_1_0 (call : CallA) (n : Nat)  (m : Nat) : Int → Option Pos → Int → AS → Option (AV × AS) := Nat.rec (motive := fun _ => Int → Option Pos → Int → AS → Option (AV × AS)) (fun _ _ _ _ => none) (fun _ ih w0 w7 w8 S => b47_l1_1_0_1_0 call n ih w0 w7 w8 S) m
theorem J47_l1_1_0_1_0_succ (call : CallA) (n : Nat)  (m : Nat) (w0 : Int) (w7 : Option Pos) (w8 : Int) (S : AS) : J47_l1_1_0_1_0 call n  (m + 1) w0 w7 w8 S = b47_l1_1_0_1_0 call n (J47_l1_1_0_1_0 call n  m) w0 w7 w8 S := rfl
theorem h47_l1_1_0_1_0 (call : CallA) (n : Nat)  (m : Nat) : r47_l1_1_0_1_0 call n  m = J47_l1_1_0_1_0 call n  m := by
  induction m with
  | zero => rfl
  | succ m ih =>
    funext w0 w7 w8 S
    rw [J47_l1_1_0_1_0_succ, a47_l1_1_0_1_0, ih]
def J47 (call : CallA) (n : Nat) (x0 : Int) (x1 : Int) (x2 : Int) (S : AS) : Option (AV × AS) := b47_entry call n (J47_l1_1_0_1_0 call n  n) x0 x1 x2 S
theorem run47 (o : Orc) (n : Nat) (args : List AV) (S : AS) (ho : o 47 args = none) : evF E o (n + 1) (.fn 47) args S = evC E (evF E o n) n 47 (E.at 47 []) 0 (enumT 0 args) S (retK E (E.fn 47)) := by
  rw [evF, ho]; kernel_rfl
theorem J47_eq (call : CallA) (n : Nat) (x0 : Int) (x1 : Int) (x2 : Int) (S : AS) : evC E call n 47 (E.at 47 []) 0 (enumT 0 [(.int .i64 x0), (.int .i64 x1), (.int .i64 x2)]) S (retK E (E.fn 47)) = J47 call n x0 x1 x2 S := by
  rw [J47, a47_entry, h47_l1_1_0_1_0 call n  n]
theorem F47 {o : Orc} (n : Nat) (x0 : Int) (x1 : Int) (x2 : Int) (S : AS) (ho : ∀ args, o 47 args = none) : evF E o (n + 1) (.fn 47) [(.int .i64 x0), (.int .i64 x1), (.int .i64 x2)] S = J47 (evF E o n) n x0 x1 x2 S := (run47 o n [(.int .i64 x0), (.int .i64 x1), (.int .i64 x2)] S (ho _)).trans (J47_eq _ _ x0 x1 x2 S)
def b48_l1_1_0_1_0 (call : CallA) (n : Nat) (l1_1_0_1_0 : Option Pos → Nat → Cap → Option Pos → Nat → Cap → Bool → Int → AS → Option (AV × AS)) (w0a : Option Pos) (w0l : Nat) (w0c : Cap) (w1a : Option Pos) (w1l : Nat) (w1c : Cap) (w4 : Bool) (w5 : Int) (S : AS) : Option (AV × AS) :=
cond (decide (w5 < ((w0l : Nat) : Int))) (
ixSl 1 w0a w0l w5 fun p1 =>
ldI .i64 S p1.1 p1.2 fun v2 =>
ixSl 1 w1a w1l w5 fun p3 =>
ldI .i64 S p3.1 p3.2 fun v4 =>
cond (v2 != v4) (
some ((.bool false), S)) (
l1_1_0_1_0 w0a w0l w0c w1a w1l w1c w4 (IntKind.wrap .i64 (w5 + 1)) S)) (
some ((.bool true), S))

def b48_entry (call : CallA) (n : Nat) (l1_1_0_1_0 : Option Pos → Nat → Cap → Option Pos → Nat → Cap → Bool → Int → AS → Option (AV × AS)) (x0a : Option Pos) (x0l : Nat) (x0c : Cap) (x1a : Option Pos) (x1l : Nat) (x1c : Cap) (S : AS) : Option (AV × AS) :=
cond (((x0l : Nat) : Int) != ((x1l : Nat) : Int)) (
some ((.bool false), S)) (
l1_1_0_1_0 x0a x0l x0c x1a x1l x1c false 0 S)

def r48_l1_1_0_1_0 (call : CallA) (n : Nat)  (m : Nat) (w0a : Option Pos) (w0l : Nat) (w0c : Cap) (w1a : Option Pos) (w1l : Nat) (w1c : Cap) (w4 : Bool) (w5 : Int) (S : AS) : Option (AV × AS) := loopN (evC E call n 48 (E.at 48 [1, 1, 0, 1, 0, 0]) 0) [0, 1, 4, 5] m [(0, (.sl w0a w0l w0c)), (1, (.sl w1a w1l w1c)), (4, (.bool w4)), (5, (.int .i64 w5))] S (kBlk 0 (kSeq E call n 48 (E.at 48 [1, 1, 1]) 0 (retK E (E.fn 48))))
theorem a48_l1_1_0_1_0 (call : CallA) (n : Nat)  (m : Nat) (w0a : Option Pos) (w0l : Nat) (w0c : Cap) (w1a : Option Pos) (w1l : Nat) (w1c : Cap) (w4 : Bool) (w5 : Int) (S : AS) : r48_l1_1_0_1_0 call n  (m + 1) w0a w0l w0c w1a w1l w1c w4 w5 S = b48_l1_1_0_1_0 call n (r48_l1_1_0_1_0 call n  m) w0a w0l w0c w1a w1l w1c w4 w5 S := by kernel_rfl
theorem a48_entry (call : CallA) (n : Nat) (x0a : Option Pos) (x0l : Nat) (x0c : Cap) (x1a : Option Pos) (x1l : Nat) (x1c : Cap) (S : AS) : evC E call n 48 (E.at 48 []) 0 (enumT 0 [(.sl x0a x0l x0c), (.sl x1a x1l x1c)]) S (retK E (E.fn 48)) = b48_entry call n (r48_l1_1_0_1_0 call n  n) x0a x0l x0c x1a x1l x1c S := by kernel_rfl
def J48_l1_1_0_1_0 (call : CallA) (n : Nat)  (m : Nat) : Option Pos → Nat → Cap → Option Pos → Nat → Cap → Bool → Int → AS → Option (AV × AS) := Nat.rec (motive := fun _ => Option Pos → Nat → Cap → Option Pos → Nat → Cap → Bool → Int → AS → Option (AV × AS)) (fun _ _ _ _ _ _ _ _ _ => none) (fun _ ih w0a w0l w0c w1a w1l w1c w4 w5 S => b48_l1_1_0_1_0 call n ih w0a w0l w0c w1a w1l w1c w4 w5 S) m
theorem J48_l1_1_0_1_0_succ (call : CallA) (n : Nat)  (m : Nat) (w0a : Option Pos) (w0l : Nat) (w0c : Cap) (w1a : Option Pos) (w1l : Nat) (w1c : Cap) (w4 : Bool) (w5 : Int) (S : AS) : J48_l1_1_0_1_0 call n  (m + 1) w0a w0l w0c w1a w1l w1c w4 w5 S = b48_l1_1_0_1_0 call n (J48_l1_1_0_1_0 call n  m) w0a w0l w0c w1a w1l w1c w4 w5 S := rfl
theorem h48_l1_1_0_1_0 (call : CallA) (n : Nat)  (m : Nat) : r48_l1_1_0_1_0 call n  m = J48_l1_1_0_1_0 call n  m := by
  induction m with
  | zero => rfl
  | succ m ih =>
    funext w0a w0l w0c w1a w1l w1c w4 w5 S
    rw [J48_l1_1_0_1_0_succ, a48_l1_1_0_1_0, ih]
def J48 (call : CallA) (n : Nat) (x0a : Option Pos) (x0l : Nat) (x0c : Cap) (x1a : Option Pos) (x1l : Nat) (x1c : Cap) (S : AS) : Option (AV × AS) := b48_entry call n (J48_l1_1_0_1_0 call n  n) x0a x0l x0c x1a x1l x1c S
theorem run48 (o : Orc) (n : Nat) (args : List AV) (S : AS) (ho : o 48 args = none) : evF E o (n + 1) (.fn 48) args S = evC E (evF E o n) n 48 (E.at 48 []) 0 (enumT 0 args) S (retK E (E.fn 48)) := by
  rw [evF, ho]; kernel_rfl
theorem J48_eq (call : CallA) (n : Nat) (x0a : Option Pos) (x0l : Nat) (x0c : Cap) (x1a : Option Pos) (x1l : Nat) (x1c : Cap) (S : AS) : evC E call n 48 (E.at 48 []) 0 (enumT 0 [(.sl x0a x0l x0c), (.sl x1a x1l x1c)]) S (retK E (E.fn 48)) = J48 call n x0a x0l x0c x1a x1l x1c S := by
  rw [J48, a48_entry, h48_l1_1_0_1_0 call n  n]
theorem F48 {o : Orc} (n : Nat) (x0a : Option Pos) (x0l : Nat) (x0c : Cap) (x1a : Option Pos) (x1l : Nat) (x1c : Cap) (S : AS) (ho : ∀ args, o 48 args = none) : evF E o (n + 1) (.fn 48) [(.sl x0a x0l x0c), (.sl x1a x1l x1c)] S = J48 (evF E o n) n x0a x0l x0c x1a x1l x1c S := (run48 o n [(.sl x0a x0l x0c), (.sl x1a x1l x1c)] S (ho _)).trans (J48_eq _ _ x0a x0l x0c x1a x1l x1c S)
def b49_entry (call : CallA) (n : Nat)  (x0 : Option Pos) (x1 : Int) (S : AS) : Option (AV × AS) :=
callI .i64 call 53 [(.ptr x0), (.int .i64 x1)] S fun v2 S1 =>
cond (v2 != 0) (
some (.tup [(.ptr none), (.int .i64 v2)], S1)) (
gO x0 fun p3 =>
ldM S1 p3.1 (p3.2 + 2) fun v4 =>
mapAt ty95 ty3.k S1 v4 (.int .i64 x1) fun v5 v5k =>
gP v5 fun v6 =>
cond (!v6.isNone) (
gO x0 fun p7 =>
ldI .i64 S1 p7.1 (p7.2 + 6) fun v8 =>
gO x0 fun p9 =>
S1.stn p9.1 (p9.2 + 6) [(.int .i64 (IntKind.wrap .i64 (v8 + 1)))] fun S10 =>
callT call 56 [(.ptr x0), (.ptr v6)] S10 fun v12 S11 =>
some (.tup [(.ptr v6), (.int .i64 0)], S11)) (
callI .i64 call 54 [(.ptr x0)] S1 fun v14 S13 =>
cond (v14 != 0) (
some (.tup [(.ptr none), (.int .i64 v14)], S13)) (
gO x0 fun p15 =>
ldV S13 p15.1 p15.2 fun v16 =>
invV E call v16 "Read" [(.int .i64 x1)] S13 fun v18 S17 =>
gT v18 fun v19 =>
atL v19 0 fun v20a v20l v20c =>
atI .i64 v19 1 fun v21 =>
cond (v21 != 0) (
some (.tup [(.ptr none), (.int .i64 v21)], S17)) (
gO x0 fun p22 =>
ldI .i64 S17 p22.1 (p22.2 + 7) fun v23 =>
gO x0 fun p24 =>
S17.stn p24.1 (p24.2 + 7) [(.int .i64 (IntKind.wrap .i64 (v23 + 1)))] fun S25 =>
callP call 55 [(.ptr x0), (.int .i64 x1), (.sl v20a v20l v20c)] S25 fun v27 S26 =>
some (.tup [(.ptr v27), (.int .i64 0)], S26)))))

theorem a49_entry (call : CallA) (n : Nat) (x0 : Option Pos) (x1 : Int) (S : AS) : evC E call n 49 (E.at 49 []) 0 (enumT 0 [(.ptr x0), (.int .i64 x1)]) S (retK E (E.fn 49)) = b49_entry call n  x0 x1 S := by kernel_rfl
def J49 (call : CallA) (n : Nat) (x0 : Option Pos) (x1 : Int) (S : AS) : Option (AV × AS) := b49_entry call n  x0 x1 S
theorem run49 (o : Orc) (n : Nat) (args : List AV) (S : AS) (ho : o 49 args = none) : evF E o (n + 1) (.fn 49) args S = evC E (evF E o n) n 49 (E.at 49 []) 0 (enumT 0 args) S (retK E (E.fn 49)) := by
  rw [evF, ho]; kernel_rfl
theorem J49_eq (call : CallA) (n : Nat) (x0 : Option Pos) (x1 : Int) (S : AS) : evC E call n 49 (E.at 49 []) 0 (enumT 0 [(.ptr x0), (.int .i64 x1)]) S (retK E (E.fn 49)) = J49 call n x0 x1 S := by
  rw [J49, a49_entry]
theorem F49 {o : Orc} (n : Nat) (x0 : Option Pos) (x1 : Int) (S : AS) (ho : ∀ args, o 49 args = none) : evF E o (n + 1) (.fn 49) [(.ptr x0), (.int .i64 x1)] S = J49 (evF E o n) n x0 x1 S := (run49 o n [(.ptr x0), (.int .i64 x1)] S (ho _)).trans (J49_eq _ _ x0 x1 S)
def b50_entry (call : CallA) (n : Nat)  (x0a : Option Pos) (x0l : Nat) (x0c : Cap) (S : AS) : Option (AV × AS) :=
cond x0a.isNone (
some ((.sl none 0 (.ex 0)), S)) (
newA S (.cells []) fun b1 S2 =>
appendA 1 1 S2 (some (.rw b1, 0)) 0 (.ex 0) x0l (firstA S2 1 x0l (.sl x0a x0l x0c)) fun v3a v3l v3c S4 =>
some ((.sl v3a v3l v3c), S4))

theorem a50_entry (call : CallA) (n : Nat) (x0a : Option Pos) (x0l : Nat) (x0c : Cap) (S : AS) : evC E call n 50 (E.at 50 []) 0 (enumT 0 [(.sl x0a x0l x0c)]) S (retK E (E.fn 50)) = b50_entry call n  x0a x0l x0c S := by kernel_rfl
def J50 (call : CallA) (n : Nat) (x0a : Option Pos) (x0l : Nat) (x0c : Cap) (S : AS) : Option (AV × AS) := b50_entry call n  x0a x0l x0c S
theorem run50 (o : Orc) (n : Nat) (args : List AV) (S : AS) (ho : o 50 args = none) : evF E o (n + 1) (.fn 50) args S = evC E (evF E o n) n 50 (E.at 50 []) 0 (enumT 0 args) S (retK E (E.fn 50)) := by
  rw [evF, ho]; kernel_rfl
theorem J50_eq (call : CallA) (n : Nat) (x0a : Option Pos) (x0l : Nat) (x0c : Cap) (S : AS) : evC E call n 50 (E.at 50 []) 0 (enumT 0 [(.sl x0a x0l x0c)]) S (retK E (E.fn 50)) = J50 call n x0a x0l x0c S := by
  rw [J50, a50_entry]
theorem F50 {o : Orc} (n : Nat) (x0a : Option Pos) (x0l : Nat) (x0c : Cap) (S : AS) (ho : ∀ args, o 50 args = none) : evF E o (n + 1) (.fn 50) [(.sl x0a x0l x0c)] S = J50 (evF E o n) n x0a x0l x0c S := (run50 o n [(.sl x0a x0l x0c)] S (ho _)).trans (J50_eq _ _ x0a x0l x0c S)
def b52_entry (call : CallA) (n : Nat)  (x0 : Option Pos) (x1 : Option Pos) (S : AS) : Option (AV × AS) :=
gO x0 fun p1 =>
ldV S p1.1 p1.2 fun v2 =>
gO x1 fun p3 =>
ldI .i64 S p3.1 (p3.2 + 2) fun v4 =>
gO x1 fun p5 =>
ldL S p5.1 (p5.2 + 3) fun v6a v6l v6c =>
callL call 50 [(.sl v6a v6l v6c)] S fun v8a v8l v8c S7 =>
ldI .i64 S7 p3.1 (p3.2 + 2) fun v9 =>
cond (AV.beq (.int .i64 v9) (.int .i64 v4)) (
ldV S7 p1.1 p1.2 fun v10 =>
cond (AV.beq v10 v2) (
nilV E v2 fun v11 =>
invV E call v2 "Write" [(.int .i64 v4), (.sl v8a v8l v8c)] S7 fun v13 S12 =>
gIk .i64 v13 fun v14 =>
cond (v14 == 0) (
gO x1 fun p15 =>
S12.stn p15.1 (p15.2 + 4) [(.bool false)] fun S16 =>
gO x1 fun p17 =>
S16.stn p17.1 (p17.2 + 5) [(.int .u64 0)] fun S18 =>
gO x1 fun p19 =>
S18.stn p19.1 (p19.2 + 6) [(.int .u64 0)] fun S20 =>
some ((.int .i64 v14), S20)) (
some ((.int .i64 v14), S12))) none) none

theorem a52_entry (call : CallA) (n : Nat) (x0 : Option Pos) (x1 : Option Pos) (S : AS) : evC E call n 52 (E.at 52 []) 0 (enumT 0 [(.ptr x0), (.ptr x1)]) S (retK E (E.fn 52)) = b52_entry call n  x0 x1 S := by kernel_rfl
def J52 (call : CallA) (n : Nat) (x0 : Option Pos) (x1 : Option Pos) (S : AS) : Option (AV × AS) := b52_entry call n  x0 x1 S
theorem run52 (o : Orc) (n : Nat) (args : List AV) (S : AS) (ho : o 52 args = none) : evF E o (n + 1) (.fn 52) args S = evC E (evF E o n) n 52 (E.at 52 []) 0 (enumT 0 args) S (retK E (E.fn 52)) := by
  rw [evF, ho]; kernel_rfl
theorem J52_eq (call : CallA) (n : Nat) (x0 : Option Pos) (x1 : Option Pos) (S : AS) : evC E call n 52 (E.at 52 []) 0 (enumT 0 [(.ptr x0), (.ptr x1)]) S (retK E (E.fn 52)) = J52 call n x0 x1 S := by
  rw [J52, a52_entry]
theorem F52 {o : Orc} (n : Nat) (x0 : Option Pos) (x1 : Option Pos) (S : AS) (ho : ∀ args, o 52 args = none) : evF E o (n + 1) (.fn 52) [(.ptr x0), (.ptr x1)] S = J52 (evF E o n) n x0 x1 S := (run52 o n [(.ptr x0), (.ptr x1)] S (ho _)).trans (J52_eq _ _ x0 x1 S)
def b53_entry (call : CallA) (n : Nat)  (x0 : Option Pos) (x1 : Int) (S : AS) : Option (AV × AS) :=
cond x0.isNone (
some ((.int .i64 7), S)) (
cond (decide (x1 < 0)) (
some ((.int .i64 2), S)) (
gO x0 fun p1 =>
ldV S p1.1 p1.2 fun v2 =>
invV E call v2 "Len" [] S fun v4 S3 =>
gIk .i64 v4 fun v5 =>
cond (decide (x1 ≥ v5)) (
some ((.int .i64 2), S3)) (
some ((.int .i64 0), S3))))

theorem a53_entry (call : CallA) (n : Nat) (x0 : Option Pos) (x1 : Int) (S : AS) : evC E call n 53 (E.at 53 []) 0 (enumT 0 [(.ptr x0), (.int .i64 x1)]) S (retK E (E.fn 53)) = b53_entry call n  x0 x1 S := by kernel_rfl
def J53 (call : CallA) (n : Nat) (x0 : Option Pos) (x1 : Int) (S : AS) : Option (AV × AS) := b53_entry call n  x0 x1 S
theorem run53 (o : Orc) (n : Nat) (args : List AV) (S : AS) (ho : o 53 args = none) : evF E o (n + 1) (.fn 53) args S = evC E (evF E o n) n 53 (E.at 53 []) 0 (enumT 0 args) S (retK E (E.fn 53)) := by
  rw [evF, ho]; kernel_rfl
theorem J53_eq (call : CallA) (n : Nat) (x0 : Option Pos) (x1 : Int) (S : AS) : evC E call n 53 (E.at 53 []) 0 (enumT 0 [(.ptr x0), (.int .i64 x1)]) S (retK E (E.fn 53)) = J53 call n x0 x1 S := by
  rw [J53, a53_entry]
theorem F53 {o : Orc} (n : Nat) (x0 : Option Pos) (x1 : Int) (S : AS) (ho : ∀ args, o 53 args = none) : evF E o (n + 1) (.fn 53) [(.ptr x0), (.int .i64 x1)] S = J53 (evF E o n) n x0 x1 S := (run53 o n [(.ptr x0), (.int .i64 x1)] S (ho _)).trans (J53_eq _ _ x0 x1 S)
def b54_l1_1_1_0_1_0 (call : CallA) (n : Nat) (l1_1_1_0_1_0 : Option Pos → Int → Bool → Option Pos → AS → Option (AV × AS)) (j1_1_1_0_1_0_0_1_0_0_1_1_1 : Option Pos → Option Pos → AS → Option (AV × AS)) (j1_1_1_1 : Bool → AS → Option (AV × AS)) (w0 : Option Pos) (w2 : Int) (w3 : Bool) (w4 : Option Pos) (S : AS) : Option (AV × AS) :=
cond (!w4.isNone) (
cond w3 (
gO w4 fun p8 =>
ldI .i64 S p8.1 (p8.2 + 7) fun v9 =>
callB call 69 [(.ptr w0), (.ptr w4)] S fun v11 S10 =>
cond (!v11) (
gO w4 fun p12 =>
ldP S10 p12.1 (p12.2 + 1) fun v13 =>
l1_1_1_0_1_0 w0 w2 (decide (v9 > 0)) v13 S10) (
gO w4 fun p14 =>
ldB S10 p14.1 (p14.2 + 4) fun v15 =>
cond v15 (
callI .i64 call 52 [(.ptr w0), (.ptr w4)] S10 fun v17 S16 =>
cond (v17 != 0) (
some ((.int .i64 v17), S16)) (
j1_1_1_0_1_0_0_1_0_0_1_1_1 w0 w4 S16)) (
j1_1_1_0_1_0_0_1_0_0_1_1_1 w0 w4 S10))) (
callB call 69 [(.ptr w0), (.ptr w4)] S fun v19 S18 =>
cond (!v19) (
gO w4 fun p20 =>
ldP S18 p20.1 (p20.2 + 1) fun v21 =>
l1_1_1_0_1_0 w0 w2 false v21 S18) (
gO w4 fun p22 =>
ldB S18 p22.1 (p22.2 + 4) fun v23 =>
cond v23 (
callI .i64 call 52 [(.ptr w0), (.ptr w4)] S18 fun v25 S24 =>
cond (v25 != 0) (
some ((.int .i64 v25), S24)) (
j1_1_1_0_1_0_0_1_0_0_1_1_1 w0 w4 S24)) (
j1_1_1_0_1_0_0_1_0_0_1_1_1 w0 w4 S18)))) (
j1_1_1_1 w3 S)

def b54_j1_1_1_0_1_0_0_1_0_0_1_1_1 (call : CallA) (n : Nat)  (w0 : Option Pos) (w4 : Option Pos) (S : AS) : Option (AV × AS) :=
callT call 57 [(.ptr w0), (.ptr w4)] S fun v27 S26 =>
gO w0 fun p28 =>
ldM S26 p28.1 (p28.2 + 2) fun v29 =>
gO w4 fun p30 =>
ldI .i64 S26 p30.1 (p30.2 + 2) fun v31 =>
mapDel ty3.k S26 v29 (.int .i64 v31) fun S32 =>
some ((.int .i64 0), S32)

def b54_j1_1_1_1 (call : CallA) (n : Nat)  (w3 : Bool) (S : AS) : Option (AV × AS) :=
cond w3 (
some ((.int .i64 90), S)) (
some ((.int .i64 91), S))

def b54_entry (call : CallA) (n : Nat) (l1_1_1_0_1_0 : Option Pos → Int → Bool → Option Pos → AS → Option (AV × AS)) (x0 : Option Pos) (S : AS) : Option (AV × AS) :=
gO x0 fun p1 =>
ldM S p1.1 (p1.2 + 2) fun v2 =>
S.mapLen v2 fun n3 =>
gO x0 fun p4 =>
ldI .i64 S p4.1 (p4.2 + 1) fun v5 =>
cond (decide (((n3 : Nat) : Int) < v5)) (
some ((.int .i64 0), S)) (
gO x0 fun p6 =>
ldP S p6.1 (p6.2 + 3) fun v7 =>
l1_1_1_0_1_0 x0 0 true v7 S)

def r54_l1_1_1_0_1_0 (call : CallA) (n : Nat)  (m : Nat) (w0 : Option Pos) (w2 : Int) (w3 : Bool) (w4 : Option Pos) (S : AS) : Option (AV × AS) := loopN (evC E call n 54 (E.at 54 [1, 1, 1, 0, 1, 0, 0]) 0) [0, 2, 3, 4] m [(0, (.ptr w0)), (2, (.int .i64 w2)), (3, (.bool w3)), (4, (.ptr w4))] S (kBlk 0 (kSeq E call n 54 (E.at 54 [1, 1, 1, 1]) 0 (retK E (E.fn 54))))
def r54_j1_1_1_0_1_0_0_1_0_0_1_1_1 (call : CallA) (n : Nat) (m1_1_1_0_1_0 : Nat) (w0 : Option Pos) (w4 : Option Pos) (S : AS) : Option (AV × AS) := evC E call n 54 (E.at 54 [1, 1, 1, 0, 1, 0, 0, 1, 0, 0, 1, 1, 1]) 1 [(0, (.ptr w0)), (4, (.ptr w4))] S (kBlk 1 (kSeq E call n 54 (E.at 54 [1, 1, 1, 0, 1, 0, 0, 1, 1]) 0 (kLp (evC E call n 54 (E.at 54 [1, 1, 1, 0, 1, 0, 0]) 0) [0, 2, 3, 4] m1_1_1_0_1_0 (kBlk 0 (kSeq E call n 54 (E.at 54 [1, 1, 1, 1]) 0 (retK E (E.fn 54)))))))
def r54_j1_1_1_1 (call : CallA) (n : Nat)  (w3 : Bool) (S : AS) : Option (AV × AS) := evC E call n 54 (E.at 54 [1, 1, 1, 1]) 0 [(3, (.bool w3))] S (retK E (E.fn 54))
theorem a54_l1_1_1_0_1_0 (call : CallA) (n : Nat)  (m : Nat) (w0 : Option Pos) (w2 : Int) (w3 : Bool) (w4 : Option Pos) (S : AS) : r54_l1_1_1_0_1_0 call n  (m + 1) w0 w2 w3 w4 S = b54_l1_1_1_0_1_0 call n (r54_l1_1_1_0_1_0 call n  m) (r54_j1_1_1_0_1_0_0_1_0_0_1_1_1 call n m) (r54_j1_1_1_1 call n ) w0 w2 w3 w4 S := by kernel_rfl
theorem a54_j1_1_1_0_1_0_0_1_0_0_1_1_1 (call : CallA) (n : Nat) (m1_1_1_0_1_0 : Nat) (w0 : Option Pos) (w4 : Option Pos) (S : AS) : r54_j1_1_1_0_1_0_0_1_0_0_1_1_1 call n m1_1_1_0_1_0 w0 w4 S = b54_j1_1_1_0_1_0_0_1_0_0_1_1_1 call n  w0 w4 S := by kernel_rfl
theorem a54_j1_1_1_1 (call : CallA) (n : Nat)  (w3 : Bool) (S : AS) : r54_j1_1_1_1 call n  w3 S = b54_j1_1_1_1 call n  w3 S := by kernel_rfl
theorem a54_entry (call : CallA) (n : Nat) (x0 : Option Pos) (S : AS) : evC E call n 54 (E.at 54 []) 0 (enumT 0 [(.ptr x0)]) S (retK E (E.fn 54)) = b54_entry call n (r54_l1_1_1_0_1_0 call n  n) x0 S := by kernel_rfl
def J54_j1_1_1_0_1_0_0_1_0_0_1_1_1 (call : CallA) (n : Nat) (n1_1_1_0_1_0 : Option Pos → Int → Bool → Option Pos → AS → Option (AV × AS)) (w0 : Option Pos) (w4 : Option Pos) (S : AS) : Option (AV × AS) := b54_j1_1_1_0_1_0_0_1_0_0_1_1_1 call n  w0 w4 S
theorem h54_j1_1_1_0_1_0_0_1_0_0_1_1_1 (call : CallA) (n : Nat) (m1_1_1_0_1_0 : Nat) : r54_j1_1_1_0_1_0_0_1_0_0_1_1_1 call n m1_1_1_0_1_0 = J54_j1_1_1_0_1_0_0_1_0_0_1_1_1 call n (r54_l1_1_1_0_1_0 call n  m1_1_1_0_1_0) := by
  funext w0 w4 S
  rw [J54_j1_1_1_0_1_0_0_1_0_0_1_1_1, a54_j1_1_1_0_1_0_0_1_0_0_1_1_1]
def J54_j1_1_1_1 (call : CallA) (n : Nat)  (w3 : Bool) (S : AS) : Option (AV × AS) := b54_j1_1_1_1 call n  w3 S
theorem h54_j1_1_1_1 (call : CallA) (n : Nat)  : r54_j1_1_1_1 call n  = J54_j1_1_1_1 call n  := by
  funext w3 S
  rw [J54_j1_1_1_1, a54_j1_1_1_1]
def J54_l1_1_1_0_1_0 (call : CallA) (n : Nat)  (m : Nat) : Option Pos → Int → Bool → Option Pos → AS → Option (AV × AS) := Nat.rec (motive := fun _ => Option Pos → Int → Bool → Option Pos → AS → Option (AV × AS)) (fun _ _ _ _ _ => none) (fun _ ih w0 w2 w3 w4 S => b54_l1_1_1_0_1_0 call n ih (J54_j1_1_1_0_1_0_0_1_0_0_1_1_1 call n ih) (J54_j1_1_1_1 call n ) w0 w2 w3 w4 S) m
theorem J54_l1_1_1_0_1_0_succ (call : CallA) (n : Nat)  (m : Nat) (w0 : Option Pos) (w2 : Int) (w3 : Bool) (w4 : Option Pos) (S : AS) : J54_l1_1_1_0_1_0 call n  (m + 1) w0 w2 w3 w4 S = b54_l1_1_1_0_1_0 call n (J54_l1_1_1_0_1_0 call n  m) (J54_j1_1_1_0_1_0_0_1_0_0_1_1_1 call n (J54_l1_1_1_0_1_0 call n  m)) (J54_j1_1_1_1 call n ) w0 w2 w3 w4 S := rfl
theorem h54_l1_1_1_0_1_0 (call : CallA) (n : Nat)  (m : Nat) : r54_l1_1_1_0_1_0 call n  m = J54_l1_1_1_0_1_0 call n  m := by
  induction m with
  | zero => rfl
  | succ m ih =>
    funext w0 w2 w3 w4 S
    rw [J54_l1_1_1_0_1_0_succ, a54_l1_1_1_0_1_0, h54_j1_1_1_0_1_0_0_1_0_0_1_1_1 call n m, h54_j1_1_1_1 call n , ih]
def J54 (call : CallA) (n : Nat) (x0 : Option Pos) (S : AS) : Option (AV × AS) := b54_entry call n (J54_l1_1_1_0_1_0 call n  n) x0 S
theorem run54 (o : Orc) (n : Nat) (args : List AV) (S : AS) (ho : o 54 args = none) : evF E o (n + 1) (.fn 54) args S = evC E (evF E o n) n 54 (E.at 54 []) 0 (enumT 0 args) S (retK E (E.fn 54)) := by
  rw [evF, ho]; kernel_rfl
theorem J54_eq (call : CallA) (n : Nat) (x0 : Option Pos) (S : AS) : evC E call n 54 (E.at 54 []) 0 (enumT 0 [(.ptr x0)]) S (retK E (E.fn 54)) = J54 call n x0 S := by
  rw [J54, a54_entry, h54_l1_1_1_0_1_0 call n  n]
theorem F54 {o : Orc} (n : Nat) (x0 : Option Pos) (S : AS) (ho : ∀ args, o 54 args = none) : evF E o (n + 1) (.fn 54) [(.ptr x0)] S = J54 (evF E o n) n x0 S := (run54 o n [(.ptr x0)] S (ho _)).trans (J54_eq _ _ x0 S)
def b55_entry (call : CallA) (n : Nat)  (x0 : Option Pos) (x1 : Int) (x2a : Option Pos) (x2l : Nat) (x2c : Cap) (S : AS) : Option (AV × AS) :=
mkSl 1 384 384 fun l3 c4 =>
newA S (.cells (zeros c4 [(.int .u8 0)])) fun b1 S2 =>
newA S2 (.cells [(.ptr none), (.ptr none), (.int .i64 x1), (.sl (some (.rw b1, 0)) l3 (.ex c4)), (.bool false), (.int .u64 0), (.int .u64 0), (.int .i64 0)]) fun b5 S6 =>
ldL S6 (.rw b5) 3 fun v7a v7l v7c =>
copyA 1 S6 v7a v7l x2l (.sl x2a x2l x2c) fun n8 S9 =>
gO x0 fun p10 =>
ldM S9 p10.1 (p10.2 + 2) fun v11 =>
mapUp ty3.k S9 v11 (.int .i64 x1) (.ptr (some ((.rw b5), 0))) fun S12 =>
callT call 70 [(.ptr x0), (.ptr (some ((.rw b5), 0)))] S12 fun v14 S13 =>
some ((.ptr (some ((.rw b5), 0))), S13)

theorem a55_entry (call : CallA) (n : Nat) (x0 : Option Pos) (x1 : Int) (x2a : Option Pos) (x2l : Nat) (x2c : Cap) (S : AS) : evC E call n 55 (E.at 55 []) 0 (enumT 0 [(.ptr x0), (.int .i64 x1), (.sl x2a x2l x2c)]) S (retK E (E.fn 55)) = b55_entry call n  x0 x1 x2a x2l x2c S := by kernel_rfl
def J55 (call : CallA) (n : Nat) (x0 : Option Pos) (x1 : Int) (x2a : Option Pos) (x2l : Nat) (x2c : Cap) (S : AS) : Option (AV × AS) := b55_entry call n  x0 x1 x2a x2l x2c S
theorem run55 (o : Orc) (n : Nat) (args : List AV) (S : AS) (ho : o 55 args = none) : evF E o (n + 1) (.fn 55) args S = evC E (evF E o n) n 55 (E.at 55 []) 0 (enumT 0 args) S (retK E (E.fn 55)) := by
  rw [evF, ho]; kernel_rfl
theorem J55_eq (call : CallA) (n : Nat) (x0 : Option Pos) (x1 : Int) (x2a : Option Pos) (x2l : Nat) (x2c : Cap) (S : AS) : evC E call n 55 (E.at 55 []) 0 (enumT 0 [(.ptr x0), (.int .i64 x1), (.sl x2a x2l x2c)]) S (retK E (E.fn 55)) = J55 call n x0 x1 x2a x2l x2c S := by
  rw [J55, a55_entry]
theorem F55 {o : Orc} (n : Nat) (x0 : Option Pos) (x1 : Int) (x2a : Option Pos) (x2l : Nat) (x2c : Cap) (S : AS) (ho : ∀ args, o 55 args = none) : evF E o (n + 1) (.fn 55) [(.ptr x0), (.int .i64 x1), (.sl x2a x2l x2c)] S = J55 (evF E o n) n x0 x1 x2a x2l x2c S := (run55 o n [(.ptr x0), (.int .i64 x1), (.sl x2a x2l x2c)] S (ho _)).trans (J55_eq _ _ x0 x1 x2a x2l x2c S)
def b56_entry (call : CallA) (n : Nat)  (x0 : Option Pos) (x1 : Option Pos) (S : AS) : Option (AV × AS) :=
callT call 57 [(.ptr x0), (.ptr x1)] S fun v2 S1 =>
callT call 70 [(.ptr x0), (.ptr x1)] S1 fun v4 S3 =>
some (.tup [], S3)

theorem a56_entry (call : CallA) (n : Nat) (x0 : Option Pos) (x1 : Option Pos) (S : AS) : evC E call n 56 (E.at 56 []) 0 (enumT 0 [(.ptr x0), (.ptr x1)]) S (retK E (E.fn 56)) = b56_entry call n  x0 x1 S := by kernel_rfl
def J56 (call : CallA) (n : Nat) (x0 : Option Pos) (x1 : Option Pos) (S : AS) : Option (AV × AS) := b56_entry call n  x0 x1 S
theorem run56 (o : Orc) (n : Nat) (args : List AV) (S : AS) (ho : o 56 args = none) : evF E o (n + 1) (.fn 56) args S = evC E (evF E o n) n 56 (E.at 56 []) 0 (enumT 0 args) S (retK E (E.fn 56)) := by
  rw [evF, ho]; kernel_rfl
theorem J56_eq (call : CallA) (n : Nat) (x0 : Option Pos) (x1 : Option Pos) (S : AS) : evC E call n 56 (E.at 56 []) 0 (enumT 0 [(.ptr x0), (.ptr x1)]) S (retK E (E.fn 56)) = J56 call n x0 x1 S := by
  rw [J56, a56_entry]
theorem F56 {o : Orc} (n : Nat) (x0 : Option Pos) (x1 : Option Pos) (S : AS) (ho : ∀ args, o 56 args = none) : evF E o (n + 1) (.fn 56) [(.ptr x0), (.ptr x1)] S = J56 (evF E o n) n x0 x1 S := (run56 o n [(.ptr x0), (.ptr x1)] S (ho _)).trans (J56_eq _ _ x0 x1 S)
def b57_j1 (call : CallA) (n : Nat) (j1_1 : Option Pos → AS → Option (AV × AS)) (w0 : Option Pos) (w1 : Option Pos) (S : AS) : Option (AV × AS) :=
gO w1 fun p13 =>
ldP S p13.1 (p13.2 + 1) fun v14 =>
cond (!v14.isNone) (
gO w1 fun p15 =>
ldP S p15.1 (p15.2 + 1) fun v16 =>
gO w1 fun p17 =>
ldP S p17.1 p17.2 fun v18 =>
gO v16 fun p19 =>
S.stn p19.1 p19.2 [(.ptr v18)] fun S20 =>
j1_1 w1 S20) (
gO w1 fun p21 =>
ldP S p21.1 p21.2 fun v22 =>
gO w0 fun p23 =>
S.stn p23.1 (p23.2 + 4) [(.ptr v22)] fun S24 =>
j1_1 w1 S24)

def b57_j1_1 (call : CallA) (n : Nat)  (w1 : Option Pos) (S : AS) : Option (AV × AS) :=
gO w1 fun p25 =>
S.stn p25.1 p25.2 [(.ptr none), (.ptr none)] fun S26 =>
some (.tup [], S26)

def b57_entry (call : CallA) (n : Nat) (j1 : Option Pos → Option Pos → AS → Option (AV × AS)) (x0 : Option Pos) (x1 : Option Pos) (S : AS) : Option (AV × AS) :=
gO x1 fun p1 =>
ldP S p1.1 p1.2 fun v2 =>
cond (!v2.isNone) (
gO x1 fun p3 =>
ldP S p3.1 p3.2 fun v4 =>
gO x1 fun p5 =>
ldP S p5.1 (p5.2 + 1) fun v6 =>
gO v4 fun p7 =>
S.stn p7.1 (p7.2 + 1) [(.ptr v6)] fun S8 =>
j1 x0 x1 S8) (
gO x1 fun p9 =>
ldP S p9.1 (p9.2 + 1) fun v10 =>
gO x0 fun p11 =>
S.stn p11.1 (p11.2 + 3) [(.ptr v10)] fun S12 =>
j1 x0 x1 S12)

def r57_j1 (call : CallA) (n : Nat)  (w0 : Option Pos) (w1 : Option Pos) (S : AS) : Option (AV × AS) := evC E call n 57 (E.at 57 [1]) 0 [(0, (.ptr w0)), (1, (.ptr w1))] S (retK E (E.fn 57))
def r57_j1_1 (call : CallA) (n : Nat)  (w1 : Option Pos) (S : AS) : Option (AV × AS) := evC E call n 57 (E.at 57 [1, 1]) 0 [(1, (.ptr w1))] S (retK E (E.fn 57))
theorem a57_j1 (call : CallA) (n : Nat)  (w0 : Option Pos) (w1 : Option Pos) (S : AS) : r57_j1 call n  w0 w1 S = b57_j1 call n (r57_j1_1 call n ) w0 w1 S := by kernel_rfl
theorem a57_j1_1 (call : CallA) (n : Nat)  (w1 : Option Pos) (S : AS) : r57_j1_1 call n  w1 S = b57_j1_1 call n  w1 S := by kernel_rfl
theorem a57_entry (call : CallA) (n : Nat) (x0 : Option Pos) (x1 : Option Pos) (S : AS) : evC E call n 57 (E.at 57 []) 0 (enumT 0 [(.ptr x0), (.ptr x1)]) S (retK E (E.fn 57)) = b57_entry call n (r57_j1 call n ) x0 x1 S := by kernel_rfl
def J57_j1_1 (call : CallA) (n : Nat)  (w1 : Option Pos) (S : AS) : Option (AV × AS) := b57_j1_1 call n  w1 S
theorem h57_j1_1 (call : CallA) (n : Nat)  : r57_j1_1 call n  = J57_j1_1 call n  := by
  funext w1 S
  rw [J57_j1_1, a57_j1_1]
def J57_j1 (call : CallA) (n : Nat)  (w0 : Option Pos) (w1 : Option Pos) (S : AS) : Option (AV × AS) := b57_j1 call n (J57_j1_1 call n ) w0 w1 S
theorem h57_j1 (call : CallA) (n : Nat)  : r57_j1 call n  = J57_j1 call n  := by
  funext w0 w1 S
  rw [J57_j1, a57_j1, h57_j1_1 call n ]
def J57 (call : CallA) (n : Nat) (x0 : Option Pos) (x1 : Option Pos) (S : AS) : Option (AV × AS) := b57_entry call n (J57_j1 call n ) x0 x1 S
theorem run57 (o : Orc) (n : Nat) (args : List AV) (S : AS) (ho : o 57 args = none) : evF E o (n + 1) (.fn 57) args S = evC E (evF E o n) n 57 (E.at 57 []) 0 (enumT 0 args) S (retK E (E.fn 57)) := by
  rw [evF, ho]; kernel_rfl
theorem J57_eq (call : CallA) (n : Nat) (x0 : Option Pos) (x1 : Option Pos) (S : AS) : evC E call n 57 (E.at 57 []) 0 (enumT 0 [(.ptr x0), (.ptr x1)]) S (retK E (E.fn 57)) = J57 call n x0 x1 S := by
  rw [J57, a57_entry, h57_j1 call n ]
theorem F57 {o : Orc} (n : Nat) (x0 : Option Pos) (x1 : Option Pos) (S : AS) (ho : ∀ args, o 57 args = none) : evF E o (n + 1) (.fn 57) [(.ptr x0), (.ptr x1)] S = J57 (evF E o n) n x0 x1 S := (run57 o n [(.ptr x0), (.ptr x1)] S (ho _)).trans (J57_eq _ _ x0 x1 S)
def b58_entry (call : CallA) (n : Nat)  (x0a : Option Pos) (x0l : Nat) (x0c : Cap) (x1 : Int) (x2 : Int) (S : AS) : Option (AV × AS) :=
appendZA 1 1 [(.int .u8 0)] S x0a x0l x0c x2 fun v1a v1l v1c S2 =>
slSl 1 v1a v1l v1c (some (IntKind.wrap .i64 (((v1l : Nat) : Int) - x2))) none none fun v3a v3l v3c =>
callT call 71 [(.sl v3a v3l v3c), (.int .u64 x1)] S2 fun v5 S4 =>
some ((.sl v1a v1l v1c), S4)

theorem a58_entry (call : CallA) (n : Nat) (x0a : Option Pos) (x0l : Nat) (x0c : Cap) (x1 : Int) (x2 : Int) (S : AS) : evC E call n 58 (E.at 58 []) 0 (enumT 0 [(.sl x0a x0l x0c), (.int .u64 x1), (.int .i64 x2)]) S (retK E (E.fn 58)) = b58_entry call n  x0a x0l x0c x1 x2 S := by kernel_rfl
def J58 (call : CallA) (n : Nat) (x0a : Option Pos) (x0l : Nat) (x0c : Cap) (x1 : Int) (x2 : Int) (S : AS) : Option (AV × AS) := b58_entry call n  x0a x0l x0c x1 x2 S
theorem run58 (o : Orc) (n : Nat) (args : List AV) (S : AS) (ho : o 58 args = none) : evF E o (n + 1) (.fn 58) args S = evC E (evF E o n) n 58 (E.at 58 []) 0 (enumT 0 args) S (retK E (E.fn 58)) := by
  rw [evF, ho]; kernel_rfl
theorem J58_eq (call : CallA) (n : Nat) (x0a : Option Pos) (x0l : Nat) (x0c : Cap) (x1 : Int) (x2 : Int) (S : AS) : evC E call n 58 (E.at 58 []) 0 (enumT 0 [(.sl x0a x0l x0c), (.int .u64 x1), (.int .i64 x2)]) S (retK E (E.fn 58)) = J58 call n x0a x0l x0c x1 x2 S := by
  rw [J58, a58_entry]
theorem F58 {o : Orc} (n : Nat) (x0a : Option Pos) (x0l : Nat) (x0c : Cap) (x1 : Int) (x2 : Int) (S : AS) (ho : ∀ args, o 58 args = none) : evF E o (n + 1) (.fn 58) [(.sl x0a x0l x0c), (.int .u64 x1), (.int .i64 x2)] S = J58 (evF E o n) n x0a x0l x0c x1 x2 S := (run58 o n [(.sl x0a x0l x0c), (.int .u64 x1), (.int .i64 x2)] S (ho _)).trans (J58_eq _ _ x0a x0l x0c x1 x2 S)
def b59_entry (call : CallA) (n : Nat)  (x0a : Option Pos) (x0l : Nat) (x0c : Cap) (S : AS) : Option (AV × AS) :=
appendZA 1 1 [(.int .u8 0)] S x0a x0l x0c (IntKind.wrap .i64 (384 - ((x0l : Nat) : Int))) fun v1a v1l v1c S2 =>
some ((.sl v1a v1l v1c), S2)

theorem a59_entry (call : CallA) (n : Nat) (x0a : Option Pos) (x0l : Nat) (x0c : Cap) (S : AS) : evC E call n 59 (E.at 59 []) 0 (enumT 0 [(.sl x0a x0l x0c)]) S (retK E (E.fn 59)) = b59_entry call n  x0a x0l x0c S := by kernel_rfl
def J59 (call : CallA) (n : Nat) (x0a : Option Pos) (x0l : Nat) (x0c : Cap) (S : AS) : Option (AV × AS) := b59_entry call n  x0a x0l x0c S
theorem run59 (o : Orc) (n : Nat) (args : List AV) (S : AS) (ho : o 59 args = none) : evF E o (n + 1) (.fn 59) args S = evC E (evF E o n) n 59 (E.at 59 []) 0 (enumT 0 args) S (retK E (E.fn 59)) := by
  rw [evF, ho]; kernel_rfl
theorem J59_eq (call : CallA) (n : Nat) (x0a : Option Pos) (x0l : Nat) (x0c : Cap) (S : AS) : evC E call n 59 (E.at 59 []) 0 (enumT 0 [(.sl x0a x0l x0c)]) S (retK E (E.fn 59)) = J59 call n x0a x0l x0c S := by
  rw [J59, a59_entry]
theorem F59 {o : Orc} (n : Nat) (x0a : Option Pos) (x0l : Nat) (x0c : Cap) (S : AS) (ho : ∀ args, o 59 args = none) : evF E o (n + 1) (.fn 59) [(.sl x0a x0l x0c)] S = J59 (evF E o n) n x0a x0l x0c S := (run59 o n [(.sl x0a x0l x0c)] S (ho _)).trans (J59_eq _ _ x0a x0l x0c S)
def b60_l1_1_1_0_1_0 (call : CallA) (n : Nat) (l1_1_1_0_1_0 : Option Pos → Nat → Cap → Option Pos → Option Pos → Int → AS → Option (AV × AS)) (j1_1_1_1 : Option Pos → Nat → Cap → Option Pos → Option Pos → AS → Option (AV × AS)) (w0a : Option Pos) (w0l : Nat) (w0c : Cap) (w2 : Option Pos) (w4 : Option Pos) (w13 : Int) (S : AS) : Option (AV × AS) :=
cond (decide (w13 < 6)) (
slSl 1 w0a w0l w0c (some (IntKind.wrap .i64 (4 + (IntKind.wrap .i64 (8 * w13))))) (some (IntKind.wrap .i64 (12 + (IntKind.wrap .i64 (8 * w13))))) none fun v7a v7l v7c =>
callI .u64 call 72 [(.sl v7a v7l v7c)] S fun v9 S8 =>
gO w4 fun p11 =>
ixArr 1 p11 6 w13 fun p10 =>
S8.stn p10.1 p10.2 [(.int .u64 v9)] fun S12 =>
l1_1_1_0_1_0 w0a w0l w0c w2 w4 (IntKind.wrap .i64 (w13 + 1)) S12) (
j1_1_1_1 w0a w0l w0c w2 w4 S)

def b60_j1_1_1_1 (call : CallA) (n : Nat)  (w0a : Option Pos) (w0l : Nat) (w0c : Cap) (w2 : Option Pos) (w4 : Option Pos) (S : AS) : Option (AV × AS) :=
gO w4 fun p14 =>
ixArr 1 p14 6 0 fun p13 =>
ldI .u64 S p13.1 p13.2 fun v15 =>
gO w4 fun p17 =>
ixArr 1 p17 6 1 fun p16 =>
ldI .u64 S p16.1 p16.2 fun v18 =>
gO w4 fun p20 =>
ixArr 1 p20 6 2 fun p19 =>
ldI .u64 S p19.1 p19.2 fun v21 =>
gO w4 fun p23 =>
ixArr 1 p23 6 3 fun p22 =>
ldI .u64 S p22.1 p22.2 fun v24 =>
gO w4 fun p26 =>
ixArr 1 p26 6 4 fun p25 =>
ldI .u64 S p25.1 p25.2 fun v27 =>
gO w4 fun p29 =>
ixArr 1 p29 6 5 fun p28 =>
ldI .u64 S p28.1 p28.2 fun v30 =>
newA S (.cells [(.int .u64 0), (.int .u64 0), (.int .u64 0), (.int .u64 0), (.int .u64 0), (.int .u64 0)]) fun b31 S32 =>
S32.stn (.rw b31) 0 [(.int .u64 v15), (.int .u64 v18), (.int .u64 v21), (.int .u64 v24), (.int .u64 v27), (.int .u64 v30)] fun S33 =>
S33.ldn (.rw b31) 0 6 fun g34 =>
callT call 46 [(.agg g34)] S33 fun v36 S35 =>
atL v36 0 fun v37a v37l v37c =>
atI .i64 v36 1 fun v38 =>
cond (v38 != 0) (
gO w2 fun p40 =>
S35.stn p40.1 p40.2 [(.int .u64 0), (.int .u64 0), (.int .u64 0), (.int .u64 0), (.int .u64 0), (.int .u64 0)] fun S39 =>
gO w2 fun p41 =>
S39.ldn p41.1 p41.2 6 fun g42 =>
some (.tup [(.agg g42), (.int .i64 81)], S39)) (
callB call 73 [(.sl v37a v37l v37c), (.sl w0a w0l w0c)] S35 fun v44 S43 =>
cond (!v44) (
gO w2 fun p46 =>
S43.stn p46.1 p46.2 [(.int .u64 0), (.int .u64 0), (.int .u64 0), (.int .u64 0), (.int .u64 0), (.int .u64 0)] fun S45 =>
gO w2 fun p47 =>
S45.ldn p47.1 p47.2 6 fun g48 =>
some (.tup [(.agg g48), (.int .i64 81)], S45)) (
S43.ldn (.rw b31) 0 6 fun g49 =>
gO w2 fun p51 =>
ifO (g49.length = 6) <|
S43.stn p51.1 p51.2 g49 fun S50 =>
gO w2 fun p52 =>
S50.ldn p52.1 p52.2 6 fun g53 =>
some (.tup [(.agg g53), (.int .i64 0)], S50)))

def b60_entry (call : CallA) (n : Nat) (l1_1_1_0_1_0 : Option Pos → Nat → Cap → Option Pos → Option Pos → Int → AS → Option (AV × AS)) (x0a : Option Pos) (x0l : Nat) (x0c : Cap) (S : AS) : Option (AV × AS) :=
newA S (.cells [(.int .u64 0), (.int .u64 0), (.int .u64 0), (.int .u64 0), (.int .u64 0), (.int .u64 0)]) fun b1 S2 =>
cond (((x0l : Nat) : Int) != 384) (
S2.stn (.rw b1) 0 [(.int .u64 0), (.int .u64 0), (.int .u64 0), (.int .u64 0), (.int .u64 0), (.int .u64 0)] fun S3 =>
S3.ldn (.rw b1) 0 6 fun g4 =>
some (.tup [(.agg g4), (.int .i64 81)], S3)) (
newA S2 (.cells [(.int .u64 0), (.int .u64 0), (.int .u64 0), (.int .u64 0), (.int .u64 0), (.int .u64 0)]) fun b5 S6 =>
l1_1_1_0_1_0 x0a x0l x0c (some ((.rw b1), 0)) (some ((.rw b5), 0)) 0 S6)

def r60_l1_1_1_0_1_0 (call : CallA) (n : Nat)  (m : Nat) (w0a : Option Pos) (w0l : Nat) (w0c : Cap) (w2 : Option Pos) (w4 : Option Pos) (w13 : Int) (S : AS) : Option (AV × AS) := loopN (evC E call n 60 (E.at 60 [1, 1, 1, 0, 1, 0, 0]) 0) [0, 2, 4, 13] m [(0, (.sl w0a w0l w0c)), (2, (.ptr w2)), (4, (.ptr w4)), (13, (.int .i64 w13))] S (kBlk 0 (kSeq E call n 60 (E.at 60 [1, 1, 1, 1]) 0 (retK E (E.fn 60))))
def r60_j1_1_1_1 (call : CallA) (n : Nat)  (w0a : Option Pos) (w0l : Nat) (w0c : Cap) (w2 : Option Pos) (w4 : Option Pos) (S : AS) : Option (AV × AS) := evC E call n 60 (E.at 60 [1, 1, 1, 1]) 0 [(0, (.sl w0a w0l w0c)), (2, (.ptr w2)), (4, (.ptr w4))] S (retK E (E.fn 60))
theorem a60_l1_1_1_0_1_0 (call : CallA) (n : Nat)  (m : Nat) (w0a : Option Pos) (w0l : Nat) (w0c : Cap) (w2 : Option Pos) (w4 : Option Pos) (w13 : Int) (S : AS) : r60_l1_1_1_0_1_0 call n  (m + 1) w0a w0l w0c w2 w4 w13 S = b60_l1_1_1_0_1_0 call n (r60_l1_1_1_0_1_0 call n  m) (r60_j1_1_1_1 call n ) w0a w0l w0c w2 w4 w13 S := by kernel_rfl
theorem a60_j1_1_1_1 (call : CallA) (n : Nat)  (w0a : Option Pos) (w0l : Nat) (w0c : Cap) (w2 : Option Pos) (w4 : Option Pos) (S : AS) : r60_j1_1_1_1 call n  w0a w0l w0c w2 w4 S = b60_j1_1_1_1 call n  w0a w0l w0c w2 w4 S := by kernel_rfl
theorem a60_entry (call : CallA) (n : Nat) (x0a : Option Pos) (x0l : Nat) (x0c : Cap) (S : AS) : evC E call n 60 (E.at 60 []) 0 (enumT 0 [(.sl x0a x0l x0c)]) S (retK E (E.fn 60)) = b60_entry call n (r60_l1_1_1_0_1_0 call n  n) x0a x0l x0c S := by kernel_rfl
def J60_j1_1_1_1 (call : CallA) (n : Nat)  (w0a : Option Pos) (w0l : Nat) (w0c : Cap) (w2 : Option Pos) (w4 : Option Pos) (S : AS) : Option (AV × AS) := b60_j1_1_1_1 call n  w0a w0l w0c w2 w4 S
theorem h60_j1_1_1_1 (call : CallA) (n : Nat)  : r60_j1_1_1_1 call n  = J60_j1_1_1_1 call n  := by
  funext w0a w0l w0c w2 w4 S
  rw [J60_j1_1_1_1, a60_j1_1_1_1]
def J60_l1_1_1_0_1_0 (call : CallA) (n : Nat)  (m : Nat) : Option Pos → Nat → Cap → Option Pos → Option Pos → Int → AS → Option (AV × AS) := Nat.rec (motive := fun _ => Option Pos → Nat → Cap → Option Pos → Option Pos → Int → AS → Option (AV × AS)) (fun _ _ _ _ _ _ _ => none) (fun _ ih w0a w0l w0c w2 w4 w13 S => b60_l1_1_1_0_1_0 call n ih (J60_j1_1_1_1 call n ) w0a w0l w0c w2 w4 w13 S) m
theorem J60_l1_1_1_0_1_0_succ (call : CallA) (n : Nat)  (m : Nat) (w0a : Option Pos) (w0l : Nat) (w0c : Cap) (w2 : Option Pos) (w4 : Option Pos) (w13 : Int) (S : AS) : J60_l1_1_1_0_1_0 call n  (m + 1) w0a w0l w0c w2 w4 w13 S = b60_l1_1_1_0_1_0 call n (J60_l1_1_1_0_1_0 call n  m) (J60_j1_1_1_1 call n ) w0a w0l w0c w2 w4 w13 S := rfl
theorem h60_l1_1_1_0_1_0 (call : CallA) (n : Nat)  (m : Nat) : r60_l1_1_1_0_1_0 call n  m = J60_l1_1_1_0_1_0 call n  m := by
  induction m with
  | zero => rfl
  | succ m ih =>
    funext w0a w0l w0c w2 w4 w13 S
    rw [J60_l1_1_1_0_1_0_succ, a60_l1_1_1_0_1_0, h60_j1_1_1_1 call n , ih]
def J60 (call : CallA) (n : Nat) (x0a : Option Pos) (x0l : Nat) (x0c : Cap) (S : AS) : Option (AV × AS) := b60_entry call n (J60_l1_1_1_0_1_0 call n  n) x0a x0l x0c S
theorem run60 (o : Orc) (n : Nat) (args : List AV) (S : AS) (ho : o 60 args = none) : evF E o (n + 1) (.fn 60) args S = evC E (evF E o n) n 60 (E.at 60 []) 0 (enumT 0 args) S (retK E (E.fn 60)) := by
  rw [evF, ho]; kernel_rfl
theorem J60_eq (call : CallA) (n : Nat) (x0a : Option Pos) (x0l : Nat) (x0c : Cap) (S : AS) : evC E call n 60 (E.at 60 []) 0 (enumT 0 [(.sl x0a x0l x0c)]) S (retK E (E.fn 60)) = J60 call n x0a x0l x0c S := by
  rw [J60, a60_entry, h60_l1_1_1_0_1_0 call n  n]
theorem F60 {o : Orc} (n : Nat) (x0a : Option Pos) (x0l : Nat) (x0c : Cap) (S : AS) (ho : ∀ args, o 60 args = none) : evF E o (n + 1) (.fn 60) [(.sl x0a x0l x0c)] S = J60 (evF E o n) n x0a x0l x0c S := (run60 o n [(.sl x0a x0l x0c)] S (ho _)).trans (J60_eq _ _ x0a x0l x0c S)
def b61_entry (call : CallA) (n : Nat)  (x0a : Option Pos) (x0l : Nat) (x0c : Cap) (S : AS) : Option (AV × AS) :=
newA S (.cells [(.int .u64 0), (.int .u64 0), (.int .u64 0), (.int .u64 0), (.int .i64 0), (.int .i64 0), (.sl none 0 (.ex 0))]) fun b1 S2 =>
cond (((x0l : Nat) : Int) != 384) (
S2.stn (.rw b1) 0 [(.int .u64 0), (.int .u64 0), (.int .u64 0), (.int .u64 0), (.int .i64 0), (.int .i64 0), (.sl none 0 (.ex 0))] fun S3 =>
S3.ldn (.rw b1) 0 7 fun g4 =>
some (.tup [(.agg g4), (.int .i64 81)], S3)) (
slSl 1 x0a x0l x0c (some 40) (some 42) none fun v5a v5l v5c =>
callI .u64 call 72 [(.sl v5a v5l v5c)] S2 fun v7 S6 =>
drawA S6 28 fun b8 S9 =>
slSl 1 x0a x0l x0c (some 4) (some 12) none fun v10a v10l v10c =>
callI .u64 call 72 [(.sl v10a v10l v10c)] S9 fun v12 S11 =>
slSl 1 x0a x0l x0c (some 12) (some 20) none fun v13a v13l v13c =>
callI .u64 call 72 [(.sl v13a v13l v13c)] S11 fun v15 S14 =>
slSl 1 x0a x0l x0c (some 20) (some 28) none fun v16a v16l v16c =>
callI .u64 call 72 [(.sl v16a v16l v16c)] S14 fun v18 S17 =>
slSl 1 x0a x0l x0c (some 28) (some 36) none fun v19a v19l v19c =>
callI .u64 call 72 [(.sl v19a v19l v19c)] S17 fun v21 S20 =>
slSl 1 x0a x0l x0c (some 36) (some 38) none fun v22a v22l v22c =>
callI .u64 call 72 [(.sl v22a v22l v22c)] S20 fun v24 S23 =>
slSl 1 x0a x0l x0c (some 38) (some 40) none fun v25a v25l v25c =>
callI .u64 call 72 [(.sl v25a v25l v25c)] S23 fun v27 S26 =>
slSl 1 x0a x0l x0c (some 48) (some (IntKind.wrap .i64 (48 + (if 336 < (IntKind.wrap .i64 v7) then 336 else (IntKind.wrap .i64 v7))))) none fun v28a v28l v28c =>
callL call 50 [(.sl v28a v28l v28c)] S26 fun v30a v30l v30c S29 =>
layA S29 (b8 + 26) (.cells [(.int .u64 0), (.int .u64 0), (.int .u64 0), (.int .u64 0), (.int .i64 0), (.int .i64 0), (.sl none 0 (.ex 0))]) fun S31 =>
S31.stn (.rw (b8 + 26)) 0 [(.int .u64 v12), (.int .u64 v15), (.int .u64 v18), (.int .u64 v21), (.int .i64 (IntKind.wrap .i64 v24)), (.int .i64 (IntKind.wrap .i64 v27)), (.sl v30a v30l v30c)] fun S32 =>
S32.ldn (.rw (b8 + 26)) 0 7 fun g33 =>
callT call 37 [(.agg g33)] S32 fun v35 S34 =>
atL v35 0 fun v36a v36l v36c =>
atI .i64 v35 1 fun v37 =>
cond (v37 != 0) (
S34.stn (.rw b1) 0 [(.int .u64 0), (.int .u64 0), (.int .u64 0), (.int .u64 0), (.int .i64 0), (.int .i64 0), (.sl none 0 (.ex 0))] fun S38 =>
S38.ldn (.rw b1) 0 7 fun g39 =>
some (.tup [(.agg g39), (.int .i64 81)], S38)) (
callB call 73 [(.sl v36a v36l v36c), (.sl x0a x0l x0c)] S34 fun v41 S40 =>
cond (!v41) (
S40.stn (.rw b1) 0 [(.int .u64 0), (.int .u64 0), (.int .u64 0), (.int .u64 0), (.int .i64 0), (.int .i64 0), (.sl none 0 (.ex 0))] fun S42 =>
S42.ldn (.rw b1) 0 7 fun g43 =>
some (.tup [(.agg g43), (.int .i64 81)], S42)) (
S40.ldn (.rw (b8 + 26)) 0 7 fun g44 =>
ifO (g44.length = 7) <|
S40.stn (.rw b1) 0 g44 fun S45 =>
S45.ldn (.rw b1) 0 7 fun g46 =>
some (.tup [(.agg g46), (.int .i64 0)], S45))))

theorem a61_entry (call : CallA) (n : Nat) (x0a : Option Pos) (x0l : Nat) (x0c : Cap) (S : AS) : evC E call n 61 (E.at 61 []) 0 (enumT 0 [(.sl x0a x0l x0c)]) S (retK E (E.fn 61)) = b61_entry call n  x0a x0l x0c S := by kernel_rfl
def J61 (call : CallA) (n : Nat) (x0a : Option Pos) (x0l : Nat) (x0c : Cap) (S : AS) : Option (AV × AS) := b61_entry call n  x0a x0l x0c S
theorem run61 (o : Orc) (n : Nat) (args : List AV) (S : AS) (ho : o 61 args = none) : evF E o (n + 1) (.fn 61) args S = evC E (evF E o n) n 61 (E.at 61 []) 0 (enumT 0 args) S (retK E (E.fn 61)) := by
  rw [evF, ho]; kernel_rfl
theorem J61_eq (call : CallA) (n : Nat) (x0a : Option Pos) (x0l : Nat) (x0c : Cap) (S : AS) : evC E call n 61 (E.at 61 []) 0 (enumT 0 [(.sl x0a x0l x0c)]) S (retK E (E.fn 61)) = J61 call n x0a x0l x0c S := by
  rw [J61, a61_entry]
theorem F61 {o : Orc} (n : Nat) (x0a : Option Pos) (x0l : Nat) (x0c : Cap) (S : AS) (ho : ∀ args, o 61 args = none) : evF E o (n + 1) (.fn 61) [(.sl x0a x0l x0c)] S = J61 (evF E o n) n x0a x0l x0c S := (run61 o n [(.sl x0a x0l x0c)] S (ho _)).trans (J61_eq _ _ x0a x0l x0c S)
def b62_entry (call : CallA) (n : Nat)  (x0 : List AV) (x1 : List AV) (S : AS) : Option (AV × AS) :=
ifO (x0.length = 2) <|
newA S (.cells x0) fun b1 S2 =>
ifO (x1.length = 2) <|
newA S2 (.cells x1) fun b3 S4 =>
ldI .u64 S4 (.rw b1) 0 fun v5 =>
ldI .u64 S4 (.rw b3) 0 fun v6 =>
cond (decide (v5 > v6)) (
some ((.bool true), S4)) (
ldI .u64 S4 (.rw b1) 0 fun v7 =>
ldI .u64 S4 (.rw b3) 0 fun v8 =>
cond (v7 == v8) (
ldI .u64 S4 (.rw b1) 1 fun v9 =>
ldI .u64 S4 (.rw b3) 1 fun v10 =>
some ((.bool (decide (v9 > v10))), S4)) (
some ((.bool false), S4)))

theorem a62_entry (call : CallA) (n : Nat) (x0 : List AV) (x1 : List AV) (S : AS) : evC E call n 62 (E.at 62 []) 0 (enumT 0 [(.agg x0), (.agg x1)]) S (retK E (E.fn 62)) = b62_entry call n  x0 x1 S := by kernel_rfl
def J62 (call : CallA) (n : Nat) (x0 : List AV) (x1 : List AV) (S : AS) : Option (AV × AS) := b62_entry call n  x0 x1 S
theorem run62 (o : Orc) (n : Nat) (args : List AV) (S : AS) (ho : o 62 args = none) : evF E o (n + 1) (.fn 62) args S = evC E (evF E o n) n 62 (E.at 62 []) 0 (enumT 0 args) S (retK E (E.fn 62)) := by
  rw [evF, ho]; kernel_rfl
theorem J62_eq (call : CallA) (n : Nat) (x0 : List AV) (x1 : List AV) (S : AS) : evC E call n 62 (E.at 62 []) 0 (enumT 0 [(.agg x0), (.agg x1)]) S (retK E (E.fn 62)) = J62 call n x0 x1 S := by
  rw [J62, a62_entry]
theorem F62 {o : Orc} (n : Nat) (x0 : List AV) (x1 : List AV) (S : AS) (ho : ∀ args, o 62 args = none) : evF E o (n + 1) (.fn 62) [(.agg x0), (.agg x1)] S = J62 (evF E o n) n x0 x1 S := (run62 o n [(.agg x0), (.agg x1)] S (ho _)).trans (J62_eq _ _ x0 x1 S)
def b63_l1_1_1_1_1_0_1_0 (call : CallA) (n : Nat) (l1_1_1_1_1_0_1_0 : Option Pos → Nat → Cap → Option Pos → Nat → Cap → AS → Option (AV × AS)) (j1_1_1_1_1_1 : Option Pos → Nat → Cap → AS → Option (AV × AS)) (w5a : Option Pos) (w5l : Nat) (w5c : Cap) (w6a : Option Pos) (w6l : Nat) (w6c : Cap) (S : AS) : Option (AV × AS) :=
cond (decide (((w6l : Nat) : Int) > 0)) (
drawA S 12 fun b5 S6 =>
slSl 1 w6a w6l w6c none (some 4) none fun v7a v7l v7c =>
callI .u64 call 72 [(.sl v7a v7l v7c)] S6 fun v9 S8 =>
slSl 1 w6a w6l w6c (some 4) (some 388) none fun v10a v10l v10c =>
callL call 50 [(.sl v10a v10l v10c)] S8 fun v12a v12l v12c S11 =>
layA S11 (b5 + 9) (.cells [(.int .i64 (IntKind.wrap .i64 v9)), (.sl v12a v12l v12c)]) fun S13 =>
appendA 2 32 S13 w5a w5l w5c 1 (firstA S13 2 1 (.sl (some (.rw (b5 + 9), 0)) 1 (.ex 1))) fun v14a v14l v14c S15 =>
slSl 1 w6a w6l w6c (some 388) none none fun v16a v16l v16c =>
l1_1_1_1_1_0_1_0 v14a v14l v14c v16a v16l v16c S15) (
j1_1_1_1_1_1 w5a w5l w5c S)

def b63_j1_1_1_1_1_1 (call : CallA) (n : Nat)  (w5a : Option Pos) (w5l : Nat) (w5c : Cap) (S : AS) : Option (AV × AS) :=
callT call 33 [(.sl w5a w5l w5c)] S fun v18 S17 =>
atL v18 0 fun v19a v19l v19c =>
atI .i64 v18 1 fun v20 =>
cond (v20 != 0) (
some (.tup [(.sl none 0 (.ex 0)), (.int .i64 v20)], S17)) (
some (.tup [(.sl w5a w5l w5c), (.int .i64 0)], S17))

def b63_entry (call : CallA) (n : Nat) (l1_1_1_1_1_0_1_0 : Option Pos → Nat → Cap → Option Pos → Nat → Cap → AS → Option (AV × AS)) (x0a : Option Pos) (x0l : Nat) (x0c : Cap) (S : AS) : Option (AV × AS) :=
cond (decide (((x0l : Nat) : Int) < 4)) (
some (.tup [(.sl none 0 (.ex 0)), (.int .i64 82)], S)) (
slSl 1 x0a x0l x0c none (some 4) none fun v1a v1l v1c =>
callI .u64 call 72 [(.sl v1a v1l v1c)] S fun v3 S2 =>
cond (decide (v3 > 64)) (
some (.tup [(.sl none 0 (.ex 0)), (.int .i64 82)], S2)) (
cond ((IntKind.wrap .u64 (IntKind.wrap .i64 (((x0l : Nat) : Int) - 4))) != (IntKind.wrap .u64 (v3 * 388))) (
some (.tup [(.sl none 0 (.ex 0)), (.int .i64 82)], S2)) (
slSl 1 x0a x0l x0c (some 4) none none fun v4a v4l v4c =>
l1_1_1_1_1_0_1_0 none 0 (.ex 0) v4a v4l v4c S2)))

def r63_l1_1_1_1_1_0_1_0 (call : CallA) (n : Nat)  (m : Nat) (w5a : Option Pos) (w5l : Nat) (w5c : Cap) (w6a : Option Pos) (w6l : Nat) (w6c : Cap) (S : AS) : Option (AV × AS) := loopN (evC E call n 63 (E.at 63 [1, 1, 1, 1, 1, 0, 1, 0, 0]) 0) [5, 6] m [(5, (.sl w5a w5l w5c)), (6, (.sl w6a w6l w6c))] S (kBlk 0 (kSeq E call n 63 (E.at 63 [1, 1, 1, 1, 1, 1]) 0 (retK E (E.fn 63))))
def r63_j1_1_1_1_1_1 (call : CallA) (n : Nat)  (w5a : Option Pos) (w5l : Nat) (w5c : Cap) (S : AS) : Option (AV × AS) := evC E call n 63 (E.at 63 [1, 1, 1, 1, 1, 1]) 0 [(5, (.sl w5a w5l w5c))] S (retK E (E.fn 63))
theorem a63_l1_1_1_1_1_0_1_0 (call : CallA) (n : Nat)  (m : Nat) (w5a : Option Pos) (w5l : Nat) (w5c : Cap) (w6a : Option Pos) (w6l : Nat) (w6c : Cap) (S : AS) : r63_l1_1_1_1_1_0_1_0 call n  (m + 1) w5a w5l w5c w6a w6l w6c S = b63_l1_1_1_1_1_0_1_0 call n (r63_l1_1_1_1_1_0_1_0 call n  m) (r63_j1_1_1_1_1_1 call n ) w5a w5l w5c w6a w6l w6c S := by kernel_rfl
theorem a63_j1_1_1_1_1_1 (call : CallA) (n : Nat)  (w5a : Option Pos) (w5l : Nat) (w5c : Cap) (S : AS) : r63_j1_1_1_1_1_1 call n  w5a w5l w5c S = b63_j1_1_1_1_1_1 call n  w5a w5l w5c S := by kernel_rfl
theorem a63_entry (call : CallA) (n : Nat) (x0a : Option Pos) (x0l : Nat) (x0c : Cap) (S : AS) : evC E call n 63 (E.at 63 []) 0 (enumT 0 [(.sl x0a x0l x0c)]) S (retK E (E.fn 63)) = b63_entry call n (r63_l1_1_1_1_1_0_1_0 call n  n) x0a x0l x0c S := by kernel_rfl
def J63_j1_1_1_1_1_1 (call : CallA) (n : Nat)  (w5a : Option Pos) (w5l : Nat) (w5c : Cap) (S : AS) : Option (AV × AS) := b63_j1_1_1_1_1_1 call n  w5a w5l w5c S
theorem h63_j1_1_1_1_1_1 (call : CallA) (n : Nat)  : r63_j1_1_1_1_1_1 call n  = J63_j1_1_1_1_1_1 call n  := by
  funext w5a w5l w5c S
  rw [J63_j1_1_1_1_1_1, a63_j1_1_1_1_1_1]
def J63_l1_1_1_1_1_0_1_0 (call : CallA) (n : Nat)  (m : Nat) : Option Pos → Nat → Cap → Option Pos → Nat → Cap → AS → Option (AV × AS) := Nat.rec (motive := fun _ => Option Pos → Nat → Cap → Option Pos → Nat → Cap → AS → Option (AV × AS)) (fun _ _ _ _ _ _ _ => none) (fun _ ih w5a w5l w5c w6a w6l w6c S => b63_l1_1_1_1_1_0_1_0 call n ih (J63_j1_1_1_1_1_1 call n ) w5a w5l w5c w6a w6l w6c S) m
theorem J63_l1_1_1_1_1_0_1_0_succ (call : CallA) (n : Nat)  (m : Nat) (w5a : Option Pos) (w5l : Nat) (w5c : Cap) (w6a : Option Pos) (w6l : Nat) (w6c : Cap) (S : AS) : J63_l1_1_1_1_1_0_1_0 call n  (m + 1) w5a w5l w5c w6a w6l w6c S = b63_l1_1_1_1_1_0_1_0 call n (J63_l1_1_1_1_1_0_1_0 call n  m) (J63_j1_1_1_1_1_1 call n ) w5a w5l w5c w6a w6l w6c S := rfl
theorem h63_l1_1_1_1_1_0_1_0 (call : CallA) (n : Nat)  (m : Nat) : r63_l1_1_1_1_1_0_1_0 call n  m = J63_l1_1_1_1_1_0_1_0 call n  m := by
  induction m with
  | zero => rfl
  | succ m ih =>
    funext w5a w5l w5c w6a w6l w6c S
    rw [J63_l1_1_1_1_1_0_1_0_succ, a63_l1_1_1_1_1_0_1_0, h63_j1_1_1_1_1_1 call n , ih]
def J63 (call : CallA) (n : Nat) (x0a : Option Pos) (x0l : Nat) (x0c : Cap) (S : AS) : Option (AV × AS) := b63_entry call n (J63_l1_1_1_1_1_0_1_0 call n  n) x0a x0l x0c S
theorem run63 (o : Orc) (n : Nat) (args : List AV) (S : AS) (ho : o 63 args = none) : evF E o (n + 1) (.fn 63) args S = evC E (evF E o n) n 63 (E.at 63 []) 0 (enumT 0 args) S (retK E (E.fn 63)) := by
  rw [evF, ho]; kernel_rfl
theorem J63_eq (call : CallA) (n : Nat) (x0a : Option Pos) (x0l : Nat) (x0c : Cap) (S : AS) : evC E call n 63 (E.at 63 []) 0 (enumT 0 [(.sl x0a x0l x0c)]) S (retK E (E.fn 63)) = J63 call n x0a x0l x0c S := by
  rw [J63, a63_entry, h63_l1_1_1_1_1_0_1_0 call n  n]
theorem F63 {o : Orc} (n : Nat) (x0a : Option Pos) (x0l : Nat) (x0c : Cap) (S : AS) (ho : ∀ args, o 63 args = none) : evF E o (n + 1) (.fn 63) [(.sl x0a x0l x0c)] S = J63 (evF E o n) n x0a x0l x0c S := (run63 o n [(.sl x0a x0l x0c)] S (ho _)).trans (J63_eq _ _ x0a x0l x0c S)
def b64_entry (call : CallA) (n : Nat)  (x0a : Option Pos) (x0l : Nat) (x0c : Cap) (x1 : AV) (S : AS) : Option (AV × AS) :=
callI .i64 call 75 [(.int .u64 (IntKind.wrap .u64 ((x0l : Nat) : Int)))] S fun v2 S1 =>
callT call 74 [(.sl x0a x0l x0c), (.int .i64 0), (.int .i64 ((x0l : Nat) : Int)), (.int .i64 v2), x1] S1 fun v4 S3 =>
some (.tup [], S3)

theorem a64_entry (call : CallA) (n : Nat) (x0a : Option Pos) (x0l : Nat) (x0c : Cap) (x1 : AV) (S : AS) : evC E call n 64 (E.at 64 []) 0 (enumT 0 [(.sl x0a x0l x0c), x1]) S (retK E (E.fn 64)) = b64_entry call n  x0a x0l x0c x1 S := by kernel_rfl
def J64 (call : CallA) (n : Nat) (x0a : Option Pos) (x0l : Nat) (x0c : Cap) (x1 : AV) (S : AS) : Option (AV × AS) := b64_entry call n  x0a x0l x0c x1 S
theorem run64 (o : Orc) (n : Nat) (args : List AV) (S : AS) (ho : o 64 args = none) : evF E o (n + 1) (.fn 64) args S = evC E (evF E o n) n 64 (E.at 64 []) 0 (enumT 0 args) S (retK E (E.fn 64)) := by
  rw [evF, ho]; kernel_rfl
theorem J64_eq (call : CallA) (n : Nat) (x0a : Option Pos) (x0l : Nat) (x0c : Cap) (x1 : AV) (S : AS) : evC E call n 64 (E.at 64 []) 0 (enumT 0 [(.sl x0a x0l x0c), x1]) S (retK E (E.fn 64)) = J64 call n x0a x0l x0c x1 S := by
  rw [J64, a64_entry]
theorem F64 {o : Orc} (n : Nat) (x0a : Option Pos) (x0l : Nat) (x0c : Cap) (x1 : AV) (S : AS) (ho : ∀ args, o 64 args = none) : evF E o (n + 1) (.fn 64) [(.sl x0a x0l x0c), x1] S = J64 (evF E o n) n x0a x0l x0c x1 S := (run64 o n [(.sl x0a x0l x0c), x1] S (ho _)).trans (J64_eq _ _ x0a x0l x0c x1 S)
end
end Go.Na
