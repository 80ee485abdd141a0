/- Plain readings of the functions, and that they are what the evaluator does: by program. -/
import Derived.Test.YtffeeebegglejaaGrRes
import Derived.Test.YtffeeebegglejaaENV
import Derived.KernelRfl
set_option maxRecDepth 100000
set_option linter.unusedVariables false
namespace Go.Na
open Go.Gr
noncomputable section
def b37_l1_1_1_0_1_0 (call : CallA) (n : Nat) (l1_1_1_0_1_0 : Option Pos → Option Pos → Nat → Cap → Option Pos → Nat → Cap → Int → Int → AS → Option (AV × AS)) (j1_1_1_1 : Option Pos → Option Pos → Nat → Cap → AS → Option (AV × AS)) (w1 : Option Pos) (w4a : Option Pos) (w4l : Nat) (w4c : Cap) (w79a : Option Pos) (w79l : Nat) (w79c : Cap) (w80 : Int) (w81 : Int) (S : AS) : Option (AV × AS) :=
cond (decide (w81 < w80)) (
ixSl 1 w79a w79l w81 fun p31 =>
ldI .u64 S p31.1 p31.2 fun v32 =>
callL call 58 [(.sl w4a w4l w4c), (.int .u64 v32), (.int .i64 8)] S fun v34a v34l v34c S33 =>
l1_1_1_0_1_0 w1 v34a v34l v34c w79a w79l w79c w80 (IntKind.wrap .i64 (w81 + 1)) S33) (
j1_1_1_1 w1 w4a w4l w4c S)

def b37_j1_1_1_1 (call : CallA) (n : Nat) (l1_1_1_1_0_1_0 : Option Pos → Option Pos → Nat → Cap → Option Pos → Nat → Cap → Int → Int → AS → Option (AV × AS)) (w1 : Option Pos) (w4a : Option Pos) (w4l : Nat) (w4c : Cap) (S : AS) : Option (AV × AS) :=
gO w1 fun p35 =>
ldI .i64 S p35.1 (p35.2 + 4) fun v36 =>
gO w1 fun p37 =>
ldI .i64 S p37.1 (p37.2 + 5) fun v38 =>
gO w1 fun p39 =>
ldL S p39.1 (p39.2 + 6) fun v40a v40l v40c =>
newA S (.cells [(.int .i64 v36), (.int .i64 v38), (.int .i64 ((v40l : Nat) : Int))]) fun b41 S42 =>
l1_1_1_1_0_1_0 w1 w4a w4l w4c (some (.rw b41, 0)) 3 (.ex 3) ((3 : Nat) : Int) 0 S42

def b37_l1_1_1_1_0_1_0 (call : CallA) (n : Nat) (l1_1_1_1_0_1_0 : Option Pos → Option Pos → Nat → Cap → Option Pos → Nat → Cap → Int → Int → AS → Option (AV × AS)) (j1_1_1_1_1 : Option Pos → Option Pos → Nat → Cap → AS → Option (AV × AS)) (w1 : Option Pos) (w4a : Option Pos) (w4l : Nat) (w4c : Cap) (w96a : Option Pos) (w96l : Nat) (w96c : Cap) (w97 : Int) (w98 : Int) (S : AS) : Option (AV × AS) :=
cond (decide (w98 < w97)) (
ixSl 1 w96a w96l w98 fun p43 =>
ldI .i64 S p43.1 p43.2 fun v44 =>
callL call 58 [(.sl w4a w4l w4c), (.int .u64 (IntKind.wrap .u64 v44)), (.int .i64 2)] S fun v46a v46l v46c S45 =>
l1_1_1_1_0_1_0 w1 v46a v46l v46c w96a w96l w96c w97 (IntKind.wrap .i64 (w98 + 1)) S45) (
j1_1_1_1_1 w1 w4a w4l w4c S)

def b37_j1_1_1_1_1 (call : CallA) (n : Nat)  (w1 : Option Pos) (w4a : Option Pos) (w4l : Nat) (w4c : Cap) (S : AS) : Option (AV × AS) :=
appendZA 1 1 [(.int .u8 0)] S w4a w4l w4c (IntKind.wrap .i64 (48 - ((w4l : Nat) : Int))) fun v47a v47l v47c S48 =>
gO w1 fun p49 =>
ldL S48 p49.1 (p49.2 + 6) fun v50a v50l v50c =>
appendA 1 1 S48 v47a v47l v47c v50l (firstA S48 1 v50l (.sl v50a v50l v50c)) fun v51a v51l v51c S52 =>
callL call 59 [(.sl v51a v51l v51c)] S52 fun v54a v54l v54c S53 =>
some (.tup [(.sl v54a v54l v54c), (.int .i64 0)], S53)

def b37_entry (call : CallA) (n : Nat) (l1_1_1_0_1_0 : Option Pos → Option Pos → Nat → Cap → Option Pos → Nat → Cap → Int → Int → AS → Option (AV × AS)) (x0 : List AV) (S : AS) : Option (AV × AS) :=
ifO (x0.length = 7) <|
newA S (.cells x0) fun b1 S2 =>
ldI .u64 S2 (.rw b1) 0 fun v3 =>
cond (v3 == 0) (
some (.tup [(.sl none 0 (.ex 0)), (.int .i64 81)], S2)) (
ldI .u64 S2 (.rw b1) 1 fun v4 =>
cond (v4 == 0) (
some (.tup [(.sl none 0 (.ex 0)), (.int .i64 81)], S2)) (
ldI .u64 S2 (.rw b1) 3 fun v5 =>
cond (v5 == 0) (
some (.tup [(.sl none 0 (.ex 0)), (.int .i64 81)], S2)) (
ldI .u64 S2 (.rw b1) 0 fun v6 =>
ldI .u64 S2 (.rw b1) 1 fun v7 =>
ldI .u64 S2 (.rw b1) 3 fun v8 =>
ldI .u64 S2 (.rw b1) 2 fun v9 =>
newA S2 (.cells [(.int .u64 v6), (.int .u64 v7), (.int .u64 v8), (.int .u64 v9)]) fun b10 S11 =>
callB call 36 [(.sl (some (.rw b10, 0)) 4 (.ex 4))] S11 fun v13 S12 =>
cond (!v13) (
some (.tup [(.sl none 0 (.ex 0)), (.int .i64 81)], S12)) (
ldI .i64 S12 (.rw b1) 5 fun v14 =>
cond (decide (v14 < 1)) (
some (.tup [(.sl none 0 (.ex 0)), (.int .i64 81)], S12)) (
ldI .i64 S12 (.rw b1) 5 fun v15 =>
cond (decide (v15 > 100)) (
some (.tup [(.sl none 0 (.ex 0)), (.int .i64 81)], S12)) (
ldI .i64 S12 (.rw b1) 4 fun v16 =>
cond (decide (v16 < 0)) (
some (.tup [(.sl none 0 (.ex 0)), (.int .i64 81)], S12)) (
ldI .i64 S12 (.rw b1) 4 fun v17 =>
ldI .i64 S12 (.rw b1) 5 fun v18 =>
cond (decide (v17 ≥ v18)) (
some (.tup [(.sl none 0 (.ex 0)), (.int .i64 81)], S12)) (
ldL S12 (.rw b1) 6 fun v19a v19l v19c =>
cond (((v19l : Nat) : Int) == 0) (
some (.tup [(.sl none 0 (.ex 0)), (.int .i64 81)], S12)) (
ldL S12 (.rw b1) 6 fun v20a v20l v20c =>
cond (decide (((v20l : Nat) : Int) > 336)) (
some (.tup [(.sl none 0 (.ex 0)), (.int .i64 81)], S12)) (
newA S12 (.cells [(.int .u8 74), (.int .u8 76), (.int .u8 79), (.int .u8 71)]) fun b21 S22 =>
convLL S22 (some (.rw b21, 0)) 4 (.ex 4) fun v24a v24l v24c S23 =>
ldI .u64 S23 (.rw b1) 0 fun v25 =>
ldI .u64 S23 (.rw b1) 1 fun v26 =>
ldI .u64 S23 (.rw b1) 2 fun v27 =>
ldI .u64 S23 (.rw b1) 3 fun v28 =>
newA S23 (.cells [(.int .u64 v25), (.int .u64 v26), (.int .u64 v27), (.int .u64 v28)]) fun b29 S30 =>
l1_1_1_0_1_0 (some ((.rw b1), 0)) v24a v24l v24c (some (.rw b29, 0)) 4 (.ex 4) ((4 : Nat) : Int) 0 S30))))))))))

def r37_l1_1_1_0_1_0 (call : CallA) (n : Nat)  (m : Nat) (w1 : Option Pos) (w4a : Option Pos) (w4l : Nat) (w4c : Cap) (w79a : Option Pos) (w79l : Nat) (w79c : Cap) (w80 : Int) (w81 : Int) (S : AS) : Option (AV × AS) := loopN (evC E call n 37 (E.at 37 [1, 1, 1, 0, 1, 0, 0]) 0) [1, 4, 79, 80, 81] m [(1, (.ptr w1)), (4, (.sl w4a w4l w4c)), (79, (.sl w79a w79l w79c)), (80, (.int .i64 w80)), (81, (.int .i64 w81))] S (kBlk 0 (kSeq E call n 37 (E.at 37 [1, 1, 1, 1]) 0 (retK E (E.fn 37))))
def r37_j1_1_1_1 (call : CallA) (n : Nat)  (w1 : Option Pos) (w4a : Option Pos) (w4l : Nat) (w4c : Cap) (S : AS) : Option (AV × AS) := evC E call n 37 (E.at 37 [1, 1, 1, 1]) 0 [(1, (.ptr w1)), (4, (.sl w4a w4l w4c))] S (retK E (E.fn 37))
def r37_l1_1_1_1_0_1_0 (call : CallA) (n : Nat)  (m : Nat) (w1 : Option Pos) (w4a : Option Pos) (w4l : Nat) (w4c : Cap) (w96a : Option Pos) (w96l : Nat) (w96c : Cap) (w97 : Int) (w98 : Int) (S : AS) : Option (AV × AS) := loopN (evC E call n 37 (E.at 37 [1, 1, 1, 1, 0, 1, 0, 0]) 2) [1, 4, 96, 97, 98] m [(1, (.ptr w1)), (4, (.sl w4a w4l w4c)), (96, (.sl w96a w96l w96c)), (97, (.int .i64 w97)), (98, (.int .i64 w98))] S (kBlk 2 (kSeq E call n 37 (E.at 37 [1, 1, 1, 1, 1]) 0 (retK E (E.fn 37))))
def r37_j1_1_1_1_1 (call : CallA) (n : Nat)  (w1 : Option Pos) (w4a : Option Pos) (w4l : Nat) (w4c : Cap) (S : AS) : Option (AV × AS) := evC E call n 37 (E.at 37 [1, 1, 1, 1, 1]) 0 [(1, (.ptr w1)), (4, (.sl w4a w4l w4c))] S (retK E (E.fn 37))
theorem a37_l1_1_1_0_1_0 (call : CallA) (n : Nat)  (m : Nat) (w1 : Option Pos) (w4a : Option Pos) (w4l : Nat) (w4c : Cap) (w79a : Option Pos) (w79l : Nat) (w79c : Cap) (w80 : Int) (w81 : Int) (S : AS) : r37_l1_1_1_0_1_0 call n  (m + 1) w1 w4a w4l w4c w79a w79l w79c w80 w81 S = b37_l1_1_1_0_1_0 call n (r37_l1_1_1_0_1_0 call n  m) (r37_j1_1_1_1 call n ) w1 w4a w4l w4c w79a w79l w79c w80 w81 S := by kernel_rfl
theorem a37_j1_1_1_1 (call : CallA) (n : Nat)  (w1 : Option Pos) (w4a : Option Pos) (w4l : Nat) (w4c : Cap) (S : AS) : r37_j1_1_1_1 call n  w1 w4a w4l w4c S = b37_j1_1_1_1 call n (r37_l1_1_1_1_0_1_0 call n  n) w1 w4a w4l w4c S := by kernel_rfl
theorem a37_l1_1_1_1_0_1_0 (call : CallA) (n : Nat)  (m : Nat) (w1 : Option Pos) (w4a : Option Pos) (w4l : Nat) (w4c : Cap) (w96a : Option Pos) (w96l : Nat) (w96c : Cap) (w97 : Int) (w98 : Int) (S : AS) : r37_l1_1_1_1_0_1_0 call n  (m + 1) w1 w4a w4l w4c w96a w96l w96c w97 w98 S = b37_l1_1_1_1_0_1_0 call n (r37_l1_1_1_1_0_1_0 call n  m) (r37_j1_1_1_1_1 call n ) w1 w4a w4l w4c w96a w96l w96c w97 w98 S := by kernel_rfl
theorem a37_j1_1_1_1_1 (call : CallA) (n : Nat)  (w1 : Option Pos) (w4a : Option Pos) (w4l : Nat) (w4c : Cap) (S : AS) : r37_j1_1_1_1_1 call n  w1 w4a w4l w4c S = b37_j1_1_1_1_1 call n  w1 w4a w4l w4c S := by kernel_rfl
theorem a37_entry (call : CallA) (n : Nat) (x0 : List AV) (S : AS) : evC E call n 37 (E.at 37 []) 0 (enumT 0 [(.agg x0)]) S (retK E (E.fn 37)) = b37_entry call n (r37_l1_1_1_0_1_0 call n  n) x0 S := by kernel_rfl
def J37_j1_1_1_1_1 (call : CallA) (n : Nat)  (w1 : Option Pos) (w4a : Option Pos) (w4l : Nat) (w4c : Cap) (S : AS) : Option (AV × AS) := b37_j1_1_1_1_1 call n  w1 w4a w4l w4c S
theorem h37_j1_1_1_1_1 (call : CallA) (n : Nat)  : r37_j1_1_1_1_1 call n  = J37_j1_1_1_1_1 call n  := by
  funext w1 w4a w4l w4c S
  rw [J37_j1_1_1_1_1, a37_j1_1_1_1_1]
def J37_l1_1_1_1_0_1_0 (call : CallA) (n : Nat)  (m : Nat) : Option Pos → Option Pos → Nat → Cap → Option Pos → Nat → Cap → Int → Int → AS → Option (AV × AS) := Nat.rec (motive := fun _ => Option Pos → Option Pos → Nat → Cap → Option Pos → Nat → Cap → Int → Int → AS → Option (AV × AS)) (fun _ _ _ _ _ _ _ _ _ _ => none) (fun _ ih w1 w4a w4l w4c w96a w96l w96c w97 w98 S => b37_l1_1_1_1_0_1_0 call n ih (J37_j1_1_1_1_1 call n ) w1 w4a w4l w4c w96a w96l w96c w97 w98 S) m
theorem J37_l1_1_1_1_0_1_0_succ (call : CallA) (n : Nat)  (m : Nat) (w1 : Option Pos) (w4a : Option Pos) (w4l : Nat) (w4c : Cap) (w96a : Option Pos) (w96l : Nat) (w96c : Cap) (w97 : Int) (w98 : Int) (S : AS) : J37_l1_1_1_1_0_1_0 call n  (m + 1) w1 w4a w4l w4c w96a w96l w96c w97 w98 S = b37_l1_1_1_1_0_1_0 call n (J37_l1_1_1_1_0_1_0 call n  m) (J37_j1_1_1_1_1 call n ) w1 w4a w4l w4c w96a w96l w96c w97 w98 S := rfl
theorem h37_l1_1_1_1_0_1_0 (call : CallA) (n : Nat)  (m : Nat) : r37_l1_1_1_1_0_1_0 call n  m = J37_l1_1_1_1_0_1_0 call n  m := by
  induction m with
  | zero => rfl
  | succ m ih =>
    funext w1 w4a w4l w4c w96a w96l w96c w97 w98 S
    rw [J37_l1_1_1_1_0_1_0_succ, a37_l1_1_1_1_0_1_0, h37_j1_1_1_1_1 call n , ih]
def J37_j1_1_1_1 (call : CallA) (n : Nat)  (w1 : Option Pos) (w4a : Option Pos) (w4l : Nat) (w4c : Cap) (S : AS) : Option (AV × AS) := b37_j1_1_1_1 call n (J37_l1_1_1_1_0_1_0 call n  n) w1 w4a w4l w4c S
theorem h37_j1_1_1_1 (call : CallA) (n : Nat)  : r37_j1_1_1_1 call n  = J37_j1_1_1_1 call n  := by
  funext w1 w4a w4l w4c S
  rw [J37_j1_1_1_1, a37_j1_1_1_1, h37_l1_1_1_1_0_1_0 call n  n]
def J37_l1_1_1_0_1_0 (call : CallA) (n : Nat)  (m : Nat) : Option Pos → Option Pos → Nat → Cap → Option Pos → Nat → Cap → Int → Int → AS → Option (AV × AS) := Nat.rec (motive := fun _ => Option Pos → Option Pos → Nat → Cap → Option Pos → Nat → Cap → Int → Int → AS → Option (AV × AS)) (fun _ _ _ _ _ _ _ _ _ _ => none) (fun _ ih w1 w4a w4l w4c w79a w79l w79c w80 w81 S => b37_l1_1_1_0_1_0 call n ih (J37_j1_1_1_1 call n ) w1 w4a w4l w4c w79a w79l w79c w80 w81 S) m
theorem J37_l1_1_1_0_1_0_succ (call : CallA) (n : Nat)  (m : Nat) (w1 : Option Pos) (w4a : Option Pos) (w4l : Nat) (w4c : Cap) (w79a : Option Pos) (w79l : Nat) (w79c : Cap) (w80 : Int) (w81 : Int) (S : AS) : J37_l1_1_1_0_1_0 call n  (m + 1) w1 w4a w4l w4c w79a w79l w79c w80 w81 S = b37_l1_1_1_0_1_0 call n (J37_l1_1_1_0_1_0 call n  m) (J37_j1_1_1_1 call n ) w1 w4a w4l w4c w79a w79l w79c w80 w81 S := rfl
theorem h37_l1_1_1_0_1_0 (call : CallA) (n : Nat)  (m : Nat) : r37_l1_1_1_0_1_0 call n  m = J37_l1_1_1_0_1_0 call n  m := by
  induction m with
  | zero => rfl
  | succ m ih =>
    funext w1 w4a w4l w4c w79a w79l w79c w80 w81 S
    rw [J37_l1_1_1_0_1_0_succ, a37_l1_1_1_0_1_0, h37_j1_1_1_1 call n , ih]
def J37 (call : CallA) (n : Nat) (x0 : List AV) (S : AS) : Option (AV × AS) := b37_entry call n (J37_l1_1_1_0_1_0 call n  n) x0 S
theorem run37 (o : Orc) (n : Nat) (args : List AV) (S : AS) (ho : o 37 args = none) : evF E o (n + 1) (.fn 37) args S = evC E (evF E o n) n 37 (E.at 37 []) 0 (enumT 0 args) S (retK E (E.fn 37)) := by
  rw [evF, ho]; kernel_rfl
theorem J37_eq (call : CallA) (n : Nat) (x0 : List AV) (S : AS) : evC E call n 37 (E.at 37 []) 0 (enumT 0 [(.agg x0)]) S (retK E (E.fn 37)) = J37 call n x0 S := by
  rw [J37, a37_entry, h37_l1_1_1_0_1_0 call n  n]
theorem F37 {o : Orc} (n : Nat) (x0 : List AV) (S : AS) (ho : ∀ args, o 37 args = none) : evF E o (n + 1) (.fn 37) [(.agg x0)] S = J37 (evF E o n) n x0 S := (run37 o n [(.agg x0)] S (ho _)).trans (J37_eq _ _ x0 S)
def b38_entry (call : CallA) (n : Nat)  (x0 : Option Pos) (x1 : Int) (S : AS) : Option (AV × AS) :=
gO x0 fun p1 =>
ldI .i64 S p1.1 (p1.2 + 1) fun v2 =>
gO x0 fun p3 =>
ldI .i64 S p3.1 (p3.2 + 2) fun v4 =>
nz (IntKind.wrap .u64 (IntKind.wrap .i64 (v4 - 2))) <|
some ((.int .i64 (IntKind.wrap .i64 ((IntKind.wrap .i64 (v2 + 2)) + (IntKind.wrap .i64 (Int.tmod x1 (IntKind.wrap .u64 (IntKind.wrap .i64 (v4 - 2)))))))), S)

theorem a38_entry (call : CallA) (n : Nat) (x0 : Option Pos) (x1 : Int) (S : AS) : evC E call n 38 (E.at 38 []) 0 (enumT 0 [(.ptr x0), (.int .u64 x1)]) S (retK E (E.fn 38)) = b38_entry call n  x0 x1 S := by kernel_rfl
def J38 (call : CallA) (n : Nat) (x0 : Option Pos) (x1 : Int) (S : AS) : Option (AV × AS) := b38_entry call n  x0 x1 S
theorem run38 (o : Orc) (n : Nat) (args : List AV) (S : AS) (ho : o 38 args = none) : evF E o (n + 1) (.fn 38) args S = evC E (evF E o n) n 38 (E.at 38 []) 0 (enumT 0 args) S (retK E (E.fn 38)) := by
  rw [evF, ho]; kernel_rfl
theorem J38_eq (call : CallA) (n : Nat) (x0 : Option Pos) (x1 : Int) (S : AS) : evC E call n 38 (E.at 38 []) 0 (enumT 0 [(.ptr x0), (.int .u64 x1)]) S (retK E (E.fn 38)) = J38 call n x0 x1 S := by
  rw [J38, a38_entry]
theorem F38 {o : Orc} (n : Nat) (x0 : Option Pos) (x1 : Int) (S : AS) (ho : ∀ args, o 38 args = none) : evF E o (n + 1) (.fn 38) [(.ptr x0), (.int .u64 x1)] S = J38 (evF E o n) n x0 x1 S := (run38 o n [(.ptr x0), (.int .u64 x1)] S (ho _)).trans (J38_eq _ _ x0 x1 S)
def b40_l1_1_0_1_0 (call : CallA) (n : Nat) (j1_1_0_1_0_0_1_1_1 : Option Pos → Bool → Int → AS → Option (AV × AS)) (j1_1_1 : Bool → AS → Option (AV × AS)) (w0 : Option Pos) (w2 : AV) (w3 : Bool) (w8 : Int) (S : AS) : Option (AV × AS) :=
cond (decide (w8 < 2)) (
gO w0 fun p1 =>
ldV S p1.1 p1.2 fun v2 =>
gO w0 fun p3 =>
ldI .i64 S p3.1 (p3.2 + 1) fun v4 =>
nilV E v2 fun v5 =>
invV E call v2 "Read" [(.int .i64 (IntKind.wrap .i64 (v4 + w8)))] S fun v7 S6 =>
gT v7 fun v8 =>
atL v8 0 fun v9a v9l v9c =>
atI .i64 v8 1 fun v10 =>
cond (v10 != 0) (
some ((.int .i64 v10), S6)) (
callT call 60 [(.sl v9a v9l v9c)] S6 fun v12 S11 =>
atG 6 v12 0 fun g13 =>
atI .i64 v12 1 fun v14 =>
newA S11 (.cells [(.int .u64 0), (.int .u64 0), (.int .u64 0), (.int .u64 0), (.int .u64 0), (.int .u64 0)]) fun b15 S16 =>
ifO (g13.length = 6) <|
S16.stn (.rw b15) 0 g13 fun S17 =>
cond (v14 == 0) (
cond (!w3) (
S17.ldn (.rw b15) 0 6 fun g18 =>
gO w0 fun p19 =>
ifO (g18.length = 6) <|
S17.stn p19.1 (p19.2 + 3) g18 fun S20 =>
j1_1_0_1_0_0_1_1_1 w0 true w8 S20) (
ldI .u64 S17 (.rw b15) 0 fun v21 =>
gO w0 fun p22 =>
ldI .u64 S17 p22.1 (p22.2 + 3) fun v23 =>
cond (decide (v21 > v23)) (
S17.ldn (.rw b15) 0 6 fun g24 =>
gO w0 fun p25 =>
ifO (g24.length = 6) <|
S17.stn p25.1 (p25.2 + 3) g24 fun S26 =>
j1_1_0_1_0_0_1_1_1 w0 true w8 S26) (
j1_1_0_1_0_0_1_1_1 w0 w3 w8 S17))) (
j1_1_0_1_0_0_1_1_1 w0 w3 w8 S17))) (
j1_1_1 w3 S)

def b40_j1_1_0_1_0_0_1_1_1 (call : CallA) (n : Nat) (l1_1_0_1_0 : Option Pos → AV → Bool → Int → AS → Option (AV × AS)) (w0 : Option Pos) (w3 : Bool) (w8 : Int) (S : AS) : Option (AV × AS) :=
l1_1_0_1_0 w0 .undef w3 (IntKind.wrap .i64 (w8 + 1)) S

def b40_j1_1_1 (call : CallA) (n : Nat)  (w3 : Bool) (S : AS) : Option (AV × AS) :=
cond (!w3) (
some ((.int .i64 80), S)) (
some ((.int .i64 0), S))

def b40_entry (call : CallA) (n : Nat) (l1_1_0_1_0 : Option Pos → AV → Bool → Int → AS → Option (AV × AS)) (x0 : Option Pos) (S : AS) : Option (AV × AS) :=
l1_1_0_1_0 x0 (.int .i64 0) false 0 S

def r40_l1_1_0_1_0 (call : CallA) (n : Nat)  (m : Nat) (w0 : Option Pos) (w2 : AV) (w3 : Bool) (w8 : Int) (S : AS) : Option (AV × AS) := loopN (evC E call n 40 (E.at 40 [1, 1, 0, 1, 0, 0]) 0) [0, 2, 3, 8] m [(0, (.ptr w0)), (2, w2), (3, (.bool w3)), (8, (.int .i64 w8))] S (kBlk 0 (kSeq E call n 40 (E.at 40 [1, 1, 1]) 0 (retK E (E.fn 40))))
def r40_j1_1_0_1_0_0_1_1_1 (call : CallA) (n : Nat) (m1_1_0_1_0 : Nat) (w0 : Option Pos) (w3 : Bool) (w8 : Int) (S : AS) : Option (AV × AS) := evC E call n 40 (E.at 40 [1, 1, 0, 1, 0, 0, 1, 1, 1]) 0 [(0, (.ptr w0)), (3, (.bool w3)), (8, (.int .i64 w8))] S (kLp (evC E call n 40 (E.at 40 [1, 1, 0, 1, 0, 0]) 0) [0, 2, 3, 8] m1_1_0_1_0 (kBlk 0 (kSeq E call n 40 (E.at 40 [1, 1, 1]) 0 (retK E (E.fn 40)))))
def r40_j1_1_1 (call : CallA) (n : Nat)  (w3 : Bool) (S : AS) : Option (AV × AS) := evC E call n 40 (E.at 40 [1, 1, 1]) 0 [(3, (.bool w3))] S (retK E (E.fn 40))
theorem a40_l1_1_0_1_0 (call : CallA) (n : Nat)  (m : Nat) (w0 : Option Pos) (w2 : AV) (w3 : Bool) (w8 : Int) (S : AS) : r40_l1_1_0_1_0 call n  (m + 1) w0 w2 w3 w8 S = b40_l1_1_0_1_0 call n (r40_j1_1_0_1_0_0_1_1_1 call n m) (r40_j1_1_1 call n ) w0 w2 w3 w8 S := by kernel_rfl
theorem a40_j1_1_0_1_0_0_1_1_1 (call : CallA) (n : Nat) (m1_1_0_1_0 : Nat) (w0 : Option Pos) (w3 : Bool) (w8 : Int) (S : AS) : r40_j1_1_0_1_0_0_1_1_1 call n m1_1_0_1_0 w0 w3 w8 S = b40_j1_1_0_1_0_0_1_1_1 call n (r40_l1_1_0_1_0 call n  m1_1_0_1_0) w0 w3 w8 S := by kernel_rfl
theorem a40_j1_1_1 (call : CallA) (n : Nat)  (w3 : Bool) (S : AS) : r40_j1_1_1 call n  w3 S = b40_j1_1_1 call n  w3 S := by kernel_rfl
theorem a40_entry (call : CallA) (n : Nat) (x0 : Option Pos) (S : AS) : evC E call n 40 (E.at 40 []) 0 (enumT 0 [(.ptr x0)]) S (retK E (E.fn 40)) = b40_entry call n (r40_l1_1_0_1_0 call n  n) x0 S := by kernel_rfl
def J40_j1_1_0_1_0_0_1_1_1 (call : CallA) (n : Nat) (n1_1_0_1_0 : Option Pos → AV → Bool → Int → AS → Option (AV × AS)) (w0 : Option Pos) (w3 : Bool) (w8 : Int) (S : AS) : Option (AV × AS) := b40_j1_1_0_1_0_0_1_1_1 call n n1_1_0_1_0 w0 w3 w8 S
theorem h40_j1_1_0_1_0_0_1_1_1 (call : CallA) (n : Nat) (m1_1_0_1_0 : Nat) : r40_j1_1_0_1_0_0_1_1_1 call n m1_1_0_1_0 = J40_j1_1_0_1_0_0_1_1_1 call n (r40_l1_1_0_1_0 call n  m1_1_0_1_0) := by
  funext w0 w3 w8 S
  rw [J40_j1_1_0_1_0_0_1_1_1, a40_j1_1_0_1_0_0_1_1_1]
def J40_j1_1_1 (call : CallA) (n : Nat)  (w3 : Bool) (S : AS) : Option (AV × AS) := b40_j1_1_1 call n  w3 S
theorem h40_j1_1_1 (call : CallA) (n : Nat)  : r40_j1_1_1 call n  = J40_j1_1_1 call n  := by
  funext w3 S
  rw [J40_j1_1_1, a40_j1_1_1]
def J40_l1_1_0_1_0 (call : CallA) (n : Nat)  (m : Nat) : Option Pos → AV → Bool → Int → AS → Option (AV × AS) := Nat.rec (motive := fun _ => Option Pos → AV → Bool → Int → AS → Option (AV × AS)) (fun _ _ _ _ _ => none) (fun _ ih w0 w2 w3 w8 S => b40_l1_1_0_1_0 call n (J40_j1_1_0_1_0_0_1_1_1 call n ih) (J40_j1_1_1 call n ) w0 w2 w3 w8 S) m
theorem J40_l1_1_0_1_0_succ (call : CallA) (n : Nat)  (m : Nat) (w0 : Option Pos) (w2 : AV) (w3 : Bool) (w8 : Int) (S : AS) : J40_l1_1_0_1_0 call n  (m + 1) w0 w2 w3 w8 S = b40_l1_1_0_1_0 call n (J40_j1_1_0_1_0_0_1_1_1 call n (J40_l1_1_0_1_0 call n  m)) (J40_j1_1_1 call n ) w0 w2 w3 w8 S := rfl
theorem h40_l1_1_0_1_0 (call : CallA) (n : Nat)  (m : Nat) : r40_l1_1_0_1_0 call n  m = J40_l1_1_0_1_0 call n  m := by
  induction m with
  | zero => rfl
  | succ m ih =>
    funext w0 w2 w3 w8 S
    rw [J40_l1_1_0_1_0_succ, a40_l1_1_0_1_0, h40_j1_1_0_1_0_0_1_1_1 call n m, h40_j1_1_1 call n , ih]
def J40 (call : CallA) (n : Nat) (x0 : Option Pos) (S : AS) : Option (AV × AS) := b40_entry call n (J40_l1_1_0_1_0 call n  n) x0 S
theorem run40 (o : Orc) (n : Nat) (args : List AV) (S : AS) (ho : o 40 args = none) : evF E o (n + 1) (.fn 40) args S = evC E (evF E o n) n 40 (E.at 40 []) 0 (enumT 0 args) S (retK E (E.fn 40)) := by
  rw [evF, ho]; kernel_rfl
theorem J40_eq (call : CallA) (n : Nat) (x0 : Option Pos) (S : AS) : evC E call n 40 (E.at 40 []) 0 (enumT 0 [(.ptr x0)]) S (retK E (E.fn 40)) = J40 call n x0 S := by
  rw [J40, a40_entry, h40_l1_1_0_1_0 call n  n]
theorem F40 {o : Orc} (n : Nat) (x0 : Option Pos) (S : AS) (ho : ∀ args, o 40 args = none) : evF E o (n + 1) (.fn 40) [(.ptr x0)] S = J40 (evF E o n) n x0 S := (run40 o n [(.ptr x0)] S (ho _)).trans (J40_eq _ _ x0 S)
def b41_l1_1_1_0_1_0 (call : CallA) (n : Nat) (j1_1_1_0_1_0_0_1_0_0_1_1_1_1_1_1 : Option Pos → Int → Int → Int → Option Pos → Option Pos → Option Pos → Nat → Cap → Option Pos → Int → Option Pos → AS → Option (AV × AS)) (j1_1_1_1 : Option Pos → Option Pos → Nat → Cap → Option Pos → AS → Option (AV × AS)) (w0 : Option Pos) (w1 : Int) (w2 : Int) (w4 : Int) (w8 : Option Pos) (w10 : AV) (w11 : Option Pos) (w12 : AV) (w13 : AV) (w14a : Option Pos) (w14l : Nat) (w14c : Cap) (w15 : Option Pos) (w16 : Int) (S : AS) : Option (AV × AS) :=
cond (w16 == 0) (
gO w0 fun p7 =>
ldV S p7.1 p7.2 fun v8 =>
callI .i64 call 38 [(.ptr w0), (.int .u64 (IntKind.wrap .u64 (w1 + (IntKind.wrap .u64 w16))))] S fun v10 S9 =>
ldV S9 p7.1 p7.2 fun v11 =>
cond (AV.beq v11 v8) (
nilV E v8 fun v12 =>
invV E call v8 "Read" [(.int .i64 v10)] S9 fun v14 S13 =>
gT v14 fun v15 =>
atL v15 0 fun v16a v16l v16c =>
atI .i64 v15 1 fun v17 =>
cond (v17 != 0) (
gO w11 fun p19 =>
S13.stn p19.1 p19.2 [(.int .i64 0), (.int .u64 0), (.int .u64 0)] fun S18 =>
gO w11 fun p20 =>
S18.ldn p20.1 p20.2 3 fun g21 =>
some (.tup [(.sl none 0 (.ex 0)), (.agg g21), (.bool false), (.int .i64 v17)], S18)) (
callT call 61 [(.sl v16a v16l v16c)] S13 fun v23 S22 =>
atG 7 v23 0 fun g24 =>
atI .i64 v23 1 fun v25 =>
newA S22 (.cells [(.int .u64 0), (.int .u64 0), (.int .u64 0), (.int .u64 0), (.int .i64 0), (.int .i64 0), (.sl none 0 (.ex 0))]) fun b26 S27 =>
ifO (g24.length = 7) <|
S27.stn (.rw b26) 0 g24 fun S28 =>
cond (v25 != 0) (
gO w11 fun p30 =>
S28.stn p30.1 p30.2 [(.int .i64 0), (.int .u64 0), (.int .u64 0)] fun S29 =>
gO w11 fun p31 =>
S29.ldn p31.1 p31.2 3 fun g32 =>
some (.tup [(.sl none 0 (.ex 0)), (.agg g32), (.bool false), (.int .i64 0)], S29)) (
ldI .u64 S28 (.rw b26) 2 fun v33 =>
cond (v33 != (IntKind.wrap .u64 (w1 + (IntKind.wrap .u64 w16)))) (
gO w11 fun p35 =>
S28.stn p35.1 p35.2 [(.int .i64 0), (.int .u64 0), (.int .u64 0)] fun S34 =>
gO w11 fun p36 =>
S34.ldn p36.1 p36.2 3 fun g37 =>
some (.tup [(.sl none 0 (.ex 0)), (.agg g37), (.bool false), (.int .i64 0)], S34)) (
ldI .i64 S28 (.rw b26) 4 fun v38 =>
cond (v38 != w16) (
gO w11 fun p40 =>
S28.stn p40.1 p40.2 [(.int .i64 0), (.int .u64 0), (.int .u64 0)] fun S39 =>
gO w11 fun p41 =>
S39.ldn p41.1 p41.2 3 fun g42 =>
some (.tup [(.sl none 0 (.ex 0)), (.agg g42), (.bool false), (.int .i64 0)], S39)) (
ldI .u64 S28 (.rw b26) 0 fun v43 =>
ldI .u64 S28 (.rw b26) 1 fun v44 =>
newA S28 (.cells [(.int .u64 0), (.int .u64 0)]) fun b45 S46 =>
S46.stn (.rw b45) 0 [(.int .u64 v43), (.int .u64 v44)] fun S47 =>
cond (w16 == 0) (
ldI .u64 S47 (.rw b26) 3 fun v48 =>
cond (v48 != w2) (
gO w11 fun p50 =>
S47.stn p50.1 p50.2 [(.int .i64 0), (.int .u64 0), (.int .u64 0)] fun S49 =>
gO w11 fun p51 =>
S49.ldn p51.1 p51.2 3 fun g52 =>
some (.tup [(.sl none 0 (.ex 0)), (.agg g52), (.bool false), (.int .i64 0)], S49)) (
ldI .u64 S47 (.rw b26) 0 fun v53 =>
gO w0 fun p54 =>
ldI .u64 S47 p54.1 (p54.2 + 3 + 1) fun v55 =>
cond (decide (v53 > v55)) (
gO w11 fun p57 =>
S47.stn p57.1 p57.2 [(.int .i64 0), (.int .u64 0), (.int .u64 0)] fun S56 =>
gO w11 fun p58 =>
S56.ldn p58.1 p58.2 3 fun g59 =>
some (.tup [(.sl none 0 (.ex 0)), (.agg g59), (.bool false), (.int .i64 0)], S56)) (
S47.ldn (.rw b45) 0 2 fun g60 =>
gO w8 fun p61 =>
S47.ldn p61.1 p61.2 2 fun g62 =>
callB call 62 [(.agg g60), (.agg g62)] S47 fun v64 S63 =>
cond (!v64) (
gO w11 fun p66 =>
S63.stn p66.1 p66.2 [(.int .i64 0), (.int .u64 0), (.int .u64 0)] fun S65 =>
gO w11 fun p67 =>
S65.ldn p67.1 p67.2 3 fun g68 =>
some (.tup [(.sl none 0 (.ex 0)), (.agg g68), (.bool false), (.int .i64 0)], S65)) (
ldI .i64 S63 (.rw b26) 5 fun v69 =>
cond (decide (v69 > w4)) (
gO w11 fun p71 =>
S63.stn p71.1 p71.2 [(.int .i64 0), (.int .u64 0), (.int .u64 0)] fun S70 =>
gO w11 fun p72 =>
S70.ldn p72.1 p72.2 3 fun g73 =>
some (.tup [(.sl none 0 (.ex 0)), (.agg g73), (.bool false), (.int .i64 0)], S70)) (
S63.ldn (.rw b26) 0 7 fun g74 =>
gO w15 fun p76 =>
ifO (g74.length = 7) <|
S63.stn p76.1 p76.2 g74 fun S75 =>
j1_1_1_0_1_0_0_1_0_0_1_1_1_1_1_1 w0 w1 w2 w4 w8 w11 w14a w14l w14c w15 w16 (some ((.rw b26), 0)) S75))))) (
S47.ldn (.rw b45) 0 2 fun g77 =>
gO w15 fun p78 =>
ldI .u64 S47 p78.1 p78.2 fun v79 =>
gO w15 fun p80 =>
ldI .u64 S47 p80.1 (p80.2 + 1) fun v81 =>
aggNe ty77 g77 [(.int .u64 v79), (.int .u64 v81)] fun b82 =>
cond b82 (
gO w11 fun p84 =>
S47.stn p84.1 p84.2 [(.int .i64 0), (.int .u64 0), (.int .u64 0)] fun S83 =>
gO w11 fun p85 =>
S83.ldn p85.1 p85.2 3 fun g86 =>
some (.tup [(.sl none 0 (.ex 0)), (.agg g86), (.bool false), (.int .i64 0)], S83)) (
ldI .u64 S47 (.rw b26) 3 fun v87 =>
cond (v87 != w2) (
gO w11 fun p89 =>
S47.stn p89.1 p89.2 [(.int .i64 0), (.int .u64 0), (.int .u64 0)] fun S88 =>
gO w11 fun p90 =>
S88.ldn p90.1 p90.2 3 fun g91 =>
some (.tup [(.sl none 0 (.ex 0)), (.agg g91), (.bool false), (.int .i64 0)], S88)) (
ldI .i64 S47 (.rw b26) 5 fun v92 =>
gO w15 fun p93 =>
ldI .i64 S47 p93.1 (p93.2 + 5) fun v94 =>
cond (v92 != v94) (
gO w11 fun p96 =>
S47.stn p96.1 p96.2 [(.int .i64 0), (.int .u64 0), (.int .u64 0)] fun S95 =>
gO w11 fun p97 =>
S95.ldn p97.1 p97.2 3 fun g98 =>
some (.tup [(.sl none 0 (.ex 0)), (.agg g98), (.bool false), (.int .i64 0)], S95)) (
j1_1_1_0_1_0_0_1_0_0_1_1_1_1_1_1 w0 w1 w2 w4 w8 w11 w14a w14l w14c w15 w16 (some ((.rw b26), 0)) S47))))))))) none) (
gO w15 fun p99 =>
ldI .i64 S p99.1 (p99.2 + 5) fun v100 =>
cond (decide (w16 < v100)) (
gO w0 fun p101 =>
ldV S p101.1 p101.2 fun v102 =>
callI .i64 call 38 [(.ptr w0), (.int .u64 (IntKind.wrap .u64 (w1 + (IntKind.wrap .u64 w16))))] S fun v104 S103 =>
ldV S103 p101.1 p101.2 fun v105 =>
cond (AV.beq v105 v102) (
nilV E v102 fun v106 =>
invV E call v102 "Read" [(.int .i64 v104)] S103 fun v108 S107 =>
gT v108 fun v109 =>
atL v109 0 fun v110a v110l v110c =>
atI .i64 v109 1 fun v111 =>
cond (v111 != 0) (
gO w11 fun p113 =>
S107.stn p113.1 p113.2 [(.int .i64 0), (.int .u64 0), (.int .u64 0)] fun S112 =>
gO w11 fun p114 =>
S112.ldn p114.1 p114.2 3 fun g115 =>
some (.tup [(.sl none 0 (.ex 0)), (.agg g115), (.bool false), (.int .i64 v111)], S112)) (
callT call 61 [(.sl v110a v110l v110c)] S107 fun v117 S116 =>
atG 7 v117 0 fun g118 =>
atI .i64 v117 1 fun v119 =>
newA S116 (.cells [(.int .u64 0), (.int .u64 0), (.int .u64 0), (.int .u64 0), (.int .i64 0), (.int .i64 0), (.sl none 0 (.ex 0))]) fun b120 S121 =>
ifO (g118.length = 7) <|
S121.stn (.rw b120) 0 g118 fun S122 =>
cond (v119 != 0) (
gO w11 fun p124 =>
S122.stn p124.1 p124.2 [(.int .i64 0), (.int .u64 0), (.int .u64 0)] fun S123 =>
gO w11 fun p125 =>
S123.ldn p125.1 p125.2 3 fun g126 =>
some (.tup [(.sl none 0 (.ex 0)), (.agg g126), (.bool false), (.int .i64 0)], S123)) (
ldI .u64 S122 (.rw b120) 2 fun v127 =>
cond (v127 != (IntKind.wrap .u64 (w1 + (IntKind.wrap .u64 w16)))) (
gO w11 fun p129 =>
S122.stn p129.1 p129.2 [(.int .i64 0), (.int .u64 0), (.int .u64 0)] fun S128 =>
gO w11 fun p130 =>
S128.ldn p130.1 p130.2 3 fun g131 =>
some (.tup [(.sl none 0 (.ex 0)), (.agg g131), (.bool false), (.int .i64 0)], S128)) (
ldI .i64 S122 (.rw b120) 4 fun v132 =>
cond (v132 != w16) (
gO w11 fun p134 =>
S122.stn p134.1 p134.2 [(.int .i64 0), (.int .u64 0), (.int .u64 0)] fun S133 =>
gO w11 fun p135 =>
S133.ldn p135.1 p135.2 3 fun g136 =>
some (.tup [(.sl none 0 (.ex 0)), (.agg g136), (.bool false), (.int .i64 0)], S133)) (
ldI .u64 S122 (.rw b120) 0 fun v137 =>
ldI .u64 S122 (.rw b120) 1 fun v138 =>
newA S122 (.cells [(.int .u64 0), (.int .u64 0)]) fun b139 S140 =>
S140.stn (.rw b139) 0 [(.int .u64 v137), (.int .u64 v138)] fun S141 =>
cond (w16 == 0) (
ldI .u64 S141 (.rw b120) 3 fun v142 =>
cond (v142 != w2) (
gO w11 fun p144 =>
S141.stn p144.1 p144.2 [(.int .i64 0), (.int .u64 0), (.int .u64 0)] fun S143 =>
gO w11 fun p145 =>
S143.ldn p145.1 p145.2 3 fun g146 =>
some (.tup [(.sl none 0 (.ex 0)), (.agg g146), (.bool false), (.int .i64 0)], S143)) (
ldI .u64 S141 (.rw b120) 0 fun v147 =>
gO w0 fun p148 =>
ldI .u64 S141 p148.1 (p148.2 + 3 + 1) fun v149 =>
cond (decide (v147 > v149)) (
gO w11 fun p151 =>
S141.stn p151.1 p151.2 [(.int .i64 0), (.int .u64 0), (.int .u64 0)] fun S150 =>
gO w11 fun p152 =>
S150.ldn p152.1 p152.2 3 fun g153 =>
some (.tup [(.sl none 0 (.ex 0)), (.agg g153), (.bool false), (.int .i64 0)], S150)) (
S141.ldn (.rw b139) 0 2 fun g154 =>
gO w8 fun p155 =>
S141.ldn p155.1 p155.2 2 fun g156 =>
callB call 62 [(.agg g154), (.agg g156)] S141 fun v158 S157 =>
cond (!v158) (
gO w11 fun p160 =>
S157.stn p160.1 p160.2 [(.int .i64 0), (.int .u64 0), (.int .u64 0)] fun S159 =>
gO w11 fun p161 =>
S159.ldn p161.1 p161.2 3 fun g162 =>
some (.tup [(.sl none 0 (.ex 0)), (.agg g162), (.bool false), (.int .i64 0)], S159)) (
ldI .i64 S157 (.rw b120) 5 fun v163 =>
cond (decide (v163 > w4)) (
gO w11 fun p165 =>
S157.stn p165.1 p165.2 [(.int .i64 0), (.int .u64 0), (.int .u64 0)] fun S164 =>
gO w11 fun p166 =>
S164.ldn p166.1 p166.2 3 fun g167 =>
some (.tup [(.sl none 0 (.ex 0)), (.agg g167), (.bool false), (.int .i64 0)], S164)) (
S157.ldn (.rw b120) 0 7 fun g168 =>
gO w15 fun p170 =>
ifO (g168.length = 7) <|
S157.stn p170.1 p170.2 g168 fun S169 =>
j1_1_1_0_1_0_0_1_0_0_1_1_1_1_1_1 w0 w1 w2 w4 w8 w11 w14a w14l w14c w15 w16 (some ((.rw b120), 0)) S169))))) (
S141.ldn (.rw b139) 0 2 fun g171 =>
gO w15 fun p172 =>
ldI .u64 S141 p172.1 p172.2 fun v173 =>
gO w15 fun p174 =>
ldI .u64 S141 p174.1 (p174.2 + 1) fun v175 =>
aggNe ty77 g171 [(.int .u64 v173), (.int .u64 v175)] fun b176 =>
cond b176 (
gO w11 fun p178 =>
S141.stn p178.1 p178.2 [(.int .i64 0), (.int .u64 0), (.int .u64 0)] fun S177 =>
gO w11 fun p179 =>
S177.ldn p179.1 p179.2 3 fun g180 =>
some (.tup [(.sl none 0 (.ex 0)), (.agg g180), (.bool false), (.int .i64 0)], S177)) (
ldI .u64 S141 (.rw b120) 3 fun v181 =>
cond (v181 != w2) (
gO w11 fun p183 =>
S141.stn p183.1 p183.2 [(.int .i64 0), (.int .u64 0), (.int .u64 0)] fun S182 =>
gO w11 fun p184 =>
S182.ldn p184.1 p184.2 3 fun g185 =>
some (.tup [(.sl none 0 (.ex 0)), (.agg g185), (.bool false), (.int .i64 0)], S182)) (
ldI .i64 S141 (.rw b120) 5 fun v186 =>
gO w15 fun p187 =>
ldI .i64 S141 p187.1 (p187.2 + 5) fun v188 =>
cond (v186 != v188) (
gO w11 fun p190 =>
S141.stn p190.1 p190.2 [(.int .i64 0), (.int .u64 0), (.int .u64 0)] fun S189 =>
gO w11 fun p191 =>
S189.ldn p191.1 p191.2 3 fun g192 =>
some (.tup [(.sl none 0 (.ex 0)), (.agg g192), (.bool false), (.int .i64 0)], S189)) (
j1_1_1_0_1_0_0_1_0_0_1_1_1_1_1_1 w0 w1 w2 w4 w8 w11 w14a w14l w14c w15 w16 (some ((.rw b120), 0)) S141))))))))) none) (
j1_1_1_1 w11 w14a w14l w14c w15 S))

def b41_j1_1_1_0_1_0_0_1_0_0_1_1_1_1_1_1 (call : CallA) (n : Nat) (l1_1_1_0_1_0 : Option Pos → Int → Int → Int → Option Pos → AV → Option Pos → AV → AV → Option Pos → Nat → Cap → Option Pos → Int → AS → Option (AV × AS)) (w0 : Option Pos) (w1 : Int) (w2 : Int) (w4 : Int) (w8 : Option Pos) (w11 : Option Pos) (w14a : Option Pos) (w14l : Nat) (w14c : Cap) (w15 : Option Pos) (w16 : Int) (w19 : Option Pos) (S : AS) : Option (AV × AS) :=
gO w19 fun p193 =>
ldL S p193.1 (p193.2 + 6) fun v194a v194l v194c =>
appendA 1 1 S w14a w14l w14c v194l (firstA S 1 v194l (.sl v194a v194l v194c)) fun v195a v195l v195c S196 =>
l1_1_1_0_1_0 w0 w1 w2 w4 w8 .undef w11 .undef .undef v195a v195l v195c w15 (IntKind.wrap .i64 (w16 + 1)) S196

def b41_j1_1_1_1 (call : CallA) (n : Nat)  (w11 : Option Pos) (w14a : Option Pos) (w14l : Nat) (w14c : Cap) (w15 : Option Pos) (S : AS) : Option (AV × AS) :=
callT call 63 [(.sl w14a w14l w14c)] S fun v198 S197 =>
atL v198 0 fun v199a v199l v199c =>
atI .i64 v198 1 fun v200 =>
gO w15 fun p201 =>
ldI .i64 S197 p201.1 (p201.2 + 5) fun v202 =>
gO w15 fun p203 =>
ldI .u64 S197 p203.1 p203.2 fun v204 =>
gO w15 fun p205 =>
ldI .u64 S197 p205.1 (p205.2 + 1) fun v206 =>
gO w11 fun p208 =>
S197.stn p208.1 p208.2 [(.int .i64 v202), (.int .u64 v204), (.int .u64 v206)] fun S207 =>
gO w11 fun p209 =>
S207.ldn p209.1 p209.2 3 fun g210 =>
some (.tup [(.sl v199a v199l v199c), (.agg g210), (.bool (v200 == 0)), (.int .i64 0)], S207)

def b41_entry (call : CallA) (n : Nat) (l1_1_1_0_1_0 : Option Pos → Int → Int → Int → Option Pos → AV → Option Pos → AV → AV → Option Pos → Nat → Cap → Option Pos → Int → AS → Option (AV × AS)) (x0 : Option Pos) (x1 : Int) (x2 : Int) (x3 : List AV) (x4 : Int) (S : AS) : Option (AV × AS) :=
ifO (x3.length = 2) <|
newA S (.cells x3) fun b1 S2 =>
newA S2 (.cells [(.int .i64 0), (.int .u64 0), (.int .u64 0)]) fun b3 S4 =>
newA S4 (.cells [(.int .u64 0), (.int .u64 0), (.int .u64 0), (.int .u64 0), (.int .i64 0), (.int .i64 0), (.sl none 0 (.ex 0))]) fun b5 S6 =>
l1_1_1_0_1_0 x0 x1 x2 x4 (some ((.rw b1), 0)) (.sl none 0 (.ex 0)) (some ((.rw b3), 0)) (.bool false) (.int .i64 0) none 0 (.ex 0) (some ((.rw b5), 0)) 0 S6

def r41_l1_1_1_0_1_0 (call : CallA) (n : Nat)  (m : Nat) (w0 : Option Pos) (w1 : Int) (w2 : Int) (w4 : Int) (w8 : Option Pos) (w10 : AV) (w11 : Option Pos) (w12 : AV) (w13 : AV) (w14a : Option Pos) (w14l : Nat) (w14c : Cap) (w15 : Option Pos) (w16 : Int) (S : AS) : Option (AV × AS) := loopN (evC E call n 41 (E.at 41 [1, 1, 1, 0, 1, 0, 0]) 0) [0, 1, 2, 4, 8, 10, 11, 12, 13, 14, 15, 16] m [(0, (.ptr w0)), (1, (.int .u64 w1)), (2, (.int .u64 w2)), (4, (.int .i64 w4)), (8, (.ptr w8)), (10, w10), (11, (.ptr w11)), (12, w12), (13, w13), (14, (.sl w14a w14l w14c)), (15, (.ptr w15)), (16, (.int .i64 w16))] S (kBlk 0 (kSeq E call n 41 (E.at 41 [1, 1, 1, 1]) 0 (retK E (E.fn 41))))
def r41_j1_1_1_0_1_0_0_1_0_0_1_1_1_1_1_1 (call : CallA) (n : Nat) (m1_1_1_0_1_0 : Nat) (w0 : Option Pos) (w1 : Int) (w2 : Int) (w4 : Int) (w8 : Option Pos) (w11 : Option Pos) (w14a : Option Pos) (w14l : Nat) (w14c : Cap) (w15 : Option Pos) (w16 : Int) (w19 : Option Pos) (S : AS) : Option (AV × AS) := evC E call n 41 (E.at 41 [1, 1, 1, 0, 1, 0, 0, 1, 0, 0, 1, 1, 1, 1, 1, 1]) 1 [(0, (.ptr w0)), (1, (.int .u64 w1)), (2, (.int .u64 w2)), (4, (.int .i64 w4)), (8, (.ptr w8)), (11, (.ptr w11)), (14, (.sl w14a w14l w14c)), (15, (.ptr w15)), (16, (.int .i64 w16)), (19, (.ptr w19))] S (kBlk 1 (kSeq E call n 41 (E.at 41 [1, 1, 1, 0, 1, 0, 0, 1, 1]) 0 (kLp (evC E call n 41 (E.at 41 [1, 1, 1, 0, 1, 0, 0]) 0) [0, 1, 2, 4, 8, 10, 11, 12, 13, 14, 15, 16] m1_1_1_0_1_0 (kBlk 0 (kSeq E call n 41 (E.at 41 [1, 1, 1, 1]) 0 (retK E (E.fn 41)))))))
def r41_j1_1_1_1 (call : CallA) (n : Nat)  (w11 : Option Pos) (w14a : Option Pos) (w14l : Nat) (w14c : Cap) (w15 : Option Pos) (S : AS) : Option (AV × AS) := evC E call n 41 (E.at 41 [1, 1, 1, 1]) 0 [(11, (.ptr w11)), (14, (.sl w14a w14l w14c)), (15, (.ptr w15))] S (retK E (E.fn 41))
theorem a41_l1_1_1_0_1_0 (call : CallA) (n : Nat)  (m : Nat) (w0 : Option Pos) (w1 : Int) (w2 : Int) (w4 : Int) (w8 : Option Pos) (w10 : AV) (w11 : Option Pos) (w12 : AV) (w13 : AV) (w14a : Option Pos) (w14l : Nat) (w14c : Cap) (w15 : Option Pos) (w16 : Int) (S : AS) : r41_l1_1_1_0_1_0 call n  (m + 1) w0 w1 w2 w4 w8 w10 w11 w12 w13 w14a w14l w14c w15 w16 S = b41_l1_1_1_0_1_0 call n (r41_j1_1_1_0_1_0_0_1_0_0_1_1_1_1_1_1 call n m) (r41_j1_1_1_1 call n ) w0 w1 w2 w4 w8 w10 w11 w12 w13 w14a w14l w14c w15 w16 S := by kernel_rfl
theorem a41_j1_1_1_0_1_0_0_1_0_0_1_1_1_1_1_1 (call : CallA) (n : Nat) (m1_1_1_0_1_0 : Nat) (w0 : Option Pos) (w1 : Int) (w2 : Int) (w4 : Int) (w8 : Option Pos) (w11 : Option Pos) (w14a : Option Pos) (w14l : Nat) (w14c : Cap) (w15 : Option Pos) (w16 : Int) (w19 : Option Pos) (S : AS) : r41_j1_1_1_0_1_0_0_1_0_0_1_1_1_1_1_1 call n m1_1_1_0_1_0 w0 w1 w2 w4 w8 w11 w14a w14l w14c w15 w16 w19 S = b41_j1_1_1_0_1_0_0_1_0_0_1_1_1_1_1_1 call n (r41_l1_1_1_0_1_0 call n  m1_1_1_0_1_0) w0 w1 w2 w4 w8 w11 w14a w14l w14c w15 w16 w19 S := by kernel_rfl
theorem a41_j1_1_1_1 (call : CallA) (n : Nat)  (w11 : Option Pos) (w14a : Option Pos) (w14l : Nat) (w14c : Cap) (w15 : Option Pos) (S : AS) : r41_j1_1_1_1 call n  w11 w14a w14l w14c w15 S = b41_j1_1_1_1 call n  w11 w14a w14l w14c w15 S := by kernel_rfl
theorem a41_entry (call : CallA) (n : Nat) (x0 : Option Pos) (x1 : Int) (x2 : Int) (x3 : List AV) (x4 : Int) (S : AS) : evC E call n 41 (E.at 41 []) 0 (enumT 0 [(.ptr x0), (.int .u64 x1), (.int .u64 x2), (.agg x3), (.int .i64 x4)]) S (retK E (E.fn 41)) = b41_entry call n (r41_l1_1_1_0_1_0 call n  n) x0 x1 x2 x3 x4 S := by kernel_rfl
def J41_j1_1_1_0_1_0_0_1_0_0_1_1_1_1_1_1 (call : CallA) (n : Nat) (n1_1_1_0_1_0 : Option Pos → Int → Int → Int → Option Pos → AV → Option Pos → AV → AV → Option Pos → Nat → Cap → Option Pos → Int → AS → Option (AV × AS)) (w0 : Option Pos) (w1 : Int) (w2 : Int) (w4 : Int) (w8 : Option Pos) (w11 : Option Pos) (w14a : Option Pos) (w14l : Nat) (w14c : Cap) (w15 : Option Pos) (w16 : Int) (w19 : Option Pos) (S : AS) : Option (AV × AS) := b41_j1_1_1_0_1_0_0_1_0_0_1_1_1_1_1_1 call n n1_1_1_0_1_0 w0 w1 w2 w4 w8 w11 w14a w14l w14c w15 w16 w19 S
theorem h41_j1_1_1_0_1_0_0_1_0_0_1_1_1_1_1_1 (call : CallA) (n : Nat) (m1_1_1_0_1_0 : Nat) : r41_j1_1_1_0_1_0_0_1_0_0_1_1_1_1_1_1 call n m1_1_1_0_1_0 = J41_j1_1_1_0_1_0_0_1_0_0_1_1_1_1_1_1 call n (r41_l1_1_1_0_1_0 call n  m1_1_1_0_1_0) := by
  funext w0 w1 w2 w4 w8 w11 w14a w14l w14c w15 w16 w19 S
  rw [J41_j1_1_1_0_1_0_0_1_0_0_1_1_1_1_1_1, a41_j1_1_1_0_1_0_0_1_0_0_1_1_1_1_1_1]
def J41_j1_1_1_1 (call : CallA) (n : Nat)  (w11 : Option Pos) (w14a : Option Pos) (w14l : Nat) (w14c : Cap) (w15 : Option Pos) (S : AS) : Option (AV × AS) := b41_j1_1_1_1 call n  w11 w14a w14l w14c w15 S
theorem h41_j1_1_1_1 (call : CallA) (n : Nat)  : r41_j1_1_1_1 call n  = J41_j1_1_1_1 call n  := by
  funext w11 w14a w14l w14c w15 S
  rw [J41_j1_1_1_1, a41_j1_1_1_1]
def J41_l1_1_1_0_1_0 (call : CallA) (n : Nat)  (m : Nat) : Option Pos → Int → Int → Int → Option Pos → AV → Option Pos → AV → AV → Option Pos → Nat → Cap → Option Pos → Int → AS → Option (AV × AS) := Nat.rec (motive := fun _ => Option Pos → Int → Int → Int → Option Pos → AV → Option Pos → AV → AV → Option Pos → Nat → Cap → Option Pos → Int → AS → Option (AV × AS)) (fun _ _ _ _ _ _ _ _ _ _ _ _ _ _ _ => none) (fun _ ih w0 w1 w2 w4 w8 w10 w11 w12 w13 w14a w14l w14c w15 w16 S => b41_l1_1_1_0_1_0 call n (J41_j1_1_1_0_1_0_0_1_0_0_1_1_1_1_1_1 call n ih) (J41_j1_1_1_1 call n ) w0 w1 w2 w4 w8 w10 w11 w12 w13 w14a w14l w14c w15 w16 S) m
theorem J41_l1_1_1_0_1_0_succ (call : CallA) (n : Nat)  (m : Nat) (w0 : Option Pos) (w1 : Int) (w2 : Int) (w4 : Int) (w8 : Option Pos) (w10 : AV) (w11 : Option Pos) (w12 : AV) (w13 : AV) (w14a : Option Pos) (w14l : Nat) (w14c : Cap) (w15 : Option Pos) (w16 : Int) (S : AS) : J41_l1_1_1_0_1_0 call n  (m + 1) w0 w1 w2 w4 w8 w10 w11 w12 w13 w14a w14l w14c w15 w16 S = b41_l1_1_1_0_1_0 call n (J41_j1_1_1_0_1_0_0_1_0_0_1_1_1_1_1_1 call n (J41_l1_1_1_0_1_0 call n  m)) (J41_j1_1_1_1 call n ) w0 w1 w2 w4 w8 w10 w11 w12 w13 w14a w14l w14c w15 w16 S := rfl
theorem h41_l1_1_1_0_1_0 (call : CallA) (n : Nat)  (m : Nat) : r41_l1_1_1_0_1_0 call n  m = J41_l1_1_1_0_1_0 call n  m := by
  induction m with
  | zero => rfl
  | succ m ih =>
    funext w0 w1 w2 w4 w8 w10 w11 w12 w13 w14a w14l w14c w15 w16 S
    rw [J41_l1_1_1_0_1_0_succ, a41_l1_1_1_0_1_0, h41_j1_1_1_0_1_0_0_1_0_0_1_1_1_1_1_1 call n m, h41_j1_1_1_1 call n , ih]
def J41 (call : CallA) (n : Nat) (x0 : Option Pos) (x1 : Int) (x2 : Int) (x3 : List AV) (x4 : Int) (S : AS) : Option (AV × AS) := b41_entry call n (J41_l1_1_1_0_1_0 call n  n) x0 x1 x2 x3 x4 S
theorem run41 (o : Orc) (n : Nat) (args : List AV) (S : AS) (ho : o 41 args = none) : evF E o (n + 1) (.fn 41) args S = evC E (evF E o n) n 41 (E.at 41 []) 0 (enumT 0 args) S (retK E (E.fn 41)) := by
  rw [evF, ho]; kernel_rfl
theorem J41_eq (call : CallA) (n : Nat) (x0 : Option Pos) (x1 : Int) (x2 : Int) (x3 : List AV) (x4 : Int) (S : AS) : evC E call n 41 (E.at 41 []) 0 (enumT 0 [(.ptr x0), (.int .u64 x1), (.int .u64 x2), (.agg x3), (.int .i64 x4)]) S (retK E (E.fn 41)) = J41 call n x0 x1 x2 x3 x4 S := by
  rw [J41, a41_entry, h41_l1_1_1_0_1_0 call n  n]
theorem F41 {o : Orc} (n : Nat) (x0 : Option Pos) (x1 : Int) (x2 : Int) (x3 : List AV) (x4 : Int) (S : AS) (ho : ∀ args, o 41 args = none) : evF E o (n + 1) (.fn 41) [(.ptr x0), (.int .u64 x1), (.int .u64 x2), (.agg x3), (.int .i64 x4)] S = J41 (evF E o n) n x0 x1 x2 x3 x4 S := (run41 o n [(.ptr x0), (.int .u64 x1), (.int .u64 x2), (.agg x3), (.int .i64 x4)] S (ho _)).trans (J41_eq _ _ x0 x1 x2 x3 x4 S)
def b43_l1_1_1_0_1_0 (call : CallA) (n : Nat) (l1_1_1_0_1_0 : Int → List UInt8 → Option Pos → Int → AS → Option (AV × AS)) (w0 : Int) (w3 : List UInt8) (w4 : Option Pos) (w5 : Int) (S : AS) : Option (AV × AS) :=
cond (decide (w5 < w0)) (
gO w4 fun p8 =>
ldL S p8.1 p8.2 fun v9a v9l v9c =>
newA S (.cells [(.str w3)]) fun b10 S11 =>
appendA 1 16 S11 v9a v9l v9c 1 (firstA S11 1 1 (.sl (some (.rw b10, 0)) 1 (.ex 1))) fun v12a v12l v12c S13 =>
gO w4 fun p14 =>
S13.stn p14.1 p14.2 [(.sl v12a v12l v12c)] fun S15 =>
l1_1_1_0_1_0 w0 w3 w4 (IntKind.wrap .i64 (w5 + 1)) S15) (
some ((.ptr w4), S))

def b43_entry (call : CallA) (n : Nat) (l1_1_1_0_1_0 : Int → List UInt8 → Option Pos → Int → AS → Option (AV × AS)) (x0 : Int) (S : AS) : Option (AV × AS) :=
mkSl 1 384 384 fun l3 c4 =>
newA S (.cells (zeros c4 [(.int .u8 0)])) fun b1 S2 =>
bytesStr S2 (some (.rw b1, 0)) l3 fun s5 =>
newA S2 (.cells [(.sl none 0 (.ex 0)), (.sl none 0 (.ex 0)), (.int .i64 (-1))]) fun b6 S7 =>
l1_1_1_0_1_0 x0 s5 (some ((.rw b6), 0)) 0 S7

def r43_l1_1_1_0_1_0 (call : CallA) (n : Nat)  (m : Nat) (w0 : Int) (w3 : List UInt8) (w4 : Option Pos) (w5 : Int) (S : AS) : Option (AV × AS) := loopN (evC E call n 43 (E.at 43 [1, 1, 1, 0, 1, 0, 0]) 0) [0, 3, 4, 5] m [(0, (.int .i64 w0)), (3, (.str w3)), (4, (.ptr w4)), (5, (.int .i64 w5))] S (kBlk 0 (kSeq E call n 43 (E.at 43 [1, 1, 1, 1]) 0 (retK E (E.fn 43))))
theorem a43_l1_1_1_0_1_0 (call : CallA) (n : Nat)  (m : Nat) (w0 : Int) (w3 : List UInt8) (w4 : Option Pos) (w5 : Int) (S : AS) : r43_l1_1_1_0_1_0 call n  (m + 1) w0 w3 w4 w5 S = b43_l1_1_1_0_1_0 call n (r43_l1_1_1_0_1_0 call n  m) w0 w3 w4 w5 S := by kernel_rfl
theorem a43_entry (call : CallA) (n : Nat) (x0 : Int) (S : AS) : evC E call n 43 (E.at 43 []) 0 (enumT 0 [(.int .i64 x0)]) S (retK E (E.fn 43)) = b43_entry call n (r43_l1_1_1_0_1_0 call n  n) x0 S := by kernel_rfl
def J43_l1_1_1_0_1_0 (call : CallA) (n : Nat)  (m : Nat) : Int → List UInt8 → Option Pos → Int → AS → Option (AV × AS) := Nat.rec (motive := fun _ => Int → List UInt8 → Option Pos → Int → AS → Option (AV × AS)) (fun _ _ _ _ _ => none) (fun _ ih w0 w3 w4 w5 S => b43_l1_1_1_0_1_0 call n ih w0 w3 w4 w5 S) m
theorem J43_l1_1_1_0_1_0_succ (call : CallA) (n : Nat)  (m : Nat) (w0 : Int) (w3 : List UInt8) (w4 : Option Pos) (w5 : Int) (S : AS) : J43_l1_1_1_0_1_0 call n  (m + 1) w0 w3 w4 w5 S = b43_l1_1_1_0_1_0 call n (J43_l1_1_1_0_1_0 call n  m) w0 w3 w4 w5 S := rfl
theorem h43_l1_1_1_0_1_0 (call : CallA) (n : Nat)  (m : Nat) : r43_l1_1_1_0_1_0 call n  m = J43_l1_1_1_0_1_0 call n  m := by
  induction m with
  | zero => rfl
  | succ m ih =>
    funext w0 w3 w4 w5 S
    rw [J43_l1_1_1_0_1_0_succ, a43_l1_1_1_0_1_0, ih]
def J43 (call : CallA) (n : Nat) (x0 : Int) (S : AS) : Option (AV × AS) := b43_entry call n (J43_l1_1_1_0_1_0 call n  n) x0 S
theorem run43 (o : Orc) (n : Nat) (args : List AV) (S : AS) (ho : o 43 args = none) : evF E o (n + 1) (.fn 43) args S = evC E (evF E o n) n 43 (E.at 43 []) 0 (enumT 0 args) S (retK E (E.fn 43)) := by
  rw [evF, ho]; kernel_rfl
theorem J43_eq (call : CallA) (n : Nat) (x0 : Int) (S : AS) : evC E call n 43 (E.at 43 []) 0 (enumT 0 [(.int .i64 x0)]) S (retK E (E.fn 43)) = J43 call n x0 S := by
  rw [J43, a43_entry, h43_l1_1_1_0_1_0 call n  n]
theorem F43 {o : Orc} (n : Nat) (x0 : Int) (S : AS) (ho : ∀ args, o 43 args = none) : evF E o (n + 1) (.fn 43) [(.int .i64 x0)] S = J43 (evF E o n) n x0 S := (run43 o n [(.int .i64 x0)] S (ho _)).trans (J43_eq _ _ x0 S)
def b44_l0_1_0 (call : CallA) (n : Nat) (l0_1_0_0_1_0_0_1_0_1_0 : Option Pos → Option Pos → Nat → Cap → Int → Bool → Int → AS → Option (AV × AS)) (j1 : Option Pos → AS → Option (AV × AS)) (w0 : Option Pos) (w1a : Option Pos) (w1l : Nat) (w1c : Cap) (w4 : Int) (S : AS) : Option (AV × AS) :=
gO w0 fun p1 =>
ldL S p1.1 (p1.2 + 1) fun v2a v2l v2c =>
cond (decide (w4 < ((v2l : Nat) : Int))) (
l0_1_0_0_1_0_0_1_0_1_0 w0 w1a w1l w1c w4 false 0 S) (
j1 w0 S)

def b44_l0_1_0_0_1_0_0_1_0_1_0 (call : CallA) (n : Nat) (l0_1_0_0_1_0_0_1_0_1_0 : Option Pos → Option Pos → Nat → Cap → Int → Bool → Int → AS → Option (AV × AS)) (j0_1_0_0_1_0_0_1_1 : Option Pos → Option Pos → Nat → Cap → Int → Bool → AS → Option (AV × AS)) (w0 : Option Pos) (w1a : Option Pos) (w1l : Nat) (w1c : Cap) (w4 : Int) (w5 : Bool) (w6 : Int) (S : AS) : Option (AV × AS) :=
cond (decide (w6 < ((w1l : Nat) : Int))) (
cond w5 (
l0_1_0_0_1_0_0_1_0_1_0 w0 w1a w1l w1c w4 true (IntKind.wrap .i64 (w6 + 1)) S) (
ixSl 1 w1a w1l w6 fun p3 =>
ldI .i64 S p3.1 p3.2 fun v4 =>
l0_1_0_0_1_0_0_1_0_1_0 w0 w1a w1l w1c w4 (v4 == w4) (IntKind.wrap .i64 (w6 + 1)) S)) (
j0_1_0_0_1_0_0_1_1 w0 w1a w1l w1c w4 w5 S)

def b44_j1 (call : CallA) (n : Nat)  (w0 : Option Pos) (S : AS) : Option (AV × AS) :=
gO w0 fun p5 =>
S.stn p5.1 (p5.2 + 1) [(.sl none 0 (.ex 0))] fun S6 =>
some (.tup [], S6)

def b44_j0_1_0_0_1_0_0_1_1 (call : CallA) (n : Nat) (j0_1_0_0_1_1 : Option Pos → Option Pos → Nat → Cap → Int → AS → Option (AV × AS)) (w0 : Option Pos) (w1a : Option Pos) (w1l : Nat) (w1c : Cap) (w4 : Int) (w5 : Bool) (S : AS) : Option (AV × AS) :=
cond w5 (
gO w0 fun p7 =>
ldL S p7.1 p7.2 fun v8a v8l v8c =>
gO w0 fun p9 =>
ldL S p9.1 (p9.2 + 1) fun v10a v10l v10c =>
ixSl 2 v10a v10l w4 fun p11 =>
ldI .i64 S p11.1 p11.2 fun v12 =>
gO w0 fun p13 =>
ldL S p13.1 (p13.2 + 1) fun v14a v14l v14c =>
ixSl 2 v14a v14l w4 fun p15 =>
ldS S p15.1 (p15.2 + 1) fun v16 =>
ixSl 1 v8a v8l v12 fun p17 =>
S.stn p17.1 p17.2 [(.str v16)] fun S18 =>
j0_1_0_0_1_1 w0 w1a w1l w1c w4 S18) (
j0_1_0_0_1_1 w0 w1a w1l w1c w4 S)

def b44_j0_1_0_0_1_1 (call : CallA) (n : Nat) (l0_1_0 : Option Pos → Option Pos → Nat → Cap → Int → AS → Option (AV × AS)) (w0 : Option Pos) (w1a : Option Pos) (w1l : Nat) (w1c : Cap) (w4 : Int) (S : AS) : Option (AV × AS) :=
l0_1_0 w0 w1a w1l w1c (IntKind.wrap .i64 (w4 + 1)) S

def b44_entry (call : CallA) (n : Nat) (l0_1_0 : Option Pos → Option Pos → Nat → Cap → Int → AS → Option (AV × AS)) (x0 : Option Pos) (x1a : Option Pos) (x1l : Nat) (x1c : Cap) (S : AS) : Option (AV × AS) :=
l0_1_0 x0 x1a x1l x1c 0 S

def r44_l0_1_0 (call : CallA) (n : Nat)  (m : Nat) (w0 : Option Pos) (w1a : Option Pos) (w1l : Nat) (w1c : Cap) (w4 : Int) (S : AS) : Option (AV × AS) := loopN (evC E call n 44 (E.at 44 [0, 1, 0, 0]) 0) [0, 1, 4] m [(0, (.ptr w0)), (1, (.sl w1a w1l w1c)), (4, (.int .i64 w4))] S (kBlk 0 (kSeq E call n 44 (E.at 44 [1]) 0 (retK E (E.fn 44))))
def r44_l0_1_0_0_1_0_0_1_0_1_0 (call : CallA) (n : Nat) (m0_1_0 : Nat) (m : Nat) (w0 : Option Pos) (w1a : Option Pos) (w1l : Nat) (w1c : Cap) (w4 : Int) (w5 : Bool) (w6 : Int) (S : AS) : Option (AV × AS) := loopN (evC E call n 44 (E.at 44 [0, 1, 0, 0, 1, 0, 0, 1, 0, 1, 0, 0]) 2) [0, 1, 4, 5, 6] m [(0, (.ptr w0)), (1, (.sl w1a w1l w1c)), (4, (.int .i64 w4)), (5, (.bool w5)), (6, (.int .i64 w6))] S (kBlk 2 (kSeq E call n 44 (E.at 44 [0, 1, 0, 0, 1, 0, 0, 1, 1]) 1 (kBlk 1 (kSeq E call n 44 (E.at 44 [0, 1, 0, 0, 1, 1]) 0 (kLp (evC E call n 44 (E.at 44 [0, 1, 0, 0]) 0) [0, 1, 4] m0_1_0 (kBlk 0 (kSeq E call n 44 (E.at 44 [1]) 0 (retK E (E.fn 44)))))))))
def r44_j1 (call : CallA) (n : Nat)  (w0 : Option Pos) (S : AS) : Option (AV × AS) := evC E call n 44 (E.at 44 [1]) 0 [(0, (.ptr w0))] S (retK E (E.fn 44))
def r44_j0_1_0_0_1_0_0_1_1 (call : CallA) (n : Nat) (m0_1_0 : Nat) (w0 : Option Pos) (w1a : Option Pos) (w1l : Nat) (w1c : Cap) (w4 : Int) (w5 : Bool) (S : AS) : Option (AV × AS) := evC E call n 44 (E.at 44 [0, 1, 0, 0, 1, 0, 0, 1, 1]) 1 [(0, (.ptr w0)), (1, (.sl w1a w1l w1c)), (4, (.int .i64 w4)), (5, (.bool w5))] S (kBlk 1 (kSeq E call n 44 (E.at 44 [0, 1, 0, 0, 1, 1]) 0 (kLp (evC E call n 44 (E.at 44 [0, 1, 0, 0]) 0) [0, 1, 4] m0_1_0 (kBlk 0 (kSeq E call n 44 (E.at 44 [1]) 0 (retK E (E.fn 44)))))))
def r44_j0_1_0_0_1_1 (call : CallA) (n : Nat) (m0_1_0 : Nat) (w0 : Option Pos) (w1a : Option Pos) (w1l : Nat) (w1c : Cap) (w4 : Int) (S : AS) : Option (AV × AS) := evC E call n 44 (E.at 44 [0, 1, 0, 0, 1, 1]) 0 [(0, (.ptr w0)), (1, (.sl w1a w1l w1c)), (4, (.int .i64 w4))] S (kLp (evC E call n 44 (E.at 44 [0, 1, 0, 0]) 0) [0, 1, 4] m0_1_0 (kBlk 0 (kSeq E call n 44 (E.at 44 [1]) 0 (retK E (E.fn 44)))))
theorem a44_l0_1_0 (call : CallA) (n : Nat)  (m : Nat) (w0 : Option Pos) (w1a : Option Pos) (w1l : Nat) (w1c : Cap) (w4 : Int) (S : AS) : r44_l0_1_0 call n  (m + 1) w0 w1a w1l w1c w4 S = b44_l0_1_0 call n (r44_l0_1_0_0_1_0_0_1_0_1_0 call n m n) (r44_j1 call n ) w0 w1a w1l w1c w4 S := by kernel_rfl
theorem a44_l0_1_0_0_1_0_0_1_0_1_0 (call : CallA) (n : Nat) (m0_1_0 : Nat) (m : Nat) (w0 : Option Pos) (w1a : Option Pos) (w1l : Nat) (w1c : Cap) (w4 : Int) (w5 : Bool) (w6 : Int) (S : AS) : r44_l0_1_0_0_1_0_0_1_0_1_0 call n m0_1_0 (m + 1) w0 w1a w1l w1c w4 w5 w6 S = b44_l0_1_0_0_1_0_0_1_0_1_0 call n (r44_l0_1_0_0_1_0_0_1_0_1_0 call n m0_1_0 m) (r44_j0_1_0_0_1_0_0_1_1 call n m0_1_0) w0 w1a w1l w1c w4 w5 w6 S := by kernel_rfl
theorem a44_j1 (call : CallA) (n : Nat)  (w0 : Option Pos) (S : AS) : r44_j1 call n  w0 S = b44_j1 call n  w0 S := by kernel_rfl
theorem a44_j0_1_0_0_1_0_0_1_1 (call : CallA) (n : Nat) (m0_1_0 : Nat) (w0 : Option Pos) (w1a : Option Pos) (w1l : Nat) (w1c : Cap) (w4 : Int) (w5 : Bool) (S : AS) : r44_j0_1_0_0_1_0_0_1_1 call n m0_1_0 w0 w1a w1l w1c w4 w5 S = b44_j0_1_0_0_1_0_0_1_1 call n (r44_j0_1_0_0_1_1 call n m0_1_0) w0 w1a w1l w1c w4 w5 S := by kernel_rfl
theorem a44_j0_1_0_0_1_1 (call : CallA) (n : Nat) (m0_1_0 : Nat) (w0 : Option Pos) (w1a : Option Pos) (w1l : Nat) (w1c : Cap) (w4 : Int) (S : AS) : r44_j0_1_0_0_1_1 call n m0_1_0 w0 w1a w1l w1c w4 S = b44_j0_1_0_0_1_1 call n (r44_l0_1_0 call n  m0_1_0) w0 w1a w1l w1c w4 S := by kernel_rfl
theorem a44_entry (call : CallA) (n : Nat) (x0 : Option Pos) (x1a : Option Pos) (x1l : Nat) (x1c : Cap) (S : AS) : evC E call n 44 (E.at 44 []) 0 (enumT 0 [(.ptr x0), (.sl x1a x1l x1c)]) S (retK E (E.fn 44)) = b44_entry call n (r44_l0_1_0 call n  n) x0 x1a x1l x1c S := by kernel_rfl
def J44_j0_1_0_0_1_1 (call : CallA) (n : Nat) (n0_1_0 : Option Pos → Option Pos → Nat → Cap → Int → AS → Option (AV × AS)) (w0 : Option Pos) (w1a : Option Pos) (w1l : Nat) (w1c : Cap) (w4 : Int) (S : AS) : Option (AV × AS) := b44_j0_1_0_0_1_1 call n n0_1_0 w0 w1a w1l w1c w4 S
theorem h44_j0_1_0_0_1_1 (call : CallA) (n : Nat) (m0_1_0 : Nat) : r44_j0_1_0_0_1_1 call n m0_1_0 = J44_j0_1_0_0_1_1 call n (r44_l0_1_0 call n  m0_1_0) := by
  funext w0 w1a w1l w1c w4 S
  rw [J44_j0_1_0_0_1_1, a44_j0_1_0_0_1_1]
def J44_j0_1_0_0_1_0_0_1_1 (call : CallA) (n : Nat) (n0_1_0 : Option Pos → Option Pos → Nat → Cap → Int → AS → Option (AV × AS)) (w0 : Option Pos) (w1a : Option Pos) (w1l : Nat) (w1c : Cap) (w4 : Int) (w5 : Bool) (S : AS) : Option (AV × AS) := b44_j0_1_0_0_1_0_0_1_1 call n (J44_j0_1_0_0_1_1 call n n0_1_0) w0 w1a w1l w1c w4 w5 S
theorem h44_j0_1_0_0_1_0_0_1_1 (call : CallA) (n : Nat) (m0_1_0 : Nat) : r44_j0_1_0_0_1_0_0_1_1 call n m0_1_0 = J44_j0_1_0_0_1_0_0_1_1 call n (r44_l0_1_0 call n  m0_1_0) := by
  funext w0 w1a w1l w1c w4 w5 S
  rw [J44_j0_1_0_0_1_0_0_1_1, a44_j0_1_0_0_1_0_0_1_1, h44_j0_1_0_0_1_1 call n m0_1_0]
def J44_l0_1_0_0_1_0_0_1_0_1_0 (call : CallA) (n : Nat) (n0_1_0 : Option Pos → Option Pos → Nat → Cap → Int → AS → Option (AV × AS)) (m : Nat) : Option Pos → Option Pos → Nat → Cap → Int → Bool → Int → AS → Option (AV × AS) := Nat.rec (motive := fun _ => Option Pos → Option Pos → Nat → Cap → Int → Bool → Int → AS → Option (AV × AS)) (fun _ _ _ _ _ _ _ _ => none) (fun _ ih w0 w1a w1l w1c w4 w5 w6 S => b44_l0_1_0_0_1_0_0_1_0_1_0 call n ih (J44_j0_1_0_0_1_0_0_1_1 call n n0_1_0) w0 w1a w1l w1c w4 w5 w6 S) m
theorem J44_l0_1_0_0_1_0_0_1_0_1_0_succ (call : CallA) (n : Nat) (n0_1_0 : Option Pos → Option Pos → Nat → Cap → Int → AS → Option (AV × AS)) (m : Nat) (w0 : Option Pos) (w1a : Option Pos) (w1l : Nat) (w1c : Cap) (w4 : Int) (w5 : Bool) (w6 : Int) (S : AS) : J44_l0_1_0_0_1_0_0_1_0_1_0 call n n0_1_0 (m + 1) w0 w1a w1l w1c w4 w5 w6 S = b44_l0_1_0_0_1_0_0_1_0_1_0 call n (J44_l0_1_0_0_1_0_0_1_0_1_0 call n n0_1_0 m) (J44_j0_1_0_0_1_0_0_1_1 call n n0_1_0) w0 w1a w1l w1c w4 w5 w6 S := rfl
theorem h44_l0_1_0_0_1_0_0_1_0_1_0 (call : CallA) (n : Nat) (m0_1_0 : Nat) (m : Nat) : r44_l0_1_0_0_1_0_0_1_0_1_0 call n m0_1_0 m = J44_l0_1_0_0_1_0_0_1_0_1_0 call n (r44_l0_1_0 call n  m0_1_0) m := by
  induction m with
  | zero => rfl
  | succ m ih =>
    funext w0 w1a w1l w1c w4 w5 w6 S
    rw [J44_l0_1_0_0_1_0_0_1_0_1_0_succ, a44_l0_1_0_0_1_0_0_1_0_1_0, h44_j0_1_0_0_1_0_0_1_1 call n m0_1_0, ih]
def J44_j1 (call : CallA) (n : Nat)  (w0 : Option Pos) (S : AS) : Option (AV × AS) := b44_j1 call n  w0 S
theorem h44_j1 (call : CallA) (n : Nat)  : r44_j1 call n  = J44_j1 call n  := by
  funext w0 S
  rw [J44_j1, a44_j1]
def J44_l0_1_0 (call : CallA) (n : Nat)  (m : Nat) : Option Pos → Option Pos → Nat → Cap → Int → AS → Option (AV × AS) := Nat.rec (motive := fun _ => Option Pos → Option Pos → Nat → Cap → Int → AS → Option (AV × AS)) (fun _ _ _ _ _ _ => none) (fun _ ih w0 w1a w1l w1c w4 S => b44_l0_1_0 call n (J44_l0_1_0_0_1_0_0_1_0_1_0 call n ih n) (J44_j1 call n ) w0 w1a w1l w1c w4 S) m
theorem J44_l0_1_0_succ (call : CallA) (n : Nat)  (m : Nat) (w0 : Option Pos) (w1a : Option Pos) (w1l : Nat) (w1c : Cap) (w4 : Int) (S : AS) : J44_l0_1_0 call n  (m + 1) w0 w1a w1l w1c w4 S = b44_l0_1_0 call n (J44_l0_1_0_0_1_0_0_1_0_1_0 call n (J44_l0_1_0 call n  m) n) (J44_j1 call n ) w0 w1a w1l w1c w4 S := rfl
theorem h44_l0_1_0 (call : CallA) (n : Nat)  (m : Nat) : r44_l0_1_0 call n  m = J44_l0_1_0 call n  m := by
  induction m with
  | zero => rfl
  | succ m ih =>
    funext w0 w1a w1l w1c w4 S
    rw [J44_l0_1_0_succ, a44_l0_1_0, h44_l0_1_0_0_1_0_0_1_0_1_0 call n m n, h44_j1 call n , ih]
def J44 (call : CallA) (n : Nat) (x0 : Option Pos) (x1a : Option Pos) (x1l : Nat) (x1c : Cap) (S : AS) : Option (AV × AS) := b44_entry call n (J44_l0_1_0 call n  n) x0 x1a x1l x1c S
theorem run44 (o : Orc) (n : Nat) (args : List AV) (S : AS) (ho : o 44 args = none) : evF E o (n + 1) (.fn 44) args S = evC E (evF E o n) n 44 (E.at 44 []) 0 (enumT 0 args) S (retK E (E.fn 44)) := by
  rw [evF, ho]; kernel_rfl
theorem J44_eq (call : CallA) (n : Nat) (x0 : Option Pos) (x1a : Option Pos) (x1l : Nat) (x1c : Cap) (S : AS) : evC E call n 44 (E.at 44 []) 0 (enumT 0 [(.ptr x0), (.sl x1a x1l x1c)]) S (retK E (E.fn 44)) = J44 call n x0 x1a x1l x1c S := by
  rw [J44, a44_entry, h44_l0_1_0 call n  n]
theorem F44 {o : Orc} (n : Nat) (x0 : Option Pos) (x1a : Option Pos) (x1l : Nat) (x1c : Cap) (S : AS) (ho : ∀ args, o 44 args = none) : evF E o (n + 1) (.fn 44) [(.ptr x0), (.sl x1a x1l x1c)] S = J44 (evF E o n) n x0 x1a x1l x1c S := (run44 o n [(.ptr x0), (.sl x1a x1l x1c)] S (ho _)).trans (J44_eq _ _ x0 x1a x1l x1c S)
def b45_entry (call : CallA) (n : Nat)  (x0a : Option Pos) (x0l : Nat) (x0c : Cap) (S : AS) : Option (AV × AS) :=
cond x0a.isNone (
some ((.sl none 0 (.ex 0)), S)) (
newA S (.cells []) fun b1 S2 =>
appendA 3 24 S2 (some (.rw b1, 0)) 0 (.ex 0) x0l (firstA S2 3 x0l (.sl x0a x0l x0c)) fun v3a v3l v3c S4 =>
some ((.sl v3a v3l v3c), S4))

theorem a45_entry (call : CallA) (n : Nat) (x0a : Option Pos) (x0l : Nat) (x0c : Cap) (S : AS) : evC E call n 45 (E.at 45 []) 0 (enumT 0 [(.sl x0a x0l x0c)]) S (retK E (E.fn 45)) = b45_entry call n  x0a x0l x0c S := by kernel_rfl
def J45 (call : CallA) (n : Nat) (x0a : Option Pos) (x0l : Nat) (x0c : Cap) (S : AS) : Option (AV × AS) := b45_entry call n  x0a x0l x0c S
theorem run45 (o : Orc) (n : Nat) (args : List AV) (S : AS) (ho : o 45 args = none) : evF E o (n + 1) (.fn 45) args S = evC E (evF E o n) n 45 (E.at 45 []) 0 (enumT 0 args) S (retK E (E.fn 45)) := by
  rw [evF, ho]; kernel_rfl
theorem J45_eq (call : CallA) (n : Nat) (x0a : Option Pos) (x0l : Nat) (x0c : Cap) (S : AS) : evC E call n 45 (E.at 45 []) 0 (enumT 0 [(.sl x0a x0l x0c)]) S (retK E (E.fn 45)) = J45 call n x0a x0l x0c S := by
  rw [J45, a45_entry]
theorem F45 {o : Orc} (n : Nat) (x0a : Option Pos) (x0l : Nat) (x0c : Cap) (S : AS) (ho : ∀ args, o 45 args = none) : evF E o (n + 1) (.fn 45) [(.sl x0a x0l x0c)] S = J45 (evF E o n) n x0a x0l x0c S := (run45 o n [(.sl x0a x0l x0c)] S (ho _)).trans (J45_eq _ _ x0a x0l x0c S)
end
end Go.Na
