/- Plain readings of the functions, and that they are what the evaluator does: by program. -/
import Derived.Test.YteakdhikjddogaaDoorGrRes
import Derived.Test.YteakdhikjddogaaDoorENV
import Derived.KernelRfl
set_option maxRecDepth 100000
set_option linter.unusedVariables false
namespace Go.Ct
open Go.Gr
noncomputable section
def b43_entry (call : CallA) (n : Nat)  (x0a : Option Pos) (x0l : Nat) (x0c : Cap) (S : AS) : Option (AV × AS) :=
 cond x0a.isNone (
 some ((.sl none 0 (.ex 0)), S)) (
 newA S (.cells []) fun b1 S2 =>
 appendA 4 40 S2 (some (.rw b1, 0)) 0 (.ex 0) x0l (firstA S2 4 x0l (.sl x0a x0l x0c)) fun v3a v3l v3c S4 =>
 some ((.sl v3a v3l v3c), S4))

theorem a43_entry (call : CallA) (n : Nat) (x0a : Option Pos) (x0l : Nat) (x0c : Cap) (S : AS) : evC E call n 43 (E.at 43 []) 0 (enumT 0 [(.sl x0a x0l x0c)]) S (retK E (E.fn 43)) = b43_entry call n  x0a x0l x0c S := by kernel_rfl
def J43 (call : CallA) (n : Nat) (x0a : Option Pos) (x0l : Nat) (x0c : Cap) (S : AS) : Option (AV × AS) := b43_entry call n  x0a x0l x0c S
theorem run43 (o : Orc) (n : Nat) (args : List AV) (S : AS) (ho : o 43 args = none) : evF E o (n + 1) (.fn 43) args S = evC E (evF E o n) n 43 (E.at 43 []) 0 (enumT 0 args) S (retK E (E.fn 43)) := by
  rw [evF, ho]; kernel_rfl
theorem J43_eq (call : CallA) (n : Nat) (x0a : Option Pos) (x0l : Nat) (x0c : Cap) (S : AS) : evC E call n 43 (E.at 43 []) 0 (enumT 0 [(.sl x0a x0l x0c)]) S (retK E (E.fn 43)) = J43 call n x0a x0l x0c S := by
  rw [J43, a43_entry]
theorem F43 {o : Orc} (n : Nat) (x0a : Option Pos) (x0l : Nat) (x0c : Cap) (S : AS) (ho : ∀ args, o 43 args = none) : evF E o (n + 1) (.fn 43) [(.sl x0a x0l x0c)] S = J43 (evF E o n) n x0a x0l x0c S := (run43 o n [(.sl x0a x0l x0c)] S (ho _)).trans (J43_eq _ _ x0a x0l x0c S)
def b44_entry (call : CallA) (n : Nat)  (x0 : List UInt8) (x1 : List UInt8) (S : AS) : Option (AV × AS) :=
 callT call 55 [(.str x0), (.str x1)] S fun v2 S1 =>
 atS v2 0 fun v3 =>
 atB v2 1 fun v4 =>
 some (.tup [(.str v3), (.bool v4)], S1)

theorem a44_entry (call : CallA) (n : Nat) (x0 : List UInt8) (x1 : List UInt8) (S : AS) : evC E call n 44 (E.at 44 []) 0 (enumT 0 [(.str x0), (.str x1)]) S (retK E (E.fn 44)) = b44_entry call n  x0 x1 S := by kernel_rfl
def J44 (call : CallA) (n : Nat) (x0 : List UInt8) (x1 : List UInt8) (S : AS) : Option (AV × AS) := b44_entry call n  x0 x1 S
theorem run44 (o : Orc) (n : Nat) (args : List AV) (S : AS) (ho : o 44 args = none) : evF E o (n + 1) (.fn 44) args S = evC E (evF E o n) n 44 (E.at 44 []) 0 (enumT 0 args) S (retK E (E.fn 44)) := by
  rw [evF, ho]; kernel_rfl
theorem J44_eq (call : CallA) (n : Nat) (x0 : List UInt8) (x1 : List UInt8) (S : AS) : evC E call n 44 (E.at 44 []) 0 (enumT 0 [(.str x0), (.str x1)]) S (retK E (E.fn 44)) = J44 call n x0 x1 S := by
  rw [J44, a44_entry]
theorem F44 {o : Orc} (n : Nat) (x0 : List UInt8) (x1 : List UInt8) (S : AS) (ho : ∀ args, o 44 args = none) : evF E o (n + 1) (.fn 44) [(.str x0), (.str x1)] S = J44 (evF E o n) n x0 x1 S := (run44 o n [(.str x0), (.str x1)] S (ho _)).trans (J44_eq _ _ x0 x1 S)
def b45_entry (call : CallA) (n : Nat)  (x0 : List UInt8) (x1 : Int) (x2 : Int) (S : AS) : Option (AV × AS) :=
 callT call 56 [(.str x0), (.int .i64 x1), (.int .i64 x2)] S fun v2 S1 =>
 atI .u64 v2 0 fun v3 =>
 atV v2 1 fun v4 =>
 ifNil E .neq ty99 v4 fun b5 =>
 cond b5 (
 callV call 57 [(.str ([80, 97, 114, 115, 101, 85, 105, 110, 116])), (.str x0), (.int .i64 x1), (.int .i64 x2), v4] S1 fun v7 S6 =>
 some (.tup [(.int .u64 v3), v7], S6)) (
 some (.tup [(.int .u64 v3), .nilIface], S1))

theorem a45_entry (call : CallA) (n : Nat) (x0 : List UInt8) (x1 : Int) (x2 : Int) (S : AS) : evC E call n 45 (E.at 45 []) 0 (enumT 0 [(.str x0), (.int .i64 x1), (.int .i64 x2)]) S (retK E (E.fn 45)) = b45_entry call n  x0 x1 x2 S := by kernel_rfl
def J45 (call : CallA) (n : Nat) (x0 : List UInt8) (x1 : Int) (x2 : Int) (S : AS) : Option (AV × AS) := b45_entry call n  x0 x1 x2 S
theorem run45 (o : Orc) (n : Nat) (args : List AV) (S : AS) (ho : o 45 args = none) : evF E o (n + 1) (.fn 45) args S = evC E (evF E o n) n 45 (E.at 45 []) 0 (enumT 0 args) S (retK E (E.fn 45)) := by
  rw [evF, ho]; kernel_rfl
theorem J45_eq (call : CallA) (n : Nat) (x0 : List UInt8) (x1 : Int) (x2 : Int) (S : AS) : evC E call n 45 (E.at 45 []) 0 (enumT 0 [(.str x0), (.int .i64 x1), (.int .i64 x2)]) S (retK E (E.fn 45)) = J45 call n x0 x1 x2 S := by
  rw [J45, a45_entry]
theorem F45 {o : Orc} (n : Nat) (x0 : List UInt8) (x1 : Int) (x2 : Int) (S : AS) (ho : ∀ args, o 45 args = none) : evF E o (n + 1) (.fn 45) [(.str x0), (.int .i64 x1), (.int .i64 x2)] S = J45 (evF E o n) n x0 x1 x2 S := (run45 o n [(.str x0), (.int .i64 x1), (.int .i64 x2)] S (ho _)).trans (J45_eq _ _ x0 x1 x2 S)
def b46_entry (call : CallA) (n : Nat)  (x0a : Option Pos) (x0l : Nat) (x0c : Cap) (S : AS) : Option (AV × AS) :=
 callI .i64 call 59 [(.int .u64 (IntKind.wrap .u64 ((x0l : Nat) : Int)))] S fun v2 S1 =>
 callT call 58 [(.sl x0a x0l x0c), (.int .i64 0), (.int .i64 ((x0l : Nat) : Int)), (.int .i64 v2)] S1 fun v4 S3 =>
 some (.tup [], S3)

theorem a46_entry (call : CallA) (n : Nat) (x0a : Option Pos) (x0l : Nat) (x0c : Cap) (S : AS) : evC E call n 46 (E.at 46 []) 0 (enumT 0 [(.sl x0a x0l x0c)]) S (retK E (E.fn 46)) = b46_entry call n  x0a x0l x0c S := by kernel_rfl
def J46 (call : CallA) (n : Nat) (x0a : Option Pos) (x0l : Nat) (x0c : Cap) (S : AS) : Option (AV × AS) := b46_entry call n  x0a x0l x0c S
theorem run46 (o : Orc) (n : Nat) (args : List AV) (S : AS) (ho : o 46 args = none) : evF E o (n + 1) (.fn 46) args S = evC E (evF E o n) n 46 (E.at 46 []) 0 (enumT 0 args) S (retK E (E.fn 46)) := by
  rw [evF, ho]; kernel_rfl
theorem J46_eq (call : CallA) (n : Nat) (x0a : Option Pos) (x0l : Nat) (x0c : Cap) (S : AS) : evC E call n 46 (E.at 46 []) 0 (enumT 0 [(.sl x0a x0l x0c)]) S (retK E (E.fn 46)) = J46 call n x0a x0l x0c S := by
  rw [J46, a46_entry]
theorem F46 {o : Orc} (n : Nat) (x0a : Option Pos) (x0l : Nat) (x0c : Cap) (S : AS) (ho : ∀ args, o 46 args = none) : evF E o (n + 1) (.fn 46) [(.sl x0a x0l x0c)] S = J46 (evF E o n) n x0a x0l x0c S := (run46 o n [(.sl x0a x0l x0c)] S (ho _)).trans (J46_eq _ _ x0a x0l x0c S)
def b47_l1_1_0_1_0 (call : CallA) (n : Nat) (l1_1_0_1_0_0_1_0_0_1_0_1_0_1_0 : Option Pos → Nat → Cap → Int → Option Pos → Nat → Cap → Int → AS → Option (AV × AS)) (l1_1_0_1_0 : Option Pos → Nat → Cap → Option Pos → Nat → Cap → Int → AS → Option (AV × AS)) (w0a : Option Pos) (w0l : Nat) (w0c : Cap) (w2a : Option Pos) (w2l : Nat) (w2c : Cap) (w3 : Int) (S : AS) : Option (AV × AS) :=
 cond (decide (w3 < ((w0l : Nat) : Int))) (
 ixSl 1 w0a w0l w3 fun p1 =>
 ldS S p1.1 p1.2 fun v2 =>
 ixSl 1 w0a w0l (IntKind.wrap .i64 (w3 - 1)) fun p3 =>
 ldS S p3.1 p3.2 fun v4 =>
 cond (v2 == v4) (
 slSl 1 w0a w0l w0c (some w3) none none fun v5a v5l v5c =>
 l1_1_0_1_0_0_1_0_0_1_0_1_0_1_0 w0a w0l w0c w3 v5a v5l v5c 1 S) (
 l1_1_0_1_0 w0a w0l w0c w2a w2l w2c (IntKind.wrap .i64 (w3 + 1)) S)) (
 some ((.sl w0a w0l w0c), S))

def b47_l1_1_0_1_0_0_1_0_0_1_0_1_0_1_0 (call : CallA) (n : Nat) (l1_1_0_1_0_0_1_0_0_1_0_1_0_1_0 : Option Pos → Nat → Cap → Int → Option Pos → Nat → Cap → Int → AS → Option (AV × AS)) (w0a : Option Pos) (w0l : Nat) (w0c : Cap) (w3 : Int) (w4a : Option Pos) (w4l : Nat) (w4c : Cap) (w5 : Int) (S : AS) : Option (AV × AS) :=
 cond (decide (w5 < ((w4l : Nat) : Int))) (
 ixSl 1 w4a w4l w5 fun p6 =>
 ldS S p6.1 p6.2 fun v7 =>
 ixSl 1 w4a w4l (IntKind.wrap .i64 (w5 - 1)) fun p8 =>
 ldS S p8.1 p8.2 fun v9 =>
 cond (!(v7 == v9)) (
 ixSl 1 w4a w4l w5 fun p10 =>
 ldS S p10.1 p10.2 fun v11 =>
 ixSl 1 w0a w0l w3 fun p12 =>
 S.stn p12.1 p12.2 [(.str v11)] fun S13 =>
 l1_1_0_1_0_0_1_0_0_1_0_1_0_1_0 w0a w0l w0c (IntKind.wrap .i64 (w3 + 1)) w4a w4l w4c (IntKind.wrap .i64 (w5 + 1)) S13) (
 l1_1_0_1_0_0_1_0_0_1_0_1_0_1_0 w0a w0l w0c w3 w4a w4l w4c (IntKind.wrap .i64 (w5 + 1)) S)) (
 slSl 1 w0a w0l w0c (some w3) none none fun v14a v14l v14c =>
 clearA [(.str ([]))] S v14a v14l fun S15 =>
 slSl 1 w0a w0l w0c none (some w3) none fun v16a v16l v16c =>
 some ((.sl v16a v16l v16c), S15))

def b47_entry (call : CallA) (n : Nat) (l1_1_0_1_0 : Option Pos → Nat → Cap → Option Pos → Nat → Cap → Int → AS → Option (AV × AS)) (x0a : Option Pos) (x0l : Nat) (x0c : Cap) (S : AS) : Option (AV × AS) :=
 cond (decide (((x0l : Nat) : Int) < 2)) (
 some ((.sl x0a x0l x0c), S)) (
 l1_1_0_1_0 x0a x0l x0c none 0 (.ex 0) 1 S)

def r47_l1_1_0_1_0 (call : CallA) (n : Nat)  (m : Nat) (w0a : Option Pos) (w0l : Nat) (w0c : Cap) (w2a : Option Pos) (w2l : Nat) (w2c : Cap) (w3 : Int) (S : AS) : Option (AV × AS) := loopN (evC E call n 47 (E.at 47 [1, 1, 0, 1, 0, 0]) 0) [0, 2, 3] m [(0, (.sl w0a w0l w0c)), (2, (.sl w2a w2l w2c)), (3, (.int .i64 w3))] S (kBlk 0 (kSeq E call n 47 (E.at 47 [1, 1, 1]) 0 (retK E (E.fn 47))))
def r47_l1_1_0_1_0_0_1_0_0_1_0_1_0_1_0 (call : CallA) (n : Nat) (m1_1_0_1_0 : Nat) (m : Nat) (w0a : Option Pos) (w0l : Nat) (w0c : Cap) (w3 : Int) (w4a : Option Pos) (w4l : Nat) (w4c : Cap) (w5 : Int) (S : AS) : Option (AV × AS) := loopN (evC E call n 47 (E.at 47 [1, 1, 0, 1, 0, 0, 1, 0, 0, 1, 0, 1, 0, 1, 0, 0]) 2) [0, 3, 4, 5] m [(0, (.sl w0a w0l w0c)), (3, (.int .i64 w3)), (4, (.sl w4a w4l w4c)), (5, (.int .i64 w5))] S (kBlk 2 (kSeq E call n 47 (E.at 47 [1, 1, 0, 1, 0, 0, 1, 0, 0, 1, 0, 1, 1]) 1 (kBlk 1 (kSeq E call n 47 (E.at 47 [1, 1, 0, 1, 0, 0, 1, 1]) 0 (kLp (evC E call n 47 (E.at 47 [1, 1, 0, 1, 0, 0]) 0) [0, 2, 3] m1_1_0_1_0 (kBlk 0 (kSeq E call n 47 (E.at 47 [1, 1, 1]) 0 (retK E (E.fn 47)))))))))
theorem a47_l1_1_0_1_0 (call : CallA) (n : Nat)  (m : Nat) (w0a : Option Pos) (w0l : Nat) (w0c : Cap) (w2a : Option Pos) (w2l : Nat) (w2c : Cap) (w3 : Int) (S : AS) : r47_l1_1_0_1_0 call n  (m + 1) w0a w0l w0c w2a w2l w2c w3 S = b47_l1_1_0_1_0 call n (r47_l1_1_0_1_0_0_1_0_0_1_0_1_0_1_0 call n m n) (r47_l1_1_0_1_0 call n  m) w0a w0l w0c w2a w2l w2c w3 S := by kernel_rfl
theorem a47_l1_1_0_1_0_0_1_0_0_1_0_1_0_1_0 (call : CallA) (n : Nat) (m1_1_0_1_0 : Nat) (m : Nat) (w0a : Option Pos) (w0l : Nat) (w0c : Cap) (w3 : Int) (w4a : Option Pos) (w4l : Nat) (w4c : Cap) (w5 : Int) (S : AS) : r47_l1_1_0_1_0_0_1_0_0_1_0_1_0_1_0 call n m1_1_0_1_0 (m + 1) w0a w0l w0c w3 w4a w4l w4c w5 S = b47_l1_1_0_1_0_0_1_0_0_1_0_1_0_1_0 call n (r47_l1_1_0_1_0_0_1_0_0_1_0_1_0_1_0 call n m1_1_0_1_0 m) w0a w0l w0c w3 w4a w4l w4c w5 S := by kernel_rfl
theorem a47_entry (call : CallA) (n : Nat) (x0a : Option Pos) (x0l : Nat) (x0c : Cap) (S : AS) : evC E call n 47 (E.at 47 []) 0 (enumT 0 [(.sl x0a x0l x0c)]) S (retK E (E.fn 47)) = b47_entry call n (r47_l1_1_0_1_0 call n  n) x0a x0l x0c S := by kernel_rfl
def J47_l1_1_0_1_0_0_1_0_0_1_0_1_0_1_0 (call : CallA) (n : Nat) (n1_1_0_1_0 : Option Pos → Nat → Cap → Option Pos → Nat → Cap → Int → AS → Option (AV × AS)) (m : Nat) : Option Pos → Nat → Cap → Int → Option Pos → Nat → Cap → Int → AS → Option (AV × AS) := Nat.rec (motive := fun _ => Option Pos → Nat → Cap → Int → Option Pos → Nat → Cap → Int → AS → Option (AV × AS)) (fun _ _ _ _ _ _ _ _ _ => none) (fun _ ih w0a w0l w0c w3 w4a w4l w4c w5 S => b47_l1_1_0_1_0_0_1_0_0_1_0_1_0_1_0 call n ih w0a w0l w0c w3 w4a w4l w4c w5 S) m
theorem J47_l1_1_0_1_0_0_1_0_0_1_0_1_0_1_0_succ (call : CallA) (n : Nat) (n1_1_0_1_0 : Option Pos → Nat → Cap → Option Pos → Nat → Cap → Int → AS → Option (AV × AS)) (m : Nat) (w0a : Option Pos) (w0l : Nat) (w0c : Cap) (w3 : Int) (w4a : Option Pos) (w4l : Nat) (w4c : Cap) (w5 : Int) (S : AS) : J47_l1_1_0_1_0_0_1_0_0_1_0_1_0_1_0 call n n1_1_0_1_0 (m + 1) w0a w0l w0c w3 w4a w4l w4c w5 S = b47_l1_1_0_1_0_0_1_0_0_1_0_1_0_1_0 call n (J47_l1_1_0_1_0_0_1_0_0_1_0_1_0_1_0 call n n1_1_0_1_0 m) w0a w0l w0c w3 w4a w4l w4c w5 S := rfl
theorem h47_l1_1_0_1_0_0_1_0_0_1_0_1_0_1_0 (call : CallA) (n : Nat) (m1_1_0_1_0 : Nat) (m : Nat) : r47_l1_1_0_1_0_0_1_0_0_1_0_1_0_1_0 call n m1_1_0_1_0 m = J47_l1_1_0_1_0_0_1_0_0_1_0_1_0_1_0 call n (r47_l1_1_0_1_0 call n  m1_1_0_1_0) m := by
  induction m with
  | zero => rfl
  | succ m ih =>
    funext w0a w0l w0c w3 w4a w4l w4c w5 S
    rw [J47_l1_1_0_1_0_0_1_0_0_1_0_1_0_1_0_succ, a47_l1_1_0_1_0_0_1_0_0_1_0_1_0_1_0, ih]
def J47_l1_1_0_1_0 (call : CallA) (n : Nat)  (m : Nat) : Option Pos → Nat → Cap → Option Pos → Nat → Cap → Int → AS → Option (AV × AS) := Nat.rec (motive := fun _ => Option Pos → Nat → Cap → Option Pos → Nat → Cap → Int → AS → Option (AV × AS)) (fun _ _ _ _ _ _ _ _ => none) (fun _ ih w0a w0l w0c w2a w2l w2c w3 S => b47_l1_1_0_1_0 call n (J47_l1_1_0_1_0_0_1_0_0_1_0_1_0_1_0 call n ih n) ih w0a w0l w0c w2a w2l w2c w3 S) m
theorem J47_l1_1_0_1_0_succ (call : CallA) (n : Nat)  (m : Nat) (w0a : Option Pos) (w0l : Nat) (w0c : Cap) (w2a : Option Pos) (w2l : Nat) (w2c : Cap) (w3 : Int) (S : AS) : J47_l1_1_0_1_0 call n  (m + 1) w0a w0l w0c w2a w2l w2c w3 S = b47_l1_1_0_1_0 call n (J47_l1_1_0_1_0_0_1_0_0_1_0_1_0_1_0 call n (J47_l1_1_0_1_0 call n  m) n) (J47_l1_1_0_1_0 call n  m) w0a w0l w0c w2a w2l w2c w3 S := rfl
theorem h47_l1_1_0_1_0 (call : CallA) (n : Nat)  (m : Nat) : r47_l1_1_0_1_0 call n  m = J47_l1_1_0_1_0 call n  m := by
  induction m with
  | zero => rfl
  | succ m ih =>
    funext w0a w0l w0c w2a w2l w2c w3 S
    rw [J47_l1_1_0_1_0_succ, a47_l1_1_0_1_0, h47_l1_1_0_1_0_0_1_0_0_1_0_1_0_1_0 call n m n, ih]
def J47 (call : CallA) (n : Nat) (x0a : Option Pos) (x0l : Nat) (x0c : Cap) (S : AS) : Option (AV × AS) := b47_entry call n (J47_l1_1_0_1_0 call n  n) x0a x0l x0c S
theorem run47 (o : Orc) (n : Nat) (args : List AV) (S : AS) (ho : o 47 args = none) : evF E o (n + 1) (.fn 47) args S = evC E (evF E o n) n 47 (E.at 47 []) 0 (enumT 0 args) S (retK E (E.fn 47)) := by
  rw [evF, ho]; kernel_rfl
theorem J47_eq (call : CallA) (n : Nat) (x0a : Option Pos) (x0l : Nat) (x0c : Cap) (S : AS) : evC E call n 47 (E.at 47 []) 0 (enumT 0 [(.sl x0a x0l x0c)]) S (retK E (E.fn 47)) = J47 call n x0a x0l x0c S := by
  rw [J47, a47_entry, h47_l1_1_0_1_0 call n  n]
theorem F47 {o : Orc} (n : Nat) (x0a : Option Pos) (x0l : Nat) (x0c : Cap) (S : AS) (ho : ∀ args, o 47 args = none) : evF E o (n + 1) (.fn 47) [(.sl x0a x0l x0c)] S = J47 (evF E o n) n x0a x0l x0c S := (run47 o n [(.sl x0a x0l x0c)] S (ho _)).trans (J47_eq _ _ x0a x0l x0c S)
def b48_entry (call : CallA) (n : Nat)  (x0a : Option Pos) (x0l : Nat) (x0c : Cap) (x1 : Int) (x2 : Int) (S : AS) : Option (AV × AS) :=
 appendZA 1 1 [(.int .u8 0)] S x0a x0l x0c x2 fun v1a v1l v1c S2 =>
 slSl 1 v1a v1l v1c (some (IntKind.wrap .i64 (((v1l : Nat) : Int) - x2))) none none fun v3a v3l v3c =>
 callT call 60 [(.sl v3a v3l v3c), (.int .u64 x1)] S2 fun v5 S4 =>
 some ((.sl v1a v1l v1c), S4)

theorem a48_entry (call : CallA) (n : Nat) (x0a : Option Pos) (x0l : Nat) (x0c : Cap) (x1 : Int) (x2 : Int) (S : AS) : evC E call n 48 (E.at 48 []) 0 (enumT 0 [(.sl x0a x0l x0c), (.int .u64 x1), (.int .i64 x2)]) S (retK E (E.fn 48)) = b48_entry call n  x0a x0l x0c x1 x2 S := by kernel_rfl
def J48 (call : CallA) (n : Nat) (x0a : Option Pos) (x0l : Nat) (x0c : Cap) (x1 : Int) (x2 : Int) (S : AS) : Option (AV × AS) := b48_entry call n  x0a x0l x0c x1 x2 S
theorem run48 (o : Orc) (n : Nat) (args : List AV) (S : AS) (ho : o 48 args = none) : evF E o (n + 1) (.fn 48) args S = evC E (evF E o n) n 48 (E.at 48 []) 0 (enumT 0 args) S (retK E (E.fn 48)) := by
  rw [evF, ho]; kernel_rfl
theorem J48_eq (call : CallA) (n : Nat) (x0a : Option Pos) (x0l : Nat) (x0c : Cap) (x1 : Int) (x2 : Int) (S : AS) : evC E call n 48 (E.at 48 []) 0 (enumT 0 [(.sl x0a x0l x0c), (.int .u64 x1), (.int .i64 x2)]) S (retK E (E.fn 48)) = J48 call n x0a x0l x0c x1 x2 S := by
  rw [J48, a48_entry]
theorem F48 {o : Orc} (n : Nat) (x0a : Option Pos) (x0l : Nat) (x0c : Cap) (x1 : Int) (x2 : Int) (S : AS) (ho : ∀ args, o 48 args = none) : evF E o (n + 1) (.fn 48) [(.sl x0a x0l x0c), (.int .u64 x1), (.int .i64 x2)] S = J48 (evF E o n) n x0a x0l x0c x1 x2 S := (run48 o n [(.sl x0a x0l x0c), (.int .u64 x1), (.int .i64 x2)] S (ho _)).trans (J48_eq _ _ x0a x0l x0c x1 x2 S)
def b49_entry (call : CallA) (n : Nat)  (x0 : Int) (x1 : Int) (S : AS) : Option (AV × AS) :=
 callS call 61 [(.int .u64 x0), (.int .i64 x1)] S fun v2 S1 =>
 some ((.str v2), S1)

theorem a49_entry (call : CallA) (n : Nat) (x0 : Int) (x1 : Int) (S : AS) : evC E call n 49 (E.at 49 []) 0 (enumT 0 [(.int .u64 x0), (.int .i64 x1)]) S (retK E (E.fn 49)) = b49_entry call n  x0 x1 S := by kernel_rfl
def J49 (call : CallA) (n : Nat) (x0 : Int) (x1 : Int) (S : AS) : Option (AV × AS) := b49_entry call n  x0 x1 S
theorem run49 (o : Orc) (n : Nat) (args : List AV) (S : AS) (ho : o 49 args = none) : evF E o (n + 1) (.fn 49) args S = evC E (evF E o n) n 49 (E.at 49 []) 0 (enumT 0 args) S (retK E (E.fn 49)) := by
  rw [evF, ho]; kernel_rfl
theorem J49_eq (call : CallA) (n : Nat) (x0 : Int) (x1 : Int) (S : AS) : evC E call n 49 (E.at 49 []) 0 (enumT 0 [(.int .u64 x0), (.int .i64 x1)]) S (retK E (E.fn 49)) = J49 call n x0 x1 S := by
  rw [J49, a49_entry]
theorem F49 {o : Orc} (n : Nat) (x0 : Int) (x1 : Int) (S : AS) (ho : ∀ args, o 49 args = none) : evF E o (n + 1) (.fn 49) [(.int .u64 x0), (.int .i64 x1)] S = J49 (evF E o n) n x0 x1 S := (run49 o n [(.int .u64 x0), (.int .i64 x1)] S (ho _)).trans (J49_eq _ _ x0 x1 S)
def b50_l1_0 (call : CallA) (n : Nat) (l1_0 : AV → AV → Int → AS → Option (AV × AS)) (w0 : AV) (w1 : AV) (w3 : Int) (S : AS) : Option (AV × AS) :=
 cond (decide (w3 ≥ 0)) (
 gA w1 fun p3 =>
 ldL S p3.1 p3.2 fun v4a v4l v4c =>
 ixSl 1 v4a v4l w3 fun p5 =>
 ldI .u64 S p5.1 p5.2 fun v6 =>
 callFB call w0 [(.int .i64 w3), (.int .u64 v6)] S fun v8 S7 =>
 cond (!v8) (
 some (.tup [], S7)) (
 l1_0 w0 w1 (IntKind.wrap .i64 (w3 - 1)) S7)) (
 some (.tup [], S))

def b50_entry (call : CallA) (n : Nat) (l1_0 : AV → AV → Int → AS → Option (AV × AS)) (x0 : AV) (x1 : AV) (S : AS) : Option (AV × AS) :=
 gA x1 fun p1 =>
 ldL S p1.1 p1.2 fun v2a v2l v2c =>
 l1_0 x0 x1 (IntKind.wrap .i64 (((v2l : Nat) : Int) - 1)) S

def r50_l1_0 (call : CallA) (n : Nat)  (m : Nat) (w0 : AV) (w1 : AV) (w3 : Int) (S : AS) : Option (AV × AS) := loopN (evC E call n 50 (E.at 50 [1, 0, 0]) 0) [0, 1, 3] m [(0, w0), (1, w1), (3, (.int .i64 w3))] S (kBlk 0 (retK E (E.fn 50)))
theorem a50_l1_0 (call : CallA) (n : Nat)  (m : Nat) (w0 : AV) (w1 : AV) (w3 : Int) (S : AS) : r50_l1_0 call n  (m + 1) w0 w1 w3 S = b50_l1_0 call n (r50_l1_0 call n  m) w0 w1 w3 S := by kernel_rfl
theorem a50_entry (call : CallA) (n : Nat) (x0 : AV) (x1 : AV) (S : AS) : evC E call n 50 (E.at 50 []) 0 (enumT 0 [x0, x1]) S (retK E (E.fn 50)) = b50_entry call n (r50_l1_0 call n  n) x0 x1 S := by kernel_rfl
def J50_l1_0 (call : CallA) (n : Nat)  (m : Nat) : AV → AV → Int → AS → Option (AV × AS) := Nat.rec (motive := fun _ => AV → AV → Int → AS → Option (AV × AS)) (fun _ _ _ _ => none) (fun _ ih w0 w1 w3 S => b50_l1_0 call n ih w0 w1 w3 S) m
theorem J50_l1_0_succ (call : CallA) (n : Nat)  (m : Nat) (w0 : AV) (w1 : AV) (w3 : Int) (S : AS) : J50_l1_0 call n  (m + 1) w0 w1 w3 S = b50_l1_0 call n (J50_l1_0 call n  m) w0 w1 w3 S := rfl
theorem h50_l1_0 (call : CallA) (n : Nat)  (m : Nat) : r50_l1_0 call n  m = J50_l1_0 call n  m := by
  induction m with
  | zero => rfl
  | succ m ih =>
    funext w0 w1 w3 S
    rw [J50_l1_0_succ, a50_l1_0, ih]
def J50 (call : CallA) (n : Nat) (x0 : AV) (x1 : AV) (S : AS) : Option (AV × AS) := b50_entry call n (J50_l1_0 call n  n) x0 x1 S
theorem run50 (o : Orc) (n : Nat) (args : List AV) (S : AS) (ho : o 50 args = none) : evF E o (n + 1) (.fn 50) args S = evC E (evF E o n) n 50 (E.at 50 []) 0 (enumT 0 args) S (retK E (E.fn 50)) := by
  rw [evF, ho]; kernel_rfl
theorem J50_eq (call : CallA) (n : Nat) (x0 : AV) (x1 : AV) (S : AS) : evC E call n 50 (E.at 50 []) 0 (enumT 0 [x0, x1]) S (retK E (E.fn 50)) = J50 call n x0 x1 S := by
  rw [J50, a50_entry, h50_l1_0 call n  n]
theorem F50 {o : Orc} (n : Nat) (x0 : AV) (x1 : AV) (S : AS) (ho : ∀ args, o 50 args = none) : evF E o (n + 1) (.fn 50) [x0, x1] S = J50 (evF E o n) n x0 x1 S := (run50 o n [x0, x1] S (ho _)).trans (J50_eq _ _ x0 x1 S)
def b51_l1_0_1_0 (call : CallA) (n : Nat) (l1_0_1_0 : Option Pos → Nat → Cap → AV → Int → Int → Int → AS → Option (AV × AS)) (w0a : Option Pos) (w0l : Nat) (w0c : Cap) (w1 : AV) (w4 : Int) (w7 : Int) (w8 : Int) (S : AS) : Option (AV × AS) :=
 cond (decide (w8 < w7)) (
 ixSl 4 w0a w0l w8 fun p1 =>
 S.ldn p1.1 p1.2 4 fun g2 =>
 callFB call w1 [(.agg g2)] S fun v4 S3 =>
 cond v4 (
 some ((.int .i64 w8), S3)) (
 l1_0_1_0 w0a w0l w0c w1 w4 w7 (IntKind.wrap .i64 (w8 + 1)) S3)) (
 some ((.int .i64 (-1)), S))

def b51_entry (call : CallA) (n : Nat) (l1_0_1_0 : Option Pos → Nat → Cap → AV → Int → Int → Int → AS → Option (AV × AS)) (x0a : Option Pos) (x0l : Nat) (x0c : Cap) (x1 : AV) (S : AS) : Option (AV × AS) :=
 l1_0_1_0 x0a x0l x0c x1 0 ((x0l : Nat) : Int) 0 S

def r51_l1_0_1_0 (call : CallA) (n : Nat)  (m : Nat) (w0a : Option Pos) (w0l : Nat) (w0c : Cap) (w1 : AV) (w4 : Int) (w7 : Int) (w8 : Int) (S : AS) : Option (AV × AS) := loopN (evC E call n 51 (E.at 51 [1, 0, 1, 0, 0]) 0) [0, 1, 4, 7, 8] m [(0, (.sl w0a w0l w0c)), (1, w1), (4, (.int .i64 w4)), (7, (.int .i64 w7)), (8, (.int .i64 w8))] S (kBlk 0 (kSeq E call n 51 (E.at 51 [1, 1]) 0 (retK E (E.fn 51))))
theorem a51_l1_0_1_0 (call : CallA) (n : Nat)  (m : Nat) (w0a : Option Pos) (w0l : Nat) (w0c : Cap) (w1 : AV) (w4 : Int) (w7 : Int) (w8 : Int) (S : AS) : r51_l1_0_1_0 call n  (m + 1) w0a w0l w0c w1 w4 w7 w8 S = b51_l1_0_1_0 call n (r51_l1_0_1_0 call n  m) w0a w0l w0c w1 w4 w7 w8 S := by kernel_rfl
theorem a51_entry (call : CallA) (n : Nat) (x0a : Option Pos) (x0l : Nat) (x0c : Cap) (x1 : AV) (S : AS) : evC E call n 51 (E.at 51 []) 0 (enumT 0 [(.sl x0a x0l x0c), x1]) S (retK E (E.fn 51)) = b51_entry call n (r51_l1_0_1_0 call n  n) x0a x0l x0c x1 S := by kernel_rfl
def J51_l1_0_1_0 (call : CallA) (n : Nat)  (m : Nat) : Option Pos → Nat → Cap → AV → Int → Int → Int → AS → Option (AV × AS) := Nat.rec (motive := fun _ => Option Pos → Nat → Cap → AV → Int → Int → Int → AS → Option (AV × AS)) (fun _ _ _ _ _ _ _ _ => none) (fun _ ih w0a w0l w0c w1 w4 w7 w8 S => b51_l1_0_1_0 call n ih w0a w0l w0c w1 w4 w7 w8 S) m
theorem J51_l1_0_1_0_succ (call : CallA) (n : Nat)  (m : Nat) (w0a : Option Pos) (w0l : Nat) (w0c : Cap) (w1 : AV) (w4 : Int) (w7 : Int) (w8 : Int) (S : AS) : J51_l1_0_1_0 call n  (m + 1) w0a w0l w0c w1 w4 w7 w8 S = b51_l1_0_1_0 call n (J51_l1_0_1_0 call n  m) w0a w0l w0c w1 w4 w7 w8 S := rfl
theorem h51_l1_0_1_0 (call : CallA) (n : Nat)  (m : Nat) : r51_l1_0_1_0 call n  m = J51_l1_0_1_0 call n  m := by
  induction m with
  | zero => rfl
  | succ m ih =>
    funext w0a w0l w0c w1 w4 w7 w8 S
    rw [J51_l1_0_1_0_succ, a51_l1_0_1_0, ih]
def J51 (call : CallA) (n : Nat) (x0a : Option Pos) (x0l : Nat) (x0c : Cap) (x1 : AV) (S : AS) : Option (AV × AS) := b51_entry call n (J51_l1_0_1_0 call n  n) x0a x0l x0c x1 S
theorem run51 (o : Orc) (n : Nat) (args : List AV) (S : AS) (ho : o 51 args = none) : evF E o (n + 1) (.fn 51) args S = evC E (evF E o n) n 51 (E.at 51 []) 0 (enumT 0 args) S (retK E (E.fn 51)) := by
  rw [evF, ho]; kernel_rfl
theorem J51_eq (call : CallA) (n : Nat) (x0a : Option Pos) (x0l : Nat) (x0c : Cap) (x1 : AV) (S : AS) : evC E call n 51 (E.at 51 []) 0 (enumT 0 [(.sl x0a x0l x0c), x1]) S (retK E (E.fn 51)) = J51 call n x0a x0l x0c x1 S := by
  rw [J51, a51_entry, h51_l1_0_1_0 call n  n]
theorem F51 {o : Orc} (n : Nat) (x0a : Option Pos) (x0l : Nat) (x0c : Cap) (x1 : AV) (S : AS) (ho : ∀ args, o 51 args = none) : evF E o (n + 1) (.fn 51) [(.sl x0a x0l x0c), x1] S = J51 (evF E o n) n x0a x0l x0c x1 S := (run51 o n [(.sl x0a x0l x0c), x1] S (ho _)).trans (J51_eq _ _ x0a x0l x0c x1 S)
def b52_entry (call : CallA) (n : Nat)  (x0 : List AV) (x1 : AV) (S : AS) : Option (AV × AS) :=
 ifO (x0.length = 4) <|
 newA S (.cells x0) fun b1 S2 =>
 ldI .u32 S2 (.rw b1) 0 fun v3 =>
 gA x1 fun p4 =>
 ldI .u32 S2 p4.1 p4.2 fun v5 =>
 some ((.bool (v3 == v5)), S2)

theorem a52_entry (call : CallA) (n : Nat) (x0 : List AV) (x1 : AV) (S : AS) : evC E call n 52 (E.at 52 []) 0 (enumT 0 [(.agg x0), x1]) S (retK E (E.fn 52)) = b52_entry call n  x0 x1 S := by kernel_rfl
def J52 (call : CallA) (n : Nat) (x0 : List AV) (x1 : AV) (S : AS) : Option (AV × AS) := b52_entry call n  x0 x1 S
theorem run52 (o : Orc) (n : Nat) (args : List AV) (S : AS) (ho : o 52 args = none) : evF E o (n + 1) (.fn 52) args S = evC E (evF E o n) n 52 (E.at 52 []) 0 (enumT 0 args) S (retK E (E.fn 52)) := by
  rw [evF, ho]; kernel_rfl
theorem J52_eq (call : CallA) (n : Nat) (x0 : List AV) (x1 : AV) (S : AS) : evC E call n 52 (E.at 52 []) 0 (enumT 0 [(.agg x0), x1]) S (retK E (E.fn 52)) = J52 call n x0 x1 S := by
  rw [J52, a52_entry]
theorem F52 {o : Orc} (n : Nat) (x0 : List AV) (x1 : AV) (S : AS) (ho : ∀ args, o 52 args = none) : evF E o (n + 1) (.fn 52) [(.agg x0), x1] S = J52 (evF E o n) n x0 x1 S := (run52 o n [(.agg x0), x1] S (ho _)).trans (J52_eq _ _ x0 x1 S)
def b53_l1_1_0_1_0 (call : CallA) (n : Nat) (l1_1_0_1_0 : Int → Option Pos → Nat → Cap → Int → Int → AS → Option (AV × AS)) (w3 : Int) (w6a : Option Pos) (w6l : Nat) (w6c : Cap) (w7 : Int) (w8 : Int) (S : AS) : Option (AV × AS) :=
 cond (decide (w8 < w7)) (
 ixSl 1 w6a w6l w8 fun p1 =>
 ldI .u8 S p1.1 p1.2 fun v2 =>
 l1_1_0_1_0 (orI .u64 (shlI .u64 w3 8) (IntKind.wrap .u64 v2)) w6a w6l w6c w7 (IntKind.wrap .i64 (w8 + 1)) S) (
 some ((.int .u64 w3), S))

def b53_entry (call : CallA) (n : Nat) (l1_1_0_1_0 : Int → Option Pos → Nat → Cap → Int → Int → AS → Option (AV × AS)) (x0a : Option Pos) (x0l : Nat) (x0c : Cap) (S : AS) : Option (AV × AS) :=
 l1_1_0_1_0 0 x0a x0l x0c ((x0l : Nat) : Int) 0 S

def r53_l1_1_0_1_0 (call : CallA) (n : Nat)  (m : Nat) (w3 : Int) (w6a : Option Pos) (w6l : Nat) (w6c : Cap) (w7 : Int) (w8 : Int) (S : AS) : Option (AV × AS) := loopN (evC E call n 53 (E.at 53 [1, 1, 0, 1, 0, 0]) 0) [3, 6, 7, 8] m [(3, (.int .u64 w3)), (6, (.sl w6a w6l w6c)), (7, (.int .i64 w7)), (8, (.int .i64 w8))] S (kBlk 0 (kSeq E call n 53 (E.at 53 [1, 1, 1]) 0 (retK E (E.fn 53))))
theorem a53_l1_1_0_1_0 (call : CallA) (n : Nat)  (m : Nat) (w3 : Int) (w6a : Option Pos) (w6l : Nat) (w6c : Cap) (w7 : Int) (w8 : Int) (S : AS) : r53_l1_1_0_1_0 call n  (m + 1) w3 w6a w6l w6c w7 w8 S = b53_l1_1_0_1_0 call n (r53_l1_1_0_1_0 call n  m) w3 w6a w6l w6c w7 w8 S := by kernel_rfl
theorem a53_entry (call : CallA) (n : Nat) (x0a : Option Pos) (x0l : Nat) (x0c : Cap) (S : AS) : evC E call n 53 (E.at 53 []) 0 (enumT 0 [(.sl x0a x0l x0c)]) S (retK E (E.fn 53)) = b53_entry call n (r53_l1_1_0_1_0 call n  n) x0a x0l x0c S := by kernel_rfl
def J53_l1_1_0_1_0 (call : CallA) (n : Nat)  (m : Nat) : Int → Option Pos → Nat → Cap → Int → Int → AS → Option (AV × AS) := Nat.rec (motive := fun _ => Int → Option Pos → Nat → Cap → Int → Int → AS → Option (AV × AS)) (fun _ _ _ _ _ _ _ => none) (fun _ ih w3 w6a w6l w6c w7 w8 S => b53_l1_1_0_1_0 call n ih w3 w6a w6l w6c w7 w8 S) m
theorem J53_l1_1_0_1_0_succ (call : CallA) (n : Nat)  (m : Nat) (w3 : Int) (w6a : Option Pos) (w6l : Nat) (w6c : Cap) (w7 : Int) (w8 : Int) (S : AS) : J53_l1_1_0_1_0 call n  (m + 1) w3 w6a w6l w6c w7 w8 S = b53_l1_1_0_1_0 call n (J53_l1_1_0_1_0 call n  m) w3 w6a w6l w6c w7 w8 S := rfl
theorem h53_l1_1_0_1_0 (call : CallA) (n : Nat)  (m : Nat) : r53_l1_1_0_1_0 call n  m = J53_l1_1_0_1_0 call n  m := by
  induction m with
  | zero => rfl
  | succ m ih =>
    funext w3 w6a w6l w6c w7 w8 S
    rw [J53_l1_1_0_1_0_succ, a53_l1_1_0_1_0, ih]
def J53 (call : CallA) (n : Nat) (x0a : Option Pos) (x0l : Nat) (x0c : Cap) (S : AS) : Option (AV × AS) := b53_entry call n (J53_l1_1_0_1_0 call n  n) x0a x0l x0c S
theorem run53 (o : Orc) (n : Nat) (args : List AV) (S : AS) (ho : o 53 args = none) : evF E o (n + 1) (.fn 53) args S = evC E (evF E o n) n 53 (E.at 53 []) 0 (enumT 0 args) S (retK E (E.fn 53)) := by
  rw [evF, ho]; kernel_rfl
theorem J53_eq (call : CallA) (n : Nat) (x0a : Option Pos) (x0l : Nat) (x0c : Cap) (S : AS) : evC E call n 53 (E.at 53 []) 0 (enumT 0 [(.sl x0a x0l x0c)]) S (retK E (E.fn 53)) = J53 call n x0a x0l x0c S := by
  rw [J53, a53_entry, h53_l1_1_0_1_0 call n  n]
theorem F53 {o : Orc} (n : Nat) (x0a : Option Pos) (x0l : Nat) (x0c : Cap) (S : AS) (ho : ∀ args, o 53 args = none) : evF E o (n + 1) (.fn 53) [(.sl x0a x0l x0c)] S = J53 (evF E o n) n x0a x0l x0c S := (run53 o n [(.sl x0a x0l x0c)] S (ho _)).trans (J53_eq _ _ x0a x0l x0c S)
def b54_l1_1_1_1_0_1_0 (call : CallA) (n : Nat) (l1_1_1_1_0_1_0 : Option Pos → Bool → Int → Int → Bool → Option Pos → Nat → Cap → Int → Int → AS → Option (AV × AS)) (j1_1_1_1_1 : Option Pos → Int → Int → Bool → AS → Option (AV × AS)) (w0 : Option Pos) (w2 : Bool) (w3 : Int) (w4 : Int) (w5 : Bool) (w40a : Option Pos) (w40l : Nat) (w40c : Cap) (w41 : Int) (w42 : Int) (S : AS) : Option (AV × AS) :=
 cond (decide (w42 < w41)) (
 ixSl 4 w40a w40l w42 fun p13 =>
 S.ldn p13.1 p13.2 4 fun g14 =>
 newA S (.cells [(.int .u32 0), (.int .u64 0), (.str ([])), (.int .u64 0)]) fun b15 S16 =>
 ifO (g14.length = 4) <|
 S16.stn (.rw b15) 0 g14 fun S17 =>
 ldI .u32 S17 (.rw b15) 0 fun v18 =>
 cond (decide ((IntKind.wrap .u64 v18) ≤ w3)) (
 some ((.bool false), S17)) (
 gO w0 fun p19 =>
 ldI .u64 S17 p19.1 (p19.2 + 1) fun v20 =>
 cond (decide ((IntKind.wrap .u64 v18) > v20)) (
 some ((.bool false), S17)) (
 ldI .u64 S17 (.rw b15) 1 fun v21 =>
 callB call 62 [(.int .u64 (IntKind.wrap .u64 ((IntKind.wrap .u64 v18) - w3))), (.int .u64 w4), (.int .u64 v21), (.bool w5)] S17 fun v23 S22 =>
 cond (!v23) (
 some ((.bool false), S22)) (
 ldI .u64 S22 (.rw b15) 1 fun v24 =>
 l1_1_1_1_0_1_0 w0 w2 (IntKind.wrap .u64 v18) v24 false w40a w40l w40c w41 (IntKind.wrap .i64 (w42 + 1)) S22)))) (
 j1_1_1_1_1 w0 w3 w4 w5 S)

def b54_j1_1_1_1_1 (call : CallA) (n : Nat)  (w0 : Option Pos) (w3 : Int) (w4 : Int) (w5 : Bool) (S : AS) : Option (AV × AS) :=
 gO w0 fun p25 =>
 ldI .u64 S p25.1 (p25.2 + 1) fun v26 =>
 cond (v26 == 0) (
 some ((.bool true), S)) (
 gO w0 fun p27 =>
 ldI .u64 S p27.1 (p27.2 + 1) fun v28 =>
 cond (v28 == w3) (
 gO w0 fun p29 =>
 ldI .u64 S p29.1 (p29.2 + 2) fun v30 =>
 some ((.bool (w4 == v30)), S)) (
 gO w0 fun p31 =>
 ldI .u64 S p31.1 (p31.2 + 1) fun v32 =>
 gO w0 fun p33 =>
 ldI .u64 S p33.1 (p33.2 + 2) fun v34 =>
 callB call 62 [(.int .u64 (IntKind.wrap .u64 (v32 - w3))), (.int .u64 w4), (.int .u64 v34), (.bool w5)] S fun v36 S35 =>
 some ((.bool v36), S35)))

def b54_entry (call : CallA) (n : Nat) (l1_1_1_1_0_1_0 : Option Pos → Bool → Int → Int → Bool → Option Pos → Nat → Cap → Int → Int → AS → Option (AV × AS)) (x0 : Option Pos) (S : AS) : Option (AV × AS) :=
 gO x0 fun p1 =>
 ldL S p1.1 p1.2 fun v2a v2l v2c =>
 cond (decide (((v2l : Nat) : Int) > 256)) (
 some ((.bool false), S)) (
 gO x0 fun p3 =>
 ldI .u64 S p3.1 (p3.2 + 1) fun v4 =>
 cond (v4 == 0) (
 gO x0 fun p5 =>
 ldI .u64 S p5.1 (p5.2 + 2) fun v6 =>
 cond (v6 != 0) (
 some ((.bool false), S)) (
 gO x0 fun p7 =>
 ldL S p7.1 p7.2 fun v8a v8l v8c =>
 cond (decide (((v8l : Nat) : Int) > 0)) (
 some ((.bool false), S)) (
 gO x0 fun p9 =>
 ldL S p9.1 p9.2 fun v10a v10l v10c =>
 l1_1_1_1_0_1_0 x0 false 0 0 true v10a v10l v10c ((v10l : Nat) : Int) 0 S))) (
 gO x0 fun p11 =>
 ldL S p11.1 p11.2 fun v12a v12l v12c =>
 l1_1_1_1_0_1_0 x0 false 0 0 true v12a v12l v12c ((v12l : Nat) : Int) 0 S))

def r54_l1_1_1_1_0_1_0 (call : CallA) (n : Nat)  (m : Nat) (w0 : Option Pos) (w2 : Bool) (w3 : Int) (w4 : Int) (w5 : Bool) (w40a : Option Pos) (w40l : Nat) (w40c : Cap) (w41 : Int) (w42 : Int) (S : AS) : Option (AV × AS) := loopN (evC E call n 54 (E.at 54 [1, 1, 1, 1, 0, 1, 0, 0]) 0) [0, 2, 3, 4, 5, 40, 41, 42] m [(0, (.ptr w0)), (2, (.bool w2)), (3, (.int .u64 w3)), (4, (.int .u64 w4)), (5, (.bool w5)), (40, (.sl w40a w40l w40c)), (41, (.int .i64 w41)), (42, (.int .i64 w42))] S (kBlk 0 (kSeq E call n 54 (E.at 54 [1, 1, 1, 1, 1]) 0 (retK E (E.fn 54))))
def r54_j1_1_1_1_1 (call : CallA) (n : Nat)  (w0 : Option Pos) (w3 : Int) (w4 : Int) (w5 : Bool) (S : AS) : Option (AV × AS) := evC E call n 54 (E.at 54 [1, 1, 1, 1, 1]) 0 [(0, (.ptr w0)), (3, (.int .u64 w3)), (4, (.int .u64 w4)), (5, (.bool w5))] S (retK E (E.fn 54))
theorem a54_l1_1_1_1_0_1_0 (call : CallA) (n : Nat)  (m : Nat) (w0 : Option Pos) (w2 : Bool) (w3 : Int) (w4 : Int) (w5 : Bool) (w40a : Option Pos) (w40l : Nat) (w40c : Cap) (w41 : Int) (w42 : Int) (S : AS) : r54_l1_1_1_1_0_1_0 call n  (m + 1) w0 w2 w3 w4 w5 w40a w40l w40c w41 w42 S = b54_l1_1_1_1_0_1_0 call n (r54_l1_1_1_1_0_1_0 call n  m) (r54_j1_1_1_1_1 call n ) w0 w2 w3 w4 w5 w40a w40l w40c w41 w42 S := by kernel_rfl
theorem a54_j1_1_1_1_1 (call : CallA) (n : Nat)  (w0 : Option Pos) (w3 : Int) (w4 : Int) (w5 : Bool) (S : AS) : r54_j1_1_1_1_1 call n  w0 w3 w4 w5 S = b54_j1_1_1_1_1 call n  w0 w3 w4 w5 S := by kernel_rfl
theorem a54_entry (call : CallA) (n : Nat) (x0 : Option Pos) (S : AS) : evC E call n 54 (E.at 54 []) 0 (enumT 0 [(.ptr x0)]) S (retK E (E.fn 54)) = b54_entry call n (r54_l1_1_1_1_0_1_0 call n  n) x0 S := by kernel_rfl
def J54_j1_1_1_1_1 (call : CallA) (n : Nat)  (w0 : Option Pos) (w3 : Int) (w4 : Int) (w5 : Bool) (S : AS) : Option (AV × AS) := b54_j1_1_1_1_1 call n  w0 w3 w4 w5 S
theorem h54_j1_1_1_1_1 (call : CallA) (n : Nat)  : r54_j1_1_1_1_1 call n  = J54_j1_1_1_1_1 call n  := by
  funext w0 w3 w4 w5 S
  rw [J54_j1_1_1_1_1, a54_j1_1_1_1_1]
def J54_l1_1_1_1_0_1_0 (call : CallA) (n : Nat)  (m : Nat) : Option Pos → Bool → Int → Int → Bool → Option Pos → Nat → Cap → Int → Int → AS → Option (AV × AS) := Nat.rec (motive := fun _ => Option Pos → Bool → Int → Int → Bool → Option Pos → Nat → Cap → Int → Int → AS → Option (AV × AS)) (fun _ _ _ _ _ _ _ _ _ _ _ => none) (fun _ ih w0 w2 w3 w4 w5 w40a w40l w40c w41 w42 S => b54_l1_1_1_1_0_1_0 call n ih (J54_j1_1_1_1_1 call n ) w0 w2 w3 w4 w5 w40a w40l w40c w41 w42 S) m
theorem J54_l1_1_1_1_0_1_0_succ (call : CallA) (n : Nat)  (m : Nat) (w0 : Option Pos) (w2 : Bool) (w3 : Int) (w4 : Int) (w5 : Bool) (w40a : Option Pos) (w40l : Nat) (w40c : Cap) (w41 : Int) (w42 : Int) (S : AS) : J54_l1_1_1_1_0_1_0 call n  (m + 1) w0 w2 w3 w4 w5 w40a w40l w40c w41 w42 S = b54_l1_1_1_1_0_1_0 call n (J54_l1_1_1_1_0_1_0 call n  m) (J54_j1_1_1_1_1 call n ) w0 w2 w3 w4 w5 w40a w40l w40c w41 w42 S := rfl
theorem h54_l1_1_1_1_0_1_0 (call : CallA) (n : Nat)  (m : Nat) : r54_l1_1_1_1_0_1_0 call n  m = J54_l1_1_1_1_0_1_0 call n  m := by
  induction m with
  | zero => rfl
  | succ m ih =>
    funext w0 w2 w3 w4 w5 w40a w40l w40c w41 w42 S
    rw [J54_l1_1_1_1_0_1_0_succ, a54_l1_1_1_1_0_1_0, h54_j1_1_1_1_1 call n , ih]
def J54 (call : CallA) (n : Nat) (x0 : Option Pos) (S : AS) : Option (AV × AS) := b54_entry call n (J54_l1_1_1_1_0_1_0 call n  n) x0 S
theorem run54 (o : Orc) (n : Nat) (args : List AV) (S : AS) (ho : o 54 args = none) : evF E o (n + 1) (.fn 54) args S = evC E (evF E o n) n 54 (E.at 54 []) 0 (enumT 0 args) S (retK E (E.fn 54)) := by
  rw [evF, ho]; kernel_rfl
theorem J54_eq (call : CallA) (n : Nat) (x0 : Option Pos) (S : AS) : evC E call n 54 (E.at 54 []) 0 (enumT 0 [(.ptr x0)]) S (retK E (E.fn 54)) = J54 call n x0 S := by
  rw [J54, a54_entry, h54_l1_1_1_1_0_1_0 call n  n]
theorem F54 {o : Orc} (n : Nat) (x0 : Option Pos) (S : AS) (ho : ∀ args, o 54 args = none) : evF E o (n + 1) (.fn 54) [(.ptr x0)] S = J54 (evF E o n) n x0 S := (run54 o n [(.ptr x0)] S (ho _)).trans (J54_eq _ _ x0 S)
def b55_entry (call : CallA) (n : Nat)  (x0 : List UInt8) (x1 : List UInt8) (S : AS) : Option (AV × AS) :=
 callB call 63 [(.str x0), (.str x1)] S fun v2 S1 =>
 cond (!v2) (
 some (.tup [(.str x0), (.bool false)], S1)) (
 slStr x0 (some ((x1.length : Nat) : Int)) none fun v3 =>
 some (.tup [(.str v3), (.bool true)], S1))

theorem a55_entry (call : CallA) (n : Nat) (x0 : List UInt8) (x1 : List UInt8) (S : AS) : evC E call n 55 (E.at 55 []) 0 (enumT 0 [(.str x0), (.str x1)]) S (retK E (E.fn 55)) = b55_entry call n  x0 x1 S := by kernel_rfl
def J55 (call : CallA) (n : Nat) (x0 : List UInt8) (x1 : List UInt8) (S : AS) : Option (AV × AS) := b55_entry call n  x0 x1 S
theorem run55 (o : Orc) (n : Nat) (args : List AV) (S : AS) (ho : o 55 args = none) : evF E o (n + 1) (.fn 55) args S = evC E (evF E o n) n 55 (E.at 55 []) 0 (enumT 0 args) S (retK E (E.fn 55)) := by
  rw [evF, ho]; kernel_rfl
theorem J55_eq (call : CallA) (n : Nat) (x0 : List UInt8) (x1 : List UInt8) (S : AS) : evC E call n 55 (E.at 55 []) 0 (enumT 0 [(.str x0), (.str x1)]) S (retK E (E.fn 55)) = J55 call n x0 x1 S := by
  rw [J55, a55_entry]
theorem F55 {o : Orc} (n : Nat) (x0 : List UInt8) (x1 : List UInt8) (S : AS) (ho : ∀ args, o 55 args = none) : evF E o (n + 1) (.fn 55) [(.str x0), (.str x1)] S = J55 (evF E o n) n x0 x1 S := (run55 o n [(.str x0), (.str x1)] S (ho _)).trans (J55_eq _ _ x0 x1 S)
end
end Go.Ct
