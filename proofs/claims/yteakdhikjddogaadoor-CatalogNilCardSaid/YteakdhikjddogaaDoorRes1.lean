/- Plain readings of the functions, and that they are what the evaluator does: by program. -/
import Derived.Test.YteakdhikjddogaaDoorGrRes
import Derived.Test.YteakdhikjddogaaDoorENV
import Derived.KernelRfl
set_option maxRecDepth 100000
set_option linter.unusedVariables false
namespace Go.Ct
open Go.Gr
noncomputable section
def b11_l1_1_1_0_1_0 (call : CallA) (n : Nat)  (l1_1_1_0_1_0 : Option Pos → Nat → Cap → Option Pos → Option Pos → Bool → Int → Int → AS → Option (AV × AS)) (j1_1_1_1 : Option Pos → Nat → Cap → Option Pos → Option Pos → Bool → AS → Option (AV × AS)) (w1a : Option Pos) (w1l : Nat) (w1c : Cap) (w2 : Option Pos) (w5 : Option Pos) (w6 : Bool) (w21 : Int) (w22 : Int) (S : AS) : Option (AV × AS) :=
 cond (decide (w22 < w21)) (
 gO w5 fun p13 =>
 ldL S p13.1 p13.2 fun v14a v14l v14c =>
 cond w6 (
 ixSl 1 v14a v14l w22 fun p15 =>
 S.stn p15.1 p15.2 [(.bool true)] fun S16 =>
 l1_1_1_0_1_0 w1a w1l w1c w2 w5 w6 w21 (IntKind.wrap .i64 (w22 + 1)) S16) (
 gO w2 fun p17 =>
 ldI .i64 S p17.1 p17.2 fun v18 =>
 ixSl 1 v14a v14l w22 fun p19 =>
 S.stn p19.1 p19.2 [(.bool (decide (w22 ≥ (IntKind.wrap .i64 (((w1l : Nat) : Int) - v18)))))] fun S20 =>
 l1_1_1_0_1_0 w1a w1l w1c w2 w5 w6 w21 (IntKind.wrap .i64 (w22 + 1)) S20)) (
 j1_1_1_1 w1a w1l w1c w2 w5 w6 S)

def b11_j1_1_1_1 (call : CallA) (n : Nat)  (l1_1_1_1_1_0_1_0 : Option Pos → Nat → Cap → Option Pos → Option Pos → Nat → Cap → Int → Int → AS → Option (AV × AS)) (w1a : Option Pos) (w1l : Nat) (w1c : Cap) (w2 : Option Pos) (w5 : Option Pos) (w6 : Bool) (S : AS) : Option (AV × AS) :=
 cond w6 (
 gO w5 fun p21 =>
 ldL S p21.1 p21.2 fun v22a v22l v22c =>
 some ((.sl v22a v22l v22c), S)) (
 gO w2 fun p23 =>
 ldL S p23.1 (p23.2 + 1) fun v24a v24l v24c =>
 l1_1_1_1_1_0_1_0 w1a w1l w1c w5 v24a v24l v24c ((v24l : Nat) : Int) 0 S)

def b11_l1_1_1_1_1_0_1_0 (call : CallA) (n : Nat) (m1_1_1_1_1_0_1_0 : Nat) (j1_1_1_1_1_0_1_0_0_1_1_1 : Option Pos → Nat → Cap → Option Pos → Option Pos → Nat → Cap → Int → Int → AS → Option (AV × AS)) (w1a : Option Pos) (w1l : Nat) (w1c : Cap) (w5 : Option Pos) (w42a : Option Pos) (w42l : Nat) (w42c : Cap) (w43 : Int) (w44 : Int) (S : AS) : Option (AV × AS) :=
 cond (decide (w44 < w43)) (
 ixSl 2 w42a w42l w44 fun p25 =>
 S.ldn p25.1 p25.2 2 fun g26 =>
 newA S (.cells [(.int .u64 0), (.int .i64 0)]) fun b27 S28 =>
 ifO (g26.length = 2) <|
 S28.stn (.rw b27) 0 g26 fun S29 =>
 newA S29 (.map ty32.k []) fun b30 S31 =>
 newA S31 (.cells [(.mp none)]) fun b32 S33 =>
 S33.stn (.rw b32) 0 [(.mp (some b30))] fun S34 =>
 callV call 34 [(.sl w1a w1l w1c)] S34 fun v36 S35 =>
 rangeF call v36 11 [(50, v36), (49, (.sl w1a w1l w1c)), (1, (.sl w1a w1l w1c)), (5, (.ptr w5)), (9, (.ptr (some ((.rw b27), 0)))), (10, (.ptr (some ((.rw b32), 0)))), (42, (.sl w42a w42l w42c)), (43, (.int .i64 w43)), (44, (.int .i64 w44))] [51, 52] (E.at 11 [1, 1, 1, 1, 1, 0, 1, 0, 0, 1, 1, 0, 0, 1, 1, 1, 0, 0]) (E.at 11 [1, 1, 1, 1, 1, 0, 1, 0, 0, 1, 1, 0, 0, 1, 1, 1, 0, 1]) S35 (fun S37 =>
 j1_1_1_1_1_0_1_0_0_1_1_1 w1a w1l w1c w5 w42a w42l w42c w43 w44 S37) (fun x S37 => (kBlk 4 (kBlk 3 (kSeq E call n 11 (E.at 11 [1, 1, 1, 1, 1, 0, 1, 0, 0, 1, 1, 1]) 2 (kLp (evC E call n 11 (E.at 11 [1, 1, 1, 1, 1, 0, 1, 0, 0]) 2) [1, 5, 42, 43, 44] m1_1_1_1_1_0_1_0 (kBlk 2 (kSeq E call n 11 (E.at 11 [1, 1, 1, 1, 1, 1]) 0 (retK E (E.fn 11)))))))) x [(50, v36), (49, (.sl w1a w1l w1c)), (1, (.sl w1a w1l w1c)), (5, (.ptr w5)), (9, (.ptr (some ((.rw b27), 0)))), (10, (.ptr (some ((.rw b32), 0)))), (42, (.sl w42a w42l w42c)), (43, (.int .i64 w43)), (44, (.int .i64 w44))] S37)) (
 gO w5 fun p38 =>
 ldL S p38.1 p38.2 fun v39a v39l v39c =>
 some ((.sl v39a v39l v39c), S))

def b11_j1_1_1_1_1_0_1_0_0_1_1_1 (call : CallA) (n : Nat)  (l1_1_1_1_1_0_1_0 : Option Pos → Nat → Cap → Option Pos → Option Pos → Nat → Cap → Int → Int → AS → Option (AV × AS)) (w1a : Option Pos) (w1l : Nat) (w1c : Cap) (w5 : Option Pos) (w42a : Option Pos) (w42l : Nat) (w42c : Cap) (w43 : Int) (w44 : Int) (S : AS) : Option (AV × AS) :=
 l1_1_1_1_1_0_1_0 w1a w1l w1c w5 w42a w42l w42c w43 (IntKind.wrap .i64 (w44 + 1)) S

def b11_entry (call : CallA) (n : Nat)  (l1_1_1_0_1_0 : Option Pos → Nat → Cap → Option Pos → Option Pos → Bool → Int → Int → AS → Option (AV × AS)) (x0 : List AV) (x1a : Option Pos) (x1l : Nat) (x1c : Cap) (S : AS) : Option (AV × AS) :=
 ifO (x0.length = 2) <|
 newA S (.cells x0) fun b1 S2 =>
 mkSl 1 ((x1l : Nat) : Int) ((x1l : Nat) : Int) fun l5 c6 =>
 newA S2 (.cells (zeros c6 [(.bool false)])) fun b3 S4 =>
 newA S4 (.cells [(.sl none 0 (.ex 0))]) fun b7 S8 =>
 S8.stn (.rw b7) 0 [(.sl (some (.rw b3, 0)) l5 (.ex c6))] fun S9 =>
 S9.ldn (.rw b1) 0 2 fun g10 =>
 callI .i64 call 16 [(.agg g10)] S9 fun v12 S11 =>
 l1_1_1_0_1_0 x1a x1l x1c (some ((.rw b1), 0)) (some ((.rw b7), 0)) (v12 != 0) ((x1l : Nat) : Int) 0 S11

def r11_l1_1_1_0_1_0 (call : CallA) (n : Nat)  (m : Nat) (w1a : Option Pos) (w1l : Nat) (w1c : Cap) (w2 : Option Pos) (w5 : Option Pos) (w6 : Bool) (w21 : Int) (w22 : Int) (S : AS) : Option (AV × AS) := loopN (evC E call n 11 (E.at 11 [1, 1, 1, 0, 1, 0, 0]) 0) [1, 2, 5, 6, 21, 22] m [(1, (.sl w1a w1l w1c)), (2, (.ptr w2)), (5, (.ptr w5)), (6, (.bool w6)), (21, (.int .i64 w21)), (22, (.int .i64 w22))] S (kBlk 0 (kSeq E call n 11 (E.at 11 [1, 1, 1, 1]) 0 (retK E (E.fn 11))))
def r11_j1_1_1_1 (call : CallA) (n : Nat)  (w1a : Option Pos) (w1l : Nat) (w1c : Cap) (w2 : Option Pos) (w5 : Option Pos) (w6 : Bool) (S : AS) : Option (AV × AS) := evC E call n 11 (E.at 11 [1, 1, 1, 1]) 0 [(1, (.sl w1a w1l w1c)), (2, (.ptr w2)), (5, (.ptr w5)), (6, (.bool w6))] S (retK E (E.fn 11))
def r11_l1_1_1_1_1_0_1_0 (call : CallA) (n : Nat)  (m : Nat) (w1a : Option Pos) (w1l : Nat) (w1c : Cap) (w5 : Option Pos) (w42a : Option Pos) (w42l : Nat) (w42c : Cap) (w43 : Int) (w44 : Int) (S : AS) : Option (AV × AS) := loopN (evC E call n 11 (E.at 11 [1, 1, 1, 1, 1, 0, 1, 0, 0]) 2) [1, 5, 42, 43, 44] m [(1, (.sl w1a w1l w1c)), (5, (.ptr w5)), (42, (.sl w42a w42l w42c)), (43, (.int .i64 w43)), (44, (.int .i64 w44))] S (kBlk 2 (kSeq E call n 11 (E.at 11 [1, 1, 1, 1, 1, 1]) 0 (retK E (E.fn 11))))
def r11_j1_1_1_1_1_0_1_0_0_1_1_1 (call : CallA) (n : Nat) (m1_1_1_1_1_0_1_0 : Nat) (w1a : Option Pos) (w1l : Nat) (w1c : Cap) (w5 : Option Pos) (w42a : Option Pos) (w42l : Nat) (w42c : Cap) (w43 : Int) (w44 : Int) (S : AS) : Option (AV × AS) := evC E call n 11 (E.at 11 [1, 1, 1, 1, 1, 0, 1, 0, 0, 1, 1, 1]) 2 [(1, (.sl w1a w1l w1c)), (5, (.ptr w5)), (42, (.sl w42a w42l w42c)), (43, (.int .i64 w43)), (44, (.int .i64 w44))] S (kLp (evC E call n 11 (E.at 11 [1, 1, 1, 1, 1, 0, 1, 0, 0]) 2) [1, 5, 42, 43, 44] m1_1_1_1_1_0_1_0 (kBlk 2 (kSeq E call n 11 (E.at 11 [1, 1, 1, 1, 1, 1]) 0 (retK E (E.fn 11)))))
theorem a11_l1_1_1_0_1_0 (call : CallA) (n : Nat)  (m : Nat) (w1a : Option Pos) (w1l : Nat) (w1c : Cap) (w2 : Option Pos) (w5 : Option Pos) (w6 : Bool) (w21 : Int) (w22 : Int) (S : AS) : r11_l1_1_1_0_1_0 call n  (m + 1) w1a w1l w1c w2 w5 w6 w21 w22 S = b11_l1_1_1_0_1_0 call n (r11_l1_1_1_0_1_0 call n  m) (r11_j1_1_1_1 call n ) w1a w1l w1c w2 w5 w6 w21 w22 S := by kernel_rfl
theorem a11_j1_1_1_1 (call : CallA) (n : Nat)  (w1a : Option Pos) (w1l : Nat) (w1c : Cap) (w2 : Option Pos) (w5 : Option Pos) (w6 : Bool) (S : AS) : r11_j1_1_1_1 call n  w1a w1l w1c w2 w5 w6 S = b11_j1_1_1_1 call n (r11_l1_1_1_1_1_0_1_0 call n  n) w1a w1l w1c w2 w5 w6 S := by kernel_rfl
theorem a11_l1_1_1_1_1_0_1_0 (call : CallA) (n : Nat)  (m : Nat) (w1a : Option Pos) (w1l : Nat) (w1c : Cap) (w5 : Option Pos) (w42a : Option Pos) (w42l : Nat) (w42c : Cap) (w43 : Int) (w44 : Int) (S : AS) : r11_l1_1_1_1_1_0_1_0 call n  (m + 1) w1a w1l w1c w5 w42a w42l w42c w43 w44 S = b11_l1_1_1_1_1_0_1_0 call n m (r11_j1_1_1_1_1_0_1_0_0_1_1_1 call n m) w1a w1l w1c w5 w42a w42l w42c w43 w44 S := by kernel_rfl
theorem a11_j1_1_1_1_1_0_1_0_0_1_1_1 (call : CallA) (n : Nat) (m1_1_1_1_1_0_1_0 : Nat) (w1a : Option Pos) (w1l : Nat) (w1c : Cap) (w5 : Option Pos) (w42a : Option Pos) (w42l : Nat) (w42c : Cap) (w43 : Int) (w44 : Int) (S : AS) : r11_j1_1_1_1_1_0_1_0_0_1_1_1 call n m1_1_1_1_1_0_1_0 w1a w1l w1c w5 w42a w42l w42c w43 w44 S = b11_j1_1_1_1_1_0_1_0_0_1_1_1 call n (r11_l1_1_1_1_1_0_1_0 call n  m1_1_1_1_1_0_1_0) w1a w1l w1c w5 w42a w42l w42c w43 w44 S := by kernel_rfl
theorem a11_entry (call : CallA) (n : Nat) (x0 : List AV) (x1a : Option Pos) (x1l : Nat) (x1c : Cap) (S : AS) : evC E call n 11 (E.at 11 []) 0 (enumT 0 [(.agg x0), (.sl x1a x1l x1c)]) S (retK E (E.fn 11)) = b11_entry call n (r11_l1_1_1_0_1_0 call n  n) x0 x1a x1l x1c S := by kernel_rfl
def J11_j1_1_1_1_1_0_1_0_0_1_1_1 (call : CallA) (n : Nat) (n1_1_1_1_1_0_1_0 : Option Pos → Nat → Cap → Option Pos → Option Pos → Nat → Cap → Int → Int → AS → Option (AV × AS)) (w1a : Option Pos) (w1l : Nat) (w1c : Cap) (w5 : Option Pos) (w42a : Option Pos) (w42l : Nat) (w42c : Cap) (w43 : Int) (w44 : Int) (S : AS) : Option (AV × AS) := b11_j1_1_1_1_1_0_1_0_0_1_1_1 call n n1_1_1_1_1_0_1_0 w1a w1l w1c w5 w42a w42l w42c w43 w44 S
theorem h11_j1_1_1_1_1_0_1_0_0_1_1_1 (call : CallA) (n : Nat) (m1_1_1_1_1_0_1_0 : Nat) : r11_j1_1_1_1_1_0_1_0_0_1_1_1 call n m1_1_1_1_1_0_1_0 = J11_j1_1_1_1_1_0_1_0_0_1_1_1 call n (r11_l1_1_1_1_1_0_1_0 call n  m1_1_1_1_1_0_1_0) := by
  funext w1a w1l w1c w5 w42a w42l w42c w43 w44 S
  rw [J11_j1_1_1_1_1_0_1_0_0_1_1_1, a11_j1_1_1_1_1_0_1_0_0_1_1_1]
def J11_l1_1_1_1_1_0_1_0 (call : CallA) (n : Nat)  (m : Nat) : Option Pos → Nat → Cap → Option Pos → Option Pos → Nat → Cap → Int → Int → AS → Option (AV × AS) := Nat.rec (motive := fun _ => Option Pos → Nat → Cap → Option Pos → Option Pos → Nat → Cap → Int → Int → AS → Option (AV × AS)) (fun _ _ _ _ _ _ _ _ _ _ => none) (fun mK ih w1a w1l w1c w5 w42a w42l w42c w43 w44 S => b11_l1_1_1_1_1_0_1_0 call n mK (J11_j1_1_1_1_1_0_1_0_0_1_1_1 call n ih) w1a w1l w1c w5 w42a w42l w42c w43 w44 S) m
theorem J11_l1_1_1_1_1_0_1_0_succ (call : CallA) (n : Nat)  (m : Nat) (w1a : Option Pos) (w1l : Nat) (w1c : Cap) (w5 : Option Pos) (w42a : Option Pos) (w42l : Nat) (w42c : Cap) (w43 : Int) (w44 : Int) (S : AS) : J11_l1_1_1_1_1_0_1_0 call n  (m + 1) w1a w1l w1c w5 w42a w42l w42c w43 w44 S = b11_l1_1_1_1_1_0_1_0 call n m (J11_j1_1_1_1_1_0_1_0_0_1_1_1 call n (J11_l1_1_1_1_1_0_1_0 call n  m)) w1a w1l w1c w5 w42a w42l w42c w43 w44 S := rfl
theorem h11_l1_1_1_1_1_0_1_0 (call : CallA) (n : Nat)  (m : Nat) : r11_l1_1_1_1_1_0_1_0 call n  m = J11_l1_1_1_1_1_0_1_0 call n  m := by
  induction m with
  | zero => rfl
  | succ m ih =>
    funext w1a w1l w1c w5 w42a w42l w42c w43 w44 S
    rw [J11_l1_1_1_1_1_0_1_0_succ, a11_l1_1_1_1_1_0_1_0, h11_j1_1_1_1_1_0_1_0_0_1_1_1 call n m, ih]
def J11_j1_1_1_1 (call : CallA) (n : Nat)  (w1a : Option Pos) (w1l : Nat) (w1c : Cap) (w2 : Option Pos) (w5 : Option Pos) (w6 : Bool) (S : AS) : Option (AV × AS) := b11_j1_1_1_1 call n (J11_l1_1_1_1_1_0_1_0 call n  n) w1a w1l w1c w2 w5 w6 S
theorem h11_j1_1_1_1 (call : CallA) (n : Nat)  : r11_j1_1_1_1 call n  = J11_j1_1_1_1 call n  := by
  funext w1a w1l w1c w2 w5 w6 S
  rw [J11_j1_1_1_1, a11_j1_1_1_1, h11_l1_1_1_1_1_0_1_0 call n  n]
def J11_l1_1_1_0_1_0 (call : CallA) (n : Nat)  (m : Nat) : Option Pos → Nat → Cap → Option Pos → Option Pos → Bool → Int → Int → AS → Option (AV × AS) := Nat.rec (motive := fun _ => Option Pos → Nat → Cap → Option Pos → Option Pos → Bool → Int → Int → AS → Option (AV × AS)) (fun _ _ _ _ _ _ _ _ _ => none) (fun mK ih w1a w1l w1c w2 w5 w6 w21 w22 S => b11_l1_1_1_0_1_0 call n ih (J11_j1_1_1_1 call n ) w1a w1l w1c w2 w5 w6 w21 w22 S) m
theorem J11_l1_1_1_0_1_0_succ (call : CallA) (n : Nat)  (m : Nat) (w1a : Option Pos) (w1l : Nat) (w1c : Cap) (w2 : Option Pos) (w5 : Option Pos) (w6 : Bool) (w21 : Int) (w22 : Int) (S : AS) : J11_l1_1_1_0_1_0 call n  (m + 1) w1a w1l w1c w2 w5 w6 w21 w22 S = b11_l1_1_1_0_1_0 call n (J11_l1_1_1_0_1_0 call n  m) (J11_j1_1_1_1 call n ) w1a w1l w1c w2 w5 w6 w21 w22 S := rfl
theorem h11_l1_1_1_0_1_0 (call : CallA) (n : Nat)  (m : Nat) : r11_l1_1_1_0_1_0 call n  m = J11_l1_1_1_0_1_0 call n  m := by
  induction m with
  | zero => rfl
  | succ m ih =>
    funext w1a w1l w1c w2 w5 w6 w21 w22 S
    rw [J11_l1_1_1_0_1_0_succ, a11_l1_1_1_0_1_0, h11_j1_1_1_1 call n , ih]
def J11 (call : CallA) (n : Nat) (x0 : List AV) (x1a : Option Pos) (x1l : Nat) (x1c : Cap) (S : AS) : Option (AV × AS) := b11_entry call n (J11_l1_1_1_0_1_0 call n  n) x0 x1a x1l x1c S
theorem run11 (o : Orc) (n : Nat) (args : List AV) (S : AS) (ho : o 11 args = none) : evF E o (n + 1) (.fn 11) args S = evC E (evF E o n) n 11 (E.at 11 []) 0 (enumT 0 args) S (retK E (E.fn 11)) := by
  rw [evF, ho]; kernel_rfl
theorem J11_eq (call : CallA) (n : Nat) (x0 : List AV) (x1a : Option Pos) (x1l : Nat) (x1c : Cap) (S : AS) : evC E call n 11 (E.at 11 []) 0 (enumT 0 [(.agg x0), (.sl x1a x1l x1c)]) S (retK E (E.fn 11)) = J11 call n x0 x1a x1l x1c S := by
  rw [J11, a11_entry, h11_l1_1_1_0_1_0 call n  n]
theorem F11 {o : Orc} (n : Nat) (x0 : List AV) (x1a : Option Pos) (x1l : Nat) (x1c : Cap) (S : AS) (ho : ∀ args, o 11 args = none) : evF E o (n + 1) (.fn 11) [(.agg x0), (.sl x1a x1l x1c)] S = J11 (evF E o n) n x0 x1a x1l x1c S := (run11 o n [(.agg x0), (.sl x1a x1l x1c)] S (ho _)).trans (J11_eq _ _ x0 x1a x1l x1c S)
def y11_1_1_1_1_1_0_1_0_0_1_1_0_0_1_1_1_0A (call : CallA) (t50 : AV) (t49a : Option Pos) (t49l : Nat) (t49c : Cap) (t1a : Option Pos) (t1l : Nat) (t1c : Cap) (t5 : Option Pos) (t9 : Option Pos) (t10 : Option Pos) (t42a : Option Pos) (t42l : Nat) (t42c : Cap) (t43 : Int) (t44 : Int) (y51 : Int) (y52 : Int) (S : AS) (K : KT (AV × AS)) : Option (AV × AS) :=
 K .normal [(12, (.int .u64 y52)), (11, (.int .i64 y51)), (52, (.int .u64 y52)), (51, (.int .i64 y51)), (50, t50), (49, (.sl t49a t49l t49c)), (1, (.sl t1a t1l t1c)), (5, (.ptr t5)), (9, (.ptr t9)), (10, (.ptr t10)), (42, (.sl t42a t42l t42c)), (43, (.int .i64 t43)), (44, (.int .i64 t44))] S

theorem ya11_1_1_1_1_1_0_1_0_0_1_1_0_0_1_1_1_0 (call : CallA) (n : Nat) (t50 : AV) (t49a : Option Pos) (t49l : Nat) (t49c : Cap) (t1a : Option Pos) (t1l : Nat) (t1c : Cap) (t5 : Option Pos) (t9 : Option Pos) (t10 : Option Pos) (t42a : Option Pos) (t42l : Nat) (t42c : Cap) (t43 : Int) (t44 : Int) (y51 : Int) (y52 : Int) (S : AS) (K : KT (AV × AS)) : evC E call n 11 (E.at 11 [1, 1, 1, 1, 1, 0, 1, 0, 0, 1, 1, 0, 0, 1, 1, 1, 0, 0]) 0 (putAll [51, 52] [(.int .i64 y51), (.int .u64 y52)] [(50, t50), (49, (.sl t49a t49l t49c)), (1, (.sl t1a t1l t1c)), (5, (.ptr t5)), (9, (.ptr t9)), (10, (.ptr t10)), (42, (.sl t42a t42l t42c)), (43, (.int .i64 t43)), (44, (.int .i64 t44))]) S K = y11_1_1_1_1_1_0_1_0_0_1_1_0_0_1_1_1_0A call t50 t49a t49l t49c t1a t1l t1c t5 t9 t10 t42a t42l t42c t43 t44 y51 y52 S K := by kernel_rfl
def y11_1_1_1_1_1_0_1_0_0_1_1_0_0_1_1_1_0B (call : CallA) (z12 : Int) (z11 : Int) (z52 : Int) (z51 : Int) (z50 : AV) (z49a : Option Pos) (z49l : Nat) (z49c : Cap) (z1a : Option Pos) (z1l : Nat) (z1c : Cap) (z5 : Option Pos) (z9 : Option Pos) (z10 : Option Pos) (z42a : Option Pos) (z42l : Nat) (z42c : Cap) (z43 : Int) (z44 : Int) (S : AS) (K : Exit → AS → Option (AV × AS)) : Option (AV × AS) :=
 gO z10 fun p40 =>
 ldM S p40.1 p40.2 fun v41 =>
 S.mapLen v41 fun n42 =>
 gO z9 fun p43 =>
 ldI .i64 S p43.1 (p43.2 + 1) fun v44 =>
 cond (decide (((n42 : Nat) : Int) ≥ v44)) (
 K (.exit 4) S) (
 gO z9 fun p45 =>
 ldI .u64 S p45.1 p45.2 fun v46 =>
 nz v46 <|
 gO z10 fun p47 =>
 ldM S p47.1 p47.2 fun v48 =>
 mapAt ty4 ty32.k S v48 (.int .u64 (IntKind.wrap .u64 (Int.tdiv z12 v46))) fun v49 v49k =>
 gB v49 fun v50 =>
 cond (!v50) (
 gO z10 fun p51 =>
 ldM S p51.1 p51.2 fun v52 =>
 mapUp ty32.k S v52 (.int .u64 (IntKind.wrap .u64 (Int.tdiv z12 v46))) (.bool true) fun S53 =>
 gO z5 fun p54 =>
 ldL S53 p54.1 p54.2 fun v55a v55l v55c =>
 ixSl 1 v55a v55l z11 fun p56 =>
 S53.stn p56.1 p56.2 [(.bool true)] fun S57 =>
 K .normal S57) (
 K .normal S))

theorem yb11_1_1_1_1_1_0_1_0_0_1_1_0_0_1_1_1_0 (call : CallA) (n : Nat) (z12 : Int) (z11 : Int) (z52 : Int) (z51 : Int) (z50 : AV) (z49a : Option Pos) (z49l : Nat) (z49c : Cap) (z1a : Option Pos) (z1l : Nat) (z1c : Cap) (z5 : Option Pos) (z9 : Option Pos) (z10 : Option Pos) (z42a : Option Pos) (z42l : Nat) (z42c : Cap) (z43 : Int) (z44 : Int) (S : AS) (K : Exit → AS → Option (AV × AS)) : evC E call n 11 (E.at 11 [1, 1, 1, 1, 1, 0, 1, 0, 0, 1, 1, 0, 0, 1, 1, 1, 0, 1]) 0 [(12, (.int .u64 z12)), (11, (.int .i64 z11)), (52, (.int .u64 z52)), (51, (.int .i64 z51)), (50, z50), (49, (.sl z49a z49l z49c)), (1, (.sl z1a z1l z1c)), (5, (.ptr z5)), (9, (.ptr z9)), (10, (.ptr z10)), (42, (.sl z42a z42l z42c)), (43, (.int .i64 z43)), (44, (.int .i64 z44))] S (fun x _ S => K x S) = y11_1_1_1_1_1_0_1_0_0_1_1_0_0_1_1_1_0B call z12 z11 z52 z51 z50 z49a z49l z49c z1a z1l z1c z5 z9 z10 z42a z42l z42c z43 z44 S K := by kernel_rfl
theorem yr11_1_1_1_1_1_0_1_0_0_1_1_0_0_1_1_1_0 (call : CallA) (n : Nat) (m1_1_1_1_1_0_1_0 : Nat) (t50 : AV) (t49a : Option Pos) (t49l : Nat) (t49c : Cap) (t1a : Option Pos) (t1l : Nat) (t1c : Cap) (t5 : Option Pos) (t9 : Option Pos) (t10 : Option Pos) (t42a : Option Pos) (t42l : Nat) (t42c : Cap) (t43 : Int) (t44 : Int) (S : AS) : (kBlk 4 (kBlk 3 (kSeq E call n 11 (E.at 11 [1, 1, 1, 1, 1, 0, 1, 0, 0, 1, 1, 1]) 2 (kLp (evC E call n 11 (E.at 11 [1, 1, 1, 1, 1, 0, 1, 0, 0]) 2) [1, 5, 42, 43, 44] m1_1_1_1_1_0_1_0 (kBlk 2 (kSeq E call n 11 (E.at 11 [1, 1, 1, 1, 1, 1]) 0 (retK E (E.fn 11)))))))) .ret [(50, t50), (49, (.sl t49a t49l t49c)), (1, (.sl t1a t1l t1c)), (5, (.ptr t5)), (9, (.ptr t9)), (10, (.ptr t10)), (42, (.sl t42a t42l t42c)), (43, (.int .i64 t43)), (44, (.int .i64 t44))] S = (
 some (.undef, S)) := by kernel_rfl
def x11_1_1_1_1_1_0_1_0_0_1_1_0_0_1_1_1_0_4 (call : CallA) (n : Nat) (j1_1_1_1_1_0_1_0_0_1_1_1 : Option Pos → Nat → Cap → Option Pos → Option Pos → Nat → Cap → Int → Int → AS → Option (AV × AS)) (t50 : AV) (t49a : Option Pos) (t49l : Nat) (t49c : Cap) (t1a : Option Pos) (t1l : Nat) (t1c : Cap) (t5 : Option Pos) (t9 : Option Pos) (t10 : Option Pos) (t42a : Option Pos) (t42l : Nat) (t42c : Cap) (t43 : Int) (t44 : Int) (S : AS) : Option (AV × AS) :=
 j1_1_1_1_1_0_1_0_0_1_1_1 t1a t1l t1c t5 t42a t42l t42c t43 t44 S

theorem yx11_1_1_1_1_1_0_1_0_0_1_1_0_0_1_1_1_0_4 (call : CallA) (n : Nat) (m1_1_1_1_1_0_1_0 : Nat) (t50 : AV) (t49a : Option Pos) (t49l : Nat) (t49c : Cap) (t1a : Option Pos) (t1l : Nat) (t1c : Cap) (t5 : Option Pos) (t9 : Option Pos) (t10 : Option Pos) (t42a : Option Pos) (t42l : Nat) (t42c : Cap) (t43 : Int) (t44 : Int) (S : AS) : (kBlk 4 (kBlk 3 (kSeq E call n 11 (E.at 11 [1, 1, 1, 1, 1, 0, 1, 0, 0, 1, 1, 1]) 2 (kLp (evC E call n 11 (E.at 11 [1, 1, 1, 1, 1, 0, 1, 0, 0]) 2) [1, 5, 42, 43, 44] m1_1_1_1_1_0_1_0 (kBlk 2 (kSeq E call n 11 (E.at 11 [1, 1, 1, 1, 1, 1]) 0 (retK E (E.fn 11)))))))) (.exit 4) [(50, t50), (49, (.sl t49a t49l t49c)), (1, (.sl t1a t1l t1c)), (5, (.ptr t5)), (9, (.ptr t9)), (10, (.ptr t10)), (42, (.sl t42a t42l t42c)), (43, (.int .i64 t43)), (44, (.int .i64 t44))] S = x11_1_1_1_1_1_0_1_0_0_1_1_0_0_1_1_1_0_4 call n (J11_j1_1_1_1_1_0_1_0_0_1_1_1 call n (J11_l1_1_1_1_1_0_1_0 call n m1_1_1_1_1_0_1_0)) t50 t49a t49l t49c t1a t1l t1c t5 t9 t10 t42a t42l t42c t43 t44 S := by
  have e : (kBlk 4 (kBlk 3 (kSeq E call n 11 (E.at 11 [1, 1, 1, 1, 1, 0, 1, 0, 0, 1, 1, 1]) 2 (kLp (evC E call n 11 (E.at 11 [1, 1, 1, 1, 1, 0, 1, 0, 0]) 2) [1, 5, 42, 43, 44] m1_1_1_1_1_0_1_0 (kBlk 2 (kSeq E call n 11 (E.at 11 [1, 1, 1, 1, 1, 1]) 0 (retK E (E.fn 11)))))))) (.exit 4) [(50, t50), (49, (.sl t49a t49l t49c)), (1, (.sl t1a t1l t1c)), (5, (.ptr t5)), (9, (.ptr t9)), (10, (.ptr t10)), (42, (.sl t42a t42l t42c)), (43, (.int .i64 t43)), (44, (.int .i64 t44))] S = x11_1_1_1_1_1_0_1_0_0_1_1_0_0_1_1_1_0_4 call n (r11_j1_1_1_1_1_0_1_0_0_1_1_1 call n m1_1_1_1_1_0_1_0) t50 t49a t49l t49c t1a t1l t1c t5 t9 t10 t42a t42l t42c t43 t44 S := by kernel_rfl
  rw [e, h11_j1_1_1_1_1_0_1_0_0_1_1_1 call n m1_1_1_1_1_0_1_0, h11_l1_1_1_1_1_0_1_0 call n m1_1_1_1_1_0_1_0]
def b12_entry (call : CallA) (n : Nat)   (x0 : List AV) (S : AS) : Option (AV × AS) :=
 ifO (x0.length = 2) <|
 newA S (.cells x0) fun b1 S2 =>
 newA S2 (.cells [(.int .i64 0), (.sl none 0 (.ex 0))]) fun b3 S4 =>
 newA S4 (.cells []) fun b5 S6 =>
 ldL S6 (.rw b1) 1 fun v7a v7l v7c =>
 appendA 2 16 S6 (some (.rw b5, 0)) 0 (.ex 0) v7l (firstA S6 2 v7l (.sl v7a v7l v7c)) fun v8a v8l v8c S9 =>
 S9.stn (.rw b1) 1 [(.sl v8a v8l v8c)] fun S10 =>
 S10.ldn (.rw b1) 0 2 fun g11 =>
 ifO (g11.length = 2) <|
 S10.stn (.rw b3) 0 g11 fun S12 =>
 S12.ldn (.rw b3) 0 2 fun g13 =>
 some ((.agg g13), S12)

theorem a12_entry (call : CallA) (n : Nat) (x0 : List AV) (S : AS) : evC E call n 12 (E.at 12 []) 0 (enumT 0 [(.agg x0)]) S (retK E (E.fn 12)) = b12_entry call n  x0 S := by kernel_rfl
def J12 (call : CallA) (n : Nat) (x0 : List AV) (S : AS) : Option (AV × AS) := b12_entry call n  x0 S
theorem run12 (o : Orc) (n : Nat) (args : List AV) (S : AS) (ho : o 12 args = none) : evF E o (n + 1) (.fn 12) args S = evC E (evF E o n) n 12 (E.at 12 []) 0 (enumT 0 args) S (retK E (E.fn 12)) := by
  rw [evF, ho]; kernel_rfl
theorem J12_eq (call : CallA) (n : Nat) (x0 : List AV) (S : AS) : evC E call n 12 (E.at 12 []) 0 (enumT 0 [(.agg x0)]) S (retK E (E.fn 12)) = J12 call n x0 S := by
  rw [J12, a12_entry]
theorem F12 {o : Orc} (n : Nat) (x0 : List AV) (S : AS) (ho : ∀ args, o 12 args = none) : evF E o (n + 1) (.fn 12) [(.agg x0)] S = J12 (evF E o n) n x0 S := (run12 o n [(.agg x0)] S (ho _)).trans (J12_eq _ _ x0 S)
def b13_l1_1_0_1_0 (call : CallA) (n : Nat)  (l1_1_0_1_0 : Option Pos → Nat → Cap → Option Pos → Nat → Cap → Bool → Int → AS → Option (AV × AS)) (w0a : Option Pos) (w0l : Nat) (w0c : Cap) (w1a : Option Pos) (w1l : Nat) (w1c : Cap) (w4 : Bool) (w5 : Int) (S : AS) : Option (AV × AS) :=
 cond (decide (w5 < ((w0l : Nat) : Int))) (
 ixSl 1 w0a w0l w5 fun p1 =>
 ldB S p1.1 p1.2 fun v2 =>
 ixSl 1 w1a w1l w5 fun p3 =>
 ldB S p3.1 p3.2 fun v4 =>
 cond (!(v2 == v4)) (
 some ((.bool false), S)) (
 l1_1_0_1_0 w0a w0l w0c w1a w1l w1c w4 (IntKind.wrap .i64 (w5 + 1)) S)) (
 some ((.bool true), S))

def b13_entry (call : CallA) (n : Nat)  (l1_1_0_1_0 : Option Pos → Nat → Cap → Option Pos → Nat → Cap → Bool → Int → AS → Option (AV × AS)) (x0a : Option Pos) (x0l : Nat) (x0c : Cap) (x1a : Option Pos) (x1l : Nat) (x1c : Cap) (S : AS) : Option (AV × AS) :=
 cond (((x0l : Nat) : Int) != ((x1l : Nat) : Int)) (
 some ((.bool false), S)) (
 l1_1_0_1_0 x0a x0l x0c x1a x1l x1c false 0 S)

def r13_l1_1_0_1_0 (call : CallA) (n : Nat)  (m : Nat) (w0a : Option Pos) (w0l : Nat) (w0c : Cap) (w1a : Option Pos) (w1l : Nat) (w1c : Cap) (w4 : Bool) (w5 : Int) (S : AS) : Option (AV × AS) := loopN (evC E call n 13 (E.at 13 [1, 1, 0, 1, 0, 0]) 0) [0, 1, 4, 5] m [(0, (.sl w0a w0l w0c)), (1, (.sl w1a w1l w1c)), (4, (.bool w4)), (5, (.int .i64 w5))] S (kBlk 0 (kSeq E call n 13 (E.at 13 [1, 1, 1]) 0 (retK E (E.fn 13))))
theorem a13_l1_1_0_1_0 (call : CallA) (n : Nat)  (m : Nat) (w0a : Option Pos) (w0l : Nat) (w0c : Cap) (w1a : Option Pos) (w1l : Nat) (w1c : Cap) (w4 : Bool) (w5 : Int) (S : AS) : r13_l1_1_0_1_0 call n  (m + 1) w0a w0l w0c w1a w1l w1c w4 w5 S = b13_l1_1_0_1_0 call n (r13_l1_1_0_1_0 call n  m) w0a w0l w0c w1a w1l w1c w4 w5 S := by kernel_rfl
theorem a13_entry (call : CallA) (n : Nat) (x0a : Option Pos) (x0l : Nat) (x0c : Cap) (x1a : Option Pos) (x1l : Nat) (x1c : Cap) (S : AS) : evC E call n 13 (E.at 13 []) 0 (enumT 0 [(.sl x0a x0l x0c), (.sl x1a x1l x1c)]) S (retK E (E.fn 13)) = b13_entry call n (r13_l1_1_0_1_0 call n  n) x0a x0l x0c x1a x1l x1c S := by kernel_rfl
def J13_l1_1_0_1_0 (call : CallA) (n : Nat)  (m : Nat) : Option Pos → Nat → Cap → Option Pos → Nat → Cap → Bool → Int → AS → Option (AV × AS) := Nat.rec (motive := fun _ => Option Pos → Nat → Cap → Option Pos → Nat → Cap → Bool → Int → AS → Option (AV × AS)) (fun _ _ _ _ _ _ _ _ _ => none) (fun mK ih w0a w0l w0c w1a w1l w1c w4 w5 S => b13_l1_1_0_1_0 call n ih w0a w0l w0c w1a w1l w1c w4 w5 S) m
theorem J13_l1_1_0_1_0_succ (call : CallA) (n : Nat)  (m : Nat) (w0a : Option Pos) (w0l : Nat) (w0c : Cap) (w1a : Option Pos) (w1l : Nat) (w1c : Cap) (w4 : Bool) (w5 : Int) (S : AS) : J13_l1_1_0_1_0 call n  (m + 1) w0a w0l w0c w1a w1l w1c w4 w5 S = b13_l1_1_0_1_0 call n (J13_l1_1_0_1_0 call n  m) w0a w0l w0c w1a w1l w1c w4 w5 S := rfl
theorem h13_l1_1_0_1_0 (call : CallA) (n : Nat)  (m : Nat) : r13_l1_1_0_1_0 call n  m = J13_l1_1_0_1_0 call n  m := by
  induction m with
  | zero => rfl
  | succ m ih =>
    funext w0a w0l w0c w1a w1l w1c w4 w5 S
    rw [J13_l1_1_0_1_0_succ, a13_l1_1_0_1_0, ih]
def J13 (call : CallA) (n : Nat) (x0a : Option Pos) (x0l : Nat) (x0c : Cap) (x1a : Option Pos) (x1l : Nat) (x1c : Cap) (S : AS) : Option (AV × AS) := b13_entry call n (J13_l1_1_0_1_0 call n  n) x0a x0l x0c x1a x1l x1c S
theorem run13 (o : Orc) (n : Nat) (args : List AV) (S : AS) (ho : o 13 args = none) : evF E o (n + 1) (.fn 13) args S = evC E (evF E o n) n 13 (E.at 13 []) 0 (enumT 0 args) S (retK E (E.fn 13)) := by
  rw [evF, ho]; kernel_rfl
theorem J13_eq (call : CallA) (n : Nat) (x0a : Option Pos) (x0l : Nat) (x0c : Cap) (x1a : Option Pos) (x1l : Nat) (x1c : Cap) (S : AS) : evC E call n 13 (E.at 13 []) 0 (enumT 0 [(.sl x0a x0l x0c), (.sl x1a x1l x1c)]) S (retK E (E.fn 13)) = J13 call n x0a x0l x0c x1a x1l x1c S := by
  rw [J13, a13_entry, h13_l1_1_0_1_0 call n  n]
theorem F13 {o : Orc} (n : Nat) (x0a : Option Pos) (x0l : Nat) (x0c : Cap) (x1a : Option Pos) (x1l : Nat) (x1c : Cap) (S : AS) (ho : ∀ args, o 13 args = none) : evF E o (n + 1) (.fn 13) [(.sl x0a x0l x0c), (.sl x1a x1l x1c)] S = J13 (evF E o n) n x0a x0l x0c x1a x1l x1c S := (run13 o n [(.sl x0a x0l x0c), (.sl x1a x1l x1c)] S (ho _)).trans (J13_eq _ _ x0a x0l x0c x1a x1l x1c S)
def b14_l1_1_1_0_1_0 (call : CallA) (n : Nat)  (l1_1_1_0_1_0_0_1_0_0_1_0_1_0 : Option Pos → Nat → Cap → Option Pos → Option Pos → Nat → Cap → Bool → Int → Bool → Int → AS → Option (AV × AS)) (w1a : Option Pos) (w1l : Nat) (w1c : Cap) (w2 : Option Pos) (w5a : Option Pos) (w5l : Nat) (w5c : Cap) (w6 : Bool) (w7 : Int) (S : AS) : Option (AV × AS) :=
 cond (decide (w7 < ((w1l : Nat) : Int))) (
 cond w6 (
 l1_1_1_0_1_0_0_1_0_0_1_0_1_0 w1a w1l w1c w2 w5a w5l w5c w6 w7 true 0 S) (
 gO w2 fun p6 =>
 ldI .i64 S p6.1 p6.2 fun v7 =>
 l1_1_1_0_1_0_0_1_0_0_1_0_1_0 w1a w1l w1c w2 w5a w5l w5c w6 w7 (decide ((IntKind.wrap .i64 (((w1l : Nat) : Int) - w7)) ≤ v7)) 0 S)) (
 some ((.sl w5a w5l w5c), S))

def b14_l1_1_1_0_1_0_0_1_0_0_1_0_1_0 (call : CallA) (n : Nat)  (l1_1_1_0_1_0_0_1_0_0_1_0_1_0 : Option Pos → Nat → Cap → Option Pos → Option Pos → Nat → Cap → Bool → Int → Bool → Int → AS → Option (AV × AS)) (l1_1_1_0_1_0 : Option Pos → Nat → Cap → Option Pos → Option Pos → Nat → Cap → Bool → Int → AS → Option (AV × AS)) (w1a : Option Pos) (w1l : Nat) (w1c : Cap) (w2 : Option Pos) (w5a : Option Pos) (w5l : Nat) (w5c : Cap) (w6 : Bool) (w7 : Int) (w8 : Bool) (w9 : Int) (S : AS) : Option (AV × AS) :=
 gO w2 fun p8 =>
 ldL S p8.1 (p8.2 + 1) fun v9a v9l v9c =>
 cond (decide (w9 < ((v9l : Nat) : Int))) (
 cond (!w6) (
 cond w8 (
 l1_1_1_0_1_0_0_1_0_0_1_0_1_0 w1a w1l w1c w2 w5a w5l w5c w6 w7 true (IntKind.wrap .i64 (w9 + 1)) S) (
 gO w2 fun p10 =>
 ldL S p10.1 (p10.2 + 1) fun v11a v11l v11c =>
 ixSl 2 v11a v11l w9 fun p12 =>
 S.ldn p12.1 p12.2 2 fun g13 =>
 callB call 35 [(.agg g13), (.sl w1a w1l w1c), (.int .i64 w7)] S fun v15 S14 =>
 l1_1_1_0_1_0_0_1_0_0_1_0_1_0 w1a w1l w1c w2 w5a w5l w5c w6 w7 v15 (IntKind.wrap .i64 (w9 + 1)) S14)) (
 newA S (.cells [(.bool w8)]) fun b16 S17 =>
 appendA 1 1 S17 w5a w5l w5c 1 (firstA S17 1 1 (.sl (some (.rw b16, 0)) 1 (.ex 1))) fun v18a v18l v18c S19 =>
 l1_1_1_0_1_0 w1a w1l w1c w2 v18a v18l v18c w6 (IntKind.wrap .i64 (w7 + 1)) S19)) (
 newA S (.cells [(.bool w8)]) fun b20 S21 =>
 appendA 1 1 S21 w5a w5l w5c 1 (firstA S21 1 1 (.sl (some (.rw b20, 0)) 1 (.ex 1))) fun v22a v22l v22c S23 =>
 l1_1_1_0_1_0 w1a w1l w1c w2 v22a v22l v22c w6 (IntKind.wrap .i64 (w7 + 1)) S23)

def b14_entry (call : CallA) (n : Nat)  (l1_1_1_0_1_0 : Option Pos → Nat → Cap → Option Pos → Option Pos → Nat → Cap → Bool → Int → AS → Option (AV × AS)) (x0 : List AV) (x1a : Option Pos) (x1l : Nat) (x1c : Cap) (S : AS) : Option (AV × AS) :=
 ifO (x0.length = 2) <|
 newA S (.cells x0) fun b1 S2 =>
 S2.ldn (.rw b1) 0 2 fun g3 =>
 callI .i64 call 17 [(.agg g3)] S2 fun v5 S4 =>
 l1_1_1_0_1_0 x1a x1l x1c (some ((.rw b1), 0)) none 0 (.ex 0) (v5 != 0) 0 S4

def r14_l1_1_1_0_1_0 (call : CallA) (n : Nat)  (m : Nat) (w1a : Option Pos) (w1l : Nat) (w1c : Cap) (w2 : Option Pos) (w5a : Option Pos) (w5l : Nat) (w5c : Cap) (w6 : Bool) (w7 : Int) (S : AS) : Option (AV × AS) := loopN (evC E call n 14 (E.at 14 [1, 1, 1, 0, 1, 0, 0]) 0) [1, 2, 5, 6, 7] m [(1, (.sl w1a w1l w1c)), (2, (.ptr w2)), (5, (.sl w5a w5l w5c)), (6, (.bool w6)), (7, (.int .i64 w7))] S (kBlk 0 (kSeq E call n 14 (E.at 14 [1, 1, 1, 1]) 0 (retK E (E.fn 14))))
def r14_l1_1_1_0_1_0_0_1_0_0_1_0_1_0 (call : CallA) (n : Nat) (m1_1_1_0_1_0 : Nat) (m : Nat) (w1a : Option Pos) (w1l : Nat) (w1c : Cap) (w2 : Option Pos) (w5a : Option Pos) (w5l : Nat) (w5c : Cap) (w6 : Bool) (w7 : Int) (w8 : Bool) (w9 : Int) (S : AS) : Option (AV × AS) := loopN (evC E call n 14 (E.at 14 [1, 1, 1, 0, 1, 0, 0, 1, 0, 0, 1, 0, 1, 0, 0]) 2) [1, 2, 5, 6, 7, 8, 9] m [(1, (.sl w1a w1l w1c)), (2, (.ptr w2)), (5, (.sl w5a w5l w5c)), (6, (.bool w6)), (7, (.int .i64 w7)), (8, (.bool w8)), (9, (.int .i64 w9))] S (kBlk 2 (kSeq E call n 14 (E.at 14 [1, 1, 1, 0, 1, 0, 0, 1, 0, 0, 1, 1]) 1 (kBlk 1 (kSeq E call n 14 (E.at 14 [1, 1, 1, 0, 1, 0, 0, 1, 1]) 0 (kLp (evC E call n 14 (E.at 14 [1, 1, 1, 0, 1, 0, 0]) 0) [1, 2, 5, 6, 7] m1_1_1_0_1_0 (kBlk 0 (kSeq E call n 14 (E.at 14 [1, 1, 1, 1]) 0 (retK E (E.fn 14)))))))))
theorem a14_l1_1_1_0_1_0 (call : CallA) (n : Nat)  (m : Nat) (w1a : Option Pos) (w1l : Nat) (w1c : Cap) (w2 : Option Pos) (w5a : Option Pos) (w5l : Nat) (w5c : Cap) (w6 : Bool) (w7 : Int) (S : AS) : r14_l1_1_1_0_1_0 call n  (m + 1) w1a w1l w1c w2 w5a w5l w5c w6 w7 S = b14_l1_1_1_0_1_0 call n (r14_l1_1_1_0_1_0_0_1_0_0_1_0_1_0 call n m n) w1a w1l w1c w2 w5a w5l w5c w6 w7 S := by kernel_rfl
theorem a14_l1_1_1_0_1_0_0_1_0_0_1_0_1_0 (call : CallA) (n : Nat) (m1_1_1_0_1_0 : Nat) (m : Nat) (w1a : Option Pos) (w1l : Nat) (w1c : Cap) (w2 : Option Pos) (w5a : Option Pos) (w5l : Nat) (w5c : Cap) (w6 : Bool) (w7 : Int) (w8 : Bool) (w9 : Int) (S : AS) : r14_l1_1_1_0_1_0_0_1_0_0_1_0_1_0 call n m1_1_1_0_1_0 (m + 1) w1a w1l w1c w2 w5a w5l w5c w6 w7 w8 w9 S = b14_l1_1_1_0_1_0_0_1_0_0_1_0_1_0 call n (r14_l1_1_1_0_1_0_0_1_0_0_1_0_1_0 call n m1_1_1_0_1_0 m) (r14_l1_1_1_0_1_0 call n  m1_1_1_0_1_0) w1a w1l w1c w2 w5a w5l w5c w6 w7 w8 w9 S := by kernel_rfl
theorem a14_entry (call : CallA) (n : Nat) (x0 : List AV) (x1a : Option Pos) (x1l : Nat) (x1c : Cap) (S : AS) : evC E call n 14 (E.at 14 []) 0 (enumT 0 [(.agg x0), (.sl x1a x1l x1c)]) S (retK E (E.fn 14)) = b14_entry call n (r14_l1_1_1_0_1_0 call n  n) x0 x1a x1l x1c S := by kernel_rfl
def J14_l1_1_1_0_1_0_0_1_0_0_1_0_1_0 (call : CallA) (n : Nat) (n1_1_1_0_1_0 : Option Pos → Nat → Cap → Option Pos → Option Pos → Nat → Cap → Bool → Int → AS → Option (AV × AS)) (m : Nat) : Option Pos → Nat → Cap → Option Pos → Option Pos → Nat → Cap → Bool → Int → Bool → Int → AS → Option (AV × AS) := Nat.rec (motive := fun _ => Option Pos → Nat → Cap → Option Pos → Option Pos → Nat → Cap → Bool → Int → Bool → Int → AS → Option (AV × AS)) (fun _ _ _ _ _ _ _ _ _ _ _ _ => none) (fun mK ih w1a w1l w1c w2 w5a w5l w5c w6 w7 w8 w9 S => b14_l1_1_1_0_1_0_0_1_0_0_1_0_1_0 call n ih n1_1_1_0_1_0 w1a w1l w1c w2 w5a w5l w5c w6 w7 w8 w9 S) m
theorem J14_l1_1_1_0_1_0_0_1_0_0_1_0_1_0_succ (call : CallA) (n : Nat) (n1_1_1_0_1_0 : Option Pos → Nat → Cap → Option Pos → Option Pos → Nat → Cap → Bool → Int → AS → Option (AV × AS)) (m : Nat) (w1a : Option Pos) (w1l : Nat) (w1c : Cap) (w2 : Option Pos) (w5a : Option Pos) (w5l : Nat) (w5c : Cap) (w6 : Bool) (w7 : Int) (w8 : Bool) (w9 : Int) (S : AS) : J14_l1_1_1_0_1_0_0_1_0_0_1_0_1_0 call n n1_1_1_0_1_0 (m + 1) w1a w1l w1c w2 w5a w5l w5c w6 w7 w8 w9 S = b14_l1_1_1_0_1_0_0_1_0_0_1_0_1_0 call n (J14_l1_1_1_0_1_0_0_1_0_0_1_0_1_0 call n n1_1_1_0_1_0 m) n1_1_1_0_1_0 w1a w1l w1c w2 w5a w5l w5c w6 w7 w8 w9 S := rfl
theorem h14_l1_1_1_0_1_0_0_1_0_0_1_0_1_0 (call : CallA) (n : Nat) (m1_1_1_0_1_0 : Nat) (m : Nat) : r14_l1_1_1_0_1_0_0_1_0_0_1_0_1_0 call n m1_1_1_0_1_0 m = J14_l1_1_1_0_1_0_0_1_0_0_1_0_1_0 call n (r14_l1_1_1_0_1_0 call n  m1_1_1_0_1_0) m := by
  induction m with
  | zero => rfl
  | succ m ih =>
    funext w1a w1l w1c w2 w5a w5l w5c w6 w7 w8 w9 S
    rw [J14_l1_1_1_0_1_0_0_1_0_0_1_0_1_0_succ, a14_l1_1_1_0_1_0_0_1_0_0_1_0_1_0, ih]
def J14_l1_1_1_0_1_0 (call : CallA) (n : Nat)  (m : Nat) : Option Pos → Nat → Cap → Option Pos → Option Pos → Nat → Cap → Bool → Int → AS → Option (AV × AS) := Nat.rec (motive := fun _ => Option Pos → Nat → Cap → Option Pos → Option Pos → Nat → Cap → Bool → Int → AS → Option (AV × AS)) (fun _ _ _ _ _ _ _ _ _ _ => none) (fun mK ih w1a w1l w1c w2 w5a w5l w5c w6 w7 S => b14_l1_1_1_0_1_0 call n (J14_l1_1_1_0_1_0_0_1_0_0_1_0_1_0 call n ih n) w1a w1l w1c w2 w5a w5l w5c w6 w7 S) m
theorem J14_l1_1_1_0_1_0_succ (call : CallA) (n : Nat)  (m : Nat) (w1a : Option Pos) (w1l : Nat) (w1c : Cap) (w2 : Option Pos) (w5a : Option Pos) (w5l : Nat) (w5c : Cap) (w6 : Bool) (w7 : Int) (S : AS) : J14_l1_1_1_0_1_0 call n  (m + 1) w1a w1l w1c w2 w5a w5l w5c w6 w7 S = b14_l1_1_1_0_1_0 call n (J14_l1_1_1_0_1_0_0_1_0_0_1_0_1_0 call n (J14_l1_1_1_0_1_0 call n  m) n) w1a w1l w1c w2 w5a w5l w5c w6 w7 S := rfl
theorem h14_l1_1_1_0_1_0 (call : CallA) (n : Nat)  (m : Nat) : r14_l1_1_1_0_1_0 call n  m = J14_l1_1_1_0_1_0 call n  m := by
  induction m with
  | zero => rfl
  | succ m ih =>
    funext w1a w1l w1c w2 w5a w5l w5c w6 w7 S
    rw [J14_l1_1_1_0_1_0_succ, a14_l1_1_1_0_1_0, h14_l1_1_1_0_1_0_0_1_0_0_1_0_1_0 call n m n, ih]
def J14 (call : CallA) (n : Nat) (x0 : List AV) (x1a : Option Pos) (x1l : Nat) (x1c : Cap) (S : AS) : Option (AV × AS) := b14_entry call n (J14_l1_1_1_0_1_0 call n  n) x0 x1a x1l x1c S
theorem run14 (o : Orc) (n : Nat) (args : List AV) (S : AS) (ho : o 14 args = none) : evF E o (n + 1) (.fn 14) args S = evC E (evF E o n) n 14 (E.at 14 []) 0 (enumT 0 args) S (retK E (E.fn 14)) := by
  rw [evF, ho]; kernel_rfl
theorem J14_eq (call : CallA) (n : Nat) (x0 : List AV) (x1a : Option Pos) (x1l : Nat) (x1c : Cap) (S : AS) : evC E call n 14 (E.at 14 []) 0 (enumT 0 [(.agg x0), (.sl x1a x1l x1c)]) S (retK E (E.fn 14)) = J14 call n x0 x1a x1l x1c S := by
  rw [J14, a14_entry, h14_l1_1_1_0_1_0 call n  n]
theorem F14 {o : Orc} (n : Nat) (x0 : List AV) (x1a : Option Pos) (x1l : Nat) (x1c : Cap) (S : AS) (ho : ∀ args, o 14 args = none) : evF E o (n + 1) (.fn 14) [(.agg x0), (.sl x1a x1l x1c)] S = J14 (evF E o n) n x0 x1a x1l x1c S := (run14 o n [(.agg x0), (.sl x1a x1l x1c)] S (ho _)).trans (J14_eq _ _ x0 x1a x1l x1c S)
def b15_entry (call : CallA) (n : Nat)   (x0 : Int) (S : AS) : Option (AV × AS) :=
 some ((.int .i64 x0), S)

theorem a15_entry (call : CallA) (n : Nat) (x0 : Int) (S : AS) : evC E call n 15 (E.at 15 []) 0 (enumT 0 [(.int .i64 x0)]) S (retK E (E.fn 15)) = b15_entry call n  x0 S := by kernel_rfl
def J15 (call : CallA) (n : Nat) (x0 : Int) (S : AS) : Option (AV × AS) := b15_entry call n  x0 S
theorem run15 (o : Orc) (n : Nat) (args : List AV) (S : AS) (ho : o 15 args = none) : evF E o (n + 1) (.fn 15) args S = evC E (evF E o n) n 15 (E.at 15 []) 0 (enumT 0 args) S (retK E (E.fn 15)) := by
  rw [evF, ho]; kernel_rfl
theorem J15_eq (call : CallA) (n : Nat) (x0 : Int) (S : AS) : evC E call n 15 (E.at 15 []) 0 (enumT 0 [(.int .i64 x0)]) S (retK E (E.fn 15)) = J15 call n x0 S := by
  rw [J15, a15_entry]
theorem F15 {o : Orc} (n : Nat) (x0 : Int) (S : AS) (ho : ∀ args, o 15 args = none) : evF E o (n + 1) (.fn 15) [(.int .i64 x0)] S = J15 (evF E o n) n x0 S := (run15 o n [(.int .i64 x0)] S (ho _)).trans (J15_eq _ _ x0 S)
def b16_l1_1_0_1_0 (call : CallA) (n : Nat)  (l1_1_0_1_0 : Int → Option Pos → Nat → Cap → Int → Int → AS → Option (AV × AS)) (w2 : Int) (w15a : Option Pos) (w15l : Nat) (w15c : Cap) (w16 : Int) (w17 : Int) (S : AS) : Option (AV × AS) :=
 cond (decide (w17 < w16)) (
 ixSl 2 w15a w15l w17 fun p6 =>
 S.ldn p6.1 p6.2 2 fun g7 =>
 newA S (.cells [(.int .u64 0), (.int .i64 0)]) fun b8 S9 =>
 ifO (g7.length = 2) <|
 S9.stn (.rw b8) 0 g7 fun S10 =>
 ldI .u64 S10 (.rw b8) 0 fun v11 =>
 cond (v11 == 0) (
 some ((.int .i64 180), S10)) (
 ldI .i64 S10 (.rw b8) 1 fun v12 =>
 cond (decide (v12 < 0)) (
 some ((.int .i64 180), S10)) (
 l1_1_0_1_0 w2 w15a w15l w15c w16 (IntKind.wrap .i64 (w17 + 1)) S10))) (
 some ((.int .i64 0), S))

def b16_entry (call : CallA) (n : Nat)  (l1_1_0_1_0 : Int → Option Pos → Nat → Cap → Int → Int → AS → Option (AV × AS)) (x0 : List AV) (S : AS) : Option (AV × AS) :=
 ifO (x0.length = 2) <|
 newA S (.cells x0) fun b1 S2 =>
 ldI .i64 S2 (.rw b1) 0 fun v3 =>
 cond (decide (v3 < 0)) (
 some ((.int .i64 180), S2)) (
 ldL S2 (.rw b1) 1 fun v4a v4l v4c =>
 cond (decide (((v4l : Nat) : Int) > 8)) (
 some ((.int .i64 180), S2)) (
 ldL S2 (.rw b1) 1 fun v5a v5l v5c =>
 l1_1_0_1_0 0 v5a v5l v5c ((v5l : Nat) : Int) 0 S2))

def r16_l1_1_0_1_0 (call : CallA) (n : Nat)  (m : Nat) (w2 : Int) (w15a : Option Pos) (w15l : Nat) (w15c : Cap) (w16 : Int) (w17 : Int) (S : AS) : Option (AV × AS) := loopN (evC E call n 16 (E.at 16 [1, 1, 0, 1, 0, 0]) 0) [2, 15, 16, 17] m [(2, (.int .i64 w2)), (15, (.sl w15a w15l w15c)), (16, (.int .i64 w16)), (17, (.int .i64 w17))] S (kBlk 0 (kSeq E call n 16 (E.at 16 [1, 1, 1]) 0 (retK E (E.fn 16))))
theorem a16_l1_1_0_1_0 (call : CallA) (n : Nat)  (m : Nat) (w2 : Int) (w15a : Option Pos) (w15l : Nat) (w15c : Cap) (w16 : Int) (w17 : Int) (S : AS) : r16_l1_1_0_1_0 call n  (m + 1) w2 w15a w15l w15c w16 w17 S = b16_l1_1_0_1_0 call n (r16_l1_1_0_1_0 call n  m) w2 w15a w15l w15c w16 w17 S := by kernel_rfl
theorem a16_entry (call : CallA) (n : Nat) (x0 : List AV) (S : AS) : evC E call n 16 (E.at 16 []) 0 (enumT 0 [(.agg x0)]) S (retK E (E.fn 16)) = b16_entry call n (r16_l1_1_0_1_0 call n  n) x0 S := by kernel_rfl
def J16_l1_1_0_1_0 (call : CallA) (n : Nat)  (m : Nat) : Int → Option Pos → Nat → Cap → Int → Int → AS → Option (AV × AS) := Nat.rec (motive := fun _ => Int → Option Pos → Nat → Cap → Int → Int → AS → Option (AV × AS)) (fun _ _ _ _ _ _ _ => none) (fun mK ih w2 w15a w15l w15c w16 w17 S => b16_l1_1_0_1_0 call n ih w2 w15a w15l w15c w16 w17 S) m
theorem J16_l1_1_0_1_0_succ (call : CallA) (n : Nat)  (m : Nat) (w2 : Int) (w15a : Option Pos) (w15l : Nat) (w15c : Cap) (w16 : Int) (w17 : Int) (S : AS) : J16_l1_1_0_1_0 call n  (m + 1) w2 w15a w15l w15c w16 w17 S = b16_l1_1_0_1_0 call n (J16_l1_1_0_1_0 call n  m) w2 w15a w15l w15c w16 w17 S := rfl
theorem h16_l1_1_0_1_0 (call : CallA) (n : Nat)  (m : Nat) : r16_l1_1_0_1_0 call n  m = J16_l1_1_0_1_0 call n  m := by
  induction m with
  | zero => rfl
  | succ m ih =>
    funext w2 w15a w15l w15c w16 w17 S
    rw [J16_l1_1_0_1_0_succ, a16_l1_1_0_1_0, ih]
def J16 (call : CallA) (n : Nat) (x0 : List AV) (S : AS) : Option (AV × AS) := b16_entry call n (J16_l1_1_0_1_0 call n  n) x0 S
theorem run16 (o : Orc) (n : Nat) (args : List AV) (S : AS) (ho : o 16 args = none) : evF E o (n + 1) (.fn 16) args S = evC E (evF E o n) n 16 (E.at 16 []) 0 (enumT 0 args) S (retK E (E.fn 16)) := by
  rw [evF, ho]; kernel_rfl
theorem J16_eq (call : CallA) (n : Nat) (x0 : List AV) (S : AS) : evC E call n 16 (E.at 16 []) 0 (enumT 0 [(.agg x0)]) S (retK E (E.fn 16)) = J16 call n x0 S := by
  rw [J16, a16_entry, h16_l1_1_0_1_0 call n  n]
theorem F16 {o : Orc} (n : Nat) (x0 : List AV) (S : AS) (ho : ∀ args, o 16 args = none) : evF E o (n + 1) (.fn 16) [(.agg x0)] S = J16 (evF E o n) n x0 S := (run16 o n [(.agg x0)] S (ho _)).trans (J16_eq _ _ x0 S)
def b17_l1_1_0_1_0 (call : CallA) (n : Nat)  (l1_1_0_1_0 : Option Pos → Int → Int → AS → Option (AV × AS)) (w1 : Option Pos) (w2 : Int) (w3 : Int) (S : AS) : Option (AV × AS) :=
 gO w1 fun p5 =>
 ldL S p5.1 (p5.2 + 1) fun v6a v6l v6c =>
 cond (decide (w3 < ((v6l : Nat) : Int))) (
 gO w1 fun p7 =>
 ldL S p7.1 (p7.2 + 1) fun v8a v8l v8c =>
 ixSl 2 v8a v8l w3 fun p9 =>
 ldI .u64 S p9.1 p9.2 fun v10 =>
 cond (v10 == 0) (
 some ((.int .i64 180), S)) (
 gO w1 fun p11 =>
 ldL S p11.1 (p11.2 + 1) fun v12a v12l v12c =>
 ixSl 2 v12a v12l w3 fun p13 =>
 ldI .i64 S p13.1 (p13.2 + 1) fun v14 =>
 cond (decide (v14 < 0)) (
 some ((.int .i64 180), S)) (
 l1_1_0_1_0 w1 w2 (IntKind.wrap .i64 (w3 + 1)) S))) (
 some ((.int .i64 0), S))

def b17_entry (call : CallA) (n : Nat)  (l1_1_0_1_0 : Option Pos → Int → Int → AS → Option (AV × AS)) (x0 : List AV) (S : AS) : Option (AV × AS) :=
 ifO (x0.length = 2) <|
 newA S (.cells x0) fun b1 S2 =>
 ldI .i64 S2 (.rw b1) 0 fun v3 =>
 cond (decide (v3 < 0)) (
 some ((.int .i64 180), S2)) (
 ldL S2 (.rw b1) 1 fun v4a v4l v4c =>
 cond (decide (((v4l : Nat) : Int) > 8)) (
 some ((.int .i64 180), S2)) (
 l1_1_0_1_0 (some ((.rw b1), 0)) 0 0 S2))

def r17_l1_1_0_1_0 (call : CallA) (n : Nat)  (m : Nat) (w1 : Option Pos) (w2 : Int) (w3 : Int) (S : AS) : Option (AV × AS) := loopN (evC E call n 17 (E.at 17 [1, 1, 0, 1, 0, 0]) 0) [1, 2, 3] m [(1, (.ptr w1)), (2, (.int .i64 w2)), (3, (.int .i64 w3))] S (kBlk 0 (kSeq E call n 17 (E.at 17 [1, 1, 1]) 0 (retK E (E.fn 17))))
theorem a17_l1_1_0_1_0 (call : CallA) (n : Nat)  (m : Nat) (w1 : Option Pos) (w2 : Int) (w3 : Int) (S : AS) : r17_l1_1_0_1_0 call n  (m + 1) w1 w2 w3 S = b17_l1_1_0_1_0 call n (r17_l1_1_0_1_0 call n  m) w1 w2 w3 S := by kernel_rfl
theorem a17_entry (call : CallA) (n : Nat) (x0 : List AV) (S : AS) : evC E call n 17 (E.at 17 []) 0 (enumT 0 [(.agg x0)]) S (retK E (E.fn 17)) = b17_entry call n (r17_l1_1_0_1_0 call n  n) x0 S := by kernel_rfl
def J17_l1_1_0_1_0 (call : CallA) (n : Nat)  (m : Nat) : Option Pos → Int → Int → AS → Option (AV × AS) := Nat.rec (motive := fun _ => Option Pos → Int → Int → AS → Option (AV × AS)) (fun _ _ _ _ => none) (fun mK ih w1 w2 w3 S => b17_l1_1_0_1_0 call n ih w1 w2 w3 S) m
theorem J17_l1_1_0_1_0_succ (call : CallA) (n : Nat)  (m : Nat) (w1 : Option Pos) (w2 : Int) (w3 : Int) (S : AS) : J17_l1_1_0_1_0 call n  (m + 1) w1 w2 w3 S = b17_l1_1_0_1_0 call n (J17_l1_1_0_1_0 call n  m) w1 w2 w3 S := rfl
theorem h17_l1_1_0_1_0 (call : CallA) (n : Nat)  (m : Nat) : r17_l1_1_0_1_0 call n  m = J17_l1_1_0_1_0 call n  m := by
  induction m with
  | zero => rfl
  | succ m ih =>
    funext w1 w2 w3 S
    rw [J17_l1_1_0_1_0_succ, a17_l1_1_0_1_0, ih]
def J17 (call : CallA) (n : Nat) (x0 : List AV) (S : AS) : Option (AV × AS) := b17_entry call n (J17_l1_1_0_1_0 call n  n) x0 S
theorem run17 (o : Orc) (n : Nat) (args : List AV) (S : AS) (ho : o 17 args = none) : evF E o (n + 1) (.fn 17) args S = evC E (evF E o n) n 17 (E.at 17 []) 0 (enumT 0 args) S (retK E (E.fn 17)) := by
  rw [evF, ho]; kernel_rfl
theorem J17_eq (call : CallA) (n : Nat) (x0 : List AV) (S : AS) : evC E call n 17 (E.at 17 []) 0 (enumT 0 [(.agg x0)]) S (retK E (E.fn 17)) = J17 call n x0 S := by
  rw [J17, a17_entry, h17_l1_1_0_1_0 call n  n]
theorem F17 {o : Orc} (n : Nat) (x0 : List AV) (S : AS) (ho : ∀ args, o 17 args = none) : evF E o (n + 1) (.fn 17) [(.agg x0)] S = J17 (evF E o n) n x0 S := (run17 o n [(.agg x0)] S (ho _)).trans (J17_eq _ _ x0 S)
def b18_entry (call : CallA) (n : Nat)    (S : AS) : Option (AV × AS) :=
 newA S (.cells [(.sl none 0 (.ex 0)), (.int .u64 0), (.int .u64 0)]) fun b1 S2 =>
 some ((.ptr (some ((.rw b1), 0))), S2)

theorem a18_entry (call : CallA) (n : Nat)  (S : AS) : evC E call n 18 (E.at 18 []) 0 (enumT 0 []) S (retK E (E.fn 18)) = b18_entry call n   S := by kernel_rfl
def J18 (call : CallA) (n : Nat)  (S : AS) : Option (AV × AS) := b18_entry call n   S
theorem run18 (o : Orc) (n : Nat) (args : List AV) (S : AS) (ho : o 18 args = none) : evF E o (n + 1) (.fn 18) args S = evC E (evF E o n) n 18 (E.at 18 []) 0 (enumT 0 args) S (retK E (E.fn 18)) := by
  rw [evF, ho]; kernel_rfl
theorem J18_eq (call : CallA) (n : Nat)  (S : AS) : evC E call n 18 (E.at 18 []) 0 (enumT 0 []) S (retK E (E.fn 18)) = J18 call n  S := by
  rw [J18, a18_entry]
theorem F18 {o : Orc} (n : Nat)  (S : AS) (ho : ∀ args, o 18 args = none) : evF E o (n + 1) (.fn 18) [] S = J18 (evF E o n) n  S := (run18 o n [] S (ho _)).trans (J18_eq _ _  S)
def b19_entry (call : CallA) (n : Nat)   (x0 : Option Pos) (x1 : Int) (x2 : List UInt8) (x3 : Int) (S : AS) : Option (AV × AS) :=
 cond x0.isNone (
 some (.tup [(.int .u32 0), (.int .i64 7)], S)) (
 cond (((x2.length : Nat) : Int) != 32) (
 some (.tup [(.int .u32 0), (.int .i64 2)], S)) (
 gO x0 fun p1 =>
 ldI .u64 S p1.1 (p1.2 + 1) fun v2 =>
 cond (decide (v2 > 0)) (
 gO x0 fun p3 =>
 ldI .u64 S p3.1 (p3.2 + 2) fun v4 =>
 cond (decide (x1 ≤ v4)) (
 some (.tup [(.int .u32 0), (.int .i64 182)], S)) (
 gO x0 fun p5 =>
 ldL S p5.1 p5.2 fun v6a v6l v6c =>
 cond (decide (((v6l : Nat) : Int) ≥ 256)) (
 some (.tup [(.int .u32 0), (.int .i64 5)], S)) (
 gO x0 fun p7 =>
 ldI .u64 S p7.1 (p7.2 + 1) fun v8 =>
 cond (decide (v8 ≥ 4294967295)) (
 some (.tup [(.int .u32 0), (.int .i64 5)], S)) (
 gO x0 fun p9 =>
 ldI .u64 S p9.1 (p9.2 + 1) fun v10 =>
 gO x0 fun p11 =>
 S.stn p11.1 (p11.2 + 1) [(.int .u64 (IntKind.wrap .u64 (v10 + 1)))] fun S12 =>
 gO x0 fun p13 =>
 S12.stn p13.1 (p13.2 + 2) [(.int .u64 x1)] fun S14 =>
 drawA S14 19 fun b15 S16 =>
 gO x0 fun p17 =>
 ldL S16 p17.1 p17.2 fun v18a v18l v18c =>
 gO x0 fun p19 =>
 ldI .u64 S16 p19.1 (p19.2 + 1) fun v20 =>
 layA S16 (b15 + 14) (.cells [(.int .u32 (IntKind.wrap .u32 v20)), (.int .u64 x1), (.str x2), (.int .u64 x3)]) fun S21 =>
 appendA 4 40 S21 v18a v18l v18c 1 (firstA S21 4 1 (.sl (some (.rw (b15 + 14), 0)) 1 (.ex 1))) fun v22a v22l v22c S23 =>
 gO x0 fun p24 =>
 S23.stn p24.1 p24.2 [(.sl v22a v22l v22c)] fun S25 =>
 gO x0 fun p26 =>
 ldI .u64 S25 p26.1 (p26.2 + 1) fun v27 =>
 some (.tup [(.int .u32 (IntKind.wrap .u32 v27)), (.int .i64 0)], S25))))) (
 gO x0 fun p28 =>
 ldL S p28.1 p28.2 fun v29a v29l v29c =>
 cond (decide (((v29l : Nat) : Int) ≥ 256)) (
 some (.tup [(.int .u32 0), (.int .i64 5)], S)) (
 gO x0 fun p30 =>
 ldI .u64 S p30.1 (p30.2 + 1) fun v31 =>
 cond (decide (v31 ≥ 4294967295)) (
 some (.tup [(.int .u32 0), (.int .i64 5)], S)) (
 gO x0 fun p32 =>
 ldI .u64 S p32.1 (p32.2 + 1) fun v33 =>
 gO x0 fun p34 =>
 S.stn p34.1 (p34.2 + 1) [(.int .u64 (IntKind.wrap .u64 (v33 + 1)))] fun S35 =>
 gO x0 fun p36 =>
 S35.stn p36.1 (p36.2 + 2) [(.int .u64 x1)] fun S37 =>
 drawA S37 19 fun b38 S39 =>
 gO x0 fun p40 =>
 ldL S39 p40.1 p40.2 fun v41a v41l v41c =>
 gO x0 fun p42 =>
 ldI .u64 S39 p42.1 (p42.2 + 1) fun v43 =>
 layA S39 (b38 + 14) (.cells [(.int .u32 (IntKind.wrap .u32 v43)), (.int .u64 x1), (.str x2), (.int .u64 x3)]) fun S44 =>
 appendA 4 40 S44 v41a v41l v41c 1 (firstA S44 4 1 (.sl (some (.rw (b38 + 14), 0)) 1 (.ex 1))) fun v45a v45l v45c S46 =>
 gO x0 fun p47 =>
 S46.stn p47.1 p47.2 [(.sl v45a v45l v45c)] fun S48 =>
 gO x0 fun p49 =>
 ldI .u64 S48 p49.1 (p49.2 + 1) fun v50 =>
 some (.tup [(.int .u32 (IntKind.wrap .u32 v50)), (.int .i64 0)], S48))))))

theorem a19_entry (call : CallA) (n : Nat) (x0 : Option Pos) (x1 : Int) (x2 : List UInt8) (x3 : Int) (S : AS) : evC E call n 19 (E.at 19 []) 0 (enumT 0 [(.ptr x0), (.int .u64 x1), (.str x2), (.int .u64 x3)]) S (retK E (E.fn 19)) = b19_entry call n  x0 x1 x2 x3 S := by kernel_rfl
def J19 (call : CallA) (n : Nat) (x0 : Option Pos) (x1 : Int) (x2 : List UInt8) (x3 : Int) (S : AS) : Option (AV × AS) := b19_entry call n  x0 x1 x2 x3 S
theorem run19 (o : Orc) (n : Nat) (args : List AV) (S : AS) (ho : o 19 args = none) : evF E o (n + 1) (.fn 19) args S = evC E (evF E o n) n 19 (E.at 19 []) 0 (enumT 0 args) S (retK E (E.fn 19)) := by
  rw [evF, ho]; kernel_rfl
theorem J19_eq (call : CallA) (n : Nat) (x0 : Option Pos) (x1 : Int) (x2 : List UInt8) (x3 : Int) (S : AS) : evC E call n 19 (E.at 19 []) 0 (enumT 0 [(.ptr x0), (.int .u64 x1), (.str x2), (.int .u64 x3)]) S (retK E (E.fn 19)) = J19 call n x0 x1 x2 x3 S := by
  rw [J19, a19_entry]
theorem F19 {o : Orc} (n : Nat) (x0 : Option Pos) (x1 : Int) (x2 : List UInt8) (x3 : Int) (S : AS) (ho : ∀ args, o 19 args = none) : evF E o (n + 1) (.fn 19) [(.ptr x0), (.int .u64 x1), (.str x2), (.int .u64 x3)] S = J19 (evF E o n) n x0 x1 x2 x3 S := (run19 o n [(.ptr x0), (.int .u64 x1), (.str x2), (.int .u64 x3)] S (ho _)).trans (J19_eq _ _ x0 x1 x2 x3 S)
def b20_l1_1_0_1_0 (call : CallA) (n : Nat)  (l1_1_0_1_0 : Int → Option Pos → Nat → Cap → Int → AS → Option (AV × AS)) (j1_1_1 : Option Pos → Nat → Cap → AS → Option (AV × AS)) (w0 : Int) (w3a : Option Pos) (w3l : Nat) (w3c : Cap) (w4 : Int) (S : AS) : Option (AV × AS) :=
 cond (decide (w4 < ((w3l : Nat) : Int))) (
 ixSl 1 w3a w3l w4 fun p5 =>
 S.stn p5.1 p5.2 [(.int .u8 w0)] fun S6 =>
 l1_1_0_1_0 w0 w3a w3l w3c (IntKind.wrap .i64 (w4 + 1)) S6) (
 j1_1_1 w3a w3l w3c S)

def b20_j1_1_1 (call : CallA) (n : Nat)   (w3a : Option Pos) (w3l : Nat) (w3c : Cap) (S : AS) : Option (AV × AS) :=
 bytesStr S w3a w3l fun s7 =>
 some ((.str s7), S)

def b20_entry (call : CallA) (n : Nat)  (l1_1_0_1_0 : Int → Option Pos → Nat → Cap → Int → AS → Option (AV × AS)) (x0 : Int) (S : AS) : Option (AV × AS) :=
 mkSl 1 32 32 fun l3 c4 =>
 newA S (.cells (zeros c4 [(.int .u8 0)])) fun b1 S2 =>
 l1_1_0_1_0 x0 (some (.rw b1, 0)) l3 (.ex c4) 0 S2

def r20_l1_1_0_1_0 (call : CallA) (n : Nat)  (m : Nat) (w0 : Int) (w3a : Option Pos) (w3l : Nat) (w3c : Cap) (w4 : Int) (S : AS) : Option (AV × AS) := loopN (evC E call n 20 (E.at 20 [1, 1, 0, 1, 0, 0]) 0) [0, 3, 4] m [(0, (.int .u8 w0)), (3, (.sl w3a w3l w3c)), (4, (.int .i64 w4))] S (kBlk 0 (kSeq E call n 20 (E.at 20 [1, 1, 1]) 0 (retK E (E.fn 20))))
def r20_j1_1_1 (call : CallA) (n : Nat)  (w3a : Option Pos) (w3l : Nat) (w3c : Cap) (S : AS) : Option (AV × AS) := evC E call n 20 (E.at 20 [1, 1, 1]) 0 [(3, (.sl w3a w3l w3c))] S (retK E (E.fn 20))
theorem a20_l1_1_0_1_0 (call : CallA) (n : Nat)  (m : Nat) (w0 : Int) (w3a : Option Pos) (w3l : Nat) (w3c : Cap) (w4 : Int) (S : AS) : r20_l1_1_0_1_0 call n  (m + 1) w0 w3a w3l w3c w4 S = b20_l1_1_0_1_0 call n (r20_l1_1_0_1_0 call n  m) (r20_j1_1_1 call n ) w0 w3a w3l w3c w4 S := by kernel_rfl
theorem a20_j1_1_1 (call : CallA) (n : Nat)  (w3a : Option Pos) (w3l : Nat) (w3c : Cap) (S : AS) : r20_j1_1_1 call n  w3a w3l w3c S = b20_j1_1_1 call n  w3a w3l w3c S := by kernel_rfl
theorem a20_entry (call : CallA) (n : Nat) (x0 : Int) (S : AS) : evC E call n 20 (E.at 20 []) 0 (enumT 0 [(.int .u8 x0)]) S (retK E (E.fn 20)) = b20_entry call n (r20_l1_1_0_1_0 call n  n) x0 S := by kernel_rfl
def J20_j1_1_1 (call : CallA) (n : Nat)  (w3a : Option Pos) (w3l : Nat) (w3c : Cap) (S : AS) : Option (AV × AS) := b20_j1_1_1 call n  w3a w3l w3c S
theorem h20_j1_1_1 (call : CallA) (n : Nat)  : r20_j1_1_1 call n  = J20_j1_1_1 call n  := by
  funext w3a w3l w3c S
  rw [J20_j1_1_1, a20_j1_1_1]
def J20_l1_1_0_1_0 (call : CallA) (n : Nat)  (m : Nat) : Int → Option Pos → Nat → Cap → Int → AS → Option (AV × AS) := Nat.rec (motive := fun _ => Int → Option Pos → Nat → Cap → Int → AS → Option (AV × AS)) (fun _ _ _ _ _ _ => none) (fun mK ih w0 w3a w3l w3c w4 S => b20_l1_1_0_1_0 call n ih (J20_j1_1_1 call n ) w0 w3a w3l w3c w4 S) m
theorem J20_l1_1_0_1_0_succ (call : CallA) (n : Nat)  (m : Nat) (w0 : Int) (w3a : Option Pos) (w3l : Nat) (w3c : Cap) (w4 : Int) (S : AS) : J20_l1_1_0_1_0 call n  (m + 1) w0 w3a w3l w3c w4 S = b20_l1_1_0_1_0 call n (J20_l1_1_0_1_0 call n  m) (J20_j1_1_1 call n ) w0 w3a w3l w3c w4 S := rfl
theorem h20_l1_1_0_1_0 (call : CallA) (n : Nat)  (m : Nat) : r20_l1_1_0_1_0 call n  m = J20_l1_1_0_1_0 call n  m := by
  induction m with
  | zero => rfl
  | succ m ih =>
    funext w0 w3a w3l w3c w4 S
    rw [J20_l1_1_0_1_0_succ, a20_l1_1_0_1_0, h20_j1_1_1 call n , ih]
def J20 (call : CallA) (n : Nat) (x0 : Int) (S : AS) : Option (AV × AS) := b20_entry call n (J20_l1_1_0_1_0 call n  n) x0 S
theorem run20 (o : Orc) (n : Nat) (args : List AV) (S : AS) (ho : o 20 args = none) : evF E o (n + 1) (.fn 20) args S = evC E (evF E o n) n 20 (E.at 20 []) 0 (enumT 0 args) S (retK E (E.fn 20)) := by
  rw [evF, ho]; kernel_rfl
theorem J20_eq (call : CallA) (n : Nat) (x0 : Int) (S : AS) : evC E call n 20 (E.at 20 []) 0 (enumT 0 [(.int .u8 x0)]) S (retK E (E.fn 20)) = J20 call n x0 S := by
  rw [J20, a20_entry, h20_l1_1_0_1_0 call n  n]
theorem F20 {o : Orc} (n : Nat) (x0 : Int) (S : AS) (ho : ∀ args, o 20 args = none) : evF E o (n + 1) (.fn 20) [(.int .u8 x0)] S = J20 (evF E o n) n x0 S := (run20 o n [(.int .u8 x0)] S (ho _)).trans (J20_eq _ _ x0 S)
def b21_entry (call : CallA) (n : Nat)   (x0 : Option Pos) (x1 : Int) (S : AS) : Option (AV × AS) :=
 callI .i64 call 36 [(.ptr x0), (.int .u32 x1)] S fun v2 S1 =>
 cond (decide (v2 < 0)) (
 some ((.int .i64 7), S1)) (
 gO x0 fun p3 =>
 ldL S1 p3.1 p3.2 fun v4a v4l v4c =>
 callL call 37 [(.sl v4a v4l v4c), (.int .i64 v2), (.int .i64 (IntKind.wrap .i64 (v2 + 1)))] S1 fun v6a v6l v6c S5 =>
 gO x0 fun p7 =>
 S5.stn p7.1 p7.2 [(.sl v6a v6l v6c)] fun S8 =>
 some ((.int .i64 0), S8))

theorem a21_entry (call : CallA) (n : Nat) (x0 : Option Pos) (x1 : Int) (S : AS) : evC E call n 21 (E.at 21 []) 0 (enumT 0 [(.ptr x0), (.int .u32 x1)]) S (retK E (E.fn 21)) = b21_entry call n  x0 x1 S := by kernel_rfl
def J21 (call : CallA) (n : Nat) (x0 : Option Pos) (x1 : Int) (S : AS) : Option (AV × AS) := b21_entry call n  x0 x1 S
theorem run21 (o : Orc) (n : Nat) (args : List AV) (S : AS) (ho : o 21 args = none) : evF E o (n + 1) (.fn 21) args S = evC E (evF E o n) n 21 (E.at 21 []) 0 (enumT 0 args) S (retK E (E.fn 21)) := by
  rw [evF, ho]; kernel_rfl
theorem J21_eq (call : CallA) (n : Nat) (x0 : Option Pos) (x1 : Int) (S : AS) : evC E call n 21 (E.at 21 []) 0 (enumT 0 [(.ptr x0), (.int .u32 x1)]) S (retK E (E.fn 21)) = J21 call n x0 x1 S := by
  rw [J21, a21_entry]
theorem F21 {o : Orc} (n : Nat) (x0 : Option Pos) (x1 : Int) (S : AS) (ho : ∀ args, o 21 args = none) : evF E o (n + 1) (.fn 21) [(.ptr x0), (.int .u32 x1)] S = J21 (evF E o n) n x0 x1 S := (run21 o n [(.ptr x0), (.int .u32 x1)] S (ho _)).trans (J21_eq _ _ x0 x1 S)
def b22_entry (call : CallA) (n : Nat)   (x0 : Option Pos) (S : AS) : Option (AV × AS) :=
 cond x0.isNone (
 some ((.int .i64 0), S)) (
 gO x0 fun p1 =>
 ldL S p1.1 p1.2 fun v2a v2l v2c =>
 some ((.int .i64 ((v2l : Nat) : Int)), S))

theorem a22_entry (call : CallA) (n : Nat) (x0 : Option Pos) (S : AS) : evC E call n 22 (E.at 22 []) 0 (enumT 0 [(.ptr x0)]) S (retK E (E.fn 22)) = b22_entry call n  x0 S := by kernel_rfl
def J22 (call : CallA) (n : Nat) (x0 : Option Pos) (S : AS) : Option (AV × AS) := b22_entry call n  x0 S
theorem run22 (o : Orc) (n : Nat) (args : List AV) (S : AS) (ho : o 22 args = none) : evF E o (n + 1) (.fn 22) args S = evC E (evF E o n) n 22 (E.at 22 []) 0 (enumT 0 args) S (retK E (E.fn 22)) := by
  rw [evF, ho]; kernel_rfl
theorem J22_eq (call : CallA) (n : Nat) (x0 : Option Pos) (S : AS) : evC E call n 22 (E.at 22 []) 0 (enumT 0 [(.ptr x0)]) S (retK E (E.fn 22)) = J22 call n x0 S := by
  rw [J22, a22_entry]
theorem F22 {o : Orc} (n : Nat) (x0 : Option Pos) (S : AS) (ho : ∀ args, o 22 args = none) : evF E o (n + 1) (.fn 22) [(.ptr x0)] S = J22 (evF E o n) n x0 S := (run22 o n [(.ptr x0)] S (ho _)).trans (J22_eq _ _ x0 S)
def b23_l1_1_0_1_0 (call : CallA) (n : Nat)  (l1_1_0_1_0 : Option Pos → Nat → Cap → Int → Int → AS → Option (AV × AS)) (j1_1_1 : Option Pos → Nat → Cap → Int → AS → Option (AV × AS)) (w0a : Option Pos) (w0l : Nat) (w0c : Cap) (w3 : Int) (w4 : Int) (S : AS) : Option (AV × AS) :=
 cond (decide (w4 < ((w0l : Nat) : Int))) (
 cond (decide (w4 ≤ 60)) (
 ixSl 8 w0a w0l w4 fun p1 =>
 ldS S p1.1 (p1.2 + 2) fun v2 =>
 ixSl 8 w0a w0l w4 fun p3 =>
 ldS S p3.1 (p3.2 + 5) fun v4 =>
 ixSl 8 w0a w0l w4 fun p5 =>
 ldL S p5.1 (p5.2 + 6 + 1) fun v6a v6l v6c =>
 l1_1_0_1_0 w0a w0l w0c (IntKind.wrap .i64 ((IntKind.wrap .i64 ((IntKind.wrap .i64 (w3 + ((v2.length : Nat) : Int))) + ((v4.length : Nat) : Int))) + ((v6l : Nat) : Int))) (IntKind.wrap .i64 (w4 + 1)) S) (
 j1_1_1 w0a w0l w0c w3 S)) (
 j1_1_1 w0a w0l w0c w3 S)

def b23_j1_1_1 (call : CallA) (n : Nat)   (w0a : Option Pos) (w0l : Nat) (w0c : Cap) (w3 : Int) (S : AS) : Option (AV × AS) :=
 cond (decide (((w0l : Nat) : Int) > 60)) (
 some ((.bool true), S)) (
 some ((.bool (decide (w3 > 20000))), S))

def b23_entry (call : CallA) (n : Nat)  (l1_1_0_1_0 : Option Pos → Nat → Cap → Int → Int → AS → Option (AV × AS)) (x0a : Option Pos) (x0l : Nat) (x0c : Cap) (S : AS) : Option (AV × AS) :=
 l1_1_0_1_0 x0a x0l x0c 0 0 S

def r23_l1_1_0_1_0 (call : CallA) (n : Nat)  (m : Nat) (w0a : Option Pos) (w0l : Nat) (w0c : Cap) (w3 : Int) (w4 : Int) (S : AS) : Option (AV × AS) := loopN (evC E call n 23 (E.at 23 [1, 1, 0, 1, 0, 0]) 0) [0, 3, 4] m [(0, (.sl w0a w0l w0c)), (3, (.int .i64 w3)), (4, (.int .i64 w4))] S (kBlk 0 (kSeq E call n 23 (E.at 23 [1, 1, 1]) 0 (retK E (E.fn 23))))
def r23_j1_1_1 (call : CallA) (n : Nat)  (w0a : Option Pos) (w0l : Nat) (w0c : Cap) (w3 : Int) (S : AS) : Option (AV × AS) := evC E call n 23 (E.at 23 [1, 1, 1]) 0 [(0, (.sl w0a w0l w0c)), (3, (.int .i64 w3))] S (retK E (E.fn 23))
theorem a23_l1_1_0_1_0 (call : CallA) (n : Nat)  (m : Nat) (w0a : Option Pos) (w0l : Nat) (w0c : Cap) (w3 : Int) (w4 : Int) (S : AS) : r23_l1_1_0_1_0 call n  (m + 1) w0a w0l w0c w3 w4 S = b23_l1_1_0_1_0 call n (r23_l1_1_0_1_0 call n  m) (r23_j1_1_1 call n ) w0a w0l w0c w3 w4 S := by kernel_rfl
theorem a23_j1_1_1 (call : CallA) (n : Nat)  (w0a : Option Pos) (w0l : Nat) (w0c : Cap) (w3 : Int) (S : AS) : r23_j1_1_1 call n  w0a w0l w0c w3 S = b23_j1_1_1 call n  w0a w0l w0c w3 S := by kernel_rfl
theorem a23_entry (call : CallA) (n : Nat) (x0a : Option Pos) (x0l : Nat) (x0c : Cap) (S : AS) : evC E call n 23 (E.at 23 []) 0 (enumT 0 [(.sl x0a x0l x0c)]) S (retK E (E.fn 23)) = b23_entry call n (r23_l1_1_0_1_0 call n  n) x0a x0l x0c S := by kernel_rfl
def J23_j1_1_1 (call : CallA) (n : Nat)  (w0a : Option Pos) (w0l : Nat) (w0c : Cap) (w3 : Int) (S : AS) : Option (AV × AS) := b23_j1_1_1 call n  w0a w0l w0c w3 S
theorem h23_j1_1_1 (call : CallA) (n : Nat)  : r23_j1_1_1 call n  = J23_j1_1_1 call n  := by
  funext w0a w0l w0c w3 S
  rw [J23_j1_1_1, a23_j1_1_1]
def J23_l1_1_0_1_0 (call : CallA) (n : Nat)  (m : Nat) : Option Pos → Nat → Cap → Int → Int → AS → Option (AV × AS) := Nat.rec (motive := fun _ => Option Pos → Nat → Cap → Int → Int → AS → Option (AV × AS)) (fun _ _ _ _ _ _ => none) (fun mK ih w0a w0l w0c w3 w4 S => b23_l1_1_0_1_0 call n ih (J23_j1_1_1 call n ) w0a w0l w0c w3 w4 S) m
theorem J23_l1_1_0_1_0_succ (call : CallA) (n : Nat)  (m : Nat) (w0a : Option Pos) (w0l : Nat) (w0c : Cap) (w3 : Int) (w4 : Int) (S : AS) : J23_l1_1_0_1_0 call n  (m + 1) w0a w0l w0c w3 w4 S = b23_l1_1_0_1_0 call n (J23_l1_1_0_1_0 call n  m) (J23_j1_1_1 call n ) w0a w0l w0c w3 w4 S := rfl
theorem h23_l1_1_0_1_0 (call : CallA) (n : Nat)  (m : Nat) : r23_l1_1_0_1_0 call n  m = J23_l1_1_0_1_0 call n  m := by
  induction m with
  | zero => rfl
  | succ m ih =>
    funext w0a w0l w0c w3 w4 S
    rw [J23_l1_1_0_1_0_succ, a23_l1_1_0_1_0, h23_j1_1_1 call n , ih]
def J23 (call : CallA) (n : Nat) (x0a : Option Pos) (x0l : Nat) (x0c : Cap) (S : AS) : Option (AV × AS) := b23_entry call n (J23_l1_1_0_1_0 call n  n) x0a x0l x0c S
theorem run23 (o : Orc) (n : Nat) (args : List AV) (S : AS) (ho : o 23 args = none) : evF E o (n + 1) (.fn 23) args S = evC E (evF E o n) n 23 (E.at 23 []) 0 (enumT 0 args) S (retK E (E.fn 23)) := by
  rw [evF, ho]; kernel_rfl
theorem J23_eq (call : CallA) (n : Nat) (x0a : Option Pos) (x0l : Nat) (x0c : Cap) (S : AS) : evC E call n 23 (E.at 23 []) 0 (enumT 0 [(.sl x0a x0l x0c)]) S (retK E (E.fn 23)) = J23 call n x0a x0l x0c S := by
  rw [J23, a23_entry, h23_l1_1_0_1_0 call n  n]
theorem F23 {o : Orc} (n : Nat) (x0a : Option Pos) (x0l : Nat) (x0c : Cap) (S : AS) (ho : ∀ args, o 23 args = none) : evF E o (n + 1) (.fn 23) [(.sl x0a x0l x0c)] S = J23 (evF E o n) n x0a x0l x0c S := (run23 o n [(.sl x0a x0l x0c)] S (ho _)).trans (J23_eq _ _ x0a x0l x0c S)
end
end Go.Ct
