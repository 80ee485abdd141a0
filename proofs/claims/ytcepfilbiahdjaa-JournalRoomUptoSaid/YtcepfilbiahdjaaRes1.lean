/- Plain readings of the functions, and that they are what the evaluator does: by program. -/
import Derived.Test.YtcepfilbiahdjaaGrRes
import Derived.Test.YtcepfilbiahdjaaENV
import Derived.KernelRfl
set_option maxRecDepth 100000
set_option linter.unusedVariables false
namespace Go.Jn
open Go.Gr
noncomputable section
def b16_l1_1_1_1_1_0_1_0 (call : CallA) (n : Nat)  (l1_1_1_1_1_0_1_0 : Option Pos → Int → Option Pos → Option Pos → Nat → Cap → Int → Int → AS → Option (AV × AS)) (j1_1_1_1_1_1 : Option Pos → Int → Option Pos → AS → Option (AV × AS)) (w0 : Option Pos) (w5 : Int) (w6 : Option Pos) (w56a : Option Pos) (w56l : Nat) (w56c : Cap) (w57 : Int) (w58 : Int) (S : AS) : Option (AV × AS) :=
 cond (decide (w58 < w57)) (
 ixSl 3 w56a w56l w58 fun p18 =>
 S.ldn p18.1 p18.2 3 fun g19 =>
 newA S (.cells [(.int .i64 0), (.int .u64 0), (.int .u64 0)]) fun b20 S21 =>
 ifO (g19.length = 3) <|
 S21.stn (.rw b20) 0 g19 fun S22 =>
 gO w6 fun p23 =>
 ldI .u64 S22 p23.1 (p23.2 + 2) fun v24 =>
 ldI .i64 S22 (.rw b20) 0 fun v25 =>
 gO w6 fun p26 =>
 S22.stn p26.1 (p26.2 + 2) [(.int .u64 (IntKind.wrap .u64 (v24 + (IntKind.wrap .u64 v25))))] fun S27 =>
 ldI .u64 S27 (.rw b20) 1 fun v28 =>
 ldI .u64 S27 (.rw b20) 2 fun v29 =>
 gO w6 fun p30 =>
 S27.stn p30.1 (p30.2 + 4) [(.int .u64 v28)] fun S31 =>
 ldI .u64 S31 (.rw b20) 2 fun v32 =>
 cond (AV.beq (.int .u64 v32) (.int .u64 v29)) (
 gO w6 fun p33 =>
 S31.stn p33.1 (p33.2 + 5) [(.int .u64 v29)] fun S34 =>
 l1_1_1_1_1_0_1_0 w0 w5 w6 w56a w56l w56c w57 (IntKind.wrap .i64 (w58 + 1)) S34) none) (
 j1_1_1_1_1_1 w0 w5 w6 S)

def b16_j1_1_1_1_1_1 (call : CallA) (n : Nat)   (w0 : Option Pos) (w5 : Int) (w6 : Option Pos) (S : AS) : Option (AV × AS) :=
 gO w6 fun p35 =>
 S.ldn p35.1 p35.2 6 fun g36 =>
 callI .i64 call 38 [(.ptr w0), (.agg g36)] S fun v38 S37 =>
 cond (v38 != 0) (
 some ((.int .i64 v38), S37)) (
 gO w0 fun p39 =>
 ldL S37 p39.1 (p39.2 + 9) fun v40a v40l v40c =>
 slSl 3 v40a v40l v40c (some w5) none none fun v41a v41l v41c =>
 callL call 39 [(.sl v41a v41l v41c)] S37 fun v43a v43l v43c S42 =>
 gO w0 fun p44 =>
 S42.stn p44.1 (p44.2 + 9) [(.sl v43a v43l v43c)] fun S45 =>
 callI .u64 call 29 [(.ptr w0)] S45 fun v47 S46 =>
 gO w0 fun p48 =>
 S46.stn p48.1 (p48.2 + 10) [(.int .u64 v47)] fun S49 =>
 some ((.int .i64 0), S49))

def b16_entry (call : CallA) (n : Nat)  (l1_1_1_1_1_0_1_0 : Option Pos → Int → Option Pos → Option Pos → Nat → Cap → Int → Int → AS → Option (AV × AS)) (x0 : Option Pos) (x1 : Int) (S : AS) : Option (AV × AS) :=
 cond x0.isNone (
 some ((.int .i64 7), S)) (
 gO x0 fun p1 =>
 ldI .u64 S p1.1 (p1.2 + 10) fun v2 =>
 cond (decide (x1 > v2)) (
 some ((.int .i64 2), S)) (
 gO x0 fun p3 =>
 ldI .u64 S p3.1 (p3.2 + 3 + 3) fun v4 =>
 cond (decide (x1 < v4)) (
 some ((.int .i64 2), S)) (
 gO x0 fun p5 =>
 ldI .u64 S p5.1 (p5.2 + 3 + 3) fun v6 =>
 cond (x1 == v6) (
 some ((.int .i64 0), S)) (
 gO x0 fun p7 =>
 ldI .u64 S p7.1 (p7.2 + 3 + 3) fun v8 =>
 gO x0 fun p9 =>
 S.ldn p9.1 (p9.2 + 3) 6 fun g10 =>
 newA S (.cells [(.int .u64 0), (.int .u64 0), (.int .u64 0), (.int .u64 0), (.int .u64 0), (.int .u64 0)]) fun b11 S12 =>
 ifO (g10.length = 6) <|
 S12.stn (.rw b11) 0 g10 fun S13 =>
 S13.stn (.rw b11) 3 [(.int .u64 x1)] fun S14 =>
 gO x0 fun p15 =>
 ldL S14 p15.1 (p15.2 + 9) fun v16a v16l v16c =>
 slSl 3 v16a v16l v16c none (some (IntKind.wrap .i64 (IntKind.wrap .u64 (x1 - v8)))) none fun v17a v17l v17c =>
 l1_1_1_1_1_0_1_0 x0 (IntKind.wrap .i64 (IntKind.wrap .u64 (x1 - v8))) (some ((.rw b11), 0)) v17a v17l v17c ((v17l : Nat) : Int) 0 S14))))

def r16_l1_1_1_1_1_0_1_0 (call : CallA) (n : Nat)  (m : Nat) (w0 : Option Pos) (w5 : Int) (w6 : Option Pos) (w56a : Option Pos) (w56l : Nat) (w56c : Cap) (w57 : Int) (w58 : Int) (S : AS) : Option (AV × AS) := loopN (evC E call n 16 (E.at 16 [1, 1, 1, 1, 1, 0, 1, 0, 0]) 1) [0, 5, 6, 56, 57, 58] m [(0, (.ptr w0)), (5, (.int .i64 w5)), (6, (.ptr w6)), (56, (.sl w56a w56l w56c)), (57, (.int .i64 w57)), (58, (.int .i64 w58))] S (kBlk 1 (kSeq E call n 16 (E.at 16 [1, 1, 1, 1, 1, 1]) 0 (retK E (E.fn 16))))
def r16_j1_1_1_1_1_1 (call : CallA) (n : Nat)  (w0 : Option Pos) (w5 : Int) (w6 : Option Pos) (S : AS) : Option (AV × AS) := evC E call n 16 (E.at 16 [1, 1, 1, 1, 1, 1]) 0 [(0, (.ptr w0)), (5, (.int .i64 w5)), (6, (.ptr w6))] S (retK E (E.fn 16))
theorem a16_l1_1_1_1_1_0_1_0 (call : CallA) (n : Nat)  (m : Nat) (w0 : Option Pos) (w5 : Int) (w6 : Option Pos) (w56a : Option Pos) (w56l : Nat) (w56c : Cap) (w57 : Int) (w58 : Int) (S : AS) : r16_l1_1_1_1_1_0_1_0 call n  (m + 1) w0 w5 w6 w56a w56l w56c w57 w58 S = b16_l1_1_1_1_1_0_1_0 call n (r16_l1_1_1_1_1_0_1_0 call n  m) (r16_j1_1_1_1_1_1 call n ) w0 w5 w6 w56a w56l w56c w57 w58 S := by kernel_rfl
theorem a16_j1_1_1_1_1_1 (call : CallA) (n : Nat)  (w0 : Option Pos) (w5 : Int) (w6 : Option Pos) (S : AS) : r16_j1_1_1_1_1_1 call n  w0 w5 w6 S = b16_j1_1_1_1_1_1 call n  w0 w5 w6 S := by kernel_rfl
theorem a16_entry (call : CallA) (n : Nat) (x0 : Option Pos) (x1 : Int) (S : AS) : evC E call n 16 (E.at 16 []) 0 (enumT 0 [(.ptr x0), (.int .u64 x1)]) S (retK E (E.fn 16)) = b16_entry call n (r16_l1_1_1_1_1_0_1_0 call n  n) x0 x1 S := by kernel_rfl
def J16_j1_1_1_1_1_1 (call : CallA) (n : Nat)  (w0 : Option Pos) (w5 : Int) (w6 : Option Pos) (S : AS) : Option (AV × AS) := b16_j1_1_1_1_1_1 call n  w0 w5 w6 S
theorem h16_j1_1_1_1_1_1 (call : CallA) (n : Nat)  : r16_j1_1_1_1_1_1 call n  = J16_j1_1_1_1_1_1 call n  := by
  funext w0 w5 w6 S
  rw [J16_j1_1_1_1_1_1, a16_j1_1_1_1_1_1]
def J16_l1_1_1_1_1_0_1_0 (call : CallA) (n : Nat)  (m : Nat) : Option Pos → Int → Option Pos → Option Pos → Nat → Cap → Int → Int → AS → Option (AV × AS) := Nat.rec (motive := fun _ => Option Pos → Int → Option Pos → Option Pos → Nat → Cap → Int → Int → AS → Option (AV × AS)) (fun _ _ _ _ _ _ _ _ _ => none) (fun mK ih w0 w5 w6 w56a w56l w56c w57 w58 S => b16_l1_1_1_1_1_0_1_0 call n ih (J16_j1_1_1_1_1_1 call n ) w0 w5 w6 w56a w56l w56c w57 w58 S) m
theorem J16_l1_1_1_1_1_0_1_0_succ (call : CallA) (n : Nat)  (m : Nat) (w0 : Option Pos) (w5 : Int) (w6 : Option Pos) (w56a : Option Pos) (w56l : Nat) (w56c : Cap) (w57 : Int) (w58 : Int) (S : AS) : J16_l1_1_1_1_1_0_1_0 call n  (m + 1) w0 w5 w6 w56a w56l w56c w57 w58 S = b16_l1_1_1_1_1_0_1_0 call n (J16_l1_1_1_1_1_0_1_0 call n  m) (J16_j1_1_1_1_1_1 call n ) w0 w5 w6 w56a w56l w56c w57 w58 S := rfl
theorem h16_l1_1_1_1_1_0_1_0 (call : CallA) (n : Nat)  (m : Nat) : r16_l1_1_1_1_1_0_1_0 call n  m = J16_l1_1_1_1_1_0_1_0 call n  m := by
  induction m with
  | zero => rfl
  | succ m ih =>
    funext w0 w5 w6 w56a w56l w56c w57 w58 S
    rw [J16_l1_1_1_1_1_0_1_0_succ, a16_l1_1_1_1_1_0_1_0, h16_j1_1_1_1_1_1 call n , ih]
def J16 (call : CallA) (n : Nat) (x0 : Option Pos) (x1 : Int) (S : AS) : Option (AV × AS) := b16_entry call n (J16_l1_1_1_1_1_0_1_0 call n  n) x0 x1 S
theorem run16 (o : Orc) (n : Nat) (args : List AV) (S : AS) (ho : o 16 args = none) : evF E o (n + 1) (.fn 16) args S = evC E (evF E o n) n 16 (E.at 16 []) 0 (enumT 0 args) S (retK E (E.fn 16)) := by
  rw [evF, ho]; kernel_rfl
theorem J16_eq (call : CallA) (n : Nat) (x0 : Option Pos) (x1 : Int) (S : AS) : evC E call n 16 (E.at 16 []) 0 (enumT 0 [(.ptr x0), (.int .u64 x1)]) S (retK E (E.fn 16)) = J16 call n x0 x1 S := by
  rw [J16, a16_entry, h16_l1_1_1_1_1_0_1_0 call n  n]
theorem F16 {o : Orc} (n : Nat) (x0 : Option Pos) (x1 : Int) (S : AS) (ho : ∀ args, o 16 args = none) : evF E o (n + 1) (.fn 16) [(.ptr x0), (.int .u64 x1)] S = J16 (evF E o n) n x0 x1 S := (run16 o n [(.ptr x0), (.int .u64 x1)] S (ho _)).trans (J16_eq _ _ x0 x1 S)
def b17_l1_1_1_0_1_0 (call : CallA) (n : Nat)  (l1_1_1_0_1_0 : Int → Option Pos → Nat → Cap → Int → Int → AS → Option (AV × AS)) (w3 : Int) (w16a : Option Pos) (w16l : Nat) (w16c : Cap) (w17 : Int) (w18 : Int) (S : AS) : Option (AV × AS) :=
 cond (decide (w18 < w17)) (
 ixSl 3 w16a w16l w18 fun p5 =>
 S.ldn p5.1 p5.2 3 fun g6 =>
 newA S (.cells [(.int .i64 0), (.int .u64 0), (.int .u64 0)]) fun b7 S8 =>
 ifO (g6.length = 3) <|
 S8.stn (.rw b7) 0 g6 fun S9 =>
 ldI .i64 S9 (.rw b7) 0 fun v10 =>
 l1_1_1_0_1_0 (IntKind.wrap .i64 (w3 - v10)) w16a w16l w16c w17 (IntKind.wrap .i64 (w18 + 1)) S9) (
 some ((.int .i64 w3), S))

def b17_entry (call : CallA) (n : Nat)  (l1_1_1_0_1_0 : Int → Option Pos → Nat → Cap → Int → Int → AS → Option (AV × AS)) (x0 : Option Pos) (S : AS) : Option (AV × AS) :=
 cond x0.isNone (
 some ((.int .i64 0), S)) (
 gO x0 fun p1 =>
 ldI .i64 S p1.1 (p1.2 + 2) fun v2 =>
 gO x0 fun p3 =>
 ldL S p3.1 (p3.2 + 9) fun v4a v4l v4c =>
 l1_1_1_0_1_0 (IntKind.wrap .i64 (v2 - 2)) v4a v4l v4c ((v4l : Nat) : Int) 0 S)

def r17_l1_1_1_0_1_0 (call : CallA) (n : Nat)  (m : Nat) (w3 : Int) (w16a : Option Pos) (w16l : Nat) (w16c : Cap) (w17 : Int) (w18 : Int) (S : AS) : Option (AV × AS) := loopN (evC E call n 17 (E.at 17 [1, 1, 1, 0, 1, 0, 0]) 0) [3, 16, 17, 18] m [(3, (.int .i64 w3)), (16, (.sl w16a w16l w16c)), (17, (.int .i64 w17)), (18, (.int .i64 w18))] S (kBlk 0 (kSeq E call n 17 (E.at 17 [1, 1, 1, 1]) 0 (retK E (E.fn 17))))
theorem a17_l1_1_1_0_1_0 (call : CallA) (n : Nat)  (m : Nat) (w3 : Int) (w16a : Option Pos) (w16l : Nat) (w16c : Cap) (w17 : Int) (w18 : Int) (S : AS) : r17_l1_1_1_0_1_0 call n  (m + 1) w3 w16a w16l w16c w17 w18 S = b17_l1_1_1_0_1_0 call n (r17_l1_1_1_0_1_0 call n  m) w3 w16a w16l w16c w17 w18 S := by kernel_rfl
theorem a17_entry (call : CallA) (n : Nat) (x0 : Option Pos) (S : AS) : evC E call n 17 (E.at 17 []) 0 (enumT 0 [(.ptr x0)]) S (retK E (E.fn 17)) = b17_entry call n (r17_l1_1_1_0_1_0 call n  n) x0 S := by kernel_rfl
def J17_l1_1_1_0_1_0 (call : CallA) (n : Nat)  (m : Nat) : Int → Option Pos → Nat → Cap → Int → Int → AS → Option (AV × AS) := Nat.rec (motive := fun _ => Int → Option Pos → Nat → Cap → Int → Int → AS → Option (AV × AS)) (fun _ _ _ _ _ _ _ => none) (fun mK ih w3 w16a w16l w16c w17 w18 S => b17_l1_1_1_0_1_0 call n ih w3 w16a w16l w16c w17 w18 S) m
theorem J17_l1_1_1_0_1_0_succ (call : CallA) (n : Nat)  (m : Nat) (w3 : Int) (w16a : Option Pos) (w16l : Nat) (w16c : Cap) (w17 : Int) (w18 : Int) (S : AS) : J17_l1_1_1_0_1_0 call n  (m + 1) w3 w16a w16l w16c w17 w18 S = b17_l1_1_1_0_1_0 call n (J17_l1_1_1_0_1_0 call n  m) w3 w16a w16l w16c w17 w18 S := rfl
theorem h17_l1_1_1_0_1_0 (call : CallA) (n : Nat)  (m : Nat) : r17_l1_1_1_0_1_0 call n  m = J17_l1_1_1_0_1_0 call n  m := by
  induction m with
  | zero => rfl
  | succ m ih =>
    funext w3 w16a w16l w16c w17 w18 S
    rw [J17_l1_1_1_0_1_0_succ, a17_l1_1_1_0_1_0, ih]
def J17 (call : CallA) (n : Nat) (x0 : Option Pos) (S : AS) : Option (AV × AS) := b17_entry call n (J17_l1_1_1_0_1_0 call n  n) x0 S
theorem run17 (o : Orc) (n : Nat) (args : List AV) (S : AS) (ho : o 17 args = none) : evF E o (n + 1) (.fn 17) args S = evC E (evF E o n) n 17 (E.at 17 []) 0 (enumT 0 args) S (retK E (E.fn 17)) := by
  rw [evF, ho]; kernel_rfl
theorem J17_eq (call : CallA) (n : Nat) (x0 : Option Pos) (S : AS) : evC E call n 17 (E.at 17 []) 0 (enumT 0 [(.ptr x0)]) S (retK E (E.fn 17)) = J17 call n x0 S := by
  rw [J17, a17_entry, h17_l1_1_1_0_1_0 call n  n]
theorem F17 {o : Orc} (n : Nat) (x0 : Option Pos) (S : AS) (ho : ∀ args, o 17 args = none) : evF E o (n + 1) (.fn 17) [(.ptr x0)] S = J17 (evF E o n) n x0 S := (run17 o n [(.ptr x0)] S (ho _)).trans (J17_eq _ _ x0 S)
def b18_l1_1_1_0_1_0 (call : CallA) (n : Nat)  (l1_1_1_0_1_0 : Int → List UInt8 → Option Pos → Int → AS → Option (AV × AS)) (w0 : Int) (w3 : List UInt8) (w4 : Option Pos) (w5 : Int) (S : AS) : Option (AV × AS) :=
 cond (decide (w5 < w0)) (
 gO w4 fun p8 =>
 ldL S p8.1 p8.2 fun v9a v9l v9c =>
 newA S (.cells [(.str w3)]) fun b10 S11 =>
 appendA 1 16 S11 v9a v9l v9c 1 (firstA S11 1 1 (.sl (some (.rw b10, 0)) 1 (.ex 1))) fun v12a v12l v12c S13 =>
 gO w4 fun p14 =>
 S13.stn p14.1 p14.2 [(.sl v12a v12l v12c)] fun S15 =>
 l1_1_1_0_1_0 w0 w3 w4 (IntKind.wrap .i64 (w5 + 1)) S15) (
 some ((.ptr w4), S))

def b18_entry (call : CallA) (n : Nat)  (l1_1_1_0_1_0 : Int → List UInt8 → Option Pos → Int → AS → Option (AV × AS)) (x0 : Int) (S : AS) : Option (AV × AS) :=
 mkSl 1 384 384 fun l3 c4 =>
 newA S (.cells (zeros c4 [(.int .u8 0)])) fun b1 S2 =>
 bytesStr S2 (some (.rw b1, 0)) l3 fun s5 =>
 newA S2 (.cells [(.sl none 0 (.ex 0)), (.sl none 0 (.ex 0)), (.int .i64 (-1))]) fun b6 S7 =>
 l1_1_1_0_1_0 x0 s5 (some ((.rw b6), 0)) 0 S7

def r18_l1_1_1_0_1_0 (call : CallA) (n : Nat)  (m : Nat) (w0 : Int) (w3 : List UInt8) (w4 : Option Pos) (w5 : Int) (S : AS) : Option (AV × AS) := loopN (evC E call n 18 (E.at 18 [1, 1, 1, 0, 1, 0, 0]) 0) [0, 3, 4, 5] m [(0, (.int .i64 w0)), (3, (.str w3)), (4, (.ptr w4)), (5, (.int .i64 w5))] S (kBlk 0 (kSeq E call n 18 (E.at 18 [1, 1, 1, 1]) 0 (retK E (E.fn 18))))
theorem a18_l1_1_1_0_1_0 (call : CallA) (n : Nat)  (m : Nat) (w0 : Int) (w3 : List UInt8) (w4 : Option Pos) (w5 : Int) (S : AS) : r18_l1_1_1_0_1_0 call n  (m + 1) w0 w3 w4 w5 S = b18_l1_1_1_0_1_0 call n (r18_l1_1_1_0_1_0 call n  m) w0 w3 w4 w5 S := by kernel_rfl
theorem a18_entry (call : CallA) (n : Nat) (x0 : Int) (S : AS) : evC E call n 18 (E.at 18 []) 0 (enumT 0 [(.int .i64 x0)]) S (retK E (E.fn 18)) = b18_entry call n (r18_l1_1_1_0_1_0 call n  n) x0 S := by kernel_rfl
def J18_l1_1_1_0_1_0 (call : CallA) (n : Nat)  (m : Nat) : Int → List UInt8 → Option Pos → Int → AS → Option (AV × AS) := Nat.rec (motive := fun _ => Int → List UInt8 → Option Pos → Int → AS → Option (AV × AS)) (fun _ _ _ _ _ => none) (fun mK ih w0 w3 w4 w5 S => b18_l1_1_1_0_1_0 call n ih w0 w3 w4 w5 S) m
theorem J18_l1_1_1_0_1_0_succ (call : CallA) (n : Nat)  (m : Nat) (w0 : Int) (w3 : List UInt8) (w4 : Option Pos) (w5 : Int) (S : AS) : J18_l1_1_1_0_1_0 call n  (m + 1) w0 w3 w4 w5 S = b18_l1_1_1_0_1_0 call n (J18_l1_1_1_0_1_0 call n  m) w0 w3 w4 w5 S := rfl
theorem h18_l1_1_1_0_1_0 (call : CallA) (n : Nat)  (m : Nat) : r18_l1_1_1_0_1_0 call n  m = J18_l1_1_1_0_1_0 call n  m := by
  induction m with
  | zero => rfl
  | succ m ih =>
    funext w0 w3 w4 w5 S
    rw [J18_l1_1_1_0_1_0_succ, a18_l1_1_1_0_1_0, ih]
def J18 (call : CallA) (n : Nat) (x0 : Int) (S : AS) : Option (AV × AS) := b18_entry call n (J18_l1_1_1_0_1_0 call n  n) x0 S
theorem run18 (o : Orc) (n : Nat) (args : List AV) (S : AS) (ho : o 18 args = none) : evF E o (n + 1) (.fn 18) args S = evC E (evF E o n) n 18 (E.at 18 []) 0 (enumT 0 args) S (retK E (E.fn 18)) := by
  rw [evF, ho]; kernel_rfl
theorem J18_eq (call : CallA) (n : Nat) (x0 : Int) (S : AS) : evC E call n 18 (E.at 18 []) 0 (enumT 0 [(.int .i64 x0)]) S (retK E (E.fn 18)) = J18 call n x0 S := by
  rw [J18, a18_entry, h18_l1_1_1_0_1_0 call n  n]
theorem F18 {o : Orc} (n : Nat) (x0 : Int) (S : AS) (ho : ∀ args, o 18 args = none) : evF E o (n + 1) (.fn 18) [(.int .i64 x0)] S = J18 (evF E o n) n x0 S := (run18 o n [(.int .i64 x0)] S (ho _)).trans (J18_eq _ _ x0 S)
def b19_l1_1_0_1_0 (call : CallA) (n : Nat)  (l1_1_0_1_0 : AV → Int → Int → Int → Int → AS → Option (AV × AS)) (j1_1_1 : AV → Int → AS → Option (AV × AS)) (w0 : AV) (w1 : Int) (w2 : Int) (w6 : Int) (w8 : Int) (S : AS) : Option (AV × AS) :=
 cond (decide (w8 < (IntKind.wrap .i64 (w1 + w2)))) (
 drawA S 8 fun b3 S4 =>
 mkSl 1 384 384 fun l5 c6 =>
 mthV w0 "Write" fun v7 =>
 nilV E v7 fun v8 =>
 layA S4 (b3 + 2) (.cells (zeros c6 [(.int .u8 0)])) fun S9 =>
 invV E call w0 "Write" [(.int .i64 w8), (.sl (some (.rw (b3 + 2), 0)) l5 (.ex c6))] S9 fun v11 S10 =>
 gIk .i64 v11 fun v12 =>
 cond (v12 != 0) (
 some ((.int .i64 v12), S10)) (
 l1_1_0_1_0 w0 w1 w2 w6 (IntKind.wrap .i64 (w8 + 1)) S10)) (
 j1_1_1 w0 w1 S)

def b19_j1_1_1 (call : CallA) (n : Nat)  (l1_1_1_1_0_1_0 : AV → Int → AV → Int → AS → Option (AV × AS)) (w0 : AV) (w1 : Int) (S : AS) : Option (AV × AS) :=
 invV E call w0 "Flush" [] S fun v14 S13 =>
 gIk .i64 v14 fun v15 =>
 cond (v15 != 0) (
 some ((.int .i64 v15), S13)) (
 l1_1_1_1_0_1_0 w0 w1 .undef 0 S13)

def b19_l1_1_1_1_0_1_0 (call : CallA) (n : Nat)  (l1_1_1_1_0_1_0 : AV → Int → AV → Int → AS → Option (AV × AS)) (j1_1_1_1_1 : AV → AS → Option (AV × AS)) (w0 : AV) (w1 : Int) (w6 : AV) (w46 : Int) (S : AS) : Option (AV × AS) :=
 cond (decide (w46 < 2)) (
 callT call 41 [(.agg [(.int .u64 (IntKind.wrap .u64 (IntKind.wrap .i64 (w46 + 1)))), (.int .u64 1), (.int .u64 0), (.int .u64 0), (.int .u64 0), (.int .u64 0)])] S fun v17 S16 =>
 atL v17 0 fun v18a v18l v18c =>
 atI .i64 v17 1 fun v19 =>
 invV E call w0 "Write" [(.int .i64 (IntKind.wrap .i64 (w1 + w46))), (.sl v18a v18l v18c)] S16 fun v21 S20 =>
 gIk .i64 v21 fun v22 =>
 cond (v22 != 0) (
 some ((.int .i64 v22), S20)) (
 l1_1_1_1_0_1_0 w0 w1 w6 (IntKind.wrap .i64 (w46 + 1)) S20)) (
 j1_1_1_1_1 w0 S)

def b19_j1_1_1_1_1 (call : CallA) (n : Nat)   (w0 : AV) (S : AS) : Option (AV × AS) :=
 invV E call w0 "Flush" [] S fun v24 S23 =>
 gIk .i64 v24 fun v25 =>
 some ((.int .i64 v25), S23)

def b19_entry (call : CallA) (n : Nat)  (l1_1_0_1_0 : AV → Int → Int → Int → Int → AS → Option (AV × AS)) (x0 : AV) (x1 : Int) (x2 : Int) (S : AS) : Option (AV × AS) :=
 callI .i64 call 40 [x0, (.int .i64 x1), (.int .i64 x2)] S fun v2 S1 =>
 cond (v2 != 0) (
 some ((.int .i64 v2), S1)) (
 l1_1_0_1_0 x0 x1 x2 0 (IntKind.wrap .i64 (x1 + 2)) S1)

def r19_l1_1_0_1_0 (call : CallA) (n : Nat)  (m : Nat) (w0 : AV) (w1 : Int) (w2 : Int) (w6 : Int) (w8 : Int) (S : AS) : Option (AV × AS) := loopN (evC E call n 19 (E.at 19 [1, 1, 0, 1, 0, 0]) 0) [0, 1, 2, 6, 8] m [(0, w0), (1, (.int .i64 w1)), (2, (.int .i64 w2)), (6, (.int .i64 w6)), (8, (.int .i64 w8))] S (kBlk 0 (kSeq E call n 19 (E.at 19 [1, 1, 1]) 0 (retK E (E.fn 19))))
def r19_j1_1_1 (call : CallA) (n : Nat)  (w0 : AV) (w1 : Int) (S : AS) : Option (AV × AS) := evC E call n 19 (E.at 19 [1, 1, 1]) 0 [(0, w0), (1, (.int .i64 w1))] S (retK E (E.fn 19))
def r19_l1_1_1_1_0_1_0 (call : CallA) (n : Nat)  (m : Nat) (w0 : AV) (w1 : Int) (w6 : AV) (w46 : Int) (S : AS) : Option (AV × AS) := loopN (evC E call n 19 (E.at 19 [1, 1, 1, 1, 0, 1, 0, 0]) 2) [0, 1, 6, 46] m [(0, w0), (1, (.int .i64 w1)), (6, w6), (46, (.int .i64 w46))] S (kBlk 2 (kSeq E call n 19 (E.at 19 [1, 1, 1, 1, 1]) 0 (retK E (E.fn 19))))
def r19_j1_1_1_1_1 (call : CallA) (n : Nat)  (w0 : AV) (S : AS) : Option (AV × AS) := evC E call n 19 (E.at 19 [1, 1, 1, 1, 1]) 0 [(0, w0)] S (retK E (E.fn 19))
theorem a19_l1_1_0_1_0 (call : CallA) (n : Nat)  (m : Nat) (w0 : AV) (w1 : Int) (w2 : Int) (w6 : Int) (w8 : Int) (S : AS) : r19_l1_1_0_1_0 call n  (m + 1) w0 w1 w2 w6 w8 S = b19_l1_1_0_1_0 call n (r19_l1_1_0_1_0 call n  m) (r19_j1_1_1 call n ) w0 w1 w2 w6 w8 S := by kernel_rfl
theorem a19_j1_1_1 (call : CallA) (n : Nat)  (w0 : AV) (w1 : Int) (S : AS) : r19_j1_1_1 call n  w0 w1 S = b19_j1_1_1 call n (r19_l1_1_1_1_0_1_0 call n  n) w0 w1 S := by kernel_rfl
theorem a19_l1_1_1_1_0_1_0 (call : CallA) (n : Nat)  (m : Nat) (w0 : AV) (w1 : Int) (w6 : AV) (w46 : Int) (S : AS) : r19_l1_1_1_1_0_1_0 call n  (m + 1) w0 w1 w6 w46 S = b19_l1_1_1_1_0_1_0 call n (r19_l1_1_1_1_0_1_0 call n  m) (r19_j1_1_1_1_1 call n ) w0 w1 w6 w46 S := by kernel_rfl
theorem a19_j1_1_1_1_1 (call : CallA) (n : Nat)  (w0 : AV) (S : AS) : r19_j1_1_1_1_1 call n  w0 S = b19_j1_1_1_1_1 call n  w0 S := by kernel_rfl
theorem a19_entry (call : CallA) (n : Nat) (x0 : AV) (x1 : Int) (x2 : Int) (S : AS) : evC E call n 19 (E.at 19 []) 0 (enumT 0 [x0, (.int .i64 x1), (.int .i64 x2)]) S (retK E (E.fn 19)) = b19_entry call n (r19_l1_1_0_1_0 call n  n) x0 x1 x2 S := by kernel_rfl
def J19_j1_1_1_1_1 (call : CallA) (n : Nat)  (w0 : AV) (S : AS) : Option (AV × AS) := b19_j1_1_1_1_1 call n  w0 S
theorem h19_j1_1_1_1_1 (call : CallA) (n : Nat)  : r19_j1_1_1_1_1 call n  = J19_j1_1_1_1_1 call n  := by
  funext w0 S
  rw [J19_j1_1_1_1_1, a19_j1_1_1_1_1]
def J19_l1_1_1_1_0_1_0 (call : CallA) (n : Nat)  (m : Nat) : AV → Int → AV → Int → AS → Option (AV × AS) := Nat.rec (motive := fun _ => AV → Int → AV → Int → AS → Option (AV × AS)) (fun _ _ _ _ _ => none) (fun mK ih w0 w1 w6 w46 S => b19_l1_1_1_1_0_1_0 call n ih (J19_j1_1_1_1_1 call n ) w0 w1 w6 w46 S) m
theorem J19_l1_1_1_1_0_1_0_succ (call : CallA) (n : Nat)  (m : Nat) (w0 : AV) (w1 : Int) (w6 : AV) (w46 : Int) (S : AS) : J19_l1_1_1_1_0_1_0 call n  (m + 1) w0 w1 w6 w46 S = b19_l1_1_1_1_0_1_0 call n (J19_l1_1_1_1_0_1_0 call n  m) (J19_j1_1_1_1_1 call n ) w0 w1 w6 w46 S := rfl
theorem h19_l1_1_1_1_0_1_0 (call : CallA) (n : Nat)  (m : Nat) : r19_l1_1_1_1_0_1_0 call n  m = J19_l1_1_1_1_0_1_0 call n  m := by
  induction m with
  | zero => rfl
  | succ m ih =>
    funext w0 w1 w6 w46 S
    rw [J19_l1_1_1_1_0_1_0_succ, a19_l1_1_1_1_0_1_0, h19_j1_1_1_1_1 call n , ih]
def J19_j1_1_1 (call : CallA) (n : Nat)  (w0 : AV) (w1 : Int) (S : AS) : Option (AV × AS) := b19_j1_1_1 call n (J19_l1_1_1_1_0_1_0 call n  n) w0 w1 S
theorem h19_j1_1_1 (call : CallA) (n : Nat)  : r19_j1_1_1 call n  = J19_j1_1_1 call n  := by
  funext w0 w1 S
  rw [J19_j1_1_1, a19_j1_1_1, h19_l1_1_1_1_0_1_0 call n  n]
def J19_l1_1_0_1_0 (call : CallA) (n : Nat)  (m : Nat) : AV → Int → Int → Int → Int → AS → Option (AV × AS) := Nat.rec (motive := fun _ => AV → Int → Int → Int → Int → AS → Option (AV × AS)) (fun _ _ _ _ _ _ => none) (fun mK ih w0 w1 w2 w6 w8 S => b19_l1_1_0_1_0 call n ih (J19_j1_1_1 call n ) w0 w1 w2 w6 w8 S) m
theorem J19_l1_1_0_1_0_succ (call : CallA) (n : Nat)  (m : Nat) (w0 : AV) (w1 : Int) (w2 : Int) (w6 : Int) (w8 : Int) (S : AS) : J19_l1_1_0_1_0 call n  (m + 1) w0 w1 w2 w6 w8 S = b19_l1_1_0_1_0 call n (J19_l1_1_0_1_0 call n  m) (J19_j1_1_1 call n ) w0 w1 w2 w6 w8 S := rfl
theorem h19_l1_1_0_1_0 (call : CallA) (n : Nat)  (m : Nat) : r19_l1_1_0_1_0 call n  m = J19_l1_1_0_1_0 call n  m := by
  induction m with
  | zero => rfl
  | succ m ih =>
    funext w0 w1 w2 w6 w8 S
    rw [J19_l1_1_0_1_0_succ, a19_l1_1_0_1_0, h19_j1_1_1 call n , ih]
def J19 (call : CallA) (n : Nat) (x0 : AV) (x1 : Int) (x2 : Int) (S : AS) : Option (AV × AS) := b19_entry call n (J19_l1_1_0_1_0 call n  n) x0 x1 x2 S
theorem run19 (o : Orc) (n : Nat) (args : List AV) (S : AS) (ho : o 19 args = none) : evF E o (n + 1) (.fn 19) args S = evC E (evF E o n) n 19 (E.at 19 []) 0 (enumT 0 args) S (retK E (E.fn 19)) := by
  rw [evF, ho]; kernel_rfl
theorem J19_eq (call : CallA) (n : Nat) (x0 : AV) (x1 : Int) (x2 : Int) (S : AS) : evC E call n 19 (E.at 19 []) 0 (enumT 0 [x0, (.int .i64 x1), (.int .i64 x2)]) S (retK E (E.fn 19)) = J19 call n x0 x1 x2 S := by
  rw [J19, a19_entry, h19_l1_1_0_1_0 call n  n]
theorem F19 {o : Orc} (n : Nat) (x0 : AV) (x1 : Int) (x2 : Int) (S : AS) (ho : ∀ args, o 19 args = none) : evF E o (n + 1) (.fn 19) [x0, (.int .i64 x1), (.int .i64 x2)] S = J19 (evF E o n) n x0 x1 x2 S := (run19 o n [x0, (.int .i64 x1), (.int .i64 x2)] S (ho _)).trans (J19_eq _ _ x0 x1 x2 S)
def b20_l1_1_1_0_1_0 (call : CallA) (n : Nat)  (l1_1_1_0_1_0 : Option Pos → Int → Int → Int → Int → AS → Option (AV × AS)) (j1_1_1_1 : Option Pos → Int → AS → Option (AV × AS)) (w0 : Option Pos) (w1 : Int) (w2 : Int) (w6 : Int) (w8 : Int) (S : AS) : Option (AV × AS) :=
 cond (decide (w8 < w2)) (
 mkSl 1 384 384 fun l5 c6 =>
 newA S (.cells (zeros c6 [(.int .u8 0)])) fun b3 S4 =>
 callI .i64 call 43 [(.ptr w0), (.int .i64 (IntKind.wrap .i64 (w1 + w8))), (.sl (some (.rw b3, 0)) l5 (.ex c6))] S4 fun v8 S7 =>
 cond (v8 != 0) (
 some ((.int .i64 v8), S7)) (
 l1_1_1_0_1_0 w0 w1 w2 w6 (IntKind.wrap .i64 (w8 + 1)) S7)) (
 j1_1_1_1 w0 w1 S)

def b20_j1_1_1_1 (call : CallA) (n : Nat)  (l1_1_1_1_1_0_1_0 : Option Pos → Int → AV → Int → AS → Option (AV × AS)) (w0 : Option Pos) (w1 : Int) (S : AS) : Option (AV × AS) :=
 callI .i64 call 44 [(.ptr w0)] S fun v10 S9 =>
 l1_1_1_1_1_0_1_0 w0 w1 .undef 0 S9

def b20_l1_1_1_1_1_0_1_0 (call : CallA) (n : Nat)  (l1_1_1_1_1_0_1_0 : Option Pos → Int → AV → Int → AS → Option (AV × AS)) (j1_1_1_1_1_1 : Option Pos → AS → Option (AV × AS)) (w0 : Option Pos) (w1 : Int) (w6 : AV) (w10 : Int) (S : AS) : Option (AV × AS) :=
 cond (decide (w10 < 2)) (
 callT call 45 [(.agg [(.int .u64 (IntKind.wrap .u64 (IntKind.wrap .i64 (w10 + 1)))), (.int .u64 1), (.int .u64 0), (.int .u64 0), (.int .u64 0), (.int .u64 0)])] S fun v12 S11 =>
 atL v12 0 fun v13a v13l v13c =>
 atI .i64 v12 1 fun v14 =>
 callI .i64 call 43 [(.ptr w0), (.int .i64 (IntKind.wrap .i64 (w1 + w10))), (.sl v13a v13l v13c)] S11 fun v16 S15 =>
 cond (v16 != 0) (
 some ((.int .i64 v16), S15)) (
 l1_1_1_1_1_0_1_0 w0 w1 w6 (IntKind.wrap .i64 (w10 + 1)) S15)) (
 j1_1_1_1_1_1 w0 S)

def b20_j1_1_1_1_1_1 (call : CallA) (n : Nat)   (w0 : Option Pos) (S : AS) : Option (AV × AS) :=
 callI .i64 call 44 [(.ptr w0)] S fun v18 S17 =>
 some ((.int .i64 0), S17)

def b20_entry (call : CallA) (n : Nat)  (l1_1_1_0_1_0 : Option Pos → Int → Int → Int → Int → AS → Option (AV × AS)) (x0 : Option Pos) (x1 : Int) (x2 : Int) (S : AS) : Option (AV × AS) :=
 callI .i64 call 42 [(.ptr x0), (.int .i64 x1), (.int .i64 x2)] S fun v2 S1 =>
 cond (v2 != 0) (
 some ((.int .i64 v2), S1)) (
 l1_1_1_0_1_0 x0 x1 x2 0 2 S1)

def r20_l1_1_1_0_1_0 (call : CallA) (n : Nat)  (m : Nat) (w0 : Option Pos) (w1 : Int) (w2 : Int) (w6 : Int) (w8 : Int) (S : AS) : Option (AV × AS) := loopN (evC E call n 20 (E.at 20 [1, 1, 1, 0, 1, 0, 0]) 0) [0, 1, 2, 6, 8] m [(0, (.ptr w0)), (1, (.int .i64 w1)), (2, (.int .i64 w2)), (6, (.int .i64 w6)), (8, (.int .i64 w8))] S (kBlk 0 (kSeq E call n 20 (E.at 20 [1, 1, 1, 1]) 0 (retK E (E.fn 20))))
def r20_j1_1_1_1 (call : CallA) (n : Nat)  (w0 : Option Pos) (w1 : Int) (S : AS) : Option (AV × AS) := evC E call n 20 (E.at 20 [1, 1, 1, 1]) 0 [(0, (.ptr w0)), (1, (.int .i64 w1))] S (retK E (E.fn 20))
def r20_l1_1_1_1_1_0_1_0 (call : CallA) (n : Nat)  (m : Nat) (w0 : Option Pos) (w1 : Int) (w6 : AV) (w10 : Int) (S : AS) : Option (AV × AS) := loopN (evC E call n 20 (E.at 20 [1, 1, 1, 1, 1, 0, 1, 0, 0]) 2) [0, 1, 6, 10] m [(0, (.ptr w0)), (1, (.int .i64 w1)), (6, w6), (10, (.int .i64 w10))] S (kBlk 2 (kSeq E call n 20 (E.at 20 [1, 1, 1, 1, 1, 1]) 0 (retK E (E.fn 20))))
def r20_j1_1_1_1_1_1 (call : CallA) (n : Nat)  (w0 : Option Pos) (S : AS) : Option (AV × AS) := evC E call n 20 (E.at 20 [1, 1, 1, 1, 1, 1]) 0 [(0, (.ptr w0))] S (retK E (E.fn 20))
theorem a20_l1_1_1_0_1_0 (call : CallA) (n : Nat)  (m : Nat) (w0 : Option Pos) (w1 : Int) (w2 : Int) (w6 : Int) (w8 : Int) (S : AS) : r20_l1_1_1_0_1_0 call n  (m + 1) w0 w1 w2 w6 w8 S = b20_l1_1_1_0_1_0 call n (r20_l1_1_1_0_1_0 call n  m) (r20_j1_1_1_1 call n ) w0 w1 w2 w6 w8 S := by kernel_rfl
theorem a20_j1_1_1_1 (call : CallA) (n : Nat)  (w0 : Option Pos) (w1 : Int) (S : AS) : r20_j1_1_1_1 call n  w0 w1 S = b20_j1_1_1_1 call n (r20_l1_1_1_1_1_0_1_0 call n  n) w0 w1 S := by kernel_rfl
theorem a20_l1_1_1_1_1_0_1_0 (call : CallA) (n : Nat)  (m : Nat) (w0 : Option Pos) (w1 : Int) (w6 : AV) (w10 : Int) (S : AS) : r20_l1_1_1_1_1_0_1_0 call n  (m + 1) w0 w1 w6 w10 S = b20_l1_1_1_1_1_0_1_0 call n (r20_l1_1_1_1_1_0_1_0 call n  m) (r20_j1_1_1_1_1_1 call n ) w0 w1 w6 w10 S := by kernel_rfl
theorem a20_j1_1_1_1_1_1 (call : CallA) (n : Nat)  (w0 : Option Pos) (S : AS) : r20_j1_1_1_1_1_1 call n  w0 S = b20_j1_1_1_1_1_1 call n  w0 S := by kernel_rfl
theorem a20_entry (call : CallA) (n : Nat) (x0 : Option Pos) (x1 : Int) (x2 : Int) (S : AS) : evC E call n 20 (E.at 20 []) 0 (enumT 0 [(.ptr x0), (.int .i64 x1), (.int .i64 x2)]) S (retK E (E.fn 20)) = b20_entry call n (r20_l1_1_1_0_1_0 call n  n) x0 x1 x2 S := by kernel_rfl
def J20_j1_1_1_1_1_1 (call : CallA) (n : Nat)  (w0 : Option Pos) (S : AS) : Option (AV × AS) := b20_j1_1_1_1_1_1 call n  w0 S
theorem h20_j1_1_1_1_1_1 (call : CallA) (n : Nat)  : r20_j1_1_1_1_1_1 call n  = J20_j1_1_1_1_1_1 call n  := by
  funext w0 S
  rw [J20_j1_1_1_1_1_1, a20_j1_1_1_1_1_1]
def J20_l1_1_1_1_1_0_1_0 (call : CallA) (n : Nat)  (m : Nat) : Option Pos → Int → AV → Int → AS → Option (AV × AS) := Nat.rec (motive := fun _ => Option Pos → Int → AV → Int → AS → Option (AV × AS)) (fun _ _ _ _ _ => none) (fun mK ih w0 w1 w6 w10 S => b20_l1_1_1_1_1_0_1_0 call n ih (J20_j1_1_1_1_1_1 call n ) w0 w1 w6 w10 S) m
theorem J20_l1_1_1_1_1_0_1_0_succ (call : CallA) (n : Nat)  (m : Nat) (w0 : Option Pos) (w1 : Int) (w6 : AV) (w10 : Int) (S : AS) : J20_l1_1_1_1_1_0_1_0 call n  (m + 1) w0 w1 w6 w10 S = b20_l1_1_1_1_1_0_1_0 call n (J20_l1_1_1_1_1_0_1_0 call n  m) (J20_j1_1_1_1_1_1 call n ) w0 w1 w6 w10 S := rfl
theorem h20_l1_1_1_1_1_0_1_0 (call : CallA) (n : Nat)  (m : Nat) : r20_l1_1_1_1_1_0_1_0 call n  m = J20_l1_1_1_1_1_0_1_0 call n  m := by
  induction m with
  | zero => rfl
  | succ m ih =>
    funext w0 w1 w6 w10 S
    rw [J20_l1_1_1_1_1_0_1_0_succ, a20_l1_1_1_1_1_0_1_0, h20_j1_1_1_1_1_1 call n , ih]
def J20_j1_1_1_1 (call : CallA) (n : Nat)  (w0 : Option Pos) (w1 : Int) (S : AS) : Option (AV × AS) := b20_j1_1_1_1 call n (J20_l1_1_1_1_1_0_1_0 call n  n) w0 w1 S
theorem h20_j1_1_1_1 (call : CallA) (n : Nat)  : r20_j1_1_1_1 call n  = J20_j1_1_1_1 call n  := by
  funext w0 w1 S
  rw [J20_j1_1_1_1, a20_j1_1_1_1, h20_l1_1_1_1_1_0_1_0 call n  n]
def J20_l1_1_1_0_1_0 (call : CallA) (n : Nat)  (m : Nat) : Option Pos → Int → Int → Int → Int → AS → Option (AV × AS) := Nat.rec (motive := fun _ => Option Pos → Int → Int → Int → Int → AS → Option (AV × AS)) (fun _ _ _ _ _ _ => none) (fun mK ih w0 w1 w2 w6 w8 S => b20_l1_1_1_0_1_0 call n ih (J20_j1_1_1_1 call n ) w0 w1 w2 w6 w8 S) m
theorem J20_l1_1_1_0_1_0_succ (call : CallA) (n : Nat)  (m : Nat) (w0 : Option Pos) (w1 : Int) (w2 : Int) (w6 : Int) (w8 : Int) (S : AS) : J20_l1_1_1_0_1_0 call n  (m + 1) w0 w1 w2 w6 w8 S = b20_l1_1_1_0_1_0 call n (J20_l1_1_1_0_1_0 call n  m) (J20_j1_1_1_1 call n ) w0 w1 w2 w6 w8 S := rfl
theorem h20_l1_1_1_0_1_0 (call : CallA) (n : Nat)  (m : Nat) : r20_l1_1_1_0_1_0 call n  m = J20_l1_1_1_0_1_0 call n  m := by
  induction m with
  | zero => rfl
  | succ m ih =>
    funext w0 w1 w2 w6 w8 S
    rw [J20_l1_1_1_0_1_0_succ, a20_l1_1_1_0_1_0, h20_j1_1_1_1 call n , ih]
def J20 (call : CallA) (n : Nat) (x0 : Option Pos) (x1 : Int) (x2 : Int) (S : AS) : Option (AV × AS) := b20_entry call n (J20_l1_1_1_0_1_0 call n  n) x0 x1 x2 S
theorem run20 (o : Orc) (n : Nat) (args : List AV) (S : AS) (ho : o 20 args = none) : evF E o (n + 1) (.fn 20) args S = evC E (evF E o n) n 20 (E.at 20 []) 0 (enumT 0 args) S (retK E (E.fn 20)) := by
  rw [evF, ho]; kernel_rfl
theorem J20_eq (call : CallA) (n : Nat) (x0 : Option Pos) (x1 : Int) (x2 : Int) (S : AS) : evC E call n 20 (E.at 20 []) 0 (enumT 0 [(.ptr x0), (.int .i64 x1), (.int .i64 x2)]) S (retK E (E.fn 20)) = J20 call n x0 x1 x2 S := by
  rw [J20, a20_entry, h20_l1_1_1_0_1_0 call n  n]
theorem F20 {o : Orc} (n : Nat) (x0 : Option Pos) (x1 : Int) (x2 : Int) (S : AS) (ho : ∀ args, o 20 args = none) : evF E o (n + 1) (.fn 20) [(.ptr x0), (.int .i64 x1), (.int .i64 x2)] S = J20 (evF E o n) n x0 x1 x2 S := (run20 o n [(.ptr x0), (.int .i64 x1), (.int .i64 x2)] S (ho _)).trans (J20_eq _ _ x0 x1 x2 S)
def b24_l0_1_0 (call : CallA) (n : Nat)  (l0_1_0_0_1_0_0_1_0_1_0 : Option Pos → Option Pos → Nat → Cap → Int → Bool → Int → AS → Option (AV × AS)) (j1 : Option Pos → AS → Option (AV × AS)) (w0 : Option Pos) (w1a : Option Pos) (w1l : Nat) (w1c : Cap) (w4 : Int) (S : AS) : Option (AV × AS) :=
 gO w0 fun p1 =>
 ldL S p1.1 (p1.2 + 1) fun v2a v2l v2c =>
 cond (decide (w4 < ((v2l : Nat) : Int))) (
 l0_1_0_0_1_0_0_1_0_1_0 w0 w1a w1l w1c w4 false 0 S) (
 j1 w0 S)

def b24_l0_1_0_0_1_0_0_1_0_1_0 (call : CallA) (n : Nat)  (l0_1_0_0_1_0_0_1_0_1_0 : Option Pos → Option Pos → Nat → Cap → Int → Bool → Int → AS → Option (AV × AS)) (j0_1_0_0_1_0_0_1_1 : Option Pos → Option Pos → Nat → Cap → Int → Bool → AS → Option (AV × AS)) (w0 : Option Pos) (w1a : Option Pos) (w1l : Nat) (w1c : Cap) (w4 : Int) (w5 : Bool) (w6 : Int) (S : AS) : Option (AV × AS) :=
 cond (decide (w6 < ((w1l : Nat) : Int))) (
 cond w5 (
 l0_1_0_0_1_0_0_1_0_1_0 w0 w1a w1l w1c w4 true (IntKind.wrap .i64 (w6 + 1)) S) (
 ixSl 1 w1a w1l w6 fun p3 =>
 ldI .i64 S p3.1 p3.2 fun v4 =>
 l0_1_0_0_1_0_0_1_0_1_0 w0 w1a w1l w1c w4 (v4 == w4) (IntKind.wrap .i64 (w6 + 1)) S)) (
 j0_1_0_0_1_0_0_1_1 w0 w1a w1l w1c w4 w5 S)

def b24_j1 (call : CallA) (n : Nat)   (w0 : Option Pos) (S : AS) : Option (AV × AS) :=
 gO w0 fun p5 =>
 S.stn p5.1 (p5.2 + 1) [(.sl none 0 (.ex 0))] fun S6 =>
 some (.tup [], S6)

def b24_j0_1_0_0_1_0_0_1_1 (call : CallA) (n : Nat)  (j0_1_0_0_1_1 : Option Pos → Option Pos → Nat → Cap → Int → AS → Option (AV × AS)) (w0 : Option Pos) (w1a : Option Pos) (w1l : Nat) (w1c : Cap) (w4 : Int) (w5 : Bool) (S : AS) : Option (AV × AS) :=
 cond w5 (
 gO w0 fun p7 =>
 ldL S p7.1 p7.2 fun v8a v8l v8c =>
 gO w0 fun p9 =>
 ldL S p9.1 (p9.2 + 1) fun v10a v10l v10c =>
 ixSl 2 v10a v10l w4 fun p11 =>
 ldI .i64 S p11.1 p11.2 fun v12 =>
 gO w0 fun p13 =>
 ldL S p13.1 (p13.2 + 1) fun v14a v14l v14c =>
 ixSl 2 v14a v14l w4 fun p15 =>
 ldS S p15.1 (p15.2 + 1) fun v16 =>
 ixSl 1 v8a v8l v12 fun p17 =>
 S.stn p17.1 p17.2 [(.str v16)] fun S18 =>
 j0_1_0_0_1_1 w0 w1a w1l w1c w4 S18) (
 j0_1_0_0_1_1 w0 w1a w1l w1c w4 S)

def b24_j0_1_0_0_1_1 (call : CallA) (n : Nat)  (l0_1_0 : Option Pos → Option Pos → Nat → Cap → Int → AS → Option (AV × AS)) (w0 : Option Pos) (w1a : Option Pos) (w1l : Nat) (w1c : Cap) (w4 : Int) (S : AS) : Option (AV × AS) :=
 l0_1_0 w0 w1a w1l w1c (IntKind.wrap .i64 (w4 + 1)) S

def b24_entry (call : CallA) (n : Nat)  (l0_1_0 : Option Pos → Option Pos → Nat → Cap → Int → AS → Option (AV × AS)) (x0 : Option Pos) (x1a : Option Pos) (x1l : Nat) (x1c : Cap) (S : AS) : Option (AV × AS) :=
 l0_1_0 x0 x1a x1l x1c 0 S

def r24_l0_1_0 (call : CallA) (n : Nat)  (m : Nat) (w0 : Option Pos) (w1a : Option Pos) (w1l : Nat) (w1c : Cap) (w4 : Int) (S : AS) : Option (AV × AS) := loopN (evC E call n 24 (E.at 24 [0, 1, 0, 0]) 0) [0, 1, 4] m [(0, (.ptr w0)), (1, (.sl w1a w1l w1c)), (4, (.int .i64 w4))] S (kBlk 0 (kSeq E call n 24 (E.at 24 [1]) 0 (retK E (E.fn 24))))
def r24_l0_1_0_0_1_0_0_1_0_1_0 (call : CallA) (n : Nat) (m0_1_0 : Nat) (m : Nat) (w0 : Option Pos) (w1a : Option Pos) (w1l : Nat) (w1c : Cap) (w4 : Int) (w5 : Bool) (w6 : Int) (S : AS) : Option (AV × AS) := loopN (evC E call n 24 (E.at 24 [0, 1, 0, 0, 1, 0, 0, 1, 0, 1, 0, 0]) 2) [0, 1, 4, 5, 6] m [(0, (.ptr w0)), (1, (.sl w1a w1l w1c)), (4, (.int .i64 w4)), (5, (.bool w5)), (6, (.int .i64 w6))] S (kBlk 2 (kSeq E call n 24 (E.at 24 [0, 1, 0, 0, 1, 0, 0, 1, 1]) 1 (kBlk 1 (kSeq E call n 24 (E.at 24 [0, 1, 0, 0, 1, 1]) 0 (kLp (evC E call n 24 (E.at 24 [0, 1, 0, 0]) 0) [0, 1, 4] m0_1_0 (kBlk 0 (kSeq E call n 24 (E.at 24 [1]) 0 (retK E (E.fn 24)))))))))
def r24_j1 (call : CallA) (n : Nat)  (w0 : Option Pos) (S : AS) : Option (AV × AS) := evC E call n 24 (E.at 24 [1]) 0 [(0, (.ptr w0))] S (retK E (E.fn 24))
def r24_j0_1_0_0_1_0_0_1_1 (call : CallA) (n : Nat) (m0_1_0 : Nat) (w0 : Option Pos) (w1a : Option Pos) (w1l : Nat) (w1c : Cap) (w4 : Int) (w5 : Bool) (S : AS) : Option (AV × AS) := evC E call n 24 (E.at 24 [0, 1, 0, 0, 1, 0, 0, 1, 1]) 1 [(0, (.ptr w0)), (1, (.sl w1a w1l w1c)), (4, (.int .i64 w4)), (5, (.bool w5))] S (kBlk 1 (kSeq E call n 24 (E.at 24 [0, 1, 0, 0, 1, 1]) 0 (kLp (evC E call n 24 (E.at 24 [0, 1, 0, 0]) 0) [0, 1, 4] m0_1_0 (kBlk 0 (kSeq E call n 24 (E.at 24 [1]) 0 (retK E (E.fn 24)))))))
def r24_j0_1_0_0_1_1 (call : CallA) (n : Nat) (m0_1_0 : Nat) (w0 : Option Pos) (w1a : Option Pos) (w1l : Nat) (w1c : Cap) (w4 : Int) (S : AS) : Option (AV × AS) := evC E call n 24 (E.at 24 [0, 1, 0, 0, 1, 1]) 0 [(0, (.ptr w0)), (1, (.sl w1a w1l w1c)), (4, (.int .i64 w4))] S (kLp (evC E call n 24 (E.at 24 [0, 1, 0, 0]) 0) [0, 1, 4] m0_1_0 (kBlk 0 (kSeq E call n 24 (E.at 24 [1]) 0 (retK E (E.fn 24)))))
theorem a24_l0_1_0 (call : CallA) (n : Nat)  (m : Nat) (w0 : Option Pos) (w1a : Option Pos) (w1l : Nat) (w1c : Cap) (w4 : Int) (S : AS) : r24_l0_1_0 call n  (m + 1) w0 w1a w1l w1c w4 S = b24_l0_1_0 call n (r24_l0_1_0_0_1_0_0_1_0_1_0 call n m n) (r24_j1 call n ) w0 w1a w1l w1c w4 S := by kernel_rfl
theorem a24_l0_1_0_0_1_0_0_1_0_1_0 (call : CallA) (n : Nat) (m0_1_0 : Nat) (m : Nat) (w0 : Option Pos) (w1a : Option Pos) (w1l : Nat) (w1c : Cap) (w4 : Int) (w5 : Bool) (w6 : Int) (S : AS) : r24_l0_1_0_0_1_0_0_1_0_1_0 call n m0_1_0 (m + 1) w0 w1a w1l w1c w4 w5 w6 S = b24_l0_1_0_0_1_0_0_1_0_1_0 call n (r24_l0_1_0_0_1_0_0_1_0_1_0 call n m0_1_0 m) (r24_j0_1_0_0_1_0_0_1_1 call n m0_1_0) w0 w1a w1l w1c w4 w5 w6 S := by kernel_rfl
theorem a24_j1 (call : CallA) (n : Nat)  (w0 : Option Pos) (S : AS) : r24_j1 call n  w0 S = b24_j1 call n  w0 S := by kernel_rfl
theorem a24_j0_1_0_0_1_0_0_1_1 (call : CallA) (n : Nat) (m0_1_0 : Nat) (w0 : Option Pos) (w1a : Option Pos) (w1l : Nat) (w1c : Cap) (w4 : Int) (w5 : Bool) (S : AS) : r24_j0_1_0_0_1_0_0_1_1 call n m0_1_0 w0 w1a w1l w1c w4 w5 S = b24_j0_1_0_0_1_0_0_1_1 call n (r24_j0_1_0_0_1_1 call n m0_1_0) w0 w1a w1l w1c w4 w5 S := by kernel_rfl
theorem a24_j0_1_0_0_1_1 (call : CallA) (n : Nat) (m0_1_0 : Nat) (w0 : Option Pos) (w1a : Option Pos) (w1l : Nat) (w1c : Cap) (w4 : Int) (S : AS) : r24_j0_1_0_0_1_1 call n m0_1_0 w0 w1a w1l w1c w4 S = b24_j0_1_0_0_1_1 call n (r24_l0_1_0 call n  m0_1_0) w0 w1a w1l w1c w4 S := by kernel_rfl
theorem a24_entry (call : CallA) (n : Nat) (x0 : Option Pos) (x1a : Option Pos) (x1l : Nat) (x1c : Cap) (S : AS) : evC E call n 24 (E.at 24 []) 0 (enumT 0 [(.ptr x0), (.sl x1a x1l x1c)]) S (retK E (E.fn 24)) = b24_entry call n (r24_l0_1_0 call n  n) x0 x1a x1l x1c S := by kernel_rfl
def J24_j0_1_0_0_1_1 (call : CallA) (n : Nat) (n0_1_0 : Option Pos → Option Pos → Nat → Cap → Int → AS → Option (AV × AS)) (w0 : Option Pos) (w1a : Option Pos) (w1l : Nat) (w1c : Cap) (w4 : Int) (S : AS) : Option (AV × AS) := b24_j0_1_0_0_1_1 call n n0_1_0 w0 w1a w1l w1c w4 S
theorem h24_j0_1_0_0_1_1 (call : CallA) (n : Nat) (m0_1_0 : Nat) : r24_j0_1_0_0_1_1 call n m0_1_0 = J24_j0_1_0_0_1_1 call n (r24_l0_1_0 call n  m0_1_0) := by
  funext w0 w1a w1l w1c w4 S
  rw [J24_j0_1_0_0_1_1, a24_j0_1_0_0_1_1]
def J24_j0_1_0_0_1_0_0_1_1 (call : CallA) (n : Nat) (n0_1_0 : Option Pos → Option Pos → Nat → Cap → Int → AS → Option (AV × AS)) (w0 : Option Pos) (w1a : Option Pos) (w1l : Nat) (w1c : Cap) (w4 : Int) (w5 : Bool) (S : AS) : Option (AV × AS) := b24_j0_1_0_0_1_0_0_1_1 call n (J24_j0_1_0_0_1_1 call n n0_1_0) w0 w1a w1l w1c w4 w5 S
theorem h24_j0_1_0_0_1_0_0_1_1 (call : CallA) (n : Nat) (m0_1_0 : Nat) : r24_j0_1_0_0_1_0_0_1_1 call n m0_1_0 = J24_j0_1_0_0_1_0_0_1_1 call n (r24_l0_1_0 call n  m0_1_0) := by
  funext w0 w1a w1l w1c w4 w5 S
  rw [J24_j0_1_0_0_1_0_0_1_1, a24_j0_1_0_0_1_0_0_1_1, h24_j0_1_0_0_1_1 call n m0_1_0]
def J24_l0_1_0_0_1_0_0_1_0_1_0 (call : CallA) (n : Nat) (n0_1_0 : Option Pos → Option Pos → Nat → Cap → Int → AS → Option (AV × AS)) (m : Nat) : Option Pos → Option Pos → Nat → Cap → Int → Bool → Int → AS → Option (AV × AS) := Nat.rec (motive := fun _ => Option Pos → Option Pos → Nat → Cap → Int → Bool → Int → AS → Option (AV × AS)) (fun _ _ _ _ _ _ _ _ => none) (fun mK ih w0 w1a w1l w1c w4 w5 w6 S => b24_l0_1_0_0_1_0_0_1_0_1_0 call n ih (J24_j0_1_0_0_1_0_0_1_1 call n n0_1_0) w0 w1a w1l w1c w4 w5 w6 S) m
theorem J24_l0_1_0_0_1_0_0_1_0_1_0_succ (call : CallA) (n : Nat) (n0_1_0 : Option Pos → Option Pos → Nat → Cap → Int → AS → Option (AV × AS)) (m : Nat) (w0 : Option Pos) (w1a : Option Pos) (w1l : Nat) (w1c : Cap) (w4 : Int) (w5 : Bool) (w6 : Int) (S : AS) : J24_l0_1_0_0_1_0_0_1_0_1_0 call n n0_1_0 (m + 1) w0 w1a w1l w1c w4 w5 w6 S = b24_l0_1_0_0_1_0_0_1_0_1_0 call n (J24_l0_1_0_0_1_0_0_1_0_1_0 call n n0_1_0 m) (J24_j0_1_0_0_1_0_0_1_1 call n n0_1_0) w0 w1a w1l w1c w4 w5 w6 S := rfl
theorem h24_l0_1_0_0_1_0_0_1_0_1_0 (call : CallA) (n : Nat) (m0_1_0 : Nat) (m : Nat) : r24_l0_1_0_0_1_0_0_1_0_1_0 call n m0_1_0 m = J24_l0_1_0_0_1_0_0_1_0_1_0 call n (r24_l0_1_0 call n  m0_1_0) m := by
  induction m with
  | zero => rfl
  | succ m ih =>
    funext w0 w1a w1l w1c w4 w5 w6 S
    rw [J24_l0_1_0_0_1_0_0_1_0_1_0_succ, a24_l0_1_0_0_1_0_0_1_0_1_0, h24_j0_1_0_0_1_0_0_1_1 call n m0_1_0, ih]
def J24_j1 (call : CallA) (n : Nat)  (w0 : Option Pos) (S : AS) : Option (AV × AS) := b24_j1 call n  w0 S
theorem h24_j1 (call : CallA) (n : Nat)  : r24_j1 call n  = J24_j1 call n  := by
  funext w0 S
  rw [J24_j1, a24_j1]
def J24_l0_1_0 (call : CallA) (n : Nat)  (m : Nat) : Option Pos → Option Pos → Nat → Cap → Int → AS → Option (AV × AS) := Nat.rec (motive := fun _ => Option Pos → Option Pos → Nat → Cap → Int → AS → Option (AV × AS)) (fun _ _ _ _ _ _ => none) (fun mK ih w0 w1a w1l w1c w4 S => b24_l0_1_0 call n (J24_l0_1_0_0_1_0_0_1_0_1_0 call n ih n) (J24_j1 call n ) w0 w1a w1l w1c w4 S) m
theorem J24_l0_1_0_succ (call : CallA) (n : Nat)  (m : Nat) (w0 : Option Pos) (w1a : Option Pos) (w1l : Nat) (w1c : Cap) (w4 : Int) (S : AS) : J24_l0_1_0 call n  (m + 1) w0 w1a w1l w1c w4 S = b24_l0_1_0 call n (J24_l0_1_0_0_1_0_0_1_0_1_0 call n (J24_l0_1_0 call n  m) n) (J24_j1 call n ) w0 w1a w1l w1c w4 S := rfl
theorem h24_l0_1_0 (call : CallA) (n : Nat)  (m : Nat) : r24_l0_1_0 call n  m = J24_l0_1_0 call n  m := by
  induction m with
  | zero => rfl
  | succ m ih =>
    funext w0 w1a w1l w1c w4 S
    rw [J24_l0_1_0_succ, a24_l0_1_0, h24_l0_1_0_0_1_0_0_1_0_1_0 call n m n, h24_j1 call n , ih]
def J24 (call : CallA) (n : Nat) (x0 : Option Pos) (x1a : Option Pos) (x1l : Nat) (x1c : Cap) (S : AS) : Option (AV × AS) := b24_entry call n (J24_l0_1_0 call n  n) x0 x1a x1l x1c S
theorem run24 (o : Orc) (n : Nat) (args : List AV) (S : AS) (ho : o 24 args = none) : evF E o (n + 1) (.fn 24) args S = evC E (evF E o n) n 24 (E.at 24 []) 0 (enumT 0 args) S (retK E (E.fn 24)) := by
  rw [evF, ho]; kernel_rfl
theorem J24_eq (call : CallA) (n : Nat) (x0 : Option Pos) (x1a : Option Pos) (x1l : Nat) (x1c : Cap) (S : AS) : evC E call n 24 (E.at 24 []) 0 (enumT 0 [(.ptr x0), (.sl x1a x1l x1c)]) S (retK E (E.fn 24)) = J24 call n x0 x1a x1l x1c S := by
  rw [J24, a24_entry, h24_l0_1_0 call n  n]
theorem F24 {o : Orc} (n : Nat) (x0 : Option Pos) (x1a : Option Pos) (x1l : Nat) (x1c : Cap) (S : AS) (ho : ∀ args, o 24 args = none) : evF E o (n + 1) (.fn 24) [(.ptr x0), (.sl x1a x1l x1c)] S = J24 (evF E o n) n x0 x1a x1l x1c S := (run24 o n [(.ptr x0), (.sl x1a x1l x1c)] S (ho _)).trans (J24_eq _ _ x0 x1a x1l x1c S)
def b25_l1_1_1_1_1_1_0_1_0 (call : CallA) (n : Nat)  (j1_1_1_1_1_1_1 : Option Pos → Option Pos → Nat → Cap → AS → Option (AV × AS)) (l1_1_1_1_1_1_0_1_0 : Option Pos → Option Pos → Nat → Cap → Int → Option Pos → Option Pos → Nat → Cap → Option Pos → Int → AS → Option (AV × AS)) (w6 : Option Pos) (w7a : Option Pos) (w7l : Nat) (w7c : Cap) (w8 : Int) (w10 : Option Pos) (w12a : Option Pos) (w12l : Nat) (w12c : Cap) (w13 : Option Pos) (w14 : Int) (S : AS) : Option (AV × AS) :=
 drawA S 19 fun b18 S19 =>
 callI .u64 call 29 [(.ptr w10)] S19 fun v21 S20 =>
 gO w13 fun p22 =>
 S20.ldn p22.1 p22.2 2 fun g23 =>
 gO w13 fun p24 =>
 S19.ldn p24.1 p24.2 2 fun g25 =>
 cond (AV.beq (.agg g25) (.agg g23)) (
 callI .i64 call 17 [(.ptr w10)] S20 fun v27 S26 =>
 gO w13 fun p28 =>
 S26.ldn p28.1 p28.2 2 fun g29 =>
 cond (AV.beq (.agg g29) (.agg g23)) (
 callT call 54 [(.ptr w10), (.int .u64 w14), (.int .u64 (IntKind.wrap .u64 (v21 + 1))), (.agg g23), (.int .i64 v27)] S26 fun v31 S30 =>
 atL v31 0 fun v32a v32l v32c =>
 atG 3 v31 1 fun g33 =>
 atB v31 2 fun v34 =>
 atI .i64 v31 3 fun v35 =>
 layA S30 (b18 + 14) (.cells [(.int .i64 0), (.int .u64 0), (.int .u64 0)]) fun S36 =>
 ifO (g33.length = 3) <|
 S36.stn (.rw (b18 + 14)) 0 g33 fun S37 =>
 cond (v35 != 0) (
 some (.tup [(.ptr none), (.sl none 0 (.ex 0)), (.int .i64 v35)], S37)) (
 cond (!v34) (
 j1_1_1_1_1_1_1 w10 w12a w12l w12c S37) (
 drawA S37 16 fun b38 S39 =>
 gO w10 fun p40 =>
 ldL S39 p40.1 (p40.2 + 9) fun v41a v41l v41c =>
 S39.ldn (.rw (b18 + 14)) 0 3 fun g42 =>
 ifO (g42.length = 3) <|
 ifO (0 + g42.length ≤ ([(.int .i64 0), (.int .u64 0), (.int .u64 0)] : List AV).length) <|
 layA S39 (b38 + 6) (.cells (splice [(.int .i64 0), (.int .u64 0), (.int .u64 0)] 0 g42)) fun S44 =>
 appendA 3 24 S44 v41a v41l v41c 1 (firstA S44 3 1 (.sl (some (.rw (b38 + 6), 0)) 1 (.ex 1))) fun v45a v45l v45c S46 =>
 layA S46 (b38 + 10) (.cells [(.sl v32a v32l v32c)]) fun S47 =>
 appendA 1 24 S47 w12a w12l w12c 1 (firstA S47 1 1 (.sl (some (.rw (b38 + 10), 0)) 1 (.ex 1))) fun v48a v48l v48c S49 =>
 gO w10 fun p50 =>
 S49.stn p50.1 (p50.2 + 9) [(.sl v45a v45l v45c)] fun S51 =>
 S51.ldn (.rw (b18 + 14)) 1 2 fun g52 =>
 gO w13 fun p54 =>
 ifO (g52.length = 2) <|
 S51.stn p54.1 p54.2 g52 fun S53 =>
 ldI .i64 S53 (.rw (b18 + 14)) 0 fun v55 =>
 l1_1_1_1_1_1_0_1_0 w6 w7a w7l w7c w8 w10 v48a v48l v48c w13 (IntKind.wrap .u64 (w14 + (IntKind.wrap .u64 v55))) S53))) none) none

def b25_j1_1_1_1_1_1_1 (call : CallA) (n : Nat)   (w10 : Option Pos) (w12a : Option Pos) (w12l : Nat) (w12c : Cap) (S : AS) : Option (AV × AS) :=
 gO w10 fun p56 =>
 S.ldn p56.1 (p56.2 + 3) 6 fun g57 =>
 newA S (.cells [(.int .u64 0), (.int .u64 0), (.int .u64 0), (.int .u64 0), (.int .u64 0), (.int .u64 0)]) fun b58 S59 =>
 ifO (g57.length = 6) <|
 S59.stn (.rw b58) 0 g57 fun S60 =>
 ldI .u64 S60 (.rw b58) 1 fun v61 =>
 S60.stn (.rw b58) 1 [(.int .u64 (IntKind.wrap .u64 (v61 + 1)))] fun S62 =>
 S62.ldn (.rw b58) 0 6 fun g63 =>
 callI .i64 call 38 [(.ptr w10), (.agg g63)] S62 fun v65 S64 =>
 cond (v65 != 0) (
 some (.tup [(.ptr none), (.sl none 0 (.ex 0)), (.int .i64 v65)], S64)) (
 callI .u64 call 29 [(.ptr w10)] S64 fun v67 S66 =>
 gO w10 fun p68 =>
 S66.stn p68.1 (p68.2 + 10) [(.int .u64 v67)] fun S69 =>
 some (.tup [(.ptr w10), (.sl w12a w12l w12c), (.int .i64 0)], S69))

def b25_entry (call : CallA) (n : Nat)  (l1_1_1_1_1_1_0_1_0 : Option Pos → Option Pos → Nat → Cap → Int → Option Pos → Option Pos → Nat → Cap → Option Pos → Int → AS → Option (AV × AS)) (x0 : AV) (x1 : Int) (x2 : Int) (S : AS) : Option (AV × AS) :=
 callI .i64 call 40 [x0, (.int .i64 x1), (.int .i64 x2)] S fun v2 S1 =>
 cond (v2 != 0) (
 some (.tup [(.ptr none), (.sl none 0 (.ex 0)), (.int .i64 v2)], S1)) (
 cellsOf ty73 x0 fun g3 =>
 ifO (0 + g3.length ≤ ([.nilIface, (.int .i64 0), (.int .i64 0), (.int .u64 0), (.int .u64 0), (.int .u64 0), (.int .u64 0), (.int .u64 0), (.int .u64 0), (.sl none 0 (.ex 0)), (.int .u64 0), (.int .u64 0)] : List AV).length) <|
 ifO (1 + ([(.int .i64 x1)] : List AV).length ≤ (splice [.nilIface, (.int .i64 0), (.int .i64 0), (.int .u64 0), (.int .u64 0), (.int .u64 0), (.int .u64 0), (.int .u64 0), (.int .u64 0), (.sl none 0 (.ex 0)), (.int .u64 0), (.int .u64 0)] 0 g3).length) <|
 ifO (2 + ([(.int .i64 x2)] : List AV).length ≤ (splice (splice [.nilIface, (.int .i64 0), (.int .i64 0), (.int .u64 0), (.int .u64 0), (.int .u64 0), (.int .u64 0), (.int .u64 0), (.int .u64 0), (.sl none 0 (.ex 0)), (.int .u64 0), (.int .u64 0)] 0 g3) 1 [(.int .i64 x1)]).length) <|
 ifO ((splice (splice (splice [.nilIface, (.int .i64 0), (.int .i64 0), (.int .u64 0), (.int .u64 0), (.int .u64 0), (.int .u64 0), (.int .u64 0), (.int .u64 0), (.sl none 0 (.ex 0)), (.int .u64 0), (.int .u64 0)] 0 g3) 1 [(.int .i64 x1)]) 2 [(.int .i64 x2)]).length = 12) <|
 newA S1 (.cells (splice (splice (splice [.nilIface, (.int .i64 0), (.int .i64 0), (.int .u64 0), (.int .u64 0), (.int .u64 0), (.int .u64 0), (.int .u64 0), (.int .u64 0), (.sl none 0 (.ex 0)), (.int .u64 0), (.int .u64 0)] 0 g3) 1 [(.int .i64 x1)]) 2 [(.int .i64 x2)])) fun b7 S8 =>
 callI .i64 call 53 [(.ptr (some ((.rw b7), 0)))] S8 fun v10 S9 =>
 cond (v10 != 0) (
 some (.tup [(.ptr none), (.sl none 0 (.ex 0)), (.int .i64 v10)], S9)) (
 drawA S9 13 fun b11 S12 =>
 ldI .u64 S12 (.rw b7) 7 fun v13 =>
 ldI .u64 S12 (.rw b7) 8 fun v14 =>
 layA S12 (b11 + 11) (.cells [(.int .u64 0), (.int .u64 0)]) fun S15 =>
 S15.stn (.rw (b11 + 11)) 0 [(.int .u64 v13), (.int .u64 v14)] fun S16 =>
 ldI .u64 S16 (.rw b7) 5 fun v17 =>
 l1_1_1_1_1_1_0_1_0 none none 0 (.ex 0) 0 (some ((.rw b7), 0)) none 0 (.ex 0) (some ((.rw (b11 + 11)), 0)) v17 S16))

def r25_l1_1_1_1_1_1_0_1_0 (call : CallA) (n : Nat)  (m : Nat) (w6 : Option Pos) (w7a : Option Pos) (w7l : Nat) (w7c : Cap) (w8 : Int) (w10 : Option Pos) (w12a : Option Pos) (w12l : Nat) (w12c : Cap) (w13 : Option Pos) (w14 : Int) (S : AS) : Option (AV × AS) := loopN (evC E call n 25 (E.at 25 [1, 1, 1, 1, 1, 1, 0, 1, 0, 0]) 0) [6, 7, 8, 10, 12, 13, 14] m [(6, (.ptr w6)), (7, (.sl w7a w7l w7c)), (8, (.int .i64 w8)), (10, (.ptr w10)), (12, (.sl w12a w12l w12c)), (13, (.ptr w13)), (14, (.int .u64 w14))] S (kBlk 0 (kSeq E call n 25 (E.at 25 [1, 1, 1, 1, 1, 1, 1]) 0 (retK E (E.fn 25))))
def r25_j1_1_1_1_1_1_1 (call : CallA) (n : Nat)  (w10 : Option Pos) (w12a : Option Pos) (w12l : Nat) (w12c : Cap) (S : AS) : Option (AV × AS) := evC E call n 25 (E.at 25 [1, 1, 1, 1, 1, 1, 1]) 0 [(10, (.ptr w10)), (12, (.sl w12a w12l w12c))] S (retK E (E.fn 25))
theorem a25_l1_1_1_1_1_1_0_1_0 (call : CallA) (n : Nat)  (m : Nat) (w6 : Option Pos) (w7a : Option Pos) (w7l : Nat) (w7c : Cap) (w8 : Int) (w10 : Option Pos) (w12a : Option Pos) (w12l : Nat) (w12c : Cap) (w13 : Option Pos) (w14 : Int) (S : AS) : r25_l1_1_1_1_1_1_0_1_0 call n  (m + 1) w6 w7a w7l w7c w8 w10 w12a w12l w12c w13 w14 S = b25_l1_1_1_1_1_1_0_1_0 call n (r25_j1_1_1_1_1_1_1 call n ) (r25_l1_1_1_1_1_1_0_1_0 call n  m) w6 w7a w7l w7c w8 w10 w12a w12l w12c w13 w14 S := by kernel_rfl
theorem a25_j1_1_1_1_1_1_1 (call : CallA) (n : Nat)  (w10 : Option Pos) (w12a : Option Pos) (w12l : Nat) (w12c : Cap) (S : AS) : r25_j1_1_1_1_1_1_1 call n  w10 w12a w12l w12c S = b25_j1_1_1_1_1_1_1 call n  w10 w12a w12l w12c S := by kernel_rfl
theorem a25_entry (call : CallA) (n : Nat) (x0 : AV) (x1 : Int) (x2 : Int) (S : AS) : evC E call n 25 (E.at 25 []) 0 (enumT 0 [x0, (.int .i64 x1), (.int .i64 x2)]) S (retK E (E.fn 25)) = b25_entry call n (r25_l1_1_1_1_1_1_0_1_0 call n  n) x0 x1 x2 S := by kernel_rfl
def J25_j1_1_1_1_1_1_1 (call : CallA) (n : Nat)  (w10 : Option Pos) (w12a : Option Pos) (w12l : Nat) (w12c : Cap) (S : AS) : Option (AV × AS) := b25_j1_1_1_1_1_1_1 call n  w10 w12a w12l w12c S
theorem h25_j1_1_1_1_1_1_1 (call : CallA) (n : Nat)  : r25_j1_1_1_1_1_1_1 call n  = J25_j1_1_1_1_1_1_1 call n  := by
  funext w10 w12a w12l w12c S
  rw [J25_j1_1_1_1_1_1_1, a25_j1_1_1_1_1_1_1]
def J25_l1_1_1_1_1_1_0_1_0 (call : CallA) (n : Nat)  (m : Nat) : Option Pos → Option Pos → Nat → Cap → Int → Option Pos → Option Pos → Nat → Cap → Option Pos → Int → AS → Option (AV × AS) := Nat.rec (motive := fun _ => Option Pos → Option Pos → Nat → Cap → Int → Option Pos → Option Pos → Nat → Cap → Option Pos → Int → AS → Option (AV × AS)) (fun _ _ _ _ _ _ _ _ _ _ _ _ => none) (fun mK ih w6 w7a w7l w7c w8 w10 w12a w12l w12c w13 w14 S => b25_l1_1_1_1_1_1_0_1_0 call n (J25_j1_1_1_1_1_1_1 call n ) ih w6 w7a w7l w7c w8 w10 w12a w12l w12c w13 w14 S) m
theorem J25_l1_1_1_1_1_1_0_1_0_succ (call : CallA) (n : Nat)  (m : Nat) (w6 : Option Pos) (w7a : Option Pos) (w7l : Nat) (w7c : Cap) (w8 : Int) (w10 : Option Pos) (w12a : Option Pos) (w12l : Nat) (w12c : Cap) (w13 : Option Pos) (w14 : Int) (S : AS) : J25_l1_1_1_1_1_1_0_1_0 call n  (m + 1) w6 w7a w7l w7c w8 w10 w12a w12l w12c w13 w14 S = b25_l1_1_1_1_1_1_0_1_0 call n (J25_j1_1_1_1_1_1_1 call n ) (J25_l1_1_1_1_1_1_0_1_0 call n  m) w6 w7a w7l w7c w8 w10 w12a w12l w12c w13 w14 S := rfl
theorem h25_l1_1_1_1_1_1_0_1_0 (call : CallA) (n : Nat)  (m : Nat) : r25_l1_1_1_1_1_1_0_1_0 call n  m = J25_l1_1_1_1_1_1_0_1_0 call n  m := by
  induction m with
  | zero => rfl
  | succ m ih =>
    funext w6 w7a w7l w7c w8 w10 w12a w12l w12c w13 w14 S
    rw [J25_l1_1_1_1_1_1_0_1_0_succ, a25_l1_1_1_1_1_1_0_1_0, h25_j1_1_1_1_1_1_1 call n , ih]
def J25 (call : CallA) (n : Nat) (x0 : AV) (x1 : Int) (x2 : Int) (S : AS) : Option (AV × AS) := b25_entry call n (J25_l1_1_1_1_1_1_0_1_0 call n  n) x0 x1 x2 S
theorem run25 (o : Orc) (n : Nat) (args : List AV) (S : AS) (ho : o 25 args = none) : evF E o (n + 1) (.fn 25) args S = evC E (evF E o n) n 25 (E.at 25 []) 0 (enumT 0 args) S (retK E (E.fn 25)) := by
  rw [evF, ho]; kernel_rfl
theorem J25_eq (call : CallA) (n : Nat) (x0 : AV) (x1 : Int) (x2 : Int) (S : AS) : evC E call n 25 (E.at 25 []) 0 (enumT 0 [x0, (.int .i64 x1), (.int .i64 x2)]) S (retK E (E.fn 25)) = J25 call n x0 x1 x2 S := by
  rw [J25, a25_entry, h25_l1_1_1_1_1_1_0_1_0 call n  n]
theorem F25 {o : Orc} (n : Nat) (x0 : AV) (x1 : Int) (x2 : Int) (S : AS) (ho : ∀ args, o 25 args = none) : evF E o (n + 1) (.fn 25) [x0, (.int .i64 x1), (.int .i64 x2)] S = J25 (evF E o n) n x0 x1 x2 S := (run25 o n [x0, (.int .i64 x1), (.int .i64 x2)] S (ho _)).trans (J25_eq _ _ x0 x1 x2 S)
def b28_entry (call : CallA) (n : Nat)   (x0 : Option Pos) (S : AS) : Option (AV × AS) :=
 cond x0.isNone (
 some ((.int .u64 0), S)) (
 gO x0 fun p1 =>
 ldI .u64 S p1.1 (p1.2 + 10) fun v2 =>
 some ((.int .u64 v2), S))

theorem a28_entry (call : CallA) (n : Nat) (x0 : Option Pos) (S : AS) : evC E call n 28 (E.at 28 []) 0 (enumT 0 [(.ptr x0)]) S (retK E (E.fn 28)) = b28_entry call n  x0 S := by kernel_rfl
def J28 (call : CallA) (n : Nat) (x0 : Option Pos) (S : AS) : Option (AV × AS) := b28_entry call n  x0 S
theorem run28 (o : Orc) (n : Nat) (args : List AV) (S : AS) (ho : o 28 args = none) : evF E o (n + 1) (.fn 28) args S = evC E (evF E o n) n 28 (E.at 28 []) 0 (enumT 0 args) S (retK E (E.fn 28)) := by
  rw [evF, ho]; kernel_rfl
theorem J28_eq (call : CallA) (n : Nat) (x0 : Option Pos) (S : AS) : evC E call n 28 (E.at 28 []) 0 (enumT 0 [(.ptr x0)]) S (retK E (E.fn 28)) = J28 call n x0 S := by
  rw [J28, a28_entry]
theorem F28 {o : Orc} (n : Nat) (x0 : Option Pos) (S : AS) (ho : ∀ args, o 28 args = none) : evF E o (n + 1) (.fn 28) [(.ptr x0)] S = J28 (evF E o n) n x0 S := (run28 o n [(.ptr x0)] S (ho _)).trans (J28_eq _ _ x0 S)
def b29_entry (call : CallA) (n : Nat)   (x0 : Option Pos) (S : AS) : Option (AV × AS) :=
 cond x0.isNone (
 some ((.int .u64 0), S)) (
 gO x0 fun p1 =>
 ldI .u64 S p1.1 (p1.2 + 3 + 3) fun v2 =>
 gO x0 fun p3 =>
 ldL S p3.1 (p3.2 + 9) fun v4a v4l v4c =>
 some ((.int .u64 (IntKind.wrap .u64 (v2 + (IntKind.wrap .u64 ((v4l : Nat) : Int))))), S))

theorem a29_entry (call : CallA) (n : Nat) (x0 : Option Pos) (S : AS) : evC E call n 29 (E.at 29 []) 0 (enumT 0 [(.ptr x0)]) S (retK E (E.fn 29)) = b29_entry call n  x0 S := by kernel_rfl
def J29 (call : CallA) (n : Nat) (x0 : Option Pos) (S : AS) : Option (AV × AS) := b29_entry call n  x0 S
theorem run29 (o : Orc) (n : Nat) (args : List AV) (S : AS) (ho : o 29 args = none) : evF E o (n + 1) (.fn 29) args S = evC E (evF E o n) n 29 (E.at 29 []) 0 (enumT 0 args) S (retK E (E.fn 29)) := by
  rw [evF, ho]; kernel_rfl
theorem J29_eq (call : CallA) (n : Nat) (x0 : Option Pos) (S : AS) : evC E call n 29 (E.at 29 []) 0 (enumT 0 [(.ptr x0)]) S (retK E (E.fn 29)) = J29 call n x0 S := by
  rw [J29, a29_entry]
theorem F29 {o : Orc} (n : Nat) (x0 : Option Pos) (S : AS) (ho : ∀ args, o 29 args = none) : evF E o (n + 1) (.fn 29) [(.ptr x0)] S = J29 (evF E o n) n x0 S := (run29 o n [(.ptr x0)] S (ho _)).trans (J29_eq _ _ x0 S)
def b30_l1_1_0_1_0 (call : CallA) (n : Nat)  (l1_1_0_1_0 : Int → Option Pos → Nat → Cap → Int → AS → Option (AV × AS)) (w0 : Int) (w3a : Option Pos) (w3l : Nat) (w3c : Cap) (w4 : Int) (S : AS) : Option (AV × AS) :=
 cond (decide (w4 < ((w3l : Nat) : Int))) (
 ixSl 1 w3a w3l w4 fun p5 =>
 S.stn p5.1 p5.2 [(.int .u8 w0)] fun S6 =>
 l1_1_0_1_0 w0 w3a w3l w3c (IntKind.wrap .i64 (w4 + 1)) S6) (
 some ((.sl w3a w3l w3c), S))

def b30_entry (call : CallA) (n : Nat)  (l1_1_0_1_0 : Int → Option Pos → Nat → Cap → Int → AS → Option (AV × AS)) (x0 : Int) (S : AS) : Option (AV × AS) :=
 mkSl 1 384 384 fun l3 c4 =>
 newA S (.cells (zeros c4 [(.int .u8 0)])) fun b1 S2 =>
 l1_1_0_1_0 x0 (some (.rw b1, 0)) l3 (.ex c4) 0 S2

def r30_l1_1_0_1_0 (call : CallA) (n : Nat)  (m : Nat) (w0 : Int) (w3a : Option Pos) (w3l : Nat) (w3c : Cap) (w4 : Int) (S : AS) : Option (AV × AS) := loopN (evC E call n 30 (E.at 30 [1, 1, 0, 1, 0, 0]) 0) [0, 3, 4] m [(0, (.int .u8 w0)), (3, (.sl w3a w3l w3c)), (4, (.int .i64 w4))] S (kBlk 0 (kSeq E call n 30 (E.at 30 [1, 1, 1]) 0 (retK E (E.fn 30))))
theorem a30_l1_1_0_1_0 (call : CallA) (n : Nat)  (m : Nat) (w0 : Int) (w3a : Option Pos) (w3l : Nat) (w3c : Cap) (w4 : Int) (S : AS) : r30_l1_1_0_1_0 call n  (m + 1) w0 w3a w3l w3c w4 S = b30_l1_1_0_1_0 call n (r30_l1_1_0_1_0 call n  m) w0 w3a w3l w3c w4 S := by kernel_rfl
theorem a30_entry (call : CallA) (n : Nat) (x0 : Int) (S : AS) : evC E call n 30 (E.at 30 []) 0 (enumT 0 [(.int .u8 x0)]) S (retK E (E.fn 30)) = b30_entry call n (r30_l1_1_0_1_0 call n  n) x0 S := by kernel_rfl
def J30_l1_1_0_1_0 (call : CallA) (n : Nat)  (m : Nat) : Int → Option Pos → Nat → Cap → Int → AS → Option (AV × AS) := Nat.rec (motive := fun _ => Int → Option Pos → Nat → Cap → Int → AS → Option (AV × AS)) (fun _ _ _ _ _ _ => none) (fun mK ih w0 w3a w3l w3c w4 S => b30_l1_1_0_1_0 call n ih w0 w3a w3l w3c w4 S) m
theorem J30_l1_1_0_1_0_succ (call : CallA) (n : Nat)  (m : Nat) (w0 : Int) (w3a : Option Pos) (w3l : Nat) (w3c : Cap) (w4 : Int) (S : AS) : J30_l1_1_0_1_0 call n  (m + 1) w0 w3a w3l w3c w4 S = b30_l1_1_0_1_0 call n (J30_l1_1_0_1_0 call n  m) w0 w3a w3l w3c w4 S := rfl
theorem h30_l1_1_0_1_0 (call : CallA) (n : Nat)  (m : Nat) : r30_l1_1_0_1_0 call n  m = J30_l1_1_0_1_0 call n  m := by
  induction m with
  | zero => rfl
  | succ m ih =>
    funext w0 w3a w3l w3c w4 S
    rw [J30_l1_1_0_1_0_succ, a30_l1_1_0_1_0, ih]
def J30 (call : CallA) (n : Nat) (x0 : Int) (S : AS) : Option (AV × AS) := b30_entry call n (J30_l1_1_0_1_0 call n  n) x0 S
theorem run30 (o : Orc) (n : Nat) (args : List AV) (S : AS) (ho : o 30 args = none) : evF E o (n + 1) (.fn 30) args S = evC E (evF E o n) n 30 (E.at 30 []) 0 (enumT 0 args) S (retK E (E.fn 30)) := by
  rw [evF, ho]; kernel_rfl
theorem J30_eq (call : CallA) (n : Nat) (x0 : Int) (S : AS) : evC E call n 30 (E.at 30 []) 0 (enumT 0 [(.int .u8 x0)]) S (retK E (E.fn 30)) = J30 call n x0 S := by
  rw [J30, a30_entry, h30_l1_1_0_1_0 call n  n]
theorem F30 {o : Orc} (n : Nat) (x0 : Int) (S : AS) (ho : ∀ args, o 30 args = none) : evF E o (n + 1) (.fn 30) [(.int .u8 x0)] S = J30 (evF E o n) n x0 S := (run30 o n [(.int .u8 x0)] S (ho _)).trans (J30_eq _ _ x0 S)
def b31_entry (call : CallA) (n : Nat)   (x0 : Option Pos) (S : AS) : Option (AV × AS) :=
 cond x0.isNone (
 some ((.int .u64 0), S)) (
 gO x0 fun p1 =>
 ldI .u64 S p1.1 (p1.2 + 3 + 1) fun v2 =>
 some ((.int .u64 v2), S))

theorem a31_entry (call : CallA) (n : Nat) (x0 : Option Pos) (S : AS) : evC E call n 31 (E.at 31 []) 0 (enumT 0 [(.ptr x0)]) S (retK E (E.fn 31)) = b31_entry call n  x0 S := by kernel_rfl
def J31 (call : CallA) (n : Nat) (x0 : Option Pos) (S : AS) : Option (AV × AS) := b31_entry call n  x0 S
theorem run31 (o : Orc) (n : Nat) (args : List AV) (S : AS) (ho : o 31 args = none) : evF E o (n + 1) (.fn 31) args S = evC E (evF E o n) n 31 (E.at 31 []) 0 (enumT 0 args) S (retK E (E.fn 31)) := by
  rw [evF, ho]; kernel_rfl
theorem J31_eq (call : CallA) (n : Nat) (x0 : Option Pos) (S : AS) : evC E call n 31 (E.at 31 []) 0 (enumT 0 [(.ptr x0)]) S (retK E (E.fn 31)) = J31 call n x0 S := by
  rw [J31, a31_entry]
theorem F31 {o : Orc} (n : Nat) (x0 : Option Pos) (S : AS) (ho : ∀ args, o 31 args = none) : evF E o (n + 1) (.fn 31) [(.ptr x0)] S = J31 (evF E o n) n x0 S := (run31 o n [(.ptr x0)] S (ho _)).trans (J31_eq _ _ x0 S)
end
end Go.Jn
