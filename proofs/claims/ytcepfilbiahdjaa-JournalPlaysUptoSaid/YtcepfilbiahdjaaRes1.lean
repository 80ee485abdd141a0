/- Plain readings of the functions, and that they are what the evaluator does: by program. -/
import Derived.Test.YtcepfilbiahdjaaGrRes
import Derived.Test.YtcepfilbiahdjaaENV
import Derived.KernelRfl
set_option maxRecDepth 100000
set_option linter.unusedVariables false
namespace Go.Jn
open Go.Gr
noncomputable section
def b16_lZAa (call : CallA) (n : Nat) (lZAa : OP → Int → OP → OP → Nat → Cap → Int → Int → AS → RV) (jZAL : OP → Int → OP → AS → RV) (w0 : OP) (w5 : Int) (w6 : OP) (w56a : OP) (w56l : Nat) (w56c : Cap) (w57 : Int) (w58 : Int) (S : AS) : RV :=
 cond (decide (w58 < w57)) (
 ixSl 3 w56a w56l w58 fun p18 =>
 S.ldn p18.1 p18.2 3 fun g19 =>
 newA S (.cells [(.int .i64 0), (.int .u64 0), (.int .u64 0)]) fun b20 S21 =>
 ifO (g19.length = 3) <|
 S21.stn (.rw b20) 0 g19 fun S22 =>
 gO w6 fun p23 =>
 ldI .u64 S22 p23.1 (p23.2 + 2) fun v24 =>
 ldI .i64 S22 (.rw b20) 0 fun v25 =>
 gO w6 fun p26 =>
 S22.stn p26.1 (p26.2 + 2) [(.int .u64 (IntKind.wrap .u64 (v24 + (IntKind.wrap .u64 v25))))] fun S27 =>
 ldI .u64 S27 (.rw b20) 1 fun v28 =>
 ldI .u64 S27 (.rw b20) 2 fun v29 =>
 gO w6 fun p30 =>
 S27.stn p30.1 (p30.2 + 4) [(.int .u64 v28)] fun S31 =>
 ldI .u64 S31 (.rw b20) 2 fun v32 =>
 cond (AV.beq (.int .u64 v32) (.int .u64 v29)) (
 gO w6 fun p33 =>
 S31.stn p33.1 (p33.2 + 5) [(.int .u64 v29)] fun S34 =>
 lZAa w0 w5 w6 w56a w56l w56c w57 (IntKind.wrap .i64 (w58 + 1)) S34) none) (
 jZAL w0 w5 w6 S)
def b16_jZAL (call : CallA) (n : Nat)  (w0 : OP) (w5 : Int) (w6 : OP) (S : AS) : RV :=
 gO w6 fun p35 =>
 S.ldn p35.1 p35.2 6 fun g36 =>
 callI .i64 call 38 [(.ptr w0), (.agg g36)] S fun v38 S37 =>
 cond (v38 != 0) (
 some ((.int .i64 v38), S37)) (
 gO w0 fun p39 =>
 ldL S37 p39.1 (p39.2 + 9) fun v40a v40l v40c =>
 slSl 3 v40a v40l v40c (some w5) none none fun v41a v41l v41c =>
 callL call 39 [(.sl v41a v41l v41c)] S37 fun v43a v43l v43c S42 =>
 gO w0 fun p44 =>
 S42.stn p44.1 (p44.2 + 9) [(.sl v43a v43l v43c)] fun S45 =>
 callI .u64 call 29 [(.ptr w0)] S45 fun v47 S46 =>
 gO w0 fun p48 =>
 S46.stn p48.1 (p48.2 + 10) [(.int .u64 v47)] fun S49 =>
 some ((.int .i64 0), S49))
def b16_entry (call : CallA) (n : Nat) (lZAa : OP → Int → OP → OP → Nat → Cap → Int → Int → AS → RV) (x0 : OP) (x1 : Int) (S : AS) : RV :=
 cond x0.isNone (
 some ((.int .i64 7), S)) (
 gO x0 fun p1 =>
 ldI .u64 S p1.1 (p1.2 + 10) fun v2 =>
 cond (decide (x1 > v2)) (
 some ((.int .i64 2), S)) (
 gO x0 fun p3 =>
 ldI .u64 S p3.1 (p3.2 + 3 + 3) fun v4 =>
 cond (decide (x1 < v4)) (
 some ((.int .i64 2), S)) (
 gO x0 fun p5 =>
 ldI .u64 S p5.1 (p5.2 + 3 + 3) fun v6 =>
 cond (x1 == v6) (
 some ((.int .i64 0), S)) (
 gO x0 fun p7 =>
 ldI .u64 S p7.1 (p7.2 + 3 + 3) fun v8 =>
 gO x0 fun p9 =>
 S.ldn p9.1 (p9.2 + 3) 6 fun g10 =>
 newA S (.cells [(.int .u64 0), (.int .u64 0), (.int .u64 0), (.int .u64 0), (.int .u64 0), (.int .u64 0)]) fun b11 S12 =>
 ifO (g10.length = 6) <|
 S12.stn (.rw b11) 0 g10 fun S13 =>
 S13.stn (.rw b11) 3 [(.int .u64 x1)] fun S14 =>
 gO x0 fun p15 =>
 ldL S14 p15.1 (p15.2 + 9) fun v16a v16l v16c =>
 slSl 3 v16a v16l v16c none (some (IntKind.wrap .i64 (IntKind.wrap .u64 (x1 - v8)))) none fun v17a v17l v17c =>
 lZAa x0 (IntKind.wrap .i64 (IntKind.wrap .u64 (x1 - v8))) (some ((.rw b11), 0)) v17a v17l v17c ((v17l : Nat) : Int) 0 S14))))
def r16_lZAa (call : CallA) (n : Nat) (m : Nat) (w0 : OP) (w5 : Int) (w6 : OP) (w56a : OP) (w56l : Nat) (w56c : Cap) (w57 : Int) (w58 : Int) (S : AS) : RV := loopN (evC E call n 16 (E.at 16 [1, 1, 1, 1, 1, 0, 1, 0, 0]) 1) [0, 5, 6, 56, 57, 58] m [(0, (.ptr w0)), (5, (.int .i64 w5)), (6, (.ptr w6)), (56, (.sl w56a w56l w56c)), (57, (.int .i64 w57)), (58, (.int .i64 w58))] S (kBlk 1 (kSeq E call n 16 (E.at 16 [1, 1, 1, 1, 1, 1]) 0 (retK E (E.fn 16))))
def r16_jZAL (call : CallA) (n : Nat) (w0 : OP) (w5 : Int) (w6 : OP) (S : AS) : RV := evC E call n 16 (E.at 16 [1, 1, 1, 1, 1, 1]) 0 [(0, (.ptr w0)), (5, (.int .i64 w5)), (6, (.ptr w6))] S (retK E (E.fn 16))
theorem a16_lZAa (call : CallA) (n : Nat) (m : Nat) (w0 : OP) (w5 : Int) (w6 : OP) (w56a : OP) (w56l : Nat) (w56c : Cap) (w57 : Int) (w58 : Int) (S : AS) : r16_lZAa call n (m + 1) w0 w5 w6 w56a w56l w56c w57 w58 S = b16_lZAa call n (r16_lZAa call n m) (r16_jZAL call n ) w0 w5 w6 w56a w56l w56c w57 w58 S := by kernel_rfl
theorem a16_jZAL (call : CallA) (n : Nat) (w0 : OP) (w5 : Int) (w6 : OP) (S : AS) : r16_jZAL call n w0 w5 w6 S = b16_jZAL call n w0 w5 w6 S := by kernel_rfl
theorem a16_entry (call : CallA) (n : Nat) (x0 : OP) (x1 : Int) (S : AS) : evC E call n 16 (E.at 16 []) 0 (enumT 0 [(.ptr x0), (.int .u64 x1)]) S (retK E (E.fn 16)) = b16_entry call n (r16_lZAa call n n) x0 x1 S := by kernel_rfl
def J16_jZAL (call : CallA) (n : Nat) (w0 : OP) (w5 : Int) (w6 : OP) (S : AS) : RV := b16_jZAL call n w0 w5 w6 S
theorem h16_jZAL (call : CallA) (n : Nat) : r16_jZAL call n = J16_jZAL call n := by
 funext w0 w5 w6 S
 rw [J16_jZAL, a16_jZAL]
def J16_lZAa (call : CallA) (n : Nat) (m : Nat) : OP → Int → OP → OP → Nat → Cap → Int → Int → AS → RV := Nat.rec (motive := fun _ => OP → Int → OP → OP → Nat → Cap → Int → Int → AS → RV) (fun _ _ _ _ _ _ _ _ _ => none) (fun mK ih w0 w5 w6 w56a w56l w56c w57 w58 S => b16_lZAa call n ih (J16_jZAL call n ) w0 w5 w6 w56a w56l w56c w57 w58 S) m
theorem J16_lZAa_succ (call : CallA) (n : Nat) (m : Nat) (w0 : OP) (w5 : Int) (w6 : OP) (w56a : OP) (w56l : Nat) (w56c : Cap) (w57 : Int) (w58 : Int) (S : AS) : J16_lZAa call n (m + 1) w0 w5 w6 w56a w56l w56c w57 w58 S = b16_lZAa call n (J16_lZAa call n m) (J16_jZAL call n ) w0 w5 w6 w56a w56l w56c w57 w58 S := rfl
theorem h16_lZAa (call : CallA) (n : Nat) (m : Nat) : r16_lZAa call n m = J16_lZAa call n m := by
 induction m with
 | zero => rfl
 | succ m ih =>
  funext w0 w5 w6 w56a w56l w56c w57 w58 S
  rw [J16_lZAa_succ, a16_lZAa, h16_jZAL call n , ih]
def J16 (call : CallA) (n : Nat) (x0 : OP) (x1 : Int) (S : AS) : RV := b16_entry call n (J16_lZAa call n n) x0 x1 S
theorem run16 (o : Orc) (n : Nat) (args : List AV) (S : AS) (ho : o 16 args = none) : evF E o (n + 1) (.fn 16) args S = evC E (evF E o n) n 16 (E.at 16 []) 0 (enumT 0 args) S (retK E (E.fn 16)) := by
 rw [evF, ho]; kernel_rfl
theorem J16_eq (call : CallA) (n : Nat) (x0 : OP) (x1 : Int) (S : AS) : evC E call n 16 (E.at 16 []) 0 (enumT 0 [(.ptr x0), (.int .u64 x1)]) S (retK E (E.fn 16)) = J16 call n x0 x1 S := by
 rw [J16, a16_entry, h16_lZAa call n n]
theorem F16 {o : Orc} (n : Nat) (x0 : OP) (x1 : Int) (S : AS) (ho : ∀ args, o 16 args = none) : evF E o (n + 1) (.fn 16) [(.ptr x0), (.int .u64 x1)] S = J16 (evF E o n) n x0 x1 S := (run16 o n [(.ptr x0), (.int .u64 x1)] S (ho _)).trans (J16_eq _ _ x0 x1 S)
def b17_lZAW (call : CallA) (n : Nat) (lZAW : Int → OP → Nat → Cap → Int → Int → AS → RV) (w3 : Int) (w16a : OP) (w16l : Nat) (w16c : Cap) (w17 : Int) (w18 : Int) (S : AS) : RV :=
 cond (decide (w18 < w17)) (
 ixSl 3 w16a w16l w18 fun p5 =>
 S.ldn p5.1 p5.2 3 fun g6 =>
 newA S (.cells [(.int .i64 0), (.int .u64 0), (.int .u64 0)]) fun b7 S8 =>
 ifO (g6.length = 3) <|
 S8.stn (.rw b7) 0 g6 fun S9 =>
 ldI .i64 S9 (.rw b7) 0 fun v10 =>
 lZAW (IntKind.wrap .i64 (w3 - v10)) w16a w16l w16c w17 (IntKind.wrap .i64 (w18 + 1)) S9) (
 some ((.int .i64 w3), S))
def b17_entry (call : CallA) (n : Nat) (lZAW : Int → OP → Nat → Cap → Int → Int → AS → RV) (x0 : OP) (S : AS) : RV :=
 cond x0.isNone (
 some ((.int .i64 0), S)) (
 gO x0 fun p1 =>
 ldI .i64 S p1.1 (p1.2 + 2) fun v2 =>
 gO x0 fun p3 =>
 ldL S p3.1 (p3.2 + 9) fun v4a v4l v4c =>
 lZAW (IntKind.wrap .i64 (v2 - 2)) v4a v4l v4c ((v4l : Nat) : Int) 0 S)
def r17_lZAW (call : CallA) (n : Nat) (m : Nat) (w3 : Int) (w16a : OP) (w16l : Nat) (w16c : Cap) (w17 : Int) (w18 : Int) (S : AS) : RV := loopN (evC E call n 17 (E.at 17 [1, 1, 1, 0, 1, 0, 0]) 0) [3, 16, 17, 18] m [(3, (.int .i64 w3)), (16, (.sl w16a w16l w16c)), (17, (.int .i64 w17)), (18, (.int .i64 w18))] S (kBlk 0 (kSeq E call n 17 (E.at 17 [1, 1, 1, 1]) 0 (retK E (E.fn 17))))
theorem a17_lZAW (call : CallA) (n : Nat) (m : Nat) (w3 : Int) (w16a : OP) (w16l : Nat) (w16c : Cap) (w17 : Int) (w18 : Int) (S : AS) : r17_lZAW call n (m + 1) w3 w16a w16l w16c w17 w18 S = b17_lZAW call n (r17_lZAW call n m) w3 w16a w16l w16c w17 w18 S := by kernel_rfl
theorem a17_entry (call : CallA) (n : Nat) (x0 : OP) (S : AS) : evC E call n 17 (E.at 17 []) 0 (enumT 0 [(.ptr x0)]) S (retK E (E.fn 17)) = b17_entry call n (r17_lZAW call n n) x0 S := by kernel_rfl
def J17_lZAW (call : CallA) (n : Nat) (m : Nat) : Int → OP → Nat → Cap → Int → Int → AS → RV := Nat.rec (motive := fun _ => Int → OP → Nat → Cap → Int → Int → AS → RV) (fun _ _ _ _ _ _ _ => none) (fun mK ih w3 w16a w16l w16c w17 w18 S => b17_lZAW call n ih w3 w16a w16l w16c w17 w18 S) m
theorem J17_lZAW_succ (call : CallA) (n : Nat) (m : Nat) (w3 : Int) (w16a : OP) (w16l : Nat) (w16c : Cap) (w17 : Int) (w18 : Int) (S : AS) : J17_lZAW call n (m + 1) w3 w16a w16l w16c w17 w18 S = b17_lZAW call n (J17_lZAW call n m) w3 w16a w16l w16c w17 w18 S := rfl
theorem h17_lZAW (call : CallA) (n : Nat) (m : Nat) : r17_lZAW call n m = J17_lZAW call n m := by
 induction m with
 | zero => rfl
 | succ m ih =>
  funext w3 w16a w16l w16c w17 w18 S
  rw [J17_lZAW_succ, a17_lZAW, ih]
def J17 (call : CallA) (n : Nat) (x0 : OP) (S : AS) : RV := b17_entry call n (J17_lZAW call n n) x0 S
theorem run17 (o : Orc) (n : Nat) (args : List AV) (S : AS) (ho : o 17 args = none) : evF E o (n + 1) (.fn 17) args S = evC E (evF E o n) n 17 (E.at 17 []) 0 (enumT 0 args) S (retK E (E.fn 17)) := by
 rw [evF, ho]; kernel_rfl
theorem J17_eq (call : CallA) (n : Nat) (x0 : OP) (S : AS) : evC E call n 17 (E.at 17 []) 0 (enumT 0 [(.ptr x0)]) S (retK E (E.fn 17)) = J17 call n x0 S := by
 rw [J17, a17_entry, h17_lZAW call n n]
theorem F17 {o : Orc} (n : Nat) (x0 : OP) (S : AS) (ho : ∀ args, o 17 args = none) : evF E o (n + 1) (.fn 17) [(.ptr x0)] S = J17 (evF E o n) n x0 S := (run17 o n [(.ptr x0)] S (ho _)).trans (J17_eq _ _ x0 S)
def b18_lZAW (call : CallA) (n : Nat) (lZAW : Int → List UInt8 → OP → Int → AS → RV) (w0 : Int) (w3 : List UInt8) (w4 : OP) (w5 : Int) (S : AS) : RV :=
 cond (decide (w5 < w0)) (
 gO w4 fun p8 =>
 ldL S p8.1 p8.2 fun v9a v9l v9c =>
 newA S (.cells [(.str w3)]) fun b10 S11 =>
 appendA 1 16 S11 v9a v9l v9c 1 (firstA S11 1 1 (.sl (some (.rw b10, 0)) 1 (.ex 1))) fun v12a v12l v12c S13 =>
 gO w4 fun p14 =>
 S13.stn p14.1 p14.2 [(.sl v12a v12l v12c)] fun S15 =>
 lZAW w0 w3 w4 (IntKind.wrap .i64 (w5 + 1)) S15) (
 some ((.ptr w4), S))
def b18_entry (call : CallA) (n : Nat) (lZAW : Int → List UInt8 → OP → Int → AS → RV) (x0 : Int) (S : AS) : RV :=
 mkSl 1 384 384 fun l3 c4 =>
 newA S (.cells (zeros c4 [(.int .u8 0)])) fun b1 S2 =>
 bytesStr S2 (some (.rw b1, 0)) l3 fun s5 =>
 newA S2 (.cells [(.sl none 0 (.ex 0)), (.sl none 0 (.ex 0)), (.int .i64 (-1))]) fun b6 S7 =>
 lZAW x0 s5 (some ((.rw b6), 0)) 0 S7
def r18_lZAW (call : CallA) (n : Nat) (m : Nat) (w0 : Int) (w3 : List UInt8) (w4 : OP) (w5 : Int) (S : AS) : RV := loopN (evC E call n 18 (E.at 18 [1, 1, 1, 0, 1, 0, 0]) 0) [0, 3, 4, 5] m [(0, (.int .i64 w0)), (3, (.str w3)), (4, (.ptr w4)), (5, (.int .i64 w5))] S (kBlk 0 (kSeq E call n 18 (E.at 18 [1, 1, 1, 1]) 0 (retK E (E.fn 18))))
theorem a18_lZAW (call : CallA) (n : Nat) (m : Nat) (w0 : Int) (w3 : List UInt8) (w4 : OP) (w5 : Int) (S : AS) : r18_lZAW call n (m + 1) w0 w3 w4 w5 S = b18_lZAW call n (r18_lZAW call n m) w0 w3 w4 w5 S := by kernel_rfl
theorem a18_entry (call : CallA) (n : Nat) (x0 : Int) (S : AS) : evC E call n 18 (E.at 18 []) 0 (enumT 0 [(.int .i64 x0)]) S (retK E (E.fn 18)) = b18_entry call n (r18_lZAW call n n) x0 S := by kernel_rfl
def J18_lZAW (call : CallA) (n : Nat) (m : Nat) : Int → List UInt8 → OP → Int → AS → RV := Nat.rec (motive := fun _ => Int → List UInt8 → OP → Int → AS → RV) (fun _ _ _ _ _ => none) (fun mK ih w0 w3 w4 w5 S => b18_lZAW call n ih w0 w3 w4 w5 S) m
theorem J18_lZAW_succ (call : CallA) (n : Nat) (m : Nat) (w0 : Int) (w3 : List UInt8) (w4 : OP) (w5 : Int) (S : AS) : J18_lZAW call n (m + 1) w0 w3 w4 w5 S = b18_lZAW call n (J18_lZAW call n m) w0 w3 w4 w5 S := rfl
theorem h18_lZAW (call : CallA) (n : Nat) (m : Nat) : r18_lZAW call n m = J18_lZAW call n m := by
 induction m with
 | zero => rfl
 | succ m ih =>
  funext w0 w3 w4 w5 S
  rw [J18_lZAW_succ, a18_lZAW, ih]
def J18 (call : CallA) (n : Nat) (x0 : Int) (S : AS) : RV := b18_entry call n (J18_lZAW call n n) x0 S
theorem run18 (o : Orc) (n : Nat) (args : List AV) (S : AS) (ho : o 18 args = none) : evF E o (n + 1) (.fn 18) args S = evC E (evF E o n) n 18 (E.at 18 []) 0 (enumT 0 args) S (retK E (E.fn 18)) := by
 rw [evF, ho]; kernel_rfl
theorem J18_eq (call : CallA) (n : Nat) (x0 : Int) (S : AS) : evC E call n 18 (E.at 18 []) 0 (enumT 0 [(.int .i64 x0)]) S (retK E (E.fn 18)) = J18 call n x0 S := by
 rw [J18, a18_entry, h18_lZAW call n n]
theorem F18 {o : Orc} (n : Nat) (x0 : Int) (S : AS) (ho : ∀ args, o 18 args = none) : evF E o (n + 1) (.fn 18) [(.int .i64 x0)] S = J18 (evF E o n) n x0 S := (run18 o n [(.int .i64 x0)] S (ho _)).trans (J18_eq _ _ x0 S)
def b19_lZAS (call : CallA) (n : Nat) (lZAS : AV → Int → Int → Int → Int → AS → RV) (jZAF : AV → Int → AS → RV) (w0 : AV) (w1 : Int) (w2 : Int) (w6 : Int) (w8 : Int) (S : AS) : RV :=
 cond (decide (w8 < (IntKind.wrap .i64 (w1 + w2)))) (
 drawA S 8 fun b3 S4 =>
 mkSl 1 384 384 fun l5 c6 =>
 mthV w0 "Write" fun v7 =>
 nilV E v7 fun v8 =>
 layA S4 (b3 + 2) (.cells (zeros c6 [(.int .u8 0)])) fun S9 =>
 invV E call w0 "Write" [(.int .i64 w8), (.sl (some (.rw (b3 + 2), 0)) l5 (.ex c6))] S9 fun v11 S10 =>
 gIk .i64 v11 fun v12 =>
 cond (v12 != 0) (
 some ((.int .i64 v12), S10)) (
 lZAS w0 w1 w2 w6 (IntKind.wrap .i64 (w8 + 1)) S10)) (
 jZAF w0 w1 S)
def b19_jZAF (call : CallA) (n : Nat) (lZAZ : AV → Int → AV → Int → AS → RV) (w0 : AV) (w1 : Int) (S : AS) : RV :=
 invV E call w0 "Flush" [] S fun v14 S13 =>
 gIk .i64 v14 fun v15 =>
 cond (v15 != 0) (
 some ((.int .i64 v15), S13)) (
 lZAZ w0 w1 .undef 0 S13)
def b19_lZAZ (call : CallA) (n : Nat) (lZAZ : AV → Int → AV → Int → AS → RV) (jZAK : AV → AS → RV) (w0 : AV) (w1 : Int) (w6 : AV) (w46 : Int) (S : AS) : RV :=
 cond (decide (w46 < 2)) (
 callT call 41 [(.agg [(.int .u64 (IntKind.wrap .u64 (IntKind.wrap .i64 (w46 + 1)))), (.int .u64 1), (.int .u64 0), (.int .u64 0), (.int .u64 0), (.int .u64 0)])] S fun v17 S16 =>
 atL v17 0 fun v18a v18l v18c =>
 atI .i64 v17 1 fun v19 =>
 invV E call w0 "Write" [(.int .i64 (IntKind.wrap .i64 (w1 + w46))), (.sl v18a v18l v18c)] S16 fun v21 S20 =>
 gIk .i64 v21 fun v22 =>
 cond (v22 != 0) (
 some ((.int .i64 v22), S20)) (
 lZAZ w0 w1 w6 (IntKind.wrap .i64 (w46 + 1)) S20)) (
 jZAK w0 S)
def b19_jZAK (call : CallA) (n : Nat)  (w0 : AV) (S : AS) : RV :=
 invV E call w0 "Flush" [] S fun v24 S23 =>
 gIk .i64 v24 fun v25 =>
 some ((.int .i64 v25), S23)
def b19_entry (call : CallA) (n : Nat) (lZAS : AV → Int → Int → Int → Int → AS → RV) (x0 : AV) (x1 : Int) (x2 : Int) (S : AS) : RV :=
 callI .i64 call 40 [x0, (.int .i64 x1), (.int .i64 x2)] S fun v2 S1 =>
 cond (v2 != 0) (
 some ((.int .i64 v2), S1)) (
 lZAS x0 x1 x2 0 (IntKind.wrap .i64 (x1 + 2)) S1)
def r19_lZAS (call : CallA) (n : Nat) (m : Nat) (w0 : AV) (w1 : Int) (w2 : Int) (w6 : Int) (w8 : Int) (S : AS) : RV := loopN (evC E call n 19 (E.at 19 [1, 1, 0, 1, 0, 0]) 0) [0, 1, 2, 6, 8] m [(0, w0), (1, (.int .i64 w1)), (2, (.int .i64 w2)), (6, (.int .i64 w6)), (8, (.int .i64 w8))] S (kBlk 0 (kSeq E call n 19 (E.at 19 [1, 1, 1]) 0 (retK E (E.fn 19))))
def r19_jZAF (call : CallA) (n : Nat) (w0 : AV) (w1 : Int) (S : AS) : RV := evC E call n 19 (E.at 19 [1, 1, 1]) 0 [(0, w0), (1, (.int .i64 w1))] S (retK E (E.fn 19))
def r19_lZAZ (call : CallA) (n : Nat) (m : Nat) (w0 : AV) (w1 : Int) (w6 : AV) (w46 : Int) (S : AS) : RV := loopN (evC E call n 19 (E.at 19 [1, 1, 1, 1, 0, 1, 0, 0]) 2) [0, 1, 6, 46] m [(0, w0), (1, (.int .i64 w1)), (6, w6), (46, (.int .i64 w46))] S (kBlk 2 (kSeq E call n 19 (E.at 19 [1, 1, 1, 1, 1]) 0 (retK E (E.fn 19))))
def r19_jZAK (call : CallA) (n : Nat) (w0 : AV) (S : AS) : RV := evC E call n 19 (E.at 19 [1, 1, 1, 1, 1]) 0 [(0, w0)] S (retK E (E.fn 19))
theorem a19_lZAS (call : CallA) (n : Nat) (m : Nat) (w0 : AV) (w1 : Int) (w2 : Int) (w6 : Int) (w8 : Int) (S : AS) : r19_lZAS call n (m + 1) w0 w1 w2 w6 w8 S = b19_lZAS call n (r19_lZAS call n m) (r19_jZAF call n ) w0 w1 w2 w6 w8 S := by kernel_rfl
theorem a19_jZAF (call : CallA) (n : Nat) (w0 : AV) (w1 : Int) (S : AS) : r19_jZAF call n w0 w1 S = b19_jZAF call n (r19_lZAZ call n n) w0 w1 S := by kernel_rfl
theorem a19_lZAZ (call : CallA) (n : Nat) (m : Nat) (w0 : AV) (w1 : Int) (w6 : AV) (w46 : Int) (S : AS) : r19_lZAZ call n (m + 1) w0 w1 w6 w46 S = b19_lZAZ call n (r19_lZAZ call n m) (r19_jZAK call n ) w0 w1 w6 w46 S := by kernel_rfl
theorem a19_jZAK (call : CallA) (n : Nat) (w0 : AV) (S : AS) : r19_jZAK call n w0 S = b19_jZAK call n w0 S := by kernel_rfl
theorem a19_entry (call : CallA) (n : Nat) (x0 : AV) (x1 : Int) (x2 : Int) (S : AS) : evC E call n 19 (E.at 19 []) 0 (enumT 0 [x0, (.int .i64 x1), (.int .i64 x2)]) S (retK E (E.fn 19)) = b19_entry call n (r19_lZAS call n n) x0 x1 x2 S := by kernel_rfl
def J19_jZAK (call : CallA) (n : Nat) (w0 : AV) (S : AS) : RV := b19_jZAK call n w0 S
theorem h19_jZAK (call : CallA) (n : Nat) : r19_jZAK call n = J19_jZAK call n := by
 funext w0 S
 rw [J19_jZAK, a19_jZAK]
def J19_lZAZ (call : CallA) (n : Nat) (m : Nat) : AV → Int → AV → Int → AS → RV := Nat.rec (motive := fun _ => AV → Int → AV → Int → AS → RV) (fun _ _ _ _ _ => none) (fun mK ih w0 w1 w6 w46 S => b19_lZAZ call n ih (J19_jZAK call n ) w0 w1 w6 w46 S) m
theorem J19_lZAZ_succ (call : CallA) (n : Nat) (m : Nat) (w0 : AV) (w1 : Int) (w6 : AV) (w46 : Int) (S : AS) : J19_lZAZ call n (m + 1) w0 w1 w6 w46 S = b19_lZAZ call n (J19_lZAZ call n m) (J19_jZAK call n ) w0 w1 w6 w46 S := rfl
theorem h19_lZAZ (call : CallA) (n : Nat) (m : Nat) : r19_lZAZ call n m = J19_lZAZ call n m := by
 induction m with
 | zero => rfl
 | succ m ih =>
  funext w0 w1 w6 w46 S
  rw [J19_lZAZ_succ, a19_lZAZ, h19_jZAK call n , ih]
def J19_jZAF (call : CallA) (n : Nat) (w0 : AV) (w1 : Int) (S : AS) : RV := b19_jZAF call n (J19_lZAZ call n n) w0 w1 S
theorem h19_jZAF (call : CallA) (n : Nat) : r19_jZAF call n = J19_jZAF call n := by
 funext w0 w1 S
 rw [J19_jZAF, a19_jZAF, h19_lZAZ call n n]
def J19_lZAS (call : CallA) (n : Nat) (m : Nat) : AV → Int → Int → Int → Int → AS → RV := Nat.rec (motive := fun _ => AV → Int → Int → Int → Int → AS → RV) (fun _ _ _ _ _ _ => none) (fun mK ih w0 w1 w2 w6 w8 S => b19_lZAS call n ih (J19_jZAF call n ) w0 w1 w2 w6 w8 S) m
theorem J19_lZAS_succ (call : CallA) (n : Nat) (m : Nat) (w0 : AV) (w1 : Int) (w2 : Int) (w6 : Int) (w8 : Int) (S : AS) : J19_lZAS call n (m + 1) w0 w1 w2 w6 w8 S = b19_lZAS call n (J19_lZAS call n m) (J19_jZAF call n ) w0 w1 w2 w6 w8 S := rfl
theorem h19_lZAS (call : CallA) (n : Nat) (m : Nat) : r19_lZAS call n m = J19_lZAS call n m := by
 induction m with
 | zero => rfl
 | succ m ih =>
  funext w0 w1 w2 w6 w8 S
  rw [J19_lZAS_succ, a19_lZAS, h19_jZAF call n , ih]
def J19 (call : CallA) (n : Nat) (x0 : AV) (x1 : Int) (x2 : Int) (S : AS) : RV := b19_entry call n (J19_lZAS call n n) x0 x1 x2 S
theorem run19 (o : Orc) (n : Nat) (args : List AV) (S : AS) (ho : o 19 args = none) : evF E o (n + 1) (.fn 19) args S = evC E (evF E o n) n 19 (E.at 19 []) 0 (enumT 0 args) S (retK E (E.fn 19)) := by
 rw [evF, ho]; kernel_rfl
theorem J19_eq (call : CallA) (n : Nat) (x0 : AV) (x1 : Int) (x2 : Int) (S : AS) : evC E call n 19 (E.at 19 []) 0 (enumT 0 [x0, (.int .i64 x1), (.int .i64 x2)]) S (retK E (E.fn 19)) = J19 call n x0 x1 x2 S := by
 rw [J19, a19_entry, h19_lZAS call n n]
theorem F19 {o : Orc} (n : Nat) (x0 : AV) (x1 : Int) (x2 : Int) (S : AS) (ho : ∀ args, o 19 args = none) : evF E o (n + 1) (.fn 19) [x0, (.int .i64 x1), (.int .i64 x2)] S = J19 (evF E o n) n x0 x1 x2 S := (run19 o n [x0, (.int .i64 x1), (.int .i64 x2)] S (ho _)).trans (J19_eq _ _ x0 x1 x2 S)
def b20_lZAW (call : CallA) (n : Nat) (lZAW : OP → Int → Int → Int → Int → AS → RV) (jZAJ : OP → Int → AS → RV) (w0 : OP) (w1 : Int) (w2 : Int) (w6 : Int) (w8 : Int) (S : AS) : RV :=
 cond (decide (w8 < w2)) (
 mkSl 1 384 384 fun l5 c6 =>
 newA S (.cells (zeros c6 [(.int .u8 0)])) fun b3 S4 =>
 callI .i64 call 43 [(.ptr w0), (.int .i64 (IntKind.wrap .i64 (w1 + w8))), (.sl (some (.rw b3, 0)) l5 (.ex c6))] S4 fun v8 S7 =>
 cond (v8 != 0) (
 some ((.int .i64 v8), S7)) (
 lZAW w0 w1 w2 w6 (IntKind.wrap .i64 (w8 + 1)) S7)) (
 jZAJ w0 w1 S)
def b20_jZAJ (call : CallA) (n : Nat) (lZAa : OP → Int → AV → Int → AS → RV) (w0 : OP) (w1 : Int) (S : AS) : RV :=
 callI .i64 call 44 [(.ptr w0)] S fun v10 S9 =>
 lZAa w0 w1 .undef 0 S9
def b20_lZAa (call : CallA) (n : Nat) (lZAa : OP → Int → AV → Int → AS → RV) (jZAL : OP → AS → RV) (w0 : OP) (w1 : Int) (w6 : AV) (w10 : Int) (S : AS) : RV :=
 cond (decide (w10 < 2)) (
 callT call 45 [(.agg [(.int .u64 (IntKind.wrap .u64 (IntKind.wrap .i64 (w10 + 1)))), (.int .u64 1), (.int .u64 0), (.int .u64 0), (.int .u64 0), (.int .u64 0)])] S fun v12 S11 =>
 atL v12 0 fun v13a v13l v13c =>
 atI .i64 v12 1 fun v14 =>
 callI .i64 call 43 [(.ptr w0), (.int .i64 (IntKind.wrap .i64 (w1 + w10))), (.sl v13a v13l v13c)] S11 fun v16 S15 =>
 cond (v16 != 0) (
 some ((.int .i64 v16), S15)) (
 lZAa w0 w1 w6 (IntKind.wrap .i64 (w10 + 1)) S15)) (
 jZAL w0 S)
def b20_jZAL (call : CallA) (n : Nat)  (w0 : OP) (S : AS) : RV :=
 callI .i64 call 44 [(.ptr w0)] S fun v18 S17 =>
 some ((.int .i64 0), S17)
def b20_entry (call : CallA) (n : Nat) (lZAW : OP → Int → Int → Int → Int → AS → RV) (x0 : OP) (x1 : Int) (x2 : Int) (S : AS) : RV :=
 callI .i64 call 42 [(.ptr x0), (.int .i64 x1), (.int .i64 x2)] S fun v2 S1 =>
 cond (v2 != 0) (
 some ((.int .i64 v2), S1)) (
 lZAW x0 x1 x2 0 2 S1)
def r20_lZAW (call : CallA) (n : Nat) (m : Nat) (w0 : OP) (w1 : Int) (w2 : Int) (w6 : Int) (w8 : Int) (S : AS) : RV := loopN (evC E call n 20 (E.at 20 [1, 1, 1, 0, 1, 0, 0]) 0) [0, 1, 2, 6, 8] m [(0, (.ptr w0)), (1, (.int .i64 w1)), (2, (.int .i64 w2)), (6, (.int .i64 w6)), (8, (.int .i64 w8))] S (kBlk 0 (kSeq E call n 20 (E.at 20 [1, 1, 1, 1]) 0 (retK E (E.fn 20))))
def r20_jZAJ (call : CallA) (n : Nat) (w0 : OP) (w1 : Int) (S : AS) : RV := evC E call n 20 (E.at 20 [1, 1, 1, 1]) 0 [(0, (.ptr w0)), (1, (.int .i64 w1))] S (retK E (E.fn 20))
def r20_lZAa (call : CallA) (n : Nat) (m : Nat) (w0 : OP) (w1 : Int) (w6 : AV) (w10 : Int) (S : AS) : RV := loopN (evC E call n 20 (E.at 20 [1, 1, 1, 1, 1, 0, 1, 0, 0]) 2) [0, 1, 6, 10] m [(0, (.ptr w0)), (1, (.int .i64 w1)), (6, w6), (10, (.int .i64 w10))] S (kBlk 2 (kSeq E call n 20 (E.at 20 [1, 1, 1, 1, 1, 1]) 0 (retK E (E.fn 20))))
def r20_jZAL (call : CallA) (n : Nat) (w0 : OP) (S : AS) : RV := evC E call n 20 (E.at 20 [1, 1, 1, 1, 1, 1]) 0 [(0, (.ptr w0))] S (retK E (E.fn 20))
theorem a20_lZAW (call : CallA) (n : Nat) (m : Nat) (w0 : OP) (w1 : Int) (w2 : Int) (w6 : Int) (w8 : Int) (S : AS) : r20_lZAW call n (m + 1) w0 w1 w2 w6 w8 S = b20_lZAW call n (r20_lZAW call n m) (r20_jZAJ call n ) w0 w1 w2 w6 w8 S := by kernel_rfl
theorem a20_jZAJ (call : CallA) (n : Nat) (w0 : OP) (w1 : Int) (S : AS) : r20_jZAJ call n w0 w1 S = b20_jZAJ call n (r20_lZAa call n n) w0 w1 S := by kernel_rfl
theorem a20_lZAa (call : CallA) (n : Nat) (m : Nat) (w0 : OP) (w1 : Int) (w6 : AV) (w10 : Int) (S : AS) : r20_lZAa call n (m + 1) w0 w1 w6 w10 S = b20_lZAa call n (r20_lZAa call n m) (r20_jZAL call n ) w0 w1 w6 w10 S := by kernel_rfl
theorem a20_jZAL (call : CallA) (n : Nat) (w0 : OP) (S : AS) : r20_jZAL call n w0 S = b20_jZAL call n w0 S := by kernel_rfl
theorem a20_entry (call : CallA) (n : Nat) (x0 : OP) (x1 : Int) (x2 : Int) (S : AS) : evC E call n 20 (E.at 20 []) 0 (enumT 0 [(.ptr x0), (.int .i64 x1), (.int .i64 x2)]) S (retK E (E.fn 20)) = b20_entry call n (r20_lZAW call n n) x0 x1 x2 S := by kernel_rfl
def J20_jZAL (call : CallA) (n : Nat) (w0 : OP) (S : AS) : RV := b20_jZAL call n w0 S
theorem h20_jZAL (call : CallA) (n : Nat) : r20_jZAL call n = J20_jZAL call n := by
 funext w0 S
 rw [J20_jZAL, a20_jZAL]
def J20_lZAa (call : CallA) (n : Nat) (m : Nat) : OP → Int → AV → Int → AS → RV := Nat.rec (motive := fun _ => OP → Int → AV → Int → AS → RV) (fun _ _ _ _ _ => none) (fun mK ih w0 w1 w6 w10 S => b20_lZAa call n ih (J20_jZAL call n ) w0 w1 w6 w10 S) m
theorem J20_lZAa_succ (call : CallA) (n : Nat) (m : Nat) (w0 : OP) (w1 : Int) (w6 : AV) (w10 : Int) (S : AS) : J20_lZAa call n (m + 1) w0 w1 w6 w10 S = b20_lZAa call n (J20_lZAa call n m) (J20_jZAL call n ) w0 w1 w6 w10 S := rfl
theorem h20_lZAa (call : CallA) (n : Nat) (m : Nat) : r20_lZAa call n m = J20_lZAa call n m := by
 induction m with
 | zero => rfl
 | succ m ih =>
  funext w0 w1 w6 w10 S
  rw [J20_lZAa_succ, a20_lZAa, h20_jZAL call n , ih]
def J20_jZAJ (call : CallA) (n : Nat) (w0 : OP) (w1 : Int) (S : AS) : RV := b20_jZAJ call n (J20_lZAa call n n) w0 w1 S
theorem h20_jZAJ (call : CallA) (n : Nat) : r20_jZAJ call n = J20_jZAJ call n := by
 funext w0 w1 S
 rw [J20_jZAJ, a20_jZAJ, h20_lZAa call n n]
def J20_lZAW (call : CallA) (n : Nat) (m : Nat) : OP → Int → Int → Int → Int → AS → RV := Nat.rec (motive := fun _ => OP → Int → Int → Int → Int → AS → RV) (fun _ _ _ _ _ _ => none) (fun mK ih w0 w1 w2 w6 w8 S => b20_lZAW call n ih (J20_jZAJ call n ) w0 w1 w2 w6 w8 S) m
theorem J20_lZAW_succ (call : CallA) (n : Nat) (m : Nat) (w0 : OP) (w1 : Int) (w2 : Int) (w6 : Int) (w8 : Int) (S : AS) : J20_lZAW call n (m + 1) w0 w1 w2 w6 w8 S = b20_lZAW call n (J20_lZAW call n m) (J20_jZAJ call n ) w0 w1 w2 w6 w8 S := rfl
theorem h20_lZAW (call : CallA) (n : Nat) (m : Nat) : r20_lZAW call n m = J20_lZAW call n m := by
 induction m with
 | zero => rfl
 | succ m ih =>
  funext w0 w1 w2 w6 w8 S
  rw [J20_lZAW_succ, a20_lZAW, h20_jZAJ call n , ih]
def J20 (call : CallA) (n : Nat) (x0 : OP) (x1 : Int) (x2 : Int) (S : AS) : RV := b20_entry call n (J20_lZAW call n n) x0 x1 x2 S
theorem run20 (o : Orc) (n : Nat) (args : List AV) (S : AS) (ho : o 20 args = none) : evF E o (n + 1) (.fn 20) args S = evC E (evF E o n) n 20 (E.at 20 []) 0 (enumT 0 args) S (retK E (E.fn 20)) := by
 rw [evF, ho]; kernel_rfl
theorem J20_eq (call : CallA) (n : Nat) (x0 : OP) (x1 : Int) (x2 : Int) (S : AS) : evC E call n 20 (E.at 20 []) 0 (enumT 0 [(.ptr x0), (.int .i64 x1), (.int .i64 x2)]) S (retK E (E.fn 20)) = J20 call n x0 x1 x2 S := by
 rw [J20, a20_entry, h20_lZAW call n n]
theorem F20 {o : Orc} (n : Nat) (x0 : OP) (x1 : Int) (x2 : Int) (S : AS) (ho : ∀ args, o 20 args = none) : evF E o (n + 1) (.fn 20) [(.ptr x0), (.int .i64 x1), (.int .i64 x2)] S = J20 (evF E o n) n x0 x1 x2 S := (run20 o n [(.ptr x0), (.int .i64 x1), (.int .i64 x2)] S (ho _)).trans (J20_eq _ _ x0 x1 x2 S)
def b21_entry (call : CallA) (n : Nat)  (x0 : OP) (S : AS) : RV :=
 gO x0 fun p1 =>
 ldP S p1.1 (p1.2 + 2) fun v2 =>
 gO x0 fun p3 =>
 ldI .i64 S p3.1 p3.2 fun v4 =>
 gO x0 fun p5 =>
 ldI .i64 S p5.1 (p5.2 + 1) fun v6 =>
 callT call 25 [(.iface 25 (.ptr v2)), (.int .i64 v4), (.int .i64 v6)] S fun v8 S7 =>
 atP v8 0 fun v9 =>
 atL v8 1 fun v10a v10l v10c =>
 atI .i64 v8 2 fun v11 =>
 gO x0 fun p12 =>
 ldP S7 p12.1 (p12.2 + 4) fun v13 =>
 gO x0 fun p14 =>
 ldI .i64 S7 p14.1 p14.2 fun v15 =>
 gO x0 fun p16 =>
 ldI .i64 S7 p16.1 (p16.2 + 1) fun v17 =>
 callT call 46 [(.ptr v13), (.int .i64 v15), (.int .i64 v17)] S7 fun v19 S18 =>
 atP v19 0 fun v20 =>
 atL v19 1 fun v21a v21l v21c =>
 atI .i64 v19 2 fun v22 =>
 gO x0 fun p23 =>
 S18.stn p23.1 (p23.2 + 3) [(.ptr v9)] fun S24 =>
 gO x0 fun p25 =>
 S24.stn p25.1 (p25.2 + 5) [(.ptr v20)] fun S26 =>
 callI .i64 call 13 [(.int .i64 v11)] S26 fun v28 S27 =>
 cond (v28 == v22) (
 cond (v9.isNone == v20.isNone) (
 callB call 26 [(.sl v10a v10l v10c), (.sl v21a v21l v21c)] S27 fun v30 S29 =>
 some ((.bool v30), S29)) (
 some ((.bool false), S27))) (
 some ((.bool false), S27))
def J21 (call : CallA) (n : Nat) (x0 : OP) (S : AS) : RV := b21_entry call n x0 S
theorem run21 (o : Orc) (n : Nat) (args : List AV) (S : AS) (ho : o 21 args = none) : evF E o (n + 1) (.fn 21) args S = evC E (evF E o n) n 21 (E.at 21 []) 0 (enumT 0 args) S (retK E (E.fn 21)) := by
 rw [evF, ho]; kernel_rfl
theorem J21_eq (call : CallA) (n : Nat) (x0 : OP) (S : AS) : evC E call n 21 (E.at 21 []) 0 (enumT 0 [(.ptr x0)]) S (retK E (E.fn 21)) = J21 call n x0 S := by kernel_rfl
theorem F21 {o : Orc} (n : Nat) (x0 : OP) (S : AS) (ho : ∀ args, o 21 args = none) : evF E o (n + 1) (.fn 21) [(.ptr x0)] S = J21 (evF E o n) n x0 S := (run21 o n [(.ptr x0)] S (ho _)).trans (J21_eq _ _ x0 S)
def b22_entry (call : CallA) (n : Nat)  (x0 : OP) (S : AS) : RV :=
 gO x0 fun p1 =>
 ldP S p1.1 (p1.2 + 2) fun v2 =>
 gO x0 fun p3 =>
 ldP S p3.1 (p3.2 + 4) fun v4 =>
 callB call 47 [(.ptr v2), (.ptr v4)] S fun v6 S5 =>
 cond (!v6) (
 some ((.bool false), S5)) (
 gO x0 fun p7 =>
 ldP S5 p7.1 (p7.2 + 5) fun v8 =>
 cond v8.isNone (
 some ((.bool true), S5)) (
 gO x0 fun p9 =>
 ldP S5 p9.1 (p9.2 + 3) fun v10 =>
 callI .u64 call 29 [(.ptr v10)] S5 fun v12 S11 =>
 gO x0 fun p13 =>
 ldP S11 p13.1 (p13.2 + 5) fun v14 =>
 ldP S5 p13.1 (p13.2 + 5) fun v15 =>
 cond (AV.beq (.ptr v15) (.ptr v14)) (
 callI .u64 call 48 [(.ptr v14)] S11 fun v17 S16 =>
 cond (v12 == v17) (
 gO x0 fun p18 =>
 ldP S16 p18.1 (p18.2 + 3) fun v19 =>
 callI .u64 call 28 [(.ptr v19)] S16 fun v21 S20 =>
 gO x0 fun p22 =>
 ldP S20 p22.1 (p22.2 + 5) fun v23 =>
 ldP S16 p22.1 (p22.2 + 5) fun v24 =>
 cond (AV.beq (.ptr v24) (.ptr v23)) (
 gO v23 fun p25 =>
 ldI .u64 S20 p25.1 (p25.2 + 12) fun v26 =>
 ldI .u64 S16 p25.1 (p25.2 + 12) fun v27 =>
 cond (AV.beq (.int .u64 v27) (.int .u64 v26)) (
 cond (v21 == v26) (
 gO x0 fun p28 =>
 ldP S20 p28.1 (p28.2 + 3) fun v29 =>
 callI .u64 call 15 [(.ptr v29)] S20 fun v31 S30 =>
 gO x0 fun p32 =>
 ldP S30 p32.1 (p32.2 + 5) fun v33 =>
 ldP S20 p32.1 (p32.2 + 5) fun v34 =>
 cond (AV.beq (.ptr v34) (.ptr v33)) (
 gO v33 fun p35 =>
 ldI .u64 S30 p35.1 (p35.2 + 7) fun v36 =>
 ldI .u64 S20 p35.1 (p35.2 + 7) fun v37 =>
 cond (AV.beq (.int .u64 v37) (.int .u64 v36)) (
 cond (v31 == v36) (
 gO x0 fun p38 =>
 ldP S30 p38.1 (p38.2 + 3) fun v39 =>
 callI .i64 call 17 [(.ptr v39)] S30 fun v41 S40 =>
 gO x0 fun p42 =>
 ldP S40 p42.1 (p42.2 + 5) fun v43 =>
 ldP S30 p42.1 (p42.2 + 5) fun v44 =>
 cond (AV.beq (.ptr v44) (.ptr v43)) (
 callI .i64 call 49 [(.ptr v43)] S40 fun v46 S45 =>
 cond (v41 == v46) (
 gO x0 fun p47 =>
 ldP S45 p47.1 (p47.2 + 3) fun v48 =>
 callI .u64 call 31 [(.ptr v48)] S45 fun v50 S49 =>
 gO x0 fun p51 =>
 ldP S49 p51.1 (p51.2 + 5) fun v52 =>
 ldP S45 p51.1 (p51.2 + 5) fun v53 =>
 cond (AV.beq (.ptr v53) (.ptr v52)) (
 gO v52 fun p54 =>
 ldI .u64 S49 p54.1 (p54.2 + 4) fun v55 =>
 ldI .u64 S45 p54.1 (p54.2 + 4) fun v56 =>
 cond (AV.beq (.int .u64 v56) (.int .u64 v55)) (
 some ((.bool (v50 == v55)), S49)) none) none) (
 some ((.bool false), S45))) none) (
 some ((.bool false), S30))) none) none) (
 some ((.bool false), S20))) none) none) (
 some ((.bool false), S16))) none))
def J22 (call : CallA) (n : Nat) (x0 : OP) (S : AS) : RV := b22_entry call n x0 S
theorem run22 (o : Orc) (n : Nat) (args : List AV) (S : AS) (ho : o 22 args = none) : evF E o (n + 1) (.fn 22) args S = evC E (evF E o n) n 22 (E.at 22 []) 0 (enumT 0 args) S (retK E (E.fn 22)) := by
 rw [evF, ho]; kernel_rfl
theorem J22_eq (call : CallA) (n : Nat) (x0 : OP) (S : AS) : evC E call n 22 (E.at 22 []) 0 (enumT 0 [(.ptr x0)]) S (retK E (E.fn 22)) = J22 call n x0 S := by kernel_rfl
theorem F22 {o : Orc} (n : Nat) (x0 : OP) (S : AS) (ho : ∀ args, o 22 args = none) : evF E o (n + 1) (.fn 22) [(.ptr x0)] S = J22 (evF E o n) n x0 S := (run22 o n [(.ptr x0)] S (ho _)).trans (J22_eq _ _ x0 S)
def b23_lZAX (call : CallA) (n : Nat) (lZAY : OP → Nat → Cap → Int → Int → Int → Int → Int → Int → AS → RV) (jZAI : Int → Int → Int → Int → AS → RV) (w5a : OP) (w5l : Nat) (w5c : Cap) (w6 : Int) (w7 : Int) (w8 : Int) (w9 : Int) (w10 : Int) (S : AS) : RV :=
 cond (decide (w10 < ((w5l : Nat) : Int))) (
 lZAY w5a w5l w5c w6 w7 w8 w9 w10 0 S) (
 jZAI w6 w7 w8 w9 S)
def b23_lZAY (call : CallA) (n : Nat) (lZAY : OP → Nat → Cap → Int → Int → Int → Int → Int → Int → AS → RV) (jZAH : OP → Nat → Cap → Int → Int → Int → Int → Int → AS → RV) (w5a : OP) (w5l : Nat) (w5c : Cap) (w6 : Int) (w7 : Int) (w8 : Int) (w9 : Int) (w10 : Int) (w11 : Int) (S : AS) : RV :=
 ixSl 2 w5a w5l w10 fun p75 =>
 ldL S p75.1 (p75.2 + 1) fun v76a v76l v76c =>
 cond (decide (w11 < ((v76l : Nat) : Int))) (
 ixSl 2 w5a w5l w10 fun p77 =>
 ldL S p77.1 (p77.2 + 1) fun v78a v78l v78c =>
 ixSl 2 w5a w5l w10 fun p79 =>
 ldL S p79.1 (p79.2 + 1) fun v80a v80l v80c =>
 ixSl 1 v80a v80l w11 fun p81 =>
 ldI .u8 S p81.1 p81.2 fun v82 =>
 ixSl 1 v78a v78l w11 fun p83 =>
 S.stn p83.1 p83.2 [(.int .u8 (xorI .u8 v82 85))] fun S84 =>
 lZAY w5a w5l w5c w6 w7 w8 w9 w10 (IntKind.wrap .i64 (w11 + 1)) S84) (
 jZAH w5a w5l w5c w6 w7 w8 w9 w10 S)
def b23_jZAI (call : CallA) (n : Nat)  (w6 : Int) (w7 : Int) (w8 : Int) (w9 : Int) (S : AS) : RV :=
 cond (w6 == w8) (
 callI .i64 call 13 [(.int .i64 w7)] S fun v86 S85 =>
 some ((.bool (v86 == w9)), S85)) (
 some ((.bool false), S))
def b23_jZAH (call : CallA) (n : Nat) (lZAX : OP → Nat → Cap → Int → Int → Int → Int → Int → AS → RV) (w5a : OP) (w5l : Nat) (w5c : Cap) (w6 : Int) (w7 : Int) (w8 : Int) (w9 : Int) (w10 : Int) (S : AS) : RV :=
 lZAX w5a w5l w5c w6 w7 w8 w9 (IntKind.wrap .i64 (w10 + 1)) S
def b23_entry (call : CallA) (n : Nat) (lZAX : OP → Nat → Cap → Int → Int → Int → Int → Int → AS → RV) (x0 : OP) (x1 : List AV) (S : AS) : RV :=
 ifO (x1.length = 5) <|
 newA S (.cells x1) fun b1 S2 =>
 ldI .i64 S2 (.rw b1) 0 fun v3 =>
 cond (v3 == 4) (
 gO x0 fun p4 =>
 ldP S2 p4.1 (p4.2 + 2) fun v5 =>
 ldL S2 (.rw b1) 3 fun v6a v6l v6c =>
 callT call 24 [(.ptr v5), (.sl v6a v6l v6c)] S2 fun v8 S7 =>
 gO x0 fun p9 =>
 ldP S7 p9.1 (p9.2 + 4) fun v10 =>
 ldL S7 (.rw b1) 3 fun v11a v11l v11c =>
 callT call 24 [(.ptr v10), (.sl v11a v11l v11c)] S7 fun v13 S12 =>
 callB call 21 [(.ptr x0)] S12 fun v15 S14 =>
 some ((.bool v15), S14)) (
 cond (v3 == 5) (
 gO x0 fun p16 =>
 ldP S2 p16.1 (p16.2 + 2) fun v17 =>
 ldI .i64 S2 (.rw b1) 4 fun v18 =>
 gO v17 fun p19 =>
 S2.stn p19.1 (p19.2 + 2) [(.int .i64 v18)] fun S20 =>
 gO x0 fun p21 =>
 ldP S20 p21.1 (p21.2 + 4) fun v22 =>
 ldI .i64 S20 (.rw b1) 4 fun v23 =>
 gO v22 fun p24 =>
 S20.stn p24.1 (p24.2 + 2) [(.int .i64 v23)] fun S25 =>
 some ((.bool true), S25)) (
 cond (v3 == 6) (
 callB call 21 [(.ptr x0)] S2 fun v27 S26 =>
 some ((.bool v27), S26)) (
 gO x0 fun p28 =>
 ldP S2 p28.1 (p28.2 + 5) fun v29 =>
 cond v29.isNone (
 some ((.bool true), S2)) (
 ldI .i64 S2 (.rw b1) 0 fun v30 =>
 cond (v30 == 1) (
 ldL S2 (.rw b1) 1 fun v31a v31l v31c =>
 callL call 12 [(.sl v31a v31l v31c)] S2 fun v33a v33l v33c S32 =>
 gO x0 fun p34 =>
 ldP S32 p34.1 (p34.2 + 3) fun v35 =>
 callT call 11 [(.ptr v35), (.sl v33a v33l v33c)] S32 fun v37 S36 =>
 atI .u64 v37 0 fun v38 =>
 atI .i64 v37 1 fun v39 =>
 gO x0 fun p40 =>
 ldP S36 p40.1 (p40.2 + 5) fun v41 =>
 ldL S36 (.rw b1) 1 fun v42a v42l v42c =>
 callT call 50 [(.ptr v41), (.sl v42a v42l v42c)] S36 fun v44 S43 =>
 atI .u64 v44 0 fun v45 =>
 atI .i64 v44 1 fun v46 =>
 lZAX v33a v33l v33c v38 v39 v45 v46 0 S43) (
 cond (v30 == 2) (
 gO x0 fun p47 =>
 ldP S2 p47.1 (p47.2 + 3) fun v48 =>
 callI .i64 call 14 [(.ptr v48)] S2 fun v50 S49 =>
 callI .i64 call 13 [(.int .i64 v50)] S49 fun v52 S51 =>
 gO x0 fun p53 =>
 ldP S51 p53.1 (p53.2 + 5) fun v54 =>
 ldP S49 p53.1 (p53.2 + 5) fun v55 =>
 cond (AV.beq (.ptr v55) (.ptr v54)) (
 ldP S2 p53.1 (p53.2 + 5) fun v56 =>
 cond (AV.beq (.ptr v56) (.ptr v54)) (
 callI .i64 call 51 [(.ptr v54)] S51 fun v58 S57 =>
 some ((.bool (v52 == v58)), S57)) none) none) (
 cond (v30 == 3) (
 gO x0 fun p59 =>
 ldP S2 p59.1 (p59.2 + 3) fun v60 =>
 ldI .u64 S2 (.rw b1) 2 fun v61 =>
 callI .i64 call 16 [(.ptr v60), (.int .u64 v61)] S2 fun v63 S62 =>
 callI .i64 call 13 [(.int .i64 v63)] S62 fun v65 S64 =>
 gO x0 fun p66 =>
 ldP S64 p66.1 (p66.2 + 5) fun v67 =>
 ldP S62 p66.1 (p66.2 + 5) fun v68 =>
 cond (AV.beq (.ptr v68) (.ptr v67)) (
 ldP S2 p66.1 (p66.2 + 5) fun v69 =>
 cond (AV.beq (.ptr v69) (.ptr v67)) (
 ldI .u64 S64 (.rw b1) 2 fun v70 =>
 ldI .u64 S62 (.rw b1) 2 fun v71 =>
 cond (AV.beq (.int .u64 v71) (.int .u64 v70)) (
 ldI .u64 S2 (.rw b1) 2 fun v72 =>
 cond (AV.beq (.int .u64 v72) (.int .u64 v70)) (
 callI .i64 call 52 [(.ptr v67), (.int .u64 v70)] S64 fun v74 S73 =>
 some ((.bool (v65 == v74)), S73)) none) none) none) none) (
 some ((.bool true), S2))))))))
def r23_lZAX (call : CallA) (n : Nat) (m : Nat) (w5a : OP) (w5l : Nat) (w5c : Cap) (w6 : Int) (w7 : Int) (w8 : Int) (w9 : Int) (w10 : Int) (S : AS) : RV := loopN (evC E call n 23 (E.at 23 [1, 1, 1, 0, 1, 0, 1, 0, 1, 1, 1, 0, 1, 0, 0]) 2) [5, 6, 7, 8, 9, 10] m [(5, (.sl w5a w5l w5c)), (6, (.int .u64 w6)), (7, (.int .i64 w7)), (8, (.int .u64 w8)), (9, (.int .i64 w9)), (10, (.int .i64 w10))] S (kBlk 2 (kSeq E call n 23 (E.at 23 [1, 1, 1, 0, 1, 0, 1, 0, 1, 1, 1, 1]) 1 (kBlk 1 (kSeq E call n 23 (E.at 23 [1, 1, 1, 1]) 0 (retK E (E.fn 23))))))
def r23_lZAY (call : CallA) (n : Nat) (m1_1_1_0_1_0_1_0_1_1_1_0_1_0 : Nat) (m : Nat) (w5a : OP) (w5l : Nat) (w5c : Cap) (w6 : Int) (w7 : Int) (w8 : Int) (w9 : Int) (w10 : Int) (w11 : Int) (S : AS) : RV := loopN (evC E call n 23 (E.at 23 [1, 1, 1, 0, 1, 0, 1, 0, 1, 1, 1, 0, 1, 0, 0, 1, 0, 0, 1, 0, 0]) 4) [5, 6, 7, 8, 9, 10, 11] m [(5, (.sl w5a w5l w5c)), (6, (.int .u64 w6)), (7, (.int .i64 w7)), (8, (.int .u64 w8)), (9, (.int .i64 w9)), (10, (.int .i64 w10)), (11, (.int .i64 w11))] S (kBlk 4 (kBlk 3 (kSeq E call n 23 (E.at 23 [1, 1, 1, 0, 1, 0, 1, 0, 1, 1, 1, 0, 1, 0, 0, 1, 1]) 2 (kLp (evC E call n 23 (E.at 23 [1, 1, 1, 0, 1, 0, 1, 0, 1, 1, 1, 0, 1, 0, 0]) 2) [5, 6, 7, 8, 9, 10] m1_1_1_0_1_0_1_0_1_1_1_0_1_0 (kBlk 2 (kSeq E call n 23 (E.at 23 [1, 1, 1, 0, 1, 0, 1, 0, 1, 1, 1, 1]) 1 (kBlk 1 (kSeq E call n 23 (E.at 23 [1, 1, 1, 1]) 0 (retK E (E.fn 23))))))))))
def r23_jZAI (call : CallA) (n : Nat) (w6 : Int) (w7 : Int) (w8 : Int) (w9 : Int) (S : AS) : RV := evC E call n 23 (E.at 23 [1, 1, 1, 0, 1, 0, 1, 0, 1, 1, 1, 1]) 1 [(6, (.int .u64 w6)), (7, (.int .i64 w7)), (8, (.int .u64 w8)), (9, (.int .i64 w9))] S (kBlk 1 (kSeq E call n 23 (E.at 23 [1, 1, 1, 1]) 0 (retK E (E.fn 23))))
def r23_jZAH (call : CallA) (n : Nat) (m1_1_1_0_1_0_1_0_1_1_1_0_1_0 : Nat) (w5a : OP) (w5l : Nat) (w5c : Cap) (w6 : Int) (w7 : Int) (w8 : Int) (w9 : Int) (w10 : Int) (S : AS) : RV := evC E call n 23 (E.at 23 [1, 1, 1, 0, 1, 0, 1, 0, 1, 1, 1, 0, 1, 0, 0, 1, 1]) 2 [(5, (.sl w5a w5l w5c)), (6, (.int .u64 w6)), (7, (.int .i64 w7)), (8, (.int .u64 w8)), (9, (.int .i64 w9)), (10, (.int .i64 w10))] S (kLp (evC E call n 23 (E.at 23 [1, 1, 1, 0, 1, 0, 1, 0, 1, 1, 1, 0, 1, 0, 0]) 2) [5, 6, 7, 8, 9, 10] m1_1_1_0_1_0_1_0_1_1_1_0_1_0 (kBlk 2 (kSeq E call n 23 (E.at 23 [1, 1, 1, 0, 1, 0, 1, 0, 1, 1, 1, 1]) 1 (kBlk 1 (kSeq E call n 23 (E.at 23 [1, 1, 1, 1]) 0 (retK E (E.fn 23)))))))
theorem a23_lZAX (call : CallA) (n : Nat) (m : Nat) (w5a : OP) (w5l : Nat) (w5c : Cap) (w6 : Int) (w7 : Int) (w8 : Int) (w9 : Int) (w10 : Int) (S : AS) : r23_lZAX call n (m + 1) w5a w5l w5c w6 w7 w8 w9 w10 S = b23_lZAX call n (r23_lZAY call n m n) (r23_jZAI call n ) w5a w5l w5c w6 w7 w8 w9 w10 S := by kernel_rfl
theorem a23_lZAY (call : CallA) (n : Nat) (m1_1_1_0_1_0_1_0_1_1_1_0_1_0 : Nat) (m : Nat) (w5a : OP) (w5l : Nat) (w5c : Cap) (w6 : Int) (w7 : Int) (w8 : Int) (w9 : Int) (w10 : Int) (w11 : Int) (S : AS) : r23_lZAY call n m1_1_1_0_1_0_1_0_1_1_1_0_1_0 (m + 1) w5a w5l w5c w6 w7 w8 w9 w10 w11 S = b23_lZAY call n (r23_lZAY call n m1_1_1_0_1_0_1_0_1_1_1_0_1_0 m) (r23_jZAH call n m1_1_1_0_1_0_1_0_1_1_1_0_1_0) w5a w5l w5c w6 w7 w8 w9 w10 w11 S := by kernel_rfl
theorem a23_jZAI (call : CallA) (n : Nat) (w6 : Int) (w7 : Int) (w8 : Int) (w9 : Int) (S : AS) : r23_jZAI call n w6 w7 w8 w9 S = b23_jZAI call n w6 w7 w8 w9 S := by kernel_rfl
theorem a23_jZAH (call : CallA) (n : Nat) (m1_1_1_0_1_0_1_0_1_1_1_0_1_0 : Nat) (w5a : OP) (w5l : Nat) (w5c : Cap) (w6 : Int) (w7 : Int) (w8 : Int) (w9 : Int) (w10 : Int) (S : AS) : r23_jZAH call n m1_1_1_0_1_0_1_0_1_1_1_0_1_0 w5a w5l w5c w6 w7 w8 w9 w10 S = b23_jZAH call n (r23_lZAX call n m1_1_1_0_1_0_1_0_1_1_1_0_1_0) w5a w5l w5c w6 w7 w8 w9 w10 S := by kernel_rfl
theorem a23_entry (call : CallA) (n : Nat) (x0 : OP) (x1 : List AV) (S : AS) : evC E call n 23 (E.at 23 []) 0 (enumT 0 [(.ptr x0), (.agg x1)]) S (retK E (E.fn 23)) = b23_entry call n (r23_lZAX call n n) x0 x1 S := by kernel_rfl
def J23_jZAH (call : CallA) (n : Nat) (n1_1_1_0_1_0_1_0_1_1_1_0_1_0 : OP → Nat → Cap → Int → Int → Int → Int → Int → AS → RV) (w5a : OP) (w5l : Nat) (w5c : Cap) (w6 : Int) (w7 : Int) (w8 : Int) (w9 : Int) (w10 : Int) (S : AS) : RV := b23_jZAH call n n1_1_1_0_1_0_1_0_1_1_1_0_1_0 w5a w5l w5c w6 w7 w8 w9 w10 S
theorem h23_jZAH (call : CallA) (n : Nat) (m1_1_1_0_1_0_1_0_1_1_1_0_1_0 : Nat) : r23_jZAH call n m1_1_1_0_1_0_1_0_1_1_1_0_1_0 = J23_jZAH call n (r23_lZAX call n m1_1_1_0_1_0_1_0_1_1_1_0_1_0) := by
 funext w5a w5l w5c w6 w7 w8 w9 w10 S
 rw [J23_jZAH, a23_jZAH]
def J23_lZAY (call : CallA) (n : Nat) (n1_1_1_0_1_0_1_0_1_1_1_0_1_0 : OP → Nat → Cap → Int → Int → Int → Int → Int → AS → RV) (m : Nat) : OP → Nat → Cap → Int → Int → Int → Int → Int → Int → AS → RV := Nat.rec (motive := fun _ => OP → Nat → Cap → Int → Int → Int → Int → Int → Int → AS → RV) (fun _ _ _ _ _ _ _ _ _ _ => none) (fun mK ih w5a w5l w5c w6 w7 w8 w9 w10 w11 S => b23_lZAY call n ih (J23_jZAH call n n1_1_1_0_1_0_1_0_1_1_1_0_1_0) w5a w5l w5c w6 w7 w8 w9 w10 w11 S) m
theorem J23_lZAY_succ (call : CallA) (n : Nat) (n1_1_1_0_1_0_1_0_1_1_1_0_1_0 : OP → Nat → Cap → Int → Int → Int → Int → Int → AS → RV) (m : Nat) (w5a : OP) (w5l : Nat) (w5c : Cap) (w6 : Int) (w7 : Int) (w8 : Int) (w9 : Int) (w10 : Int) (w11 : Int) (S : AS) : J23_lZAY call n n1_1_1_0_1_0_1_0_1_1_1_0_1_0 (m + 1) w5a w5l w5c w6 w7 w8 w9 w10 w11 S = b23_lZAY call n (J23_lZAY call n n1_1_1_0_1_0_1_0_1_1_1_0_1_0 m) (J23_jZAH call n n1_1_1_0_1_0_1_0_1_1_1_0_1_0) w5a w5l w5c w6 w7 w8 w9 w10 w11 S := rfl
theorem h23_lZAY (call : CallA) (n : Nat) (m1_1_1_0_1_0_1_0_1_1_1_0_1_0 : Nat) (m : Nat) : r23_lZAY call n m1_1_1_0_1_0_1_0_1_1_1_0_1_0 m = J23_lZAY call n (r23_lZAX call n m1_1_1_0_1_0_1_0_1_1_1_0_1_0) m := by
 induction m with
 | zero => rfl
 | succ m ih =>
  funext w5a w5l w5c w6 w7 w8 w9 w10 w11 S
  rw [J23_lZAY_succ, a23_lZAY, h23_jZAH call n m1_1_1_0_1_0_1_0_1_1_1_0_1_0, ih]
def J23_jZAI (call : CallA) (n : Nat) (w6 : Int) (w7 : Int) (w8 : Int) (w9 : Int) (S : AS) : RV := b23_jZAI call n w6 w7 w8 w9 S
theorem h23_jZAI (call : CallA) (n : Nat) : r23_jZAI call n = J23_jZAI call n := by
 funext w6 w7 w8 w9 S
 rw [J23_jZAI, a23_jZAI]
def J23_lZAX (call : CallA) (n : Nat) (m : Nat) : OP → Nat → Cap → Int → Int → Int → Int → Int → AS → RV := Nat.rec (motive := fun _ => OP → Nat → Cap → Int → Int → Int → Int → Int → AS → RV) (fun _ _ _ _ _ _ _ _ _ => none) (fun mK ih w5a w5l w5c w6 w7 w8 w9 w10 S => b23_lZAX call n (J23_lZAY call n ih n) (J23_jZAI call n ) w5a w5l w5c w6 w7 w8 w9 w10 S) m
theorem J23_lZAX_succ (call : CallA) (n : Nat) (m : Nat) (w5a : OP) (w5l : Nat) (w5c : Cap) (w6 : Int) (w7 : Int) (w8 : Int) (w9 : Int) (w10 : Int) (S : AS) : J23_lZAX call n (m + 1) w5a w5l w5c w6 w7 w8 w9 w10 S = b23_lZAX call n (J23_lZAY call n (J23_lZAX call n m) n) (J23_jZAI call n ) w5a w5l w5c w6 w7 w8 w9 w10 S := rfl
theorem h23_lZAX (call : CallA) (n : Nat) (m : Nat) : r23_lZAX call n m = J23_lZAX call n m := by
 induction m with
 | zero => rfl
 | succ m ih =>
  funext w5a w5l w5c w6 w7 w8 w9 w10 S
  rw [J23_lZAX_succ, a23_lZAX, h23_lZAY call n m n, h23_jZAI call n , ih]
def J23 (call : CallA) (n : Nat) (x0 : OP) (x1 : List AV) (S : AS) : RV := b23_entry call n (J23_lZAX call n n) x0 x1 S
theorem run23 (o : Orc) (n : Nat) (args : List AV) (S : AS) (ho : o 23 args = none) : evF E o (n + 1) (.fn 23) args S = evC E (evF E o n) n 23 (E.at 23 []) 0 (enumT 0 args) S (retK E (E.fn 23)) := by
 rw [evF, ho]; kernel_rfl
theorem J23_eq (call : CallA) (n : Nat) (x0 : OP) (x1 : List AV) (S : AS) : evC E call n 23 (E.at 23 []) 0 (enumT 0 [(.ptr x0), (.agg x1)]) S (retK E (E.fn 23)) = J23 call n x0 x1 S := by
 rw [J23, a23_entry, h23_lZAX call n n]
theorem F23 {o : Orc} (n : Nat) (x0 : OP) (x1 : List AV) (S : AS) (ho : ∀ args, o 23 args = none) : evF E o (n + 1) (.fn 23) [(.ptr x0), (.agg x1)] S = J23 (evF E o n) n x0 x1 S := (run23 o n [(.ptr x0), (.agg x1)] S (ho _)).trans (J23_eq _ _ x0 x1 S)
end
end Go.Jn
