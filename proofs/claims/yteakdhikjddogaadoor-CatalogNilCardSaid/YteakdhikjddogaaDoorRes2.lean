/- Plain readings of the functions, and that they are what the evaluator does: by program. -/
import Derived.Test.YteakdhikjddogaaDoorGrRes
import Derived.Test.YteakdhikjddogaaDoorENV
import Derived.KernelRfl
set_option maxRecDepth 100000
set_option linter.unusedVariables false
namespace Go.Ct
open Go.Gr
noncomputable section
def b24_entry (call : CallA) (n : Nat)   (x0 : Option Pos) (x1 : Option Pos) (x2 : List AV) (S : AS) : Option (AV × AS) :=
 ifO (x2.length = 8) <|
 newA S (.cells x2) fun b1 S2 =>
 ldI .i64 S2 (.rw b1) 0 fun v3 =>
 cond (v3 == 1) (
 ldI .u64 S2 (.rw b1) 1 fun v4 =>
 ldS S2 (.rw b1) 2 fun v5 =>
 ldI .u64 S2 (.rw b1) 3 fun v6 =>
 callT call 19 [(.ptr x0), (.int .u64 v4), (.str v5), (.int .u64 v6)] S2 fun v8 S7 =>
 atI .u32 v8 0 fun v9 =>
 atI .i64 v8 1 fun v10 =>
 ldI .u64 S7 (.rw b1) 1 fun v11 =>
 ldS S7 (.rw b1) 2 fun v12 =>
 ldI .u64 S7 (.rw b1) 3 fun v13 =>
 callT call 38 [(.ptr x1), (.int .u64 v11), (.str v12), (.int .u64 v13)] S7 fun v15 S14 =>
 atI .u32 v15 0 fun v16 =>
 atI .i64 v15 1 fun v17 =>
 cond (v9 == v16) (
 callI .i64 call 15 [(.int .i64 v10)] S14 fun v19 S18 =>
 some (.tup [(.ptr x0), (.bool (v19 == v17))], S18)) (
 some (.tup [(.ptr x0), (.bool false)], S14))) (
 cond (v3 == 2) (
 ldI .u32 S2 (.rw b1) 4 fun v20 =>
 callI .i64 call 21 [(.ptr x0), (.int .u32 v20)] S2 fun v22 S21 =>
 callI .i64 call 15 [(.int .i64 v22)] S21 fun v24 S23 =>
 ldI .u32 S23 (.rw b1) 4 fun v25 =>
 ldI .u32 S21 (.rw b1) 4 fun v26 =>
 cond (AV.beq (.int .u32 v26) (.int .u32 v25)) (
 ldI .u32 S2 (.rw b1) 4 fun v27 =>
 cond (AV.beq (.int .u32 v27) (.int .u32 v25)) (
 callI .i64 call 39 [(.ptr x1), (.int .u32 v25)] S23 fun v29 S28 =>
 some (.tup [(.ptr x0), (.bool (v24 == v29))], S28)) none) none) (
 cond (v3 == 3) (
 S2.ldn (.rw b1) 6 2 fun g30 =>
 callG 2 call 12 [(.agg g30)] S2 fun v32 S31 =>
 callT call 26 [(.ptr x0), (.agg v32)] S31 fun v34 S33 =>
 atL v34 0 fun v35a v35l v35c =>
 atI .i64 v34 1 fun v36 =>
 S33.ldn (.rw b1) 6 2 fun g37 =>
 callT call 40 [(.ptr x1), (.agg g37)] S33 fun v39 S38 =>
 atL v39 0 fun v40a v40l v40c =>
 atI .i64 v39 1 fun v41 =>
 callB call 41 [(.sl v35a v35l v35c), (.sl v40a v40l v40c)] S38 fun v43 S42 =>
 cond v43 (
 callI .i64 call 15 [(.int .i64 v36)] S42 fun v45 S44 =>
 some (.tup [(.ptr x0), (.bool (v45 == v41))], S44)) (
 some (.tup [(.ptr x0), (.bool false)], S42))) (
 cond (v3 == 4) (
 callP call 32 [(.ptr x0)] S2 fun v47 S46 =>
 cond v47.isNone (
 some (.tup [(.ptr x0), (.bool false)], S46)) (
 callS call 20 [(.int .u8 63)] S46 fun v49 S48 =>
 callT call 19 [(.ptr x0), (.int .u64 4611686018427387904), (.str v49), (.int .u64 0)] S48 fun v51 S50 =>
 callT call 26 [(.ptr x0), (.agg [(.int .i64 0), (.sl none 0 (.ex 0))])] S50 fun v53 S52 =>
 some (.tup [(.ptr v47), (.bool true)], S52))) (
 cond (v3 == 5) (
 callL call 31 [(.ptr x0)] S2 fun v55a v55l v55c S54 =>
 callT call 42 [(.sl v55a v55l v55c)] S54 fun v57 S56 =>
 atP v57 0 fun v58 =>
 atI .i64 v57 1 fun v59 =>
 callI .i64 call 15 [(.int .i64 v59)] S56 fun v61 S60 =>
 cond (v61 == 0) (
 some (.tup [(.ptr v58), (.bool (!v58.isNone))], S60)) (
 some (.tup [(.ptr v58), (.bool false)], S60))) (
 some (.tup [(.ptr x0), (.bool true)], S2))))))

theorem a24_entry (call : CallA) (n : Nat) (x0 : Option Pos) (x1 : Option Pos) (x2 : List AV) (S : AS) : evC E call n 24 (E.at 24 []) 0 (enumT 0 [(.ptr x0), (.ptr x1), (.agg x2)]) S (retK E (E.fn 24)) = b24_entry call n  x0 x1 x2 S := by kernel_rfl
def J24 (call : CallA) (n : Nat) (x0 : Option Pos) (x1 : Option Pos) (x2 : List AV) (S : AS) : Option (AV × AS) := b24_entry call n  x0 x1 x2 S
theorem run24 (o : Orc) (n : Nat) (args : List AV) (S : AS) (ho : o 24 args = none) : evF E o (n + 1) (.fn 24) args S = evC E (evF E o n) n 24 (E.at 24 []) 0 (enumT 0 args) S (retK E (E.fn 24)) := by
  rw [evF, ho]; kernel_rfl
theorem J24_eq (call : CallA) (n : Nat) (x0 : Option Pos) (x1 : Option Pos) (x2 : List AV) (S : AS) : evC E call n 24 (E.at 24 []) 0 (enumT 0 [(.ptr x0), (.ptr x1), (.agg x2)]) S (retK E (E.fn 24)) = J24 call n x0 x1 x2 S := by
  rw [J24, a24_entry]
theorem F24 {o : Orc} (n : Nat) (x0 : Option Pos) (x1 : Option Pos) (x2 : List AV) (S : AS) (ho : ∀ args, o 24 args = none) : evF E o (n + 1) (.fn 24) [(.ptr x0), (.ptr x1), (.agg x2)] S = J24 (evF E o n) n x0 x1 x2 S := (run24 o n [(.ptr x0), (.ptr x1), (.agg x2)] S (ho _)).trans (J24_eq _ _ x0 x1 x2 S)
def b25_entry (call : CallA) (n : Nat)   (x0 : Option Pos) (S : AS) : Option (AV × AS) :=
 cond x0.isNone (
 some ((.sl none 0 (.ex 0)), S)) (
 gO x0 fun p1 =>
 ldL S p1.1 p1.2 fun v2a v2l v2c =>
 callL call 43 [(.sl v2a v2l v2c)] S fun v4a v4l v4c S3 =>
 some ((.sl v4a v4l v4c), S3))

theorem a25_entry (call : CallA) (n : Nat) (x0 : Option Pos) (S : AS) : evC E call n 25 (E.at 25 []) 0 (enumT 0 [(.ptr x0)]) S (retK E (E.fn 25)) = b25_entry call n  x0 S := by kernel_rfl
def J25 (call : CallA) (n : Nat) (x0 : Option Pos) (S : AS) : Option (AV × AS) := b25_entry call n  x0 S
theorem run25 (o : Orc) (n : Nat) (args : List AV) (S : AS) (ho : o 25 args = none) : evF E o (n + 1) (.fn 25) args S = evC E (evF E o n) n 25 (E.at 25 []) 0 (enumT 0 args) S (retK E (E.fn 25)) := by
  rw [evF, ho]; kernel_rfl
theorem J25_eq (call : CallA) (n : Nat) (x0 : Option Pos) (S : AS) : evC E call n 25 (E.at 25 []) 0 (enumT 0 [(.ptr x0)]) S (retK E (E.fn 25)) = J25 call n x0 S := by
  rw [J25, a25_entry]
theorem F25 {o : Orc} (n : Nat) (x0 : Option Pos) (S : AS) (ho : ∀ args, o 25 args = none) : evF E o (n + 1) (.fn 25) [(.ptr x0)] S = J25 (evF E o n) n x0 S := (run25 o n [(.ptr x0)] S (ho _)).trans (J25_eq _ _ x0 S)
def b26_l1_1_1_1_0_1_0 (call : CallA) (n : Nat)  (l1_1_1_1_0_1_0 : Option Pos → Option Pos → Option Pos → Nat → Cap → Option Pos → Nat → Cap → Int → Int → AS → Option (AV × AS)) (l1_1_1_1_1_1_1_0_1_0 : Option Pos → Option Pos → Nat → Cap → Option Pos → Nat → Cap → Option Pos → Nat → Cap → Int → Int → AS → Option (AV × AS)) (w0 : Option Pos) (w3 : Option Pos) (w7a : Option Pos) (w7l : Nat) (w7c : Cap) (w24a : Option Pos) (w24l : Nat) (w24c : Cap) (w25 : Int) (w26 : Int) (S : AS) : Option (AV × AS) :=
 cond (decide (w26 < w25)) (
 ixSl 4 w24a w24l w26 fun p8 =>
 S.ldn p8.1 p8.2 4 fun g9 =>
 newA S (.cells [(.int .u32 0), (.int .u64 0), (.str ([])), (.int .u64 0)]) fun b10 S11 =>
 ifO (g9.length = 4) <|
 S11.stn (.rw b10) 0 g9 fun S12 =>
 ldI .u64 S12 (.rw b10) 1 fun v13 =>
 newA S12 (.cells [(.int .u64 v13)]) fun b14 S15 =>
 appendA 1 8 S15 w7a w7l w7c 1 (firstA S15 1 1 (.sl (some (.rw b14, 0)) 1 (.ex 1))) fun v16a v16l v16c S17 =>
 l1_1_1_1_0_1_0 w0 w3 v16a v16l v16c w24a w24l w24c w25 (IntKind.wrap .i64 (w26 + 1)) S17) (
 gO w3 fun p18 =>
 S.ldn p18.1 p18.2 2 fun g19 =>
 callL call 11 [(.agg g19), (.sl w7a w7l w7c)] S fun v21a v21l v21c S20 =>
 l1_1_1_1_1_1_1_0_1_0 w0 none 0 (.ex 0) none 0 (.ex 0) v21a v21l v21c ((v21l : Nat) : Int) 0 S20)

def b26_l1_1_1_1_1_1_1_0_1_0 (call : CallA) (n : Nat)  (l1_1_1_1_1_1_1_0_1_0 : Option Pos → Option Pos → Nat → Cap → Option Pos → Nat → Cap → Option Pos → Nat → Cap → Int → Int → AS → Option (AV × AS)) (w0 : Option Pos) (w10a : Option Pos) (w10l : Nat) (w10c : Cap) (w11a : Option Pos) (w11l : Nat) (w11c : Cap) (w38a : Option Pos) (w38l : Nat) (w38c : Cap) (w39 : Int) (w40 : Int) (S : AS) : Option (AV × AS) :=
 cond (decide (w40 < w39)) (
 ixSl 1 w38a w38l w40 fun p22 =>
 ldB S p22.1 p22.2 fun v23 =>
 cond v23 (
 gO w0 fun p24 =>
 ldL S p24.1 p24.2 fun v25a v25l v25c =>
 ixSl 4 v25a v25l w40 fun p26 =>
 S.ldn p26.1 p26.2 4 fun g27 =>
 ifO (g27.length = 4) <|
 ifO (0 + g27.length ≤ ([(.int .u32 0), (.int .u64 0), (.str ([])), (.int .u64 0)] : List AV).length) <|
 newA S (.cells (splice [(.int .u32 0), (.int .u64 0), (.str ([])), (.int .u64 0)] 0 g27)) fun b28 S29 =>
 appendA 4 40 S29 w11a w11l w11c 1 (firstA S29 4 1 (.sl (some (.rw b28, 0)) 1 (.ex 1))) fun v31a v31l v31c S32 =>
 l1_1_1_1_1_1_1_0_1_0 w0 w10a w10l w10c v31a v31l v31c w38a w38l w38c w39 (IntKind.wrap .i64 (w40 + 1)) S32) (
 gO w0 fun p33 =>
 ldL S p33.1 p33.2 fun v34a v34l v34c =>
 ixSl 4 v34a v34l w40 fun p35 =>
 ldI .u32 S p35.1 p35.2 fun v36 =>
 newA S (.cells [(.int .u32 v36)]) fun b37 S38 =>
 appendA 1 4 S38 w10a w10l w10c 1 (firstA S38 1 1 (.sl (some (.rw b37, 0)) 1 (.ex 1))) fun v39a v39l v39c S40 =>
 l1_1_1_1_1_1_1_0_1_0 w0 v39a v39l v39c w11a w11l w11c w38a w38l w38c w39 (IntKind.wrap .i64 (w40 + 1)) S40)) (
 gO w0 fun p41 =>
 S.stn p41.1 p41.2 [(.sl w11a w11l w11c)] fun S42 =>
 some (.tup [(.sl w10a w10l w10c), (.int .i64 0)], S42))

def b26_entry (call : CallA) (n : Nat)  (l1_1_1_1_0_1_0 : Option Pos → Option Pos → Option Pos → Nat → Cap → Option Pos → Nat → Cap → Int → Int → AS → Option (AV × AS)) (x0 : Option Pos) (x1 : List AV) (S : AS) : Option (AV × AS) :=
 ifO (x1.length = 2) <|
 newA S (.cells x1) fun b1 S2 =>
 cond x0.isNone (
 some (.tup [(.sl none 0 (.ex 0)), (.int .i64 7)], S2)) (
 S2.ldn (.rw b1) 0 2 fun g3 =>
 callI .i64 call 16 [(.agg g3)] S2 fun v5 S4 =>
 cond (v5 != 0) (
 some (.tup [(.sl none 0 (.ex 0)), (.int .i64 v5)], S4)) (
 gO x0 fun p6 =>
 ldL S4 p6.1 p6.2 fun v7a v7l v7c =>
 l1_1_1_1_0_1_0 x0 (some ((.rw b1), 0)) none 0 (.ex 0) v7a v7l v7c ((v7l : Nat) : Int) 0 S4))

def r26_l1_1_1_1_0_1_0 (call : CallA) (n : Nat)  (m : Nat) (w0 : Option Pos) (w3 : Option Pos) (w7a : Option Pos) (w7l : Nat) (w7c : Cap) (w24a : Option Pos) (w24l : Nat) (w24c : Cap) (w25 : Int) (w26 : Int) (S : AS) : Option (AV × AS) := loopN (evC E call n 26 (E.at 26 [1, 1, 1, 1, 0, 1, 0, 0]) 0) [0, 3, 7, 24, 25, 26] m [(0, (.ptr w0)), (3, (.ptr w3)), (7, (.sl w7a w7l w7c)), (24, (.sl w24a w24l w24c)), (25, (.int .i64 w25)), (26, (.int .i64 w26))] S (kBlk 0 (kSeq E call n 26 (E.at 26 [1, 1, 1, 1, 1]) 0 (retK E (E.fn 26))))
def r26_l1_1_1_1_1_1_1_0_1_0 (call : CallA) (n : Nat)  (m : Nat) (w0 : Option Pos) (w10a : Option Pos) (w10l : Nat) (w10c : Cap) (w11a : Option Pos) (w11l : Nat) (w11c : Cap) (w38a : Option Pos) (w38l : Nat) (w38c : Cap) (w39 : Int) (w40 : Int) (S : AS) : Option (AV × AS) := loopN (evC E call n 26 (E.at 26 [1, 1, 1, 1, 1, 1, 1, 0, 1, 0, 0]) 2) [0, 10, 11, 38, 39, 40] m [(0, (.ptr w0)), (10, (.sl w10a w10l w10c)), (11, (.sl w11a w11l w11c)), (38, (.sl w38a w38l w38c)), (39, (.int .i64 w39)), (40, (.int .i64 w40))] S (kBlk 2 (kSeq E call n 26 (E.at 26 [1, 1, 1, 1, 1, 1, 1, 1]) 0 (retK E (E.fn 26))))
theorem a26_l1_1_1_1_0_1_0 (call : CallA) (n : Nat)  (m : Nat) (w0 : Option Pos) (w3 : Option Pos) (w7a : Option Pos) (w7l : Nat) (w7c : Cap) (w24a : Option Pos) (w24l : Nat) (w24c : Cap) (w25 : Int) (w26 : Int) (S : AS) : r26_l1_1_1_1_0_1_0 call n  (m + 1) w0 w3 w7a w7l w7c w24a w24l w24c w25 w26 S = b26_l1_1_1_1_0_1_0 call n (r26_l1_1_1_1_0_1_0 call n  m) (r26_l1_1_1_1_1_1_1_0_1_0 call n  n) w0 w3 w7a w7l w7c w24a w24l w24c w25 w26 S := by kernel_rfl
theorem a26_l1_1_1_1_1_1_1_0_1_0 (call : CallA) (n : Nat)  (m : Nat) (w0 : Option Pos) (w10a : Option Pos) (w10l : Nat) (w10c : Cap) (w11a : Option Pos) (w11l : Nat) (w11c : Cap) (w38a : Option Pos) (w38l : Nat) (w38c : Cap) (w39 : Int) (w40 : Int) (S : AS) : r26_l1_1_1_1_1_1_1_0_1_0 call n  (m + 1) w0 w10a w10l w10c w11a w11l w11c w38a w38l w38c w39 w40 S = b26_l1_1_1_1_1_1_1_0_1_0 call n (r26_l1_1_1_1_1_1_1_0_1_0 call n  m) w0 w10a w10l w10c w11a w11l w11c w38a w38l w38c w39 w40 S := by kernel_rfl
theorem a26_entry (call : CallA) (n : Nat) (x0 : Option Pos) (x1 : List AV) (S : AS) : evC E call n 26 (E.at 26 []) 0 (enumT 0 [(.ptr x0), (.agg x1)]) S (retK E (E.fn 26)) = b26_entry call n (r26_l1_1_1_1_0_1_0 call n  n) x0 x1 S := by kernel_rfl
def J26_l1_1_1_1_1_1_1_0_1_0 (call : CallA) (n : Nat)  (m : Nat) : Option Pos → Option Pos → Nat → Cap → Option Pos → Nat → Cap → Option Pos → Nat → Cap → Int → Int → AS → Option (AV × AS) := Nat.rec (motive := fun _ => Option Pos → Option Pos → Nat → Cap → Option Pos → Nat → Cap → Option Pos → Nat → Cap → Int → Int → AS → Option (AV × AS)) (fun _ _ _ _ _ _ _ _ _ _ _ _ _ => none) (fun mK ih w0 w10a w10l w10c w11a w11l w11c w38a w38l w38c w39 w40 S => b26_l1_1_1_1_1_1_1_0_1_0 call n ih w0 w10a w10l w10c w11a w11l w11c w38a w38l w38c w39 w40 S) m
theorem J26_l1_1_1_1_1_1_1_0_1_0_succ (call : CallA) (n : Nat)  (m : Nat) (w0 : Option Pos) (w10a : Option Pos) (w10l : Nat) (w10c : Cap) (w11a : Option Pos) (w11l : Nat) (w11c : Cap) (w38a : Option Pos) (w38l : Nat) (w38c : Cap) (w39 : Int) (w40 : Int) (S : AS) : J26_l1_1_1_1_1_1_1_0_1_0 call n  (m + 1) w0 w10a w10l w10c w11a w11l w11c w38a w38l w38c w39 w40 S = b26_l1_1_1_1_1_1_1_0_1_0 call n (J26_l1_1_1_1_1_1_1_0_1_0 call n  m) w0 w10a w10l w10c w11a w11l w11c w38a w38l w38c w39 w40 S := rfl
theorem h26_l1_1_1_1_1_1_1_0_1_0 (call : CallA) (n : Nat)  (m : Nat) : r26_l1_1_1_1_1_1_1_0_1_0 call n  m = J26_l1_1_1_1_1_1_1_0_1_0 call n  m := by
  induction m with
  | zero => rfl
  | succ m ih =>
    funext w0 w10a w10l w10c w11a w11l w11c w38a w38l w38c w39 w40 S
    rw [J26_l1_1_1_1_1_1_1_0_1_0_succ, a26_l1_1_1_1_1_1_1_0_1_0, ih]
def J26_l1_1_1_1_0_1_0 (call : CallA) (n : Nat)  (m : Nat) : Option Pos → Option Pos → Option Pos → Nat → Cap → Option Pos → Nat → Cap → Int → Int → AS → Option (AV × AS) := Nat.rec (motive := fun _ => Option Pos → Option Pos → Option Pos → Nat → Cap → Option Pos → Nat → Cap → Int → Int → AS → Option (AV × AS)) (fun _ _ _ _ _ _ _ _ _ _ _ => none) (fun mK ih w0 w3 w7a w7l w7c w24a w24l w24c w25 w26 S => b26_l1_1_1_1_0_1_0 call n ih (J26_l1_1_1_1_1_1_1_0_1_0 call n  n) w0 w3 w7a w7l w7c w24a w24l w24c w25 w26 S) m
theorem J26_l1_1_1_1_0_1_0_succ (call : CallA) (n : Nat)  (m : Nat) (w0 : Option Pos) (w3 : Option Pos) (w7a : Option Pos) (w7l : Nat) (w7c : Cap) (w24a : Option Pos) (w24l : Nat) (w24c : Cap) (w25 : Int) (w26 : Int) (S : AS) : J26_l1_1_1_1_0_1_0 call n  (m + 1) w0 w3 w7a w7l w7c w24a w24l w24c w25 w26 S = b26_l1_1_1_1_0_1_0 call n (J26_l1_1_1_1_0_1_0 call n  m) (J26_l1_1_1_1_1_1_1_0_1_0 call n  n) w0 w3 w7a w7l w7c w24a w24l w24c w25 w26 S := rfl
theorem h26_l1_1_1_1_0_1_0 (call : CallA) (n : Nat)  (m : Nat) : r26_l1_1_1_1_0_1_0 call n  m = J26_l1_1_1_1_0_1_0 call n  m := by
  induction m with
  | zero => rfl
  | succ m ih =>
    funext w0 w3 w7a w7l w7c w24a w24l w24c w25 w26 S
    rw [J26_l1_1_1_1_0_1_0_succ, a26_l1_1_1_1_0_1_0, h26_l1_1_1_1_1_1_1_0_1_0 call n  n, ih]
def J26 (call : CallA) (n : Nat) (x0 : Option Pos) (x1 : List AV) (S : AS) : Option (AV × AS) := b26_entry call n (J26_l1_1_1_1_0_1_0 call n  n) x0 x1 S
theorem run26 (o : Orc) (n : Nat) (args : List AV) (S : AS) (ho : o 26 args = none) : evF E o (n + 1) (.fn 26) args S = evC E (evF E o n) n 26 (E.at 26 []) 0 (enumT 0 args) S (retK E (E.fn 26)) := by
  rw [evF, ho]; kernel_rfl
theorem J26_eq (call : CallA) (n : Nat) (x0 : Option Pos) (x1 : List AV) (S : AS) : evC E call n 26 (E.at 26 []) 0 (enumT 0 [(.ptr x0), (.agg x1)]) S (retK E (E.fn 26)) = J26 call n x0 x1 S := by
  rw [J26, a26_entry, h26_l1_1_1_1_0_1_0 call n  n]
theorem F26 {o : Orc} (n : Nat) (x0 : Option Pos) (x1 : List AV) (S : AS) (ho : ∀ args, o 26 args = none) : evF E o (n + 1) (.fn 26) [(.ptr x0), (.agg x1)] S = J26 (evF E o n) n x0 x1 S := (run26 o n [(.ptr x0), (.agg x1)] S (ho _)).trans (J26_eq _ _ x0 x1 S)
def b27_entry (call : CallA) (n : Nat)   (x0 : Option Pos) (x1 : Int) (S : AS) : Option (AV × AS) :=
 newA S (.cells [(.int .u32 0), (.int .u64 0), (.str ([])), (.int .u64 0)]) fun b1 S2 =>
 callI .i64 call 36 [(.ptr x0), (.int .u32 x1)] S2 fun v4 S3 =>
 cond (decide (v4 < 0)) (
 S3.stn (.rw b1) 0 [(.int .u32 0), (.int .u64 0), (.str ([])), (.int .u64 0)] fun S5 =>
 S5.ldn (.rw b1) 0 4 fun g6 =>
 some (.tup [(.agg g6), (.bool false)], S5)) (
 gO x0 fun p7 =>
 ldL S3 p7.1 p7.2 fun v8a v8l v8c =>
 ixSl 4 v8a v8l v4 fun p9 =>
 S3.ldn p9.1 p9.2 4 fun g10 =>
 ifO (g10.length = 4) <|
 S3.stn (.rw b1) 0 g10 fun S11 =>
 S11.ldn (.rw b1) 0 4 fun g12 =>
 some (.tup [(.agg g12), (.bool true)], S11))

theorem a27_entry (call : CallA) (n : Nat) (x0 : Option Pos) (x1 : Int) (S : AS) : evC E call n 27 (E.at 27 []) 0 (enumT 0 [(.ptr x0), (.int .u32 x1)]) S (retK E (E.fn 27)) = b27_entry call n  x0 x1 S := by kernel_rfl
def J27 (call : CallA) (n : Nat) (x0 : Option Pos) (x1 : Int) (S : AS) : Option (AV × AS) := b27_entry call n  x0 x1 S
theorem run27 (o : Orc) (n : Nat) (args : List AV) (S : AS) (ho : o 27 args = none) : evF E o (n + 1) (.fn 27) args S = evC E (evF E o n) n 27 (E.at 27 []) 0 (enumT 0 args) S (retK E (E.fn 27)) := by
  rw [evF, ho]; kernel_rfl
theorem J27_eq (call : CallA) (n : Nat) (x0 : Option Pos) (x1 : Int) (S : AS) : evC E call n 27 (E.at 27 []) 0 (enumT 0 [(.ptr x0), (.int .u32 x1)]) S (retK E (E.fn 27)) = J27 call n x0 x1 S := by
  rw [J27, a27_entry]
theorem F27 {o : Orc} (n : Nat) (x0 : Option Pos) (x1 : Int) (S : AS) (ho : ∀ args, o 27 args = none) : evF E o (n + 1) (.fn 27) [(.ptr x0), (.int .u32 x1)] S = J27 (evF E o n) n x0 x1 S := (run27 o n [(.ptr x0), (.int .u32 x1)] S (ho _)).trans (J27_eq _ _ x0 x1 S)
def b28_entry (call : CallA) (n : Nat)   (x0 : Option Pos) (x1 : List UInt8) (S : AS) : Option (AV × AS) :=
 newA S (.cells [(.int .u32 0), (.int .u64 0), (.str ([])), (.int .u64 0)]) fun b1 S2 =>
 callT call 44 [(.str x1), (.str ([115]))] S2 fun v4 S3 =>
 atS v4 0 fun v5 =>
 atB v4 1 fun v6 =>
 callT call 45 [(.str v5), (.int .i64 10), (.int .i64 32)] S3 fun v8 S7 =>
 atI .u64 v8 0 fun v9 =>
 atV v8 1 fun v10 =>
 callT call 27 [(.ptr x0), (.int .u32 (IntKind.wrap .u32 v9))] S7 fun v12 S11 =>
 atG 4 v12 0 fun g13 =>
 atB v12 1 fun v14 =>
 newA S11 (.cells [(.int .u32 0), (.int .u64 0), (.str ([])), (.int .u64 0)]) fun b15 S16 =>
 ifO (g13.length = 4) <|
 S16.stn (.rw b15) 0 g13 fun S17 =>
 cond (!v6) (
 S17.stn (.rw b1) 0 [(.int .u32 0), (.int .u64 0), (.str ([])), (.int .u64 0)] fun S18 =>
 S18.ldn (.rw b1) 0 4 fun g19 =>
 some (.tup [(.agg g19), (.bool false)], S18)) (
 ifNil E .neq ty99 v10 fun b20 =>
 cond b20 (
 S17.stn (.rw b1) 0 [(.int .u32 0), (.int .u64 0), (.str ([])), (.int .u64 0)] fun S21 =>
 S21.ldn (.rw b1) 0 4 fun g22 =>
 some (.tup [(.agg g22), (.bool false)], S21)) (
 cond (!v14) (
 S17.stn (.rw b1) 0 [(.int .u32 0), (.int .u64 0), (.str ([])), (.int .u64 0)] fun S23 =>
 S23.ldn (.rw b1) 0 4 fun g24 =>
 some (.tup [(.agg g24), (.bool false)], S23)) (
 S17.ldn (.rw b15) 0 4 fun g25 =>
 callS call 33 [(.agg g25)] S17 fun v27 S26 =>
 cond (!(v27 == x1)) (
 S26.stn (.rw b1) 0 [(.int .u32 0), (.int .u64 0), (.str ([])), (.int .u64 0)] fun S28 =>
 S28.ldn (.rw b1) 0 4 fun g29 =>
 some (.tup [(.agg g29), (.bool false)], S28)) (
 S26.ldn (.rw b15) 0 4 fun g30 =>
 ifO (g30.length = 4) <|
 S26.stn (.rw b1) 0 g30 fun S31 =>
 S31.ldn (.rw b1) 0 4 fun g32 =>
 some (.tup [(.agg g32), (.bool true)], S31)))))

theorem a28_entry (call : CallA) (n : Nat) (x0 : Option Pos) (x1 : List UInt8) (S : AS) : evC E call n 28 (E.at 28 []) 0 (enumT 0 [(.ptr x0), (.str x1)]) S (retK E (E.fn 28)) = b28_entry call n  x0 x1 S := by kernel_rfl
def J28 (call : CallA) (n : Nat) (x0 : Option Pos) (x1 : List UInt8) (S : AS) : Option (AV × AS) := b28_entry call n  x0 x1 S
theorem run28 (o : Orc) (n : Nat) (args : List AV) (S : AS) (ho : o 28 args = none) : evF E o (n + 1) (.fn 28) args S = evC E (evF E o n) n 28 (E.at 28 []) 0 (enumT 0 args) S (retK E (E.fn 28)) := by
  rw [evF, ho]; kernel_rfl
theorem J28_eq (call : CallA) (n : Nat) (x0 : Option Pos) (x1 : List UInt8) (S : AS) : evC E call n 28 (E.at 28 []) 0 (enumT 0 [(.ptr x0), (.str x1)]) S (retK E (E.fn 28)) = J28 call n x0 x1 S := by
  rw [J28, a28_entry]
theorem F28 {o : Orc} (n : Nat) (x0 : Option Pos) (x1 : List UInt8) (S : AS) (ho : ∀ args, o 28 args = none) : evF E o (n + 1) (.fn 28) [(.ptr x0), (.str x1)] S = J28 (evF E o n) n x0 x1 S := (run28 o n [(.ptr x0), (.str x1)] S (ho _)).trans (J28_eq _ _ x0 x1 S)
def b29_entry (call : CallA) (n : Nat)   (x0 : Option Pos) (S : AS) : Option (AV × AS) :=
 cond x0.isNone (
 some ((.int .u32 0), S)) (
 gO x0 fun p1 =>
 ldI .u64 S p1.1 (p1.2 + 1) fun v2 =>
 cond (decide (v2 ≥ 4294967295)) (
 some ((.int .u32 0), S)) (
 gO x0 fun p3 =>
 ldI .u64 S p3.1 (p3.2 + 1) fun v4 =>
 some ((.int .u32 (IntKind.wrap .u32 ((IntKind.wrap .u32 v4) + 1))), S)))

theorem a29_entry (call : CallA) (n : Nat) (x0 : Option Pos) (S : AS) : evC E call n 29 (E.at 29 []) 0 (enumT 0 [(.ptr x0)]) S (retK E (E.fn 29)) = b29_entry call n  x0 S := by kernel_rfl
def J29 (call : CallA) (n : Nat) (x0 : Option Pos) (S : AS) : Option (AV × AS) := b29_entry call n  x0 S
theorem run29 (o : Orc) (n : Nat) (args : List AV) (S : AS) (ho : o 29 args = none) : evF E o (n + 1) (.fn 29) args S = evC E (evF E o n) n 29 (E.at 29 []) 0 (enumT 0 args) S (retK E (E.fn 29)) := by
  rw [evF, ho]; kernel_rfl
theorem J29_eq (call : CallA) (n : Nat) (x0 : Option Pos) (S : AS) : evC E call n 29 (E.at 29 []) 0 (enumT 0 [(.ptr x0)]) S (retK E (E.fn 29)) = J29 call n x0 S := by
  rw [J29, a29_entry]
theorem F29 {o : Orc} (n : Nat) (x0 : Option Pos) (S : AS) (ho : ∀ args, o 29 args = none) : evF E o (n + 1) (.fn 29) [(.ptr x0)] S = J29 (evF E o n) n x0 S := (run29 o n [(.ptr x0)] S (ho _)).trans (J29_eq _ _ x0 S)
def b30_l1_1_0_1_0 (call : CallA) (n : Nat)  (l1_1_0_1_0 : Option Pos → Nat → Cap → Option Pos → Nat → Cap → Int → Int → AS → Option (AV × AS)) (j1_1_1 : Option Pos → Nat → Cap → AS → Option (AV × AS)) (w2a : Option Pos) (w2l : Nat) (w2c : Cap) (w10a : Option Pos) (w10l : Nat) (w10c : Cap) (w11 : Int) (w12 : Int) (S : AS) : Option (AV × AS) :=
 cond (decide (w12 < w11)) (
 ixSl 4 w10a w10l w12 fun p3 =>
 S.ldn p3.1 p3.2 4 fun g4 =>
 newA S (.cells [(.int .u32 0), (.int .u64 0), (.str ([])), (.int .u64 0)]) fun b5 S6 =>
 ifO (g4.length = 4) <|
 S6.stn (.rw b5) 0 g4 fun S7 =>
 ldS S7 (.rw b5) 2 fun v8 =>
 newA S7 (.cells [(.str v8)]) fun b9 S10 =>
 appendA 1 16 S10 w2a w2l w2c 1 (firstA S10 1 1 (.sl (some (.rw b9, 0)) 1 (.ex 1))) fun v11a v11l v11c S12 =>
 l1_1_0_1_0 v11a v11l v11c w10a w10l w10c w11 (IntKind.wrap .i64 (w12 + 1)) S12) (
 j1_1_1 w2a w2l w2c S)

def b30_j1_1_1 (call : CallA) (n : Nat)   (w2a : Option Pos) (w2l : Nat) (w2c : Cap) (S : AS) : Option (AV × AS) :=
 callT call 46 [(.sl w2a w2l w2c)] S fun v14 S13 =>
 callL call 47 [(.sl w2a w2l w2c)] S13 fun v16a v16l v16c S15 =>
 some ((.sl v16a v16l v16c), S15)

def b30_entry (call : CallA) (n : Nat)  (l1_1_0_1_0 : Option Pos → Nat → Cap → Option Pos → Nat → Cap → Int → Int → AS → Option (AV × AS)) (x0 : Option Pos) (S : AS) : Option (AV × AS) :=
 cond x0.isNone (
 some ((.sl none 0 (.ex 0)), S)) (
 gO x0 fun p1 =>
 ldL S p1.1 p1.2 fun v2a v2l v2c =>
 l1_1_0_1_0 none 0 (.ex 0) v2a v2l v2c ((v2l : Nat) : Int) 0 S)

def r30_l1_1_0_1_0 (call : CallA) (n : Nat)  (m : Nat) (w2a : Option Pos) (w2l : Nat) (w2c : Cap) (w10a : Option Pos) (w10l : Nat) (w10c : Cap) (w11 : Int) (w12 : Int) (S : AS) : Option (AV × AS) := loopN (evC E call n 30 (E.at 30 [1, 1, 0, 1, 0, 0]) 0) [2, 10, 11, 12] m [(2, (.sl w2a w2l w2c)), (10, (.sl w10a w10l w10c)), (11, (.int .i64 w11)), (12, (.int .i64 w12))] S (kBlk 0 (kSeq E call n 30 (E.at 30 [1, 1, 1]) 0 (retK E (E.fn 30))))
def r30_j1_1_1 (call : CallA) (n : Nat)  (w2a : Option Pos) (w2l : Nat) (w2c : Cap) (S : AS) : Option (AV × AS) := evC E call n 30 (E.at 30 [1, 1, 1]) 0 [(2, (.sl w2a w2l w2c))] S (retK E (E.fn 30))
theorem a30_l1_1_0_1_0 (call : CallA) (n : Nat)  (m : Nat) (w2a : Option Pos) (w2l : Nat) (w2c : Cap) (w10a : Option Pos) (w10l : Nat) (w10c : Cap) (w11 : Int) (w12 : Int) (S : AS) : r30_l1_1_0_1_0 call n  (m + 1) w2a w2l w2c w10a w10l w10c w11 w12 S = b30_l1_1_0_1_0 call n (r30_l1_1_0_1_0 call n  m) (r30_j1_1_1 call n ) w2a w2l w2c w10a w10l w10c w11 w12 S := by kernel_rfl
theorem a30_j1_1_1 (call : CallA) (n : Nat)  (w2a : Option Pos) (w2l : Nat) (w2c : Cap) (S : AS) : r30_j1_1_1 call n  w2a w2l w2c S = b30_j1_1_1 call n  w2a w2l w2c S := by kernel_rfl
theorem a30_entry (call : CallA) (n : Nat) (x0 : Option Pos) (S : AS) : evC E call n 30 (E.at 30 []) 0 (enumT 0 [(.ptr x0)]) S (retK E (E.fn 30)) = b30_entry call n (r30_l1_1_0_1_0 call n  n) x0 S := by kernel_rfl
def J30_j1_1_1 (call : CallA) (n : Nat)  (w2a : Option Pos) (w2l : Nat) (w2c : Cap) (S : AS) : Option (AV × AS) := b30_j1_1_1 call n  w2a w2l w2c S
theorem h30_j1_1_1 (call : CallA) (n : Nat)  : r30_j1_1_1 call n  = J30_j1_1_1 call n  := by
  funext w2a w2l w2c S
  rw [J30_j1_1_1, a30_j1_1_1]
def J30_l1_1_0_1_0 (call : CallA) (n : Nat)  (m : Nat) : Option Pos → Nat → Cap → Option Pos → Nat → Cap → Int → Int → AS → Option (AV × AS) := Nat.rec (motive := fun _ => Option Pos → Nat → Cap → Option Pos → Nat → Cap → Int → Int → AS → Option (AV × AS)) (fun _ _ _ _ _ _ _ _ _ => none) (fun mK ih w2a w2l w2c w10a w10l w10c w11 w12 S => b30_l1_1_0_1_0 call n ih (J30_j1_1_1 call n ) w2a w2l w2c w10a w10l w10c w11 w12 S) m
theorem J30_l1_1_0_1_0_succ (call : CallA) (n : Nat)  (m : Nat) (w2a : Option Pos) (w2l : Nat) (w2c : Cap) (w10a : Option Pos) (w10l : Nat) (w10c : Cap) (w11 : Int) (w12 : Int) (S : AS) : J30_l1_1_0_1_0 call n  (m + 1) w2a w2l w2c w10a w10l w10c w11 w12 S = b30_l1_1_0_1_0 call n (J30_l1_1_0_1_0 call n  m) (J30_j1_1_1 call n ) w2a w2l w2c w10a w10l w10c w11 w12 S := rfl
theorem h30_l1_1_0_1_0 (call : CallA) (n : Nat)  (m : Nat) : r30_l1_1_0_1_0 call n  m = J30_l1_1_0_1_0 call n  m := by
  induction m with
  | zero => rfl
  | succ m ih =>
    funext w2a w2l w2c w10a w10l w10c w11 w12 S
    rw [J30_l1_1_0_1_0_succ, a30_l1_1_0_1_0, h30_j1_1_1 call n , ih]
def J30 (call : CallA) (n : Nat) (x0 : Option Pos) (S : AS) : Option (AV × AS) := b30_entry call n (J30_l1_1_0_1_0 call n  n) x0 S
theorem run30 (o : Orc) (n : Nat) (args : List AV) (S : AS) (ho : o 30 args = none) : evF E o (n + 1) (.fn 30) args S = evC E (evF E o n) n 30 (E.at 30 []) 0 (enumT 0 args) S (retK E (E.fn 30)) := by
  rw [evF, ho]; kernel_rfl
theorem J30_eq (call : CallA) (n : Nat) (x0 : Option Pos) (S : AS) : evC E call n 30 (E.at 30 []) 0 (enumT 0 [(.ptr x0)]) S (retK E (E.fn 30)) = J30 call n x0 S := by
  rw [J30, a30_entry, h30_l1_1_0_1_0 call n  n]
theorem F30 {o : Orc} (n : Nat) (x0 : Option Pos) (S : AS) (ho : ∀ args, o 30 args = none) : evF E o (n + 1) (.fn 30) [(.ptr x0)] S = J30 (evF E o n) n x0 S := (run30 o n [(.ptr x0)] S (ho _)).trans (J30_eq _ _ x0 S)
def b31_l1_1_1_1_0_1_0 (call : CallA) (n : Nat)  (l1_1_1_1_0_1_0 : Option Pos → Nat → Cap → Option Pos → Nat → Cap → Int → Int → AS → Option (AV × AS)) (w3a : Option Pos) (w3l : Nat) (w3c : Cap) (w30a : Option Pos) (w30l : Nat) (w30c : Cap) (w31 : Int) (w32 : Int) (S : AS) : Option (AV × AS) :=
 cond (decide (w32 < w31)) (
 ixSl 4 w30a w30l w32 fun p20 =>
 S.ldn p20.1 p20.2 4 fun g21 =>
 newA S (.cells [(.int .u32 0), (.int .u64 0), (.str ([])), (.int .u64 0)]) fun b22 S23 =>
 ifO (g21.length = 4) <|
 S23.stn (.rw b22) 0 g21 fun S24 =>
 ldI .u32 S24 (.rw b22) 0 fun v25 =>
 callL call 48 [(.sl w3a w3l w3c), (.int .u64 (IntKind.wrap .u64 v25)), (.int .i64 4)] S24 fun v27a v27l v27c S26 =>
 ldI .u64 S26 (.rw b22) 1 fun v28 =>
 ldI .u64 S24 (.rw b22) 1 fun v29 =>
 cond (AV.beq (.int .u64 v29) (.int .u64 v28)) (
 callL call 48 [(.sl v27a v27l v27c), (.int .u64 v28), (.int .i64 8)] S26 fun v31a v31l v31c S30 =>
 ldS S30 (.rw b22) 2 fun v32 =>
 appendA 1 1 S30 v31a v31l v31c v32.length (firstA S30 1 v32.length (.str v32)) fun v33a v33l v33c S34 =>
 ldI .u64 S34 (.rw b22) 3 fun v35 =>
 ldI .u64 S30 (.rw b22) 3 fun v36 =>
 cond (AV.beq (.int .u64 v36) (.int .u64 v35)) (
 callL call 48 [(.sl v33a v33l v33c), (.int .u64 v35), (.int .i64 8)] S34 fun v38a v38l v38c S37 =>
 l1_1_1_1_0_1_0 v38a v38l v38c w30a w30l w30c w31 (IntKind.wrap .i64 (w32 + 1)) S37) none) none) (
 some ((.sl w3a w3l w3c), S))

def b31_entry (call : CallA) (n : Nat)  (l1_1_1_1_0_1_0 : Option Pos → Nat → Cap → Option Pos → Nat → Cap → Int → Int → AS → Option (AV × AS)) (x0 : Option Pos) (S : AS) : Option (AV × AS) :=
 cond x0.isNone (
 some ((.sl none 0 (.ex 0)), S)) (
 newA S (.cells [(.int .u8 67), (.int .u8 65), (.int .u8 84), (.int .u8 49)]) fun b1 S2 =>
 convLL S2 (some (.rw b1, 0)) 4 (.ex 4) fun v4a v4l v4c S3 =>
 callI .u32 call 29 [(.ptr x0)] S3 fun v6 S5 =>
 callL call 48 [(.sl v4a v4l v4c), (.int .u64 (IntKind.wrap .u64 v6)), (.int .i64 4)] S5 fun v8a v8l v8c S7 =>
 gO x0 fun p9 =>
 ldI .u64 S7 p9.1 (p9.2 + 2) fun v10 =>
 callL call 48 [(.sl v8a v8l v8c), (.int .u64 v10), (.int .i64 8)] S7 fun v12a v12l v12c S11 =>
 gO x0 fun p13 =>
 ldL S11 p13.1 p13.2 fun v14a v14l v14c =>
 ldL S7 p13.1 p13.2 fun v15a v15l v15c =>
 cond (AV.beq (.sl v15a v15l v15c) (.sl v14a v14l v14c)) (
 cond (AV.beq (.int .i64 ((v14l : Nat) : Int)) (.int .i64 ((v14l : Nat) : Int))) (
 callL call 48 [(.sl v12a v12l v12c), (.int .u64 (IntKind.wrap .u64 ((v14l : Nat) : Int))), (.int .i64 4)] S11 fun v17a v17l v17c S16 =>
 gO x0 fun p18 =>
 ldL S16 p18.1 p18.2 fun v19a v19l v19c =>
 l1_1_1_1_0_1_0 v17a v17l v17c v19a v19l v19c ((v19l : Nat) : Int) 0 S16) none) none)

def r31_l1_1_1_1_0_1_0 (call : CallA) (n : Nat)  (m : Nat) (w3a : Option Pos) (w3l : Nat) (w3c : Cap) (w30a : Option Pos) (w30l : Nat) (w30c : Cap) (w31 : Int) (w32 : Int) (S : AS) : Option (AV × AS) := loopN (evC E call n 31 (E.at 31 [1, 1, 1, 1, 0, 1, 0, 0]) 0) [3, 30, 31, 32] m [(3, (.sl w3a w3l w3c)), (30, (.sl w30a w30l w30c)), (31, (.int .i64 w31)), (32, (.int .i64 w32))] S (kBlk 0 (kSeq E call n 31 (E.at 31 [1, 1, 1, 1, 1]) 0 (retK E (E.fn 31))))
theorem a31_l1_1_1_1_0_1_0 (call : CallA) (n : Nat)  (m : Nat) (w3a : Option Pos) (w3l : Nat) (w3c : Cap) (w30a : Option Pos) (w30l : Nat) (w30c : Cap) (w31 : Int) (w32 : Int) (S : AS) : r31_l1_1_1_1_0_1_0 call n  (m + 1) w3a w3l w3c w30a w30l w30c w31 w32 S = b31_l1_1_1_1_0_1_0 call n (r31_l1_1_1_1_0_1_0 call n  m) w3a w3l w3c w30a w30l w30c w31 w32 S := by kernel_rfl
theorem a31_entry (call : CallA) (n : Nat) (x0 : Option Pos) (S : AS) : evC E call n 31 (E.at 31 []) 0 (enumT 0 [(.ptr x0)]) S (retK E (E.fn 31)) = b31_entry call n (r31_l1_1_1_1_0_1_0 call n  n) x0 S := by kernel_rfl
def J31_l1_1_1_1_0_1_0 (call : CallA) (n : Nat)  (m : Nat) : Option Pos → Nat → Cap → Option Pos → Nat → Cap → Int → Int → AS → Option (AV × AS) := Nat.rec (motive := fun _ => Option Pos → Nat → Cap → Option Pos → Nat → Cap → Int → Int → AS → Option (AV × AS)) (fun _ _ _ _ _ _ _ _ _ => none) (fun mK ih w3a w3l w3c w30a w30l w30c w31 w32 S => b31_l1_1_1_1_0_1_0 call n ih w3a w3l w3c w30a w30l w30c w31 w32 S) m
theorem J31_l1_1_1_1_0_1_0_succ (call : CallA) (n : Nat)  (m : Nat) (w3a : Option Pos) (w3l : Nat) (w3c : Cap) (w30a : Option Pos) (w30l : Nat) (w30c : Cap) (w31 : Int) (w32 : Int) (S : AS) : J31_l1_1_1_1_0_1_0 call n  (m + 1) w3a w3l w3c w30a w30l w30c w31 w32 S = b31_l1_1_1_1_0_1_0 call n (J31_l1_1_1_1_0_1_0 call n  m) w3a w3l w3c w30a w30l w30c w31 w32 S := rfl
theorem h31_l1_1_1_1_0_1_0 (call : CallA) (n : Nat)  (m : Nat) : r31_l1_1_1_1_0_1_0 call n  m = J31_l1_1_1_1_0_1_0 call n  m := by
  induction m with
  | zero => rfl
  | succ m ih =>
    funext w3a w3l w3c w30a w30l w30c w31 w32 S
    rw [J31_l1_1_1_1_0_1_0_succ, a31_l1_1_1_1_0_1_0, ih]
def J31 (call : CallA) (n : Nat) (x0 : Option Pos) (S : AS) : Option (AV × AS) := b31_entry call n (J31_l1_1_1_1_0_1_0 call n  n) x0 S
theorem run31 (o : Orc) (n : Nat) (args : List AV) (S : AS) (ho : o 31 args = none) : evF E o (n + 1) (.fn 31) args S = evC E (evF E o n) n 31 (E.at 31 []) 0 (enumT 0 args) S (retK E (E.fn 31)) := by
  rw [evF, ho]; kernel_rfl
theorem J31_eq (call : CallA) (n : Nat) (x0 : Option Pos) (S : AS) : evC E call n 31 (E.at 31 []) 0 (enumT 0 [(.ptr x0)]) S (retK E (E.fn 31)) = J31 call n x0 S := by
  rw [J31, a31_entry, h31_l1_1_1_1_0_1_0 call n  n]
theorem F31 {o : Orc} (n : Nat) (x0 : Option Pos) (S : AS) (ho : ∀ args, o 31 args = none) : evF E o (n + 1) (.fn 31) [(.ptr x0)] S = J31 (evF E o n) n x0 S := (run31 o n [(.ptr x0)] S (ho _)).trans (J31_eq _ _ x0 S)
def b32_entry (call : CallA) (n : Nat)   (x0 : Option Pos) (S : AS) : Option (AV × AS) :=
 cond x0.isNone (
 some ((.ptr none), S)) (
 drawA S 16 fun b1 S2 =>
 gO x0 fun p3 =>
 ldL S2 p3.1 p3.2 fun v4a v4l v4c =>
 callL call 43 [(.sl v4a v4l v4c)] S2 fun v6a v6l v6c S5 =>
 gO x0 fun p7 =>
 ldI .u64 S5 p7.1 (p7.2 + 1) fun v8 =>
 ldI .u64 S2 p7.1 (p7.2 + 1) fun v9 =>
 cond (AV.beq (.int .u64 v9) (.int .u64 v8)) (
 gO x0 fun p10 =>
 ldI .u64 S5 p10.1 (p10.2 + 2) fun v11 =>
 ldI .u64 S2 p10.1 (p10.2 + 2) fun v12 =>
 cond (AV.beq (.int .u64 v12) (.int .u64 v11)) (
 layA S5 (b1 + 14) (.cells [(.sl v6a v6l v6c), (.int .u64 v8), (.int .u64 v11)]) fun S13 =>
 some ((.ptr (some ((.rw (b1 + 14)), 0))), S13)) none) none)

theorem a32_entry (call : CallA) (n : Nat) (x0 : Option Pos) (S : AS) : evC E call n 32 (E.at 32 []) 0 (enumT 0 [(.ptr x0)]) S (retK E (E.fn 32)) = b32_entry call n  x0 S := by kernel_rfl
def J32 (call : CallA) (n : Nat) (x0 : Option Pos) (S : AS) : Option (AV × AS) := b32_entry call n  x0 S
theorem run32 (o : Orc) (n : Nat) (args : List AV) (S : AS) (ho : o 32 args = none) : evF E o (n + 1) (.fn 32) args S = evC E (evF E o n) n 32 (E.at 32 []) 0 (enumT 0 args) S (retK E (E.fn 32)) := by
  rw [evF, ho]; kernel_rfl
theorem J32_eq (call : CallA) (n : Nat) (x0 : Option Pos) (S : AS) : evC E call n 32 (E.at 32 []) 0 (enumT 0 [(.ptr x0)]) S (retK E (E.fn 32)) = J32 call n x0 S := by
  rw [J32, a32_entry]
theorem F32 {o : Orc} (n : Nat) (x0 : Option Pos) (S : AS) (ho : ∀ args, o 32 args = none) : evF E o (n + 1) (.fn 32) [(.ptr x0)] S = J32 (evF E o n) n x0 S := (run32 o n [(.ptr x0)] S (ho _)).trans (J32_eq _ _ x0 S)
def b33_entry (call : CallA) (n : Nat)   (x0 : List AV) (S : AS) : Option (AV × AS) :=
 ifO (x0.length = 4) <|
 newA S (.cells x0) fun b1 S2 =>
 ldI .u32 S2 (.rw b1) 0 fun v3 =>
 callS call 49 [(.int .u64 (IntKind.wrap .u64 v3)), (.int .i64 10)] S2 fun v5 S4 =>
 ifO (([115]).length + v5.length ≤ 9223372036854775807) <|
 some ((.str (([115]) ++ v5)), S4)

theorem a33_entry (call : CallA) (n : Nat) (x0 : List AV) (S : AS) : evC E call n 33 (E.at 33 []) 0 (enumT 0 [(.agg x0)]) S (retK E (E.fn 33)) = b33_entry call n  x0 S := by kernel_rfl
def J33 (call : CallA) (n : Nat) (x0 : List AV) (S : AS) : Option (AV × AS) := b33_entry call n  x0 S
theorem run33 (o : Orc) (n : Nat) (args : List AV) (S : AS) (ho : o 33 args = none) : evF E o (n + 1) (.fn 33) args S = evC E (evF E o n) n 33 (E.at 33 []) 0 (enumT 0 args) S (retK E (E.fn 33)) := by
  rw [evF, ho]; kernel_rfl
theorem J33_eq (call : CallA) (n : Nat) (x0 : List AV) (S : AS) : evC E call n 33 (E.at 33 []) 0 (enumT 0 [(.agg x0)]) S (retK E (E.fn 33)) = J33 call n x0 S := by
  rw [J33, a33_entry]
theorem F33 {o : Orc} (n : Nat) (x0 : List AV) (S : AS) (ho : ∀ args, o 33 args = none) : evF E o (n + 1) (.fn 33) [(.agg x0)] S = J33 (evF E o n) n x0 S := (run33 o n [(.agg x0)] S (ho _)).trans (J33_eq _ _ x0 S)
def b34_entry (call : CallA) (n : Nat)   (x0a : Option Pos) (x0l : Nat) (x0c : Cap) (S : AS) : Option (AV × AS) :=
 newA S (.cells [(.sl x0a x0l x0c)]) fun b1 S2 =>
 some ((.fn 50 [] [(.ptr (some ((.rw b1), 0)))]), S2)

theorem a34_entry (call : CallA) (n : Nat) (x0a : Option Pos) (x0l : Nat) (x0c : Cap) (S : AS) : evC E call n 34 (E.at 34 []) 0 (enumT 0 [(.sl x0a x0l x0c)]) S (retK E (E.fn 34)) = b34_entry call n  x0a x0l x0c S := by kernel_rfl
def J34 (call : CallA) (n : Nat) (x0a : Option Pos) (x0l : Nat) (x0c : Cap) (S : AS) : Option (AV × AS) := b34_entry call n  x0a x0l x0c S
theorem run34 (o : Orc) (n : Nat) (args : List AV) (S : AS) (ho : o 34 args = none) : evF E o (n + 1) (.fn 34) args S = evC E (evF E o n) n 34 (E.at 34 []) 0 (enumT 0 args) S (retK E (E.fn 34)) := by
  rw [evF, ho]; kernel_rfl
theorem J34_eq (call : CallA) (n : Nat) (x0a : Option Pos) (x0l : Nat) (x0c : Cap) (S : AS) : evC E call n 34 (E.at 34 []) 0 (enumT 0 [(.sl x0a x0l x0c)]) S (retK E (E.fn 34)) = J34 call n x0a x0l x0c S := by
  rw [J34, a34_entry]
theorem F34 {o : Orc} (n : Nat) (x0a : Option Pos) (x0l : Nat) (x0c : Cap) (S : AS) (ho : ∀ args, o 34 args = none) : evF E o (n + 1) (.fn 34) [(.sl x0a x0l x0c)] S = J34 (evF E o n) n x0a x0l x0c S := (run34 o n [(.sl x0a x0l x0c)] S (ho _)).trans (J34_eq _ _ x0a x0l x0c S)
def b35_l1_1_1_1_0_1_0 (call : CallA) (n : Nat)  (l1_1_1_1_0_1_0 : Option Pos → Nat → Cap → Option Pos → Int → Int → AS → Option (AV × AS)) (w1a : Option Pos) (w1l : Nat) (w1c : Cap) (w3 : Option Pos) (w8 : Int) (w9 : Int) (S : AS) : Option (AV × AS) :=
 cond (decide (w9 < ((w1l : Nat) : Int))) (
 ixSl 1 w1a w1l w9 fun p9 =>
 ldI .u64 S p9.1 p9.2 fun v10 =>
 gO w3 fun p11 =>
 ldI .u64 S p11.1 p11.2 fun v12 =>
 nz v12 <|
 ixSl 1 w1a w1l (IntKind.wrap .i64 (w9 - 1)) fun p13 =>
 ldI .u64 S p13.1 p13.2 fun v14 =>
 gO w3 fun p15 =>
 ldI .u64 S p15.1 p15.2 fun v16 =>
 nz v16 <|
 cond ((IntKind.wrap .u64 (Int.tdiv v10 v12)) != (IntKind.wrap .u64 (Int.tdiv v14 v16))) (
 l1_1_1_1_0_1_0 w1a w1l w1c w3 (IntKind.wrap .i64 (w8 + 1)) (IntKind.wrap .i64 (w9 + 1)) S) (
 l1_1_1_1_0_1_0 w1a w1l w1c w3 w8 (IntKind.wrap .i64 (w9 + 1)) S)) (
 gO w3 fun p17 =>
 ldI .i64 S p17.1 (p17.2 + 1) fun v18 =>
 some ((.bool (decide (w8 < v18))), S))

def b35_entry (call : CallA) (n : Nat)  (l1_1_1_1_0_1_0 : Option Pos → Nat → Cap → Option Pos → Int → Int → AS → Option (AV × AS)) (x0 : List AV) (x1a : Option Pos) (x1l : Nat) (x1c : Cap) (x2 : Int) (S : AS) : Option (AV × AS) :=
 ifO (x0.length = 2) <|
 newA S (.cells x0) fun b1 S2 =>
 ixSl 1 x1a x1l x2 fun p3 =>
 ldI .u64 S2 p3.1 p3.2 fun v4 =>
 ldI .u64 S2 (.rw b1) 0 fun v5 =>
 nz v5 <|
 cond (decide ((IntKind.wrap .i64 (x2 + 1)) < ((x1l : Nat) : Int))) (
 ixSl 1 x1a x1l (IntKind.wrap .i64 (x2 + 1)) fun p6 =>
 ldI .u64 S2 p6.1 p6.2 fun v7 =>
 ldI .u64 S2 (.rw b1) 0 fun v8 =>
 nz v8 <|
 cond ((IntKind.wrap .u64 (Int.tdiv v7 v8)) == (IntKind.wrap .u64 (Int.tdiv v4 v5))) (
 some ((.bool false), S2)) (
 l1_1_1_1_0_1_0 x1a x1l x1c (some ((.rw b1), 0)) 0 (IntKind.wrap .i64 (x2 + 1)) S2)) (
 l1_1_1_1_0_1_0 x1a x1l x1c (some ((.rw b1), 0)) 0 (IntKind.wrap .i64 (x2 + 1)) S2)

def r35_l1_1_1_1_0_1_0 (call : CallA) (n : Nat)  (m : Nat) (w1a : Option Pos) (w1l : Nat) (w1c : Cap) (w3 : Option Pos) (w8 : Int) (w9 : Int) (S : AS) : Option (AV × AS) := loopN (evC E call n 35 (E.at 35 [1, 1, 1, 1, 0, 1, 0, 0]) 0) [1, 3, 8, 9] m [(1, (.sl w1a w1l w1c)), (3, (.ptr w3)), (8, (.int .i64 w8)), (9, (.int .i64 w9))] S (kBlk 0 (kSeq E call n 35 (E.at 35 [1, 1, 1, 1, 1]) 0 (retK E (E.fn 35))))
theorem a35_l1_1_1_1_0_1_0 (call : CallA) (n : Nat)  (m : Nat) (w1a : Option Pos) (w1l : Nat) (w1c : Cap) (w3 : Option Pos) (w8 : Int) (w9 : Int) (S : AS) : r35_l1_1_1_1_0_1_0 call n  (m + 1) w1a w1l w1c w3 w8 w9 S = b35_l1_1_1_1_0_1_0 call n (r35_l1_1_1_1_0_1_0 call n  m) w1a w1l w1c w3 w8 w9 S := by kernel_rfl
theorem a35_entry (call : CallA) (n : Nat) (x0 : List AV) (x1a : Option Pos) (x1l : Nat) (x1c : Cap) (x2 : Int) (S : AS) : evC E call n 35 (E.at 35 []) 0 (enumT 0 [(.agg x0), (.sl x1a x1l x1c), (.int .i64 x2)]) S (retK E (E.fn 35)) = b35_entry call n (r35_l1_1_1_1_0_1_0 call n  n) x0 x1a x1l x1c x2 S := by kernel_rfl
def J35_l1_1_1_1_0_1_0 (call : CallA) (n : Nat)  (m : Nat) : Option Pos → Nat → Cap → Option Pos → Int → Int → AS → Option (AV × AS) := Nat.rec (motive := fun _ => Option Pos → Nat → Cap → Option Pos → Int → Int → AS → Option (AV × AS)) (fun _ _ _ _ _ _ _ => none) (fun mK ih w1a w1l w1c w3 w8 w9 S => b35_l1_1_1_1_0_1_0 call n ih w1a w1l w1c w3 w8 w9 S) m
theorem J35_l1_1_1_1_0_1_0_succ (call : CallA) (n : Nat)  (m : Nat) (w1a : Option Pos) (w1l : Nat) (w1c : Cap) (w3 : Option Pos) (w8 : Int) (w9 : Int) (S : AS) : J35_l1_1_1_1_0_1_0 call n  (m + 1) w1a w1l w1c w3 w8 w9 S = b35_l1_1_1_1_0_1_0 call n (J35_l1_1_1_1_0_1_0 call n  m) w1a w1l w1c w3 w8 w9 S := rfl
theorem h35_l1_1_1_1_0_1_0 (call : CallA) (n : Nat)  (m : Nat) : r35_l1_1_1_1_0_1_0 call n  m = J35_l1_1_1_1_0_1_0 call n  m := by
  induction m with
  | zero => rfl
  | succ m ih =>
    funext w1a w1l w1c w3 w8 w9 S
    rw [J35_l1_1_1_1_0_1_0_succ, a35_l1_1_1_1_0_1_0, ih]
def J35 (call : CallA) (n : Nat) (x0 : List AV) (x1a : Option Pos) (x1l : Nat) (x1c : Cap) (x2 : Int) (S : AS) : Option (AV × AS) := b35_entry call n (J35_l1_1_1_1_0_1_0 call n  n) x0 x1a x1l x1c x2 S
theorem run35 (o : Orc) (n : Nat) (args : List AV) (S : AS) (ho : o 35 args = none) : evF E o (n + 1) (.fn 35) args S = evC E (evF E o n) n 35 (E.at 35 []) 0 (enumT 0 args) S (retK E (E.fn 35)) := by
  rw [evF, ho]; kernel_rfl
theorem J35_eq (call : CallA) (n : Nat) (x0 : List AV) (x1a : Option Pos) (x1l : Nat) (x1c : Cap) (x2 : Int) (S : AS) : evC E call n 35 (E.at 35 []) 0 (enumT 0 [(.agg x0), (.sl x1a x1l x1c), (.int .i64 x2)]) S (retK E (E.fn 35)) = J35 call n x0 x1a x1l x1c x2 S := by
  rw [J35, a35_entry, h35_l1_1_1_1_0_1_0 call n  n]
theorem F35 {o : Orc} (n : Nat) (x0 : List AV) (x1a : Option Pos) (x1l : Nat) (x1c : Cap) (x2 : Int) (S : AS) (ho : ∀ args, o 35 args = none) : evF E o (n + 1) (.fn 35) [(.agg x0), (.sl x1a x1l x1c), (.int .i64 x2)] S = J35 (evF E o n) n x0 x1a x1l x1c x2 S := (run35 o n [(.agg x0), (.sl x1a x1l x1c), (.int .i64 x2)] S (ho _)).trans (J35_eq _ _ x0 x1a x1l x1c x2 S)
def b36_entry (call : CallA) (n : Nat)   (x0 : Option Pos) (x1 : Int) (S : AS) : Option (AV × AS) :=
 newA S (.cells [(.int .u32 x1)]) fun b1 S2 =>
 cond x0.isNone (
 some ((.int .i64 (-1)), S2)) (
 gO x0 fun p3 =>
 ldL S2 p3.1 p3.2 fun v4a v4l v4c =>
 callI .i64 call 51 [(.sl v4a v4l v4c), (.fn 52 [] [(.ptr (some ((.rw b1), 0)))])] S2 fun v6 S5 =>
 some ((.int .i64 v6), S5))

theorem a36_entry (call : CallA) (n : Nat) (x0 : Option Pos) (x1 : Int) (S : AS) : evC E call n 36 (E.at 36 []) 0 (enumT 0 [(.ptr x0), (.int .u32 x1)]) S (retK E (E.fn 36)) = b36_entry call n  x0 x1 S := by kernel_rfl
def J36 (call : CallA) (n : Nat) (x0 : Option Pos) (x1 : Int) (S : AS) : Option (AV × AS) := b36_entry call n  x0 x1 S
theorem run36 (o : Orc) (n : Nat) (args : List AV) (S : AS) (ho : o 36 args = none) : evF E o (n + 1) (.fn 36) args S = evC E (evF E o n) n 36 (E.at 36 []) 0 (enumT 0 args) S (retK E (E.fn 36)) := by
  rw [evF, ho]; kernel_rfl
theorem J36_eq (call : CallA) (n : Nat) (x0 : Option Pos) (x1 : Int) (S : AS) : evC E call n 36 (E.at 36 []) 0 (enumT 0 [(.ptr x0), (.int .u32 x1)]) S (retK E (E.fn 36)) = J36 call n x0 x1 S := by
  rw [J36, a36_entry]
theorem F36 {o : Orc} (n : Nat) (x0 : Option Pos) (x1 : Int) (S : AS) (ho : ∀ args, o 36 args = none) : evF E o (n + 1) (.fn 36) [(.ptr x0), (.int .u32 x1)] S = J36 (evF E o n) n x0 x1 S := (run36 o n [(.ptr x0), (.int .u32 x1)] S (ho _)).trans (J36_eq _ _ x0 x1 S)
def b37_entry (call : CallA) (n : Nat)   (x0a : Option Pos) (x0l : Nat) (x0c : Cap) (x1 : Int) (x2 : Int) (S : AS) : Option (AV × AS) :=
 slSl 4 x0a x0l x0c (some x1) (some x2) (some ((x0l : Nat) : Int)) fun v1a v1l v1c =>
 cond (x1 == x2) (
 some ((.sl x0a x0l x0c), S)) (
 slSl 4 x0a x0l x0c none (some x1) none fun v2a v2l v2c =>
 slSl 4 x0a x0l x0c (some x2) none none fun v3a v3l v3c =>
 appendA 4 40 S v2a v2l v2c v3l (firstA S 4 v3l (.sl v3a v3l v3c)) fun v4a v4l v4c S5 =>
 slSl 4 v4a v4l v4c (some ((v4l : Nat) : Int)) (some ((x0l : Nat) : Int)) none fun v6a v6l v6c =>
 clearA [(.int .u32 0), (.int .u64 0), (.str ([])), (.int .u64 0)] S5 v6a v6l fun S7 =>
 some ((.sl v4a v4l v4c), S7))

theorem a37_entry (call : CallA) (n : Nat) (x0a : Option Pos) (x0l : Nat) (x0c : Cap) (x1 : Int) (x2 : Int) (S : AS) : evC E call n 37 (E.at 37 []) 0 (enumT 0 [(.sl x0a x0l x0c), (.int .i64 x1), (.int .i64 x2)]) S (retK E (E.fn 37)) = b37_entry call n  x0a x0l x0c x1 x2 S := by kernel_rfl
def J37 (call : CallA) (n : Nat) (x0a : Option Pos) (x0l : Nat) (x0c : Cap) (x1 : Int) (x2 : Int) (S : AS) : Option (AV × AS) := b37_entry call n  x0a x0l x0c x1 x2 S
theorem run37 (o : Orc) (n : Nat) (args : List AV) (S : AS) (ho : o 37 args = none) : evF E o (n + 1) (.fn 37) args S = evC E (evF E o n) n 37 (E.at 37 []) 0 (enumT 0 args) S (retK E (E.fn 37)) := by
  rw [evF, ho]; kernel_rfl
theorem J37_eq (call : CallA) (n : Nat) (x0a : Option Pos) (x0l : Nat) (x0c : Cap) (x1 : Int) (x2 : Int) (S : AS) : evC E call n 37 (E.at 37 []) 0 (enumT 0 [(.sl x0a x0l x0c), (.int .i64 x1), (.int .i64 x2)]) S (retK E (E.fn 37)) = J37 call n x0a x0l x0c x1 x2 S := by
  rw [J37, a37_entry]
theorem F37 {o : Orc} (n : Nat) (x0a : Option Pos) (x0l : Nat) (x0c : Cap) (x1 : Int) (x2 : Int) (S : AS) (ho : ∀ args, o 37 args = none) : evF E o (n + 1) (.fn 37) [(.sl x0a x0l x0c), (.int .i64 x1), (.int .i64 x2)] S = J37 (evF E o n) n x0a x0l x0c x1 x2 S := (run37 o n [(.sl x0a x0l x0c), (.int .i64 x1), (.int .i64 x2)] S (ho _)).trans (J37_eq _ _ x0a x0l x0c x1 x2 S)
def b38_entry (call : CallA) (n : Nat)   (x0 : Option Pos) (x1 : Int) (x2 : List UInt8) (x3 : Int) (S : AS) : Option (AV × AS) :=
 cond (((x2.length : Nat) : Int) != 32) (
 some (.tup [(.int .u32 0), (.int .i64 2)], S)) (
 gO x0 fun p1 =>
 ldI .u64 S p1.1 (p1.2 + 1) fun v2 =>
 cond (decide (v2 > 0)) (
 gO x0 fun p3 =>
 ldI .u64 S p3.1 (p3.2 + 2) fun v4 =>
 cond (decide (x1 ≤ v4)) (
 some (.tup [(.int .u32 0), (.int .i64 182)], S)) (
 gO x0 fun p5 =>
 ldL S p5.1 p5.2 fun v6a v6l v6c =>
 cond (decide (((v6l : Nat) : Int) ≥ 256)) (
 some (.tup [(.int .u32 0), (.int .i64 5)], S)) (
 gO x0 fun p7 =>
 ldI .u64 S p7.1 (p7.2 + 1) fun v8 =>
 cond (decide (v8 ≥ 4294967295)) (
 some (.tup [(.int .u32 0), (.int .i64 5)], S)) (
 gO x0 fun p9 =>
 ldI .u64 S p9.1 (p9.2 + 1) fun v10 =>
 gO x0 fun p11 =>
 S.stn p11.1 (p11.2 + 1) [(.int .u64 (IntKind.wrap .u64 (v10 + 1)))] fun S12 =>
 gO x0 fun p13 =>
 S12.stn p13.1 (p13.2 + 2) [(.int .u64 x1)] fun S14 =>
 drawA S14 19 fun b15 S16 =>
 gO x0 fun p17 =>
 ldL S16 p17.1 p17.2 fun v18a v18l v18c =>
 gO x0 fun p19 =>
 ldI .u64 S16 p19.1 (p19.2 + 1) fun v20 =>
 layA S16 (b15 + 14) (.cells [(.int .u32 (IntKind.wrap .u32 v20)), (.int .u64 x1), (.str x2), (.int .u64 x3)]) fun S21 =>
 appendA 4 40 S21 v18a v18l v18c 1 (firstA S21 4 1 (.sl (some (.rw (b15 + 14), 0)) 1 (.ex 1))) fun v22a v22l v22c S23 =>
 gO x0 fun p24 =>
 S23.stn p24.1 p24.2 [(.sl v22a v22l v22c)] fun S25 =>
 gO x0 fun p26 =>
 ldI .u64 S25 p26.1 (p26.2 + 1) fun v27 =>
 some (.tup [(.int .u32 (IntKind.wrap .u32 v27)), (.int .i64 0)], S25))))) (
 gO x0 fun p28 =>
 ldL S p28.1 p28.2 fun v29a v29l v29c =>
 cond (decide (((v29l : Nat) : Int) ≥ 256)) (
 some (.tup [(.int .u32 0), (.int .i64 5)], S)) (
 gO x0 fun p30 =>
 ldI .u64 S p30.1 (p30.2 + 1) fun v31 =>
 cond (decide (v31 ≥ 4294967295)) (
 some (.tup [(.int .u32 0), (.int .i64 5)], S)) (
 gO x0 fun p32 =>
 ldI .u64 S p32.1 (p32.2 + 1) fun v33 =>
 gO x0 fun p34 =>
 S.stn p34.1 (p34.2 + 1) [(.int .u64 (IntKind.wrap .u64 (v33 + 1)))] fun S35 =>
 gO x0 fun p36 =>
 S35.stn p36.1 (p36.2 + 2) [(.int .u64 x1)] fun S37 =>
 drawA S37 19 fun b38 S39 =>
 gO x0 fun p40 =>
 ldL S39 p40.1 p40.2 fun v41a v41l v41c =>
 gO x0 fun p42 =>
 ldI .u64 S39 p42.1 (p42.2 + 1) fun v43 =>
 layA S39 (b38 + 14) (.cells [(.int .u32 (IntKind.wrap .u32 v43)), (.int .u64 x1), (.str x2), (.int .u64 x3)]) fun S44 =>
 appendA 4 40 S44 v41a v41l v41c 1 (firstA S44 4 1 (.sl (some (.rw (b38 + 14), 0)) 1 (.ex 1))) fun v45a v45l v45c S46 =>
 gO x0 fun p47 =>
 S46.stn p47.1 p47.2 [(.sl v45a v45l v45c)] fun S48 =>
 gO x0 fun p49 =>
 ldI .u64 S48 p49.1 (p49.2 + 1) fun v50 =>
 some (.tup [(.int .u32 (IntKind.wrap .u32 v50)), (.int .i64 0)], S48)))))

theorem a38_entry (call : CallA) (n : Nat) (x0 : Option Pos) (x1 : Int) (x2 : List UInt8) (x3 : Int) (S : AS) : evC E call n 38 (E.at 38 []) 0 (enumT 0 [(.ptr x0), (.int .u64 x1), (.str x2), (.int .u64 x3)]) S (retK E (E.fn 38)) = b38_entry call n  x0 x1 x2 x3 S := by kernel_rfl
def J38 (call : CallA) (n : Nat) (x0 : Option Pos) (x1 : Int) (x2 : List UInt8) (x3 : Int) (S : AS) : Option (AV × AS) := b38_entry call n  x0 x1 x2 x3 S
theorem run38 (o : Orc) (n : Nat) (args : List AV) (S : AS) (ho : o 38 args = none) : evF E o (n + 1) (.fn 38) args S = evC E (evF E o n) n 38 (E.at 38 []) 0 (enumT 0 args) S (retK E (E.fn 38)) := by
  rw [evF, ho]; kernel_rfl
theorem J38_eq (call : CallA) (n : Nat) (x0 : Option Pos) (x1 : Int) (x2 : List UInt8) (x3 : Int) (S : AS) : evC E call n 38 (E.at 38 []) 0 (enumT 0 [(.ptr x0), (.int .u64 x1), (.str x2), (.int .u64 x3)]) S (retK E (E.fn 38)) = J38 call n x0 x1 x2 x3 S := by
  rw [J38, a38_entry]
theorem F38 {o : Orc} (n : Nat) (x0 : Option Pos) (x1 : Int) (x2 : List UInt8) (x3 : Int) (S : AS) (ho : ∀ args, o 38 args = none) : evF E o (n + 1) (.fn 38) [(.ptr x0), (.int .u64 x1), (.str x2), (.int .u64 x3)] S = J38 (evF E o n) n x0 x1 x2 x3 S := (run38 o n [(.ptr x0), (.int .u64 x1), (.str x2), (.int .u64 x3)] S (ho _)).trans (J38_eq _ _ x0 x1 x2 x3 S)
def b39_l1_0_1_0 (call : CallA) (n : Nat)  (l1_0_1_0 : Option Pos → Int → Int → Int → AS → Option (AV × AS)) (w0 : Option Pos) (w1 : Int) (w4 : Int) (w5 : Int) (S : AS) : Option (AV × AS) :=
 gO w0 fun p1 =>
 ldL S p1.1 p1.2 fun v2a v2l v2c =>
 cond (decide (w5 < ((v2l : Nat) : Int))) (
 gO w0 fun p3 =>
 ldL S p3.1 p3.2 fun v4a v4l v4c =>
 ixSl 4 v4a v4l w5 fun p5 =>
 ldI .u32 S p5.1 p5.2 fun v6 =>
 cond (v6 == w1) (
 drawA S 20 fun b7 S8 =>
 gO w0 fun p9 =>
 ldL S8 p9.1 p9.2 fun v10a v10l v10c =>
 slSl 4 v10a v10l v10c none (some w5) none fun v11a v11l v11c =>
 layA S8 (b7 + 1) (.cells []) fun S12 =>
 appendA 4 40 S12 (some (.rw (b7 + 1), 0)) 0 (.ex 0) v11l (firstA S12 4 v11l (.sl v11a v11l v11c)) fun v13a v13l v13c S14 =>
 gO w0 fun p15 =>
 ldL S14 p15.1 p15.2 fun v16a v16l v16c =>
 ldL S8 p15.1 p15.2 fun v17a v17l v17c =>
 cond (AV.beq (.sl v17a v17l v17c) (.sl v16a v16l v16c)) (
 slSl 4 v16a v16l v16c (some (IntKind.wrap .i64 (w5 + 1))) none none fun v18a v18l v18c =>
 appendA 4 40 S14 v13a v13l v13c v18l (firstA S14 4 v18l (.sl v18a v18l v18c)) fun v19a v19l v19c S20 =>
 gO w0 fun p21 =>
 S20.stn p21.1 p21.2 [(.sl v19a v19l v19c)] fun S22 =>
 some ((.int .i64 0), S22)) none) (
 l1_0_1_0 w0 w1 w4 (IntKind.wrap .i64 (w5 + 1)) S)) (
 some ((.int .i64 7), S))

def b39_entry (call : CallA) (n : Nat)  (l1_0_1_0 : Option Pos → Int → Int → Int → AS → Option (AV × AS)) (x0 : Option Pos) (x1 : Int) (S : AS) : Option (AV × AS) :=
 l1_0_1_0 x0 x1 0 0 S

def r39_l1_0_1_0 (call : CallA) (n : Nat)  (m : Nat) (w0 : Option Pos) (w1 : Int) (w4 : Int) (w5 : Int) (S : AS) : Option (AV × AS) := loopN (evC E call n 39 (E.at 39 [1, 0, 1, 0, 0]) 0) [0, 1, 4, 5] m [(0, (.ptr w0)), (1, (.int .u32 w1)), (4, (.int .i64 w4)), (5, (.int .i64 w5))] S (kBlk 0 (kSeq E call n 39 (E.at 39 [1, 1]) 0 (retK E (E.fn 39))))
theorem a39_l1_0_1_0 (call : CallA) (n : Nat)  (m : Nat) (w0 : Option Pos) (w1 : Int) (w4 : Int) (w5 : Int) (S : AS) : r39_l1_0_1_0 call n  (m + 1) w0 w1 w4 w5 S = b39_l1_0_1_0 call n (r39_l1_0_1_0 call n  m) w0 w1 w4 w5 S := by kernel_rfl
theorem a39_entry (call : CallA) (n : Nat) (x0 : Option Pos) (x1 : Int) (S : AS) : evC E call n 39 (E.at 39 []) 0 (enumT 0 [(.ptr x0), (.int .u32 x1)]) S (retK E (E.fn 39)) = b39_entry call n (r39_l1_0_1_0 call n  n) x0 x1 S := by kernel_rfl
def J39_l1_0_1_0 (call : CallA) (n : Nat)  (m : Nat) : Option Pos → Int → Int → Int → AS → Option (AV × AS) := Nat.rec (motive := fun _ => Option Pos → Int → Int → Int → AS → Option (AV × AS)) (fun _ _ _ _ _ => none) (fun mK ih w0 w1 w4 w5 S => b39_l1_0_1_0 call n ih w0 w1 w4 w5 S) m
theorem J39_l1_0_1_0_succ (call : CallA) (n : Nat)  (m : Nat) (w0 : Option Pos) (w1 : Int) (w4 : Int) (w5 : Int) (S : AS) : J39_l1_0_1_0 call n  (m + 1) w0 w1 w4 w5 S = b39_l1_0_1_0 call n (J39_l1_0_1_0 call n  m) w0 w1 w4 w5 S := rfl
theorem h39_l1_0_1_0 (call : CallA) (n : Nat)  (m : Nat) : r39_l1_0_1_0 call n  m = J39_l1_0_1_0 call n  m := by
  induction m with
  | zero => rfl
  | succ m ih =>
    funext w0 w1 w4 w5 S
    rw [J39_l1_0_1_0_succ, a39_l1_0_1_0, ih]
def J39 (call : CallA) (n : Nat) (x0 : Option Pos) (x1 : Int) (S : AS) : Option (AV × AS) := b39_entry call n (J39_l1_0_1_0 call n  n) x0 x1 S
theorem run39 (o : Orc) (n : Nat) (args : List AV) (S : AS) (ho : o 39 args = none) : evF E o (n + 1) (.fn 39) args S = evC E (evF E o n) n 39 (E.at 39 []) 0 (enumT 0 args) S (retK E (E.fn 39)) := by
  rw [evF, ho]; kernel_rfl
theorem J39_eq (call : CallA) (n : Nat) (x0 : Option Pos) (x1 : Int) (S : AS) : evC E call n 39 (E.at 39 []) 0 (enumT 0 [(.ptr x0), (.int .u32 x1)]) S (retK E (E.fn 39)) = J39 call n x0 x1 S := by
  rw [J39, a39_entry, h39_l1_0_1_0 call n  n]
theorem F39 {o : Orc} (n : Nat) (x0 : Option Pos) (x1 : Int) (S : AS) (ho : ∀ args, o 39 args = none) : evF E o (n + 1) (.fn 39) [(.ptr x0), (.int .u32 x1)] S = J39 (evF E o n) n x0 x1 S := (run39 o n [(.ptr x0), (.int .u32 x1)] S (ho _)).trans (J39_eq _ _ x0 x1 S)
end
end Go.Ct
