/- Plain readings of the functions, and that they are what the evaluator does: by program. -/
import Derived.Test.YteakdhikjddogaaDoorGrRes
import Derived.Test.YteakdhikjddogaaDoorENV
import Derived.KernelRfl
set_option maxRecDepth 100000
set_option linter.unusedVariables false
namespace Go.Ct
open Go.Gr
noncomputable section
def b3_l1_1_1_1_0_1_0 (call : CallA) (n : Nat)  (l1_1_1_1_0_1_0 : Option Pos → Nat → Cap → Option Pos → Bool → Option Pos → Nat → Cap → Option Pos → Nat → Cap → Int → AS → Option (AV × AS)) (w1a : Option Pos) (w1l : Nat) (w1c : Cap) (w2 : Option Pos) (w4 : Bool) (w5a : Option Pos) (w5l : Nat) (w5c : Cap) (w6a : Option Pos) (w6l : Nat) (w6c : Cap) (w7 : Int) (S : AS) : Option (AV × AS) :=
 cond (decide (w7 < ((w5l : Nat) : Int))) (
 ixSl 1 w5a w5l w7 fun p23 =>
 ldI .u64 S p23.1 p23.2 fun v24 =>
 ixSl 1 w1a w1l w7 fun p25 =>
 ldI .u64 S p25.1 p25.2 fun v26 =>
 cond (v24 != v26) (
 some ((.bool false), S)) (
 l1_1_1_1_0_1_0 w1a w1l w1c w2 w4 w5a w5l w5c w6a w6l w6c (IntKind.wrap .i64 (w7 + 1)) S)) (
 gO w2 fun p27 =>
 S.ldn p27.1 p27.2 2 fun g28 =>
 callL call 14 [(.agg g28), (.sl w1a w1l w1c)] S fun v30a v30l v30c S29 =>
 callB call 13 [(.sl w6a w6l w6c), (.sl v30a v30l v30c)] S29 fun v32 S31 =>
 cond v32 (
 gO w2 fun p33 =>
 S31.ldn p33.1 p33.2 2 fun g34 =>
 callG 2 call 12 [(.agg g34)] S31 fun v36 S35 =>
 callI .i64 call 16 [(.agg v36)] S35 fun v38 S37 =>
 callI .i64 call 15 [(.int .i64 v38)] S37 fun v40 S39 =>
 gO w2 fun p41 =>
 S39.ldn p41.1 p41.2 2 fun g42 =>
 gO w2 fun p43 =>
 S37.ldn p43.1 p43.2 2 fun g44 =>
 cond (AV.beq (.agg g44) (.agg g42)) (
 gO w2 fun p45 =>
 S35.ldn p45.1 p45.2 2 fun g46 =>
 cond (AV.beq (.agg g46) (.agg g42)) (
 gO w2 fun p47 =>
 S31.ldn p47.1 p47.2 2 fun g48 =>
 cond (AV.beq (.agg g48) (.agg g42)) (
 callI .i64 call 17 [(.agg g42)] S39 fun v50 S49 =>
 cond (v40 == v50) (
 callB call 10 [] S49 fun v52 S51 =>
 some ((.bool v52), S51)) (
 some ((.bool false), S49))) none) none) none) (
 some ((.bool false), S31)))

def b3_entry (call : CallA) (n : Nat)  (l1_1_1_1_0_1_0 : Option Pos → Nat → Cap → Option Pos → Bool → Option Pos → Nat → Cap → Option Pos → Nat → Cap → Int → AS → Option (AV × AS)) (x0 : List AV) (x1a : Option Pos) (x1l : Nat) (x1c : Cap) (S : AS) : Option (AV × AS) :=
 ifO (x0.length = 2) <|
 newA S (.cells x0) fun b1 S2 =>
 S2.ldn (.rw b1) 0 2 fun g3 =>
 callB call 8 [(.agg g3)] S2 fun v5 S4 =>
 cond v5 (
 callB call 10 [] S4 fun v7 S6 =>
 some ((.bool v7), S6)) (
 cond (decide (((x1l : Nat) : Int) > 300)) (
 callB call 10 [] S4 fun v9 S8 =>
 some ((.bool v9), S8)) (
 callB call 9 [(.sl x1a x1l x1c)] S4 fun v11 S10 =>
 cond (!v11) (
 callB call 10 [] S10 fun v13 S12 =>
 some ((.bool v13), S12)) (
 newA S10 (.cells []) fun b14 S15 =>
 appendA 1 8 S15 (some (.rw b14, 0)) 0 (.ex 0) x1l (firstA S15 1 x1l (.sl x1a x1l x1c)) fun v16a v16l v16c S17 =>
 S17.ldn (.rw b1) 0 2 fun g18 =>
 callG 2 call 12 [(.agg g18)] S17 fun v20 S19 =>
 callL call 11 [(.agg v20), (.sl v16a v16l v16c)] S19 fun v22a v22l v22c S21 =>
 l1_1_1_1_0_1_0 x1a x1l x1c (some ((.rw b1), 0)) false v16a v16l v16c v22a v22l v22c 0 S21)))

def r3_l1_1_1_1_0_1_0 (call : CallA) (n : Nat)  (m : Nat) (w1a : Option Pos) (w1l : Nat) (w1c : Cap) (w2 : Option Pos) (w4 : Bool) (w5a : Option Pos) (w5l : Nat) (w5c : Cap) (w6a : Option Pos) (w6l : Nat) (w6c : Cap) (w7 : Int) (S : AS) : Option (AV × AS) := loopN (evC E call n 3 (E.at 3 [1, 1, 1, 1, 0, 1, 0, 0]) 0) [1, 2, 4, 5, 6, 7] m [(1, (.sl w1a w1l w1c)), (2, (.ptr w2)), (4, (.bool w4)), (5, (.sl w5a w5l w5c)), (6, (.sl w6a w6l w6c)), (7, (.int .i64 w7))] S (kBlk 0 (kSeq E call n 3 (E.at 3 [1, 1, 1, 1, 1]) 0 (retK E (E.fn 3))))
theorem a3_l1_1_1_1_0_1_0 (call : CallA) (n : Nat)  (m : Nat) (w1a : Option Pos) (w1l : Nat) (w1c : Cap) (w2 : Option Pos) (w4 : Bool) (w5a : Option Pos) (w5l : Nat) (w5c : Cap) (w6a : Option Pos) (w6l : Nat) (w6c : Cap) (w7 : Int) (S : AS) : r3_l1_1_1_1_0_1_0 call n  (m + 1) w1a w1l w1c w2 w4 w5a w5l w5c w6a w6l w6c w7 S = b3_l1_1_1_1_0_1_0 call n (r3_l1_1_1_1_0_1_0 call n  m) w1a w1l w1c w2 w4 w5a w5l w5c w6a w6l w6c w7 S := by kernel_rfl
theorem a3_entry (call : CallA) (n : Nat) (x0 : List AV) (x1a : Option Pos) (x1l : Nat) (x1c : Cap) (S : AS) : evC E call n 3 (E.at 3 []) 0 (enumT 0 [(.agg x0), (.sl x1a x1l x1c)]) S (retK E (E.fn 3)) = b3_entry call n (r3_l1_1_1_1_0_1_0 call n  n) x0 x1a x1l x1c S := by kernel_rfl
def J3_l1_1_1_1_0_1_0 (call : CallA) (n : Nat)  (m : Nat) : Option Pos → Nat → Cap → Option Pos → Bool → Option Pos → Nat → Cap → Option Pos → Nat → Cap → Int → AS → Option (AV × AS) := Nat.rec (motive := fun _ => Option Pos → Nat → Cap → Option Pos → Bool → Option Pos → Nat → Cap → Option Pos → Nat → Cap → Int → AS → Option (AV × AS)) (fun _ _ _ _ _ _ _ _ _ _ _ _ _ => none) (fun mK ih w1a w1l w1c w2 w4 w5a w5l w5c w6a w6l w6c w7 S => b3_l1_1_1_1_0_1_0 call n ih w1a w1l w1c w2 w4 w5a w5l w5c w6a w6l w6c w7 S) m
theorem J3_l1_1_1_1_0_1_0_succ (call : CallA) (n : Nat)  (m : Nat) (w1a : Option Pos) (w1l : Nat) (w1c : Cap) (w2 : Option Pos) (w4 : Bool) (w5a : Option Pos) (w5l : Nat) (w5c : Cap) (w6a : Option Pos) (w6l : Nat) (w6c : Cap) (w7 : Int) (S : AS) : J3_l1_1_1_1_0_1_0 call n  (m + 1) w1a w1l w1c w2 w4 w5a w5l w5c w6a w6l w6c w7 S = b3_l1_1_1_1_0_1_0 call n (J3_l1_1_1_1_0_1_0 call n  m) w1a w1l w1c w2 w4 w5a w5l w5c w6a w6l w6c w7 S := rfl
theorem h3_l1_1_1_1_0_1_0 (call : CallA) (n : Nat)  (m : Nat) : r3_l1_1_1_1_0_1_0 call n  m = J3_l1_1_1_1_0_1_0 call n  m := by
  induction m with
  | zero => rfl
  | succ m ih =>
    funext w1a w1l w1c w2 w4 w5a w5l w5c w6a w6l w6c w7 S
    rw [J3_l1_1_1_1_0_1_0_succ, a3_l1_1_1_1_0_1_0, ih]
def J3 (call : CallA) (n : Nat) (x0 : List AV) (x1a : Option Pos) (x1l : Nat) (x1c : Cap) (S : AS) : Option (AV × AS) := b3_entry call n (J3_l1_1_1_1_0_1_0 call n  n) x0 x1a x1l x1c S
theorem run3 (o : Orc) (n : Nat) (args : List AV) (S : AS) (ho : o 3 args = none) : evF E o (n + 1) (.fn 3) args S = evC E (evF E o n) n 3 (E.at 3 []) 0 (enumT 0 args) S (retK E (E.fn 3)) := by
  rw [evF, ho]; kernel_rfl
theorem J3_eq (call : CallA) (n : Nat) (x0 : List AV) (x1a : Option Pos) (x1l : Nat) (x1c : Cap) (S : AS) : evC E call n 3 (E.at 3 []) 0 (enumT 0 [(.agg x0), (.sl x1a x1l x1c)]) S (retK E (E.fn 3)) = J3 call n x0 x1a x1l x1c S := by
  rw [J3, a3_entry, h3_l1_1_1_1_0_1_0 call n  n]
theorem F3 {o : Orc} (n : Nat) (x0 : List AV) (x1a : Option Pos) (x1l : Nat) (x1c : Cap) (S : AS) (ho : ∀ args, o 3 args = none) : evF E o (n + 1) (.fn 3) [(.agg x0), (.sl x1a x1l x1c)] S = J3 (evF E o n) n x0 x1a x1l x1c S := (run3 o n [(.agg x0), (.sl x1a x1l x1c)] S (ho _)).trans (J3_eq _ _ x0 x1a x1l x1c S)
def b4_l1_1_1_1_1_0_1_0 (call : CallA) (n : Nat)  (l1_1_1_1_1_0_1_0 : Option Pos → Option Pos → Nat → Cap → Int → Option Pos → Int → AS → Option (AV × AS)) (l1_1_1_1_1_1_1_1_0_1_0 : AV → Option Pos → Option Pos → Nat → Cap → Option Pos → Nat → Cap → Option Pos → Nat → Cap → Int → AS → Option (AV × AS)) (w3 : Option Pos) (w4a : Option Pos) (w4l : Nat) (w4c : Cap) (w6 : Int) (w7 : Option Pos) (w8 : Int) (S : AS) : Option (AV × AS) :=
 gO w7 fun p44 =>
 ldL S p44.1 (p44.2 + 1) fun v45a v45l v45c =>
 cond (decide (w8 < ((v45l : Nat) : Int))) (
 gO w7 fun p46 =>
 ldL S p46.1 (p46.2 + 1) fun v47a v47l v47c =>
 ixSl 2 v47a v47l w8 fun p48 =>
 ldI .i64 S p48.1 (p48.2 + 1) fun v49 =>
 cond (decide (v49 < w6)) (
 gO w7 fun p50 =>
 ldL S p50.1 (p50.2 + 1) fun v51a v51l v51c =>
 ixSl 2 v51a v51l w8 fun p52 =>
 S.stn p52.1 (p52.2 + 1) [(.int .i64 w6)] fun S53 =>
 l1_1_1_1_1_0_1_0 w3 w4a w4l w4c w6 w7 (IntKind.wrap .i64 (w8 + 1)) S53) (
 l1_1_1_1_1_0_1_0 w3 w4a w4l w4c w6 w7 (IntKind.wrap .i64 (w8 + 1)) S)) (
 drawA S 13 fun b54 S55 =>
 gO w3 fun p56 =>
 S55.ldn p56.1 p56.2 2 fun g57 =>
 callG 2 call 12 [(.agg g57)] S55 fun v59 S58 =>
 layA S58 (b54 + 2) (.cells []) fun S60 =>
 appendA 1 8 S60 (some (.rw (b54 + 2), 0)) 0 (.ex 0) w4l (firstA S60 1 w4l (.sl w4a w4l w4c)) fun v61a v61l v61c S62 =>
 callL call 11 [(.agg v59), (.sl v61a v61l v61c)] S62 fun v64a v64l v64c S63 =>
 gO w7 fun p65 =>
 S63.ldn p65.1 p65.2 2 fun g66 =>
 gO w7 fun p67 =>
 S62.ldn p67.1 p67.2 2 fun g68 =>
 cond (AV.beq (.agg g68) (.agg g66)) (
 gO w7 fun p69 =>
 S58.ldn p69.1 p69.2 2 fun g70 =>
 cond (AV.beq (.agg g70) (.agg g66)) (
 gO w7 fun p71 =>
 S55.ldn p71.1 p71.2 2 fun g72 =>
 cond (AV.beq (.agg g72) (.agg g66)) (
 layA S63 (b54 + 7) (.cells []) fun S73 =>
 appendA 1 8 S73 (some (.rw (b54 + 7), 0)) 0 (.ex 0) w4l (firstA S73 1 w4l (.sl w4a w4l w4c)) fun v74a v74l v74c S75 =>
 gO w7 fun p76 =>
 S75.ldn p76.1 p76.2 2 fun g77 =>
 cond (AV.beq (.agg g77) (.agg g66)) (
 callL call 11 [(.agg g66), (.sl v74a v74l v74c)] S75 fun v79a v79l v79c S78 =>
 cond (((v64l : Nat) : Int) != ((w4l : Nat) : Int)) (
 some ((.bool false), S78)) (
 cond (((v79l : Nat) : Int) != ((w4l : Nat) : Int)) (
 some ((.bool false), S78)) (
 l1_1_1_1_1_1_1_1_0_1_0 .undef w3 w4a w4l w4c v64a v64l v64c v79a v79l v79c 0 S78))) none) none) none) none)

def b4_l1_1_1_1_1_1_1_1_0_1_0 (call : CallA) (n : Nat)  (l1_1_1_1_1_1_1_1_0_1_0 : AV → Option Pos → Option Pos → Nat → Cap → Option Pos → Nat → Cap → Option Pos → Nat → Cap → Int → AS → Option (AV × AS)) (w2 : AV) (w3 : Option Pos) (w4a : Option Pos) (w4l : Nat) (w4c : Cap) (w9a : Option Pos) (w9l : Nat) (w9c : Cap) (w10a : Option Pos) (w10l : Nat) (w10c : Cap) (w11 : Int) (S : AS) : Option (AV × AS) :=
 cond (decide (w11 < ((w4l : Nat) : Int))) (
 ixSl 1 w9a w9l w11 fun p80 =>
 ldB S p80.1 p80.2 fun v81 =>
 cond v81 (
 ixSl 1 w10a w10l w11 fun p82 =>
 ldB S p82.1 p82.2 fun v83 =>
 cond (!v83) (
 some ((.bool false), S)) (
 gO w3 fun p84 =>
 ldI .i64 S p84.1 p84.2 fun v85 =>
 cond (decide ((IntKind.wrap .i64 (((w4l : Nat) : Int) - w11)) ≤ v85)) (
 ixSl 1 w9a w9l w11 fun p86 =>
 ldB S p86.1 p86.2 fun v87 =>
 cond (!v87) (
 some ((.bool false), S)) (
 l1_1_1_1_1_1_1_1_0_1_0 w2 w3 w4a w4l w4c w9a w9l w9c w10a w10l w10c (IntKind.wrap .i64 (w11 + 1)) S)) (
 l1_1_1_1_1_1_1_1_0_1_0 w2 w3 w4a w4l w4c w9a w9l w9c w10a w10l w10c (IntKind.wrap .i64 (w11 + 1)) S))) (
 gO w3 fun p88 =>
 ldI .i64 S p88.1 p88.2 fun v89 =>
 cond (decide ((IntKind.wrap .i64 (((w4l : Nat) : Int) - w11)) ≤ v89)) (
 ixSl 1 w9a w9l w11 fun p90 =>
 ldB S p90.1 p90.2 fun v91 =>
 cond (!v91) (
 some ((.bool false), S)) (
 l1_1_1_1_1_1_1_1_0_1_0 w2 w3 w4a w4l w4c w9a w9l w9c w10a w10l w10c (IntKind.wrap .i64 (w11 + 1)) S)) (
 l1_1_1_1_1_1_1_1_0_1_0 w2 w3 w4a w4l w4c w9a w9l w9c w10a w10l w10c (IntKind.wrap .i64 (w11 + 1)) S))) (
 callB call 10 [] S fun v93 S92 =>
 some ((.bool v93), S92))

def b4_entry (call : CallA) (n : Nat)  (l1_1_1_1_1_0_1_0 : Option Pos → Option Pos → Nat → Cap → Int → Option Pos → Int → AS → Option (AV × AS)) (x0 : List AV) (S : AS) : Option (AV × AS) :=
 ifO (x0.length = 5) <|
 newA S (.cells x0) fun b1 S2 =>
 drawA S2 13 fun b3 S4 =>
 S4.ldn (.rw b1) 0 2 fun g5 =>
 ldL S4 (.rw b1) 2 fun v6a v6l v6c =>
 ldI .i64 S4 (.rw b1) 3 fun v7 =>
 ldI .i64 S4 (.rw b1) 4 fun v8 =>
 layA S4 (b3 + 8) (.cells [(.int .i64 0), (.sl none 0 (.ex 0))]) fun S9 =>
 ifO (g5.length = 2) <|
 S9.stn (.rw (b3 + 8)) 0 g5 fun S10 =>
 ldI .i64 S10 (.rw b1) 4 fun v11 =>
 cond (AV.beq (.int .i64 v11) (.int .i64 v8)) (
 ldI .i64 S10 (.rw b1) 3 fun v12 =>
 cond (AV.beq (.int .i64 v12) (.int .i64 v7)) (
 ldL S10 (.rw b1) 2 fun v13a v13l v13c =>
 cond (AV.beq (.sl v13a v13l v13c) (.sl v6a v6l v6c)) (
 S10.ldn (.rw (b3 + 8)) 0 2 fun g14 =>
 callB call 8 [(.agg g14)] S10 fun v16 S15 =>
 cond v16 (
 callB call 10 [] S15 fun v18 S17 =>
 some ((.bool v18), S17)) (
 cond (decide (((v6l : Nat) : Int) > 300)) (
 callB call 10 [] S15 fun v20 S19 =>
 some ((.bool v20), S19)) (
 callB call 9 [(.sl v6a v6l v6c)] S15 fun v22 S21 =>
 cond (!v22) (
 callB call 10 [] S21 fun v24 S23 =>
 some ((.bool v24), S23)) (
 S21.ldn (.rw (b3 + 8)) 0 2 fun g25 =>
 callI .i64 call 17 [(.agg g25)] S21 fun v27 S26 =>
 cond (v27 != 0) (
 callB call 10 [] S26 fun v29 S28 =>
 some ((.bool v29), S28)) (
 ldI .i64 S26 (.rw (b3 + 8)) 0 fun v30 =>
 cond (decide (v7 < v30)) (
 callB call 10 [] S26 fun v32 S31 =>
 some ((.bool v32), S31)) (
 cond (decide (v8 < 0)) (
 callB call 10 [] S26 fun v34 S33 =>
 some ((.bool v34), S33)) (
 cond (decide (v8 > 300)) (
 callB call 10 [] S26 fun v36 S35 =>
 some ((.bool v36), S35)) (
 S26.ldn (.rw (b3 + 8)) 0 2 fun g37 =>
 callG 2 call 12 [(.agg g37)] S26 fun v39 S38 =>
 newA S38 (.cells [(.int .i64 0), (.sl none 0 (.ex 0))]) fun b40 S41 =>
 ifO (v39.length = 2) <|
 S41.stn (.rw b40) 0 v39 fun S42 =>
 S42.stn (.rw b40) 0 [(.int .i64 v7)] fun S43 =>
 l1_1_1_1_1_0_1_0 (some ((.rw (b3 + 8)), 0)) v6a v6l v6c v8 (some ((.rw b40), 0)) 0 S43)))))))) none) none) none

def r4_l1_1_1_1_1_0_1_0 (call : CallA) (n : Nat)  (m : Nat) (w3 : Option Pos) (w4a : Option Pos) (w4l : Nat) (w4c : Cap) (w6 : Int) (w7 : Option Pos) (w8 : Int) (S : AS) : Option (AV × AS) := loopN (evC E call n 4 (E.at 4 [1, 1, 1, 1, 1, 0, 1, 0, 0]) 0) [3, 4, 6, 7, 8] m [(3, (.ptr w3)), (4, (.sl w4a w4l w4c)), (6, (.int .i64 w6)), (7, (.ptr w7)), (8, (.int .i64 w8))] S (kBlk 0 (kSeq E call n 4 (E.at 4 [1, 1, 1, 1, 1, 1]) 0 (retK E (E.fn 4))))
def r4_l1_1_1_1_1_1_1_1_0_1_0 (call : CallA) (n : Nat)  (m : Nat) (w2 : AV) (w3 : Option Pos) (w4a : Option Pos) (w4l : Nat) (w4c : Cap) (w9a : Option Pos) (w9l : Nat) (w9c : Cap) (w10a : Option Pos) (w10l : Nat) (w10c : Cap) (w11 : Int) (S : AS) : Option (AV × AS) := loopN (evC E call n 4 (E.at 4 [1, 1, 1, 1, 1, 1, 1, 1, 0, 1, 0, 0]) 2) [2, 3, 4, 9, 10, 11] m [(2, w2), (3, (.ptr w3)), (4, (.sl w4a w4l w4c)), (9, (.sl w9a w9l w9c)), (10, (.sl w10a w10l w10c)), (11, (.int .i64 w11))] S (kBlk 2 (kSeq E call n 4 (E.at 4 [1, 1, 1, 1, 1, 1, 1, 1, 1]) 0 (retK E (E.fn 4))))
theorem a4_l1_1_1_1_1_0_1_0 (call : CallA) (n : Nat)  (m : Nat) (w3 : Option Pos) (w4a : Option Pos) (w4l : Nat) (w4c : Cap) (w6 : Int) (w7 : Option Pos) (w8 : Int) (S : AS) : r4_l1_1_1_1_1_0_1_0 call n  (m + 1) w3 w4a w4l w4c w6 w7 w8 S = b4_l1_1_1_1_1_0_1_0 call n (r4_l1_1_1_1_1_0_1_0 call n  m) (r4_l1_1_1_1_1_1_1_1_0_1_0 call n  n) w3 w4a w4l w4c w6 w7 w8 S := by kernel_rfl
theorem a4_l1_1_1_1_1_1_1_1_0_1_0 (call : CallA) (n : Nat)  (m : Nat) (w2 : AV) (w3 : Option Pos) (w4a : Option Pos) (w4l : Nat) (w4c : Cap) (w9a : Option Pos) (w9l : Nat) (w9c : Cap) (w10a : Option Pos) (w10l : Nat) (w10c : Cap) (w11 : Int) (S : AS) : r4_l1_1_1_1_1_1_1_1_0_1_0 call n  (m + 1) w2 w3 w4a w4l w4c w9a w9l w9c w10a w10l w10c w11 S = b4_l1_1_1_1_1_1_1_1_0_1_0 call n (r4_l1_1_1_1_1_1_1_1_0_1_0 call n  m) w2 w3 w4a w4l w4c w9a w9l w9c w10a w10l w10c w11 S := by kernel_rfl
theorem a4_entry (call : CallA) (n : Nat) (x0 : List AV) (S : AS) : evC E call n 4 (E.at 4 []) 0 (enumT 0 [(.agg x0)]) S (retK E (E.fn 4)) = b4_entry call n (r4_l1_1_1_1_1_0_1_0 call n  n) x0 S := by kernel_rfl
def J4_l1_1_1_1_1_1_1_1_0_1_0 (call : CallA) (n : Nat)  (m : Nat) : AV → Option Pos → Option Pos → Nat → Cap → Option Pos → Nat → Cap → Option Pos → Nat → Cap → Int → AS → Option (AV × AS) := Nat.rec (motive := fun _ => AV → Option Pos → Option Pos → Nat → Cap → Option Pos → Nat → Cap → Option Pos → Nat → Cap → Int → AS → Option (AV × AS)) (fun _ _ _ _ _ _ _ _ _ _ _ _ _ => none) (fun mK ih w2 w3 w4a w4l w4c w9a w9l w9c w10a w10l w10c w11 S => b4_l1_1_1_1_1_1_1_1_0_1_0 call n ih w2 w3 w4a w4l w4c w9a w9l w9c w10a w10l w10c w11 S) m
theorem J4_l1_1_1_1_1_1_1_1_0_1_0_succ (call : CallA) (n : Nat)  (m : Nat) (w2 : AV) (w3 : Option Pos) (w4a : Option Pos) (w4l : Nat) (w4c : Cap) (w9a : Option Pos) (w9l : Nat) (w9c : Cap) (w10a : Option Pos) (w10l : Nat) (w10c : Cap) (w11 : Int) (S : AS) : J4_l1_1_1_1_1_1_1_1_0_1_0 call n  (m + 1) w2 w3 w4a w4l w4c w9a w9l w9c w10a w10l w10c w11 S = b4_l1_1_1_1_1_1_1_1_0_1_0 call n (J4_l1_1_1_1_1_1_1_1_0_1_0 call n  m) w2 w3 w4a w4l w4c w9a w9l w9c w10a w10l w10c w11 S := rfl
theorem h4_l1_1_1_1_1_1_1_1_0_1_0 (call : CallA) (n : Nat)  (m : Nat) : r4_l1_1_1_1_1_1_1_1_0_1_0 call n  m = J4_l1_1_1_1_1_1_1_1_0_1_0 call n  m := by
  induction m with
  | zero => rfl
  | succ m ih =>
    funext w2 w3 w4a w4l w4c w9a w9l w9c w10a w10l w10c w11 S
    rw [J4_l1_1_1_1_1_1_1_1_0_1_0_succ, a4_l1_1_1_1_1_1_1_1_0_1_0, ih]
def J4_l1_1_1_1_1_0_1_0 (call : CallA) (n : Nat)  (m : Nat) : Option Pos → Option Pos → Nat → Cap → Int → Option Pos → Int → AS → Option (AV × AS) := Nat.rec (motive := fun _ => Option Pos → Option Pos → Nat → Cap → Int → Option Pos → Int → AS → Option (AV × AS)) (fun _ _ _ _ _ _ _ _ => none) (fun mK ih w3 w4a w4l w4c w6 w7 w8 S => b4_l1_1_1_1_1_0_1_0 call n ih (J4_l1_1_1_1_1_1_1_1_0_1_0 call n  n) w3 w4a w4l w4c w6 w7 w8 S) m
theorem J4_l1_1_1_1_1_0_1_0_succ (call : CallA) (n : Nat)  (m : Nat) (w3 : Option Pos) (w4a : Option Pos) (w4l : Nat) (w4c : Cap) (w6 : Int) (w7 : Option Pos) (w8 : Int) (S : AS) : J4_l1_1_1_1_1_0_1_0 call n  (m + 1) w3 w4a w4l w4c w6 w7 w8 S = b4_l1_1_1_1_1_0_1_0 call n (J4_l1_1_1_1_1_0_1_0 call n  m) (J4_l1_1_1_1_1_1_1_1_0_1_0 call n  n) w3 w4a w4l w4c w6 w7 w8 S := rfl
theorem h4_l1_1_1_1_1_0_1_0 (call : CallA) (n : Nat)  (m : Nat) : r4_l1_1_1_1_1_0_1_0 call n  m = J4_l1_1_1_1_1_0_1_0 call n  m := by
  induction m with
  | zero => rfl
  | succ m ih =>
    funext w3 w4a w4l w4c w6 w7 w8 S
    rw [J4_l1_1_1_1_1_0_1_0_succ, a4_l1_1_1_1_1_0_1_0, h4_l1_1_1_1_1_1_1_1_0_1_0 call n  n, ih]
def J4 (call : CallA) (n : Nat) (x0 : List AV) (S : AS) : Option (AV × AS) := b4_entry call n (J4_l1_1_1_1_1_0_1_0 call n  n) x0 S
theorem run4 (o : Orc) (n : Nat) (args : List AV) (S : AS) (ho : o 4 args = none) : evF E o (n + 1) (.fn 4) args S = evC E (evF E o n) n 4 (E.at 4 []) 0 (enumT 0 args) S (retK E (E.fn 4)) := by
  rw [evF, ho]; kernel_rfl
theorem J4_eq (call : CallA) (n : Nat) (x0 : List AV) (S : AS) : evC E call n 4 (E.at 4 []) 0 (enumT 0 [(.agg x0)]) S (retK E (E.fn 4)) = J4 call n x0 S := by
  rw [J4, a4_entry, h4_l1_1_1_1_1_0_1_0 call n  n]
theorem F4 {o : Orc} (n : Nat) (x0 : List AV) (S : AS) (ho : ∀ args, o 4 args = none) : evF E o (n + 1) (.fn 4) [(.agg x0)] S = J4 (evF E o n) n x0 S := (run4 o n [(.agg x0)] S (ho _)).trans (J4_eq _ _ x0 S)
def b5_l1_1_1_1_0_1_0 (call : CallA) (n : Nat)  (l1_1_1_1_0_1_0 : Int → Int → Bool → Option Pos → Int → AS → Option (AV × AS)) (w0 : Int) (w1 : Int) (w4 : Bool) (w5 : Option Pos) (w6 : Int) (S : AS) : Option (AV × AS) :=
 cond (decide (w6 < (IntKind.wrap .i64 (256 + w0)))) (
 callS call 20 [(.int .u8 (IntKind.wrap .u8 w6))] S fun v8 S7 =>
 callT call 19 [(.ptr w5), (.int .u64 (IntKind.wrap .u64 w6)), (.str v8), (.int .u64 0)] S7 fun v10 S9 =>
 atI .u32 v10 0 fun v11 =>
 atI .i64 v10 1 fun v12 =>
 callI .i64 call 15 [(.int .i64 v12)] S9 fun v14 S13 =>
 cond (!((v14 == 0) == (decide (w6 < 256)))) (
 some ((.bool false), S13)) (
 callI .i64 call 15 [(.int .i64 v12)] S13 fun v16 S15 =>
 cond (v16 == 0) (
 cond ((IntKind.wrap .i64 v11) != (IntKind.wrap .i64 (w6 + 1))) (
 some ((.bool false), S15)) (
 callI .i64 call 15 [(.int .i64 v12)] S15 fun v18 S17 =>
 cond (v18 != 0) (
 callI .i64 call 15 [(.int .i64 v12)] S17 fun v20 S19 =>
 cond (v20 != 5) (
 some ((.bool false), S19)) (
 cond (v11 != 0) (
 some ((.bool false), S19)) (
 l1_1_1_1_0_1_0 w0 w1 w4 w5 (IntKind.wrap .i64 (w6 + 1)) S19))) (
 l1_1_1_1_0_1_0 w0 w1 w4 w5 (IntKind.wrap .i64 (w6 + 1)) S17))) (
 callI .i64 call 15 [(.int .i64 v12)] S15 fun v22 S21 =>
 cond (v22 != 0) (
 callI .i64 call 15 [(.int .i64 v12)] S21 fun v24 S23 =>
 cond (v24 != 5) (
 some ((.bool false), S23)) (
 cond (v11 != 0) (
 some ((.bool false), S23)) (
 l1_1_1_1_0_1_0 w0 w1 w4 w5 (IntKind.wrap .i64 (w6 + 1)) S23))) (
 l1_1_1_1_0_1_0 w0 w1 w4 w5 (IntKind.wrap .i64 (w6 + 1)) S21)))) (
 cond (decide (w1 ≥ 1)) (
 callI .i64 call 21 [(.ptr w5), (.int .u32 w1)] S fun v26 S25 =>
 callI .i64 call 15 [(.int .i64 v26)] S25 fun v28 S27 =>
 cond (!((v28 == 0) == (decide (w1 ≤ 256)))) (
 some ((.bool false), S27)) (
 callS call 20 [(.int .u8 1)] S27 fun v30 S29 =>
 callT call 19 [(.ptr w5), (.int .u64 1000), (.str v30), (.int .u64 0)] S29 fun v32 S31 =>
 atI .u32 v32 0 fun v33 =>
 atI .i64 v32 1 fun v34 =>
 callI .i64 call 15 [(.int .i64 v34)] S31 fun v36 S35 =>
 cond ((v36 == 0) == (decide (w1 ≤ 256))) (
 cond ((v33 == 257) == (decide (w1 ≤ 256))) (
 callI .i64 call 22 [(.ptr w5)] S35 fun v38 S37 =>
 cond (v38 == 256) (
 callB call 10 [] S37 fun v40 S39 =>
 some ((.bool v40), S39)) (
 some ((.bool false), S37))) (
 some ((.bool false), S35))) (
 some ((.bool false), S35)))) (
 callI .i64 call 21 [(.ptr w5), (.int .u32 w1)] S fun v42 S41 =>
 callI .i64 call 15 [(.int .i64 v42)] S41 fun v44 S43 =>
 cond (!((v44 == 0) == false)) (
 some ((.bool false), S43)) (
 callS call 20 [(.int .u8 1)] S43 fun v46 S45 =>
 callT call 19 [(.ptr w5), (.int .u64 1000), (.str v46), (.int .u64 0)] S45 fun v48 S47 =>
 atI .u32 v48 0 fun v49 =>
 atI .i64 v48 1 fun v50 =>
 callI .i64 call 15 [(.int .i64 v50)] S47 fun v52 S51 =>
 cond ((v52 == 0) == false) (
 cond ((v49 == 257) == false) (
 callI .i64 call 22 [(.ptr w5)] S51 fun v54 S53 =>
 cond (v54 == 256) (
 callB call 10 [] S53 fun v56 S55 =>
 some ((.bool v56), S55)) (
 some ((.bool false), S53))) (
 some ((.bool false), S51))) (
 some ((.bool false), S51)))))

def b5_entry (call : CallA) (n : Nat)  (l1_1_1_1_0_1_0 : Int → Int → Bool → Option Pos → Int → AS → Option (AV × AS)) (x0 : Int) (x1 : Int) (S : AS) : Option (AV × AS) :=
 cond (decide (x0 < 0)) (
 callB call 10 [] S fun v2 S1 =>
 some ((.bool v2), S1)) (
 cond (decide (x0 > 3)) (
 callB call 10 [] S fun v4 S3 =>
 some ((.bool v4), S3)) (
 callP call 18 [] S fun v6 S5 =>
 cond v6.isNone (
 some ((.bool false), S5)) (
 l1_1_1_1_0_1_0 x0 x1 false v6 0 S5)))

def r5_l1_1_1_1_0_1_0 (call : CallA) (n : Nat)  (m : Nat) (w0 : Int) (w1 : Int) (w4 : Bool) (w5 : Option Pos) (w6 : Int) (S : AS) : Option (AV × AS) := loopN (evC E call n 5 (E.at 5 [1, 1, 1, 1, 0, 1, 0, 0]) 0) [0, 1, 4, 5, 6] m [(0, (.int .i64 w0)), (1, (.int .u32 w1)), (4, (.bool w4)), (5, (.ptr w5)), (6, (.int .i64 w6))] S (kBlk 0 (kSeq E call n 5 (E.at 5 [1, 1, 1, 1, 1]) 0 (retK E (E.fn 5))))
theorem a5_l1_1_1_1_0_1_0 (call : CallA) (n : Nat)  (m : Nat) (w0 : Int) (w1 : Int) (w4 : Bool) (w5 : Option Pos) (w6 : Int) (S : AS) : r5_l1_1_1_1_0_1_0 call n  (m + 1) w0 w1 w4 w5 w6 S = b5_l1_1_1_1_0_1_0 call n (r5_l1_1_1_1_0_1_0 call n  m) w0 w1 w4 w5 w6 S := by kernel_rfl
theorem a5_entry (call : CallA) (n : Nat) (x0 : Int) (x1 : Int) (S : AS) : evC E call n 5 (E.at 5 []) 0 (enumT 0 [(.int .i64 x0), (.int .u32 x1)]) S (retK E (E.fn 5)) = b5_entry call n (r5_l1_1_1_1_0_1_0 call n  n) x0 x1 S := by kernel_rfl
def J5_l1_1_1_1_0_1_0 (call : CallA) (n : Nat)  (m : Nat) : Int → Int → Bool → Option Pos → Int → AS → Option (AV × AS) := Nat.rec (motive := fun _ => Int → Int → Bool → Option Pos → Int → AS → Option (AV × AS)) (fun _ _ _ _ _ _ => none) (fun mK ih w0 w1 w4 w5 w6 S => b5_l1_1_1_1_0_1_0 call n ih w0 w1 w4 w5 w6 S) m
theorem J5_l1_1_1_1_0_1_0_succ (call : CallA) (n : Nat)  (m : Nat) (w0 : Int) (w1 : Int) (w4 : Bool) (w5 : Option Pos) (w6 : Int) (S : AS) : J5_l1_1_1_1_0_1_0 call n  (m + 1) w0 w1 w4 w5 w6 S = b5_l1_1_1_1_0_1_0 call n (J5_l1_1_1_1_0_1_0 call n  m) w0 w1 w4 w5 w6 S := rfl
theorem h5_l1_1_1_1_0_1_0 (call : CallA) (n : Nat)  (m : Nat) : r5_l1_1_1_1_0_1_0 call n  m = J5_l1_1_1_1_0_1_0 call n  m := by
  induction m with
  | zero => rfl
  | succ m ih =>
    funext w0 w1 w4 w5 w6 S
    rw [J5_l1_1_1_1_0_1_0_succ, a5_l1_1_1_1_0_1_0, ih]
def J5 (call : CallA) (n : Nat) (x0 : Int) (x1 : Int) (S : AS) : Option (AV × AS) := b5_entry call n (J5_l1_1_1_1_0_1_0 call n  n) x0 x1 S
theorem run5 (o : Orc) (n : Nat) (args : List AV) (S : AS) (ho : o 5 args = none) : evF E o (n + 1) (.fn 5) args S = evC E (evF E o n) n 5 (E.at 5 []) 0 (enumT 0 args) S (retK E (E.fn 5)) := by
  rw [evF, ho]; kernel_rfl
theorem J5_eq (call : CallA) (n : Nat) (x0 : Int) (x1 : Int) (S : AS) : evC E call n 5 (E.at 5 []) 0 (enumT 0 [(.int .i64 x0), (.int .u32 x1)]) S (retK E (E.fn 5)) = J5 call n x0 x1 S := by
  rw [J5, a5_entry, h5_l1_1_1_1_0_1_0 call n  n]
theorem F5 {o : Orc} (n : Nat) (x0 : Int) (x1 : Int) (S : AS) (ho : ∀ args, o 5 args = none) : evF E o (n + 1) (.fn 5) [(.int .i64 x0), (.int .u32 x1)] S = J5 (evF E o n) n x0 x1 S := (run5 o n [(.int .i64 x0), (.int .u32 x1)] S (ho _)).trans (J5_eq _ _ x0 x1 S)
def b6_l1_1_1_1_1_1_0_1_0 (call : CallA) (n : Nat)  (l1_1_1_1_1_1_0_1_0 : Option Pos → Nat → Cap → Option Pos → Bool → Option Pos → Option Pos → Int → Int → AS → Option (AV × AS)) (l1_1_1_1_1_1_0_1_0_0_1_0_0_1_1_1_1_1_0 : Option Pos → Nat → Cap → Option Pos → Bool → Option Pos → Option Pos → Int → Int → Option Pos → Nat → Cap → Int → AS → Option (AV × AS)) (w0a : Option Pos) (w0l : Nat) (w0c : Cap) (w3 : Option Pos) (w4 : Bool) (w5 : Option Pos) (w6 : Option Pos) (w7 : Int) (w8 : Int) (S : AS) : Option (AV × AS) :=
 cond (decide (w8 < ((w0l : Nat) : Int))) (
 ixSl 8 w0a w0l w8 fun p16 =>
 ldI .i64 S p16.1 p16.2 fun v17 =>
 cond (v17 == 1) (
 ixSl 8 w0a w0l w8 fun p18 =>
 ldI .u64 S p18.1 (p18.2 + 1) fun v19 =>
 ixSl 8 w0a w0l w8 fun p20 =>
 ldS S p20.1 (p20.2 + 2) fun v21 =>
 ixSl 8 w0a w0l w8 fun p22 =>
 ldI .u64 S p22.1 (p22.2 + 3) fun v23 =>
 callT call 19 [(.ptr w5), (.int .u64 v19), (.str v21), (.int .u64 v23)] S fun v25 S24 =>
 atI .u32 v25 0 fun v26 =>
 atI .i64 v25 1 fun v27 =>
 callI .i64 call 15 [(.int .i64 v27)] S24 fun v29 S28 =>
 cond (v29 == 0) (
 cond (decide (v26 ≤ w7)) (
 some ((.bool false), S28)) (
 callI .i64 call 15 [(.int .i64 v27)] S28 fun v31 S30 =>
 cond (v31 == 0) (
 l1_1_1_1_1_1_0_1_0 w0a w0l w0c w3 w4 w5 w6 v26 (IntKind.wrap .i64 (w8 + 1)) S30) (
 l1_1_1_1_1_1_0_1_0 w0a w0l w0c w3 w4 w5 w6 w7 (IntKind.wrap .i64 (w8 + 1)) S30))) (
 callI .i64 call 15 [(.int .i64 v27)] S28 fun v33 S32 =>
 cond (v33 == 0) (
 l1_1_1_1_1_1_0_1_0 w0a w0l w0c w3 w4 w5 w6 v26 (IntKind.wrap .i64 (w8 + 1)) S32) (
 l1_1_1_1_1_1_0_1_0 w0a w0l w0c w3 w4 w5 w6 w7 (IntKind.wrap .i64 (w8 + 1)) S32))) (
 ixSl 8 w0a w0l w8 fun p34 =>
 S.ldn p34.1 p34.2 8 fun g35 =>
 callT call 24 [(.ptr w5), (.ptr w6), (.agg g35)] S fun v37 S36 =>
 atP v37 0 fun v38 =>
 atB v37 1 fun v39 =>
 ixSl 8 w0a w0l w8 fun p40 =>
 ldI .i64 S36 p40.1 p40.2 fun v41 =>
 cond (v41 == 4) (
 cond (!v38.isNone) (
 callL call 25 [(.ptr v38)] S36 fun v43a v43l v43c S42 =>
 l1_1_1_1_1_1_0_1_0_0_1_0_0_1_1_1_1_1_0 w0a w0l w0c w3 w4 v38 w6 w7 w8 v43a v43l v43c 1 S42) (
 callL call 25 [(.ptr w5)] S36 fun v45a v45l v45c S44 =>
 l1_1_1_1_1_1_0_1_0_0_1_0_0_1_1_1_1_1_0 w0a w0l w0c w3 w4 w5 w6 w7 w8 v45a v45l v45c 1 S44)) (
 callL call 25 [(.ptr w5)] S36 fun v47a v47l v47c S46 =>
 l1_1_1_1_1_1_0_1_0_0_1_0_0_1_1_1_1_1_0 w0a w0l w0c w3 w4 w5 w6 w7 w8 v47a v47l v47c 1 S46))) (
 gO w3 fun p48 =>
 S.ldn p48.1 p48.2 2 fun g49 =>
 callG 2 call 12 [(.agg g49)] S fun v51 S50 =>
 callT call 26 [(.ptr w5), (.agg v51)] S50 fun v53 S52 =>
 atL v53 0 fun v54a v54l v54c =>
 atI .i64 v53 1 fun v55 =>
 callI .i64 call 15 [(.int .i64 v55)] S52 fun v57 S56 =>
 gO w3 fun p58 =>
 S56.ldn p58.1 p58.2 2 fun g59 =>
 gO w3 fun p60 =>
 S52.ldn p60.1 p60.2 2 fun g61 =>
 cond (AV.beq (.agg g61) (.agg g59)) (
 callI .i64 call 17 [(.agg g59)] S56 fun v63 S62 =>
 cond (v57 != v63) (
 some ((.bool false), S62)) (
 callI .i64 call 15 [(.int .i64 v55)] S62 fun v65 S64 =>
 cond (v65 != 0) (
 callB call 10 [] S64 fun v67 S66 =>
 some ((.bool v67), S66)) (
 gO w3 fun p68 =>
 ldL S64 p68.1 (p68.2 + 1) fun v69a v69l v69c =>
 cond (((v69l : Nat) : Int) == 0) (
 gO w3 fun p70 =>
 S64.ldn p70.1 p70.2 2 fun g71 =>
 callG 2 call 12 [(.agg g71)] S64 fun v73 S72 =>
 callT call 26 [(.ptr w5), (.agg v73)] S72 fun v75 S74 =>
 atL v75 0 fun v76a v76l v76c =>
 atI .i64 v75 1 fun v77 =>
 callI .i64 call 15 [(.int .i64 v77)] S74 fun v79 S78 =>
 cond (v79 == 0) (
 cond (((v76l : Nat) : Int) == 0) (
 callB call 10 [] S78 fun v81 S80 =>
 some ((.bool v81), S80)) (
 some ((.bool false), S78))) (
 some ((.bool false), S78))) (
 gO w3 fun p82 =>
 ldL S64 p82.1 (p82.2 + 1) fun v83a v83l v83c =>
 cond (((v83l : Nat) : Int) == 1) (
 gO w3 fun p84 =>
 ldI .i64 S64 p84.1 p84.2 fun v85 =>
 cond (!(v85 == 0)) (
 callB call 10 [] S64 fun v87 S86 =>
 some ((.bool v87), S86)) (
 gO w3 fun p88 =>
 S64.ldn p88.1 p88.2 2 fun g89 =>
 callG 2 call 12 [(.agg g89)] S64 fun v91 S90 =>
 callT call 26 [(.ptr w5), (.agg v91)] S90 fun v93 S92 =>
 atL v93 0 fun v94a v94l v94c =>
 atI .i64 v93 1 fun v95 =>
 callI .i64 call 15 [(.int .i64 v95)] S92 fun v97 S96 =>
 cond (v97 == 0) (
 cond (((v94l : Nat) : Int) == 0) (
 callB call 10 [] S96 fun v99 S98 =>
 some ((.bool v99), S98)) (
 some ((.bool false), S96))) (
 some ((.bool false), S96)))) (
 callB call 10 [] S64 fun v101 S100 =>
 some ((.bool v101), S100)))))) none)

def b6_l1_1_1_1_1_1_0_1_0_0_1_0_0_1_1_1_1_1_0 (call : CallA) (n : Nat)  (l1_1_1_1_1_1_0_1_0_0_1_0_0_1_1_1_1_1_0 : Option Pos → Nat → Cap → Option Pos → Bool → Option Pos → Option Pos → Int → Int → Option Pos → Nat → Cap → Int → AS → Option (AV × AS)) (l1_1_1_1_1_1_0_1_0 : Option Pos → Nat → Cap → Option Pos → Bool → Option Pos → Option Pos → Int → Int → AS → Option (AV × AS)) (w0a : Option Pos) (w0l : Nat) (w0c : Cap) (w3 : Option Pos) (w4 : Bool) (w5 : Option Pos) (w6 : Option Pos) (w7 : Int) (w8 : Int) (w13a : Option Pos) (w13l : Nat) (w13c : Cap) (w14 : Int) (S : AS) : Option (AV × AS) :=
 cond (decide (w14 < ((w13l : Nat) : Int))) (
 ixSl 4 w13a w13l w14 fun p102 =>
 ldI .u32 S p102.1 p102.2 fun v103 =>
 ixSl 4 w13a w13l (IntKind.wrap .i64 (w14 - 1)) fun p104 =>
 ldI .u32 S p104.1 p104.2 fun v105 =>
 cond (decide (v103 ≤ v105)) (
 some ((.bool false), S)) (
 ixSl 4 w13a w13l w14 fun p106 =>
 ldI .u64 S p106.1 (p106.2 + 1) fun v107 =>
 ixSl 4 w13a w13l (IntKind.wrap .i64 (w14 - 1)) fun p108 =>
 ldI .u64 S p108.1 (p108.2 + 1) fun v109 =>
 cond (decide (v107 ≤ v109)) (
 some ((.bool false), S)) (
 l1_1_1_1_1_1_0_1_0_0_1_0_0_1_1_1_1_1_0 w0a w0l w0c w3 w4 w5 w6 w7 w8 w13a w13l w13c (IntKind.wrap .i64 (w14 + 1)) S))) (
 l1_1_1_1_1_1_0_1_0 w0a w0l w0c w3 w4 w5 w6 w7 (IntKind.wrap .i64 (w8 + 1)) S)

def b6_entry (call : CallA) (n : Nat)  (l1_1_1_1_1_1_0_1_0 : Option Pos → Nat → Cap → Option Pos → Bool → Option Pos → Option Pos → Int → Int → AS → Option (AV × AS)) (x0a : Option Pos) (x0l : Nat) (x0c : Cap) (x1 : List AV) (S : AS) : Option (AV × AS) :=
 ifO (x1.length = 2) <|
 newA S (.cells x1) fun b1 S2 =>
 callB call 23 [(.sl x0a x0l x0c)] S2 fun v4 S3 =>
 cond v4 (
 callB call 10 [] S3 fun v6 S5 =>
 some ((.bool v6), S5)) (
 S3.ldn (.rw b1) 0 2 fun g7 =>
 callB call 8 [(.agg g7)] S3 fun v9 S8 =>
 cond v9 (
 callB call 10 [] S8 fun v11 S10 =>
 some ((.bool v11), S10)) (
 callP call 18 [] S8 fun v13 S12 =>
 newA S12 (.cells [(.sl none 0 (.ex 0)), (.int .u64 0), (.int .u64 0)]) fun b14 S15 =>
 cond v13.isNone (
 some ((.bool false), S15)) (
 l1_1_1_1_1_1_0_1_0 x0a x0l x0c (some ((.rw b1), 0)) false v13 (some ((.rw b14), 0)) 0 0 S15)))

def r6_l1_1_1_1_1_1_0_1_0 (call : CallA) (n : Nat)  (m : Nat) (w0a : Option Pos) (w0l : Nat) (w0c : Cap) (w3 : Option Pos) (w4 : Bool) (w5 : Option Pos) (w6 : Option Pos) (w7 : Int) (w8 : Int) (S : AS) : Option (AV × AS) := loopN (evC E call n 6 (E.at 6 [1, 1, 1, 1, 1, 1, 0, 1, 0, 0]) 0) [0, 3, 4, 5, 6, 7, 8] m [(0, (.sl w0a w0l w0c)), (3, (.ptr w3)), (4, (.bool w4)), (5, (.ptr w5)), (6, (.ptr w6)), (7, (.int .u32 w7)), (8, (.int .i64 w8))] S (kBlk 0 (kSeq E call n 6 (E.at 6 [1, 1, 1, 1, 1, 1, 1]) 0 (retK E (E.fn 6))))
def r6_l1_1_1_1_1_1_0_1_0_0_1_0_0_1_1_1_1_1_0 (call : CallA) (n : Nat) (m1_1_1_1_1_1_0_1_0 : Nat) (m : Nat) (w0a : Option Pos) (w0l : Nat) (w0c : Cap) (w3 : Option Pos) (w4 : Bool) (w5 : Option Pos) (w6 : Option Pos) (w7 : Int) (w8 : Int) (w13a : Option Pos) (w13l : Nat) (w13c : Cap) (w14 : Int) (S : AS) : Option (AV × AS) := loopN (evC E call n 6 (E.at 6 [1, 1, 1, 1, 1, 1, 0, 1, 0, 0, 1, 0, 0, 1, 1, 1, 1, 1, 0, 0]) 2) [0, 3, 4, 5, 6, 7, 8, 13, 14] m [(0, (.sl w0a w0l w0c)), (3, (.ptr w3)), (4, (.bool w4)), (5, (.ptr w5)), (6, (.ptr w6)), (7, (.int .u32 w7)), (8, (.int .i64 w8)), (13, (.sl w13a w13l w13c)), (14, (.int .i64 w14))] S (kBlk 2 (kBlk 1 (kSeq E call n 6 (E.at 6 [1, 1, 1, 1, 1, 1, 0, 1, 0, 0, 1, 1]) 0 (kLp (evC E call n 6 (E.at 6 [1, 1, 1, 1, 1, 1, 0, 1, 0, 0]) 0) [0, 3, 4, 5, 6, 7, 8] m1_1_1_1_1_1_0_1_0 (kBlk 0 (kSeq E call n 6 (E.at 6 [1, 1, 1, 1, 1, 1, 1]) 0 (retK E (E.fn 6))))))))
theorem a6_l1_1_1_1_1_1_0_1_0 (call : CallA) (n : Nat)  (m : Nat) (w0a : Option Pos) (w0l : Nat) (w0c : Cap) (w3 : Option Pos) (w4 : Bool) (w5 : Option Pos) (w6 : Option Pos) (w7 : Int) (w8 : Int) (S : AS) : r6_l1_1_1_1_1_1_0_1_0 call n  (m + 1) w0a w0l w0c w3 w4 w5 w6 w7 w8 S = b6_l1_1_1_1_1_1_0_1_0 call n (r6_l1_1_1_1_1_1_0_1_0 call n  m) (r6_l1_1_1_1_1_1_0_1_0_0_1_0_0_1_1_1_1_1_0 call n m n) w0a w0l w0c w3 w4 w5 w6 w7 w8 S := by kernel_rfl
theorem a6_l1_1_1_1_1_1_0_1_0_0_1_0_0_1_1_1_1_1_0 (call : CallA) (n : Nat) (m1_1_1_1_1_1_0_1_0 : Nat) (m : Nat) (w0a : Option Pos) (w0l : Nat) (w0c : Cap) (w3 : Option Pos) (w4 : Bool) (w5 : Option Pos) (w6 : Option Pos) (w7 : Int) (w8 : Int) (w13a : Option Pos) (w13l : Nat) (w13c : Cap) (w14 : Int) (S : AS) : r6_l1_1_1_1_1_1_0_1_0_0_1_0_0_1_1_1_1_1_0 call n m1_1_1_1_1_1_0_1_0 (m + 1) w0a w0l w0c w3 w4 w5 w6 w7 w8 w13a w13l w13c w14 S = b6_l1_1_1_1_1_1_0_1_0_0_1_0_0_1_1_1_1_1_0 call n (r6_l1_1_1_1_1_1_0_1_0_0_1_0_0_1_1_1_1_1_0 call n m1_1_1_1_1_1_0_1_0 m) (r6_l1_1_1_1_1_1_0_1_0 call n  m1_1_1_1_1_1_0_1_0) w0a w0l w0c w3 w4 w5 w6 w7 w8 w13a w13l w13c w14 S := by kernel_rfl
theorem a6_entry (call : CallA) (n : Nat) (x0a : Option Pos) (x0l : Nat) (x0c : Cap) (x1 : List AV) (S : AS) : evC E call n 6 (E.at 6 []) 0 (enumT 0 [(.sl x0a x0l x0c), (.agg x1)]) S (retK E (E.fn 6)) = b6_entry call n (r6_l1_1_1_1_1_1_0_1_0 call n  n) x0a x0l x0c x1 S := by kernel_rfl
def J6_l1_1_1_1_1_1_0_1_0_0_1_0_0_1_1_1_1_1_0 (call : CallA) (n : Nat) (n1_1_1_1_1_1_0_1_0 : Option Pos → Nat → Cap → Option Pos → Bool → Option Pos → Option Pos → Int → Int → AS → Option (AV × AS)) (m : Nat) : Option Pos → Nat → Cap → Option Pos → Bool → Option Pos → Option Pos → Int → Int → Option Pos → Nat → Cap → Int → AS → Option (AV × AS) := Nat.rec (motive := fun _ => Option Pos → Nat → Cap → Option Pos → Bool → Option Pos → Option Pos → Int → Int → Option Pos → Nat → Cap → Int → AS → Option (AV × AS)) (fun _ _ _ _ _ _ _ _ _ _ _ _ _ _ => none) (fun mK ih w0a w0l w0c w3 w4 w5 w6 w7 w8 w13a w13l w13c w14 S => b6_l1_1_1_1_1_1_0_1_0_0_1_0_0_1_1_1_1_1_0 call n ih n1_1_1_1_1_1_0_1_0 w0a w0l w0c w3 w4 w5 w6 w7 w8 w13a w13l w13c w14 S) m
theorem J6_l1_1_1_1_1_1_0_1_0_0_1_0_0_1_1_1_1_1_0_succ (call : CallA) (n : Nat) (n1_1_1_1_1_1_0_1_0 : Option Pos → Nat → Cap → Option Pos → Bool → Option Pos → Option Pos → Int → Int → AS → Option (AV × AS)) (m : Nat) (w0a : Option Pos) (w0l : Nat) (w0c : Cap) (w3 : Option Pos) (w4 : Bool) (w5 : Option Pos) (w6 : Option Pos) (w7 : Int) (w8 : Int) (w13a : Option Pos) (w13l : Nat) (w13c : Cap) (w14 : Int) (S : AS) : J6_l1_1_1_1_1_1_0_1_0_0_1_0_0_1_1_1_1_1_0 call n n1_1_1_1_1_1_0_1_0 (m + 1) w0a w0l w0c w3 w4 w5 w6 w7 w8 w13a w13l w13c w14 S = b6_l1_1_1_1_1_1_0_1_0_0_1_0_0_1_1_1_1_1_0 call n (J6_l1_1_1_1_1_1_0_1_0_0_1_0_0_1_1_1_1_1_0 call n n1_1_1_1_1_1_0_1_0 m) n1_1_1_1_1_1_0_1_0 w0a w0l w0c w3 w4 w5 w6 w7 w8 w13a w13l w13c w14 S := rfl
theorem h6_l1_1_1_1_1_1_0_1_0_0_1_0_0_1_1_1_1_1_0 (call : CallA) (n : Nat) (m1_1_1_1_1_1_0_1_0 : Nat) (m : Nat) : r6_l1_1_1_1_1_1_0_1_0_0_1_0_0_1_1_1_1_1_0 call n m1_1_1_1_1_1_0_1_0 m = J6_l1_1_1_1_1_1_0_1_0_0_1_0_0_1_1_1_1_1_0 call n (r6_l1_1_1_1_1_1_0_1_0 call n  m1_1_1_1_1_1_0_1_0) m := by
  induction m with
  | zero => rfl
  | succ m ih =>
    funext w0a w0l w0c w3 w4 w5 w6 w7 w8 w13a w13l w13c w14 S
    rw [J6_l1_1_1_1_1_1_0_1_0_0_1_0_0_1_1_1_1_1_0_succ, a6_l1_1_1_1_1_1_0_1_0_0_1_0_0_1_1_1_1_1_0, ih]
def J6_l1_1_1_1_1_1_0_1_0 (call : CallA) (n : Nat)  (m : Nat) : Option Pos → Nat → Cap → Option Pos → Bool → Option Pos → Option Pos → Int → Int → AS → Option (AV × AS) := Nat.rec (motive := fun _ => Option Pos → Nat → Cap → Option Pos → Bool → Option Pos → Option Pos → Int → Int → AS → Option (AV × AS)) (fun _ _ _ _ _ _ _ _ _ _ => none) (fun mK ih w0a w0l w0c w3 w4 w5 w6 w7 w8 S => b6_l1_1_1_1_1_1_0_1_0 call n ih (J6_l1_1_1_1_1_1_0_1_0_0_1_0_0_1_1_1_1_1_0 call n ih n) w0a w0l w0c w3 w4 w5 w6 w7 w8 S) m
theorem J6_l1_1_1_1_1_1_0_1_0_succ (call : CallA) (n : Nat)  (m : Nat) (w0a : Option Pos) (w0l : Nat) (w0c : Cap) (w3 : Option Pos) (w4 : Bool) (w5 : Option Pos) (w6 : Option Pos) (w7 : Int) (w8 : Int) (S : AS) : J6_l1_1_1_1_1_1_0_1_0 call n  (m + 1) w0a w0l w0c w3 w4 w5 w6 w7 w8 S = b6_l1_1_1_1_1_1_0_1_0 call n (J6_l1_1_1_1_1_1_0_1_0 call n  m) (J6_l1_1_1_1_1_1_0_1_0_0_1_0_0_1_1_1_1_1_0 call n (J6_l1_1_1_1_1_1_0_1_0 call n  m) n) w0a w0l w0c w3 w4 w5 w6 w7 w8 S := rfl
theorem h6_l1_1_1_1_1_1_0_1_0 (call : CallA) (n : Nat)  (m : Nat) : r6_l1_1_1_1_1_1_0_1_0 call n  m = J6_l1_1_1_1_1_1_0_1_0 call n  m := by
  induction m with
  | zero => rfl
  | succ m ih =>
    funext w0a w0l w0c w3 w4 w5 w6 w7 w8 S
    rw [J6_l1_1_1_1_1_1_0_1_0_succ, a6_l1_1_1_1_1_1_0_1_0, h6_l1_1_1_1_1_1_0_1_0_0_1_0_0_1_1_1_1_1_0 call n m n, ih]
def J6 (call : CallA) (n : Nat) (x0a : Option Pos) (x0l : Nat) (x0c : Cap) (x1 : List AV) (S : AS) : Option (AV × AS) := b6_entry call n (J6_l1_1_1_1_1_1_0_1_0 call n  n) x0a x0l x0c x1 S
theorem run6 (o : Orc) (n : Nat) (args : List AV) (S : AS) (ho : o 6 args = none) : evF E o (n + 1) (.fn 6) args S = evC E (evF E o n) n 6 (E.at 6 []) 0 (enumT 0 args) S (retK E (E.fn 6)) := by
  rw [evF, ho]; kernel_rfl
theorem J6_eq (call : CallA) (n : Nat) (x0a : Option Pos) (x0l : Nat) (x0c : Cap) (x1 : List AV) (S : AS) : evC E call n 6 (E.at 6 []) 0 (enumT 0 [(.sl x0a x0l x0c), (.agg x1)]) S (retK E (E.fn 6)) = J6 call n x0a x0l x0c x1 S := by
  rw [J6, a6_entry, h6_l1_1_1_1_1_1_0_1_0 call n  n]
theorem F6 {o : Orc} (n : Nat) (x0a : Option Pos) (x0l : Nat) (x0c : Cap) (x1 : List AV) (S : AS) (ho : ∀ args, o 6 args = none) : evF E o (n + 1) (.fn 6) [(.sl x0a x0l x0c), (.agg x1)] S = J6 (evF E o n) n x0a x0l x0c x1 S := (run6 o n [(.sl x0a x0l x0c), (.agg x1)] S (ho _)).trans (J6_eq _ _ x0a x0l x0c x1 S)
def b7_entry (call : CallA) (n : Nat)    (S : AS) : Option (AV × AS) :=
 callS call 20 [(.int .u8 1)] S fun v2 S1 =>
 callT call 19 [(.ptr none), (.int .u64 1), (.str v2), (.int .u64 1)] S1 fun v4 S3 =>
 atI .u32 v4 0 fun v5 =>
 atI .i64 v4 1 fun v6 =>
 callT call 27 [(.ptr none), (.int .u32 1)] S3 fun v8 S7 =>
 atG 4 v8 0 fun g9 =>
 atB v8 1 fun v10 =>
 newA S7 (.cells [(.int .u32 0), (.int .u64 0), (.str ([])), (.int .u64 0)]) fun b11 S12 =>
 ifO (g9.length = 4) <|
 S12.stn (.rw b11) 0 g9 fun S13 =>
 callT call 28 [(.ptr none), (.str ([115, 49]))] S13 fun v15 S14 =>
 atG 4 v15 0 fun g16 =>
 atB v15 1 fun v17 =>
 newA S14 (.cells [(.int .u32 0), (.int .u64 0), (.str ([])), (.int .u64 0)]) fun b18 S19 =>
 ifO (g16.length = 4) <|
 S19.stn (.rw b18) 0 g16 fun S20 =>
 callT call 26 [(.ptr none), (.agg [(.int .i64 0), (.sl none 0 (.ex 0))])] S20 fun v22 S21 =>
 atL v22 0 fun v23a v23l v23c =>
 atI .i64 v22 1 fun v24 =>
 callB call 10 [] S21 fun v26 S25 =>
 cond v26 (
 cond (v5 == 0) (
 callI .i64 call 15 [(.int .i64 v6)] S25 fun v28 S27 =>
 cond (v28 == 7) (
 callI .i64 call 21 [(.ptr none), (.int .u32 1)] S27 fun v30 S29 =>
 callI .i64 call 15 [(.int .i64 v30)] S29 fun v32 S31 =>
 cond (v32 == 7) (
 S31.ldn (.rw b11) 0 4 fun g33 =>
 aggEq ty65 g33 [(.int .u32 0), (.int .u64 0), (.str ([])), (.int .u64 0)] fun b34 =>
 cond b34 (
 cond (!v10) (
 S31.ldn (.rw b18) 0 4 fun g35 =>
 aggEq ty65 g35 [(.int .u32 0), (.int .u64 0), (.str ([])), (.int .u64 0)] fun b36 =>
 cond b36 (
 cond (!v17) (
 cond (((v23l : Nat) : Int) == 0) (
 callI .i64 call 15 [(.int .i64 v24)] S31 fun v38 S37 =>
 cond (v38 == 7) (
 callL call 25 [(.ptr none)] S37 fun v40a v40l v40c S39 =>
 cond (((v40l : Nat) : Int) == 0) (
 callI .i64 call 22 [(.ptr none)] S39 fun v42 S41 =>
 cond (v42 == 0) (
 callI .u32 call 29 [(.ptr none)] S41 fun v44 S43 =>
 cond (v44 == 0) (
 callL call 30 [(.ptr none)] S43 fun v46a v46l v46c S45 =>
 cond (((v46l : Nat) : Int) == 0) (
 callL call 31 [(.ptr none)] S45 fun v48a v48l v48c S47 =>
 cond (((v48l : Nat) : Int) == 0) (
 callP call 32 [(.ptr none)] S47 fun v50 S49 =>
 cond v50.isNone (
 callS call 33 [(.agg [(.int .u32 12), (.int .u64 0), (.str ([])), (.int .u64 0)])] S49 fun v52 S51 =>
 some ((.bool (v52 == ([115, 49, 50]))), S51)) (
 some ((.bool false), S49))) (
 some ((.bool false), S47))) (
 some ((.bool false), S45))) (
 some ((.bool false), S43))) (
 some ((.bool false), S41))) (
 some ((.bool false), S39))) (
 some ((.bool false), S37))) (
 some ((.bool false), S31))) (
 some ((.bool false), S31))) (
 some ((.bool false), S31))) (
 some ((.bool false), S31))) (
 some ((.bool false), S31))) (
 some ((.bool false), S31))) (
 some ((.bool false), S27))) (
 some ((.bool false), S25))) (
 some ((.bool false), S25))

theorem a7_entry (call : CallA) (n : Nat)  (S : AS) : evC E call n 7 (E.at 7 []) 0 (enumT 0 []) S (retK E (E.fn 7)) = b7_entry call n   S := by kernel_rfl
def J7 (call : CallA) (n : Nat)  (S : AS) : Option (AV × AS) := b7_entry call n   S
theorem run7 (o : Orc) (n : Nat) (args : List AV) (S : AS) (ho : o 7 args = none) : evF E o (n + 1) (.fn 7) args S = evC E (evF E o n) n 7 (E.at 7 []) 0 (enumT 0 args) S (retK E (E.fn 7)) := by
  rw [evF, ho]; kernel_rfl
theorem J7_eq (call : CallA) (n : Nat)  (S : AS) : evC E call n 7 (E.at 7 []) 0 (enumT 0 []) S (retK E (E.fn 7)) = J7 call n  S := by
  rw [J7, a7_entry]
theorem F7 {o : Orc} (n : Nat)  (S : AS) (ho : ∀ args, o 7 args = none) : evF E o (n + 1) (.fn 7) [] S = J7 (evF E o n) n  S := (run7 o n [] S (ho _)).trans (J7_eq _ _  S)
def b8_entry (call : CallA) (n : Nat)   (x0 : List AV) (S : AS) : Option (AV × AS) :=
 ifO (x0.length = 2) <|
 newA S (.cells x0) fun b1 S2 =>
 ldL S2 (.rw b1) 1 fun v3a v3l v3c =>
 some ((.bool (decide (((v3l : Nat) : Int) > 50))), S2)

theorem a8_entry (call : CallA) (n : Nat) (x0 : List AV) (S : AS) : evC E call n 8 (E.at 8 []) 0 (enumT 0 [(.agg x0)]) S (retK E (E.fn 8)) = b8_entry call n  x0 S := by kernel_rfl
def J8 (call : CallA) (n : Nat) (x0 : List AV) (S : AS) : Option (AV × AS) := b8_entry call n  x0 S
theorem run8 (o : Orc) (n : Nat) (args : List AV) (S : AS) (ho : o 8 args = none) : evF E o (n + 1) (.fn 8) args S = evC E (evF E o n) n 8 (E.at 8 []) 0 (enumT 0 args) S (retK E (E.fn 8)) := by
  rw [evF, ho]; kernel_rfl
theorem J8_eq (call : CallA) (n : Nat) (x0 : List AV) (S : AS) : evC E call n 8 (E.at 8 []) 0 (enumT 0 [(.agg x0)]) S (retK E (E.fn 8)) = J8 call n x0 S := by
  rw [J8, a8_entry]
theorem F8 {o : Orc} (n : Nat) (x0 : List AV) (S : AS) (ho : ∀ args, o 8 args = none) : evF E o (n + 1) (.fn 8) [(.agg x0)] S = J8 (evF E o n) n x0 S := (run8 o n [(.agg x0)] S (ho _)).trans (J8_eq _ _ x0 S)
def b9_l1_0_1_0 (call : CallA) (n : Nat)  (l1_0_1_0 : Option Pos → Nat → Cap → Bool → Int → AS → Option (AV × AS)) (w0a : Option Pos) (w0l : Nat) (w0c : Cap) (w2 : Bool) (w3 : Int) (S : AS) : Option (AV × AS) :=
 cond (decide (w3 < ((w0l : Nat) : Int))) (
 ixSl 1 w0a w0l w3 fun p1 =>
 ldI .u64 S p1.1 p1.2 fun v2 =>
 ixSl 1 w0a w0l (IntKind.wrap .i64 (w3 - 1)) fun p3 =>
 ldI .u64 S p3.1 p3.2 fun v4 =>
 cond (decide (v2 ≤ v4)) (
 some ((.bool false), S)) (
 l1_0_1_0 w0a w0l w0c w2 (IntKind.wrap .i64 (w3 + 1)) S)) (
 some ((.bool true), S))

def b9_entry (call : CallA) (n : Nat)  (l1_0_1_0 : Option Pos → Nat → Cap → Bool → Int → AS → Option (AV × AS)) (x0a : Option Pos) (x0l : Nat) (x0c : Cap) (S : AS) : Option (AV × AS) :=
 l1_0_1_0 x0a x0l x0c false 1 S

def r9_l1_0_1_0 (call : CallA) (n : Nat)  (m : Nat) (w0a : Option Pos) (w0l : Nat) (w0c : Cap) (w2 : Bool) (w3 : Int) (S : AS) : Option (AV × AS) := loopN (evC E call n 9 (E.at 9 [1, 0, 1, 0, 0]) 0) [0, 2, 3] m [(0, (.sl w0a w0l w0c)), (2, (.bool w2)), (3, (.int .i64 w3))] S (kBlk 0 (kSeq E call n 9 (E.at 9 [1, 1]) 0 (retK E (E.fn 9))))
theorem a9_l1_0_1_0 (call : CallA) (n : Nat)  (m : Nat) (w0a : Option Pos) (w0l : Nat) (w0c : Cap) (w2 : Bool) (w3 : Int) (S : AS) : r9_l1_0_1_0 call n  (m + 1) w0a w0l w0c w2 w3 S = b9_l1_0_1_0 call n (r9_l1_0_1_0 call n  m) w0a w0l w0c w2 w3 S := by kernel_rfl
theorem a9_entry (call : CallA) (n : Nat) (x0a : Option Pos) (x0l : Nat) (x0c : Cap) (S : AS) : evC E call n 9 (E.at 9 []) 0 (enumT 0 [(.sl x0a x0l x0c)]) S (retK E (E.fn 9)) = b9_entry call n (r9_l1_0_1_0 call n  n) x0a x0l x0c S := by kernel_rfl
def J9_l1_0_1_0 (call : CallA) (n : Nat)  (m : Nat) : Option Pos → Nat → Cap → Bool → Int → AS → Option (AV × AS) := Nat.rec (motive := fun _ => Option Pos → Nat → Cap → Bool → Int → AS → Option (AV × AS)) (fun _ _ _ _ _ _ => none) (fun mK ih w0a w0l w0c w2 w3 S => b9_l1_0_1_0 call n ih w0a w0l w0c w2 w3 S) m
theorem J9_l1_0_1_0_succ (call : CallA) (n : Nat)  (m : Nat) (w0a : Option Pos) (w0l : Nat) (w0c : Cap) (w2 : Bool) (w3 : Int) (S : AS) : J9_l1_0_1_0 call n  (m + 1) w0a w0l w0c w2 w3 S = b9_l1_0_1_0 call n (J9_l1_0_1_0 call n  m) w0a w0l w0c w2 w3 S := rfl
theorem h9_l1_0_1_0 (call : CallA) (n : Nat)  (m : Nat) : r9_l1_0_1_0 call n  m = J9_l1_0_1_0 call n  m := by
  induction m with
  | zero => rfl
  | succ m ih =>
    funext w0a w0l w0c w2 w3 S
    rw [J9_l1_0_1_0_succ, a9_l1_0_1_0, ih]
def J9 (call : CallA) (n : Nat) (x0a : Option Pos) (x0l : Nat) (x0c : Cap) (S : AS) : Option (AV × AS) := b9_entry call n (J9_l1_0_1_0 call n  n) x0a x0l x0c S
theorem run9 (o : Orc) (n : Nat) (args : List AV) (S : AS) (ho : o 9 args = none) : evF E o (n + 1) (.fn 9) args S = evC E (evF E o n) n 9 (E.at 9 []) 0 (enumT 0 args) S (retK E (E.fn 9)) := by
  rw [evF, ho]; kernel_rfl
theorem J9_eq (call : CallA) (n : Nat) (x0a : Option Pos) (x0l : Nat) (x0c : Cap) (S : AS) : evC E call n 9 (E.at 9 []) 0 (enumT 0 [(.sl x0a x0l x0c)]) S (retK E (E.fn 9)) = J9 call n x0a x0l x0c S := by
  rw [J9, a9_entry, h9_l1_0_1_0 call n  n]
theorem F9 {o : Orc} (n : Nat) (x0a : Option Pos) (x0l : Nat) (x0c : Cap) (S : AS) (ho : ∀ args, o 9 args = none) : evF E o (n + 1) (.fn 9) [(.sl x0a x0l x0c)] S = J9 (evF E o n) n x0a x0l x0c S := (run9 o n [(.sl x0a x0l x0c)] S (ho _)).trans (J9_eq _ _ x0a x0l x0c S)
def b10_entry (call : CallA) (n : Nat)    (S : AS) : Option (AV × AS) :=
 callP call 18 [] S fun v2 S1 =>
 cond v2.isNone (
 some ((.bool false), S1)) (
 callS call 20 [(.int .u8 97)] S1 fun v4 S3 =>
 callT call 19 [(.ptr v2), (.int .u64 5), (.str v4), (.int .u64 1)] S3 fun v6 S5 =>
 atI .u32 v6 0 fun v7 =>
 atI .i64 v6 1 fun v8 =>
 callS call 20 [(.int .u8 98)] S5 fun v10 S9 =>
 callT call 19 [(.ptr v2), (.int .u64 5), (.str v10), (.int .u64 1)] S9 fun v12 S11 =>
 atI .u32 v12 0 fun v13 =>
 atI .i64 v12 1 fun v14 =>
 callS call 20 [(.int .u8 98)] S11 fun v16 S15 =>
 callT call 19 [(.ptr v2), (.int .u64 6), (.str v16), (.int .u64 1)] S15 fun v18 S17 =>
 atI .u32 v18 0 fun v19 =>
 atI .i64 v18 1 fun v20 =>
 callI .i64 call 21 [(.ptr v2), (.int .u32 1)] S17 fun v22 S21 =>
 callT call 28 [(.ptr v2), (.str ([115, 50]))] S21 fun v24 S23 =>
 atG 4 v24 0 fun g25 =>
 atB v24 1 fun v26 =>
 newA S23 (.cells [(.int .u32 0), (.int .u64 0), (.str ([])), (.int .u64 0)]) fun b27 S28 =>
 ifO (g25.length = 4) <|
 S28.stn (.rw b27) 0 g25 fun S29 =>
 callT call 28 [(.ptr v2), (.str ([115, 48, 50]))] S29 fun v31 S30 =>
 atG 4 v31 0 fun g32 =>
 atB v31 1 fun v33 =>
 newA S30 (.cells [(.int .u32 0), (.int .u64 0), (.str ([])), (.int .u64 0)]) fun b34 S35 =>
 ifO (g32.length = 4) <|
 S35.stn (.rw b34) 0 g32 fun S36 =>
 newA S36 (.cells [(.int .u64 10), (.int .i64 2)]) fun b37 S38 =>
 newA S38 (.cells [(.int .u64 1), (.int .u64 5), (.int .u64 12), (.int .u64 18), (.int .u64 31)]) fun b39 S40 =>
 callL call 11 [(.agg [(.int .i64 1), (.sl (some (.rw b37, 0)) 1 (.ex 1))]), (.sl (some (.rw b39, 0)) 5 (.ex 5))] S40 fun v42a v42l v42c S41 =>
 cond (v7 == 1) (
 callI .i64 call 15 [(.int .i64 v8)] S41 fun v44 S43 =>
 cond (v44 == 0) (
 callI .i64 call 15 [(.int .i64 v14)] S43 fun v46 S45 =>
 cond (v46 == 182) (
 cond (v19 == 2) (
 callI .i64 call 15 [(.int .i64 v20)] S45 fun v48 S47 =>
 cond (v48 == 0) (
 callI .i64 call 15 [(.int .i64 v22)] S47 fun v50 S49 =>
 cond (v50 == 0) (
 cond v26 (
 ldI .u64 S49 (.rw b27) 1 fun v51 =>
 cond (v51 == 6) (
 cond (!v33) (
 callI .u32 call 29 [(.ptr v2)] S49 fun v53 S52 =>
 cond (v53 == 3) (
 callL call 31 [(.ptr v2)] S52 fun v55a v55l v55c S54 =>
 cond (((v55l : Nat) : Int) == 72) (
 cond (((v42l : Nat) : Int) == 5) (
 ixSl 1 v42a v42l 0 fun p56 =>
 ldB S54 p56.1 p56.2 fun v57 =>
 cond (!v57) (
 ixSl 1 v42a v42l 1 fun p58 =>
 ldB S54 p58.1 p58.2 fun v59 =>
 cond (!v59) (
 ixSl 1 v42a v42l 2 fun p60 =>
 ldB S54 p60.1 p60.2 fun v61 =>
 cond (!v61) (
 ixSl 1 v42a v42l 3 fun p62 =>
 ldB S54 p62.1 p62.2 fun v63 =>
 cond v63 (
 ixSl 1 v42a v42l 4 fun p64 =>
 ldB S54 p64.1 p64.2 fun v65 =>
 some ((.bool v65), S54)) (
 some ((.bool false), S54))) (
 some ((.bool false), S54))) (
 some ((.bool false), S54))) (
 some ((.bool false), S54))) (
 some ((.bool false), S54))) (
 some ((.bool false), S54))) (
 some ((.bool false), S52))) (
 some ((.bool false), S49))) (
 some ((.bool false), S49))) (
 some ((.bool false), S49))) (
 some ((.bool false), S49))) (
 some ((.bool false), S47))) (
 some ((.bool false), S45))) (
 some ((.bool false), S45))) (
 some ((.bool false), S43))) (
 some ((.bool false), S41)))

theorem a10_entry (call : CallA) (n : Nat)  (S : AS) : evC E call n 10 (E.at 10 []) 0 (enumT 0 []) S (retK E (E.fn 10)) = b10_entry call n   S := by kernel_rfl
def J10 (call : CallA) (n : Nat)  (S : AS) : Option (AV × AS) := b10_entry call n   S
theorem run10 (o : Orc) (n : Nat) (args : List AV) (S : AS) (ho : o 10 args = none) : evF E o (n + 1) (.fn 10) args S = evC E (evF E o n) n 10 (E.at 10 []) 0 (enumT 0 args) S (retK E (E.fn 10)) := by
  rw [evF, ho]; kernel_rfl
theorem J10_eq (call : CallA) (n : Nat)  (S : AS) : evC E call n 10 (E.at 10 []) 0 (enumT 0 []) S (retK E (E.fn 10)) = J10 call n  S := by
  rw [J10, a10_entry]
theorem F10 {o : Orc} (n : Nat)  (S : AS) (ho : ∀ args, o 10 args = none) : evF E o (n + 1) (.fn 10) [] S = J10 (evF E o n) n  S := (run10 o n [] S (ho _)).trans (J10_eq _ _  S)
end
end Go.Ct
