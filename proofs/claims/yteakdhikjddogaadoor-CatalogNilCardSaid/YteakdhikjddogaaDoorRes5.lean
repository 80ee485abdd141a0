/- Plain readings of the functions, and that they are what the evaluator does: by program. -/
import Derived.Test.YteakdhikjddogaaDoorGrRes
import Derived.Test.YteakdhikjddogaaDoorENV
import Derived.KernelRfl
set_option maxRecDepth 100000
set_option linter.unusedVariables false
namespace Go.Ct
open Go.Gr
noncomputable section
def b64_entry (call : CallA) (n : Nat)   (x0 : Int) (S : AS) : Option (AV × AS) :=
 some ((.int .u8 (orI .u8 x0 32)), S)

theorem a64_entry (call : CallA) (n : Nat) (x0 : Int) (S : AS) : evC E call n 64 (E.at 64 []) 0 (enumT 0 [(.int .u8 x0)]) S (retK E (E.fn 64)) = b64_entry call n  x0 S := by kernel_rfl
def J64 (call : CallA) (n : Nat) (x0 : Int) (S : AS) : Option (AV × AS) := b64_entry call n  x0 S
theorem run64 (o : Orc) (n : Nat) (args : List AV) (S : AS) (ho : o 64 args = none) : evF E o (n + 1) (.fn 64) args S = evC E (evF E o n) n 64 (E.at 64 []) 0 (enumT 0 args) S (retK E (E.fn 64)) := by
  rw [evF, ho]; kernel_rfl
theorem J64_eq (call : CallA) (n : Nat) (x0 : Int) (S : AS) : evC E call n 64 (E.at 64 []) 0 (enumT 0 [(.int .u8 x0)]) S (retK E (E.fn 64)) = J64 call n x0 S := by
  rw [J64, a64_entry]
theorem F64 {o : Orc} (n : Nat) (x0 : Int) (S : AS) (ho : ∀ args, o 64 args = none) : evF E o (n + 1) (.fn 64) [(.int .u8 x0)] S = J64 (evF E o n) n x0 S := (run64 o n [(.int .u8 x0)] S (ho _)).trans (J64_eq _ _ x0 S)
def b65_l1_1_1_1_1_1_0_0 (call : CallA) (n : Nat)  (l1_1_1_1_1_1_0_0 : List UInt8 → Bool → Int → Int → Bool → AS → Option (AV × AS)) (w0 : List UInt8) (w2 : Bool) (w3 : Int) (w4 : Int) (w5 : Bool) (S : AS) : Option (AV × AS) :=
 cond (decide (w4 < ((w0.length : Nat) : Int))) (
 ixStr w0 w4 fun v81 =>
 cond (decide (48 ≤ v81)) (
 ixStr w0 w4 fun v82 =>
 cond (decide (v82 ≤ 57)) (
 l1_1_1_1_1_1_0_0 w0 w2 48 (IntKind.wrap .i64 (w4 + 1)) w5 S) (
 cond w5 (
 ixStr w0 w4 fun v83 =>
 callI .u8 call 64 [(.int .u8 v83)] S fun v85 S84 =>
 cond (decide (97 ≤ v85)) (
 ixStr w0 w4 fun v86 =>
 callI .u8 call 64 [(.int .u8 v86)] S84 fun v88 S87 =>
 cond (decide (v88 ≤ 102)) (
 l1_1_1_1_1_1_0_0 w0 w2 48 (IntKind.wrap .i64 (w4 + 1)) w5 S87) (
 ixStr w0 w4 fun v89 =>
 cond (v89 == 95) (
 cond (w3 != 48) (
 some ((.bool false), S87)) (
 l1_1_1_1_1_1_0_0 w0 w2 95 (IntKind.wrap .i64 (w4 + 1)) w5 S87)) (
 cond (w3 == 95) (
 some ((.bool false), S87)) (
 l1_1_1_1_1_1_0_0 w0 w2 33 (IntKind.wrap .i64 (w4 + 1)) w5 S87)))) (
 ixStr w0 w4 fun v90 =>
 cond (v90 == 95) (
 cond (w3 != 48) (
 some ((.bool false), S84)) (
 l1_1_1_1_1_1_0_0 w0 w2 95 (IntKind.wrap .i64 (w4 + 1)) w5 S84)) (
 cond (w3 == 95) (
 some ((.bool false), S84)) (
 l1_1_1_1_1_1_0_0 w0 w2 33 (IntKind.wrap .i64 (w4 + 1)) w5 S84)))) (
 ixStr w0 w4 fun v91 =>
 cond (v91 == 95) (
 cond (w3 != 48) (
 some ((.bool false), S)) (
 l1_1_1_1_1_1_0_0 w0 w2 95 (IntKind.wrap .i64 (w4 + 1)) w5 S)) (
 cond (w3 == 95) (
 some ((.bool false), S)) (
 l1_1_1_1_1_1_0_0 w0 w2 33 (IntKind.wrap .i64 (w4 + 1)) w5 S))))) (
 cond w5 (
 ixStr w0 w4 fun v92 =>
 callI .u8 call 64 [(.int .u8 v92)] S fun v94 S93 =>
 cond (decide (97 ≤ v94)) (
 ixStr w0 w4 fun v95 =>
 callI .u8 call 64 [(.int .u8 v95)] S93 fun v97 S96 =>
 cond (decide (v97 ≤ 102)) (
 l1_1_1_1_1_1_0_0 w0 w2 48 (IntKind.wrap .i64 (w4 + 1)) w5 S96) (
 ixStr w0 w4 fun v98 =>
 cond (v98 == 95) (
 cond (w3 != 48) (
 some ((.bool false), S96)) (
 l1_1_1_1_1_1_0_0 w0 w2 95 (IntKind.wrap .i64 (w4 + 1)) w5 S96)) (
 cond (w3 == 95) (
 some ((.bool false), S96)) (
 l1_1_1_1_1_1_0_0 w0 w2 33 (IntKind.wrap .i64 (w4 + 1)) w5 S96)))) (
 ixStr w0 w4 fun v99 =>
 cond (v99 == 95) (
 cond (w3 != 48) (
 some ((.bool false), S93)) (
 l1_1_1_1_1_1_0_0 w0 w2 95 (IntKind.wrap .i64 (w4 + 1)) w5 S93)) (
 cond (w3 == 95) (
 some ((.bool false), S93)) (
 l1_1_1_1_1_1_0_0 w0 w2 33 (IntKind.wrap .i64 (w4 + 1)) w5 S93)))) (
 ixStr w0 w4 fun v100 =>
 cond (v100 == 95) (
 cond (w3 != 48) (
 some ((.bool false), S)) (
 l1_1_1_1_1_1_0_0 w0 w2 95 (IntKind.wrap .i64 (w4 + 1)) w5 S)) (
 cond (w3 == 95) (
 some ((.bool false), S)) (
 l1_1_1_1_1_1_0_0 w0 w2 33 (IntKind.wrap .i64 (w4 + 1)) w5 S))))) (
 some ((.bool (w3 != 95)), S))

def b65_entry (call : CallA) (n : Nat)  (l1_1_1_1_1_1_0_0 : List UInt8 → Bool → Int → Int → Bool → AS → Option (AV × AS)) (x0 : List UInt8) (S : AS) : Option (AV × AS) :=
 cond (decide (((x0.length : Nat) : Int) ≥ 1)) (
 ixStr x0 0 fun v1 =>
 cond (v1 == 45) (
 slStr x0 (some 1) none fun v2 =>
 cond (decide (((v2.length : Nat) : Int) ≥ 2)) (
 ixStr v2 0 fun v3 =>
 cond (v3 == 48) (
 ixStr v2 1 fun v4 =>
 callI .u8 call 64 [(.int .u8 v4)] S fun v6 S5 =>
 cond (v6 == 98) (
 ixStr v2 1 fun v7 =>
 callI .u8 call 64 [(.int .u8 v7)] S5 fun v9 S8 =>
 l1_1_1_1_1_1_0_0 v2 false 48 2 (v9 == 120) S8) (
 ixStr v2 1 fun v10 =>
 callI .u8 call 64 [(.int .u8 v10)] S5 fun v12 S11 =>
 cond (v12 == 111) (
 ixStr v2 1 fun v13 =>
 callI .u8 call 64 [(.int .u8 v13)] S11 fun v15 S14 =>
 l1_1_1_1_1_1_0_0 v2 false 48 2 (v15 == 120) S14) (
 ixStr v2 1 fun v16 =>
 callI .u8 call 64 [(.int .u8 v16)] S11 fun v18 S17 =>
 cond (v18 == 120) (
 ixStr v2 1 fun v19 =>
 callI .u8 call 64 [(.int .u8 v19)] S17 fun v21 S20 =>
 l1_1_1_1_1_1_0_0 v2 false 48 2 (v21 == 120) S20) (
 l1_1_1_1_1_1_0_0 v2 false 94 0 false S17)))) (
 l1_1_1_1_1_1_0_0 v2 false 94 0 false S)) (
 l1_1_1_1_1_1_0_0 v2 false 94 0 false S)) (
 ixStr x0 0 fun v22 =>
 cond (v22 == 43) (
 slStr x0 (some 1) none fun v23 =>
 cond (decide (((v23.length : Nat) : Int) ≥ 2)) (
 ixStr v23 0 fun v24 =>
 cond (v24 == 48) (
 ixStr v23 1 fun v25 =>
 callI .u8 call 64 [(.int .u8 v25)] S fun v27 S26 =>
 cond (v27 == 98) (
 ixStr v23 1 fun v28 =>
 callI .u8 call 64 [(.int .u8 v28)] S26 fun v30 S29 =>
 l1_1_1_1_1_1_0_0 v23 false 48 2 (v30 == 120) S29) (
 ixStr v23 1 fun v31 =>
 callI .u8 call 64 [(.int .u8 v31)] S26 fun v33 S32 =>
 cond (v33 == 111) (
 ixStr v23 1 fun v34 =>
 callI .u8 call 64 [(.int .u8 v34)] S32 fun v36 S35 =>
 l1_1_1_1_1_1_0_0 v23 false 48 2 (v36 == 120) S35) (
 ixStr v23 1 fun v37 =>
 callI .u8 call 64 [(.int .u8 v37)] S32 fun v39 S38 =>
 cond (v39 == 120) (
 ixStr v23 1 fun v40 =>
 callI .u8 call 64 [(.int .u8 v40)] S38 fun v42 S41 =>
 l1_1_1_1_1_1_0_0 v23 false 48 2 (v42 == 120) S41) (
 l1_1_1_1_1_1_0_0 v23 false 94 0 false S38)))) (
 l1_1_1_1_1_1_0_0 v23 false 94 0 false S)) (
 l1_1_1_1_1_1_0_0 v23 false 94 0 false S)) (
 cond (decide (((x0.length : Nat) : Int) ≥ 2)) (
 ixStr x0 0 fun v43 =>
 cond (v43 == 48) (
 ixStr x0 1 fun v44 =>
 callI .u8 call 64 [(.int .u8 v44)] S fun v46 S45 =>
 cond (v46 == 98) (
 ixStr x0 1 fun v47 =>
 callI .u8 call 64 [(.int .u8 v47)] S45 fun v49 S48 =>
 l1_1_1_1_1_1_0_0 x0 false 48 2 (v49 == 120) S48) (
 ixStr x0 1 fun v50 =>
 callI .u8 call 64 [(.int .u8 v50)] S45 fun v52 S51 =>
 cond (v52 == 111) (
 ixStr x0 1 fun v53 =>
 callI .u8 call 64 [(.int .u8 v53)] S51 fun v55 S54 =>
 l1_1_1_1_1_1_0_0 x0 false 48 2 (v55 == 120) S54) (
 ixStr x0 1 fun v56 =>
 callI .u8 call 64 [(.int .u8 v56)] S51 fun v58 S57 =>
 cond (v58 == 120) (
 ixStr x0 1 fun v59 =>
 callI .u8 call 64 [(.int .u8 v59)] S57 fun v61 S60 =>
 l1_1_1_1_1_1_0_0 x0 false 48 2 (v61 == 120) S60) (
 l1_1_1_1_1_1_0_0 x0 false 94 0 false S57)))) (
 l1_1_1_1_1_1_0_0 x0 false 94 0 false S)) (
 l1_1_1_1_1_1_0_0 x0 false 94 0 false S)))) (
 cond (decide (((x0.length : Nat) : Int) ≥ 2)) (
 ixStr x0 0 fun v62 =>
 cond (v62 == 48) (
 ixStr x0 1 fun v63 =>
 callI .u8 call 64 [(.int .u8 v63)] S fun v65 S64 =>
 cond (v65 == 98) (
 ixStr x0 1 fun v66 =>
 callI .u8 call 64 [(.int .u8 v66)] S64 fun v68 S67 =>
 l1_1_1_1_1_1_0_0 x0 false 48 2 (v68 == 120) S67) (
 ixStr x0 1 fun v69 =>
 callI .u8 call 64 [(.int .u8 v69)] S64 fun v71 S70 =>
 cond (v71 == 111) (
 ixStr x0 1 fun v72 =>
 callI .u8 call 64 [(.int .u8 v72)] S70 fun v74 S73 =>
 l1_1_1_1_1_1_0_0 x0 false 48 2 (v74 == 120) S73) (
 ixStr x0 1 fun v75 =>
 callI .u8 call 64 [(.int .u8 v75)] S70 fun v77 S76 =>
 cond (v77 == 120) (
 ixStr x0 1 fun v78 =>
 callI .u8 call 64 [(.int .u8 v78)] S76 fun v80 S79 =>
 l1_1_1_1_1_1_0_0 x0 false 48 2 (v80 == 120) S79) (
 l1_1_1_1_1_1_0_0 x0 false 94 0 false S76)))) (
 l1_1_1_1_1_1_0_0 x0 false 94 0 false S)) (
 l1_1_1_1_1_1_0_0 x0 false 94 0 false S))

def r65_l1_1_1_1_1_1_0_0 (call : CallA) (n : Nat)  (m : Nat) (w0 : List UInt8) (w2 : Bool) (w3 : Int) (w4 : Int) (w5 : Bool) (S : AS) : Option (AV × AS) := loopN (evC E call n 65 (E.at 65 [1, 1, 1, 1, 1, 1, 0, 0, 0]) 0) [0, 2, 3, 4, 5] m [(0, (.str w0)), (2, (.bool w2)), (3, (.int .i32 w3)), (4, (.int .i64 w4)), (5, (.bool w5))] S (kBlk 0 (kSeq E call n 65 (E.at 65 [1, 1, 1, 1, 1, 1, 1]) 0 (retK E (E.fn 65))))
theorem a65_l1_1_1_1_1_1_0_0 (call : CallA) (n : Nat)  (m : Nat) (w0 : List UInt8) (w2 : Bool) (w3 : Int) (w4 : Int) (w5 : Bool) (S : AS) : r65_l1_1_1_1_1_1_0_0 call n  (m + 1) w0 w2 w3 w4 w5 S = b65_l1_1_1_1_1_1_0_0 call n (r65_l1_1_1_1_1_1_0_0 call n  m) w0 w2 w3 w4 w5 S := by kernel_rfl
theorem a65_entry (call : CallA) (n : Nat) (x0 : List UInt8) (S : AS) : evC E call n 65 (E.at 65 []) 0 (enumT 0 [(.str x0)]) S (retK E (E.fn 65)) = b65_entry call n (r65_l1_1_1_1_1_1_0_0 call n  n) x0 S := by kernel_rfl
def J65_l1_1_1_1_1_1_0_0 (call : CallA) (n : Nat)  (m : Nat) : List UInt8 → Bool → Int → Int → Bool → AS → Option (AV × AS) := Nat.rec (motive := fun _ => List UInt8 → Bool → Int → Int → Bool → AS → Option (AV × AS)) (fun _ _ _ _ _ _ => none) (fun mK ih w0 w2 w3 w4 w5 S => b65_l1_1_1_1_1_1_0_0 call n ih w0 w2 w3 w4 w5 S) m
theorem J65_l1_1_1_1_1_1_0_0_succ (call : CallA) (n : Nat)  (m : Nat) (w0 : List UInt8) (w2 : Bool) (w3 : Int) (w4 : Int) (w5 : Bool) (S : AS) : J65_l1_1_1_1_1_1_0_0 call n  (m + 1) w0 w2 w3 w4 w5 S = b65_l1_1_1_1_1_1_0_0 call n (J65_l1_1_1_1_1_1_0_0 call n  m) w0 w2 w3 w4 w5 S := rfl
theorem h65_l1_1_1_1_1_1_0_0 (call : CallA) (n : Nat)  (m : Nat) : r65_l1_1_1_1_1_1_0_0 call n  m = J65_l1_1_1_1_1_1_0_0 call n  m := by
  induction m with
  | zero => rfl
  | succ m ih =>
    funext w0 w2 w3 w4 w5 S
    rw [J65_l1_1_1_1_1_1_0_0_succ, a65_l1_1_1_1_1_1_0_0, ih]
def J65 (call : CallA) (n : Nat) (x0 : List UInt8) (S : AS) : Option (AV × AS) := b65_entry call n (J65_l1_1_1_1_1_1_0_0 call n  n) x0 S
theorem run65 (o : Orc) (n : Nat) (args : List AV) (S : AS) (ho : o 65 args = none) : evF E o (n + 1) (.fn 65) args S = evC E (evF E o n) n 65 (E.at 65 []) 0 (enumT 0 args) S (retK E (E.fn 65)) := by
  rw [evF, ho]; kernel_rfl
theorem J65_eq (call : CallA) (n : Nat) (x0 : List UInt8) (S : AS) : evC E call n 65 (E.at 65 []) 0 (enumT 0 [(.str x0)]) S (retK E (E.fn 65)) = J65 call n x0 S := by
  rw [J65, a65_entry, h65_l1_1_1_1_1_1_0_0 call n  n]
theorem F65 {o : Orc} (n : Nat) (x0 : List UInt8) (S : AS) (ho : ∀ args, o 65 args = none) : evF E o (n + 1) (.fn 65) [(.str x0)] S = J65 (evF E o n) n x0 S := (run65 o n [(.str x0)] S (ho _)).trans (J65_eq _ _ x0 S)
def b68_entry (call : CallA) (n : Nat)   (x0 : List UInt8) (x1 : List UInt8) (x2 : Int) (S : AS) : Option (AV × AS) :=
 callS call 85 [(.str x1)] S fun v2 S1 =>
 callS call 87 [(.int .i64 x2)] S1 fun v4 S3 =>
 ifO (([105, 110, 118, 97, 108, 105, 100, 32, 98, 97, 115, 101, 32]).length + v4.length ≤ 9223372036854775807) <|
 callV call 86 [(.str (([105, 110, 118, 97, 108, 105, 100, 32, 98, 97, 115, 101, 32]) ++ v4))] S3 fun v6 S5 =>
 cellsOf ty99 v6 fun g7 =>
 ifO (2 + g7.length ≤ ([(.str x0), (.str v2), .nilIface] : List AV).length) <|
 ifO ((splice [(.str x0), (.str v2), .nilIface] 2 g7).length = 3) <|
 newA S5 (.cells (splice [(.str x0), (.str v2), .nilIface] 2 g7)) fun b9 S10 =>
 some ((.ptr (some ((.rw b9), 0))), S10)

theorem a68_entry (call : CallA) (n : Nat) (x0 : List UInt8) (x1 : List UInt8) (x2 : Int) (S : AS) : evC E call n 68 (E.at 68 []) 0 (enumT 0 [(.str x0), (.str x1), (.int .i64 x2)]) S (retK E (E.fn 68)) = b68_entry call n  x0 x1 x2 S := by kernel_rfl
def J68 (call : CallA) (n : Nat) (x0 : List UInt8) (x1 : List UInt8) (x2 : Int) (S : AS) : Option (AV × AS) := b68_entry call n  x0 x1 x2 S
theorem run68 (o : Orc) (n : Nat) (args : List AV) (S : AS) (ho : o 68 args = none) : evF E o (n + 1) (.fn 68) args S = evC E (evF E o n) n 68 (E.at 68 []) 0 (enumT 0 args) S (retK E (E.fn 68)) := by
  rw [evF, ho]; kernel_rfl
theorem J68_eq (call : CallA) (n : Nat) (x0 : List UInt8) (x1 : List UInt8) (x2 : Int) (S : AS) : evC E call n 68 (E.at 68 []) 0 (enumT 0 [(.str x0), (.str x1), (.int .i64 x2)]) S (retK E (E.fn 68)) = J68 call n x0 x1 x2 S := by
  rw [J68, a68_entry]
theorem F68 {o : Orc} (n : Nat) (x0 : List UInt8) (x1 : List UInt8) (x2 : Int) (S : AS) (ho : ∀ args, o 68 args = none) : evF E o (n + 1) (.fn 68) [(.str x0), (.str x1), (.int .i64 x2)] S = J68 (evF E o n) n x0 x1 x2 S := (run68 o n [(.str x0), (.str x1), (.int .i64 x2)] S (ho _)).trans (J68_eq _ _ x0 x1 x2 S)
def b69_entry (call : CallA) (n : Nat)   (x0 : List UInt8) (x1 : List UInt8) (x2 : Int) (S : AS) : Option (AV × AS) :=
 callS call 85 [(.str x1)] S fun v2 S1 =>
 callS call 87 [(.int .i64 x2)] S1 fun v4 S3 =>
 ifO (([105, 110, 118, 97, 108, 105, 100, 32, 98, 105, 116, 32, 115, 105, 122, 101, 32]).length + v4.length ≤ 9223372036854775807) <|
 callV call 86 [(.str (([105, 110, 118, 97, 108, 105, 100, 32, 98, 105, 116, 32, 115, 105, 122, 101, 32]) ++ v4))] S3 fun v6 S5 =>
 cellsOf ty99 v6 fun g7 =>
 ifO (2 + g7.length ≤ ([(.str x0), (.str v2), .nilIface] : List AV).length) <|
 ifO ((splice [(.str x0), (.str v2), .nilIface] 2 g7).length = 3) <|
 newA S5 (.cells (splice [(.str x0), (.str v2), .nilIface] 2 g7)) fun b9 S10 =>
 some ((.ptr (some ((.rw b9), 0))), S10)

theorem a69_entry (call : CallA) (n : Nat) (x0 : List UInt8) (x1 : List UInt8) (x2 : Int) (S : AS) : evC E call n 69 (E.at 69 []) 0 (enumT 0 [(.str x0), (.str x1), (.int .i64 x2)]) S (retK E (E.fn 69)) = b69_entry call n  x0 x1 x2 S := by kernel_rfl
def J69 (call : CallA) (n : Nat) (x0 : List UInt8) (x1 : List UInt8) (x2 : Int) (S : AS) : Option (AV × AS) := b69_entry call n  x0 x1 x2 S
theorem run69 (o : Orc) (n : Nat) (args : List AV) (S : AS) (ho : o 69 args = none) : evF E o (n + 1) (.fn 69) args S = evC E (evF E o n) n 69 (E.at 69 []) 0 (enumT 0 args) S (retK E (E.fn 69)) := by
  rw [evF, ho]; kernel_rfl
theorem J69_eq (call : CallA) (n : Nat) (x0 : List UInt8) (x1 : List UInt8) (x2 : Int) (S : AS) : evC E call n 69 (E.at 69 []) 0 (enumT 0 [(.str x0), (.str x1), (.int .i64 x2)]) S (retK E (E.fn 69)) = J69 call n x0 x1 x2 S := by
  rw [J69, a69_entry]
theorem F69 {o : Orc} (n : Nat) (x0 : List UInt8) (x1 : List UInt8) (x2 : Int) (S : AS) (ho : ∀ args, o 69 args = none) : evF E o (n + 1) (.fn 69) [(.str x0), (.str x1), (.int .i64 x2)] S = J69 (evF E o n) n x0 x1 x2 S := (run69 o n [(.str x0), (.str x1), (.int .i64 x2)] S (ho _)).trans (J69_eq _ _ x0 x1 x2 S)
def b70_l1_0 (call : CallA) (n : Nat)  (l1_0_0_1_0_0_1_0 : Option Pos → Nat → Cap → Int → Int → Int → Int → AS → Option (AV × AS)) (w0a : Option Pos) (w0l : Nat) (w0c : Cap) (w1 : Int) (w2 : Int) (w6 : Int) (S : AS) : Option (AV × AS) :=
 cond (decide (w6 < w2)) (
 l1_0_0_1_0_0_1_0 w0a w0l w0c w1 w2 w6 w6 S) (
 some (.tup [], S))

def b70_l1_0_0_1_0_0_1_0 (call : CallA) (n : Nat)  (l1_0_0_1_0_0_1_0 : Option Pos → Nat → Cap → Int → Int → Int → Int → AS → Option (AV × AS)) (l1_0 : Option Pos → Nat → Cap → Int → Int → Int → AS → Option (AV × AS)) (w0a : Option Pos) (w0l : Nat) (w0c : Cap) (w1 : Int) (w2 : Int) (w6 : Int) (w7 : Int) (S : AS) : Option (AV × AS) :=
 cond (decide (w7 > w1)) (
 ixSl 1 w0a w0l w7 fun p1 =>
 ldS S p1.1 p1.2 fun v2 =>
 ixSl 1 w0a w0l (IntKind.wrap .i64 (w7 - 1)) fun p3 =>
 ldS S p3.1 p3.2 fun v4 =>
 callB call 76 [(.str v2), (.str v4)] S fun v6 S5 =>
 cond v6 (
 ixSl 1 w0a w0l (IntKind.wrap .i64 (w7 - 1)) fun p7 =>
 ldS S5 p7.1 p7.2 fun v8 =>
 ixSl 1 w0a w0l w7 fun p9 =>
 ldS S5 p9.1 p9.2 fun v10 =>
 ixSl 1 w0a w0l w7 fun p11 =>
 S5.stn p11.1 p11.2 [(.str v8)] fun S12 =>
 ixSl 1 w0a w0l (IntKind.wrap .i64 (w7 - 1)) fun p13 =>
 S12.stn p13.1 p13.2 [(.str v10)] fun S14 =>
 l1_0_0_1_0_0_1_0 w0a w0l w0c w1 w2 w6 (IntKind.wrap .i64 (w7 - 1)) S14) (
 l1_0 w0a w0l w0c w1 w2 (IntKind.wrap .i64 (w6 + 1)) S5)) (
 l1_0 w0a w0l w0c w1 w2 (IntKind.wrap .i64 (w6 + 1)) S)

def b70_entry (call : CallA) (n : Nat)  (l1_0 : Option Pos → Nat → Cap → Int → Int → Int → AS → Option (AV × AS)) (x0a : Option Pos) (x0l : Nat) (x0c : Cap) (x1 : Int) (x2 : Int) (S : AS) : Option (AV × AS) :=
 l1_0 x0a x0l x0c x1 x2 (IntKind.wrap .i64 (x1 + 1)) S

def r70_l1_0 (call : CallA) (n : Nat)  (m : Nat) (w0a : Option Pos) (w0l : Nat) (w0c : Cap) (w1 : Int) (w2 : Int) (w6 : Int) (S : AS) : Option (AV × AS) := loopN (evC E call n 70 (E.at 70 [1, 0, 0]) 0) [0, 1, 2, 6] m [(0, (.sl w0a w0l w0c)), (1, (.int .i64 w1)), (2, (.int .i64 w2)), (6, (.int .i64 w6))] S (kBlk 0 (retK E (E.fn 70)))
def r70_l1_0_0_1_0_0_1_0 (call : CallA) (n : Nat) (m1_0 : Nat) (m : Nat) (w0a : Option Pos) (w0l : Nat) (w0c : Cap) (w1 : Int) (w2 : Int) (w6 : Int) (w7 : Int) (S : AS) : Option (AV × AS) := loopN (evC E call n 70 (E.at 70 [1, 0, 0, 1, 0, 0, 1, 0, 0]) 2) [0, 1, 2, 6, 7] m [(0, (.sl w0a w0l w0c)), (1, (.int .i64 w1)), (2, (.int .i64 w2)), (6, (.int .i64 w6)), (7, (.int .i64 w7))] S (kBlk 2 (kBlk 1 (kSeq E call n 70 (E.at 70 [1, 0, 0, 1, 1]) 0 (kLp (evC E call n 70 (E.at 70 [1, 0, 0]) 0) [0, 1, 2, 6] m1_0 (kBlk 0 (retK E (E.fn 70)))))))
theorem a70_l1_0 (call : CallA) (n : Nat)  (m : Nat) (w0a : Option Pos) (w0l : Nat) (w0c : Cap) (w1 : Int) (w2 : Int) (w6 : Int) (S : AS) : r70_l1_0 call n  (m + 1) w0a w0l w0c w1 w2 w6 S = b70_l1_0 call n (r70_l1_0_0_1_0_0_1_0 call n m n) w0a w0l w0c w1 w2 w6 S := by kernel_rfl
theorem a70_l1_0_0_1_0_0_1_0 (call : CallA) (n : Nat) (m1_0 : Nat) (m : Nat) (w0a : Option Pos) (w0l : Nat) (w0c : Cap) (w1 : Int) (w2 : Int) (w6 : Int) (w7 : Int) (S : AS) : r70_l1_0_0_1_0_0_1_0 call n m1_0 (m + 1) w0a w0l w0c w1 w2 w6 w7 S = b70_l1_0_0_1_0_0_1_0 call n (r70_l1_0_0_1_0_0_1_0 call n m1_0 m) (r70_l1_0 call n  m1_0) w0a w0l w0c w1 w2 w6 w7 S := by kernel_rfl
theorem a70_entry (call : CallA) (n : Nat) (x0a : Option Pos) (x0l : Nat) (x0c : Cap) (x1 : Int) (x2 : Int) (S : AS) : evC E call n 70 (E.at 70 []) 0 (enumT 0 [(.sl x0a x0l x0c), (.int .i64 x1), (.int .i64 x2)]) S (retK E (E.fn 70)) = b70_entry call n (r70_l1_0 call n  n) x0a x0l x0c x1 x2 S := by kernel_rfl
def J70_l1_0_0_1_0_0_1_0 (call : CallA) (n : Nat) (n1_0 : Option Pos → Nat → Cap → Int → Int → Int → AS → Option (AV × AS)) (m : Nat) : Option Pos → Nat → Cap → Int → Int → Int → Int → AS → Option (AV × AS) := Nat.rec (motive := fun _ => Option Pos → Nat → Cap → Int → Int → Int → Int → AS → Option (AV × AS)) (fun _ _ _ _ _ _ _ _ => none) (fun mK ih w0a w0l w0c w1 w2 w6 w7 S => b70_l1_0_0_1_0_0_1_0 call n ih n1_0 w0a w0l w0c w1 w2 w6 w7 S) m
theorem J70_l1_0_0_1_0_0_1_0_succ (call : CallA) (n : Nat) (n1_0 : Option Pos → Nat → Cap → Int → Int → Int → AS → Option (AV × AS)) (m : Nat) (w0a : Option Pos) (w0l : Nat) (w0c : Cap) (w1 : Int) (w2 : Int) (w6 : Int) (w7 : Int) (S : AS) : J70_l1_0_0_1_0_0_1_0 call n n1_0 (m + 1) w0a w0l w0c w1 w2 w6 w7 S = b70_l1_0_0_1_0_0_1_0 call n (J70_l1_0_0_1_0_0_1_0 call n n1_0 m) n1_0 w0a w0l w0c w1 w2 w6 w7 S := rfl
theorem h70_l1_0_0_1_0_0_1_0 (call : CallA) (n : Nat) (m1_0 : Nat) (m : Nat) : r70_l1_0_0_1_0_0_1_0 call n m1_0 m = J70_l1_0_0_1_0_0_1_0 call n (r70_l1_0 call n  m1_0) m := by
  induction m with
  | zero => rfl
  | succ m ih =>
    funext w0a w0l w0c w1 w2 w6 w7 S
    rw [J70_l1_0_0_1_0_0_1_0_succ, a70_l1_0_0_1_0_0_1_0, ih]
def J70_l1_0 (call : CallA) (n : Nat)  (m : Nat) : Option Pos → Nat → Cap → Int → Int → Int → AS → Option (AV × AS) := Nat.rec (motive := fun _ => Option Pos → Nat → Cap → Int → Int → Int → AS → Option (AV × AS)) (fun _ _ _ _ _ _ _ => none) (fun mK ih w0a w0l w0c w1 w2 w6 S => b70_l1_0 call n (J70_l1_0_0_1_0_0_1_0 call n ih n) w0a w0l w0c w1 w2 w6 S) m
theorem J70_l1_0_succ (call : CallA) (n : Nat)  (m : Nat) (w0a : Option Pos) (w0l : Nat) (w0c : Cap) (w1 : Int) (w2 : Int) (w6 : Int) (S : AS) : J70_l1_0 call n  (m + 1) w0a w0l w0c w1 w2 w6 S = b70_l1_0 call n (J70_l1_0_0_1_0_0_1_0 call n (J70_l1_0 call n  m) n) w0a w0l w0c w1 w2 w6 S := rfl
theorem h70_l1_0 (call : CallA) (n : Nat)  (m : Nat) : r70_l1_0 call n  m = J70_l1_0 call n  m := by
  induction m with
  | zero => rfl
  | succ m ih =>
    funext w0a w0l w0c w1 w2 w6 S
    rw [J70_l1_0_succ, a70_l1_0, h70_l1_0_0_1_0_0_1_0 call n m n, ih]
def J70 (call : CallA) (n : Nat) (x0a : Option Pos) (x0l : Nat) (x0c : Cap) (x1 : Int) (x2 : Int) (S : AS) : Option (AV × AS) := b70_entry call n (J70_l1_0 call n  n) x0a x0l x0c x1 x2 S
theorem run70 (o : Orc) (n : Nat) (args : List AV) (S : AS) (ho : o 70 args = none) : evF E o (n + 1) (.fn 70) args S = evC E (evF E o n) n 70 (E.at 70 []) 0 (enumT 0 args) S (retK E (E.fn 70)) := by
  rw [evF, ho]; kernel_rfl
theorem J70_eq (call : CallA) (n : Nat) (x0a : Option Pos) (x0l : Nat) (x0c : Cap) (x1 : Int) (x2 : Int) (S : AS) : evC E call n 70 (E.at 70 []) 0 (enumT 0 [(.sl x0a x0l x0c), (.int .i64 x1), (.int .i64 x2)]) S (retK E (E.fn 70)) = J70 call n x0a x0l x0c x1 x2 S := by
  rw [J70, a70_entry, h70_l1_0 call n  n]
theorem F70 {o : Orc} (n : Nat) (x0a : Option Pos) (x0l : Nat) (x0c : Cap) (x1 : Int) (x2 : Int) (S : AS) (ho : ∀ args, o 70 args = none) : evF E o (n + 1) (.fn 70) [(.sl x0a x0l x0c), (.int .i64 x1), (.int .i64 x2)] S = J70 (evF E o n) n x0a x0l x0c x1 x2 S := (run70 o n [(.sl x0a x0l x0c), (.int .i64 x1), (.int .i64 x2)] S (ho _)).trans (J70_eq _ _ x0a x0l x0c x1 x2 S)
def b71_l1_1_1_0_1_0 (call : CallA) (n : Nat)  (l1_1_1_0_1_0 : Option Pos → Nat → Cap → Int → Int → Int → Int → AS → Option (AV × AS)) (j1_1_1_1 : Option Pos → Nat → Cap → Int → Int → Int → AS → Option (AV × AS)) (w0a : Option Pos) (w0l : Nat) (w0c : Cap) (w6 : Int) (w7 : Int) (w8 : Int) (w9 : Int) (S : AS) : Option (AV × AS) :=
 cond (decide (w9 ≥ 0)) (
 callT call 88 [(.sl w0a w0l w0c), (.int .i64 w9), (.int .i64 w8), (.int .i64 w6)] S fun v2 S1 =>
 l1_1_1_0_1_0 w0a w0l w0c w6 w7 w8 (IntKind.wrap .i64 (w9 - 1)) S1) (
 j1_1_1_1 w0a w0l w0c w6 w7 w8 S)

def b71_j1_1_1_1 (call : CallA) (n : Nat)  (l1_1_1_1_1_0 : Option Pos → Nat → Cap → Int → Int → Int → AS → Option (AV × AS)) (w0a : Option Pos) (w0l : Nat) (w0c : Cap) (w6 : Int) (w7 : Int) (w8 : Int) (S : AS) : Option (AV × AS) :=
 l1_1_1_1_1_0 w0a w0l w0c w6 w7 (IntKind.wrap .i64 (w8 - 1)) S

def b71_l1_1_1_1_1_0 (call : CallA) (n : Nat)  (l1_1_1_1_1_0 : Option Pos → Nat → Cap → Int → Int → Int → AS → Option (AV × AS)) (w0a : Option Pos) (w0l : Nat) (w0c : Cap) (w6 : Int) (w7 : Int) (w10 : Int) (S : AS) : Option (AV × AS) :=
 cond (decide (w10 ≥ 0)) (
 ixSl 1 w0a w0l (IntKind.wrap .i64 (w6 + w10)) fun p3 =>
 ldS S p3.1 p3.2 fun v4 =>
 ixSl 1 w0a w0l w6 fun p5 =>
 ldS S p5.1 p5.2 fun v6 =>
 ixSl 1 w0a w0l w6 fun p7 =>
 S.stn p7.1 p7.2 [(.str v4)] fun S8 =>
 ixSl 1 w0a w0l (IntKind.wrap .i64 (w6 + w10)) fun p9 =>
 S8.stn p9.1 p9.2 [(.str v6)] fun S10 =>
 callT call 88 [(.sl w0a w0l w0c), (.int .i64 w7), (.int .i64 w10), (.int .i64 w6)] S10 fun v12 S11 =>
 l1_1_1_1_1_0 w0a w0l w0c w6 w7 (IntKind.wrap .i64 (w10 - 1)) S11) (
 some (.tup [], S))

def b71_entry (call : CallA) (n : Nat)  (l1_1_1_0_1_0 : Option Pos → Nat → Cap → Int → Int → Int → Int → AS → Option (AV × AS)) (x0a : Option Pos) (x0l : Nat) (x0c : Cap) (x1 : Int) (x2 : Int) (S : AS) : Option (AV × AS) :=
 l1_1_1_0_1_0 x0a x0l x0c x1 0 (IntKind.wrap .i64 (x2 - x1)) (IntKind.wrap .i64 (Int.tdiv (IntKind.wrap .i64 ((IntKind.wrap .i64 (x2 - x1)) - 1)) 2)) S

def r71_l1_1_1_0_1_0 (call : CallA) (n : Nat)  (m : Nat) (w0a : Option Pos) (w0l : Nat) (w0c : Cap) (w6 : Int) (w7 : Int) (w8 : Int) (w9 : Int) (S : AS) : Option (AV × AS) := loopN (evC E call n 71 (E.at 71 [1, 1, 1, 0, 1, 0, 0]) 0) [0, 6, 7, 8, 9] m [(0, (.sl w0a w0l w0c)), (6, (.int .i64 w6)), (7, (.int .i64 w7)), (8, (.int .i64 w8)), (9, (.int .i64 w9))] S (kBlk 0 (kSeq E call n 71 (E.at 71 [1, 1, 1, 1]) 0 (retK E (E.fn 71))))
def r71_j1_1_1_1 (call : CallA) (n : Nat)  (w0a : Option Pos) (w0l : Nat) (w0c : Cap) (w6 : Int) (w7 : Int) (w8 : Int) (S : AS) : Option (AV × AS) := evC E call n 71 (E.at 71 [1, 1, 1, 1]) 0 [(0, (.sl w0a w0l w0c)), (6, (.int .i64 w6)), (7, (.int .i64 w7)), (8, (.int .i64 w8))] S (retK E (E.fn 71))
def r71_l1_1_1_1_1_0 (call : CallA) (n : Nat)  (m : Nat) (w0a : Option Pos) (w0l : Nat) (w0c : Cap) (w6 : Int) (w7 : Int) (w10 : Int) (S : AS) : Option (AV × AS) := loopN (evC E call n 71 (E.at 71 [1, 1, 1, 1, 1, 0, 0]) 2) [0, 6, 7, 10] m [(0, (.sl w0a w0l w0c)), (6, (.int .i64 w6)), (7, (.int .i64 w7)), (10, (.int .i64 w10))] S (kBlk 2 (retK E (E.fn 71)))
theorem a71_l1_1_1_0_1_0 (call : CallA) (n : Nat)  (m : Nat) (w0a : Option Pos) (w0l : Nat) (w0c : Cap) (w6 : Int) (w7 : Int) (w8 : Int) (w9 : Int) (S : AS) : r71_l1_1_1_0_1_0 call n  (m + 1) w0a w0l w0c w6 w7 w8 w9 S = b71_l1_1_1_0_1_0 call n (r71_l1_1_1_0_1_0 call n  m) (r71_j1_1_1_1 call n ) w0a w0l w0c w6 w7 w8 w9 S := by kernel_rfl
theorem a71_j1_1_1_1 (call : CallA) (n : Nat)  (w0a : Option Pos) (w0l : Nat) (w0c : Cap) (w6 : Int) (w7 : Int) (w8 : Int) (S : AS) : r71_j1_1_1_1 call n  w0a w0l w0c w6 w7 w8 S = b71_j1_1_1_1 call n (r71_l1_1_1_1_1_0 call n  n) w0a w0l w0c w6 w7 w8 S := by kernel_rfl
theorem a71_l1_1_1_1_1_0 (call : CallA) (n : Nat)  (m : Nat) (w0a : Option Pos) (w0l : Nat) (w0c : Cap) (w6 : Int) (w7 : Int) (w10 : Int) (S : AS) : r71_l1_1_1_1_1_0 call n  (m + 1) w0a w0l w0c w6 w7 w10 S = b71_l1_1_1_1_1_0 call n (r71_l1_1_1_1_1_0 call n  m) w0a w0l w0c w6 w7 w10 S := by kernel_rfl
theorem a71_entry (call : CallA) (n : Nat) (x0a : Option Pos) (x0l : Nat) (x0c : Cap) (x1 : Int) (x2 : Int) (S : AS) : evC E call n 71 (E.at 71 []) 0 (enumT 0 [(.sl x0a x0l x0c), (.int .i64 x1), (.int .i64 x2)]) S (retK E (E.fn 71)) = b71_entry call n (r71_l1_1_1_0_1_0 call n  n) x0a x0l x0c x1 x2 S := by kernel_rfl
def J71_l1_1_1_1_1_0 (call : CallA) (n : Nat)  (m : Nat) : Option Pos → Nat → Cap → Int → Int → Int → AS → Option (AV × AS) := Nat.rec (motive := fun _ => Option Pos → Nat → Cap → Int → Int → Int → AS → Option (AV × AS)) (fun _ _ _ _ _ _ _ => none) (fun mK ih w0a w0l w0c w6 w7 w10 S => b71_l1_1_1_1_1_0 call n ih w0a w0l w0c w6 w7 w10 S) m
theorem J71_l1_1_1_1_1_0_succ (call : CallA) (n : Nat)  (m : Nat) (w0a : Option Pos) (w0l : Nat) (w0c : Cap) (w6 : Int) (w7 : Int) (w10 : Int) (S : AS) : J71_l1_1_1_1_1_0 call n  (m + 1) w0a w0l w0c w6 w7 w10 S = b71_l1_1_1_1_1_0 call n (J71_l1_1_1_1_1_0 call n  m) w0a w0l w0c w6 w7 w10 S := rfl
theorem h71_l1_1_1_1_1_0 (call : CallA) (n : Nat)  (m : Nat) : r71_l1_1_1_1_1_0 call n  m = J71_l1_1_1_1_1_0 call n  m := by
  induction m with
  | zero => rfl
  | succ m ih =>
    funext w0a w0l w0c w6 w7 w10 S
    rw [J71_l1_1_1_1_1_0_succ, a71_l1_1_1_1_1_0, ih]
def J71_j1_1_1_1 (call : CallA) (n : Nat)  (w0a : Option Pos) (w0l : Nat) (w0c : Cap) (w6 : Int) (w7 : Int) (w8 : Int) (S : AS) : Option (AV × AS) := b71_j1_1_1_1 call n (J71_l1_1_1_1_1_0 call n  n) w0a w0l w0c w6 w7 w8 S
theorem h71_j1_1_1_1 (call : CallA) (n : Nat)  : r71_j1_1_1_1 call n  = J71_j1_1_1_1 call n  := by
  funext w0a w0l w0c w6 w7 w8 S
  rw [J71_j1_1_1_1, a71_j1_1_1_1, h71_l1_1_1_1_1_0 call n  n]
def J71_l1_1_1_0_1_0 (call : CallA) (n : Nat)  (m : Nat) : Option Pos → Nat → Cap → Int → Int → Int → Int → AS → Option (AV × AS) := Nat.rec (motive := fun _ => Option Pos → Nat → Cap → Int → Int → Int → Int → AS → Option (AV × AS)) (fun _ _ _ _ _ _ _ _ => none) (fun mK ih w0a w0l w0c w6 w7 w8 w9 S => b71_l1_1_1_0_1_0 call n ih (J71_j1_1_1_1 call n ) w0a w0l w0c w6 w7 w8 w9 S) m
theorem J71_l1_1_1_0_1_0_succ (call : CallA) (n : Nat)  (m : Nat) (w0a : Option Pos) (w0l : Nat) (w0c : Cap) (w6 : Int) (w7 : Int) (w8 : Int) (w9 : Int) (S : AS) : J71_l1_1_1_0_1_0 call n  (m + 1) w0a w0l w0c w6 w7 w8 w9 S = b71_l1_1_1_0_1_0 call n (J71_l1_1_1_0_1_0 call n  m) (J71_j1_1_1_1 call n ) w0a w0l w0c w6 w7 w8 w9 S := rfl
theorem h71_l1_1_1_0_1_0 (call : CallA) (n : Nat)  (m : Nat) : r71_l1_1_1_0_1_0 call n  m = J71_l1_1_1_0_1_0 call n  m := by
  induction m with
  | zero => rfl
  | succ m ih =>
    funext w0a w0l w0c w6 w7 w8 w9 S
    rw [J71_l1_1_1_0_1_0_succ, a71_l1_1_1_0_1_0, h71_j1_1_1_1 call n , ih]
def J71 (call : CallA) (n : Nat) (x0a : Option Pos) (x0l : Nat) (x0c : Cap) (x1 : Int) (x2 : Int) (S : AS) : Option (AV × AS) := b71_entry call n (J71_l1_1_1_0_1_0 call n  n) x0a x0l x0c x1 x2 S
theorem run71 (o : Orc) (n : Nat) (args : List AV) (S : AS) (ho : o 71 args = none) : evF E o (n + 1) (.fn 71) args S = evC E (evF E o n) n 71 (E.at 71 []) 0 (enumT 0 args) S (retK E (E.fn 71)) := by
  rw [evF, ho]; kernel_rfl
theorem J71_eq (call : CallA) (n : Nat) (x0a : Option Pos) (x0l : Nat) (x0c : Cap) (x1 : Int) (x2 : Int) (S : AS) : evC E call n 71 (E.at 71 []) 0 (enumT 0 [(.sl x0a x0l x0c), (.int .i64 x1), (.int .i64 x2)]) S (retK E (E.fn 71)) = J71 call n x0a x0l x0c x1 x2 S := by
  rw [J71, a71_entry, h71_l1_1_1_0_1_0 call n  n]
theorem F71 {o : Orc} (n : Nat) (x0a : Option Pos) (x0l : Nat) (x0c : Cap) (x1 : Int) (x2 : Int) (S : AS) (ho : ∀ args, o 71 args = none) : evF E o (n + 1) (.fn 71) [(.sl x0a x0l x0c), (.int .i64 x1), (.int .i64 x2)] S = J71 (evF E o n) n x0a x0l x0c x1 x2 S := (run71 o n [(.sl x0a x0l x0c), (.int .i64 x1), (.int .i64 x2)] S (ho _)).trans (J71_eq _ _ x0a x0l x0c x1 x2 S)
def b72_l1_1_0_1_1_1_0 (call : CallA) (n : Nat)  (l1_1_0_1_1_1_0 : Option Pos → Nat → Cap → Int → Int → Option Pos → Int → Int → AS → Option (AV × AS)) (w0a : Option Pos) (w0l : Nat) (w0c : Cap) (w1 : Int) (w6 : Int) (w7 : Option Pos) (w8 : Int) (w9 : Int) (S : AS) : Option (AV × AS) :=
 cond (decide (w9 ≤ (IntKind.wrap .i64 ((IntKind.wrap .i64 (w1 + (IntKind.wrap .i64 ((IntKind.wrap .i64 (Int.tdiv w6 4)) * 2)))) + 1)))) (
 callI .u64 call 90 [(.ptr w7)] S fun v7 S6 =>
 cond (decide ((IntKind.wrap .i64 (andI .u64 v7 (IntKind.wrap .u64 (w8 - 1)))) ≥ w6)) (
 ixSl 1 w0a w0l (IntKind.wrap .i64 (w1 + (IntKind.wrap .i64 ((IntKind.wrap .i64 (andI .u64 v7 (IntKind.wrap .u64 (w8 - 1)))) - w6)))) fun p8 =>
 ldS S6 p8.1 p8.2 fun v9 =>
 ixSl 1 w0a w0l w9 fun p10 =>
 ldS S6 p10.1 p10.2 fun v11 =>
 ixSl 1 w0a w0l w9 fun p12 =>
 S6.stn p12.1 p12.2 [(.str v9)] fun S13 =>
 ixSl 1 w0a w0l (IntKind.wrap .i64 (w1 + (IntKind.wrap .i64 ((IntKind.wrap .i64 (andI .u64 v7 (IntKind.wrap .u64 (w8 - 1)))) - w6)))) fun p14 =>
 S13.stn p14.1 p14.2 [(.str v11)] fun S15 =>
 l1_1_0_1_1_1_0 w0a w0l w0c w1 w6 w7 w8 (IntKind.wrap .i64 (w9 + 1)) S15) (
 ixSl 1 w0a w0l (IntKind.wrap .i64 (w1 + (IntKind.wrap .i64 (andI .u64 v7 (IntKind.wrap .u64 (w8 - 1)))))) fun p16 =>
 ldS S6 p16.1 p16.2 fun v17 =>
 ixSl 1 w0a w0l w9 fun p18 =>
 ldS S6 p18.1 p18.2 fun v19 =>
 ixSl 1 w0a w0l w9 fun p20 =>
 S6.stn p20.1 p20.2 [(.str v17)] fun S21 =>
 ixSl 1 w0a w0l (IntKind.wrap .i64 (w1 + (IntKind.wrap .i64 (andI .u64 v7 (IntKind.wrap .u64 (w8 - 1)))))) fun p22 =>
 S21.stn p22.1 p22.2 [(.str v19)] fun S23 =>
 l1_1_0_1_1_1_0 w0a w0l w0c w1 w6 w7 w8 (IntKind.wrap .i64 (w9 + 1)) S23)) (
 some (.tup [], S))

def b72_entry (call : CallA) (n : Nat)  (l1_1_0_1_1_1_0 : Option Pos → Nat → Cap → Int → Int → Option Pos → Int → Int → AS → Option (AV × AS)) (x0a : Option Pos) (x0l : Nat) (x0c : Cap) (x1 : Int) (x2 : Int) (S : AS) : Option (AV × AS) :=
 cond (decide ((IntKind.wrap .i64 (x2 - x1)) ≥ 8)) (
 newA S (.cells [(.int .u64 0)]) fun b1 S2 =>
 S2.stn (.rw b1) 0 [(.int .u64 (IntKind.wrap .u64 (IntKind.wrap .i64 (x2 - x1))))] fun S3 =>
 callI .u64 call 89 [(.int .i64 (IntKind.wrap .i64 (x2 - x1)))] S3 fun v5 S4 =>
 l1_1_0_1_1_1_0 x0a x0l x0c x1 (IntKind.wrap .i64 (x2 - x1)) (some ((.rw b1), 0)) v5 (IntKind.wrap .i64 ((IntKind.wrap .i64 (x1 + (IntKind.wrap .i64 ((IntKind.wrap .i64 (Int.tdiv (IntKind.wrap .i64 (x2 - x1)) 4)) * 2)))) - 1)) S4) (
 some (.tup [], S))

def r72_l1_1_0_1_1_1_0 (call : CallA) (n : Nat)  (m : Nat) (w0a : Option Pos) (w0l : Nat) (w0c : Cap) (w1 : Int) (w6 : Int) (w7 : Option Pos) (w8 : Int) (w9 : Int) (S : AS) : Option (AV × AS) := loopN (evC E call n 72 (E.at 72 [1, 1, 0, 1, 1, 1, 0, 0]) 0) [0, 1, 6, 7, 8, 9] m [(0, (.sl w0a w0l w0c)), (1, (.int .i64 w1)), (6, (.int .i64 w6)), (7, (.ptr w7)), (8, (.int .u64 w8)), (9, (.int .i64 w9))] S (kBlk 0 (retK E (E.fn 72)))
theorem a72_l1_1_0_1_1_1_0 (call : CallA) (n : Nat)  (m : Nat) (w0a : Option Pos) (w0l : Nat) (w0c : Cap) (w1 : Int) (w6 : Int) (w7 : Option Pos) (w8 : Int) (w9 : Int) (S : AS) : r72_l1_1_0_1_1_1_0 call n  (m + 1) w0a w0l w0c w1 w6 w7 w8 w9 S = b72_l1_1_0_1_1_1_0 call n (r72_l1_1_0_1_1_1_0 call n  m) w0a w0l w0c w1 w6 w7 w8 w9 S := by kernel_rfl
theorem a72_entry (call : CallA) (n : Nat) (x0a : Option Pos) (x0l : Nat) (x0c : Cap) (x1 : Int) (x2 : Int) (S : AS) : evC E call n 72 (E.at 72 []) 0 (enumT 0 [(.sl x0a x0l x0c), (.int .i64 x1), (.int .i64 x2)]) S (retK E (E.fn 72)) = b72_entry call n (r72_l1_1_0_1_1_1_0 call n  n) x0a x0l x0c x1 x2 S := by kernel_rfl
def J72_l1_1_0_1_1_1_0 (call : CallA) (n : Nat)  (m : Nat) : Option Pos → Nat → Cap → Int → Int → Option Pos → Int → Int → AS → Option (AV × AS) := Nat.rec (motive := fun _ => Option Pos → Nat → Cap → Int → Int → Option Pos → Int → Int → AS → Option (AV × AS)) (fun _ _ _ _ _ _ _ _ _ => none) (fun mK ih w0a w0l w0c w1 w6 w7 w8 w9 S => b72_l1_1_0_1_1_1_0 call n ih w0a w0l w0c w1 w6 w7 w8 w9 S) m
theorem J72_l1_1_0_1_1_1_0_succ (call : CallA) (n : Nat)  (m : Nat) (w0a : Option Pos) (w0l : Nat) (w0c : Cap) (w1 : Int) (w6 : Int) (w7 : Option Pos) (w8 : Int) (w9 : Int) (S : AS) : J72_l1_1_0_1_1_1_0 call n  (m + 1) w0a w0l w0c w1 w6 w7 w8 w9 S = b72_l1_1_0_1_1_1_0 call n (J72_l1_1_0_1_1_1_0 call n  m) w0a w0l w0c w1 w6 w7 w8 w9 S := rfl
theorem h72_l1_1_0_1_1_1_0 (call : CallA) (n : Nat)  (m : Nat) : r72_l1_1_0_1_1_1_0 call n  m = J72_l1_1_0_1_1_1_0 call n  m := by
  induction m with
  | zero => rfl
  | succ m ih =>
    funext w0a w0l w0c w1 w6 w7 w8 w9 S
    rw [J72_l1_1_0_1_1_1_0_succ, a72_l1_1_0_1_1_1_0, ih]
def J72 (call : CallA) (n : Nat) (x0a : Option Pos) (x0l : Nat) (x0c : Cap) (x1 : Int) (x2 : Int) (S : AS) : Option (AV × AS) := b72_entry call n (J72_l1_1_0_1_1_1_0 call n  n) x0a x0l x0c x1 x2 S
theorem run72 (o : Orc) (n : Nat) (args : List AV) (S : AS) (ho : o 72 args = none) : evF E o (n + 1) (.fn 72) args S = evC E (evF E o n) n 72 (E.at 72 []) 0 (enumT 0 args) S (retK E (E.fn 72)) := by
  rw [evF, ho]; kernel_rfl
theorem J72_eq (call : CallA) (n : Nat) (x0a : Option Pos) (x0l : Nat) (x0c : Cap) (x1 : Int) (x2 : Int) (S : AS) : evC E call n 72 (E.at 72 []) 0 (enumT 0 [(.sl x0a x0l x0c), (.int .i64 x1), (.int .i64 x2)]) S (retK E (E.fn 72)) = J72 call n x0a x0l x0c x1 x2 S := by
  rw [J72, a72_entry, h72_l1_1_0_1_1_1_0 call n  n]
theorem F72 {o : Orc} (n : Nat) (x0a : Option Pos) (x0l : Nat) (x0c : Cap) (x1 : Int) (x2 : Int) (S : AS) (ho : ∀ args, o 72 args = none) : evF E o (n + 1) (.fn 72) [(.sl x0a x0l x0c), (.int .i64 x1), (.int .i64 x2)] S = J72 (evF E o n) n x0a x0l x0c x1 x2 S := (run72 o n [(.sl x0a x0l x0c), (.int .i64 x1), (.int .i64 x2)] S (ho _)).trans (J72_eq _ _ x0a x0l x0c x1 x2 S)
def b73_j1_1_1_1_1_1_0_1_0_1 (call : CallA) (n : Nat)  (j1_1_1_1_1_1_1 : Option Pos → Int → AS → Option (AV × AS)) (w0a : Option Pos) (w0l : Nat) (w0c : Cap) (w9 : Option Pos) (w10 : Int) (w11 : Int) (w12 : Int) (S : AS) : Option (AV × AS) :=
 callI .i64 call 92 [(.sl w0a w0l w0c), (.int .i64 w10), (.int .i64 w11), (.int .i64 w12), (.ptr w9)] S fun v10 S9 =>
 j1_1_1_1_1_1_1 w9 v10 S9

def b73_j1_1_1_1_1_1_1 (call : CallA) (n : Nat)   (w9 : Option Pos) (w11 : Int) (S : AS) : Option (AV × AS) :=
 gO w9 fun p11 =>
 ldI .i64 S p11.1 p11.2 fun v12 =>
 cond (v12 == 0) (
 some (.tup [(.int .i64 w11), (.int .i64 1)], S)) (
 cond (v12 == 12) (
 some (.tup [(.int .i64 w11), (.int .i64 2)], S)) (
 some (.tup [(.int .i64 w11), (.int .i64 0)], S)))

def b73_entry (call : CallA) (n : Nat)  (j1_1_1_1_1_1_0_1_0_1 : Option Pos → Nat → Cap → Option Pos → Int → Int → Int → AS → Option (AV × AS)) (j1_1_1_1_1_1_1 : Option Pos → Int → AS → Option (AV × AS)) (x0a : Option Pos) (x0l : Nat) (x0c : Cap) (x1 : Int) (x2 : Int) (S : AS) : Option (AV × AS) :=
 newA S (.cells [(.int .i64 0)]) fun b1 S2 =>
 cond (decide ((IntKind.wrap .i64 (x2 - x1)) ≥ 8)) (
 cond (decide ((IntKind.wrap .i64 (x2 - x1)) ≥ 50)) (
 callI .i64 call 91 [(.sl x0a x0l x0c), (.int .i64 (IntKind.wrap .i64 (x1 + (IntKind.wrap .i64 ((IntKind.wrap .i64 (Int.tdiv (IntKind.wrap .i64 (x2 - x1)) 4)) * 1))))), (.ptr (some ((.rw b1), 0)))] S2 fun v4 S3 =>
 callI .i64 call 91 [(.sl x0a x0l x0c), (.int .i64 (IntKind.wrap .i64 (x1 + (IntKind.wrap .i64 ((IntKind.wrap .i64 (Int.tdiv (IntKind.wrap .i64 (x2 - x1)) 4)) * 2))))), (.ptr (some ((.rw b1), 0)))] S3 fun v6 S5 =>
 callI .i64 call 91 [(.sl x0a x0l x0c), (.int .i64 (IntKind.wrap .i64 (x1 + (IntKind.wrap .i64 ((IntKind.wrap .i64 (Int.tdiv (IntKind.wrap .i64 (x2 - x1)) 4)) * 3))))), (.ptr (some ((.rw b1), 0)))] S5 fun v8 S7 =>
 j1_1_1_1_1_1_0_1_0_1 x0a x0l x0c (some ((.rw b1), 0)) v4 v6 v8 S7) (
 j1_1_1_1_1_1_0_1_0_1 x0a x0l x0c (some ((.rw b1), 0)) (IntKind.wrap .i64 (x1 + (IntKind.wrap .i64 ((IntKind.wrap .i64 (Int.tdiv (IntKind.wrap .i64 (x2 - x1)) 4)) * 1)))) (IntKind.wrap .i64 (x1 + (IntKind.wrap .i64 ((IntKind.wrap .i64 (Int.tdiv (IntKind.wrap .i64 (x2 - x1)) 4)) * 2)))) (IntKind.wrap .i64 (x1 + (IntKind.wrap .i64 ((IntKind.wrap .i64 (Int.tdiv (IntKind.wrap .i64 (x2 - x1)) 4)) * 3)))) S2)) (
 j1_1_1_1_1_1_1 (some ((.rw b1), 0)) (IntKind.wrap .i64 (x1 + (IntKind.wrap .i64 ((IntKind.wrap .i64 (Int.tdiv (IntKind.wrap .i64 (x2 - x1)) 4)) * 2)))) S2)

def r73_j1_1_1_1_1_1_0_1_0_1 (call : CallA) (n : Nat)  (w0a : Option Pos) (w0l : Nat) (w0c : Cap) (w9 : Option Pos) (w10 : Int) (w11 : Int) (w12 : Int) (S : AS) : Option (AV × AS) := evC E call n 73 (E.at 73 [1, 1, 1, 1, 1, 1, 0, 1, 0, 1]) 0 [(0, (.sl w0a w0l w0c)), (9, (.ptr w9)), (10, (.int .i64 w10)), (11, (.int .i64 w11)), (12, (.int .i64 w12))] S (kSeq E call n 73 (E.at 73 [1, 1, 1, 1, 1, 1, 1]) 0 (retK E (E.fn 73)))
def r73_j1_1_1_1_1_1_1 (call : CallA) (n : Nat)  (w9 : Option Pos) (w11 : Int) (S : AS) : Option (AV × AS) := evC E call n 73 (E.at 73 [1, 1, 1, 1, 1, 1, 1]) 0 [(9, (.ptr w9)), (11, (.int .i64 w11))] S (retK E (E.fn 73))
theorem a73_j1_1_1_1_1_1_0_1_0_1 (call : CallA) (n : Nat)  (w0a : Option Pos) (w0l : Nat) (w0c : Cap) (w9 : Option Pos) (w10 : Int) (w11 : Int) (w12 : Int) (S : AS) : r73_j1_1_1_1_1_1_0_1_0_1 call n  w0a w0l w0c w9 w10 w11 w12 S = b73_j1_1_1_1_1_1_0_1_0_1 call n (r73_j1_1_1_1_1_1_1 call n ) w0a w0l w0c w9 w10 w11 w12 S := by kernel_rfl
theorem a73_j1_1_1_1_1_1_1 (call : CallA) (n : Nat)  (w9 : Option Pos) (w11 : Int) (S : AS) : r73_j1_1_1_1_1_1_1 call n  w9 w11 S = b73_j1_1_1_1_1_1_1 call n  w9 w11 S := by kernel_rfl
theorem a73_entry (call : CallA) (n : Nat) (x0a : Option Pos) (x0l : Nat) (x0c : Cap) (x1 : Int) (x2 : Int) (S : AS) : evC E call n 73 (E.at 73 []) 0 (enumT 0 [(.sl x0a x0l x0c), (.int .i64 x1), (.int .i64 x2)]) S (retK E (E.fn 73)) = b73_entry call n (r73_j1_1_1_1_1_1_0_1_0_1 call n ) (r73_j1_1_1_1_1_1_1 call n ) x0a x0l x0c x1 x2 S := by kernel_rfl
def J73_j1_1_1_1_1_1_1 (call : CallA) (n : Nat)  (w9 : Option Pos) (w11 : Int) (S : AS) : Option (AV × AS) := b73_j1_1_1_1_1_1_1 call n  w9 w11 S
theorem h73_j1_1_1_1_1_1_1 (call : CallA) (n : Nat)  : r73_j1_1_1_1_1_1_1 call n  = J73_j1_1_1_1_1_1_1 call n  := by
  funext w9 w11 S
  rw [J73_j1_1_1_1_1_1_1, a73_j1_1_1_1_1_1_1]
def J73_j1_1_1_1_1_1_0_1_0_1 (call : CallA) (n : Nat)  (w0a : Option Pos) (w0l : Nat) (w0c : Cap) (w9 : Option Pos) (w10 : Int) (w11 : Int) (w12 : Int) (S : AS) : Option (AV × AS) := b73_j1_1_1_1_1_1_0_1_0_1 call n (J73_j1_1_1_1_1_1_1 call n ) w0a w0l w0c w9 w10 w11 w12 S
theorem h73_j1_1_1_1_1_1_0_1_0_1 (call : CallA) (n : Nat)  : r73_j1_1_1_1_1_1_0_1_0_1 call n  = J73_j1_1_1_1_1_1_0_1_0_1 call n  := by
  funext w0a w0l w0c w9 w10 w11 w12 S
  rw [J73_j1_1_1_1_1_1_0_1_0_1, a73_j1_1_1_1_1_1_0_1_0_1, h73_j1_1_1_1_1_1_1 call n ]
def J73 (call : CallA) (n : Nat) (x0a : Option Pos) (x0l : Nat) (x0c : Cap) (x1 : Int) (x2 : Int) (S : AS) : Option (AV × AS) := b73_entry call n (J73_j1_1_1_1_1_1_0_1_0_1 call n ) (J73_j1_1_1_1_1_1_1 call n ) x0a x0l x0c x1 x2 S
theorem run73 (o : Orc) (n : Nat) (args : List AV) (S : AS) (ho : o 73 args = none) : evF E o (n + 1) (.fn 73) args S = evC E (evF E o n) n 73 (E.at 73 []) 0 (enumT 0 args) S (retK E (E.fn 73)) := by
  rw [evF, ho]; kernel_rfl
theorem J73_eq (call : CallA) (n : Nat) (x0a : Option Pos) (x0l : Nat) (x0c : Cap) (x1 : Int) (x2 : Int) (S : AS) : evC E call n 73 (E.at 73 []) 0 (enumT 0 [(.sl x0a x0l x0c), (.int .i64 x1), (.int .i64 x2)]) S (retK E (E.fn 73)) = J73 call n x0a x0l x0c x1 x2 S := by
  rw [J73, a73_entry, h73_j1_1_1_1_1_1_0_1_0_1 call n , h73_j1_1_1_1_1_1_1 call n ]
theorem F73 {o : Orc} (n : Nat) (x0a : Option Pos) (x0l : Nat) (x0c : Cap) (x1 : Int) (x2 : Int) (S : AS) (ho : ∀ args, o 73 args = none) : evF E o (n + 1) (.fn 73) [(.sl x0a x0l x0c), (.int .i64 x1), (.int .i64 x2)] S = J73 (evF E o n) n x0a x0l x0c x1 x2 S := (run73 o n [(.sl x0a x0l x0c), (.int .i64 x1), (.int .i64 x2)] S (ho _)).trans (J73_eq _ _ x0a x0l x0c x1 x2 S)
def b74_l1_1_0 (call : CallA) (n : Nat)  (l1_1_0 : Option Pos → Nat → Cap → Int → Int → AS → Option (AV × AS)) (w0a : Option Pos) (w0l : Nat) (w0c : Cap) (w6 : Int) (w7 : Int) (S : AS) : Option (AV × AS) :=
 cond (decide (w6 < w7)) (
 ixSl 1 w0a w0l w7 fun p1 =>
 ldS S p1.1 p1.2 fun v2 =>
 ixSl 1 w0a w0l w6 fun p3 =>
 ldS S p3.1 p3.2 fun v4 =>
 ixSl 1 w0a w0l w6 fun p5 =>
 S.stn p5.1 p5.2 [(.str v2)] fun S6 =>
 ixSl 1 w0a w0l w7 fun p7 =>
 S6.stn p7.1 p7.2 [(.str v4)] fun S8 =>
 l1_1_0 w0a w0l w0c (IntKind.wrap .i64 (w6 + 1)) (IntKind.wrap .i64 (w7 - 1)) S8) (
 some (.tup [], S))

def b74_entry (call : CallA) (n : Nat)  (l1_1_0 : Option Pos → Nat → Cap → Int → Int → AS → Option (AV × AS)) (x0a : Option Pos) (x0l : Nat) (x0c : Cap) (x1 : Int) (x2 : Int) (S : AS) : Option (AV × AS) :=
 l1_1_0 x0a x0l x0c x1 (IntKind.wrap .i64 (x2 - 1)) S

def r74_l1_1_0 (call : CallA) (n : Nat)  (m : Nat) (w0a : Option Pos) (w0l : Nat) (w0c : Cap) (w6 : Int) (w7 : Int) (S : AS) : Option (AV × AS) := loopN (evC E call n 74 (E.at 74 [1, 1, 0, 0]) 0) [0, 6, 7] m [(0, (.sl w0a w0l w0c)), (6, (.int .i64 w6)), (7, (.int .i64 w7))] S (kBlk 0 (retK E (E.fn 74)))
theorem a74_l1_1_0 (call : CallA) (n : Nat)  (m : Nat) (w0a : Option Pos) (w0l : Nat) (w0c : Cap) (w6 : Int) (w7 : Int) (S : AS) : r74_l1_1_0 call n  (m + 1) w0a w0l w0c w6 w7 S = b74_l1_1_0 call n (r74_l1_1_0 call n  m) w0a w0l w0c w6 w7 S := by kernel_rfl
theorem a74_entry (call : CallA) (n : Nat) (x0a : Option Pos) (x0l : Nat) (x0c : Cap) (x1 : Int) (x2 : Int) (S : AS) : evC E call n 74 (E.at 74 []) 0 (enumT 0 [(.sl x0a x0l x0c), (.int .i64 x1), (.int .i64 x2)]) S (retK E (E.fn 74)) = b74_entry call n (r74_l1_1_0 call n  n) x0a x0l x0c x1 x2 S := by kernel_rfl
def J74_l1_1_0 (call : CallA) (n : Nat)  (m : Nat) : Option Pos → Nat → Cap → Int → Int → AS → Option (AV × AS) := Nat.rec (motive := fun _ => Option Pos → Nat → Cap → Int → Int → AS → Option (AV × AS)) (fun _ _ _ _ _ _ => none) (fun mK ih w0a w0l w0c w6 w7 S => b74_l1_1_0 call n ih w0a w0l w0c w6 w7 S) m
theorem J74_l1_1_0_succ (call : CallA) (n : Nat)  (m : Nat) (w0a : Option Pos) (w0l : Nat) (w0c : Cap) (w6 : Int) (w7 : Int) (S : AS) : J74_l1_1_0 call n  (m + 1) w0a w0l w0c w6 w7 S = b74_l1_1_0 call n (J74_l1_1_0 call n  m) w0a w0l w0c w6 w7 S := rfl
theorem h74_l1_1_0 (call : CallA) (n : Nat)  (m : Nat) : r74_l1_1_0 call n  m = J74_l1_1_0 call n  m := by
  induction m with
  | zero => rfl
  | succ m ih =>
    funext w0a w0l w0c w6 w7 S
    rw [J74_l1_1_0_succ, a74_l1_1_0, ih]
def J74 (call : CallA) (n : Nat) (x0a : Option Pos) (x0l : Nat) (x0c : Cap) (x1 : Int) (x2 : Int) (S : AS) : Option (AV × AS) := b74_entry call n (J74_l1_1_0 call n  n) x0a x0l x0c x1 x2 S
theorem run74 (o : Orc) (n : Nat) (args : List AV) (S : AS) (ho : o 74 args = none) : evF E o (n + 1) (.fn 74) args S = evC E (evF E o n) n 74 (E.at 74 []) 0 (enumT 0 args) S (retK E (E.fn 74)) := by
  rw [evF, ho]; kernel_rfl
theorem J74_eq (call : CallA) (n : Nat) (x0a : Option Pos) (x0l : Nat) (x0c : Cap) (x1 : Int) (x2 : Int) (S : AS) : evC E call n 74 (E.at 74 []) 0 (enumT 0 [(.sl x0a x0l x0c), (.int .i64 x1), (.int .i64 x2)]) S (retK E (E.fn 74)) = J74 call n x0a x0l x0c x1 x2 S := by
  rw [J74, a74_entry, h74_l1_1_0 call n  n]
theorem F74 {o : Orc} (n : Nat) (x0a : Option Pos) (x0l : Nat) (x0c : Cap) (x1 : Int) (x2 : Int) (S : AS) (ho : ∀ args, o 74 args = none) : evF E o (n + 1) (.fn 74) [(.sl x0a x0l x0c), (.int .i64 x1), (.int .i64 x2)] S = J74 (evF E o n) n x0a x0l x0c x1 x2 S := (run74 o n [(.sl x0a x0l x0c), (.int .i64 x1), (.int .i64 x2)] S (ho _)).trans (J74_eq _ _ x0a x0l x0c x1 x2 S)
end
end Go.Ct
