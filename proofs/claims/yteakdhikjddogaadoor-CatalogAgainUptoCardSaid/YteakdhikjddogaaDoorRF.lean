/- The table of the readings: a quick evaluator, and that what it answers is the evaluator's answer: by program. -/
import Derived.Test.YteakdhikjddogaaDoorRes0
import Derived.Test.YteakdhikjddogaaDoorRes1
import Derived.Test.YteakdhikjddogaaDoorRes2
import Derived.Test.YteakdhikjddogaaDoorRes3
import Derived.Test.YteakdhikjddogaaDoorRes4
import Derived.Test.YteakdhikjddogaaDoorRes5
import Derived.Test.YteakdhikjddogaaDoorRes6
import Derived.Test.YteakdhikjddogaaDoorRes7
import Derived.Test.YteakdhikjddogaaDoorRes8
import Derived.Test.YteakdhikjddogaaDoorGrFast
set_option maxRecDepth 100000
set_option linter.unusedVariables false
namespace Go.Ct
open Go.Gr
noncomputable section
def g3 (call : CallA) (n : Nat) (args : List AV) (S : AS) : Option (AV × AS) := match args with
  | [v0, v1] => gG v0 fun x0 => gL v1 fun x1a x1l x1c => J3 call n x0 x1a x1l x1c S
  | _ => none
theorem gok3 : GOk E 3 g3 := ⟨run3, fun call n args S r h => by
  unfold g3 at h; split at h
  · rename_i v0 v1; obtain ⟨x0, e0, h⟩ := gG_inv (v := v0) h; subst e0; obtain ⟨x1a, x1l, x1c, e1, h⟩ := gL_inv (v := v1) h; subst e1; rw [J3_eq]; exact h
  · cases h⟩
def g4 (call : CallA) (n : Nat) (args : List AV) (S : AS) : Option (AV × AS) := match args with
  | [v0] => gG v0 fun x0 => J4 call n x0 S
  | _ => none
theorem gok4 : GOk E 4 g4 := ⟨run4, fun call n args S r h => by
  unfold g4 at h; split at h
  · rename_i v0; obtain ⟨x0, e0, h⟩ := gG_inv (v := v0) h; subst e0; rw [J4_eq]; exact h
  · cases h⟩
def g5 (call : CallA) (n : Nat) (args : List AV) (S : AS) : Option (AV × AS) := match args with
  | [v0, v1] => gIk .i64 v0 fun x0 => gIk .u32 v1 fun x1 => J5 call n x0 x1 S
  | _ => none
theorem gok5 : GOk E 5 g5 := ⟨run5, fun call n args S r h => by
  unfold g5 at h; split at h
  · rename_i v0 v1; obtain ⟨x0, e0, h⟩ := gIk_inv (v := v0) h; subst e0; obtain ⟨x1, e1, h⟩ := gIk_inv (v := v1) h; subst e1; rw [J5_eq]; exact h
  · cases h⟩
def g6 (call : CallA) (n : Nat) (args : List AV) (S : AS) : Option (AV × AS) := match args with
  | [v0, v1] => gL v0 fun x0a x0l x0c => gG v1 fun x1 => J6 call n x0a x0l x0c x1 S
  | _ => none
theorem gok6 : GOk E 6 g6 := ⟨run6, fun call n args S r h => by
  unfold g6 at h; split at h
  · rename_i v0 v1; obtain ⟨x0a, x0l, x0c, e0, h⟩ := gL_inv (v := v0) h; subst e0; obtain ⟨x1, e1, h⟩ := gG_inv (v := v1) h; subst e1; rw [J6_eq]; exact h
  · cases h⟩
def g7 (call : CallA) (n : Nat) (args : List AV) (S : AS) : Option (AV × AS) := match args with
  | [] => J7 call n  S
  | _ => none
theorem gok7 : GOk E 7 g7 := ⟨run7, fun call n args S r h => by
  unfold g7 at h; split at h
  · rw [J7_eq]; exact h
  · cases h⟩
def g8 (call : CallA) (n : Nat) (args : List AV) (S : AS) : Option (AV × AS) := match args with
  | [v0] => gG v0 fun x0 => J8 call n x0 S
  | _ => none
theorem gok8 : GOk E 8 g8 := ⟨run8, fun call n args S r h => by
  unfold g8 at h; split at h
  · rename_i v0; obtain ⟨x0, e0, h⟩ := gG_inv (v := v0) h; subst e0; rw [J8_eq]; exact h
  · cases h⟩
def g9 (call : CallA) (n : Nat) (args : List AV) (S : AS) : Option (AV × AS) := match args with
  | [v0] => gL v0 fun x0a x0l x0c => J9 call n x0a x0l x0c S
  | _ => none
theorem gok9 : GOk E 9 g9 := ⟨run9, fun call n args S r h => by
  unfold g9 at h; split at h
  · rename_i v0; obtain ⟨x0a, x0l, x0c, e0, h⟩ := gL_inv (v := v0) h; subst e0; rw [J9_eq]; exact h
  · cases h⟩
def g10 (call : CallA) (n : Nat) (args : List AV) (S : AS) : Option (AV × AS) := match args with
  | [] => J10 call n  S
  | _ => none
theorem gok10 : GOk E 10 g10 := ⟨run10, fun call n args S r h => by
  unfold g10 at h; split at h
  · rw [J10_eq]; exact h
  · cases h⟩
def g11 (call : CallA) (n : Nat) (args : List AV) (S : AS) : Option (AV × AS) := match args with
  | [v0, v1] => gG v0 fun x0 => gL v1 fun x1a x1l x1c => J11 call n x0 x1a x1l x1c S
  | _ => none
theorem gok11 : GOk E 11 g11 := ⟨run11, fun call n args S r h => by
  unfold g11 at h; split at h
  · rename_i v0 v1; obtain ⟨x0, e0, h⟩ := gG_inv (v := v0) h; subst e0; obtain ⟨x1a, x1l, x1c, e1, h⟩ := gL_inv (v := v1) h; subst e1; rw [J11_eq]; exact h
  · cases h⟩
def g12 (call : CallA) (n : Nat) (args : List AV) (S : AS) : Option (AV × AS) := match args with
  | [v0] => gG v0 fun x0 => J12 call n x0 S
  | _ => none
theorem gok12 : GOk E 12 g12 := ⟨run12, fun call n args S r h => by
  unfold g12 at h; split at h
  · rename_i v0; obtain ⟨x0, e0, h⟩ := gG_inv (v := v0) h; subst e0; rw [J12_eq]; exact h
  · cases h⟩
def g13 (call : CallA) (n : Nat) (args : List AV) (S : AS) : Option (AV × AS) := match args with
  | [v0, v1] => gL v0 fun x0a x0l x0c => gL v1 fun x1a x1l x1c => J13 call n x0a x0l x0c x1a x1l x1c S
  | _ => none
theorem gok13 : GOk E 13 g13 := ⟨run13, fun call n args S r h => by
  unfold g13 at h; split at h
  · rename_i v0 v1; obtain ⟨x0a, x0l, x0c, e0, h⟩ := gL_inv (v := v0) h; subst e0; obtain ⟨x1a, x1l, x1c, e1, h⟩ := gL_inv (v := v1) h; subst e1; rw [J13_eq]; exact h
  · cases h⟩
def g14 (call : CallA) (n : Nat) (args : List AV) (S : AS) : Option (AV × AS) := match args with
  | [v0, v1] => gG v0 fun x0 => gL v1 fun x1a x1l x1c => J14 call n x0 x1a x1l x1c S
  | _ => none
theorem gok14 : GOk E 14 g14 := ⟨run14, fun call n args S r h => by
  unfold g14 at h; split at h
  · rename_i v0 v1; obtain ⟨x0, e0, h⟩ := gG_inv (v := v0) h; subst e0; obtain ⟨x1a, x1l, x1c, e1, h⟩ := gL_inv (v := v1) h; subst e1; rw [J14_eq]; exact h
  · cases h⟩
def g15 (call : CallA) (n : Nat) (args : List AV) (S : AS) : Option (AV × AS) := match args with
  | [v0] => gIk .i64 v0 fun x0 => J15 call n x0 S
  | _ => none
theorem gok15 : GOk E 15 g15 := ⟨run15, fun call n args S r h => by
  unfold g15 at h; split at h
  · rename_i v0; obtain ⟨x0, e0, h⟩ := gIk_inv (v := v0) h; subst e0; rw [J15_eq]; exact h
  · cases h⟩
def g16 (call : CallA) (n : Nat) (args : List AV) (S : AS) : Option (AV × AS) := match args with
  | [v0] => gG v0 fun x0 => J16 call n x0 S
  | _ => none
theorem gok16 : GOk E 16 g16 := ⟨run16, fun call n args S r h => by
  unfold g16 at h; split at h
  · rename_i v0; obtain ⟨x0, e0, h⟩ := gG_inv (v := v0) h; subst e0; rw [J16_eq]; exact h
  · cases h⟩
def g17 (call : CallA) (n : Nat) (args : List AV) (S : AS) : Option (AV × AS) := match args with
  | [v0] => gG v0 fun x0 => J17 call n x0 S
  | _ => none
theorem gok17 : GOk E 17 g17 := ⟨run17, fun call n args S r h => by
  unfold g17 at h; split at h
  · rename_i v0; obtain ⟨x0, e0, h⟩ := gG_inv (v := v0) h; subst e0; rw [J17_eq]; exact h
  · cases h⟩
def g18 (call : CallA) (n : Nat) (args : List AV) (S : AS) : Option (AV × AS) := match args with
  | [] => J18 call n  S
  | _ => none
theorem gok18 : GOk E 18 g18 := ⟨run18, fun call n args S r h => by
  unfold g18 at h; split at h
  · rw [J18_eq]; exact h
  · cases h⟩
def g19 (call : CallA) (n : Nat) (args : List AV) (S : AS) : Option (AV × AS) := match args with
  | [v0, v1, v2, v3] => gP v0 fun x0 => gIk .u64 v1 fun x1 => gS v2 fun x2 => gIk .u64 v3 fun x3 => J19 call n x0 x1 x2 x3 S
  | _ => none
theorem gok19 : GOk E 19 g19 := ⟨run19, fun call n args S r h => by
  unfold g19 at h; split at h
  · rename_i v0 v1 v2 v3; obtain ⟨x0, e0, h⟩ := gP_inv (v := v0) h; subst e0; obtain ⟨x1, e1, h⟩ := gIk_inv (v := v1) h; subst e1; obtain ⟨x2, e2, h⟩ := gS_inv (v := v2) h; subst e2; obtain ⟨x3, e3, h⟩ := gIk_inv (v := v3) h; subst e3; rw [J19_eq]; exact h
  · cases h⟩
def g20 (call : CallA) (n : Nat) (args : List AV) (S : AS) : Option (AV × AS) := match args with
  | [v0] => gIk .u8 v0 fun x0 => J20 call n x0 S
  | _ => none
theorem gok20 : GOk E 20 g20 := ⟨run20, fun call n args S r h => by
  unfold g20 at h; split at h
  · rename_i v0; obtain ⟨x0, e0, h⟩ := gIk_inv (v := v0) h; subst e0; rw [J20_eq]; exact h
  · cases h⟩
def g21 (call : CallA) (n : Nat) (args : List AV) (S : AS) : Option (AV × AS) := match args with
  | [v0, v1] => gP v0 fun x0 => gIk .u32 v1 fun x1 => J21 call n x0 x1 S
  | _ => none
theorem gok21 : GOk E 21 g21 := ⟨run21, fun call n args S r h => by
  unfold g21 at h; split at h
  · rename_i v0 v1; obtain ⟨x0, e0, h⟩ := gP_inv (v := v0) h; subst e0; obtain ⟨x1, e1, h⟩ := gIk_inv (v := v1) h; subst e1; rw [J21_eq]; exact h
  · cases h⟩
def g22 (call : CallA) (n : Nat) (args : List AV) (S : AS) : Option (AV × AS) := match args with
  | [v0] => gP v0 fun x0 => J22 call n x0 S
  | _ => none
theorem gok22 : GOk E 22 g22 := ⟨run22, fun call n args S r h => by
  unfold g22 at h; split at h
  · rename_i v0; obtain ⟨x0, e0, h⟩ := gP_inv (v := v0) h; subst e0; rw [J22_eq]; exact h
  · cases h⟩
def g23 (call : CallA) (n : Nat) (args : List AV) (S : AS) : Option (AV × AS) := match args with
  | [v0] => gL v0 fun x0a x0l x0c => J23 call n x0a x0l x0c S
  | _ => none
theorem gok23 : GOk E 23 g23 := ⟨run23, fun call n args S r h => by
  unfold g23 at h; split at h
  · rename_i v0; obtain ⟨x0a, x0l, x0c, e0, h⟩ := gL_inv (v := v0) h; subst e0; rw [J23_eq]; exact h
  · cases h⟩
def g24 (call : CallA) (n : Nat) (args : List AV) (S : AS) : Option (AV × AS) := match args with
  | [v0, v1, v2] => gP v0 fun x0 => gP v1 fun x1 => gG v2 fun x2 => J24 call n x0 x1 x2 S
  | _ => none
theorem gok24 : GOk E 24 g24 := ⟨run24, fun call n args S r h => by
  unfold g24 at h; split at h
  · rename_i v0 v1 v2; obtain ⟨x0, e0, h⟩ := gP_inv (v := v0) h; subst e0; obtain ⟨x1, e1, h⟩ := gP_inv (v := v1) h; subst e1; obtain ⟨x2, e2, h⟩ := gG_inv (v := v2) h; subst e2; rw [J24_eq]; exact h
  · cases h⟩
def g25 (call : CallA) (n : Nat) (args : List AV) (S : AS) : Option (AV × AS) := match args with
  | [v0] => gP v0 fun x0 => J25 call n x0 S
  | _ => none
theorem gok25 : GOk E 25 g25 := ⟨run25, fun call n args S r h => by
  unfold g25 at h; split at h
  · rename_i v0; obtain ⟨x0, e0, h⟩ := gP_inv (v := v0) h; subst e0; rw [J25_eq]; exact h
  · cases h⟩
def g26 (call : CallA) (n : Nat) (args : List AV) (S : AS) : Option (AV × AS) := match args with
  | [v0, v1] => gP v0 fun x0 => gG v1 fun x1 => J26 call n x0 x1 S
  | _ => none
theorem gok26 : GOk E 26 g26 := ⟨run26, fun call n args S r h => by
  unfold g26 at h; split at h
  · rename_i v0 v1; obtain ⟨x0, e0, h⟩ := gP_inv (v := v0) h; subst e0; obtain ⟨x1, e1, h⟩ := gG_inv (v := v1) h; subst e1; rw [J26_eq]; exact h
  · cases h⟩
def g27 (call : CallA) (n : Nat) (args : List AV) (S : AS) : Option (AV × AS) := match args with
  | [v0, v1] => gP v0 fun x0 => gIk .u32 v1 fun x1 => J27 call n x0 x1 S
  | _ => none
theorem gok27 : GOk E 27 g27 := ⟨run27, fun call n args S r h => by
  unfold g27 at h; split at h
  · rename_i v0 v1; obtain ⟨x0, e0, h⟩ := gP_inv (v := v0) h; subst e0; obtain ⟨x1, e1, h⟩ := gIk_inv (v := v1) h; subst e1; rw [J27_eq]; exact h
  · cases h⟩
def g28 (call : CallA) (n : Nat) (args : List AV) (S : AS) : Option (AV × AS) := match args with
  | [v0, v1] => gP v0 fun x0 => gS v1 fun x1 => J28 call n x0 x1 S
  | _ => none
theorem gok28 : GOk E 28 g28 := ⟨run28, fun call n args S r h => by
  unfold g28 at h; split at h
  · rename_i v0 v1; obtain ⟨x0, e0, h⟩ := gP_inv (v := v0) h; subst e0; obtain ⟨x1, e1, h⟩ := gS_inv (v := v1) h; subst e1; rw [J28_eq]; exact h
  · cases h⟩
def g29 (call : CallA) (n : Nat) (args : List AV) (S : AS) : Option (AV × AS) := match args with
  | [v0] => gP v0 fun x0 => J29 call n x0 S
  | _ => none
theorem gok29 : GOk E 29 g29 := ⟨run29, fun call n args S r h => by
  unfold g29 at h; split at h
  · rename_i v0; obtain ⟨x0, e0, h⟩ := gP_inv (v := v0) h; subst e0; rw [J29_eq]; exact h
  · cases h⟩
def g30 (call : CallA) (n : Nat) (args : List AV) (S : AS) : Option (AV × AS) := match args with
  | [v0] => gP v0 fun x0 => J30 call n x0 S
  | _ => none
theorem gok30 : GOk E 30 g30 := ⟨run30, fun call n args S r h => by
  unfold g30 at h; split at h
  · rename_i v0; obtain ⟨x0, e0, h⟩ := gP_inv (v := v0) h; subst e0; rw [J30_eq]; exact h
  · cases h⟩
def g31 (call : CallA) (n : Nat) (args : List AV) (S : AS) : Option (AV × AS) := match args with
  | [v0] => gP v0 fun x0 => J31 call n x0 S
  | _ => none
theorem gok31 : GOk E 31 g31 := ⟨run31, fun call n args S r h => by
  unfold g31 at h; split at h
  · rename_i v0; obtain ⟨x0, e0, h⟩ := gP_inv (v := v0) h; subst e0; rw [J31_eq]; exact h
  · cases h⟩
def g32 (call : CallA) (n : Nat) (args : List AV) (S : AS) : Option (AV × AS) := match args with
  | [v0] => gP v0 fun x0 => J32 call n x0 S
  | _ => none
theorem gok32 : GOk E 32 g32 := ⟨run32, fun call n args S r h => by
  unfold g32 at h; split at h
  · rename_i v0; obtain ⟨x0, e0, h⟩ := gP_inv (v := v0) h; subst e0; rw [J32_eq]; exact h
  · cases h⟩
def g33 (call : CallA) (n : Nat) (args : List AV) (S : AS) : Option (AV × AS) := match args with
  | [v0] => gG v0 fun x0 => J33 call n x0 S
  | _ => none
theorem gok33 : GOk E 33 g33 := ⟨run33, fun call n args S r h => by
  unfold g33 at h; split at h
  · rename_i v0; obtain ⟨x0, e0, h⟩ := gG_inv (v := v0) h; subst e0; rw [J33_eq]; exact h
  · cases h⟩
def g34 (call : CallA) (n : Nat) (args : List AV) (S : AS) : Option (AV × AS) := match args with
  | [v0] => gL v0 fun x0a x0l x0c => J34 call n x0a x0l x0c S
  | _ => none
theorem gok34 : GOk E 34 g34 := ⟨run34, fun call n args S r h => by
  unfold g34 at h; split at h
  · rename_i v0; obtain ⟨x0a, x0l, x0c, e0, h⟩ := gL_inv (v := v0) h; subst e0; rw [J34_eq]; exact h
  · cases h⟩
def g35 (call : CallA) (n : Nat) (args : List AV) (S : AS) : Option (AV × AS) := match args with
  | [v0, v1, v2] => gG v0 fun x0 => gL v1 fun x1a x1l x1c => gIk .i64 v2 fun x2 => J35 call n x0 x1a x1l x1c x2 S
  | _ => none
theorem gok35 : GOk E 35 g35 := ⟨run35, fun call n args S r h => by
  unfold g35 at h; split at h
  · rename_i v0 v1 v2; obtain ⟨x0, e0, h⟩ := gG_inv (v := v0) h; subst e0; obtain ⟨x1a, x1l, x1c, e1, h⟩ := gL_inv (v := v1) h; subst e1; obtain ⟨x2, e2, h⟩ := gIk_inv (v := v2) h; subst e2; rw [J35_eq]; exact h
  · cases h⟩
def g36 (call : CallA) (n : Nat) (args : List AV) (S : AS) : Option (AV × AS) := match args with
  | [v0, v1] => gP v0 fun x0 => gIk .u32 v1 fun x1 => J36 call n x0 x1 S
  | _ => none
theorem gok36 : GOk E 36 g36 := ⟨run36, fun call n args S r h => by
  unfold g36 at h; split at h
  · rename_i v0 v1; obtain ⟨x0, e0, h⟩ := gP_inv (v := v0) h; subst e0; obtain ⟨x1, e1, h⟩ := gIk_inv (v := v1) h; subst e1; rw [J36_eq]; exact h
  · cases h⟩
def g37 (call : CallA) (n : Nat) (args : List AV) (S : AS) : Option (AV × AS) := match args with
  | [v0, v1, v2] => gL v0 fun x0a x0l x0c => gIk .i64 v1 fun x1 => gIk .i64 v2 fun x2 => J37 call n x0a x0l x0c x1 x2 S
  | _ => none
theorem gok37 : GOk E 37 g37 := ⟨run37, fun call n args S r h => by
  unfold g37 at h; split at h
  · rename_i v0 v1 v2; obtain ⟨x0a, x0l, x0c, e0, h⟩ := gL_inv (v := v0) h; subst e0; obtain ⟨x1, e1, h⟩ := gIk_inv (v := v1) h; subst e1; obtain ⟨x2, e2, h⟩ := gIk_inv (v := v2) h; subst e2; rw [J37_eq]; exact h
  · cases h⟩
def g38 (call : CallA) (n : Nat) (args : List AV) (S : AS) : Option (AV × AS) := match args with
  | [v0, v1, v2, v3] => gP v0 fun x0 => gIk .u64 v1 fun x1 => gS v2 fun x2 => gIk .u64 v3 fun x3 => J38 call n x0 x1 x2 x3 S
  | _ => none
theorem gok38 : GOk E 38 g38 := ⟨run38, fun call n args S r h => by
  unfold g38 at h; split at h
  · rename_i v0 v1 v2 v3; obtain ⟨x0, e0, h⟩ := gP_inv (v := v0) h; subst e0; obtain ⟨x1, e1, h⟩ := gIk_inv (v := v1) h; subst e1; obtain ⟨x2, e2, h⟩ := gS_inv (v := v2) h; subst e2; obtain ⟨x3, e3, h⟩ := gIk_inv (v := v3) h; subst e3; rw [J38_eq]; exact h
  · cases h⟩
def g39 (call : CallA) (n : Nat) (args : List AV) (S : AS) : Option (AV × AS) := match args with
  | [v0, v1] => gP v0 fun x0 => gIk .u32 v1 fun x1 => J39 call n x0 x1 S
  | _ => none
theorem gok39 : GOk E 39 g39 := ⟨run39, fun call n args S r h => by
  unfold g39 at h; split at h
  · rename_i v0 v1; obtain ⟨x0, e0, h⟩ := gP_inv (v := v0) h; subst e0; obtain ⟨x1, e1, h⟩ := gIk_inv (v := v1) h; subst e1; rw [J39_eq]; exact h
  · cases h⟩
def g40 (call : CallA) (n : Nat) (args : List AV) (S : AS) : Option (AV × AS) := match args with
  | [v0, v1] => gP v0 fun x0 => gG v1 fun x1 => J40 call n x0 x1 S
  | _ => none
theorem gok40 : GOk E 40 g40 := ⟨run40, fun call n args S r h => by
  unfold g40 at h; split at h
  · rename_i v0 v1; obtain ⟨x0, e0, h⟩ := gP_inv (v := v0) h; subst e0; obtain ⟨x1, e1, h⟩ := gG_inv (v := v1) h; subst e1; rw [J40_eq]; exact h
  · cases h⟩
def g41 (call : CallA) (n : Nat) (args : List AV) (S : AS) : Option (AV × AS) := match args with
  | [v0, v1] => gL v0 fun x0a x0l x0c => gL v1 fun x1a x1l x1c => J41 call n x0a x0l x0c x1a x1l x1c S
  | _ => none
theorem gok41 : GOk E 41 g41 := ⟨run41, fun call n args S r h => by
  unfold g41 at h; split at h
  · rename_i v0 v1; obtain ⟨x0a, x0l, x0c, e0, h⟩ := gL_inv (v := v0) h; subst e0; obtain ⟨x1a, x1l, x1c, e1, h⟩ := gL_inv (v := v1) h; subst e1; rw [J41_eq]; exact h
  · cases h⟩
def g42 (call : CallA) (n : Nat) (args : List AV) (S : AS) : Option (AV × AS) := match args with
  | [v0] => gL v0 fun x0a x0l x0c => J42 call n x0a x0l x0c S
  | _ => none
theorem gok42 : GOk E 42 g42 := ⟨run42, fun call n args S r h => by
  unfold g42 at h; split at h
  · rename_i v0; obtain ⟨x0a, x0l, x0c, e0, h⟩ := gL_inv (v := v0) h; subst e0; rw [J42_eq]; exact h
  · cases h⟩
def g43 (call : CallA) (n : Nat) (args : List AV) (S : AS) : Option (AV × AS) := match args with
  | [v0] => gL v0 fun x0a x0l x0c => J43 call n x0a x0l x0c S
  | _ => none
theorem gok43 : GOk E 43 g43 := ⟨run43, fun call n args S r h => by
  unfold g43 at h; split at h
  · rename_i v0; obtain ⟨x0a, x0l, x0c, e0, h⟩ := gL_inv (v := v0) h; subst e0; rw [J43_eq]; exact h
  · cases h⟩
def g44 (call : CallA) (n : Nat) (args : List AV) (S : AS) : Option (AV × AS) := match args with
  | [v0, v1] => gS v0 fun x0 => gS v1 fun x1 => J44 call n x0 x1 S
  | _ => none
theorem gok44 : GOk E 44 g44 := ⟨run44, fun call n args S r h => by
  unfold g44 at h; split at h
  · rename_i v0 v1; obtain ⟨x0, e0, h⟩ := gS_inv (v := v0) h; subst e0; obtain ⟨x1, e1, h⟩ := gS_inv (v := v1) h; subst e1; rw [J44_eq]; exact h
  · cases h⟩
def g45 (call : CallA) (n : Nat) (args : List AV) (S : AS) : Option (AV × AS) := match args with
  | [v0, v1, v2] => gS v0 fun x0 => gIk .i64 v1 fun x1 => gIk .i64 v2 fun x2 => J45 call n x0 x1 x2 S
  | _ => none
theorem gok45 : GOk E 45 g45 := ⟨run45, fun call n args S r h => by
  unfold g45 at h; split at h
  · rename_i v0 v1 v2; obtain ⟨x0, e0, h⟩ := gS_inv (v := v0) h; subst e0; obtain ⟨x1, e1, h⟩ := gIk_inv (v := v1) h; subst e1; obtain ⟨x2, e2, h⟩ := gIk_inv (v := v2) h; subst e2; rw [J45_eq]; exact h
  · cases h⟩
def g46 (call : CallA) (n : Nat) (args : List AV) (S : AS) : Option (AV × AS) := match args with
  | [v0] => gL v0 fun x0a x0l x0c => J46 call n x0a x0l x0c S
  | _ => none
theorem gok46 : GOk E 46 g46 := ⟨run46, fun call n args S r h => by
  unfold g46 at h; split at h
  · rename_i v0; obtain ⟨x0a, x0l, x0c, e0, h⟩ := gL_inv (v := v0) h; subst e0; rw [J46_eq]; exact h
  · cases h⟩
def g47 (call : CallA) (n : Nat) (args : List AV) (S : AS) : Option (AV × AS) := match args with
  | [v0] => gL v0 fun x0a x0l x0c => J47 call n x0a x0l x0c S
  | _ => none
theorem gok47 : GOk E 47 g47 := ⟨run47, fun call n args S r h => by
  unfold g47 at h; split at h
  · rename_i v0; obtain ⟨x0a, x0l, x0c, e0, h⟩ := gL_inv (v := v0) h; subst e0; rw [J47_eq]; exact h
  · cases h⟩
def g48 (call : CallA) (n : Nat) (args : List AV) (S : AS) : Option (AV × AS) := match args with
  | [v0, v1, v2] => gL v0 fun x0a x0l x0c => gIk .u64 v1 fun x1 => gIk .i64 v2 fun x2 => J48 call n x0a x0l x0c x1 x2 S
  | _ => none
theorem gok48 : GOk E 48 g48 := ⟨run48, fun call n args S r h => by
  unfold g48 at h; split at h
  · rename_i v0 v1 v2; obtain ⟨x0a, x0l, x0c, e0, h⟩ := gL_inv (v := v0) h; subst e0; obtain ⟨x1, e1, h⟩ := gIk_inv (v := v1) h; subst e1; obtain ⟨x2, e2, h⟩ := gIk_inv (v := v2) h; subst e2; rw [J48_eq]; exact h
  · cases h⟩
def g49 (call : CallA) (n : Nat) (args : List AV) (S : AS) : Option (AV × AS) := match args with
  | [v0, v1] => gIk .u64 v0 fun x0 => gIk .i64 v1 fun x1 => J49 call n x0 x1 S
  | _ => none
theorem gok49 : GOk E 49 g49 := ⟨run49, fun call n args S r h => by
  unfold g49 at h; split at h
  · rename_i v0 v1; obtain ⟨x0, e0, h⟩ := gIk_inv (v := v0) h; subst e0; obtain ⟨x1, e1, h⟩ := gIk_inv (v := v1) h; subst e1; rw [J49_eq]; exact h
  · cases h⟩
def g50 (call : CallA) (n : Nat) (args : List AV) (S : AS) : Option (AV × AS) := match args with
  | [v0, v1] => J50 call n v0 v1 S
  | _ => none
theorem gok50 : GOk E 50 g50 := ⟨run50, fun call n args S r h => by
  unfold g50 at h; split at h
  · rename_i v0 v1; rw [J50_eq]; exact h
  · cases h⟩
def g51 (call : CallA) (n : Nat) (args : List AV) (S : AS) : Option (AV × AS) := match args with
  | [v0, v1] => gL v0 fun x0a x0l x0c => J51 call n x0a x0l x0c v1 S
  | _ => none
theorem gok51 : GOk E 51 g51 := ⟨run51, fun call n args S r h => by
  unfold g51 at h; split at h
  · rename_i v0 v1; obtain ⟨x0a, x0l, x0c, e0, h⟩ := gL_inv (v := v0) h; subst e0; rw [J51_eq]; exact h
  · cases h⟩
def g52 (call : CallA) (n : Nat) (args : List AV) (S : AS) : Option (AV × AS) := match args with
  | [v0, v1] => gG v0 fun x0 => J52 call n x0 v1 S
  | _ => none
theorem gok52 : GOk E 52 g52 := ⟨run52, fun call n args S r h => by
  unfold g52 at h; split at h
  · rename_i v0 v1; obtain ⟨x0, e0, h⟩ := gG_inv (v := v0) h; subst e0; rw [J52_eq]; exact h
  · cases h⟩
def g53 (call : CallA) (n : Nat) (args : List AV) (S : AS) : Option (AV × AS) := match args with
  | [v0] => gL v0 fun x0a x0l x0c => J53 call n x0a x0l x0c S
  | _ => none
theorem gok53 : GOk E 53 g53 := ⟨run53, fun call n args S r h => by
  unfold g53 at h; split at h
  · rename_i v0; obtain ⟨x0a, x0l, x0c, e0, h⟩ := gL_inv (v := v0) h; subst e0; rw [J53_eq]; exact h
  · cases h⟩
def g54 (call : CallA) (n : Nat) (args : List AV) (S : AS) : Option (AV × AS) := match args with
  | [v0] => gP v0 fun x0 => J54 call n x0 S
  | _ => none
theorem gok54 : GOk E 54 g54 := ⟨run54, fun call n args S r h => by
  unfold g54 at h; split at h
  · rename_i v0; obtain ⟨x0, e0, h⟩ := gP_inv (v := v0) h; subst e0; rw [J54_eq]; exact h
  · cases h⟩
def g55 (call : CallA) (n : Nat) (args : List AV) (S : AS) : Option (AV × AS) := match args with
  | [v0, v1] => gS v0 fun x0 => gS v1 fun x1 => J55 call n x0 x1 S
  | _ => none
theorem gok55 : GOk E 55 g55 := ⟨run55, fun call n args S r h => by
  unfold g55 at h; split at h
  · rename_i v0 v1; obtain ⟨x0, e0, h⟩ := gS_inv (v := v0) h; subst e0; obtain ⟨x1, e1, h⟩ := gS_inv (v := v1) h; subst e1; rw [J55_eq]; exact h
  · cases h⟩
def g58 (call : CallA) (n : Nat) (args : List AV) (S : AS) : Option (AV × AS) := match args with
  | [v0, v1, v2, v3] => gL v0 fun x0a x0l x0c => gIk .i64 v1 fun x1 => gIk .i64 v2 fun x2 => gIk .i64 v3 fun x3 => J58 call n x0a x0l x0c x1 x2 x3 S
  | _ => none
theorem gok58 : GOk E 58 g58 := ⟨run58, fun call n args S r h => by
  unfold g58 at h; split at h
  · rename_i v0 v1 v2 v3; obtain ⟨x0a, x0l, x0c, e0, h⟩ := gL_inv (v := v0) h; subst e0; obtain ⟨x1, e1, h⟩ := gIk_inv (v := v1) h; subst e1; obtain ⟨x2, e2, h⟩ := gIk_inv (v := v2) h; subst e2; obtain ⟨x3, e3, h⟩ := gIk_inv (v := v3) h; subst e3; rw [J58_eq]; exact h
  · cases h⟩
def g59 (call : CallA) (n : Nat) (args : List AV) (S : AS) : Option (AV × AS) := match args with
  | [v0] => gIk .u64 v0 fun x0 => J59 call n x0 S
  | _ => none
theorem gok59 : GOk E 59 g59 := ⟨run59, fun call n args S r h => by
  unfold g59 at h; split at h
  · rename_i v0; obtain ⟨x0, e0, h⟩ := gIk_inv (v := v0) h; subst e0; rw [J59_eq]; exact h
  · cases h⟩
def g60 (call : CallA) (n : Nat) (args : List AV) (S : AS) : Option (AV × AS) := match args with
  | [v0, v1] => gL v0 fun x0a x0l x0c => gIk .u64 v1 fun x1 => J60 call n x0a x0l x0c x1 S
  | _ => none
theorem gok60 : GOk E 60 g60 := ⟨run60, fun call n args S r h => by
  unfold g60 at h; split at h
  · rename_i v0 v1; obtain ⟨x0a, x0l, x0c, e0, h⟩ := gL_inv (v := v0) h; subst e0; obtain ⟨x1, e1, h⟩ := gIk_inv (v := v1) h; subst e1; rw [J60_eq]; exact h
  · cases h⟩
def g61 (call : CallA) (n : Nat) (args : List AV) (S : AS) : Option (AV × AS) := match args with
  | [v0, v1] => gIk .u64 v0 fun x0 => gIk .i64 v1 fun x1 => J61 call n x0 x1 S
  | _ => none
theorem gok61 : GOk E 61 g61 := ⟨run61, fun call n args S r h => by
  unfold g61 at h; split at h
  · rename_i v0 v1; obtain ⟨x0, e0, h⟩ := gIk_inv (v := v0) h; subst e0; obtain ⟨x1, e1, h⟩ := gIk_inv (v := v1) h; subst e1; rw [J61_eq]; exact h
  · cases h⟩
def g62 (call : CallA) (n : Nat) (args : List AV) (S : AS) : Option (AV × AS) := match args with
  | [v0, v1, v2, v3] => gIk .u64 v0 fun x0 => gIk .u64 v1 fun x1 => gIk .u64 v2 fun x2 => gB v3 fun x3 => J62 call n x0 x1 x2 x3 S
  | _ => none
theorem gok62 : GOk E 62 g62 := ⟨run62, fun call n args S r h => by
  unfold g62 at h; split at h
  · rename_i v0 v1 v2 v3; obtain ⟨x0, e0, h⟩ := gIk_inv (v := v0) h; subst e0; obtain ⟨x1, e1, h⟩ := gIk_inv (v := v1) h; subst e1; obtain ⟨x2, e2, h⟩ := gIk_inv (v := v2) h; subst e2; obtain ⟨x3, e3, h⟩ := gB_inv (v := v3) h; subst e3; rw [J62_eq]; exact h
  · cases h⟩
def g63 (call : CallA) (n : Nat) (args : List AV) (S : AS) : Option (AV × AS) := match args with
  | [v0, v1] => gS v0 fun x0 => gS v1 fun x1 => J63 call n x0 x1 S
  | _ => none
theorem gok63 : GOk E 63 g63 := ⟨run63, fun call n args S r h => by
  unfold g63 at h; split at h
  · rename_i v0 v1; obtain ⟨x0, e0, h⟩ := gS_inv (v := v0) h; subst e0; obtain ⟨x1, e1, h⟩ := gS_inv (v := v1) h; subst e1; rw [J63_eq]; exact h
  · cases h⟩
def g64 (call : CallA) (n : Nat) (args : List AV) (S : AS) : Option (AV × AS) := match args with
  | [v0] => gIk .u8 v0 fun x0 => J64 call n x0 S
  | _ => none
theorem gok64 : GOk E 64 g64 := ⟨run64, fun call n args S r h => by
  unfold g64 at h; split at h
  · rename_i v0; obtain ⟨x0, e0, h⟩ := gIk_inv (v := v0) h; subst e0; rw [J64_eq]; exact h
  · cases h⟩
def g65 (call : CallA) (n : Nat) (args : List AV) (S : AS) : Option (AV × AS) := match args with
  | [v0] => gS v0 fun x0 => J65 call n x0 S
  | _ => none
theorem gok65 : GOk E 65 g65 := ⟨run65, fun call n args S r h => by
  unfold g65 at h; split at h
  · rename_i v0; obtain ⟨x0, e0, h⟩ := gS_inv (v := v0) h; subst e0; rw [J65_eq]; exact h
  · cases h⟩
def g68 (call : CallA) (n : Nat) (args : List AV) (S : AS) : Option (AV × AS) := match args with
  | [v0, v1, v2] => gS v0 fun x0 => gS v1 fun x1 => gIk .i64 v2 fun x2 => J68 call n x0 x1 x2 S
  | _ => none
theorem gok68 : GOk E 68 g68 := ⟨run68, fun call n args S r h => by
  unfold g68 at h; split at h
  · rename_i v0 v1 v2; obtain ⟨x0, e0, h⟩ := gS_inv (v := v0) h; subst e0; obtain ⟨x1, e1, h⟩ := gS_inv (v := v1) h; subst e1; obtain ⟨x2, e2, h⟩ := gIk_inv (v := v2) h; subst e2; rw [J68_eq]; exact h
  · cases h⟩
def g69 (call : CallA) (n : Nat) (args : List AV) (S : AS) : Option (AV × AS) := match args with
  | [v0, v1, v2] => gS v0 fun x0 => gS v1 fun x1 => gIk .i64 v2 fun x2 => J69 call n x0 x1 x2 S
  | _ => none
theorem gok69 : GOk E 69 g69 := ⟨run69, fun call n args S r h => by
  unfold g69 at h; split at h
  · rename_i v0 v1 v2; obtain ⟨x0, e0, h⟩ := gS_inv (v := v0) h; subst e0; obtain ⟨x1, e1, h⟩ := gS_inv (v := v1) h; subst e1; obtain ⟨x2, e2, h⟩ := gIk_inv (v := v2) h; subst e2; rw [J69_eq]; exact h
  · cases h⟩
def g70 (call : CallA) (n : Nat) (args : List AV) (S : AS) : Option (AV × AS) := match args with
  | [v0, v1, v2] => gL v0 fun x0a x0l x0c => gIk .i64 v1 fun x1 => gIk .i64 v2 fun x2 => J70 call n x0a x0l x0c x1 x2 S
  | _ => none
theorem gok70 : GOk E 70 g70 := ⟨run70, fun call n args S r h => by
  unfold g70 at h; split at h
  · rename_i v0 v1 v2; obtain ⟨x0a, x0l, x0c, e0, h⟩ := gL_inv (v := v0) h; subst e0; obtain ⟨x1, e1, h⟩ := gIk_inv (v := v1) h; subst e1; obtain ⟨x2, e2, h⟩ := gIk_inv (v := v2) h; subst e2; rw [J70_eq]; exact h
  · cases h⟩
def g71 (call : CallA) (n : Nat) (args : List AV) (S : AS) : Option (AV × AS) := match args with
  | [v0, v1, v2] => gL v0 fun x0a x0l x0c => gIk .i64 v1 fun x1 => gIk .i64 v2 fun x2 => J71 call n x0a x0l x0c x1 x2 S
  | _ => none
theorem gok71 : GOk E 71 g71 := ⟨run71, fun call n args S r h => by
  unfold g71 at h; split at h
  · rename_i v0 v1 v2; obtain ⟨x0a, x0l, x0c, e0, h⟩ := gL_inv (v := v0) h; subst e0; obtain ⟨x1, e1, h⟩ := gIk_inv (v := v1) h; subst e1; obtain ⟨x2, e2, h⟩ := gIk_inv (v := v2) h; subst e2; rw [J71_eq]; exact h
  · cases h⟩
def g72 (call : CallA) (n : Nat) (args : List AV) (S : AS) : Option (AV × AS) := match args with
  | [v0, v1, v2] => gL v0 fun x0a x0l x0c => gIk .i64 v1 fun x1 => gIk .i64 v2 fun x2 => J72 call n x0a x0l x0c x1 x2 S
  | _ => none
theorem gok72 : GOk E 72 g72 := ⟨run72, fun call n args S r h => by
  unfold g72 at h; split at h
  · rename_i v0 v1 v2; obtain ⟨x0a, x0l, x0c, e0, h⟩ := gL_inv (v := v0) h; subst e0; obtain ⟨x1, e1, h⟩ := gIk_inv (v := v1) h; subst e1; obtain ⟨x2, e2, h⟩ := gIk_inv (v := v2) h; subst e2; rw [J72_eq]; exact h
  · cases h⟩
def g73 (call : CallA) (n : Nat) (args : List AV) (S : AS) : Option (AV × AS) := match args with
  | [v0, v1, v2] => gL v0 fun x0a x0l x0c => gIk .i64 v1 fun x1 => gIk .i64 v2 fun x2 => J73 call n x0a x0l x0c x1 x2 S
  | _ => none
theorem gok73 : GOk E 73 g73 := ⟨run73, fun call n args S r h => by
  unfold g73 at h; split at h
  · rename_i v0 v1 v2; obtain ⟨x0a, x0l, x0c, e0, h⟩ := gL_inv (v := v0) h; subst e0; obtain ⟨x1, e1, h⟩ := gIk_inv (v := v1) h; subst e1; obtain ⟨x2, e2, h⟩ := gIk_inv (v := v2) h; subst e2; rw [J73_eq]; exact h
  · cases h⟩
def g74 (call : CallA) (n : Nat) (args : List AV) (S : AS) : Option (AV × AS) := match args with
  | [v0, v1, v2] => gL v0 fun x0a x0l x0c => gIk .i64 v1 fun x1 => gIk .i64 v2 fun x2 => J74 call n x0a x0l x0c x1 x2 S
  | _ => none
theorem gok74 : GOk E 74 g74 := ⟨run74, fun call n args S r h => by
  unfold g74 at h; split at h
  · rename_i v0 v1 v2; obtain ⟨x0a, x0l, x0c, e0, h⟩ := gL_inv (v := v0) h; subst e0; obtain ⟨x1, e1, h⟩ := gIk_inv (v := v1) h; subst e1; obtain ⟨x2, e2, h⟩ := gIk_inv (v := v2) h; subst e2; rw [J74_eq]; exact h
  · cases h⟩
def g75 (call : CallA) (n : Nat) (args : List AV) (S : AS) : Option (AV × AS) := match args with
  | [v0, v1, v2] => gL v0 fun x0a x0l x0c => gIk .i64 v1 fun x1 => gIk .i64 v2 fun x2 => J75 call n x0a x0l x0c x1 x2 S
  | _ => none
theorem gok75 : GOk E 75 g75 := ⟨run75, fun call n args S r h => by
  unfold g75 at h; split at h
  · rename_i v0 v1 v2; obtain ⟨x0a, x0l, x0c, e0, h⟩ := gL_inv (v := v0) h; subst e0; obtain ⟨x1, e1, h⟩ := gIk_inv (v := v1) h; subst e1; obtain ⟨x2, e2, h⟩ := gIk_inv (v := v2) h; subst e2; rw [J75_eq]; exact h
  · cases h⟩
def g76 (call : CallA) (n : Nat) (args : List AV) (S : AS) : Option (AV × AS) := match args with
  | [v0, v1] => gS v0 fun x0 => gS v1 fun x1 => J76 call n x0 x1 S
  | _ => none
theorem gok76 : GOk E 76 g76 := ⟨run76, fun call n args S r h => by
  unfold g76 at h; split at h
  · rename_i v0 v1; obtain ⟨x0, e0, h⟩ := gS_inv (v := v0) h; subst e0; obtain ⟨x1, e1, h⟩ := gS_inv (v := v1) h; subst e1; rw [J76_eq]; exact h
  · cases h⟩
def g77 (call : CallA) (n : Nat) (args : List AV) (S : AS) : Option (AV × AS) := match args with
  | [v0, v1, v2, v3] => gL v0 fun x0a x0l x0c => gIk .i64 v1 fun x1 => gIk .i64 v2 fun x2 => gIk .i64 v3 fun x3 => J77 call n x0a x0l x0c x1 x2 x3 S
  | _ => none
theorem gok77 : GOk E 77 g77 := ⟨run77, fun call n args S r h => by
  unfold g77 at h; split at h
  · rename_i v0 v1 v2 v3; obtain ⟨x0a, x0l, x0c, e0, h⟩ := gL_inv (v := v0) h; subst e0; obtain ⟨x1, e1, h⟩ := gIk_inv (v := v1) h; subst e1; obtain ⟨x2, e2, h⟩ := gIk_inv (v := v2) h; subst e2; obtain ⟨x3, e3, h⟩ := gIk_inv (v := v3) h; subst e3; rw [J77_eq]; exact h
  · cases h⟩
def g78 (call : CallA) (n : Nat) (args : List AV) (S : AS) : Option (AV × AS) := match args with
  | [v0, v1, v2, v3] => gL v0 fun x0a x0l x0c => gIk .i64 v1 fun x1 => gIk .i64 v2 fun x2 => gIk .i64 v3 fun x3 => J78 call n x0a x0l x0c x1 x2 x3 S
  | _ => none
theorem gok78 : GOk E 78 g78 := ⟨run78, fun call n args S r h => by
  unfold g78 at h; split at h
  · rename_i v0 v1 v2 v3; obtain ⟨x0a, x0l, x0c, e0, h⟩ := gL_inv (v := v0) h; subst e0; obtain ⟨x1, e1, h⟩ := gIk_inv (v := v1) h; subst e1; obtain ⟨x2, e2, h⟩ := gIk_inv (v := v2) h; subst e2; obtain ⟨x3, e3, h⟩ := gIk_inv (v := v3) h; subst e3; rw [J78_eq]; exact h
  · cases h⟩
def g79 (call : CallA) (n : Nat) (args : List AV) (S : AS) : Option (AV × AS) := match args with
  | [v0] => gIk .u32 v0 fun x0 => J79 call n x0 S
  | _ => none
theorem gok79 : GOk E 79 g79 := ⟨run79, fun call n args S r h => by
  unfold g79 at h; split at h
  · rename_i v0; obtain ⟨x0, e0, h⟩ := gIk_inv (v := v0) h; subst e0; rw [J79_eq]; exact h
  · cases h⟩
def g80 (call : CallA) (n : Nat) (args : List AV) (S : AS) : Option (AV × AS) := match args with
  | [v0] => gIk .u64 v0 fun x0 => J80 call n x0 S
  | _ => none
theorem gok80 : GOk E 80 g80 := ⟨run80, fun call n args S r h => by
  unfold g80 at h; split at h
  · rename_i v0; obtain ⟨x0, e0, h⟩ := gIk_inv (v := v0) h; subst e0; rw [J80_eq]; exact h
  · cases h⟩
def g81 (call : CallA) (n : Nat) (args : List AV) (S : AS) : Option (AV × AS) := match args with
  | [v0] => gIk .i64 v0 fun x0 => J81 call n x0 S
  | _ => none
theorem gok81 : GOk E 81 g81 := ⟨run81, fun call n args S r h => by
  unfold g81 at h; split at h
  · rename_i v0; obtain ⟨x0, e0, h⟩ := gIk_inv (v := v0) h; subst e0; rw [J81_eq]; exact h
  · cases h⟩
def g83 (call : CallA) (n : Nat) (args : List AV) (S : AS) : Option (AV × AS) := match args with
  | [v0, v1] => gL v0 fun x0a x0l x0c => gIk .u64 v1 fun x1 => J83 call n x0a x0l x0c x1 S
  | _ => none
theorem gok83 : GOk E 83 g83 := ⟨run83, fun call n args S r h => by
  unfold g83 at h; split at h
  · rename_i v0 v1; obtain ⟨x0a, x0l, x0c, e0, h⟩ := gL_inv (v := v0) h; subst e0; obtain ⟨x1, e1, h⟩ := gIk_inv (v := v1) h; subst e1; rw [J83_eq]; exact h
  · cases h⟩
def g86 (call : CallA) (n : Nat) (args : List AV) (S : AS) : Option (AV × AS) := match args with
  | [v0] => gS v0 fun x0 => J86 call n x0 S
  | _ => none
theorem gok86 : GOk E 86 g86 := ⟨run86, fun call n args S r h => by
  unfold g86 at h; split at h
  · rename_i v0; obtain ⟨x0, e0, h⟩ := gS_inv (v := v0) h; subst e0; rw [J86_eq]; exact h
  · cases h⟩
def g87 (call : CallA) (n : Nat) (args : List AV) (S : AS) : Option (AV × AS) := match args with
  | [v0] => gIk .i64 v0 fun x0 => J87 call n x0 S
  | _ => none
theorem gok87 : GOk E 87 g87 := ⟨run87, fun call n args S r h => by
  unfold g87 at h; split at h
  · rename_i v0; obtain ⟨x0, e0, h⟩ := gIk_inv (v := v0) h; subst e0; rw [J87_eq]; exact h
  · cases h⟩
def g88 (call : CallA) (n : Nat) (args : List AV) (S : AS) : Option (AV × AS) := match args with
  | [v0, v1, v2, v3] => gL v0 fun x0a x0l x0c => gIk .i64 v1 fun x1 => gIk .i64 v2 fun x2 => gIk .i64 v3 fun x3 => J88 call n x0a x0l x0c x1 x2 x3 S
  | _ => none
theorem gok88 : GOk E 88 g88 := ⟨run88, fun call n args S r h => by
  unfold g88 at h; split at h
  · rename_i v0 v1 v2 v3; obtain ⟨x0a, x0l, x0c, e0, h⟩ := gL_inv (v := v0) h; subst e0; obtain ⟨x1, e1, h⟩ := gIk_inv (v := v1) h; subst e1; obtain ⟨x2, e2, h⟩ := gIk_inv (v := v2) h; subst e2; obtain ⟨x3, e3, h⟩ := gIk_inv (v := v3) h; subst e3; rw [J88_eq]; exact h
  · cases h⟩
def g89 (call : CallA) (n : Nat) (args : List AV) (S : AS) : Option (AV × AS) := match args with
  | [v0] => gIk .i64 v0 fun x0 => J89 call n x0 S
  | _ => none
theorem gok89 : GOk E 89 g89 := ⟨run89, fun call n args S r h => by
  unfold g89 at h; split at h
  · rename_i v0; obtain ⟨x0, e0, h⟩ := gIk_inv (v := v0) h; subst e0; rw [J89_eq]; exact h
  · cases h⟩
def g90 (call : CallA) (n : Nat) (args : List AV) (S : AS) : Option (AV × AS) := match args with
  | [v0] => gP v0 fun x0 => J90 call n x0 S
  | _ => none
theorem gok90 : GOk E 90 g90 := ⟨run90, fun call n args S r h => by
  unfold g90 at h; split at h
  · rename_i v0; obtain ⟨x0, e0, h⟩ := gP_inv (v := v0) h; subst e0; rw [J90_eq]; exact h
  · cases h⟩
def g91 (call : CallA) (n : Nat) (args : List AV) (S : AS) : Option (AV × AS) := match args with
  | [v0, v1, v2] => gL v0 fun x0a x0l x0c => gIk .i64 v1 fun x1 => gP v2 fun x2 => J91 call n x0a x0l x0c x1 x2 S
  | _ => none
theorem gok91 : GOk E 91 g91 := ⟨run91, fun call n args S r h => by
  unfold g91 at h; split at h
  · rename_i v0 v1 v2; obtain ⟨x0a, x0l, x0c, e0, h⟩ := gL_inv (v := v0) h; subst e0; obtain ⟨x1, e1, h⟩ := gIk_inv (v := v1) h; subst e1; obtain ⟨x2, e2, h⟩ := gP_inv (v := v2) h; subst e2; rw [J91_eq]; exact h
  · cases h⟩
def g92 (call : CallA) (n : Nat) (args : List AV) (S : AS) : Option (AV × AS) := match args with
  | [v0, v1, v2, v3, v4] => gL v0 fun x0a x0l x0c => gIk .i64 v1 fun x1 => gIk .i64 v2 fun x2 => gIk .i64 v3 fun x3 => gP v4 fun x4 => J92 call n x0a x0l x0c x1 x2 x3 x4 S
  | _ => none
theorem gok92 : GOk E 92 g92 := ⟨run92, fun call n args S r h => by
  unfold g92 at h; split at h
  · rename_i v0 v1 v2 v3 v4; obtain ⟨x0a, x0l, x0c, e0, h⟩ := gL_inv (v := v0) h; subst e0; obtain ⟨x1, e1, h⟩ := gIk_inv (v := v1) h; subst e1; obtain ⟨x2, e2, h⟩ := gIk_inv (v := v2) h; subst e2; obtain ⟨x3, e3, h⟩ := gIk_inv (v := v3) h; subst e3; obtain ⟨x4, e4, h⟩ := gP_inv (v := v4) h; subst e4; rw [J92_eq]; exact h
  · cases h⟩
def g93 (call : CallA) (n : Nat) (args : List AV) (S : AS) : Option (AV × AS) := match args with
  | [v0] => gS v0 fun x0 => J93 call n x0 S
  | _ => none
theorem gok93 : GOk E 93 g93 := ⟨run93, fun call n args S r h => by
  unfold g93 at h; split at h
  · rename_i v0; obtain ⟨x0, e0, h⟩ := gS_inv (v := v0) h; subst e0; rw [J93_eq]; exact h
  · cases h⟩
def g94 (call : CallA) (n : Nat) (args : List AV) (S : AS) : Option (AV × AS) := match args with
  | [v0] => gIk .i64 v0 fun x0 => J94 call n x0 S
  | _ => none
theorem gok94 : GOk E 94 g94 := ⟨run94, fun call n args S r h => by
  unfold g94 at h; split at h
  · rename_i v0; obtain ⟨x0, e0, h⟩ := gIk_inv (v := v0) h; subst e0; rw [J94_eq]; exact h
  · cases h⟩
def g95 (call : CallA) (n : Nat) (args : List AV) (S : AS) : Option (AV × AS) := match args with
  | [v0] => gB v0 fun x0 => J95 call n x0 S
  | _ => none
theorem gok95 : GOk E 95 g95 := ⟨run95, fun call n args S r h => by
  unfold g95 at h; split at h
  · rename_i v0; obtain ⟨x0, e0, h⟩ := gB_inv (v := v0) h; subst e0; rw [J95_eq]; exact h
  · cases h⟩
def g96 (call : CallA) (n : Nat) (args : List AV) (S : AS) : Option (AV × AS) := match args with
  | [v0] => gIk .i64 v0 fun x0 => J96 call n x0 S
  | _ => none
theorem gok96 : GOk E 96 g96 := ⟨run96, fun call n args S r h => by
  unfold g96 at h; split at h
  · rename_i v0; obtain ⟨x0, e0, h⟩ := gIk_inv (v := v0) h; subst e0; rw [J96_eq]; exact h
  · cases h⟩
def g97 (call : CallA) (n : Nat) (args : List AV) (S : AS) : Option (AV × AS) := match args with
  | [v0] => gIk .u64 v0 fun x0 => J97 call n x0 S
  | _ => none
theorem gok97 : GOk E 97 g97 := ⟨run97, fun call n args S r h => by
  unfold g97 at h; split at h
  · rename_i v0; obtain ⟨x0, e0, h⟩ := gIk_inv (v := v0) h; subst e0; rw [J97_eq]; exact h
  · cases h⟩
def g98 (call : CallA) (n : Nat) (args : List AV) (S : AS) : Option (AV × AS) := match args with
  | [v0] => gIk .i64 v0 fun x0 => J98 call n x0 S
  | _ => none
theorem gok98 : GOk E 98 g98 := ⟨run98, fun call n args S r h => by
  unfold g98 at h; split at h
  · rename_i v0; obtain ⟨x0, e0, h⟩ := gIk_inv (v := v0) h; subst e0; rw [J98_eq]; exact h
  · cases h⟩
def g99 (call : CallA) (n : Nat) (args : List AV) (S : AS) : Option (AV × AS) := match args with
  | [v0, v1, v2, v3] => gL v0 fun x0a x0l x0c => gIk .i64 v1 fun x1 => gIk .i64 v2 fun x2 => gP v3 fun x3 => J99 call n x0a x0l x0c x1 x2 x3 S
  | _ => none
theorem gok99 : GOk E 99 g99 := ⟨run99, fun call n args S r h => by
  unfold g99 at h; split at h
  · rename_i v0 v1 v2 v3; obtain ⟨x0a, x0l, x0c, e0, h⟩ := gL_inv (v := v0) h; subst e0; obtain ⟨x1, e1, h⟩ := gIk_inv (v := v1) h; subst e1; obtain ⟨x2, e2, h⟩ := gIk_inv (v := v2) h; subst e2; obtain ⟨x3, e3, h⟩ := gP_inv (v := v3) h; subst e3; rw [J99_eq]; exact h
  · cases h⟩
def g102 (call : CallA) (n : Nat) (args : List AV) (S : AS) : Option (AV × AS) := match args with
  | [v0, v1] => gIk .i64 v0 fun x0 => gIk .i64 v1 fun x1 => J102 call n x0 x1 S
  | _ => none
theorem gok102 : GOk E 102 g102 := ⟨run102, fun call n args S r h => by
  unfold g102 at h; split at h
  · rename_i v0 v1; obtain ⟨x0, e0, h⟩ := gIk_inv (v := v0) h; subst e0; obtain ⟨x1, e1, h⟩ := gIk_inv (v := v1) h; subst e1; rw [J102_eq]; exact h
  · cases h⟩
def gT : BT (CallA → Nat → List AV → AS → Option (AV × AS)) := .node 48 g48 (.node 25 g25 (.node 14 g14 (.node 8 g8 (.node 5 g5 (.node 4 g4 (.node 3 g3 .nil .nil) .nil) (.node 7 g7 (.node 6 g6 .nil .nil) .nil)) (.node 11 g11 (.node 10 g10 (.node 9 g9 .nil .nil) .nil) (.node 13 g13 (.node 12 g12 .nil .nil) .nil))) (.node 20 g20 (.node 17 g17 (.node 16 g16 (.node 15 g15 .nil .nil) .nil) (.node 19 g19 (.node 18 g18 .nil .nil) .nil)) (.node 23 g23 (.node 22 g22 (.node 21 g21 .nil .nil) .nil) (.node 24 g24 .nil .nil)))) (.node 37 g37 (.node 31 g31 (.node 28 g28 (.node 27 g27 (.node 26 g26 .nil .nil) .nil) (.node 30 g30 (.node 29 g29 .nil .nil) .nil)) (.node 34 g34 (.node 33 g33 (.node 32 g32 .nil .nil) .nil) (.node 36 g36 (.node 35 g35 .nil .nil) .nil))) (.node 43 g43 (.node 40 g40 (.node 39 g39 (.node 38 g38 .nil .nil) .nil) (.node 42 g42 (.node 41 g41 .nil .nil) .nil)) (.node 46 g46 (.node 45 g45 (.node 44 g44 .nil .nil) .nil) (.node 47 g47 .nil .nil))))) (.node 75 g75 (.node 62 g62 (.node 54 g54 (.node 51 g51 (.node 50 g50 (.node 49 g49 .nil .nil) .nil) (.node 53 g53 (.node 52 g52 .nil .nil) .nil)) (.node 59 g59 (.node 58 g58 (.node 55 g55 .nil .nil) .nil) (.node 61 g61 (.node 60 g60 .nil .nil) .nil))) (.node 70 g70 (.node 65 g65 (.node 64 g64 (.node 63 g63 .nil .nil) .nil) (.node 69 g69 (.node 68 g68 .nil .nil) .nil)) (.node 73 g73 (.node 72 g72 (.node 71 g71 .nil .nil) .nil) (.node 74 g74 .nil .nil)))) (.node 90 g90 (.node 81 g81 (.node 78 g78 (.node 77 g77 (.node 76 g76 .nil .nil) .nil) (.node 80 g80 (.node 79 g79 .nil .nil) .nil)) (.node 87 g87 (.node 86 g86 (.node 83 g83 .nil .nil) .nil) (.node 89 g89 (.node 88 g88 .nil .nil) .nil))) (.node 96 g96 (.node 93 g93 (.node 92 g92 (.node 91 g91 .nil .nil) .nil) (.node 95 g95 (.node 94 g94 .nil .nil) .nil)) (.node 99 g99 (.node 98 g98 (.node 97 g97 .nil .nil) .nil) (.node 102 g102 .nil .nil)))))
theorem gAll : BT.All (fun f g => GOk E f g) gT := ⟨gok48, ⟨gok25, ⟨gok14, ⟨gok8, ⟨gok5, ⟨gok4, ⟨gok3, trivial, trivial⟩, trivial⟩, ⟨gok7, ⟨gok6, trivial, trivial⟩, trivial⟩⟩, ⟨gok11, ⟨gok10, ⟨gok9, trivial, trivial⟩, trivial⟩, ⟨gok13, ⟨gok12, trivial, trivial⟩, trivial⟩⟩⟩, ⟨gok20, ⟨gok17, ⟨gok16, ⟨gok15, trivial, trivial⟩, trivial⟩, ⟨gok19, ⟨gok18, trivial, trivial⟩, trivial⟩⟩, ⟨gok23, ⟨gok22, ⟨gok21, trivial, trivial⟩, trivial⟩, ⟨gok24, trivial, trivial⟩⟩⟩⟩, ⟨gok37, ⟨gok31, ⟨gok28, ⟨gok27, ⟨gok26, trivial, trivial⟩, trivial⟩, ⟨gok30, ⟨gok29, trivial, trivial⟩, trivial⟩⟩, ⟨gok34, ⟨gok33, ⟨gok32, trivial, trivial⟩, trivial⟩, ⟨gok36, ⟨gok35, trivial, trivial⟩, trivial⟩⟩⟩, ⟨gok43, ⟨gok40, ⟨gok39, ⟨gok38, trivial, trivial⟩, trivial⟩, ⟨gok42, ⟨gok41, trivial, trivial⟩, trivial⟩⟩, ⟨gok46, ⟨gok45, ⟨gok44, trivial, trivial⟩, trivial⟩, ⟨gok47, trivial, trivial⟩⟩⟩⟩⟩, ⟨gok75, ⟨gok62, ⟨gok54, ⟨gok51, ⟨gok50, ⟨gok49, trivial, trivial⟩, trivial⟩, ⟨gok53, ⟨gok52, trivial, trivial⟩, trivial⟩⟩, ⟨gok59, ⟨gok58, ⟨gok55, trivial, trivial⟩, trivial⟩, ⟨gok61, ⟨gok60, trivial, trivial⟩, trivial⟩⟩⟩, ⟨gok70, ⟨gok65, ⟨gok64, ⟨gok63, trivial, trivial⟩, trivial⟩, ⟨gok69, ⟨gok68, trivial, trivial⟩, trivial⟩⟩, ⟨gok73, ⟨gok72, ⟨gok71, trivial, trivial⟩, trivial⟩, ⟨gok74, trivial, trivial⟩⟩⟩⟩, ⟨gok90, ⟨gok81, ⟨gok78, ⟨gok77, ⟨gok76, trivial, trivial⟩, trivial⟩, ⟨gok80, ⟨gok79, trivial, trivial⟩, trivial⟩⟩, ⟨gok87, ⟨gok86, ⟨gok83, trivial, trivial⟩, trivial⟩, ⟨gok89, ⟨gok88, trivial, trivial⟩, trivial⟩⟩⟩, ⟨gok96, ⟨gok93, ⟨gok92, ⟨gok91, trivial, trivial⟩, trivial⟩, ⟨gok95, ⟨gok94, trivial, trivial⟩, trivial⟩⟩, ⟨gok99, ⟨gok98, ⟨gok97, trivial, trivial⟩, trivial⟩, ⟨gok102, trivial, trivial⟩⟩⟩⟩⟩⟩
theorem fast {n : Nat} {f : Nat} {args : List AV} {S : AS} {r : AV × AS} {o : Orc} (h : rF E o gT n (.fn f) args S = some r) : evF E o n (.fn f) args S = some r := rF_le (fun f g h => gAll.find h) n _ _ _ _ h
end
end Go.Ct
