/- The table of the readings: a quick evaluator, and that what it answers is the evaluator's answer: by program. -/
import Derived.Test.YtefpcbcbjnfhnaaRes0
import Derived.Test.YtefpcbcbjnfhnaaRes1
import Derived.Test.YtefpcbcbjnfhnaaRes2
import Derived.Test.YtefpcbcbjnfhnaaRes3
import Derived.Test.YtefpcbcbjnfhnaaRes4
import Derived.Test.YtefpcbcbjnfhnaaGrFast
set_option maxRecDepth 100000
set_option linter.unusedVariables false
namespace Go.Jn
open Go.Gr
noncomputable section
def g3 (call : CallA) (n : Nat) (args : List AV) (S : AS) : Option (AV × AS) := match args with
  | [v0] => gG v0 fun x0 => J3 call n x0 S
  | _ => none
theorem gok3 : GOk E 3 g3 := ⟨run3, fun call n args S r h => by
  unfold g3 at h; split at h
  · rename_i v0; obtain ⟨x0, e0, h⟩ := gG_inv (v := v0) h; subst e0; rw [J3_eq]; exact h
  · cases h⟩
def g4 (call : CallA) (n : Nat) (args : List AV) (S : AS) : Option (AV × AS) := match args with
  | [v0] => gG v0 fun x0 => J4 call n x0 S
  | _ => none
theorem gok4 : GOk E 4 g4 := ⟨run4, fun call n args S r h => by
  unfold g4 at h; split at h
  · rename_i v0; obtain ⟨x0, e0, h⟩ := gG_inv (v := v0) h; subst e0; rw [J4_eq]; exact h
  · cases h⟩
def g5 (call : CallA) (n : Nat) (args : List AV) (S : AS) : Option (AV × AS) := match args with
  | [] => J5 call n  S
  | _ => none
theorem gok5 : GOk E 5 g5 := ⟨run5, fun call n args S r h => by
  unfold g5 at h; split at h
  · rw [J5_eq]; exact h
  · cases h⟩
def g6 (call : CallA) (n : Nat) (args : List AV) (S : AS) : Option (AV × AS) := match args with
  | [v0] => gG v0 fun x0 => J6 call n x0 S
  | _ => none
theorem gok6 : GOk E 6 g6 := ⟨run6, fun call n args S r h => by
  unfold g6 at h; split at h
  · rename_i v0; obtain ⟨x0, e0, h⟩ := gG_inv (v := v0) h; subst e0; rw [J6_eq]; exact h
  · cases h⟩
def g7 (call : CallA) (n : Nat) (args : List AV) (S : AS) : Option (AV × AS) := match args with
  | [] => J7 call n  S
  | _ => none
theorem gok7 : GOk E 7 g7 := ⟨run7, fun call n args S r h => by
  unfold g7 at h; split at h
  · rw [J7_eq]; exact h
  · cases h⟩
def g8 (call : CallA) (n : Nat) (args : List AV) (S : AS) : Option (AV × AS) := match args with
  | [v0] => gG v0 fun x0 => J8 call n x0 S
  | _ => none
theorem gok8 : GOk E 8 g8 := ⟨run8, fun call n args S r h => by
  unfold g8 at h; split at h
  · rename_i v0; obtain ⟨x0, e0, h⟩ := gG_inv (v := v0) h; subst e0; rw [J8_eq]; exact h
  · cases h⟩
def g9 (call : CallA) (n : Nat) (args : List AV) (S : AS) : Option (AV × AS) := match args with
  | [v0] => gG v0 fun x0 => J9 call n x0 S
  | _ => none
theorem gok9 : GOk E 9 g9 := ⟨run9, fun call n args S r h => by
  unfold g9 at h; split at h
  · rename_i v0; obtain ⟨x0, e0, h⟩ := gG_inv (v := v0) h; subst e0; rw [J9_eq]; exact h
  · cases h⟩
def g10 (call : CallA) (n : Nat) (args : List AV) (S : AS) : Option (AV × AS) := match args with
  | [v0] => gG v0 fun x0 => J10 call n x0 S
  | _ => none
theorem gok10 : GOk E 10 g10 := ⟨run10, fun call n args S r h => by
  unfold g10 at h; split at h
  · rename_i v0; obtain ⟨x0, e0, h⟩ := gG_inv (v := v0) h; subst e0; rw [J10_eq]; exact h
  · cases h⟩
def g11 (call : CallA) (n : Nat) (args : List AV) (S : AS) : Option (AV × AS) := match args with
  | [v0] => gG v0 fun x0 => J11 call n x0 S
  | _ => none
theorem gok11 : GOk E 11 g11 := ⟨run11, fun call n args S r h => by
  unfold g11 at h; split at h
  · rename_i v0; obtain ⟨x0, e0, h⟩ := gG_inv (v := v0) h; subst e0; rw [J11_eq]; exact h
  · cases h⟩
def g12 (call : CallA) (n : Nat) (args : List AV) (S : AS) : Option (AV × AS) := match args with
  | [v0] => gL v0 fun x0a x0l x0c => J12 call n x0a x0l x0c S
  | _ => none
theorem gok12 : GOk E 12 g12 := ⟨run12, fun call n args S r h => by
  unfold g12 at h; split at h
  · rename_i v0; obtain ⟨x0a, x0l, x0c, e0, h⟩ := gL_inv (v := v0) h; subst e0; rw [J12_eq]; exact h
  · cases h⟩
def g13 (call : CallA) (n : Nat) (args : List AV) (S : AS) : Option (AV × AS) := match args with
  | [v0] => gL v0 fun x0a x0l x0c => J13 call n x0a x0l x0c S
  | _ => none
theorem gok13 : GOk E 13 g13 := ⟨run13, fun call n args S r h => by
  unfold g13 at h; split at h
  · rename_i v0; obtain ⟨x0a, x0l, x0c, e0, h⟩ := gL_inv (v := v0) h; subst e0; rw [J13_eq]; exact h
  · cases h⟩
def g14 (call : CallA) (n : Nat) (args : List AV) (S : AS) : Option (AV × AS) := match args with
  | [v0] => gL v0 fun x0a x0l x0c => J14 call n x0a x0l x0c S
  | _ => none
theorem gok14 : GOk E 14 g14 := ⟨run14, fun call n args S r h => by
  unfold g14 at h; split at h
  · rename_i v0; obtain ⟨x0a, x0l, x0c, e0, h⟩ := gL_inv (v := v0) h; subst e0; rw [J14_eq]; exact h
  · cases h⟩
def g15 (call : CallA) (n : Nat) (args : List AV) (S : AS) : Option (AV × AS) := match args with
  | [v0] => gIk .i64 v0 fun x0 => J15 call n x0 S
  | _ => none
theorem gok15 : GOk E 15 g15 := ⟨run15, fun call n args S r h => by
  unfold g15 at h; split at h
  · rename_i v0; obtain ⟨x0, e0, h⟩ := gIk_inv (v := v0) h; subst e0; rw [J15_eq]; exact h
  · cases h⟩
def g16 (call : CallA) (n : Nat) (args : List AV) (S : AS) : Option (AV × AS) := match args with
  | [v0] => gIk .i64 v0 fun x0 => J16 call n x0 S
  | _ => none
theorem gok16 : GOk E 16 g16 := ⟨run16, fun call n args S r h => by
  unfold g16 at h; split at h
  · rename_i v0; obtain ⟨x0, e0, h⟩ := gIk_inv (v := v0) h; subst e0; rw [J16_eq]; exact h
  · cases h⟩
def g17 (call : CallA) (n : Nat) (args : List AV) (S : AS) : Option (AV × AS) := match args with
  | [v0] => gIk .i64 v0 fun x0 => J17 call n x0 S
  | _ => none
theorem gok17 : GOk E 17 g17 := ⟨run17, fun call n args S r h => by
  unfold g17 at h; split at h
  · rename_i v0; obtain ⟨x0, e0, h⟩ := gIk_inv (v := v0) h; subst e0; rw [J17_eq]; exact h
  · cases h⟩
def g18 (call : CallA) (n : Nat) (args : List AV) (S : AS) : Option (AV × AS) := match args with
  | [v0] => gL v0 fun x0a x0l x0c => J18 call n x0a x0l x0c S
  | _ => none
theorem gok18 : GOk E 18 g18 := ⟨run18, fun call n args S r h => by
  unfold g18 at h; split at h
  · rename_i v0; obtain ⟨x0a, x0l, x0c, e0, h⟩ := gL_inv (v := v0) h; subst e0; rw [J18_eq]; exact h
  · cases h⟩
def g19 (call : CallA) (n : Nat) (args : List AV) (S : AS) : Option (AV × AS) := match args with
  | [v0] => gL v0 fun x0a x0l x0c => J19 call n x0a x0l x0c S
  | _ => none
theorem gok19 : GOk E 19 g19 := ⟨run19, fun call n args S r h => by
  unfold g19 at h; split at h
  · rename_i v0; obtain ⟨x0a, x0l, x0c, e0, h⟩ := gL_inv (v := v0) h; subst e0; rw [J19_eq]; exact h
  · cases h⟩
def g20 (call : CallA) (n : Nat) (args : List AV) (S : AS) : Option (AV × AS) := match args with
  | [v0] => gL v0 fun x0a x0l x0c => J20 call n x0a x0l x0c S
  | _ => none
theorem gok20 : GOk E 20 g20 := ⟨run20, fun call n args S r h => by
  unfold g20 at h; split at h
  · rename_i v0; obtain ⟨x0a, x0l, x0c, e0, h⟩ := gL_inv (v := v0) h; subst e0; rw [J20_eq]; exact h
  · cases h⟩
def g21 (call : CallA) (n : Nat) (args : List AV) (S : AS) : Option (AV × AS) := match args with
  | [v0] => gL v0 fun x0a x0l x0c => J21 call n x0a x0l x0c S
  | _ => none
theorem gok21 : GOk E 21 g21 := ⟨run21, fun call n args S r h => by
  unfold g21 at h; split at h
  · rename_i v0; obtain ⟨x0a, x0l, x0c, e0, h⟩ := gL_inv (v := v0) h; subst e0; rw [J21_eq]; exact h
  · cases h⟩
def g22 (call : CallA) (n : Nat) (args : List AV) (S : AS) : Option (AV × AS) := match args with
  | [v0] => gL v0 fun x0a x0l x0c => J22 call n x0a x0l x0c S
  | _ => none
theorem gok22 : GOk E 22 g22 := ⟨run22, fun call n args S r h => by
  unfold g22 at h; split at h
  · rename_i v0; obtain ⟨x0a, x0l, x0c, e0, h⟩ := gL_inv (v := v0) h; subst e0; rw [J22_eq]; exact h
  · cases h⟩
def g23 (call : CallA) (n : Nat) (args : List AV) (S : AS) : Option (AV × AS) := match args with
  | [v0] => gL v0 fun x0a x0l x0c => J23 call n x0a x0l x0c S
  | _ => none
theorem gok23 : GOk E 23 g23 := ⟨run23, fun call n args S r h => by
  unfold g23 at h; split at h
  · rename_i v0; obtain ⟨x0a, x0l, x0c, e0, h⟩ := gL_inv (v := v0) h; subst e0; rw [J23_eq]; exact h
  · cases h⟩
def g24 (call : CallA) (n : Nat) (args : List AV) (S : AS) : Option (AV × AS) := match args with
  | [v0, v1] => gG v0 fun x0 => gG v1 fun x1 => J24 call n x0 x1 S
  | _ => none
theorem gok24 : GOk E 24 g24 := ⟨run24, fun call n args S r h => by
  unfold g24 at h; split at h
  · rename_i v0 v1; obtain ⟨x0, e0, h⟩ := gG_inv (v := v0) h; subst e0; obtain ⟨x1, e1, h⟩ := gG_inv (v := v1) h; subst e1; rw [J24_eq]; exact h
  · cases h⟩
def g25 (call : CallA) (n : Nat) (args : List AV) (S : AS) : Option (AV × AS) := match args with
  | [v0, v1] => gL v0 fun x0a x0l x0c => gL v1 fun x1a x1l x1c => J25 call n x0a x0l x0c x1a x1l x1c S
  | _ => none
theorem gok25 : GOk E 25 g25 := ⟨run25, fun call n args S r h => by
  unfold g25 at h; split at h
  · rename_i v0 v1; obtain ⟨x0a, x0l, x0c, e0, h⟩ := gL_inv (v := v0) h; subst e0; obtain ⟨x1a, x1l, x1c, e1, h⟩ := gL_inv (v := v1) h; subst e1; rw [J25_eq]; exact h
  · cases h⟩
def g26 (call : CallA) (n : Nat) (args : List AV) (S : AS) : Option (AV × AS) := match args with
  | [v0, v1] => gP v0 fun x0 => gL v1 fun x1a x1l x1c => J26 call n x0 x1a x1l x1c S
  | _ => none
theorem gok26 : GOk E 26 g26 := ⟨run26, fun call n args S r h => by
  unfold g26 at h; split at h
  · rename_i v0 v1; obtain ⟨x0, e0, h⟩ := gP_inv (v := v0) h; subst e0; obtain ⟨x1a, x1l, x1c, e1, h⟩ := gL_inv (v := v1) h; subst e1; rw [J26_eq]; exact h
  · cases h⟩
def g27 (call : CallA) (n : Nat) (args : List AV) (S : AS) : Option (AV × AS) := match args with
  | [v0] => gIk .u8 v0 fun x0 => J27 call n x0 S
  | _ => none
theorem gok27 : GOk E 27 g27 := ⟨run27, fun call n args S r h => by
  unfold g27 at h; split at h
  · rename_i v0; obtain ⟨x0, e0, h⟩ := gIk_inv (v := v0) h; subst e0; rw [J27_eq]; exact h
  · cases h⟩
def g28 (call : CallA) (n : Nat) (args : List AV) (S : AS) : Option (AV × AS) := match args with
  | [v0, v1, v2] => gIk .i64 v1 fun x1 => gIk .i64 v2 fun x2 => J28 call n v0 x1 x2 S
  | _ => none
theorem gok28 : GOk E 28 g28 := ⟨run28, fun call n args S r h => by
  unfold g28 at h; split at h
  · rename_i v0 v1 v2; obtain ⟨x1, e1, h⟩ := gIk_inv (v := v1) h; subst e1; obtain ⟨x2, e2, h⟩ := gIk_inv (v := v2) h; subst e2; rw [J28_eq]; exact h
  · cases h⟩
def g29 (call : CallA) (n : Nat) (args : List AV) (S : AS) : Option (AV × AS) := match args with
  | [v0] => gP v0 fun x0 => J29 call n x0 S
  | _ => none
theorem gok29 : GOk E 29 g29 := ⟨run29, fun call n args S r h => by
  unfold g29 at h; split at h
  · rename_i v0; obtain ⟨x0, e0, h⟩ := gP_inv (v := v0) h; subst e0; rw [J29_eq]; exact h
  · cases h⟩
def g30 (call : CallA) (n : Nat) (args : List AV) (S : AS) : Option (AV × AS) := match args with
  | [v0, v1] => gP v0 fun x0 => gIk .u64 v1 fun x1 => J30 call n x0 x1 S
  | _ => none
theorem gok30 : GOk E 30 g30 := ⟨run30, fun call n args S r h => by
  unfold g30 at h; split at h
  · rename_i v0 v1; obtain ⟨x0, e0, h⟩ := gP_inv (v := v0) h; subst e0; obtain ⟨x1, e1, h⟩ := gIk_inv (v := v1) h; subst e1; rw [J30_eq]; exact h
  · cases h⟩
def g31 (call : CallA) (n : Nat) (args : List AV) (S : AS) : Option (AV × AS) := match args with
  | [v0] => gP v0 fun x0 => J31 call n x0 S
  | _ => none
theorem gok31 : GOk E 31 g31 := ⟨run31, fun call n args S r h => by
  unfold g31 at h; split at h
  · rename_i v0; obtain ⟨x0, e0, h⟩ := gP_inv (v := v0) h; subst e0; rw [J31_eq]; exact h
  · cases h⟩
def g32 (call : CallA) (n : Nat) (args : List AV) (S : AS) : Option (AV × AS) := match args with
  | [v0] => gP v0 fun x0 => J32 call n x0 S
  | _ => none
theorem gok32 : GOk E 32 g32 := ⟨run32, fun call n args S r h => by
  unfold g32 at h; split at h
  · rename_i v0; obtain ⟨x0, e0, h⟩ := gP_inv (v := v0) h; subst e0; rw [J32_eq]; exact h
  · cases h⟩
def g33 (call : CallA) (n : Nat) (args : List AV) (S : AS) : Option (AV × AS) := match args with
  | [v0] => gP v0 fun x0 => J33 call n x0 S
  | _ => none
theorem gok33 : GOk E 33 g33 := ⟨run33, fun call n args S r h => by
  unfold g33 at h; split at h
  · rename_i v0; obtain ⟨x0, e0, h⟩ := gP_inv (v := v0) h; subst e0; rw [J33_eq]; exact h
  · cases h⟩
def g34 (call : CallA) (n : Nat) (args : List AV) (S : AS) : Option (AV × AS) := match args with
  | [v0] => gP v0 fun x0 => J34 call n x0 S
  | _ => none
theorem gok34 : GOk E 34 g34 := ⟨run34, fun call n args S r h => by
  unfold g34 at h; split at h
  · rename_i v0; obtain ⟨x0, e0, h⟩ := gP_inv (v := v0) h; subst e0; rw [J34_eq]; exact h
  · cases h⟩
def g35 (call : CallA) (n : Nat) (args : List AV) (S : AS) : Option (AV × AS) := match args with
  | [v0] => gP v0 fun x0 => J35 call n x0 S
  | _ => none
theorem gok35 : GOk E 35 g35 := ⟨run35, fun call n args S r h => by
  unfold g35 at h; split at h
  · rename_i v0; obtain ⟨x0, e0, h⟩ := gP_inv (v := v0) h; subst e0; rw [J35_eq]; exact h
  · cases h⟩
def g36 (call : CallA) (n : Nat) (args : List AV) (S : AS) : Option (AV × AS) := match args with
  | [v0, v1, v2] => gIk .i64 v1 fun x1 => gIk .i64 v2 fun x2 => J36 call n v0 x1 x2 S
  | _ => none
theorem gok36 : GOk E 36 g36 := ⟨run36, fun call n args S r h => by
  unfold g36 at h; split at h
  · rename_i v0 v1 v2; obtain ⟨x1, e1, h⟩ := gIk_inv (v := v1) h; subst e1; obtain ⟨x2, e2, h⟩ := gIk_inv (v := v2) h; subst e2; rw [J36_eq]; exact h
  · cases h⟩
def g37 (call : CallA) (n : Nat) (args : List AV) (S : AS) : Option (AV × AS) := match args with
  | [v0] => gIk .i64 v0 fun x0 => J37 call n x0 S
  | _ => none
theorem gok37 : GOk E 37 g37 := ⟨run37, fun call n args S r h => by
  unfold g37 at h; split at h
  · rename_i v0; obtain ⟨x0, e0, h⟩ := gIk_inv (v := v0) h; subst e0; rw [J37_eq]; exact h
  · cases h⟩
def g38 (call : CallA) (n : Nat) (args : List AV) (S : AS) : Option (AV × AS) := match args with
  | [v0, v1] => gP v0 fun x0 => gL v1 fun x1a x1l x1c => J38 call n x0 x1a x1l x1c S
  | _ => none
theorem gok38 : GOk E 38 g38 := ⟨run38, fun call n args S r h => by
  unfold g38 at h; split at h
  · rename_i v0 v1; obtain ⟨x0, e0, h⟩ := gP_inv (v := v0) h; subst e0; obtain ⟨x1a, x1l, x1c, e1, h⟩ := gL_inv (v := v1) h; subst e1; rw [J38_eq]; exact h
  · cases h⟩
def g39 (call : CallA) (n : Nat) (args : List AV) (S : AS) : Option (AV × AS) := match args with
  | [v0] => gL v0 fun x0a x0l x0c => J39 call n x0a x0l x0c S
  | _ => none
theorem gok39 : GOk E 39 g39 := ⟨run39, fun call n args S r h => by
  unfold g39 at h; split at h
  · rename_i v0; obtain ⟨x0a, x0l, x0c, e0, h⟩ := gL_inv (v := v0) h; subst e0; rw [J39_eq]; exact h
  · cases h⟩
def g40 (call : CallA) (n : Nat) (args : List AV) (S : AS) : Option (AV × AS) := match args with
  | [v0, v1, v2] => gL v0 fun x0a x0l x0c => gIk .u64 v1 fun x1 => gIk .i64 v2 fun x2 => J40 call n x0a x0l x0c x1 x2 S
  | _ => none
theorem gok40 : GOk E 40 g40 := ⟨run40, fun call n args S r h => by
  unfold g40 at h; split at h
  · rename_i v0 v1 v2; obtain ⟨x0a, x0l, x0c, e0, h⟩ := gL_inv (v := v0) h; subst e0; obtain ⟨x1, e1, h⟩ := gIk_inv (v := v1) h; subst e1; obtain ⟨x2, e2, h⟩ := gIk_inv (v := v2) h; subst e2; rw [J40_eq]; exact h
  · cases h⟩
def g41 (call : CallA) (n : Nat) (args : List AV) (S : AS) : Option (AV × AS) := match args with
  | [v0] => gL v0 fun x0a x0l x0c => J41 call n x0a x0l x0c S
  | _ => none
theorem gok41 : GOk E 41 g41 := ⟨run41, fun call n args S r h => by
  unfold g41 at h; split at h
  · rename_i v0; obtain ⟨x0a, x0l, x0c, e0, h⟩ := gL_inv (v := v0) h; subst e0; rw [J41_eq]; exact h
  · cases h⟩
def g42 (call : CallA) (n : Nat) (args : List AV) (S : AS) : Option (AV × AS) := match args with
  | [v0, v1, v2] => gL v0 fun x0a x0l x0c => gIk .u64 v1 fun x1 => gIk .i64 v2 fun x2 => J42 call n x0a x0l x0c x1 x2 S
  | _ => none
theorem gok42 : GOk E 42 g42 := ⟨run42, fun call n args S r h => by
  unfold g42 at h; split at h
  · rename_i v0 v1 v2; obtain ⟨x0a, x0l, x0c, e0, h⟩ := gL_inv (v := v0) h; subst e0; obtain ⟨x1, e1, h⟩ := gIk_inv (v := v1) h; subst e1; obtain ⟨x2, e2, h⟩ := gIk_inv (v := v2) h; subst e2; rw [J42_eq]; exact h
  · cases h⟩
def g43 (call : CallA) (n : Nat) (args : List AV) (S : AS) : Option (AV × AS) := match args with
  | [v0] => gL v0 fun x0a x0l x0c => J43 call n x0a x0l x0c S
  | _ => none
theorem gok43 : GOk E 43 g43 := ⟨run43, fun call n args S r h => by
  unfold g43 at h; split at h
  · rename_i v0; obtain ⟨x0a, x0l, x0c, e0, h⟩ := gL_inv (v := v0) h; subst e0; rw [J43_eq]; exact h
  · cases h⟩
def g44 (call : CallA) (n : Nat) (args : List AV) (S : AS) : Option (AV × AS) := match args with
  | [v0] => gL v0 fun x0a x0l x0c => J44 call n x0a x0l x0c S
  | _ => none
theorem gok44 : GOk E 44 g44 := ⟨run44, fun call n args S r h => by
  unfold g44 at h; split at h
  · rename_i v0; obtain ⟨x0a, x0l, x0c, e0, h⟩ := gL_inv (v := v0) h; subst e0; rw [J44_eq]; exact h
  · cases h⟩
def g45 (call : CallA) (n : Nat) (args : List AV) (S : AS) : Option (AV × AS) := match args with
  | [v0] => gL v0 fun x0a x0l x0c => J45 call n x0a x0l x0c S
  | _ => none
theorem gok45 : GOk E 45 g45 := ⟨run45, fun call n args S r h => by
  unfold g45 at h; split at h
  · rename_i v0; obtain ⟨x0a, x0l, x0c, e0, h⟩ := gL_inv (v := v0) h; subst e0; rw [J45_eq]; exact h
  · cases h⟩
def g46 (call : CallA) (n : Nat) (args : List AV) (S : AS) : Option (AV × AS) := match args with
  | [v0, v1] => gL v0 fun x0a x0l x0c => gL v1 fun x1a x1l x1c => J46 call n x0a x0l x0c x1a x1l x1c S
  | _ => none
theorem gok46 : GOk E 46 g46 := ⟨run46, fun call n args S r h => by
  unfold g46 at h; split at h
  · rename_i v0 v1; obtain ⟨x0a, x0l, x0c, e0, h⟩ := gL_inv (v := v0) h; subst e0; obtain ⟨x1a, x1l, x1c, e1, h⟩ := gL_inv (v := v1) h; subst e1; rw [J46_eq]; exact h
  · cases h⟩
def g47 (call : CallA) (n : Nat) (args : List AV) (S : AS) : Option (AV × AS) := match args with
  | [v0, v1, v2] => gL v0 fun x0a x0l x0c => gIk .i64 v1 fun x1 => gIk .i64 v2 fun x2 => J47 call n x0a x0l x0c x1 x2 S
  | _ => none
theorem gok47 : GOk E 47 g47 := ⟨run47, fun call n args S r h => by
  unfold g47 at h; split at h
  · rename_i v0 v1 v2; obtain ⟨x0a, x0l, x0c, e0, h⟩ := gL_inv (v := v0) h; subst e0; obtain ⟨x1, e1, h⟩ := gIk_inv (v := v1) h; subst e1; obtain ⟨x2, e2, h⟩ := gIk_inv (v := v2) h; subst e2; rw [J47_eq]; exact h
  · cases h⟩
def g48 (call : CallA) (n : Nat) (args : List AV) (S : AS) : Option (AV × AS) := match args with
  | [v0] => gP v0 fun x0 => J48 call n x0 S
  | _ => none
theorem gok48 : GOk E 48 g48 := ⟨run48, fun call n args S r h => by
  unfold g48 at h; split at h
  · rename_i v0; obtain ⟨x0, e0, h⟩ := gP_inv (v := v0) h; subst e0; rw [J48_eq]; exact h
  · cases h⟩
def g49 (call : CallA) (n : Nat) (args : List AV) (S : AS) : Option (AV × AS) := match args with
  | [v0, v1] => gP v0 fun x0 => gIk .u64 v1 fun x1 => J49 call n x0 x1 S
  | _ => none
theorem gok49 : GOk E 49 g49 := ⟨run49, fun call n args S r h => by
  unfold g49 at h; split at h
  · rename_i v0 v1; obtain ⟨x0, e0, h⟩ := gP_inv (v := v0) h; subst e0; obtain ⟨x1, e1, h⟩ := gIk_inv (v := v1) h; subst e1; rw [J49_eq]; exact h
  · cases h⟩
def g50 (call : CallA) (n : Nat) (args : List AV) (S : AS) : Option (AV × AS) := match args with
  | [v0, v1, v2] => gIk .i64 v1 fun x1 => gIk .i64 v2 fun x2 => J50 call n v0 x1 x2 S
  | _ => none
theorem gok50 : GOk E 50 g50 := ⟨run50, fun call n args S r h => by
  unfold g50 at h; split at h
  · rename_i v0 v1 v2; obtain ⟨x1, e1, h⟩ := gIk_inv (v := v1) h; subst e1; obtain ⟨x2, e2, h⟩ := gIk_inv (v := v2) h; subst e2; rw [J50_eq]; exact h
  · cases h⟩
def g51 (call : CallA) (n : Nat) (args : List AV) (S : AS) : Option (AV × AS) := match args with
  | [v0] => gP v0 fun x0 => J51 call n x0 S
  | _ => none
theorem gok51 : GOk E 51 g51 := ⟨run51, fun call n args S r h => by
  unfold g51 at h; split at h
  · rename_i v0; obtain ⟨x0, e0, h⟩ := gP_inv (v := v0) h; subst e0; rw [J51_eq]; exact h
  · cases h⟩
def g52 (call : CallA) (n : Nat) (args : List AV) (S : AS) : Option (AV × AS) := match args with
  | [v0, v1, v2, v3, v4] => gP v0 fun x0 => gIk .u64 v1 fun x1 => gIk .u64 v2 fun x2 => gG v3 fun x3 => gIk .i64 v4 fun x4 => J52 call n x0 x1 x2 x3 x4 S
  | _ => none
theorem gok52 : GOk E 52 g52 := ⟨run52, fun call n args S r h => by
  unfold g52 at h; split at h
  · rename_i v0 v1 v2 v3 v4; obtain ⟨x0, e0, h⟩ := gP_inv (v := v0) h; subst e0; obtain ⟨x1, e1, h⟩ := gIk_inv (v := v1) h; subst e1; obtain ⟨x2, e2, h⟩ := gIk_inv (v := v2) h; subst e2; obtain ⟨x3, e3, h⟩ := gG_inv (v := v3) h; subst e3; obtain ⟨x4, e4, h⟩ := gIk_inv (v := v4) h; subst e4; rw [J52_eq]; exact h
  · cases h⟩
def g53 (call : CallA) (n : Nat) (args : List AV) (S : AS) : Option (AV × AS) := match args with
  | [v0, v1] => gP v0 fun x0 => gG v1 fun x1 => J53 call n x0 x1 S
  | _ => none
theorem gok53 : GOk E 53 g53 := ⟨run53, fun call n args S r h => by
  unfold g53 at h; split at h
  · rename_i v0 v1; obtain ⟨x0, e0, h⟩ := gP_inv (v := v0) h; subst e0; obtain ⟨x1, e1, h⟩ := gG_inv (v := v1) h; subst e1; rw [J53_eq]; exact h
  · cases h⟩
def g54 (call : CallA) (n : Nat) (args : List AV) (S : AS) : Option (AV × AS) := match args with
  | [v0] => gL v0 fun x0a x0l x0c => J54 call n x0a x0l x0c S
  | _ => none
theorem gok54 : GOk E 54 g54 := ⟨run54, fun call n args S r h => by
  unfold g54 at h; split at h
  · rename_i v0; obtain ⟨x0a, x0l, x0c, e0, h⟩ := gL_inv (v := v0) h; subst e0; rw [J54_eq]; exact h
  · cases h⟩
def g55 (call : CallA) (n : Nat) (args : List AV) (S : AS) : Option (AV × AS) := match args with
  | [v0, v1] => gL v0 fun x0a x0l x0c => gIk .u64 v1 fun x1 => J55 call n x0a x0l x0c x1 S
  | _ => none
theorem gok55 : GOk E 55 g55 := ⟨run55, fun call n args S r h => by
  unfold g55 at h; split at h
  · rename_i v0 v1; obtain ⟨x0a, x0l, x0c, e0, h⟩ := gL_inv (v := v0) h; subst e0; obtain ⟨x1, e1, h⟩ := gIk_inv (v := v1) h; subst e1; rw [J55_eq]; exact h
  · cases h⟩
def g56 (call : CallA) (n : Nat) (args : List AV) (S : AS) : Option (AV × AS) := match args with
  | [v0, v1] => gG v0 fun x0 => gG v1 fun x1 => J56 call n x0 x1 S
  | _ => none
theorem gok56 : GOk E 56 g56 := ⟨run56, fun call n args S r h => by
  unfold g56 at h; split at h
  · rename_i v0 v1; obtain ⟨x0, e0, h⟩ := gG_inv (v := v0) h; subst e0; obtain ⟨x1, e1, h⟩ := gG_inv (v := v1) h; subst e1; rw [J56_eq]; exact h
  · cases h⟩
def g74 (call : CallA) (n : Nat) (args : List AV) (S : AS) : Option (AV × AS) := match args with
  | [v0] => gP v0 fun x0 => J74 call n x0 S
  | _ => none
theorem gok74 : GOk E 74 g74 := ⟨run74, fun call n args S r h => by
  unfold g74 at h; split at h
  · rename_i v0; obtain ⟨x0, e0, h⟩ := gP_inv (v := v0) h; subst e0; rw [J74_eq]; exact h
  · cases h⟩
def g75 (call : CallA) (n : Nat) (args : List AV) (S : AS) : Option (AV × AS) := match args with
  | [v0] => gP v0 fun x0 => J75 call n x0 S
  | _ => none
theorem gok75 : GOk E 75 g75 := ⟨run75, fun call n args S r h => by
  unfold g75 at h; split at h
  · rename_i v0; obtain ⟨x0, e0, h⟩ := gP_inv (v := v0) h; subst e0; rw [J75_eq]; exact h
  · cases h⟩
def g76 (call : CallA) (n : Nat) (args : List AV) (S : AS) : Option (AV × AS) := match args with
  | [v0, v1] => gP v0 fun x0 => gIk .i64 v1 fun x1 => J76 call n x0 x1 S
  | _ => none
theorem gok76 : GOk E 76 g76 := ⟨run76, fun call n args S r h => by
  unfold g76 at h; split at h
  · rename_i v0 v1; obtain ⟨x0, e0, h⟩ := gP_inv (v := v0) h; subst e0; obtain ⟨x1, e1, h⟩ := gIk_inv (v := v1) h; subst e1; rw [J76_eq]; exact h
  · cases h⟩
def g77 (call : CallA) (n : Nat) (args : List AV) (S : AS) : Option (AV × AS) := match args with
  | [v0, v1, v2] => gP v0 fun x0 => gIk .i64 v1 fun x1 => gL v2 fun x2a x2l x2c => J77 call n x0 x1 x2a x2l x2c S
  | _ => none
theorem gok77 : GOk E 77 g77 := ⟨run77, fun call n args S r h => by
  unfold g77 at h; split at h
  · rename_i v0 v1 v2; obtain ⟨x0, e0, h⟩ := gP_inv (v := v0) h; subst e0; obtain ⟨x1, e1, h⟩ := gIk_inv (v := v1) h; subst e1; obtain ⟨x2a, x2l, x2c, e2, h⟩ := gL_inv (v := v2) h; subst e2; rw [J77_eq]; exact h
  · cases h⟩
def gT : BT (CallA → Nat → List AV → AS → Option (AV × AS)) := .node 32 g32 (.node 17 g17 (.node 10 g10 (.node 6 g6 (.node 4 g4 (.node 3 g3 .nil .nil) (.node 5 g5 .nil .nil)) (.node 8 g8 (.node 7 g7 .nil .nil) (.node 9 g9 .nil .nil))) (.node 14 g14 (.node 12 g12 (.node 11 g11 .nil .nil) (.node 13 g13 .nil .nil)) (.node 16 g16 (.node 15 g15 .nil .nil) .nil))) (.node 25 g25 (.node 21 g21 (.node 19 g19 (.node 18 g18 .nil .nil) (.node 20 g20 .nil .nil)) (.node 23 g23 (.node 22 g22 .nil .nil) (.node 24 g24 .nil .nil))) (.node 29 g29 (.node 27 g27 (.node 26 g26 .nil .nil) (.node 28 g28 .nil .nil)) (.node 31 g31 (.node 30 g30 .nil .nil) .nil)))) (.node 47 g47 (.node 40 g40 (.node 36 g36 (.node 34 g34 (.node 33 g33 .nil .nil) (.node 35 g35 .nil .nil)) (.node 38 g38 (.node 37 g37 .nil .nil) (.node 39 g39 .nil .nil))) (.node 44 g44 (.node 42 g42 (.node 41 g41 .nil .nil) (.node 43 g43 .nil .nil)) (.node 46 g46 (.node 45 g45 .nil .nil) .nil))) (.node 54 g54 (.node 51 g51 (.node 49 g49 (.node 48 g48 .nil .nil) (.node 50 g50 .nil .nil)) (.node 53 g53 (.node 52 g52 .nil .nil) .nil)) (.node 75 g75 (.node 56 g56 (.node 55 g55 .nil .nil) (.node 74 g74 .nil .nil)) (.node 77 g77 (.node 76 g76 .nil .nil) .nil))))
theorem gAll : BT.All (fun f g => GOk E f g) gT := ⟨gok32, ⟨gok17, ⟨gok10, ⟨gok6, ⟨gok4, ⟨gok3, trivial, trivial⟩, ⟨gok5, trivial, trivial⟩⟩, ⟨gok8, ⟨gok7, trivial, trivial⟩, ⟨gok9, trivial, trivial⟩⟩⟩, ⟨gok14, ⟨gok12, ⟨gok11, trivial, trivial⟩, ⟨gok13, trivial, trivial⟩⟩, ⟨gok16, ⟨gok15, trivial, trivial⟩, trivial⟩⟩⟩, ⟨gok25, ⟨gok21, ⟨gok19, ⟨gok18, trivial, trivial⟩, ⟨gok20, trivial, trivial⟩⟩, ⟨gok23, ⟨gok22, trivial, trivial⟩, ⟨gok24, trivial, trivial⟩⟩⟩, ⟨gok29, ⟨gok27, ⟨gok26, trivial, trivial⟩, ⟨gok28, trivial, trivial⟩⟩, ⟨gok31, ⟨gok30, trivial, trivial⟩, trivial⟩⟩⟩⟩, ⟨gok47, ⟨gok40, ⟨gok36, ⟨gok34, ⟨gok33, trivial, trivial⟩, ⟨gok35, trivial, trivial⟩⟩, ⟨gok38, ⟨gok37, trivial, trivial⟩, ⟨gok39, trivial, trivial⟩⟩⟩, ⟨gok44, ⟨gok42, ⟨gok41, trivial, trivial⟩, ⟨gok43, trivial, trivial⟩⟩, ⟨gok46, ⟨gok45, trivial, trivial⟩, trivial⟩⟩⟩, ⟨gok54, ⟨gok51, ⟨gok49, ⟨gok48, trivial, trivial⟩, ⟨gok50, trivial, trivial⟩⟩, ⟨gok53, ⟨gok52, trivial, trivial⟩, trivial⟩⟩, ⟨gok75, ⟨gok56, ⟨gok55, trivial, trivial⟩, ⟨gok74, trivial, trivial⟩⟩, ⟨gok77, ⟨gok76, trivial, trivial⟩, trivial⟩⟩⟩⟩⟩
theorem fast {n : Nat} {f : Nat} {args : List AV} {S : AS} {r : AV × AS} {o : Orc} (h : rF E o gT n (.fn f) args S = some r) : evF E o n (.fn f) args S = some r := rF_le (fun f g h => gAll.find h) n _ _ _ _ h
end
end Go.Jn
