/- The table of the readings: a quick evaluator, and that what it answers is the evaluator's answer: by program. -/
import Derived.Test.YtjninokocidaaaaRes0
import Derived.Test.YtjninokocidaaaaRes1
import Derived.Test.YtjninokocidaaaaRes2
import Derived.Test.YtjninokocidaaaaRes3
import Derived.Test.YtjninokocidaaaaRes4
import Derived.Test.YtjninokocidaaaaRes5
import Derived.Test.YtjninokocidaaaaRes6
import Derived.Test.YtjninokocidaaaaRes7
import Derived.Test.YtjninokocidaaaaRes8
import Derived.Test.YtjninokocidaaaaGrFast
set_option maxRecDepth 100000
set_option linter.unusedVariables false
namespace Go.Al
open Go.Gr
noncomputable section
def g3 (call : CallA) (n : Nat) (args : List AV) (S : AS) : Option (AV × AS) := match args with
  | [v0] => gIk .i64 v0 fun x0 => J3 call n x0 S
  | _ => none
theorem gok3 : GOk E 3 g3 := ⟨run3, fun call n args S r h => by
  unfold g3 at h; split at h
  · rename_i v0; obtain ⟨x0, e0, h⟩ := gIk_inv (v := v0) h; subst e0; rw [J3_eq]; exact h
  · cases h⟩
def g4 (call : CallA) (n : Nat) (args : List AV) (S : AS) : Option (AV × AS) := match args with
  | [v0, v1, v2] => gIk .i64 v0 fun x0 => gL v1 fun x1a x1l x1c => gL v2 fun x2a x2l x2c => J4 call n x0 x1a x1l x1c x2a x2l x2c S
  | _ => none
theorem gok4 : GOk E 4 g4 := ⟨run4, fun call n args S r h => by
  unfold g4 at h; split at h
  · rename_i v0 v1 v2; obtain ⟨x0, e0, h⟩ := gIk_inv (v := v0) h; subst e0; obtain ⟨x1a, x1l, x1c, e1, h⟩ := gL_inv (v := v1) h; subst e1; obtain ⟨x2a, x2l, x2c, e2, h⟩ := gL_inv (v := v2) h; subst e2; rw [J4_eq]; exact h
  · cases h⟩
def g5 (call : CallA) (n : Nat) (args : List AV) (S : AS) : Option (AV × AS) := match args with
  | [v0] => gG v0 fun x0 => J5 call n x0 S
  | _ => none
theorem gok5 : GOk E 5 g5 := ⟨run5, fun call n args S r h => by
  unfold g5 at h; split at h
  · rename_i v0; obtain ⟨x0, e0, h⟩ := gG_inv (v := v0) h; subst e0; rw [J5_eq]; exact h
  · cases h⟩
def g6 (call : CallA) (n : Nat) (args : List AV) (S : AS) : Option (AV × AS) := match args with
  | [v0, v1] => gIk .i64 v0 fun x0 => gL v1 fun x1a x1l x1c => J6 call n x0 x1a x1l x1c S
  | _ => none
theorem gok6 : GOk E 6 g6 := ⟨run6, fun call n args S r h => by
  unfold g6 at h; split at h
  · rename_i v0 v1; obtain ⟨x0, e0, h⟩ := gIk_inv (v := v0) h; subst e0; obtain ⟨x1a, x1l, x1c, e1, h⟩ := gL_inv (v := v1) h; subst e1; rw [J6_eq]; exact h
  · cases h⟩
def g7 (call : CallA) (n : Nat) (args : List AV) (S : AS) : Option (AV × AS) := match args with
  | [v0, v1] => gIk .i64 v0 fun x0 => gL v1 fun x1a x1l x1c => J7 call n x0 x1a x1l x1c S
  | _ => none
theorem gok7 : GOk E 7 g7 := ⟨run7, fun call n args S r h => by
  unfold g7 at h; split at h
  · rename_i v0 v1; obtain ⟨x0, e0, h⟩ := gIk_inv (v := v0) h; subst e0; obtain ⟨x1a, x1l, x1c, e1, h⟩ := gL_inv (v := v1) h; subst e1; rw [J7_eq]; exact h
  · cases h⟩
def g8 (call : CallA) (n : Nat) (args : List AV) (S : AS) : Option (AV × AS) := match args with
  | [v0, v1, v2] => gIk .i64 v0 fun x0 => gL v1 fun x1a x1l x1c => gL v2 fun x2a x2l x2c => J8 call n x0 x1a x1l x1c x2a x2l x2c S
  | _ => none
theorem gok8 : GOk E 8 g8 := ⟨run8, fun call n args S r h => by
  unfold g8 at h; split at h
  · rename_i v0 v1 v2; obtain ⟨x0, e0, h⟩ := gIk_inv (v := v0) h; subst e0; obtain ⟨x1a, x1l, x1c, e1, h⟩ := gL_inv (v := v1) h; subst e1; obtain ⟨x2a, x2l, x2c, e2, h⟩ := gL_inv (v := v2) h; subst e2; rw [J8_eq]; exact h
  · cases h⟩
def g9 (call : CallA) (n : Nat) (args : List AV) (S : AS) : Option (AV × AS) := match args with
  | [] => J9 call n  S
  | _ => none
theorem gok9 : GOk E 9 g9 := ⟨run9, fun call n args S r h => by
  unfold g9 at h; split at h
  · rw [J9_eq]; exact h
  · cases h⟩
def g10 (call : CallA) (n : Nat) (args : List AV) (S : AS) : Option (AV × AS) := match args with
  | [v0] => gIk .i64 v0 fun x0 => J10 call n x0 S
  | _ => none
theorem gok10 : GOk E 10 g10 := ⟨run10, fun call n args S r h => by
  unfold g10 at h; split at h
  · rename_i v0; obtain ⟨x0, e0, h⟩ := gIk_inv (v := v0) h; subst e0; rw [J10_eq]; exact h
  · cases h⟩
def g11 (call : CallA) (n : Nat) (args : List AV) (S : AS) : Option (AV × AS) := match args with
  | [v0] => gIk .i64 v0 fun x0 => J11 call n x0 S
  | _ => none
theorem gok11 : GOk E 11 g11 := ⟨run11, fun call n args S r h => by
  unfold g11 at h; split at h
  · rename_i v0; obtain ⟨x0, e0, h⟩ := gIk_inv (v := v0) h; subst e0; rw [J11_eq]; exact h
  · cases h⟩
def g12 (call : CallA) (n : Nat) (args : List AV) (S : AS) : Option (AV × AS) := match args with
  | [] => J12 call n  S
  | _ => none
theorem gok12 : GOk E 12 g12 := ⟨run12, fun call n args S r h => by
  unfold g12 at h; split at h
  · rw [J12_eq]; exact h
  · cases h⟩
def g13 (call : CallA) (n : Nat) (args : List AV) (S : AS) : Option (AV × AS) := match args with
  | [v0, v1] => gP v0 fun x0 => gIk .i64 v1 fun x1 => J13 call n x0 x1 S
  | _ => none
theorem gok13 : GOk E 13 g13 := ⟨run13, fun call n args S r h => by
  unfold g13 at h; split at h
  · rename_i v0 v1; obtain ⟨x0, e0, h⟩ := gP_inv (v := v0) h; subst e0; obtain ⟨x1, e1, h⟩ := gIk_inv (v := v1) h; subst e1; rw [J13_eq]; exact h
  · cases h⟩
def g14 (call : CallA) (n : Nat) (args : List AV) (S : AS) : Option (AV × AS) := match args with
  | [v0] => gP v0 fun x0 => J14 call n x0 S
  | _ => none
theorem gok14 : GOk E 14 g14 := ⟨run14, fun call n args S r h => by
  unfold g14 at h; split at h
  · rename_i v0; obtain ⟨x0, e0, h⟩ := gP_inv (v := v0) h; subst e0; rw [J14_eq]; exact h
  · cases h⟩
def g15 (call : CallA) (n : Nat) (args : List AV) (S : AS) : Option (AV × AS) := match args with
  | [v0] => gP v0 fun x0 => J15 call n x0 S
  | _ => none
theorem gok15 : GOk E 15 g15 := ⟨run15, fun call n args S r h => by
  unfold g15 at h; split at h
  · rename_i v0; obtain ⟨x0, e0, h⟩ := gP_inv (v := v0) h; subst e0; rw [J15_eq]; exact h
  · cases h⟩
def g16 (call : CallA) (n : Nat) (args : List AV) (S : AS) : Option (AV × AS) := match args with
  | [v0] => gP v0 fun x0 => J16 call n x0 S
  | _ => none
theorem gok16 : GOk E 16 g16 := ⟨run16, fun call n args S r h => by
  unfold g16 at h; split at h
  · rename_i v0; obtain ⟨x0, e0, h⟩ := gP_inv (v := v0) h; subst e0; rw [J16_eq]; exact h
  · cases h⟩
def g17 (call : CallA) (n : Nat) (args : List AV) (S : AS) : Option (AV × AS) := match args with
  | [v0, v1] => gIk .i64 v0 fun x0 => gL v1 fun x1a x1l x1c => J17 call n x0 x1a x1l x1c S
  | _ => none
theorem gok17 : GOk E 17 g17 := ⟨run17, fun call n args S r h => by
  unfold g17 at h; split at h
  · rename_i v0 v1; obtain ⟨x0, e0, h⟩ := gIk_inv (v := v0) h; subst e0; obtain ⟨x1a, x1l, x1c, e1, h⟩ := gL_inv (v := v1) h; subst e1; rw [J17_eq]; exact h
  · cases h⟩
def g18 (call : CallA) (n : Nat) (args : List AV) (S : AS) : Option (AV × AS) := match args with
  | [v0] => gP v0 fun x0 => J18 call n x0 S
  | _ => none
theorem gok18 : GOk E 18 g18 := ⟨run18, fun call n args S r h => by
  unfold g18 at h; split at h
  · rename_i v0; obtain ⟨x0, e0, h⟩ := gP_inv (v := v0) h; subst e0; rw [J18_eq]; exact h
  · cases h⟩
def g19 (call : CallA) (n : Nat) (args : List AV) (S : AS) : Option (AV × AS) := match args with
  | [v0, v1] => gP v0 fun x0 => gIk .i64 v1 fun x1 => J19 call n x0 x1 S
  | _ => none
theorem gok19 : GOk E 19 g19 := ⟨run19, fun call n args S r h => by
  unfold g19 at h; split at h
  · rename_i v0 v1; obtain ⟨x0, e0, h⟩ := gP_inv (v := v0) h; subst e0; obtain ⟨x1, e1, h⟩ := gIk_inv (v := v1) h; subst e1; rw [J19_eq]; exact h
  · cases h⟩
def g20 (call : CallA) (n : Nat) (args : List AV) (S : AS) : Option (AV × AS) := match args with
  | [v0, v1] => gP v0 fun x0 => gIk .i64 v1 fun x1 => J20 call n x0 x1 S
  | _ => none
theorem gok20 : GOk E 20 g20 := ⟨run20, fun call n args S r h => by
  unfold g20 at h; split at h
  · rename_i v0 v1; obtain ⟨x0, e0, h⟩ := gP_inv (v := v0) h; subst e0; obtain ⟨x1, e1, h⟩ := gIk_inv (v := v1) h; subst e1; rw [J20_eq]; exact h
  · cases h⟩
def g21 (call : CallA) (n : Nat) (args : List AV) (S : AS) : Option (AV × AS) := match args with
  | [v0, v1] => gP v0 fun x0 => gIk .i64 v1 fun x1 => J21 call n x0 x1 S
  | _ => none
theorem gok21 : GOk E 21 g21 := ⟨run21, fun call n args S r h => by
  unfold g21 at h; split at h
  · rename_i v0 v1; obtain ⟨x0, e0, h⟩ := gP_inv (v := v0) h; subst e0; obtain ⟨x1, e1, h⟩ := gIk_inv (v := v1) h; subst e1; rw [J21_eq]; exact h
  · cases h⟩
def g22 (call : CallA) (n : Nat) (args : List AV) (S : AS) : Option (AV × AS) := match args with
  | [v0, v1] => gP v0 fun x0 => gIk .i64 v1 fun x1 => J22 call n x0 x1 S
  | _ => none
theorem gok22 : GOk E 22 g22 := ⟨run22, fun call n args S r h => by
  unfold g22 at h; split at h
  · rename_i v0 v1; obtain ⟨x0, e0, h⟩ := gP_inv (v := v0) h; subst e0; obtain ⟨x1, e1, h⟩ := gIk_inv (v := v1) h; subst e1; rw [J22_eq]; exact h
  · cases h⟩
def g23 (call : CallA) (n : Nat) (args : List AV) (S : AS) : Option (AV × AS) := match args with
  | [v0] => gP v0 fun x0 => J23 call n x0 S
  | _ => none
theorem gok23 : GOk E 23 g23 := ⟨run23, fun call n args S r h => by
  unfold g23 at h; split at h
  · rename_i v0; obtain ⟨x0, e0, h⟩ := gP_inv (v := v0) h; subst e0; rw [J23_eq]; exact h
  · cases h⟩
def g24 (call : CallA) (n : Nat) (args : List AV) (S : AS) : Option (AV × AS) := match args with
  | [v0, v1] => gIk .i64 v0 fun x0 => gL v1 fun x1a x1l x1c => J24 call n x0 x1a x1l x1c S
  | _ => none
theorem gok24 : GOk E 24 g24 := ⟨run24, fun call n args S r h => by
  unfold g24 at h; split at h
  · rename_i v0 v1; obtain ⟨x0, e0, h⟩ := gIk_inv (v := v0) h; subst e0; obtain ⟨x1a, x1l, x1c, e1, h⟩ := gL_inv (v := v1) h; subst e1; rw [J24_eq]; exact h
  · cases h⟩
def g25 (call : CallA) (n : Nat) (args : List AV) (S : AS) : Option (AV × AS) := match args with
  | [v0] => gP v0 fun x0 => J25 call n x0 S
  | _ => none
theorem gok25 : GOk E 25 g25 := ⟨run25, fun call n args S r h => by
  unfold g25 at h; split at h
  · rename_i v0; obtain ⟨x0, e0, h⟩ := gP_inv (v := v0) h; subst e0; rw [J25_eq]; exact h
  · cases h⟩
def g26 (call : CallA) (n : Nat) (args : List AV) (S : AS) : Option (AV × AS) := match args with
  | [v0] => gP v0 fun x0 => J26 call n x0 S
  | _ => none
theorem gok26 : GOk E 26 g26 := ⟨run26, fun call n args S r h => by
  unfold g26 at h; split at h
  · rename_i v0; obtain ⟨x0, e0, h⟩ := gP_inv (v := v0) h; subst e0; rw [J26_eq]; exact h
  · cases h⟩
def g27 (call : CallA) (n : Nat) (args : List AV) (S : AS) : Option (AV × AS) := match args with
  | [v0] => gP v0 fun x0 => J27 call n x0 S
  | _ => none
theorem gok27 : GOk E 27 g27 := ⟨run27, fun call n args S r h => by
  unfold g27 at h; split at h
  · rename_i v0; obtain ⟨x0, e0, h⟩ := gP_inv (v := v0) h; subst e0; rw [J27_eq]; exact h
  · cases h⟩
def g28 (call : CallA) (n : Nat) (args : List AV) (S : AS) : Option (AV × AS) := match args with
  | [v0] => gP v0 fun x0 => J28 call n x0 S
  | _ => none
theorem gok28 : GOk E 28 g28 := ⟨run28, fun call n args S r h => by
  unfold g28 at h; split at h
  · rename_i v0; obtain ⟨x0, e0, h⟩ := gP_inv (v := v0) h; subst e0; rw [J28_eq]; exact h
  · cases h⟩
def g29 (call : CallA) (n : Nat) (args : List AV) (S : AS) : Option (AV × AS) := match args with
  | [v0] => gP v0 fun x0 => J29 call n x0 S
  | _ => none
theorem gok29 : GOk E 29 g29 := ⟨run29, fun call n args S r h => by
  unfold g29 at h; split at h
  · rename_i v0; obtain ⟨x0, e0, h⟩ := gP_inv (v := v0) h; subst e0; rw [J29_eq]; exact h
  · cases h⟩
def g30 (call : CallA) (n : Nat) (args : List AV) (S : AS) : Option (AV × AS) := match args with
  | [v0, v1] => gIk .i64 v0 fun x0 => gL v1 fun x1a x1l x1c => J30 call n x0 x1a x1l x1c S
  | _ => none
theorem gok30 : GOk E 30 g30 := ⟨run30, fun call n args S r h => by
  unfold g30 at h; split at h
  · rename_i v0 v1; obtain ⟨x0, e0, h⟩ := gIk_inv (v := v0) h; subst e0; obtain ⟨x1a, x1l, x1c, e1, h⟩ := gL_inv (v := v1) h; subst e1; rw [J30_eq]; exact h
  · cases h⟩
def g31 (call : CallA) (n : Nat) (args : List AV) (S : AS) : Option (AV × AS) := match args with
  | [v0, v1, v2] => gP v0 fun x0 => gP v1 fun x1 => gG v2 fun x2 => J31 call n x0 x1 x2 S
  | _ => none
theorem gok31 : GOk E 31 g31 := ⟨run31, fun call n args S r h => by
  unfold g31 at h; split at h
  · rename_i v0 v1 v2; obtain ⟨x0, e0, h⟩ := gP_inv (v := v0) h; subst e0; obtain ⟨x1, e1, h⟩ := gP_inv (v := v1) h; subst e1; obtain ⟨x2, e2, h⟩ := gG_inv (v := v2) h; subst e2; rw [J31_eq]; exact h
  · cases h⟩
def g32 (call : CallA) (n : Nat) (args : List AV) (S : AS) : Option (AV × AS) := match args with
  | [v0, v1] => gP v0 fun x0 => gP v1 fun x1 => J32 call n x0 x1 S
  | _ => none
theorem gok32 : GOk E 32 g32 := ⟨run32, fun call n args S r h => by
  unfold g32 at h; split at h
  · rename_i v0 v1; obtain ⟨x0, e0, h⟩ := gP_inv (v := v0) h; subst e0; obtain ⟨x1, e1, h⟩ := gP_inv (v := v1) h; subst e1; rw [J32_eq]; exact h
  · cases h⟩
def g33 (call : CallA) (n : Nat) (args : List AV) (S : AS) : Option (AV × AS) := match args with
  | [v0] => gP v0 fun x0 => J33 call n x0 S
  | _ => none
theorem gok33 : GOk E 33 g33 := ⟨run33, fun call n args S r h => by
  unfold g33 at h; split at h
  · rename_i v0; obtain ⟨x0, e0, h⟩ := gP_inv (v := v0) h; subst e0; rw [J33_eq]; exact h
  · cases h⟩
def g34 (call : CallA) (n : Nat) (args : List AV) (S : AS) : Option (AV × AS) := match args with
  | [v0] => gP v0 fun x0 => J34 call n x0 S
  | _ => none
theorem gok34 : GOk E 34 g34 := ⟨run34, fun call n args S r h => by
  unfold g34 at h; split at h
  · rename_i v0; obtain ⟨x0, e0, h⟩ := gP_inv (v := v0) h; subst e0; rw [J34_eq]; exact h
  · cases h⟩
def g35 (call : CallA) (n : Nat) (args : List AV) (S : AS) : Option (AV × AS) := match args with
  | [v0, v1] => gP v0 fun x0 => gIk .i64 v1 fun x1 => J35 call n x0 x1 S
  | _ => none
theorem gok35 : GOk E 35 g35 := ⟨run35, fun call n args S r h => by
  unfold g35 at h; split at h
  · rename_i v0 v1; obtain ⟨x0, e0, h⟩ := gP_inv (v := v0) h; subst e0; obtain ⟨x1, e1, h⟩ := gIk_inv (v := v1) h; subst e1; rw [J35_eq]; exact h
  · cases h⟩
def g36 (call : CallA) (n : Nat) (args : List AV) (S : AS) : Option (AV × AS) := match args with
  | [v0, v1] => gP v0 fun x0 => gIk .i64 v1 fun x1 => J36 call n x0 x1 S
  | _ => none
theorem gok36 : GOk E 36 g36 := ⟨run36, fun call n args S r h => by
  unfold g36 at h; split at h
  · rename_i v0 v1; obtain ⟨x0, e0, h⟩ := gP_inv (v := v0) h; subst e0; obtain ⟨x1, e1, h⟩ := gIk_inv (v := v1) h; subst e1; rw [J36_eq]; exact h
  · cases h⟩
def g37 (call : CallA) (n : Nat) (args : List AV) (S : AS) : Option (AV × AS) := match args with
  | [v0] => gP v0 fun x0 => J37 call n x0 S
  | _ => none
theorem gok37 : GOk E 37 g37 := ⟨run37, fun call n args S r h => by
  unfold g37 at h; split at h
  · rename_i v0; obtain ⟨x0, e0, h⟩ := gP_inv (v := v0) h; subst e0; rw [J37_eq]; exact h
  · cases h⟩
def g38 (call : CallA) (n : Nat) (args : List AV) (S : AS) : Option (AV × AS) := match args with
  | [v0, v1] => gL v0 fun x0a x0l x0c => gL v1 fun x1a x1l x1c => J38 call n x0a x0l x0c x1a x1l x1c S
  | _ => none
theorem gok38 : GOk E 38 g38 := ⟨run38, fun call n args S r h => by
  unfold g38 at h; split at h
  · rename_i v0 v1; obtain ⟨x0a, x0l, x0c, e0, h⟩ := gL_inv (v := v0) h; subst e0; obtain ⟨x1a, x1l, x1c, e1, h⟩ := gL_inv (v := v1) h; subst e1; rw [J38_eq]; exact h
  · cases h⟩
def g39 (call : CallA) (n : Nat) (args : List AV) (S : AS) : Option (AV × AS) := match args with
  | [v0, v1] => gP v0 fun x0 => gIk .i64 v1 fun x1 => J39 call n x0 x1 S
  | _ => none
theorem gok39 : GOk E 39 g39 := ⟨run39, fun call n args S r h => by
  unfold g39 at h; split at h
  · rename_i v0 v1; obtain ⟨x0, e0, h⟩ := gP_inv (v := v0) h; subst e0; obtain ⟨x1, e1, h⟩ := gIk_inv (v := v1) h; subst e1; rw [J39_eq]; exact h
  · cases h⟩
def g40 (call : CallA) (n : Nat) (args : List AV) (S : AS) : Option (AV × AS) := match args with
  | [v0, v1] => gP v0 fun x0 => gIk .i64 v1 fun x1 => J40 call n x0 x1 S
  | _ => none
theorem gok40 : GOk E 40 g40 := ⟨run40, fun call n args S r h => by
  unfold g40 at h; split at h
  · rename_i v0 v1; obtain ⟨x0, e0, h⟩ := gP_inv (v := v0) h; subst e0; obtain ⟨x1, e1, h⟩ := gIk_inv (v := v1) h; subst e1; rw [J40_eq]; exact h
  · cases h⟩
def g41 (call : CallA) (n : Nat) (args : List AV) (S : AS) : Option (AV × AS) := match args with
  | [v0] => gIk .i64 v0 fun x0 => J41 call n x0 S
  | _ => none
theorem gok41 : GOk E 41 g41 := ⟨run41, fun call n args S r h => by
  unfold g41 at h; split at h
  · rename_i v0; obtain ⟨x0, e0, h⟩ := gIk_inv (v := v0) h; subst e0; rw [J41_eq]; exact h
  · cases h⟩
def g42 (call : CallA) (n : Nat) (args : List AV) (S : AS) : Option (AV × AS) := match args with
  | [v0, v1, v2] => gP v0 fun x0 => gIk .i64 v1 fun x1 => gIk .i64 v2 fun x2 => J42 call n x0 x1 x2 S
  | _ => none
theorem gok42 : GOk E 42 g42 := ⟨run42, fun call n args S r h => by
  unfold g42 at h; split at h
  · rename_i v0 v1 v2; obtain ⟨x0, e0, h⟩ := gP_inv (v := v0) h; subst e0; obtain ⟨x1, e1, h⟩ := gIk_inv (v := v1) h; subst e1; obtain ⟨x2, e2, h⟩ := gIk_inv (v := v2) h; subst e2; rw [J42_eq]; exact h
  · cases h⟩
def g43 (call : CallA) (n : Nat) (args : List AV) (S : AS) : Option (AV × AS) := match args with
  | [v0] => gL v0 fun x0a x0l x0c => J43 call n x0a x0l x0c S
  | _ => none
theorem gok43 : GOk E 43 g43 := ⟨run43, fun call n args S r h => by
  unfold g43 at h; split at h
  · rename_i v0; obtain ⟨x0a, x0l, x0c, e0, h⟩ := gL_inv (v := v0) h; subst e0; rw [J43_eq]; exact h
  · cases h⟩
def g44 (call : CallA) (n : Nat) (args : List AV) (S : AS) : Option (AV × AS) := match args with
  | [v0, v1] => gL v0 fun x0a x0l x0c => gIk .i64 v1 fun x1 => J44 call n x0a x0l x0c x1 S
  | _ => none
theorem gok44 : GOk E 44 g44 := ⟨run44, fun call n args S r h => by
  unfold g44 at h; split at h
  · rename_i v0 v1; obtain ⟨x0a, x0l, x0c, e0, h⟩ := gL_inv (v := v0) h; subst e0; obtain ⟨x1, e1, h⟩ := gIk_inv (v := v1) h; subst e1; rw [J44_eq]; exact h
  · cases h⟩
def g45 (call : CallA) (n : Nat) (args : List AV) (S : AS) : Option (AV × AS) := match args with
  | [v0, v1, v2] => gL v0 fun x0a x0l x0c => gIk .i64 v1 fun x1 => gIk .i64 v2 fun x2 => J45 call n x0a x0l x0c x1 x2 S
  | _ => none
theorem gok45 : GOk E 45 g45 := ⟨run45, fun call n args S r h => by
  unfold g45 at h; split at h
  · rename_i v0 v1 v2; obtain ⟨x0a, x0l, x0c, e0, h⟩ := gL_inv (v := v0) h; subst e0; obtain ⟨x1, e1, h⟩ := gIk_inv (v := v1) h; subst e1; obtain ⟨x2, e2, h⟩ := gIk_inv (v := v2) h; subst e2; rw [J45_eq]; exact h
  · cases h⟩
def g46 (call : CallA) (n : Nat) (args : List AV) (S : AS) : Option (AV × AS) := match args with
  | [v0] => gL v0 fun x0a x0l x0c => J46 call n x0a x0l x0c S
  | _ => none
theorem gok46 : GOk E 46 g46 := ⟨run46, fun call n args S r h => by
  unfold g46 at h; split at h
  · rename_i v0; obtain ⟨x0a, x0l, x0c, e0, h⟩ := gL_inv (v := v0) h; subst e0; rw [J46_eq]; exact h
  · cases h⟩
def g47 (call : CallA) (n : Nat) (args : List AV) (S : AS) : Option (AV × AS) := match args with
  | [v0, v1] => gP v0 fun x0 => gIk .i64 v1 fun x1 => J47 call n x0 x1 S
  | _ => none
theorem gok47 : GOk E 47 g47 := ⟨run47, fun call n args S r h => by
  unfold g47 at h; split at h
  · rename_i v0 v1; obtain ⟨x0, e0, h⟩ := gP_inv (v := v0) h; subst e0; obtain ⟨x1, e1, h⟩ := gIk_inv (v := v1) h; subst e1; rw [J47_eq]; exact h
  · cases h⟩
def g48 (call : CallA) (n : Nat) (args : List AV) (S : AS) : Option (AV × AS) := match args with
  | [v0, v1] => gP v0 fun x0 => gIk .i64 v1 fun x1 => J48 call n x0 x1 S
  | _ => none
theorem gok48 : GOk E 48 g48 := ⟨run48, fun call n args S r h => by
  unfold g48 at h; split at h
  · rename_i v0 v1; obtain ⟨x0, e0, h⟩ := gP_inv (v := v0) h; subst e0; obtain ⟨x1, e1, h⟩ := gIk_inv (v := v1) h; subst e1; rw [J48_eq]; exact h
  · cases h⟩
def g49 (call : CallA) (n : Nat) (args : List AV) (S : AS) : Option (AV × AS) := match args with
  | [v0, v1] => gP v0 fun x0 => gIk .i64 v1 fun x1 => J49 call n x0 x1 S
  | _ => none
theorem gok49 : GOk E 49 g49 := ⟨run49, fun call n args S r h => by
  unfold g49 at h; split at h
  · rename_i v0 v1; obtain ⟨x0, e0, h⟩ := gP_inv (v := v0) h; subst e0; obtain ⟨x1, e1, h⟩ := gIk_inv (v := v1) h; subst e1; rw [J49_eq]; exact h
  · cases h⟩
def g50 (call : CallA) (n : Nat) (args : List AV) (S : AS) : Option (AV × AS) := match args with
  | [v0, v1] => gP v0 fun x0 => gIk .i64 v1 fun x1 => J50 call n x0 x1 S
  | _ => none
theorem gok50 : GOk E 50 g50 := ⟨run50, fun call n args S r h => by
  unfold g50 at h; split at h
  · rename_i v0 v1; obtain ⟨x0, e0, h⟩ := gP_inv (v := v0) h; subst e0; obtain ⟨x1, e1, h⟩ := gIk_inv (v := v1) h; subst e1; rw [J50_eq]; exact h
  · cases h⟩
def g51 (call : CallA) (n : Nat) (args : List AV) (S : AS) : Option (AV × AS) := match args with
  | [v0, v1] => gP v0 fun x0 => gIk .i64 v1 fun x1 => J51 call n x0 x1 S
  | _ => none
theorem gok51 : GOk E 51 g51 := ⟨run51, fun call n args S r h => by
  unfold g51 at h; split at h
  · rename_i v0 v1; obtain ⟨x0, e0, h⟩ := gP_inv (v := v0) h; subst e0; obtain ⟨x1, e1, h⟩ := gIk_inv (v := v1) h; subst e1; rw [J51_eq]; exact h
  · cases h⟩
def g52 (call : CallA) (n : Nat) (args : List AV) (S : AS) : Option (AV × AS) := match args with
  | [v0, v1] => gP v0 fun x0 => gIk .i64 v1 fun x1 => J52 call n x0 x1 S
  | _ => none
theorem gok52 : GOk E 52 g52 := ⟨run52, fun call n args S r h => by
  unfold g52 at h; split at h
  · rename_i v0 v1; obtain ⟨x0, e0, h⟩ := gP_inv (v := v0) h; subst e0; obtain ⟨x1, e1, h⟩ := gIk_inv (v := v1) h; subst e1; rw [J52_eq]; exact h
  · cases h⟩
def g53 (call : CallA) (n : Nat) (args : List AV) (S : AS) : Option (AV × AS) := match args with
  | [v0] => gP v0 fun x0 => J53 call n x0 S
  | _ => none
theorem gok53 : GOk E 53 g53 := ⟨run53, fun call n args S r h => by
  unfold g53 at h; split at h
  · rename_i v0; obtain ⟨x0, e0, h⟩ := gP_inv (v := v0) h; subst e0; rw [J53_eq]; exact h
  · cases h⟩
def g54 (call : CallA) (n : Nat) (args : List AV) (S : AS) : Option (AV × AS) := match args with
  | [v0] => gP v0 fun x0 => J54 call n x0 S
  | _ => none
theorem gok54 : GOk E 54 g54 := ⟨run54, fun call n args S r h => by
  unfold g54 at h; split at h
  · rename_i v0; obtain ⟨x0, e0, h⟩ := gP_inv (v := v0) h; subst e0; rw [J54_eq]; exact h
  · cases h⟩
def g55 (call : CallA) (n : Nat) (args : List AV) (S : AS) : Option (AV × AS) := match args with
  | [v0] => gP v0 fun x0 => J55 call n x0 S
  | _ => none
theorem gok55 : GOk E 55 g55 := ⟨run55, fun call n args S r h => by
  unfold g55 at h; split at h
  · rename_i v0; obtain ⟨x0, e0, h⟩ := gP_inv (v := v0) h; subst e0; rw [J55_eq]; exact h
  · cases h⟩
def g56 (call : CallA) (n : Nat) (args : List AV) (S : AS) : Option (AV × AS) := match args with
  | [v0, v1] => gP v0 fun x0 => gIk .i64 v1 fun x1 => J56 call n x0 x1 S
  | _ => none
theorem gok56 : GOk E 56 g56 := ⟨run56, fun call n args S r h => by
  unfold g56 at h; split at h
  · rename_i v0 v1; obtain ⟨x0, e0, h⟩ := gP_inv (v := v0) h; subst e0; obtain ⟨x1, e1, h⟩ := gIk_inv (v := v1) h; subst e1; rw [J56_eq]; exact h
  · cases h⟩
def g57 (call : CallA) (n : Nat) (args : List AV) (S : AS) : Option (AV × AS) := match args with
  | [v0] => gP v0 fun x0 => J57 call n x0 S
  | _ => none
theorem gok57 : GOk E 57 g57 := ⟨run57, fun call n args S r h => by
  unfold g57 at h; split at h
  · rename_i v0; obtain ⟨x0, e0, h⟩ := gP_inv (v := v0) h; subst e0; rw [J57_eq]; exact h
  · cases h⟩
def g58 (call : CallA) (n : Nat) (args : List AV) (S : AS) : Option (AV × AS) := match args with
  | [v0, v1] => gL v0 fun x0a x0l x0c => gL v1 fun x1a x1l x1c => J58 call n x0a x0l x0c x1a x1l x1c S
  | _ => none
theorem gok58 : GOk E 58 g58 := ⟨run58, fun call n args S r h => by
  unfold g58 at h; split at h
  · rename_i v0 v1; obtain ⟨x0a, x0l, x0c, e0, h⟩ := gL_inv (v := v0) h; subst e0; obtain ⟨x1a, x1l, x1c, e1, h⟩ := gL_inv (v := v1) h; subst e1; rw [J58_eq]; exact h
  · cases h⟩
def g59 (call : CallA) (n : Nat) (args : List AV) (S : AS) : Option (AV × AS) := match args with
  | [v0] => gP v0 fun x0 => J59 call n x0 S
  | _ => none
theorem gok59 : GOk E 59 g59 := ⟨run59, fun call n args S r h => by
  unfold g59 at h; split at h
  · rename_i v0; obtain ⟨x0, e0, h⟩ := gP_inv (v := v0) h; subst e0; rw [J59_eq]; exact h
  · cases h⟩
def g60 (call : CallA) (n : Nat) (args : List AV) (S : AS) : Option (AV × AS) := match args with
  | [v0, v1] => gP v0 fun x0 => gIk .i64 v1 fun x1 => J60 call n x0 x1 S
  | _ => none
theorem gok60 : GOk E 60 g60 := ⟨run60, fun call n args S r h => by
  unfold g60 at h; split at h
  · rename_i v0 v1; obtain ⟨x0, e0, h⟩ := gP_inv (v := v0) h; subst e0; obtain ⟨x1, e1, h⟩ := gIk_inv (v := v1) h; subst e1; rw [J60_eq]; exact h
  · cases h⟩
def g61 (call : CallA) (n : Nat) (args : List AV) (S : AS) : Option (AV × AS) := match args with
  | [v0] => gL v0 fun x0a x0l x0c => J61 call n x0a x0l x0c S
  | _ => none
theorem gok61 : GOk E 61 g61 := ⟨run61, fun call n args S r h => by
  unfold g61 at h; split at h
  · rename_i v0; obtain ⟨x0a, x0l, x0c, e0, h⟩ := gL_inv (v := v0) h; subst e0; rw [J61_eq]; exact h
  · cases h⟩
def g62 (call : CallA) (n : Nat) (args : List AV) (S : AS) : Option (AV × AS) := match args with
  | [v0, v1] => gL v0 fun x0a x0l x0c => gIk .u8 v1 fun x1 => J62 call n x0a x0l x0c x1 S
  | _ => none
theorem gok62 : GOk E 62 g62 := ⟨run62, fun call n args S r h => by
  unfold g62 at h; split at h
  · rename_i v0 v1; obtain ⟨x0a, x0l, x0c, e0, h⟩ := gL_inv (v := v0) h; subst e0; obtain ⟨x1, e1, h⟩ := gIk_inv (v := v1) h; subst e1; rw [J62_eq]; exact h
  · cases h⟩
def g63 (call : CallA) (n : Nat) (args : List AV) (S : AS) : Option (AV × AS) := match args with
  | [v0, v1, v2, v3] => gL v0 fun x0a x0l x0c => gIk .i64 v1 fun x1 => gIk .i64 v2 fun x2 => gIk .i64 v3 fun x3 => J63 call n x0a x0l x0c x1 x2 x3 S
  | _ => none
theorem gok63 : GOk E 63 g63 := ⟨run63, fun call n args S r h => by
  unfold g63 at h; split at h
  · rename_i v0 v1 v2 v3; obtain ⟨x0a, x0l, x0c, e0, h⟩ := gL_inv (v := v0) h; subst e0; obtain ⟨x1, e1, h⟩ := gIk_inv (v := v1) h; subst e1; obtain ⟨x2, e2, h⟩ := gIk_inv (v := v2) h; subst e2; obtain ⟨x3, e3, h⟩ := gIk_inv (v := v3) h; subst e3; rw [J63_eq]; exact h
  · cases h⟩
def g64 (call : CallA) (n : Nat) (args : List AV) (S : AS) : Option (AV × AS) := match args with
  | [v0] => gIk .u64 v0 fun x0 => J64 call n x0 S
  | _ => none
theorem gok64 : GOk E 64 g64 := ⟨run64, fun call n args S r h => by
  unfold g64 at h; split at h
  · rename_i v0; obtain ⟨x0, e0, h⟩ := gIk_inv (v := v0) h; subst e0; rw [J64_eq]; exact h
  · cases h⟩
def g65 (call : CallA) (n : Nat) (args : List AV) (S : AS) : Option (AV × AS) := match args with
  | [v0, v1] => gP v0 fun x0 => gIk .i64 v1 fun x1 => J65 call n x0 x1 S
  | _ => none
theorem gok65 : GOk E 65 g65 := ⟨run65, fun call n args S r h => by
  unfold g65 at h; split at h
  · rename_i v0 v1; obtain ⟨x0, e0, h⟩ := gP_inv (v := v0) h; subst e0; obtain ⟨x1, e1, h⟩ := gIk_inv (v := v1) h; subst e1; rw [J65_eq]; exact h
  · cases h⟩
def g66 (call : CallA) (n : Nat) (args : List AV) (S : AS) : Option (AV × AS) := match args with
  | [v0, v1] => gP v0 fun x0 => gIk .i64 v1 fun x1 => J66 call n x0 x1 S
  | _ => none
theorem gok66 : GOk E 66 g66 := ⟨run66, fun call n args S r h => by
  unfold g66 at h; split at h
  · rename_i v0 v1; obtain ⟨x0, e0, h⟩ := gP_inv (v := v0) h; subst e0; obtain ⟨x1, e1, h⟩ := gIk_inv (v := v1) h; subst e1; rw [J66_eq]; exact h
  · cases h⟩
def g67 (call : CallA) (n : Nat) (args : List AV) (S : AS) : Option (AV × AS) := match args with
  | [v0, v1] => gL v0 fun x0a x0l x0c => gIk .i64 v1 fun x1 => J67 call n x0a x0l x0c x1 S
  | _ => none
theorem gok67 : GOk E 67 g67 := ⟨run67, fun call n args S r h => by
  unfold g67 at h; split at h
  · rename_i v0 v1; obtain ⟨x0a, x0l, x0c, e0, h⟩ := gL_inv (v := v0) h; subst e0; obtain ⟨x1, e1, h⟩ := gIk_inv (v := v1) h; subst e1; rw [J67_eq]; exact h
  · cases h⟩
def g68 (call : CallA) (n : Nat) (args : List AV) (S : AS) : Option (AV × AS) := match args with
  | [v0, v1, v2] => gP v0 fun x0 => gIk .i64 v1 fun x1 => gIk .i64 v2 fun x2 => J68 call n x0 x1 x2 S
  | _ => none
theorem gok68 : GOk E 68 g68 := ⟨run68, fun call n args S r h => by
  unfold g68 at h; split at h
  · rename_i v0 v1 v2; obtain ⟨x0, e0, h⟩ := gP_inv (v := v0) h; subst e0; obtain ⟨x1, e1, h⟩ := gIk_inv (v := v1) h; subst e1; obtain ⟨x2, e2, h⟩ := gIk_inv (v := v2) h; subst e2; rw [J68_eq]; exact h
  · cases h⟩
def g69 (call : CallA) (n : Nat) (args : List AV) (S : AS) : Option (AV × AS) := match args with
  | [v0, v1, v2] => gL v0 fun x0a x0l x0c => gIk .i64 v1 fun x1 => gIk .i64 v2 fun x2 => J69 call n x0a x0l x0c x1 x2 S
  | _ => none
theorem gok69 : GOk E 69 g69 := ⟨run69, fun call n args S r h => by
  unfold g69 at h; split at h
  · rename_i v0 v1 v2; obtain ⟨x0a, x0l, x0c, e0, h⟩ := gL_inv (v := v0) h; subst e0; obtain ⟨x1, e1, h⟩ := gIk_inv (v := v1) h; subst e1; obtain ⟨x2, e2, h⟩ := gIk_inv (v := v2) h; subst e2; rw [J69_eq]; exact h
  · cases h⟩
def g70 (call : CallA) (n : Nat) (args : List AV) (S : AS) : Option (AV × AS) := match args with
  | [v0, v1, v2] => gL v0 fun x0a x0l x0c => gIk .i64 v1 fun x1 => gIk .i64 v2 fun x2 => J70 call n x0a x0l x0c x1 x2 S
  | _ => none
theorem gok70 : GOk E 70 g70 := ⟨run70, fun call n args S r h => by
  unfold g70 at h; split at h
  · rename_i v0 v1 v2; obtain ⟨x0a, x0l, x0c, e0, h⟩ := gL_inv (v := v0) h; subst e0; obtain ⟨x1, e1, h⟩ := gIk_inv (v := v1) h; subst e1; obtain ⟨x2, e2, h⟩ := gIk_inv (v := v2) h; subst e2; rw [J70_eq]; exact h
  · cases h⟩
def g71 (call : CallA) (n : Nat) (args : List AV) (S : AS) : Option (AV × AS) := match args with
  | [v0, v1, v2] => gL v0 fun x0a x0l x0c => gIk .i64 v1 fun x1 => gIk .i64 v2 fun x2 => J71 call n x0a x0l x0c x1 x2 S
  | _ => none
theorem gok71 : GOk E 71 g71 := ⟨run71, fun call n args S r h => by
  unfold g71 at h; split at h
  · rename_i v0 v1 v2; obtain ⟨x0a, x0l, x0c, e0, h⟩ := gL_inv (v := v0) h; subst e0; obtain ⟨x1, e1, h⟩ := gIk_inv (v := v1) h; subst e1; obtain ⟨x2, e2, h⟩ := gIk_inv (v := v2) h; subst e2; rw [J71_eq]; exact h
  · cases h⟩
def g72 (call : CallA) (n : Nat) (args : List AV) (S : AS) : Option (AV × AS) := match args with
  | [v0, v1, v2] => gL v0 fun x0a x0l x0c => gIk .i64 v1 fun x1 => gIk .i64 v2 fun x2 => J72 call n x0a x0l x0c x1 x2 S
  | _ => none
theorem gok72 : GOk E 72 g72 := ⟨run72, fun call n args S r h => by
  unfold g72 at h; split at h
  · rename_i v0 v1 v2; obtain ⟨x0a, x0l, x0c, e0, h⟩ := gL_inv (v := v0) h; subst e0; obtain ⟨x1, e1, h⟩ := gIk_inv (v := v1) h; subst e1; obtain ⟨x2, e2, h⟩ := gIk_inv (v := v2) h; subst e2; rw [J72_eq]; exact h
  · cases h⟩
def g73 (call : CallA) (n : Nat) (args : List AV) (S : AS) : Option (AV × AS) := match args with
  | [v0, v1, v2] => gL v0 fun x0a x0l x0c => gIk .i64 v1 fun x1 => gIk .i64 v2 fun x2 => J73 call n x0a x0l x0c x1 x2 S
  | _ => none
theorem gok73 : GOk E 73 g73 := ⟨run73, fun call n args S r h => by
  unfold g73 at h; split at h
  · rename_i v0 v1 v2; obtain ⟨x0a, x0l, x0c, e0, h⟩ := gL_inv (v := v0) h; subst e0; obtain ⟨x1, e1, h⟩ := gIk_inv (v := v1) h; subst e1; obtain ⟨x2, e2, h⟩ := gIk_inv (v := v2) h; subst e2; rw [J73_eq]; exact h
  · cases h⟩
def g74 (call : CallA) (n : Nat) (args : List AV) (S : AS) : Option (AV × AS) := match args with
  | [v0, v1, v2] => gL v0 fun x0a x0l x0c => gIk .i64 v1 fun x1 => gIk .i64 v2 fun x2 => J74 call n x0a x0l x0c x1 x2 S
  | _ => none
theorem gok74 : GOk E 74 g74 := ⟨run74, fun call n args S r h => by
  unfold g74 at h; split at h
  · rename_i v0 v1 v2; obtain ⟨x0a, x0l, x0c, e0, h⟩ := gL_inv (v := v0) h; subst e0; obtain ⟨x1, e1, h⟩ := gIk_inv (v := v1) h; subst e1; obtain ⟨x2, e2, h⟩ := gIk_inv (v := v2) h; subst e2; rw [J74_eq]; exact h
  · cases h⟩
def g75 (call : CallA) (n : Nat) (args : List AV) (S : AS) : Option (AV × AS) := match args with
  | [v0, v1] => gIk .i64 v0 fun x0 => gIk .i64 v1 fun x1 => J75 call n x0 x1 S
  | _ => none
theorem gok75 : GOk E 75 g75 := ⟨run75, fun call n args S r h => by
  unfold g75 at h; split at h
  · rename_i v0 v1; obtain ⟨x0, e0, h⟩ := gIk_inv (v := v0) h; subst e0; obtain ⟨x1, e1, h⟩ := gIk_inv (v := v1) h; subst e1; rw [J75_eq]; exact h
  · cases h⟩
def g76 (call : CallA) (n : Nat) (args : List AV) (S : AS) : Option (AV × AS) := match args with
  | [v0, v1, v2, v3] => gL v0 fun x0a x0l x0c => gIk .i64 v1 fun x1 => gIk .i64 v2 fun x2 => gIk .i64 v3 fun x3 => J76 call n x0a x0l x0c x1 x2 x3 S
  | _ => none
theorem gok76 : GOk E 76 g76 := ⟨run76, fun call n args S r h => by
  unfold g76 at h; split at h
  · rename_i v0 v1 v2 v3; obtain ⟨x0a, x0l, x0c, e0, h⟩ := gL_inv (v := v0) h; subst e0; obtain ⟨x1, e1, h⟩ := gIk_inv (v := v1) h; subst e1; obtain ⟨x2, e2, h⟩ := gIk_inv (v := v2) h; subst e2; obtain ⟨x3, e3, h⟩ := gIk_inv (v := v3) h; subst e3; rw [J76_eq]; exact h
  · cases h⟩
def g77 (call : CallA) (n : Nat) (args : List AV) (S : AS) : Option (AV × AS) := match args with
  | [v0, v1, v2, v3] => gL v0 fun x0a x0l x0c => gIk .i64 v1 fun x1 => gIk .i64 v2 fun x2 => gIk .i64 v3 fun x3 => J77 call n x0a x0l x0c x1 x2 x3 S
  | _ => none
theorem gok77 : GOk E 77 g77 := ⟨run77, fun call n args S r h => by
  unfold g77 at h; split at h
  · rename_i v0 v1 v2 v3; obtain ⟨x0a, x0l, x0c, e0, h⟩ := gL_inv (v := v0) h; subst e0; obtain ⟨x1, e1, h⟩ := gIk_inv (v := v1) h; subst e1; obtain ⟨x2, e2, h⟩ := gIk_inv (v := v2) h; subst e2; obtain ⟨x3, e3, h⟩ := gIk_inv (v := v3) h; subst e3; rw [J77_eq]; exact h
  · cases h⟩
def g78 (call : CallA) (n : Nat) (args : List AV) (S : AS) : Option (AV × AS) := match args with
  | [v0] => gIk .u32 v0 fun x0 => J78 call n x0 S
  | _ => none
theorem gok78 : GOk E 78 g78 := ⟨run78, fun call n args S r h => by
  unfold g78 at h; split at h
  · rename_i v0; obtain ⟨x0, e0, h⟩ := gIk_inv (v := v0) h; subst e0; rw [J78_eq]; exact h
  · cases h⟩
def g79 (call : CallA) (n : Nat) (args : List AV) (S : AS) : Option (AV × AS) := match args with
  | [v0] => gIk .u64 v0 fun x0 => J79 call n x0 S
  | _ => none
theorem gok79 : GOk E 79 g79 := ⟨run79, fun call n args S r h => by
  unfold g79 at h; split at h
  · rename_i v0; obtain ⟨x0, e0, h⟩ := gIk_inv (v := v0) h; subst e0; rw [J79_eq]; exact h
  · cases h⟩
def g80 (call : CallA) (n : Nat) (args : List AV) (S : AS) : Option (AV × AS) := match args with
  | [v0, v1, v2, v3] => gL v0 fun x0a x0l x0c => gIk .i64 v1 fun x1 => gIk .i64 v2 fun x2 => gIk .i64 v3 fun x3 => J80 call n x0a x0l x0c x1 x2 x3 S
  | _ => none
theorem gok80 : GOk E 80 g80 := ⟨run80, fun call n args S r h => by
  unfold g80 at h; split at h
  · rename_i v0 v1 v2 v3; obtain ⟨x0a, x0l, x0c, e0, h⟩ := gL_inv (v := v0) h; subst e0; obtain ⟨x1, e1, h⟩ := gIk_inv (v := v1) h; subst e1; obtain ⟨x2, e2, h⟩ := gIk_inv (v := v2) h; subst e2; obtain ⟨x3, e3, h⟩ := gIk_inv (v := v3) h; subst e3; rw [J80_eq]; exact h
  · cases h⟩
def g81 (call : CallA) (n : Nat) (args : List AV) (S : AS) : Option (AV × AS) := match args with
  | [v0] => gIk .i64 v0 fun x0 => J81 call n x0 S
  | _ => none
theorem gok81 : GOk E 81 g81 := ⟨run81, fun call n args S r h => by
  unfold g81 at h; split at h
  · rename_i v0; obtain ⟨x0, e0, h⟩ := gIk_inv (v := v0) h; subst e0; rw [J81_eq]; exact h
  · cases h⟩
def g82 (call : CallA) (n : Nat) (args : List AV) (S : AS) : Option (AV × AS) := match args with
  | [v0] => gP v0 fun x0 => J82 call n x0 S
  | _ => none
theorem gok82 : GOk E 82 g82 := ⟨run82, fun call n args S r h => by
  unfold g82 at h; split at h
  · rename_i v0; obtain ⟨x0, e0, h⟩ := gP_inv (v := v0) h; subst e0; rw [J82_eq]; exact h
  · cases h⟩
def g83 (call : CallA) (n : Nat) (args : List AV) (S : AS) : Option (AV × AS) := match args with
  | [v0, v1, v2] => gL v0 fun x0a x0l x0c => gIk .i64 v1 fun x1 => gP v2 fun x2 => J83 call n x0a x0l x0c x1 x2 S
  | _ => none
theorem gok83 : GOk E 83 g83 := ⟨run83, fun call n args S r h => by
  unfold g83 at h; split at h
  · rename_i v0 v1 v2; obtain ⟨x0a, x0l, x0c, e0, h⟩ := gL_inv (v := v0) h; subst e0; obtain ⟨x1, e1, h⟩ := gIk_inv (v := v1) h; subst e1; obtain ⟨x2, e2, h⟩ := gP_inv (v := v2) h; subst e2; rw [J83_eq]; exact h
  · cases h⟩
def g84 (call : CallA) (n : Nat) (args : List AV) (S : AS) : Option (AV × AS) := match args with
  | [v0, v1, v2, v3, v4] => gL v0 fun x0a x0l x0c => gIk .i64 v1 fun x1 => gIk .i64 v2 fun x2 => gIk .i64 v3 fun x3 => gP v4 fun x4 => J84 call n x0a x0l x0c x1 x2 x3 x4 S
  | _ => none
theorem gok84 : GOk E 84 g84 := ⟨run84, fun call n args S r h => by
  unfold g84 at h; split at h
  · rename_i v0 v1 v2 v3 v4; obtain ⟨x0a, x0l, x0c, e0, h⟩ := gL_inv (v := v0) h; subst e0; obtain ⟨x1, e1, h⟩ := gIk_inv (v := v1) h; subst e1; obtain ⟨x2, e2, h⟩ := gIk_inv (v := v2) h; subst e2; obtain ⟨x3, e3, h⟩ := gIk_inv (v := v3) h; subst e3; obtain ⟨x4, e4, h⟩ := gP_inv (v := v4) h; subst e4; rw [J84_eq]; exact h
  · cases h⟩
def g85 (call : CallA) (n : Nat) (args : List AV) (S : AS) : Option (AV × AS) := match args with
  | [v0] => gIk .i64 v0 fun x0 => J85 call n x0 S
  | _ => none
theorem gok85 : GOk E 85 g85 := ⟨run85, fun call n args S r h => by
  unfold g85 at h; split at h
  · rename_i v0; obtain ⟨x0, e0, h⟩ := gIk_inv (v := v0) h; subst e0; rw [J85_eq]; exact h
  · cases h⟩
def g86 (call : CallA) (n : Nat) (args : List AV) (S : AS) : Option (AV × AS) := match args with
  | [v0, v1, v2, v3] => gL v0 fun x0a x0l x0c => gIk .i64 v1 fun x1 => gIk .i64 v2 fun x2 => gP v3 fun x3 => J86 call n x0a x0l x0c x1 x2 x3 S
  | _ => none
theorem gok86 : GOk E 86 g86 := ⟨run86, fun call n args S r h => by
  unfold g86 at h; split at h
  · rename_i v0 v1 v2 v3; obtain ⟨x0a, x0l, x0c, e0, h⟩ := gL_inv (v := v0) h; subst e0; obtain ⟨x1, e1, h⟩ := gIk_inv (v := v1) h; subst e1; obtain ⟨x2, e2, h⟩ := gIk_inv (v := v2) h; subst e2; obtain ⟨x3, e3, h⟩ := gP_inv (v := v3) h; subst e3; rw [J86_eq]; exact h
  · cases h⟩
def gT : BT (CallA → Nat → List AV → AS → Option (AV × AS)) := .node 45 g45 (.node 24 g24 (.node 13 g13 (.node 8 g8 (.node 5 g5 (.node 4 g4 (.node 3 g3 .nil .nil) .nil) (.node 7 g7 (.node 6 g6 .nil .nil) .nil)) (.node 11 g11 (.node 10 g10 (.node 9 g9 .nil .nil) .nil) (.node 12 g12 .nil .nil))) (.node 19 g19 (.node 16 g16 (.node 15 g15 (.node 14 g14 .nil .nil) .nil) (.node 18 g18 (.node 17 g17 .nil .nil) .nil)) (.node 22 g22 (.node 21 g21 (.node 20 g20 .nil .nil) .nil) (.node 23 g23 .nil .nil)))) (.node 35 g35 (.node 30 g30 (.node 27 g27 (.node 26 g26 (.node 25 g25 .nil .nil) .nil) (.node 29 g29 (.node 28 g28 .nil .nil) .nil)) (.node 33 g33 (.node 32 g32 (.node 31 g31 .nil .nil) .nil) (.node 34 g34 .nil .nil))) (.node 40 g40 (.node 38 g38 (.node 37 g37 (.node 36 g36 .nil .nil) .nil) (.node 39 g39 .nil .nil)) (.node 43 g43 (.node 42 g42 (.node 41 g41 .nil .nil) .nil) (.node 44 g44 .nil .nil))))) (.node 66 g66 (.node 56 g56 (.node 51 g51 (.node 48 g48 (.node 47 g47 (.node 46 g46 .nil .nil) .nil) (.node 50 g50 (.node 49 g49 .nil .nil) .nil)) (.node 54 g54 (.node 53 g53 (.node 52 g52 .nil .nil) .nil) (.node 55 g55 .nil .nil))) (.node 61 g61 (.node 59 g59 (.node 58 g58 (.node 57 g57 .nil .nil) .nil) (.node 60 g60 .nil .nil)) (.node 64 g64 (.node 63 g63 (.node 62 g62 .nil .nil) .nil) (.node 65 g65 .nil .nil)))) (.node 77 g77 (.node 72 g72 (.node 69 g69 (.node 68 g68 (.node 67 g67 .nil .nil) .nil) (.node 71 g71 (.node 70 g70 .nil .nil) .nil)) (.node 75 g75 (.node 74 g74 (.node 73 g73 .nil .nil) .nil) (.node 76 g76 .nil .nil))) (.node 82 g82 (.node 80 g80 (.node 79 g79 (.node 78 g78 .nil .nil) .nil) (.node 81 g81 .nil .nil)) (.node 85 g85 (.node 84 g84 (.node 83 g83 .nil .nil) .nil) (.node 86 g86 .nil .nil)))))
theorem gAll : BT.All (fun f g => GOk E f g) gT := ⟨gok45, ⟨gok24, ⟨gok13, ⟨gok8, ⟨gok5, ⟨gok4, ⟨gok3, trivial, trivial⟩, trivial⟩, ⟨gok7, ⟨gok6, trivial, trivial⟩, trivial⟩⟩, ⟨gok11, ⟨gok10, ⟨gok9, trivial, trivial⟩, trivial⟩, ⟨gok12, trivial, trivial⟩⟩⟩, ⟨gok19, ⟨gok16, ⟨gok15, ⟨gok14, trivial, trivial⟩, trivial⟩, ⟨gok18, ⟨gok17, trivial, trivial⟩, trivial⟩⟩, ⟨gok22, ⟨gok21, ⟨gok20, trivial, trivial⟩, trivial⟩, ⟨gok23, trivial, trivial⟩⟩⟩⟩, ⟨gok35, ⟨gok30, ⟨gok27, ⟨gok26, ⟨gok25, trivial, trivial⟩, trivial⟩, ⟨gok29, ⟨gok28, trivial, trivial⟩, trivial⟩⟩, ⟨gok33, ⟨gok32, ⟨gok31, trivial, trivial⟩, trivial⟩, ⟨gok34, trivial, trivial⟩⟩⟩, ⟨gok40, ⟨gok38, ⟨gok37, ⟨gok36, trivial, trivial⟩, trivial⟩, ⟨gok39, trivial, trivial⟩⟩, ⟨gok43, ⟨gok42, ⟨gok41, trivial, trivial⟩, trivial⟩, ⟨gok44, trivial, trivial⟩⟩⟩⟩⟩, ⟨gok66, ⟨gok56, ⟨gok51, ⟨gok48, ⟨gok47, ⟨gok46, trivial, trivial⟩, trivial⟩, ⟨gok50, ⟨gok49, trivial, trivial⟩, trivial⟩⟩, ⟨gok54, ⟨gok53, ⟨gok52, trivial, trivial⟩, trivial⟩, ⟨gok55, trivial, trivial⟩⟩⟩, ⟨gok61, ⟨gok59, ⟨gok58, ⟨gok57, trivial, trivial⟩, trivial⟩, ⟨gok60, trivial, trivial⟩⟩, ⟨gok64, ⟨gok63, ⟨gok62, trivial, trivial⟩, trivial⟩, ⟨gok65, trivial, trivial⟩⟩⟩⟩, ⟨gok77, ⟨gok72, ⟨gok69, ⟨gok68, ⟨gok67, trivial, trivial⟩, trivial⟩, ⟨gok71, ⟨gok70, trivial, trivial⟩, trivial⟩⟩, ⟨gok75, ⟨gok74, ⟨gok73, trivial, trivial⟩, trivial⟩, ⟨gok76, trivial, trivial⟩⟩⟩, ⟨gok82, ⟨gok80, ⟨gok79, ⟨gok78, trivial, trivial⟩, trivial⟩, ⟨gok81, trivial, trivial⟩⟩, ⟨gok85, ⟨gok84, ⟨gok83, trivial, trivial⟩, trivial⟩, ⟨gok86, trivial, trivial⟩⟩⟩⟩⟩⟩
theorem fast {n : Nat} {f : Nat} {args : List AV} {S : AS} {r : AV × AS} {o : Orc} (h : rF E o gT n (.fn f) args S = some r) : evF E o n (.fn f) args S = some r := rF_le (fun f g h => gAll.find h) n _ _ _ _ h
end
end Go.Al
