/- The table of the readings: a quick evaluator, and that what it answers is the evaluator's answer: by program. -/
import Derived.Test.YtcepfilbiahdjaaRes0
import Derived.Test.YtcepfilbiahdjaaRes1
import Derived.Test.YtcepfilbiahdjaaRes2
import Derived.Test.YtcepfilbiahdjaaRes3
import Derived.Test.YtcepfilbiahdjaaRes4
import Derived.Test.YtcepfilbiahdjaaRes5
import Derived.Test.YtcepfilbiahdjaaRes6
import Derived.Test.YtcepfilbiahdjaaGrFast
set_option maxRecDepth 100000
set_option linter.unusedVariables false
namespace Go.Jn
open Go.Gr
noncomputable section
def g7 (call : CallA) (n : Nat) (args : List AV) (S : AS) : RV := match args with
 | [] => J7 call n  S
 | _ => none
theorem gok7 : GOk E 7 g7 := ⟨run7, fun call n args S r h => by
 unfold g7 at h; split at h
 ·rw [J7_eq]; exact h
 ·cases h⟩
def g10 (call : CallA) (n : Nat) (args : List AV) (S : AS) : RV := match args with
 | [v0] => gIk .i64 v0 fun x0 => J10 call n x0 S
 | _ => none
theorem gok10 : GOk E 10 g10 := ⟨run10, fun call n args S r h => by
 unfold g10 at h; split at h
 ·rename_i v0; obtain ⟨x0, e0, h⟩ := gIk_inv (v := v0) h; subst e0; rw [J10_eq]; exact h
 ·cases h⟩
def g11 (call : CallA) (n : Nat) (args : List AV) (S : AS) : RV := match args with
 | [v0, v1] => gP v0 fun x0 => gL v1 fun x1a x1l x1c => J11 call n x0 x1a x1l x1c S
 | _ => none
theorem gok11 : GOk E 11 g11 := ⟨run11, fun call n args S r h => by
 unfold g11 at h; split at h
 ·rename_i v0 v1; obtain ⟨x0, e0, h⟩ := gP_inv (v := v0) h; subst e0; obtain ⟨x1a, x1l, x1c, e1, h⟩ := gL_inv (v := v1) h; subst e1; rw [J11_eq]; exact h
 ·cases h⟩
def g13 (call : CallA) (n : Nat) (args : List AV) (S : AS) : RV := match args with
 | [v0] => gIk .i64 v0 fun x0 => J13 call n x0 S
 | _ => none
theorem gok13 : GOk E 13 g13 := ⟨run13, fun call n args S r h => by
 unfold g13 at h; split at h
 ·rename_i v0; obtain ⟨x0, e0, h⟩ := gIk_inv (v := v0) h; subst e0; rw [J13_eq]; exact h
 ·cases h⟩
def g14 (call : CallA) (n : Nat) (args : List AV) (S : AS) : RV := match args with
 | [v0] => gP v0 fun x0 => J14 call n x0 S
 | _ => none
theorem gok14 : GOk E 14 g14 := ⟨run14, fun call n args S r h => by
 unfold g14 at h; split at h
 ·rename_i v0; obtain ⟨x0, e0, h⟩ := gP_inv (v := v0) h; subst e0; rw [J14_eq]; exact h
 ·cases h⟩
def g17 (call : CallA) (n : Nat) (args : List AV) (S : AS) : RV := match args with
 | [v0] => gP v0 fun x0 => J17 call n x0 S
 | _ => none
theorem gok17 : GOk E 17 g17 := ⟨run17, fun call n args S r h => by
 unfold g17 at h; split at h
 ·rename_i v0; obtain ⟨x0, e0, h⟩ := gP_inv (v := v0) h; subst e0; rw [J17_eq]; exact h
 ·cases h⟩
def g18 (call : CallA) (n : Nat) (args : List AV) (S : AS) : RV := match args with
 | [v0] => gIk .i64 v0 fun x0 => J18 call n x0 S
 | _ => none
theorem gok18 : GOk E 18 g18 := ⟨run18, fun call n args S r h => by
 unfold g18 at h; split at h
 ·rename_i v0; obtain ⟨x0, e0, h⟩ := gIk_inv (v := v0) h; subst e0; rw [J18_eq]; exact h
 ·cases h⟩
def g19 (call : CallA) (n : Nat) (args : List AV) (S : AS) : RV := match args with
 | [v0, v1, v2] => gIk .i64 v1 fun x1 => gIk .i64 v2 fun x2 => J19 call n v0 x1 x2 S
 | _ => none
theorem gok19 : GOk E 19 g19 := ⟨run19, fun call n args S r h => by
 unfold g19 at h; split at h
 ·rename_i v0 v1 v2; obtain ⟨x1, e1, h⟩ := gIk_inv (v := v1) h; subst e1; obtain ⟨x2, e2, h⟩ := gIk_inv (v := v2) h; subst e2; rw [J19_eq]; exact h
 ·cases h⟩
def g24 (call : CallA) (n : Nat) (args : List AV) (S : AS) : RV := match args with
 | [v0, v1] => gP v0 fun x0 => gL v1 fun x1a x1l x1c => J24 call n x0 x1a x1l x1c S
 | _ => none
theorem gok24 : GOk E 24 g24 := ⟨run24, fun call n args S r h => by
 unfold g24 at h; split at h
 ·rename_i v0 v1; obtain ⟨x0, e0, h⟩ := gP_inv (v := v0) h; subst e0; obtain ⟨x1a, x1l, x1c, e1, h⟩ := gL_inv (v := v1) h; subst e1; rw [J24_eq]; exact h
 ·cases h⟩
def g25 (call : CallA) (n : Nat) (args : List AV) (S : AS) : RV := match args with
 | [v0, v1, v2] => gIk .i64 v1 fun x1 => gIk .i64 v2 fun x2 => J25 call n v0 x1 x2 S
 | _ => none
theorem gok25 : GOk E 25 g25 := ⟨run25, fun call n args S r h => by
 unfold g25 at h; split at h
 ·rename_i v0 v1 v2; obtain ⟨x1, e1, h⟩ := gIk_inv (v := v1) h; subst e1; obtain ⟨x2, e2, h⟩ := gIk_inv (v := v2) h; subst e2; rw [J25_eq]; exact h
 ·cases h⟩
def g29 (call : CallA) (n : Nat) (args : List AV) (S : AS) : RV := match args with
 | [v0] => gP v0 fun x0 => J29 call n x0 S
 | _ => none
theorem gok29 : GOk E 29 g29 := ⟨run29, fun call n args S r h => by
 unfold g29 at h; split at h
 ·rename_i v0; obtain ⟨x0, e0, h⟩ := gP_inv (v := v0) h; subst e0; rw [J29_eq]; exact h
 ·cases h⟩
def g30 (call : CallA) (n : Nat) (args : List AV) (S : AS) : RV := match args with
 | [v0] => gIk .u8 v0 fun x0 => J30 call n x0 S
 | _ => none
theorem gok30 : GOk E 30 g30 := ⟨run30, fun call n args S r h => by
 unfold g30 at h; split at h
 ·rename_i v0; obtain ⟨x0, e0, h⟩ := gIk_inv (v := v0) h; subst e0; rw [J30_eq]; exact h
 ·cases h⟩
def g31 (call : CallA) (n : Nat) (args : List AV) (S : AS) : RV := match args with
 | [v0] => gP v0 fun x0 => J31 call n x0 S
 | _ => none
theorem gok31 : GOk E 31 g31 := ⟨run31, fun call n args S r h => by
 unfold g31 at h; split at h
 ·rename_i v0; obtain ⟨x0, e0, h⟩ := gP_inv (v := v0) h; subst e0; rw [J31_eq]; exact h
 ·cases h⟩
def g33 (call : CallA) (n : Nat) (args : List AV) (S : AS) : RV := match args with
 | [v0] => gL v0 fun x0a x0l x0c => J33 call n x0a x0l x0c S
 | _ => none
theorem gok33 : GOk E 33 g33 := ⟨run33, fun call n args S r h => by
 unfold g33 at h; split at h
 ·rename_i v0; obtain ⟨x0a, x0l, x0c, e0, h⟩ := gL_inv (v := v0) h; subst e0; rw [J33_eq]; exact h
 ·cases h⟩
def g34 (call : CallA) (n : Nat) (args : List AV) (S : AS) : RV := match args with
 | [v0] => gP v0 fun x0 => J34 call n x0 S
 | _ => none
theorem gok34 : GOk E 34 g34 := ⟨run34, fun call n args S r h => by
 unfold g34 at h; split at h
 ·rename_i v0; obtain ⟨x0, e0, h⟩ := gP_inv (v := v0) h; subst e0; rw [J34_eq]; exact h
 ·cases h⟩
def g35 (call : CallA) (n : Nat) (args : List AV) (S : AS) : RV := match args with
 | [v0] => gL v0 fun x0a x0l x0c => J35 call n x0a x0l x0c S
 | _ => none
theorem gok35 : GOk E 35 g35 := ⟨run35, fun call n args S r h => by
 unfold g35 at h; split at h
 ·rename_i v0; obtain ⟨x0a, x0l, x0c, e0, h⟩ := gL_inv (v := v0) h; subst e0; rw [J35_eq]; exact h
 ·cases h⟩
def g36 (call : CallA) (n : Nat) (args : List AV) (S : AS) : RV := match args with
 | [v0] => gG v0 fun x0 => J36 call n x0 S
 | _ => none
theorem gok36 : GOk E 36 g36 := ⟨run36, fun call n args S r h => by
 unfold g36 at h; split at h
 ·rename_i v0; obtain ⟨x0, e0, h⟩ := gG_inv (v := v0) h; subst e0; rw [J36_eq]; exact h
 ·cases h⟩
def g37 (call : CallA) (n : Nat) (args : List AV) (S : AS) : RV := match args with
 | [v0, v1] => gP v0 fun x0 => gIk .u64 v1 fun x1 => J37 call n x0 x1 S
 | _ => none
theorem gok37 : GOk E 37 g37 := ⟨run37, fun call n args S r h => by
 unfold g37 at h; split at h
 ·rename_i v0 v1; obtain ⟨x0, e0, h⟩ := gP_inv (v := v0) h; subst e0; obtain ⟨x1, e1, h⟩ := gIk_inv (v := v1) h; subst e1; rw [J37_eq]; exact h
 ·cases h⟩
def g38 (call : CallA) (n : Nat) (args : List AV) (S : AS) : RV := match args with
 | [v0, v1] => gP v0 fun x0 => gG v1 fun x1 => J38 call n x0 x1 S
 | _ => none
theorem gok38 : GOk E 38 g38 := ⟨run38, fun call n args S r h => by
 unfold g38 at h; split at h
 ·rename_i v0 v1; obtain ⟨x0, e0, h⟩ := gP_inv (v := v0) h; subst e0; obtain ⟨x1, e1, h⟩ := gG_inv (v := v1) h; subst e1; rw [J38_eq]; exact h
 ·cases h⟩
def g40 (call : CallA) (n : Nat) (args : List AV) (S : AS) : RV := match args with
 | [v0, v1, v2] => gIk .i64 v1 fun x1 => gIk .i64 v2 fun x2 => J40 call n v0 x1 x2 S
 | _ => none
theorem gok40 : GOk E 40 g40 := ⟨run40, fun call n args S r h => by
 unfold g40 at h; split at h
 ·rename_i v0 v1 v2; obtain ⟨x1, e1, h⟩ := gIk_inv (v := v1) h; subst e1; obtain ⟨x2, e2, h⟩ := gIk_inv (v := v2) h; subst e2; rw [J40_eq]; exact h
 ·cases h⟩
def g41 (call : CallA) (n : Nat) (args : List AV) (S : AS) : RV := match args with
 | [v0] => gG v0 fun x0 => J41 call n x0 S
 | _ => none
theorem gok41 : GOk E 41 g41 := ⟨run41, fun call n args S r h => by
 unfold g41 at h; split at h
 ·rename_i v0; obtain ⟨x0, e0, h⟩ := gG_inv (v := v0) h; subst e0; rw [J41_eq]; exact h
 ·cases h⟩
def g43 (call : CallA) (n : Nat) (args : List AV) (S : AS) : RV := match args with
 | [v0, v1, v2] => gP v0 fun x0 => gIk .i64 v1 fun x1 => gL v2 fun x2a x2l x2c => J43 call n x0 x1 x2a x2l x2c S
 | _ => none
theorem gok43 : GOk E 43 g43 := ⟨run43, fun call n args S r h => by
 unfold g43 at h; split at h
 ·rename_i v0 v1 v2; obtain ⟨x0, e0, h⟩ := gP_inv (v := v0) h; subst e0; obtain ⟨x1, e1, h⟩ := gIk_inv (v := v1) h; subst e1; obtain ⟨x2a, x2l, x2c, e2, h⟩ := gL_inv (v := v2) h; subst e2; rw [J43_eq]; exact h
 ·cases h⟩
def g44 (call : CallA) (n : Nat) (args : List AV) (S : AS) : RV := match args with
 | [v0] => gP v0 fun x0 => J44 call n x0 S
 | _ => none
theorem gok44 : GOk E 44 g44 := ⟨run44, fun call n args S r h => by
 unfold g44 at h; split at h
 ·rename_i v0; obtain ⟨x0, e0, h⟩ := gP_inv (v := v0) h; subst e0; rw [J44_eq]; exact h
 ·cases h⟩
def g53 (call : CallA) (n : Nat) (args : List AV) (S : AS) : RV := match args with
 | [v0] => gP v0 fun x0 => J53 call n x0 S
 | _ => none
theorem gok53 : GOk E 53 g53 := ⟨run53, fun call n args S r h => by
 unfold g53 at h; split at h
 ·rename_i v0; obtain ⟨x0, e0, h⟩ := gP_inv (v := v0) h; subst e0; rw [J53_eq]; exact h
 ·cases h⟩
def g54 (call : CallA) (n : Nat) (args : List AV) (S : AS) : RV := match args with
 | [v0, v1, v2, v3, v4] => gP v0 fun x0 => gIk .u64 v1 fun x1 => gIk .u64 v2 fun x2 => gG v3 fun x3 => gIk .i64 v4 fun x4 => J54 call n x0 x1 x2 x3 x4 S
 | _ => none
theorem gok54 : GOk E 54 g54 := ⟨run54, fun call n args S r h => by
 unfold g54 at h; split at h
 ·rename_i v0 v1 v2 v3 v4; obtain ⟨x0, e0, h⟩ := gP_inv (v := v0) h; subst e0; obtain ⟨x1, e1, h⟩ := gIk_inv (v := v1) h; subst e1; obtain ⟨x2, e2, h⟩ := gIk_inv (v := v2) h; subst e2; obtain ⟨x3, e3, h⟩ := gG_inv (v := v3) h; subst e3; obtain ⟨x4, e4, h⟩ := gIk_inv (v := v4) h; subst e4; rw [J54_eq]; exact h
 ·cases h⟩
def g56 (call : CallA) (n : Nat) (args : List AV) (S : AS) : RV := match args with
 | [v0, v1, v2] => gL v0 fun x0a x0l x0c => gIk .u64 v1 fun x1 => gIk .i64 v2 fun x2 => J56 call n x0a x0l x0c x1 x2 S
 | _ => none
theorem gok56 : GOk E 56 g56 := ⟨run56, fun call n args S r h => by
 unfold g56 at h; split at h
 ·rename_i v0 v1 v2; obtain ⟨x0a, x0l, x0c, e0, h⟩ := gL_inv (v := v0) h; subst e0; obtain ⟨x1, e1, h⟩ := gIk_inv (v := v1) h; subst e1; obtain ⟨x2, e2, h⟩ := gIk_inv (v := v2) h; subst e2; rw [J56_eq]; exact h
 ·cases h⟩
def g57 (call : CallA) (n : Nat) (args : List AV) (S : AS) : RV := match args with
 | [v0] => gL v0 fun x0a x0l x0c => J57 call n x0a x0l x0c S
 | _ => none
theorem gok57 : GOk E 57 g57 := ⟨run57, fun call n args S r h => by
 unfold g57 at h; split at h
 ·rename_i v0; obtain ⟨x0a, x0l, x0c, e0, h⟩ := gL_inv (v := v0) h; subst e0; rw [J57_eq]; exact h
 ·cases h⟩
def g59 (call : CallA) (n : Nat) (args : List AV) (S : AS) : RV := match args with
 | [v0, v1] => gP v0 fun x0 => gIk .i64 v1 fun x1 => J59 call n x0 x1 S
 | _ => none
theorem gok59 : GOk E 59 g59 := ⟨run59, fun call n args S r h => by
 unfold g59 at h; split at h
 ·rename_i v0 v1; obtain ⟨x0, e0, h⟩ := gP_inv (v := v0) h; subst e0; obtain ⟨x1, e1, h⟩ := gIk_inv (v := v1) h; subst e1; rw [J59_eq]; exact h
 ·cases h⟩
def g68 (call : CallA) (n : Nat) (args : List AV) (S : AS) : RV := match args with
 | [v0] => gL v0 fun x0a x0l x0c => J68 call n x0a x0l x0c S
 | _ => none
theorem gok68 : GOk E 68 g68 := ⟨run68, fun call n args S r h => by
 unfold g68 at h; split at h
 ·rename_i v0; obtain ⟨x0a, x0l, x0c, e0, h⟩ := gL_inv (v := v0) h; subst e0; rw [J68_eq]; exact h
 ·cases h⟩
def g69 (call : CallA) (n : Nat) (args : List AV) (S : AS) : RV := match args with
 | [v0] => gL v0 fun x0a x0l x0c => J69 call n x0a x0l x0c S
 | _ => none
theorem gok69 : GOk E 69 g69 := ⟨run69, fun call n args S r h => by
 unfold g69 at h; split at h
 ·rename_i v0; obtain ⟨x0a, x0l, x0c, e0, h⟩ := gL_inv (v := v0) h; subst e0; rw [J69_eq]; exact h
 ·cases h⟩
def g70 (call : CallA) (n : Nat) (args : List AV) (S : AS) : RV := match args with
 | [v0, v1] => gG v0 fun x0 => gG v1 fun x1 => J70 call n x0 x1 S
 | _ => none
theorem gok70 : GOk E 70 g70 := ⟨run70, fun call n args S r h => by
 unfold g70 at h; split at h
 ·rename_i v0 v1; obtain ⟨x0, e0, h⟩ := gG_inv (v := v0) h; subst e0; obtain ⟨x1, e1, h⟩ := gG_inv (v := v1) h; subst e1; rw [J70_eq]; exact h
 ·cases h⟩
def g71 (call : CallA) (n : Nat) (args : List AV) (S : AS) : RV := match args with
 | [v0] => gL v0 fun x0a x0l x0c => J71 call n x0a x0l x0c S
 | _ => none
theorem gok71 : GOk E 71 g71 := ⟨run71, fun call n args S r h => by
 unfold g71 at h; split at h
 ·rename_i v0; obtain ⟨x0a, x0l, x0c, e0, h⟩ := gL_inv (v := v0) h; subst e0; rw [J71_eq]; exact h
 ·cases h⟩
def g72 (call : CallA) (n : Nat) (args : List AV) (S : AS) : RV := match args with
 | [v0, v1] => gL v0 fun x0a x0l x0c => gIk .u64 v1 fun x1 => J72 call n x0a x0l x0c x1 S
 | _ => none
theorem gok72 : GOk E 72 g72 := ⟨run72, fun call n args S r h => by
 unfold g72 at h; split at h
 ·rename_i v0 v1; obtain ⟨x0a, x0l, x0c, e0, h⟩ := gL_inv (v := v0) h; subst e0; obtain ⟨x1, e1, h⟩ := gIk_inv (v := v1) h; subst e1; rw [J72_eq]; exact h
 ·cases h⟩
def g77 (call : CallA) (n : Nat) (args : List AV) (S : AS) : RV := match args with
 | [v0] => gL v0 fun x0a x0l x0c => J77 call n x0a x0l x0c S
 | _ => none
theorem gok77 : GOk E 77 g77 := ⟨run77, fun call n args S r h => by
 unfold g77 at h; split at h
 ·rename_i v0; obtain ⟨x0a, x0l, x0c, e0, h⟩ := gL_inv (v := v0) h; subst e0; rw [J77_eq]; exact h
 ·cases h⟩
def g78 (call : CallA) (n : Nat) (args : List AV) (S : AS) : RV := match args with
 | [v0, v1] => gL v0 fun x0a x0l x0c => gL v1 fun x1a x1l x1c => J78 call n x0a x0l x0c x1a x1l x1c S
 | _ => none
theorem gok78 : GOk E 78 g78 := ⟨run78, fun call n args S r h => by
 unfold g78 at h; split at h
 ·rename_i v0 v1; obtain ⟨x0a, x0l, x0c, e0, h⟩ := gL_inv (v := v0) h; subst e0; obtain ⟨x1a, x1l, x1c, e1, h⟩ := gL_inv (v := v1) h; subst e1; rw [J78_eq]; exact h
 ·cases h⟩
def g79 (call : CallA) (n : Nat) (args : List AV) (S : AS) : RV := match args with
 | [v0] => gL v0 fun x0a x0l x0c => J79 call n x0a x0l x0c S
 | _ => none
theorem gok79 : GOk E 79 g79 := ⟨run79, fun call n args S r h => by
 unfold g79 at h; split at h
 ·rename_i v0; obtain ⟨x0a, x0l, x0c, e0, h⟩ := gL_inv (v := v0) h; subst e0; rw [J79_eq]; exact h
 ·cases h⟩
def g97 (call : CallA) (n : Nat) (args : List AV) (S : AS) : RV := match args with
 | [v0] => gP v0 fun x0 => J97 call n x0 S
 | _ => none
theorem gok97 : GOk E 97 g97 := ⟨run97, fun call n args S r h => by
 unfold g97 at h; split at h
 ·rename_i v0; obtain ⟨x0, e0, h⟩ := gP_inv (v := v0) h; subst e0; rw [J97_eq]; exact h
 ·cases h⟩
def gT : BT (CallA → Nat → List AV → AS → RV) := .node 38 g38 (.node 25 g25 (.node 14 g14 (.node 11 g11 (.node 10 g10 (.node 7 g7 .nil .nil) .nil) (.node 13 g13 .nil .nil)) (.node 19 g19 (.node 18 g18 (.node 17 g17 .nil .nil) .nil) (.node 24 g24 .nil .nil))) (.node 34 g34 (.node 31 g31 (.node 30 g30 (.node 29 g29 .nil .nil) .nil) (.node 33 g33 .nil .nil)) (.node 36 g36 (.node 35 g35 .nil .nil) (.node 37 g37 .nil .nil)))) (.node 68 g68 (.node 53 g53 (.node 43 g43 (.node 41 g41 (.node 40 g40 .nil .nil) .nil) (.node 44 g44 .nil .nil)) (.node 57 g57 (.node 56 g56 (.node 54 g54 .nil .nil) .nil) (.node 59 g59 .nil .nil))) (.node 77 g77 (.node 71 g71 (.node 70 g70 (.node 69 g69 .nil .nil) .nil) (.node 72 g72 .nil .nil)) (.node 79 g79 (.node 78 g78 .nil .nil) (.node 97 g97 .nil .nil))))
theorem gAll : BT.All (fun f g => GOk E f g) gT := ⟨gok38, ⟨gok25, ⟨gok14, ⟨gok11, ⟨gok10, ⟨gok7, trivial, trivial⟩, trivial⟩, ⟨gok13, trivial, trivial⟩⟩, ⟨gok19, ⟨gok18, ⟨gok17, trivial, trivial⟩, trivial⟩, ⟨gok24, trivial, trivial⟩⟩⟩, ⟨gok34, ⟨gok31, ⟨gok30, ⟨gok29, trivial, trivial⟩, trivial⟩, ⟨gok33, trivial, trivial⟩⟩, ⟨gok36, ⟨gok35, trivial, trivial⟩, ⟨gok37, trivial, trivial⟩⟩⟩⟩, ⟨gok68, ⟨gok53, ⟨gok43, ⟨gok41, ⟨gok40, trivial, trivial⟩, trivial⟩, ⟨gok44, trivial, trivial⟩⟩, ⟨gok57, ⟨gok56, ⟨gok54, trivial, trivial⟩, trivial⟩, ⟨gok59, trivial, trivial⟩⟩⟩, ⟨gok77, ⟨gok71, ⟨gok70, ⟨gok69, trivial, trivial⟩, trivial⟩, ⟨gok72, trivial, trivial⟩⟩, ⟨gok79, ⟨gok78, trivial, trivial⟩, ⟨gok97, trivial, trivial⟩⟩⟩⟩⟩
theorem fast {n : Nat} {f : Nat} {args : List AV} {S : AS} {r : AV × AS} {o : Orc} (h : rF E o gT n (.fn f) args S = some r) : evF E o n (.fn f) args S = some r := rF_le (fun f g h => gAll.find h) n _ _ _ _ h
end
end Go.Jn
