/- The seat's closed function 'live' answers true wherever it is called. -/
import Derived.Test.YtcepfilbiahdjaaJmA
import Derived.Test.YtcepfilbiahdjaaEOK
set_option linter.unusedVariables false
namespace Go.Jn
open Go.Gr
theorem ranLive : isTrue (rF E noOrc gT 10000 (.fn 7) [] S00) = true := by kernel_rfl
theorem orcOk : OrcOk orcL Go.Proofs.Try.prog := by
 refine ⟨fun f args v h => ?_⟩
 cases args with
 | cons x xs => cases h
 | nil =>
   simp only [orcL] at h
   cases hf : Nat.beq f 7 with
   | false => rw [hf] at h; cases h
   | true =>
     rw [hf] at h
     cases h
     have := Nat.eq_of_beq_eq_true hf
     subst this
     obtain ⟨S, hS⟩ := isTrue_some ranLive
     have hr := fast hS
     have hl := fun w j vs hvs => orc_of envOk (noOrc_ok _) (n := 10000) (f := 7) (v := .bool true) (by rw [hr]; rfl) rfl w j vs hvs
     exact ⟨(hl default (fun _ => none) #[] (by simp [VRs])).1, fun w j vs hvs => (hl w j vs hvs).2⟩
end Go.Jn
