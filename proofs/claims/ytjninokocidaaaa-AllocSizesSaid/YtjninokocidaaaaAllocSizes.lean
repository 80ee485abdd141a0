/- The law AllocSizes: how many blocks there may be, whatever the integer; for every order and every capacity that the model leaves open. -/
import Derived.Test.YtjninokocidaaaaRows
import Derived.Test.YtjninokocidaaaaAlLive
import Derived.Test.YtjninokocidaaaaAlB
import Derived.WalkKit
import Derived.JoinedCond
set_option linter.unusedVariables false
namespace Go.Proofs.Ytjninokocidaaaa.allocSizes
open Go.Gr Go.RowKit Go.ChangeShapes Go.WideShapes

theorem own : ownKnob Try.prog.godebug = none := by kernel_rfl

theorem contract (H : Type) (enc : TypeId × Value → H) (W : World) (base : Nat) (args : Array Value) (ds gs : List (DataW H)) (before : List MemPlace)
    (hval : ∀ (j : Nat) t v, Try.f3.params[j]? = some t → args[j]? = some v → Value.okWide Try.prog W .any base t v)
    (hW : DataW.Whole enc Try.prog Try.f3.params.toList Rows.allocSizesSpec.vars false W args.toList ds gs before) :
    Calls Try.prog 3 args W fun e W' => ∃ v, e = .returned v ∧ Rows.allocSizesSpec.post enc Try.prog Try.f3 false true false false W args v W' := by
  have hW' := hW
  obtain ⟨p, q, hA0, hV, hpq, hfz, hnd⟩ := hW
  have hA : DataW.TrodAll enc Try.prog W 0 (fun _ => true) true Try.f3.params.toList args.toList ds p := hA0
  have hp : Try.f3.params = #[3] := by kernel_rfl
  rw [hp] at hA hval
  obtain ⟨v, d, rfl, rfl, h1⟩ := trodAll_one hA
  obtain ⟨n, rfl, rfl, rfl, _⟩ := open_int (k := .i64) Try.underlying3 (hval 0 3 v rfl rfl) h1
  have hg : gs = [] := by
    cases gs with
    | nil => rfl
    | cons g gs => exact hV.elim
  subst hg
  obtain ⟨v, S', e, rfl⟩ := Go.Al.sizes_run (X := ⟨fun _ => none, []⟩) (S := S00) 70001 (by omega) ⟨rfl, rfl, by simp, by simp, by simp⟩ n
  refine (calls_of Go.Al.envOk Go.Al.orcOk e (R_empty W) (vs := #[.int .i64 n]) (by simp [VRs, VR])).mono ?_
  rintro e W' ⟨v, rfl, ⟨j', h1⟩, hb⟩
  simp only [VR] at h1
  subst h1
  exact ⟨_, rfl, post_of_below (tb := 4) hW' (by kernel_rfl) (by kernel_rfl) hb rfl (by kernel_rfl) Try.underlying4 rfl⟩

set_option maxRecDepth 100000 in
theorem lifted (os : Os) (started : os.Started) (H : Type) (enc : TypeId × Value → H) :
    ReturnsInHanded {} Try.checked os 3 .any (Rows.allocSizesSpec.pre6 enc Try.prog Try.f3 Rows.allocSizesRow.domain false) (Rows.allocSizesSpec.post enc Try.prog Try.f3 false true false false) := by
  refine returnsInHanded_of_change (C := Try.checked) own started (by kernel_rfl) Try.func3
    (ChangeSpec.witness6 (enc := enc) (C := Try.checked) false ⟨#[], #[.int .i64 7], []⟩ 8 (by kernel_rfl) (by kernel_rfl) (by kernel_rfl) (by kernel_rfl)) ?_
  intro W base args ds gs before hval hW _ _
  exact contract H enc W base args ds gs before hval hW

theorem holds : Rows.AllocSizesSaid :=
  OpenClaim.holds_of_wide 3 Try.f3 rfl rfl rfl rfl rfl rfl rfl ⟨rfl, rfl, rfl, rfl, rfl⟩ rfl rfl rfl rfl rfl (by kernel_rfl) Try.func3 (by kernel_rfl)
    (of_decide_eq_true (by kernel_rfl)) (by unfold Func.isWrapper; first | (rw [if_pos (by decide +kernel)]; kernel_rfl) | (rw [if_neg (by decide +kernel)]; exact ⟨rfl, rfl⟩))
    (fun os started H enc _ => lifted os started H enc)
end Go.Proofs.Ytjninokocidaaaa.allocSizes
