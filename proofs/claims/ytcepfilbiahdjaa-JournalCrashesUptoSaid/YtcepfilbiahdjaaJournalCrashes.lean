/- The law JournalCrashes: behind any crash, as often as one likes, a beginning of what was appended is found, with all that was synced, and it stays; for what reads as of bulk at most 1048576; for every order and every capacity that the model leaves open. -/
import Derived.Test.YtcepfilbiahdjaaRows
import Derived.Test.YtcepfilbiahdjaaJoLive
import Derived.Test.YtcepfilbiahdjaaJqArgs
import Derived.WalkKit
import Derived.JoinedCond
set_option linter.unusedVariables false
namespace Go.Proofs.Ytcepfilbiahdjaa.journalCrashes
open Go.Gr Go.RowKit Go.ChangeShapes Go.WideShapes
theorem own : ownKnob Try.prog.godebug = none := by kernel_rfl
set_option maxRecDepth 100000 in
theorem contract (H : Type) (enc : TypeId × Value → H) (W : World) (base : Nat) (args : Array Value) (ds gs : List (DataW H)) (before : List MemPlace)
 (hval : ∀ (j : Nat) t v, Try.f5.params[j]? = some t → args[j]? = some v → Value.okWide Try.prog W .any base t v)
 (hW : DataW.Whole enc Try.prog Try.f5.params.toList Rows.journalCrashesSpec.vars false W args.toList ds gs before) (hb : Rows.uptoSmall H (ds ++ gs) = true) :
 Calls Try.prog 5 args W fun e W' => ∃ v, e = .returned v ∧ Rows.journalCrashesSpec.post enc Try.prog Try.f5 false true false false W args v W' := by
 have hW' := hW
 obtain ⟨p, q, hA0, hV, hpq, hfz, hnd⟩ := hW
 have hA : DataW.TrodAll enc Try.prog W 0 (fun _ => true) true Try.f5.params.toList args.toList ds p := hA0
 have hp : Try.f5.params = #[3, 22] := by kernel_rfl
 rw [hp] at hA hval
 obtain ⟨v0, v1, d0, d1, p0, p1, rfl, rfl, rfl, t0, t1⟩ := trodAll_two hA
 obtain ⟨x, rfl, rfl, rfl, _⟩ := open_int (k := .i64) Try.underlying3 (hval 0 3 v0 rfl rfl) t0
 have hg : gs = [] := by
  cases gs with
  | nil => rfl
  | cons g gs => exact hV.elim
 subst hg
 simp only [Rows.uptoSmall, List.append_nil, Rows.uptoBulkAll, decide_eq_true_eq] at hb
 have ok1 := hval 1 22 v1 rfl rfl
 obtain ⟨N0, r1⟩ := Go.Jn.slot (w := W) Try.underlying22 ok1
 obtain ⟨_, _, _, e1⟩ := okWide_slice Try.underlying22 ok1
 have hc1 : v1.cells.toList = [v1] := by rw [e1]; rfl
 obtain ⟨m1, t1⟩ := t1
 rw [hc1] at t1
 obtain ⟨a1, c1, x1, q1, o1, A1, B1, L1⟩ := Go.Jn.acts_arg r1 t1 (by show Rows.uptoBulk d1 ≤ _; omega)
 obtain ⟨v, S', e, rfl⟩ := Go.Jn.P.crashes_run 1048601 (by omega) x (c1 := c1) L1 B1 A1 (Hp_w W N0)
 have hargs : VRs (jw W) [.int .i64 x, .sl a1 x1.length c1] [.int .i64 x, v1] := by
  have h1 := vr_cv1 W N0 v1 o1
  rw [q1] at h1
  simp only [VRs]
  exact ⟨_, _, rfl, by simp [VR], _, _, rfl, h1, rfl⟩
 refine (calls_of Go.Jn.envOk Go.Jn.orcOk e (R_w W N0) (vs := #[.int .i64 x, v1]) hargs).mono ?_
 rintro e W' ⟨v, rfl, ⟨j', h1⟩, hb⟩
 simp only [VR] at h1
 subst h1
 exact ⟨_, rfl, post_of_below (tb := 4) hW' (by kernel_rfl) (by kernel_rfl) hb rfl (by kernel_rfl) Try.underlying4 rfl⟩
set_option maxRecDepth 100000 in
theorem lifted (os : Os) (started : os.Started) (H : Type) (enc : TypeId × Value → H) (F : Stop.Interp) :
 ReturnsInHanded {} Try.checked os 5 .any ((Rows.OpenSpec.upto Rows.journalCrashesSpec).pre6 enc Try.prog Try.f5 Rows.journalCrashesUptoRow.domain false) (((Rows.OpenSpec.upto Rows.journalCrashesSpec).at F).post enc Try.prog Try.f5 false true false false) := by
 refine returnsInHanded_of_cond (C := Try.checked) (k := Rows.uptoSmall) rfl own started (by kernel_rfl) Try.func5
  (OpenSpec.witness (enc := enc) (C := Try.checked) (k := Rows.uptoSmall) (x := ([.lit (.int .i64 7), .nil], [], [])) rfl false
   ⟨#[], #[.int .i64 7, .slice none 0 0], []⟩ 8 (by kernel_rfl) (by kernel_rfl) (by kernel_rfl) (by kernel_rfl) (by kernel_rfl) (by kernel_rfl)) ?_
 intro W base args ds gs before hval hW _ hk _
 exact contract H enc W base args ds gs before hval hW hk
theorem holds : Rows.JournalCrashesUptoSaid :=
 OpenClaim.holds_of_cond 5 Try.f5 rfl rfl rfl rfl rfl rfl rfl ⟨rfl, rfl, rfl, rfl, rfl⟩ rfl rfl rfl rfl rfl (by kernel_rfl) Try.func5 (by kernel_rfl)
  (of_decide_eq_true (by kernel_rfl)) (by unfold Func.isWrapper; first | (rw [if_pos (by decide +kernel)]; kernel_rfl) | (rw [if_neg (by decide +kernel)]; exact ⟨rfl, rfl⟩))
  (fun os started H enc _ F => lifted os started H enc F)
end Go.Proofs.Ytcepfilbiahdjaa.journalCrashes
