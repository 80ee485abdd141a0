/- The law JournalPlays: whatever is done with a journal, with crashes and a device that fails, the program's journal answers as the document's and the blocks behind each act are the same; for what reads as of bulk at most 1048576; for every order and every capacity that the model leaves open. -/
import Derived.Test.YtcepfilbiahdjaaRows
import Derived.Test.YtcepfilbiahdjaaJoLive
import Derived.Test.YtcepfilbiahdjaaJpArgs
import Derived.WalkKit
import Derived.JoinedCond
set_option linter.unusedVariables false
namespace Go.Proofs.Ytcepfilbiahdjaa.journalPlays
open Go.Gr Go.RowKit Go.ChangeShapes Go.WideShapes
theorem own : ownKnob Try.prog.godebug = none := by kernel_rfl
set_option maxRecDepth 100000 in
theorem contract (H : Type) (enc : TypeId × Value → H) (W : World) (base : Nat) (args : Array Value) (ds gs : List (DataW H)) (before : List MemPlace)
 (hval : ∀ (j : Nat) t v, Try.f4.params[j]? = some t → args[j]? = some v → Value.okWide Try.prog W .any base t v)
 (hW : DataW.Whole enc Try.prog Try.f4.params.toList Rows.journalPlaysSpec.vars false W args.toList ds gs before) (hb : Rows.uptoSmall H (ds ++ gs) = true) :
 Calls Try.prog 4 args W fun e W' => ∃ v, e = .returned v ∧ Rows.journalPlaysSpec.post enc Try.prog Try.f4 false true false false W args v W' := by
 have hW' := hW
 obtain ⟨p, q, hA0, hV, hpq, hfz, hnd⟩ := hW
 have hA : DataW.TrodAll enc Try.prog W 0 (fun _ => true) true Try.f4.params.toList args.toList ds p := hA0
 have hp : Try.f4.params = #[49] := by kernel_rfl
 rw [hp] at hA hval
 obtain ⟨v0, d0, rfl, rfl, t0⟩ := trodAll_one hA
 have hg : gs = [] := by
  cases gs with
  | nil => rfl
  | cons g gs => exact hV.elim
 subst hg
 simp only [Rows.uptoSmall, List.append_nil, Rows.uptoBulkAll, decide_eq_true_eq] at hb
 have ok0 := hval 0 49 v0 rfl rfl
 obtain ⟨cs, rfl, hsz⟩ := okWide_struct Try.underlying49 ok0
 obtain ⟨m, t0⟩ := t0
 have t0 : DataW.trod enc Try.prog W 0 (fun _ => true) true m 49 cs.toList = some (d0, p) := t0
 obtain ⟨first, count, blocks, vl, hcs, hq⟩ := Go.Jn.play_arg t0 (by show Rows.uptoBulk d0 ≤ _; omega)
 have hcell : ∀ (i : Nat) (v : Value) (u e : TypeId), cs.toList[i]? = some v → ([3, 3, 3, 22] : List TypeId)[i]? = some u → Try.prog.underlying u = some (.slice e) → Value.okWide Try.prog W .any base u v := fun i v u e hi hu hue =>
  okWide_cell W Try.underlying49 (by kernel_rfl) ok0 (i := i) (by rw [← Array.getElem?_toList]; exact hi) hu hue
 obtain ⟨N0, n1⟩ := Go.Jn.slot (w := W) Try.underlying22 (hcell 3 vl _ _ (by rw [hcs]; rfl) rfl Try.underlying22)
 obtain ⟨a1, c1, acts, hrow, A1, B1, hlen, hone⟩ := hq N0 n1
 obtain ⟨v, S', e, rfl⟩ := Go.Jn.P.plays_run 1048601 (by omega) first count blocks (c1 := c1) hlen B1 A1 (Hp_w W N0)
 have hargs : VRs (jw W) [.agg (Go.Jn.P.plrow first count blocks a1 acts.length c1)] [.agg cs] := by
  have h0 := vr_agg W N0 cs hone
  rw [hrow] at h0
  simp only [VRs]
  exact ⟨_, _, rfl, h0, rfl⟩
 refine (calls_of Go.Jn.envOk Go.Jn.orcOk e (R_w W N0) (vs := #[.agg cs]) hargs).mono ?_
 rintro e W' ⟨v, rfl, ⟨j', h1⟩, hb⟩
 simp only [VR] at h1
 subst h1
 exact ⟨_, rfl, post_of_below (tb := 4) hW' (by kernel_rfl) (by kernel_rfl) hb rfl (by kernel_rfl) Try.underlying4 rfl⟩
set_option maxRecDepth 100000 in
theorem lifted (os : Os) (started : os.Started) (H : Type) (enc : TypeId × Value → H) (F : Stop.Interp) :
 ReturnsInHanded {} Try.checked os 4 .any ((Rows.OpenSpec.upto Rows.journalPlaysSpec).pre6 enc Try.prog Try.f4 Rows.journalPlaysUptoRow.domain false) (((Rows.OpenSpec.upto Rows.journalPlaysSpec).at F).post enc Try.prog Try.f4 false true false false) := by
 refine returnsInHanded_of_cond (C := Try.checked) (k := Rows.uptoSmall) rfl own started (by kernel_rfl) Try.func4
  (OpenSpec.witness (enc := enc) (C := Try.checked) (k := Rows.uptoSmall) (x := ([.agg [.lit (.int .i64 7), .lit (.int .i64 7), .lit (.int .i64 7), .nil]], [], [])) rfl false
   ⟨#[], #[.agg #[.int .i64 7, .int .i64 7, .int .i64 7, .slice none 0 0]], []⟩ 8 (by kernel_rfl) (by kernel_rfl) (by kernel_rfl) (by kernel_rfl) (by kernel_rfl) (by kernel_rfl)) ?_
 intro W base args ds gs before hval hW _ hk _
 exact contract H enc W base args ds gs before hval hW hk
theorem holds : Rows.JournalPlaysUptoSaid :=
 OpenClaim.holds_of_cond 4 Try.f4 rfl rfl rfl rfl rfl rfl rfl ⟨rfl, rfl, rfl, rfl, rfl⟩ rfl rfl rfl rfl rfl (by kernel_rfl) Try.func4 (by kernel_rfl)
  (of_decide_eq_true (by kernel_rfl)) (by unfold Func.isWrapper; first | (rw [if_pos (by decide +kernel)]; kernel_rfl) | (rw [if_neg (by decide +kernel)]; exact ⟨rfl, rfl⟩))
  (fun os started H enc _ F => lifted os started H enc F)
end Go.Proofs.Ytcepfilbiahdjaa.journalPlays
