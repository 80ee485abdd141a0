/- The law AllocPlays: every list of acts on every bitmap; for every order and every capacity that the model leaves open. -/
import Derived.Test.YtjninokocidaaaaRows
import Derived.Test.YtjninokocidaaaaAlLive
import Derived.Test.YtjninokocidaaaaAlP
import Derived.Test.YtjninokocidaaaaAlArgs
import Derived.WalkKit
import Derived.JoinedCond
set_option linter.unusedVariables false
namespace Go.Proofs.Ytjninokocidaaaa.allocPlays
open Go.Gr Go.RowKit Go.ChangeShapes Go.WideShapes

theorem own : ownKnob Try.prog.godebug = none := by kernel_rfl

set_option maxRecDepth 100000 in
theorem contract (H : Type) (enc : TypeId × Value → H) (W : World) (base : Nat) (args : Array Value) (ds gs : List (DataW H)) (before : List MemPlace)
    (hval : ∀ (j : Nat) t v, Try.f8.params[j]? = some t → args[j]? = some v → Value.okWide Try.prog W .any base t v)
    (hW : DataW.Whole enc Try.prog Try.f8.params.toList Rows.allocPlaysSpec.vars false W args.toList ds gs before) :
    Calls Try.prog 8 args W fun e W' => ∃ v, e = .returned v ∧ Rows.allocPlaysSpec.post enc Try.prog Try.f8 false true false false W args v W' := by
  have hW' := hW
  obtain ⟨p, q, hA0, hV, hpq, hfz, hnd⟩ := hW
  have hA : DataW.TrodAll enc Try.prog W 0 (fun _ => true) true Try.f8.params.toList args.toList ds p := hA0
  have hp : Try.f8.params = #[3, 31, 34] := by kernel_rfl
  rw [hp] at hA hval
  obtain ⟨v0, v1, v2, d0, d1, d2, p0, p1, p2, rfl, rfl, rfl, t0, t1, t2⟩ := trodAll_three hA
  obtain ⟨n, rfl, rfl, rfl, _⟩ := open_int (k := .i64) Try.underlying3 (hval 0 3 v0 rfl rfl) t0
  have hg : gs = [] := by
    cases gs with
    | nil => rfl
    | cons g gs => exact hV.elim
  subst hg
  have ok1 := hval 1 31 v1 rfl rfl
  have ok2 := hval 2 34 v2 rfl rfl
  obtain ⟨N0, r1, r2⟩ := Go.Al.room2 (w := W) Try.underlying31 Try.underlying34 ok1 ok2
  obtain ⟨_, _, _, e1⟩ := okWide_slice Try.underlying31 ok1
  obtain ⟨_, _, _, e2⟩ := okWide_slice Try.underlying34 ok2
  have hc1 : v1.cells.toList = [v1] := by rw [e1]; rfl
  have hc2 : v2.cells.toList = [v2] := by rw [e2]; rfl
  obtain ⟨m1, t1⟩ := t1
  obtain ⟨m2, t2⟩ := t2
  rw [hc1] at t1
  rw [hc2] at t2
  obtain ⟨a1, c1, x0, q1, o1, A1, hb1, _⟩ := rd_ints W (k := .u8) r1 Try.underlying31 Try.underlying5 (by kernel_rfl) t1
  obtain ⟨x1, rfl, hb⟩ := Go.Al.nat_bytes x0 hb1
  have B1 : RdR (Xw W N0) [] a1 (Go.Al.row .u8 x1) := by rw [Go.Al.row_map]; exact A1
  rw [List.length_map] at q1
  obtain ⟨a2, c2, x2, q2, o2, A2⟩ := Go.Al.acts_arg r2 t2
  obtain ⟨v, S', e, rfl⟩ := Go.Al.plays_run 1000001 (by omega) (Hp_w W N0) (c := c2) (c1 := c1) A2 hb B1 n
  have hargs : VRs (jw W) [.int .i64 n, .sl a1 x1.length c1, .sl a2 x2.length c2] [.int .i64 n, v1, v2] := by
    have h1 := vr_cv1 W N0 v1 o1
    have h2 := vr_cv1 W N0 v2 o2
    rw [q1] at h1
    rw [q2] at h2
    simp only [VRs]
    exact ⟨_, _, rfl, by simp [VR], _, _, rfl, h1, _, _, rfl, h2, rfl⟩
  refine (calls_of Go.Al.envOk Go.Al.orcOk e (R_w W N0) (vs := #[.int .i64 n, v1, v2]) hargs).mono ?_
  rintro e W' ⟨v, rfl, ⟨j', h1⟩, hb⟩
  simp only [VR] at h1
  subst h1
  exact ⟨_, rfl, post_of_below (tb := 4) hW' (by kernel_rfl) (by kernel_rfl) hb rfl (by kernel_rfl) Try.underlying4 rfl⟩

set_option maxRecDepth 100000 in
theorem lifted (os : Os) (started : os.Started) (H : Type) (enc : TypeId × Value → H) :
    ReturnsInHanded {} Try.checked os 8 .any (Rows.allocPlaysSpec.pre6 enc Try.prog Try.f8 Rows.allocPlaysRow.domain false) (Rows.allocPlaysSpec.post enc Try.prog Try.f8 false true false false) := by
  refine returnsInHanded_of_change (C := Try.checked) own started (by kernel_rfl) Try.func8
    (ChangeSpec.witness6 (enc := enc) (C := Try.checked) false ⟨#[], #[.int .i64 7, .slice none 0 0, .slice none 0 0], []⟩ 8 (by kernel_rfl) (by kernel_rfl) (by kernel_rfl) (by kernel_rfl)) ?_
  intro W base args ds gs before hval hW _ _
  exact contract H enc W base args ds gs before hval hW

theorem holds : Rows.AllocPlaysSaid :=
  OpenClaim.holds_of_wide 8 Try.f8 rfl rfl rfl rfl rfl rfl rfl ⟨rfl, rfl, rfl, rfl, rfl⟩ rfl rfl rfl rfl rfl (by kernel_rfl) Try.func8 (by kernel_rfl)
    (of_decide_eq_true (by kernel_rfl)) (by unfold Func.isWrapper; first | (rw [if_pos (by decide +kernel)]; kernel_rfl) | (rw [if_neg (by decide +kernel)]; exact ⟨rfl, rfl⟩))
    (fun os started H enc _ => lifted os started H enc)
end Go.Proofs.Ytjninokocidaaaa.allocPlays
