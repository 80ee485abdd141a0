/- The law AllocReserved: what is reserved is there; for every order and every capacity that the model leaves open. -/
import Derived.Test.YtjninokocidaaaaRows
import Derived.Test.YtjninokocidaaaaAlLive
import Derived.Test.YtjninokocidaaaaAlI
import Derived.Test.YtjninokocidaaaaAlArgs
import Derived.WalkKit
import Derived.JoinedCond
set_option linter.unusedVariables false
namespace Go.Proofs.Ytjninokocidaaaa.allocReserved
open Go.Gr Go.RowKit Go.ChangeShapes Go.WideShapes

theorem own : ownKnob Try.prog.godebug = none := by kernel_rfl

set_option maxRecDepth 100000 in
theorem contract (H : Type) (enc : TypeId × Value → H) (W : World) (base : Nat) (args : Array Value) (ds gs : List (DataW H)) (before : List MemPlace)
    (hval : ∀ (j : Nat) t v, Try.f5.params[j]? = some t → args[j]? = some v → Value.okWide Try.prog W .any base t v)
    (hW : DataW.Whole enc Try.prog Try.f5.params.toList Rows.allocReservedSpec.vars false W args.toList ds gs before) :
    Calls Try.prog 5 args W fun e W' => ∃ v, e = .returned v ∧ Rows.allocReservedSpec.post enc Try.prog Try.f5 false true false false W args v W' := by
  have hW' := hW
  obtain ⟨p, q, hA0, hV, hpq, hfz, hnd⟩ := hW
  have hA : DataW.TrodAll enc Try.prog W 0 (fun _ => true) true Try.f5.params.toList args.toList ds p := hA0
  have hp : Try.f5.params = #[46] := by kernel_rfl
  rw [hp] at hA hval
  obtain ⟨v, d, rfl, rfl, t0⟩ := trodAll_one hA
  have hg : gs = [] := by
    cases gs with
    | nil => rfl
    | cons g gs => exact hV.elim
  subst hg
  have ok0 := hval 0 46 v (by simp) (by simp)
  obtain ⟨cs, rfl, hsz⟩ := okWide_struct Try.underlying46 ok0
  obtain ⟨m, t0⟩ := t0
  have t0 : DataW.trod enc Try.prog W 0 (fun _ => true) true m 46 cs.toList = some (d, p) := t0
  obtain ⟨xs, k, _, hd, hl, hx, hf⟩ := DataW.trod_struct Try.underlying46 t0
  rw [show Try.prog.cellsOf 46 = 4 by kernel_rfl] at hl
  obtain ⟨v0, v1, v2, v3, hcs⟩ := Go.Al.four hl
  obtain ⟨y0, y1, y2, y3, rfl⟩ := Go.Al.four (l := xs) (by rw [hx]; rfl)
  rw [hcs] at hf
  have f0 := hf 0 _ rfl
  have f1 := hf 1 _ rfl
  have f2 := hf 2 _ rfl
  have f3 := hf 3 _ rfl
  simp only [Go.Al.c_int, Go.Al.c_acts, List.drop_zero, List.drop_succ_cons, List.take_succ_cons, List.take_zero, List.getElem?_cons_zero, List.getElem?_cons_succ] at f0 f1 f2 f3
  obtain ⟨n0, e0, _, w0⟩ := DataW.trod_int Try.underlying3 f0
  obtain ⟨n2, e2, _, w2⟩ := DataW.trod_int Try.underlying3 f2
  obtain ⟨n3, e3, _, w3⟩ := DataW.trod_int Try.underlying3 f3
  cases e0; cases e2; cases e3
  have ok1 : Value.okWide Try.prog W .any base 34 v1 := okWide_cell W Try.underlying46 (ts := [3, 34, 3, 3]) (by kernel_rfl) ok0 (i := 1) (by rw [← Array.getElem?_toList, hcs]; rfl) rfl Try.underlying34
  obtain ⟨N0, r1, _⟩ := Go.Al.room2 (w := W) Try.underlying34 Try.underlying34 ok1 ok1
  obtain ⟨a1, c1, x1, q1, o1, A1⟩ := Go.Al.acts_arg r1 f1
  obtain ⟨v, S', e, rfl⟩ := Go.Al.reserved_run 1000001 (by omega) (Hp_w W N0) (c := c1) A1 n0 n2 n3
  have hargs : VRs (jw W) [.agg [.int .i64 n0, .sl a1 x1.length c1, .int .i64 n2, .int .i64 n3]] [.agg cs] := by
    have h1 := vr_agg W N0 cs (by
      rw [hcs]; intro u hu
      simp only [List.mem_cons, List.not_mem_nil, or_false] at hu
      rcases hu with rfl | rfl | rfl | rfl
      · rfl
      · exact o1
      · rfl
      · rfl)
    rw [hcs] at h1
    simp only [List.map_cons, List.map_nil, q1, Go.Al.rdV_int] at h1
    simp only [VRs]
    exact ⟨_, _, rfl, h1, rfl⟩
  refine (calls_of Go.Al.envOk Go.Al.orcOk e (R_w W N0) (vs := #[.agg cs]) hargs).mono ?_
  rintro e W' ⟨v, rfl, ⟨j', h1⟩, hb⟩
  simp only [VR] at h1
  subst h1
  exact ⟨_, rfl, post_of_below (tb := 4) hW' (by kernel_rfl) (by kernel_rfl) hb rfl (by kernel_rfl) Try.underlying4 rfl⟩

set_option maxRecDepth 100000 in
theorem lifted (os : Os) (started : os.Started) (H : Type) (enc : TypeId × Value → H) :
    ReturnsInHanded {} Try.checked os 5 .any (Rows.allocReservedSpec.pre6 enc Try.prog Try.f5 Rows.allocReservedRow.domain false) (Rows.allocReservedSpec.post enc Try.prog Try.f5 false true false false) := by
  refine returnsInHanded_of_change (C := Try.checked) own started (by kernel_rfl) Try.func5
    (ChangeSpec.witness6 (enc := enc) (C := Try.checked) false ⟨#[], #[.agg #[.int .i64 7, .slice none 0 0, .int .i64 7, .int .i64 7]], []⟩ 8 (by kernel_rfl) (by kernel_rfl) (by kernel_rfl) (by kernel_rfl)) ?_
  intro W base args ds gs before hval hW _ _
  exact contract H enc W base args ds gs before hval hW

theorem holds : Rows.AllocReservedSaid :=
  OpenClaim.holds_of_wide 5 Try.f5 rfl rfl rfl rfl rfl rfl rfl ⟨rfl, rfl, rfl, rfl, rfl⟩ rfl rfl rfl rfl rfl (by kernel_rfl) Try.func5 (by kernel_rfl)
    (of_decide_eq_true (by kernel_rfl)) (by unfold Func.isWrapper; first | (rw [if_pos (by decide +kernel)]; kernel_rfl) | (rw [if_neg (by decide +kernel)]; exact ⟨rfl, rfl⟩))
    (fun os started H enc _ => lifted os started H enc)
end Go.Proofs.Ytjninokocidaaaa.allocReserved
