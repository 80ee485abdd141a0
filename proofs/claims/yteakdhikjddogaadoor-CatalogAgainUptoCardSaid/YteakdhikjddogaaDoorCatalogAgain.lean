/- The law CatalogAgain, where what it reads is of bulk at most 1048576: retired, and retired again; numbers and ticks rise; for every order and every capacity that the model leaves open, whatever the listed package-level variables hold (the tied card lists them: the proof does not read them). -/
import Derived.Test.YteakdhikjddogaaDoorRows
import Derived.Test.YteakdhikjddogaaDoorCards
import Derived.Test.YteakdhikjddogaaDoorTie
import Derived.Test.YteakdhikjddogaaDoorCtLive
import Derived.Test.YteakdhikjddogaaDoorCtArg2
import Derived.WalkKit
import Derived.JoinedCond
import Derived.ProofKit
import Derived.LaidMore
import Derived.OpenShut
import Derived.Stop.Joined
import Derived.Deep.DeepHandedRow
set_option linter.unusedVariables false
set_option linter.unusedSimpArgs false
namespace Go.Proofs.YteakdhikjddogaaDoor.catalogAgain
open Go.Gr Go.RowKit Go.ChangeShapes Go.WideShapes Go.ChangeAt

theorem own : ownKnob Tryd.prog.godebug = none := by kernel_rfl

theorem laid_met (os : Os) : laidMet Tryd.prog Rows.catalogAgainUptoRow.laid ((World.doorLaid Tryd.prog 62 os).forCall (fun _ _ => 0) ⟨#[], #[.slice none 0 0, .agg #[.int .i64 7, .slice none 0 0]], []⟩).memory :=
  laidMet_of_run' 8 (by kernel_rfl) (by kernel_rfl)

set_option maxRecDepth 100000 in
theorem contract (H : Type) (enc : TypeId × Value → H) (W : World) (base : Nat) (args : Array Value) (ds gs : List (DataW H)) (before : List MemPlace)
    (hval : ∀ (j : Nat) t v, Tryd.f6.params[j]? = some t → args[j]? = some v → Value.okWide Tryd.prog W .any base t v)
    (hW : DataW.Whole enc Tryd.prog Tryd.f6.params.toList Rows.catalogAgainSpec.vars false W args.toList ds gs before) (hb : Rows.uptoSmall H (ds ++ gs) = true) :
    Calls Tryd.prog 6 args W fun e W' => ∃ v, e = .returned v ∧ Rows.catalogAgainSpec.post enc Tryd.prog Tryd.f6 false true false false W args v W' := by
  have hW' := hW
  obtain ⟨p, q, hA0, hV, hpq, hfz, hnd⟩ := hW
  have hA : DataW.TrodAll enc Tryd.prog W 0 (fun _ => true) true Tryd.f6.params.toList args.toList ds p := hA0
  have hp : Tryd.f6.params = #[53, 24] := by kernel_rfl
  rw [hp] at hA hval
  obtain ⟨v0, v1, d0, d1, p0, p1, rfl, rfl, rfl, t0, t1⟩ := trodAll_two hA
  have hg : gs = [] := by
    cases gs with
    | nil => rfl
    | cons g gs => exact hV.elim
  subst hg
  simp only [Rows.uptoSmall, List.append_nil, Rows.uptoBulkAll, decide_eq_true_eq] at hb
  have ok0 := hval 0 53 v0 rfl rfl
  have ok1 := hval 1 24 v1 rfl rfl
  obtain ⟨cs, rfl, hsz⟩ := okWide_struct Tryd.underlying24 ok1
  obtain ⟨m, t1⟩ := t1
  have t1 : DataW.trod enc Tryd.prog W 0 (fun _ => true) true m 24 cs.toList = some (d1, p1) := t1
  obtain ⟨xs, k, _, hd, hl, hx, hf⟩ := DataW.trod_struct Tryd.underlying24 t1
  rw [Go.Ct.c_pol] at hl
  obtain ⟨u0, u1, hcs⟩ := Go.Ct.two hl
  obtain ⟨y0, y1, rfl⟩ := Go.Ct.two (l := xs) (by rw [hx]; rfl)
  rw [hcs] at hf
  have f0 := hf 0 _ rfl
  have f1 := hf 1 _ rfl
  simp only [Go.Ct.c_int, Go.Ct.c_rules, List.drop_zero, List.drop_succ_cons, List.take_succ_cons, List.take_zero, List.getElem?_cons_zero, List.getElem?_cons_succ] at f0 f1
  obtain ⟨n0, e0, _, w0⟩ := DataW.trod_int Tryd.underlying3 f0
  cases e0
  have okr : Value.okWide Tryd.prog W .any base 22 u1 := okWide_cell W Tryd.underlying24 (ts := [3, 22]) (by kernel_rfl) ok1 (i := 1) (by rw [← Array.getElem?_toList, hcs]; rfl) rfl Tryd.underlying22
  obtain ⟨N0, r1, r2⟩ := Go.Ct.room2 (w := W) Tryd.underlying22 Tryd.underlying53 okr ok0
  obtain ⟨_, _, _, e1⟩ := okWide_slice Tryd.underlying53 ok0
  have hc0 : v0.cells.toList = [v0] := by rw [e1]; rfl
  obtain ⟨m0, t0⟩ := t0
  rw [hc0] at t0
  obtain ⟨a1, c1, x1, q1, o1, A1, B1⟩ := Go.Ct.rules_arg r1 f1
  obtain ⟨a2, c2, x2, q2, o2, A2, B2, L2⟩ := Go.Ct.acts_arg r2 t0 (by show Rows.uptoBulk d0 ≤ _; omega)
  obtain ⟨v, S', e, rfl⟩ := Go.Ct.again_run 80001 (by omega) (Hp_w W N0) (Go.Ct.rsb (Go.Ct.b_i64 (Go.Ct.b_wf w0)) B1) (rc := c1) (ac := c2) A1 A2 B2 L2
  have hargs : VRs (jw W) [.sl a2 x2.length c2, .agg (Go.Ct.pV n0 a1 x1.length c1)] [v0, .agg cs] := by
    have h0 := vr_agg W N0 cs (by
      rw [hcs]; intro u hu
      simp only [List.mem_cons, List.not_mem_nil, or_false] at hu
      rcases hu with rfl | rfl
      · rfl
      · exact o1)
    rw [hcs] at h0
    simp only [List.map_cons, List.map_nil, q1, Go.Ct.rdV_int] at h0
    have h1 := vr_cv1 W N0 v0 o2
    rw [q2] at h1
    simp only [VRs]
    exact ⟨_, _, rfl, h1, _, _, rfl, h0, rfl⟩
  refine (calls_of Go.Ct.envOk Go.Ct.orcOk e (R_w W N0) (vs := #[v0, .agg cs]) hargs).mono ?_
  rintro e W' ⟨v, rfl, ⟨j', h1⟩, hb⟩
  simp only [VR] at h1
  subst h1
  exact ⟨_, rfl, post_of_below (tb := 4) hW' (by kernel_rfl) (by kernel_rfl) hb rfl (by kernel_rfl) Tryd.underlying4 rfl⟩

theorem reads (os : Os) {H : Type} (enc : TypeId × Value → H) : ∃ places, DataW.whole enc Tryd.prog ((World.doorLaid Tryd.prog 62 os).forCall (fun _ _ => 0) ⟨#[], #[.slice none 0 0, .agg #[.int .i64 7, .slice none 0 0]], []⟩).memory Tryd.f6.params.toList Rows.catalogAgainSpec.vars false #[Value.slice none 0 0, .agg #[.int .i64 7, .slice none 0 0]].toList 8 = some ([.nil, .agg [.lit (.int .i64 7), .nil]], [], places) :=
  ⟨[], by kernel_rfl⟩

set_option maxRecDepth 100000 in
theorem lifted (os : Os) (started : os.Started) (H : Type) (enc : TypeId × Value → H) (F : Stop.Interp) :
    ReturnsInHanded {} Tryd.checked os 6 .any ((Rows.OpenSpec.upto Rows.catalogAgainSpec).preRow enc Tryd.prog Tryd.f6 Rows.catalogAgainUptoRow.domain false Rows.catalogAgainUptoRow.laid) (((Rows.OpenSpec.upto Rows.catalogAgainSpec).at F).post enc Tryd.prog Tryd.f6 false true false false) := by
  obtain ⟨places, hx⟩ := reads os enc
  refine returnsInHanded_of_row (C := Tryd.checked) (s := Rows.OpenSpec.upto Rows.catalogAgainSpec) own started (by kernel_rfl) Tryd.func6
    (witness_row_at (enc := enc) (C := Tryd.checked) false (World.doorLaid Tryd.prog 62 os) #[.slice none 0 0, .agg #[.int .i64 7, .slice none 0 0]] rfl (by kernel_rfl) (by kernel_rfl) (by kernel_rfl)
      (OpenSpec.preRow_of_cond 8 hx (by kernel_rfl) (fun k hk => by cases hk; kernel_rfl) (by kernel_rfl) (laid_met os))) ?_
  intro W base args ds gs before hval hW _ hk _ _ _ _
  exact contract H enc W base args ds gs before hval hW (hk _ rfl)

theorem over : Rows.CatalogAgainUptoSaid :=
  OpenClaim.holds_of_cond 6 Tryd.f6 rfl rfl rfl rfl rfl rfl rfl ⟨rfl, rfl, rfl, rfl, rfl⟩ rfl rfl rfl rfl rfl (by kernel_rfl) Tryd.func6 (by kernel_rfl)
    (of_decide_eq_true (by kernel_rfl)) (by unfold Func.isWrapper; first | (rw [if_pos (by decide +kernel)]; kernel_rfl) | (rw [if_neg (by decide +kernel)]; exact ⟨rfl, rfl⟩))
    (fun os started H enc _ F => by rw [OpenClaim.pre_eq_preRow]; exact lifted os started H enc F)

theorem holds : Rows.CatalogAgainUptoCardSaid :=
  Claim7.holds_tied_plain_at .later [] [.data, .data, .data, .sentinel, .sentinel] true (true, "4810d1baf554cba7cae6d0f4de424282f1c65af118ff96887f1d45b33b90b3dd") true
    over (fun _ h => by cases h) (by kernel_rfl) (fun _ h => by cases h) catalogAgainUpto_row_tie rfl ⟨rfl, rfl⟩ (by kernel_rfl) rfl
    (fun f fn hf hfn => by
      obtain rfl : f = 6 := Option.some.inj ((show Tryd.prog.funcNamed "granary/granarylaw18.CatalogAgain" = some 6 by kernel_rfl).symm.trans hf) |>.symm
      obtain rfl : fn = Tryd.f6 := (Option.some.inj (Tryd.func6.symm.trans hfn)).symm
      exact ⟨by kernel_rfl, fun j t ht => by
        have hp : Tryd.f6.params = #[53, 24] := by kernel_rfl
        rw [hp] at ht
        have hm : t ∈ [53, 24] := by simpa using Array.mem_of_getElem? ht
        have hall : ([53, 24].all fun u => !Tryd.prog.wantsStandIn u) = true := by kernel_rfl
        exact (show Tryd.prog.wantsStandIn t = false by simpa using List.all_eq_true.1 hall t hm)⟩)
    (by kernel_rfl)
end Go.Proofs.YteakdhikjddogaaDoor.catalogAgain
