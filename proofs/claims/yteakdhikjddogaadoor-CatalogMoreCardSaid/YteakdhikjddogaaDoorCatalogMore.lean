/- The law CatalogMore: more is kept by more, and the last ones are kept; for every order and every capacity that the model leaves open, whatever the listed package-level variables hold (the tied card lists them: the proof does not read them). -/
import Derived.Test.YteakdhikjddogaaDoorRows
import Derived.Test.YteakdhikjddogaaDoorCards
import Derived.Test.YteakdhikjddogaaDoorTie
import Derived.Test.YteakdhikjddogaaDoorCtLive
import Derived.Test.YteakdhikjddogaaDoorCtO
import Derived.Test.YteakdhikjddogaaDoorCtArgs
import Derived.WalkKit
import Derived.JoinedCond
import Derived.ProofKit
import Derived.LaidMore
import Derived.OpenShut
import Derived.Stop.Joined
set_option linter.unusedVariables false
set_option linter.unusedSimpArgs false
namespace Go.Proofs.YteakdhikjddogaaDoor.catalogMore
open Go.Gr Go.RowKit Go.ChangeShapes Go.WideShapes Go.ChangeAt

theorem own : ownKnob Tryd.prog.godebug = none := by kernel_rfl

def laids {H : Type} : List (String × DataW H) := [("math/bits.deBruijn32tab", Rows.laid_math_bits_deBruijn32tab), ("math/bits.deBruijn64tab", Rows.laid_math_bits_deBruijn64tab), ("internal/strconv.uint64pow10", Rows.laid_internal_strconv_uint64pow10), ("strconv.ErrRange", Rows.laid_strconv_ErrRange), ("strconv.ErrSyntax", Rows.laid_strconv_ErrSyntax)]

theorem door_met (os : Os) (args : Array Value) : laidMetH Tryd.prog laids ((World.doorLaid Tryd.prog 62 os).forCall (fun _ _ => 0) ⟨#[], args, []⟩).memory :=
  laidMetH_of_parts3 (fuel := 8) (laidMet_of_run' 8 (by kernel_rfl) (by kernel_rfl)) (by kernel_rfl) (by kernel_rfl)

set_option maxRecDepth 100000 in
theorem contract (H : Type) (enc : TypeId × Value → H) (W : World) (base : Nat) (args : Array Value) (ds gs : List (DataW H)) (before : List MemPlace)
    (hval : ∀ (j : Nat) t v, Tryd.f4.params[j]? = some t → args[j]? = some v → Value.okWide Tryd.prog W .any base t v)
    (hW : DataW.Whole enc Tryd.prog Tryd.f4.params.toList Rows.catalogMoreSpec.vars false W args.toList ds gs before) :
    Calls Tryd.prog 4 args W fun e W' => ∃ v, e = .returned v ∧ Rows.catalogMoreSpec.post enc Tryd.prog Tryd.f4 false true false false W args v W' := by
  have hW' := hW
  obtain ⟨p, q, hA0, hV, hpq, hfz, hnd⟩ := hW
  have hA : DataW.TrodAll enc Tryd.prog W 0 (fun _ => true) true Tryd.f4.params.toList args.toList ds p := hA0
  have hp : Tryd.f4.params = #[40] := by kernel_rfl
  rw [hp] at hA hval
  obtain ⟨v, d, rfl, rfl, t0⟩ := trodAll_one hA
  have hg : gs = [] := by
    cases gs with
    | nil => rfl
    | cons g gs => exact hV.elim
  subst hg
  have ok0 := hval 0 40 v (by simp) (by simp)
  obtain ⟨cs, rfl, hsz⟩ := okWide_struct Tryd.underlying40 ok0
  obtain ⟨m, t0⟩ := t0
  have t0 : DataW.trod enc Tryd.prog W 0 (fun _ => true) true m 40 cs.toList = some (d, p) := t0
  obtain ⟨xs, k, _, hd, hl, hx, hf⟩ := DataW.trod_struct Tryd.underlying40 t0
  rw [show Tryd.prog.cellsOf 40 = 5 by kernel_rfl] at hl
  obtain ⟨u0, u1, u2, u3, u4, hcs⟩ := Go.Ct.five hl
  obtain ⟨y0, y1, y2, y3, rfl⟩ := Go.Ct.four (l := xs) (by rw [hx]; rfl)
  rw [hcs] at hf
  have f0 := hf 0 _ rfl
  have f1 := hf 1 _ rfl
  have f2 := hf 2 _ rfl
  have f3 := hf 3 _ rfl
  simp only [Go.Ct.c_int, Go.Ct.c_pol, Go.Ct.c_u64s, List.drop_zero, List.drop_succ_cons, List.take_succ_cons, List.take_zero, List.getElem?_cons_zero, List.getElem?_cons_succ] at f0 f1 f2 f3
  obtain ⟨n2, e2, _, w2⟩ := DataW.trod_int Tryd.underlying3 f2
  obtain ⟨n3, e3, _, w3⟩ := DataW.trod_int Tryd.underlying3 f3
  cases e2; cases e3
  obtain ⟨zs, k2, _, hd2, hl2, hx2, hf2⟩ := DataW.trod_struct Tryd.underlying24 f0
  obtain ⟨z0, z1, rfl⟩ := Go.Ct.two (l := zs) (by rw [hx2]; rfl)
  have g0 := hf2 0 _ rfl
  have g1 := hf2 1 _ rfl
  simp only [Go.Ct.c_int, Go.Ct.c_rules, List.drop_zero, List.drop_succ_cons, List.take_succ_cons, List.take_zero, List.getElem?_cons_zero, List.getElem?_cons_succ] at g0 g1
  obtain ⟨n0, e0, _, w0⟩ := DataW.trod_int Tryd.underlying3 g0
  cases e0
  have okr : Value.okWide Tryd.prog W .any base 22 u1 := okWide_cell W Tryd.underlying40 (ts := [3, 22, 25, 3, 3]) (by kernel_rfl) ok0 (i := 1) (by rw [← Array.getElem?_toList, hcs]; rfl) rfl Tryd.underlying22
  have okt : Value.okWide Tryd.prog W .any base 25 u2 := okWide_cell W Tryd.underlying40 (ts := [3, 22, 25, 3, 3]) (by kernel_rfl) ok0 (i := 2) (by rw [← Array.getElem?_toList, hcs]; rfl) rfl Tryd.underlying25
  obtain ⟨N0, r1, r2⟩ := Go.Ct.room2 (w := W) Tryd.underlying22 Tryd.underlying25 okr okt
  obtain ⟨a1, c1, x1, q1, o1, A1, B1⟩ := Go.Ct.rules_arg r1 g1
  obtain ⟨a2, c2, x2, q2, o2, A2, lo, hi⟩ := Go.Ct.ticks_arg r2 f1
  obtain ⟨v, S', e, rfl⟩ := Go.Ct.more_run 70001 (by omega) (Hp_w W N0) (last2 := n2) (cnt := n3) (Go.Ct.rsb (Go.Ct.b_i64 (Go.Ct.b_wf w0)) B1) (Go.Ct.b_i64 (Go.Ct.b_wf w2)).2 (rc := c1) (tc := c2) A1 lo hi A2
  have hargs : VRs (jw W) [.agg [.int .i64 n0, .sl a1 x1.length c1, .sl a2 x2.length c2, .int .i64 n2, .int .i64 n3]] [.agg cs] := by
    have h0 := vr_agg W N0 cs (by
      rw [hcs]; intro u hu
      simp only [List.mem_cons, List.not_mem_nil, or_false] at hu
      rcases hu with rfl | rfl | rfl | rfl | rfl
      · rfl
      · exact o1
      · exact o2
      · rfl
      · rfl)
    rw [hcs] at h0
    simp only [List.map_cons, List.map_nil, q1, q2, Go.Ct.rdV_int] at h0
    simp only [VRs]
    exact ⟨_, _, rfl, h0, rfl⟩
  refine (calls_of Go.Ct.envOk Go.Ct.orcOk e (R_w W N0) (vs := #[.agg cs]) hargs).mono ?_
  rintro e W' ⟨v, rfl, ⟨j', h1⟩, hb⟩
  simp only [VR] at h1
  subst h1
  exact ⟨_, rfl, post_of_below (tb := 4) hW' (by kernel_rfl) (by kernel_rfl) hb rfl (by kernel_rfl) Tryd.underlying4 rfl⟩

set_option maxRecDepth 100000 in
theorem lifted (os : Os) (started : os.Started) (H : Type) (enc : TypeId × Value → H) :
    ReturnsInHanded {} Tryd.checked os 4 .any (fun w args => (Rows.catalogMoreSpec.pre enc Tryd.prog Tryd.f4 [] false w args ∧ laidMetH Tryd.prog laids w) ∧ sizedMet enc Tryd.prog Tryd.f4 (OpenSpec.ofChange Rows.catalogMoreSpec) false w args)
      (Rows.catalogMoreSpec.post enc Tryd.prog Tryd.f4 false true false false) := by
  refine returnsInHanded_of_change_and (C := Tryd.checked) (X := fun w _ => laidMetH Tryd.prog laids w) (fun _ _ _ hh h => h.of_heap hh) own started (by kernel_rfl) Tryd.func4
    (ChangeSpec.witness_shaped (enc := enc) (C := Tryd.checked) (os := os) (X := fun w _ => laidMetH Tryd.prog laids w) false (World.doorLaid Tryd.prog 62 os) #[.agg #[.int .i64 7, .slice none 0 0, .slice none 0 0, .int .i64 7, .int .i64 7]] 8 rfl (World.shaped_of_RefB (by kernel_rfl) (by kernel_rfl)) (by kernel_rfl) (by kernel_rfl) (by kernel_rfl) (door_met os _)) ?_
  intro W base args ds gs before hval hW _ _ _ _
  exact contract H enc W base args ds gs before hval hW

theorem over : Rows.CatalogMoreSaid :=
  OpenClaim.holds_of_wide 4 Tryd.f4 rfl rfl rfl rfl rfl rfl rfl ⟨rfl, rfl, rfl, rfl, rfl⟩ rfl rfl rfl rfl rfl (by kernel_rfl) Tryd.func4 (by kernel_rfl)
    (of_decide_eq_true (by kernel_rfl)) (by unfold Func.isWrapper; first | (rw [if_pos (by decide +kernel)]; kernel_rfl) | (rw [if_neg (by decide +kernel)]; exact ⟨rfl, rfl⟩))
    (fun os started H enc _ => lifted os started H enc)

theorem holds : Rows.CatalogMoreCardSaid :=
  Claim7.holds_tied_plain_at .later [] [.data, .data, .data, .sentinel, .sentinel] true (true, "4810d1baf554cba7cae6d0f4de424282f1c65af118ff96887f1d45b33b90b3dd") true
    over (fun _ h => by cases h) (by kernel_rfl) (fun _ h => by cases h) catalogMore_row_tie rfl ⟨rfl, rfl⟩ (by kernel_rfl) rfl
    (fun f fn hf hfn => by
      obtain rfl : f = 4 := Option.some.inj ((show Tryd.prog.funcNamed "granary/granarylaw18.CatalogMore" = some 4 by kernel_rfl).symm.trans hf) |>.symm
      obtain rfl : fn = Tryd.f4 := (Option.some.inj (Tryd.func4.symm.trans hfn)).symm
      exact ⟨by kernel_rfl, fun j t ht => by
        have hp : Tryd.f4.params = #[40] := by kernel_rfl
        rw [hp] at ht
        have hm : t ∈ [40] := by simpa using Array.mem_of_getElem? ht
        have hall : ([40].all fun u => !Tryd.prog.wantsStandIn u) = true := by kernel_rfl
        exact (show Tryd.prog.wantsStandIn t = false by simpa using List.all_eq_true.1 hall t hm)⟩)
    (by kernel_rfl)
end Go.Proofs.YteakdhikjddogaaDoor.catalogMore
