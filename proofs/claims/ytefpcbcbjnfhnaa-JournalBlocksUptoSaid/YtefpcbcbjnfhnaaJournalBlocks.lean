/- The law JournalBlocks: every entry, superblock and transaction, and every bytes, as the document has it; for what reads as of bulk at most 1048576; for every order and every capacity that the model leaves open. -/
import Derived.Test.YtefpcbcbjnfhnaaRows
import Derived.Test.YtefpcbcbjnfhnaaJnLive
import Derived.Test.YtefpcbcbjnfhnaaJnArgs
import Derived.Test.YtefpcbcbjnfhnaaJnZ
import Derived.WalkKit
import Derived.JoinedCond
set_option linter.unusedVariables false
namespace Go.Proofs.Ytefpcbcbjnfhnaa.journalBlocks
open Go.Gr Go.RowKit Go.ChangeShapes Go.WideShapes

theorem own : ownKnob Try.prog.godebug = none := by kernel_rfl

set_option maxRecDepth 100000 in
theorem contract (H : Type) (enc : TypeId × Value → H) (W : World) (base : Nat) (args : Array Value) (ds gs : List (DataW H)) (before : List MemPlace)
    (hval : ∀ (j : Nat) t v, Try.f3.params[j]? = some t → args[j]? = some v → Value.okWide Try.prog W .any base t v)
    (hW : DataW.Whole enc Try.prog Try.f3.params.toList Rows.journalBlocksSpec.vars false W args.toList ds gs before) (hb : Rows.uptoSmall H (ds ++ gs) = true) :
    Calls Try.prog 3 args W fun e W' => ∃ v, e = .returned v ∧ Rows.journalBlocksSpec.post enc Try.prog Try.f3 false true false false W args v W' := by
  have hW' := hW
  obtain ⟨p, q, hA0, hV, hpq, hfz, hnd⟩ := hW
  have hA : DataW.TrodAll enc Try.prog W 0 (fun _ => true) true Try.f3.params.toList args.toList ds p := hA0
  have hp : Try.f3.params = #[30] := by kernel_rfl
  rw [hp] at hA hval
  obtain ⟨v0, d0, rfl, rfl, t0⟩ := trodAll_one hA
  have hg : gs = [] := by
    cases gs with
    | nil => rfl
    | cons g gs => exact hV.elim
  subst hg
  simp only [Rows.uptoSmall, List.append_nil, Rows.uptoBulkAll, decide_eq_true_eq] at hb
  have ok0 := hval 0 30 v0 rfl rfl
  obtain ⟨cs, rfl, hsz⟩ := okWide_struct Try.underlying30 ok0
  obtain ⟨m, t0⟩ := t0
  have t0 : DataW.trod enc Try.prog W 0 (fun _ => true) true m 30 cs.toList = some (d0, p) := t0
  obtain ⟨e0, e1, e2, e3, e4, e5, s0, s1, s2, s3, s4, s5, nn, ve, vt, vb, hcs, hq⟩ := Go.Jn.parts_arg t0 (by show Rows.uptoBulk d0 ≤ _; omega)
  have hcell : ∀ (i : Nat) (v : Value) (u e : TypeId), cs.toList[i]? = some v → ([22, 22, 22, 22, 3, 3, 23, 22, 22, 22, 22, 22, 22, 28, 23, 3] : List TypeId)[i]? = some u → Try.prog.underlying u = some (.slice e) → Value.okWide Try.prog W .any base u v := fun i v u e hi hu hue =>
    okWide_cell W Try.underlying30 (by kernel_rfl) ok0 (i := i) (by rw [← Array.getElem?_toList]; exact hi) hu hue
  have o1 := Go.Jn.slot (w := W) Try.underlying23 (hcell 6 ve _ _ (by rw [hcs]; rfl) rfl Try.underlying23)
  have o2 := Go.Jn.slot (w := W) Try.underlying28 (hcell 13 vt _ _ (by rw [hcs]; rfl) rfl Try.underlying28)
  have o3 := Go.Jn.slot (w := W) Try.underlying23 (hcell 14 vb _ _ (by rw [hcs]; rfl) rfl Try.underlying23)
  obtain ⟨N0, n1, n2, n3⟩ := Go.Jn.room3 o1 o2 o3
  obtain ⟨q, hrow, hB, hone⟩ := hq N0 n1 n2 n3
  obtain ⟨v, S', e, rfl⟩ := Go.Jn.blocks_run 70001 (by omega) (Hp_w W N0) hB
  have hargs : VRs (jw W) [.agg (Go.Jn.parow q)] [.agg cs] := by
    have h0 := vr_agg W N0 cs hone
    rw [hrow] at h0
    simp only [VRs]
    exact ⟨_, _, rfl, h0, rfl⟩
  refine (calls_of Go.Jn.envOk Go.Jn.orcOk e (R_w W N0) (vs := #[.agg cs]) hargs).mono ?_
  rintro e W' ⟨v, rfl, ⟨j', h1⟩, hb⟩
  simp only [VR] at h1
  subst h1
  exact ⟨_, rfl, post_of_below (tb := 4) hW' (by kernel_rfl) (by kernel_rfl) hb rfl (by kernel_rfl) Try.underlying4 rfl⟩

set_option maxRecDepth 100000 in
theorem lifted (os : Os) (started : os.Started) (H : Type) (enc : TypeId × Value → H) (F : Stop.Interp) :
    ReturnsInHanded {} Try.checked os 3 .any ((Rows.OpenSpec.upto Rows.journalBlocksSpec).pre6 enc Try.prog Try.f3 Rows.journalBlocksUptoRow.domain false) (((Rows.OpenSpec.upto Rows.journalBlocksSpec).at F).post enc Try.prog Try.f3 false true false false) := by
  refine returnsInHanded_of_cond (C := Try.checked) (k := Rows.uptoSmall) rfl own started (by kernel_rfl) Try.func3
    (OpenSpec.witness (enc := enc) (C := Try.checked) (k := Rows.uptoSmall) (x := ([.agg [.agg [.lit (.int .u64 7), .lit (.int .u64 7), .lit (.int .u64 7), .lit (.int .u64 7), .lit (.int .i64 7), .lit (.int .i64 7), .nil], .agg [.lit (.int .u64 7), .lit (.int .u64 7), .lit (.int .u64 7), .lit (.int .u64 7), .lit (.int .u64 7), .lit (.int .u64 7)], .nil, .nil, .lit (.int .i64 7)]], [], [])) rfl false
      ⟨#[], #[.agg #[.int .u64 7, .int .u64 7, .int .u64 7, .int .u64 7, .int .i64 7, .int .i64 7, .slice none 0 0, .int .u64 7, .int .u64 7, .int .u64 7, .int .u64 7, .int .u64 7, .int .u64 7, .slice none 0 0, .slice none 0 0, .int .i64 7]], []⟩ 8 (by kernel_rfl) (by kernel_rfl) (by kernel_rfl) (by kernel_rfl) (by kernel_rfl) (by kernel_rfl)) ?_
  intro W base args ds gs before hval hW _ hk _
  exact contract H enc W base args ds gs before hval hW hk

theorem holds : Rows.JournalBlocksUptoSaid :=
  OpenClaim.holds_of_cond 3 Try.f3 rfl rfl rfl rfl rfl rfl rfl ⟨rfl, rfl, rfl, rfl, rfl⟩ rfl rfl rfl rfl rfl (by kernel_rfl) Try.func3 (by kernel_rfl)
    (of_decide_eq_true (by kernel_rfl)) (by unfold Func.isWrapper; first | (rw [if_pos (by decide +kernel)]; kernel_rfl) | (rw [if_neg (by decide +kernel)]; exact ⟨rfl, rfl⟩))
    (fun os started H enc _ F => lifted os started H enc F)
end Go.Proofs.Ytefpcbcbjnfhnaa.journalBlocks
