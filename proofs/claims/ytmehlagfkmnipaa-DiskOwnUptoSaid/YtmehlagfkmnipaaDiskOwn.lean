/- The law DiskOwn: one's own writes are read; a write that is stable heals its sector and no other; for what reads as of bulk at most 1048576. -/
import Derived.Test.YtmehlagfkmnipaaRows
import Derived.Test.YtmehlagfkmnipaaDiskLive
import Derived.Test.YtmehlagfkmnipaaDiskOw
import Derived.Test.YtmehlagfkmnipaaDiskArgs
import Derived.WalkKit
import Derived.JoinedCond
set_option linter.unusedVariables false
set_option linter.unusedSimpArgs false
namespace Go.Proofs.Ytmehlagfkmnipaa.diskOwn
open Go.Gr Go.RowKit Go.ChangeShapes Go.WideShapes

theorem own : ownKnob Try.prog.godebug = none := by kernel_rfl

theorem contract (H : Type) (enc : TypeId × Value → H) (W : World) (base : Nat) (args : Array Value) (ds gs : List (DataW H)) (before : List MemPlace)
    (hval : ∀ (j : Nat) t v, Try.f5.params[j]? = some t → args[j]? = some v → Value.okWide Try.prog W .any base t v)
    (hW : DataW.Whole enc Try.prog Try.f5.params.toList Rows.diskOwnSpec.vars false W args.toList ds gs before) (hb : Rows.uptoSmall H (ds ++ gs) = true) :
    Calls Try.prog 5 args W fun e W' => ∃ v, e = .returned v ∧ Rows.diskOwnSpec.post enc Try.prog Try.f5 false true false false W args v W' := by
  have hW' := hW
  obtain ⟨p, q, hA0, hV, hpq, hfz, hnd⟩ := hW
  have hA : DataW.TrodAll enc Try.prog W 0 (fun _ => true) true Try.f5.params.toList args.toList ds p := hA0
  have hp : Try.f5.params = #[47] := by kernel_rfl
  rw [hp] at hA hval
  obtain ⟨v, d, rfl, rfl, t0⟩ := trodAll_one hA
  have hg : gs = [] := by
    cases gs with
    | nil => rfl
    | cons g gs => exact hV.elim
  subst hg
  simp only [Rows.uptoSmall, List.append_nil, Rows.uptoBulkAll, decide_eq_true_eq] at hb
  have ok0 := hval 0 47 v rfl rfl
  obtain ⟨cs, rfl, hsz⟩ := okWide_struct Try.underlying47 ok0
  obtain ⟨m, t0⟩ := t0
  have t0 : DataW.trod enc Try.prog W 0 (fun _ => true) true m 47 cs.toList = some (d, p) := t0
  obtain ⟨xs, k, _, hd, hl, hx, hf⟩ := DataW.trod_struct Try.underlying47 t0
  rw [show Try.prog.cellsOf 47 = 4 by kernel_rfl] at hl
  obtain ⟨v0, v1, v2, v3, hcs⟩ := Go.Dk.four hl
  obtain ⟨y0, y1, y2, y3, rfl⟩ := Go.Dk.four (l := xs) (by rw [hx]; rfl)
  rw [hcs] at hf
  have f0 := hf 0 _ rfl
  have f1 := hf 1 _ rfl
  have f2 := hf 2 _ rfl
  have f3 := hf 3 _ rfl
  simp only [Go.Dk.c_int, Go.Dk.c_u8, Go.Dk.c_acts, List.drop_zero, List.drop_succ_cons, List.take_succ_cons, List.take_zero, List.getElem?_cons_zero, List.getElem?_cons_succ] at f0 f1 f2 f3
  obtain ⟨n0, e0, _, w0⟩ := DataW.trod_int Try.underlying3 f0
  obtain ⟨n2, e2, _, w2⟩ := DataW.trod_int Try.underlying3 f2
  obtain ⟨n3, e3, _, w3⟩ := DataW.trod_int Try.underlying5 f3
  cases e0; cases e2; cases e3
  have ok1 : Value.okWide Try.prog W .any base 38 v1 := okWide_cell W Try.underlying47 (ts := [3, 38, 3, 5]) (by kernel_rfl) ok0 (i := 1) (by rw [← Array.getElem?_toList, hcs]; rfl) rfl Try.underlying38
  obtain ⟨N0, r1, _⟩ := Go.Dk.room2 (w := W) Try.underlying38 Try.underlying38 ok1 ok1
  have hdd : d = .agg [y0.1, y1.1, y2.1, y3.1] := by have := congrArg Prod.fst hd; exact this
  obtain ⟨a1, c1, x1, q1, o1, A1⟩ := Go.Dk.acts_arg r1 f1 (by
    rw [hdd] at hb
    simp only [Rows.uptoBulk, Rows.uptoBulkAll] at hb
    omega)
  simp only [Lit.wf, Bool.and_eq_true, decide_eq_true_eq] at w3
  rw [Go.Dk.u8lo, Go.Dk.u8hi] at w3
  obtain ⟨q4, rfl⟩ : ∃ q : UInt8, n3 = ((q.toNat : Nat) : Int) := ⟨UInt8.ofNat n3.toNat, by rw [UInt8.toNat_ofNat', Nat.mod_eq_of_lt (by omega)]; omega⟩
  obtain ⟨v, S', e, rfl⟩ := Go.Dk.disk_own 80001 (by omega) (Hp_w W N0) n0 n2 q4 A1 (c := c1)
  have hargs : VRs (jw W) [.agg [.int .i64 n0, .sl a1 x1.length c1, .int .i64 n2, .int .u8 (q4.toNat : Nat)]] [.agg cs] := by
    have h1 := vr_agg W N0 cs (by
      rw [hcs]; intro u hu
      simp only [List.mem_cons, List.not_mem_nil, or_false] at hu
      rcases hu with rfl | rfl | rfl | rfl
      · rfl
      · exact o1
      · rfl
      · rfl)
    rw [hcs] at h1
    simp only [List.map_cons, List.map_nil, q1, Go.Dk.rdV_int] at h1
    simp only [VRs]
    exact ⟨_, _, rfl, h1, rfl⟩
  refine (calls_of Go.Dk.envOk Go.Dk.orcOk e (R_w W N0) (vs := #[.agg cs]) hargs).mono ?_
  rintro e W' ⟨v, rfl, ⟨j', h1⟩, hb⟩
  simp only [VR] at h1
  subst h1
  exact ⟨_, rfl, post_of_below (tb := 4) hW' (by kernel_rfl) (by kernel_rfl) hb rfl (by kernel_rfl) Try.underlying4 rfl⟩

set_option maxRecDepth 100000 in
theorem lifted (os : Os) (started : os.Started) (H : Type) (enc : TypeId × Value → H) (F : Stop.Interp) :
    ReturnsInHanded {} Try.checked os 5 .any ((Rows.OpenSpec.upto Rows.diskOwnSpec).pre6 enc Try.prog Try.f5 Rows.diskOwnUptoRow.domain false) (((Rows.OpenSpec.upto Rows.diskOwnSpec).at F).post enc Try.prog Try.f5 false true false false) := by
  refine returnsInHanded_of_cond (C := Try.checked) (k := Rows.uptoSmall) rfl own started (by kernel_rfl) Try.func5
    (OpenSpec.witness (enc := enc) (C := Try.checked) (k := Rows.uptoSmall) (x := ([.agg [.lit (.int .i64 7), .nil, .lit (.int .i64 7), .lit (.int .u8 7)]], [], [])) rfl false ⟨#[], #[.agg #[.int .i64 7, .slice none 0 0, .int .i64 7, .int .u8 7]], []⟩ 8 (by kernel_rfl) (by kernel_rfl) (by kernel_rfl) (by kernel_rfl) (by kernel_rfl) (by kernel_rfl)) ?_
  intro W base args ds gs before hval hW _ hk _
  exact contract H enc W base args ds gs before hval hW hk

theorem holds : Rows.DiskOwnUptoSaid :=
  OpenClaim.holds_of_cond 5 Try.f5 rfl rfl rfl rfl rfl rfl rfl ⟨rfl, rfl, rfl, rfl, rfl⟩ rfl rfl rfl rfl rfl (by kernel_rfl) Try.func5 (by kernel_rfl)
    (of_decide_eq_true (by kernel_rfl)) (by unfold Func.isWrapper; first | (rw [if_pos (by decide +kernel)]; kernel_rfl) | (rw [if_neg (by decide +kernel)]; exact ⟨rfl, rfl⟩))
    (fun os started H enc _ F => lifted os started H enc F)
end Go.Proofs.Ytmehlagfkmnipaa.diskOwn
