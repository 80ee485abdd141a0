/- The law CacheNil: no home and a nil cache, whatever the numbers and the bytes; for every order and every capacity that the model leaves open. -/
import Derived.Test.YtffeeebegglejaaRows
import Derived.Test.YtffeeebegglejaaCaNil
import Derived.WalkKit
import Derived.JoinedCond
set_option linter.unusedVariables false
namespace Go.Proofs.Ytffeeebegglejaa.cacheNil
open Go.Gr Go.RowKit Go.ChangeShapes Go.WideShapes

theorem own : ownKnob Try.prog.godebug = none := by kernel_rfl

theorem room {w : World} {r : Reach} {base : Nat} {v : Value} {t e : TypeId} {P : Program} (ht : P.underlying t = some (.slice e)) (h : Value.okWide P w r base t v) : v = .slice none 0 0 ∨ ∃ N0, Room w N0 := by
  obtain ⟨a, l, c, rfl⟩ := Go.WideShapes.okWide_slice ht h
  cases a with
  | some A =>
    obtain ⟨C, hC⟩ := arg_block w ht h
    exact .inr ⟨_, room_of w hC⟩
  | none =>
    left
    simp only [Value.okWide, ht, Cell.okWide, Cell.ok] at h
    split at h <;> simp_all

set_option maxRecDepth 100000 in
theorem contract (H : Type) (enc : TypeId × Value → H) (W : World) (base : Nat) (args : Array Value) (ds gs : List (DataW H)) (before : List MemPlace)
    (hval : ∀ (j : Nat) t v, Try.f4.params[j]? = some t → args[j]? = some v → Value.okWide Try.prog W .any base t v)
    (hW : DataW.Whole enc Try.prog Try.f4.params.toList Rows.cacheNilSpec.vars false W args.toList ds gs before) :
    Calls Try.prog 4 args W fun e W' => ∃ v, e = .returned v ∧ Rows.cacheNilSpec.post enc Try.prog Try.f4 false true false false W args v W' := by
  have hW' := hW
  obtain ⟨p, q, hA0, hV, hpq, hfz, hnd⟩ := hW
  have hA : DataW.TrodAll enc Try.prog W 0 (fun _ => true) true Try.f4.params.toList args.toList ds p := hA0
  have hp : Try.f4.params = #[3, 27, 3] := by kernel_rfl
  rw [hp] at hA hval
  obtain ⟨v0, v1, v2, d0, d1, d2, p0, p1, p2, rfl, rfl, rfl, t0, t1, t2⟩ := trodAll_three hA
  obtain ⟨b, rfl, rfl, rfl, _⟩ := open_int (k := .i64) Try.underlying3 (hval 0 3 v0 rfl rfl) t0
  obtain ⟨m, rfl, rfl, rfl, _⟩ := open_int (k := .i64) Try.underlying3 (hval 2 3 v2 rfl rfl) t2
  have hg : gs = [] := by
    cases gs with
    | nil => rfl
    | cons g gs => exact hV.elim
  subst hg
  have ok1 := hval 1 27 v1 rfl rfl
  obtain ⟨N0, r1⟩ : ∃ N0, v1 = .slice none 0 0 ∨ Room W N0 := by
    rcases room Try.underlying27 ok1 with h | ⟨N0, h⟩
    · exact ⟨0, .inl h⟩
    · exact ⟨N0, .inr h⟩
  obtain ⟨_, _, _, e1⟩ := okWide_slice Try.underlying27 ok1
  have hc1 : v1.cells.toList = [v1] := by rw [e1]; rfl
  obtain ⟨m1, t1⟩ := t1
  rw [hc1] at t1
  obtain ⟨a1, c1, l1, q1, o1, _, _, _⟩ := rd_ints W (k := .u8) r1 Try.underlying27 Try.underlying5 (by kernel_rfl) t1
  have e := Go.Na.nil_run 0 (Sw W N0) b m a1 l1.length c1
  have hargs : VRs (jw W) [.int .i64 b, .sl a1 l1.length c1, .int .i64 m] [.int .i64 b, v1, .int .i64 m] := by
    have h1 := vr_cv1 W N0 v1 o1
    rw [q1] at h1
    simp only [VRs]
    exact ⟨_, _, rfl, by simp [VR], _, _, rfl, h1, _, _, rfl, by simp [VR], rfl⟩
  refine (calls_of Go.Na.envOk Go.Na.orcOk e (R_w W N0) (vs := #[.int .i64 b, v1, .int .i64 m]) hargs).mono ?_
  rintro e W' ⟨v, rfl, ⟨j', h1⟩, hb⟩
  simp only [VR] at h1
  subst h1
  exact ⟨_, rfl, post_of_below (tb := 4) hW' (by kernel_rfl) (by kernel_rfl) hb rfl (by kernel_rfl) Try.underlying4 rfl⟩

set_option maxRecDepth 100000 in
theorem lifted (os : Os) (started : os.Started) (H : Type) (enc : TypeId × Value → H) :
    ReturnsInHanded {} Try.checked os 4 .any (Rows.cacheNilSpec.pre6 enc Try.prog Try.f4 Rows.cacheNilRow.domain false) (Rows.cacheNilSpec.post enc Try.prog Try.f4 false true false false) := by
  refine returnsInHanded_of_change (C := Try.checked) own started (by kernel_rfl) Try.func4
    (ChangeSpec.witness6 (enc := enc) (C := Try.checked) false ⟨#[], #[.int .i64 7, .slice none 0 0, .int .i64 7], []⟩ 8 (by kernel_rfl) (by kernel_rfl) (by kernel_rfl) (by kernel_rfl)) ?_
  intro W base args ds gs before hval hW _ _
  exact contract H enc W base args ds gs before hval hW

theorem holds : Rows.CacheNilSaid :=
  OpenClaim.holds_of_wide 4 Try.f4 rfl rfl rfl rfl rfl rfl rfl ⟨rfl, rfl, rfl, rfl, rfl⟩ rfl rfl rfl rfl rfl (by kernel_rfl) Try.func4 (by kernel_rfl)
    (of_decide_eq_true (by kernel_rfl)) (by unfold Func.isWrapper; first | (rw [if_pos (by decide +kernel)]; kernel_rfl) | (rw [if_neg (by decide +kernel)]; exact ⟨rfl, rfl⟩))
    (fun os started H enc _ => lifted os started H enc)
end Go.Proofs.Ytffeeebegglejaa.cacheNil
