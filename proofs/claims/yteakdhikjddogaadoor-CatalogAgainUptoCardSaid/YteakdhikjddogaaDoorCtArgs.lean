/- Policies and ticks that are handed in. -/
import Derived.Test.YteakdhikjddogaaDoorRows
import Derived.Test.YteakdhikjddogaaDoorCtK
import Derived.Test.YteakdhikjddogaaDoorGrArgs
import Derived.KernelRfl
set_option linter.unusedVariables false
set_option linter.unusedSimpArgs false
set_option maxRecDepth 4000
namespace Go.Ct
open Go.Gr
open Go.Proofs Go.Proofs.YteakdhikjddogaaDoor

section
variable {H : Type} {enc : TypeId × Value → H} {w : World} {N0 : Nat}

theorem c_int : Tryd.prog.cellsOf 3 = 1 := by kernel_rfl
theorem c_u64 : Tryd.prog.cellsOf 32 = 1 := by kernel_rfl
theorem c_u64s : Tryd.prog.cellsOf 25 = 1 := by kernel_rfl
theorem c_rule : Tryd.prog.cellsOf 42 = 2 := by kernel_rfl
theorem c_rules : Tryd.prog.cellsOf 22 = 1 := by kernel_rfl
theorem c_pol : Tryd.prog.cellsOf 24 = 2 := by kernel_rfl

theorem rdV_int {k : IntKind} {n : Int} : rdV w N0 (.int k n) = .int k n := rfl
theorem two {α : Type} {l : List α} (h : l.length = 2) : ∃ a b, l = [a, b] := by
  match l, h with
  | [a, b], _ => exact ⟨a, b, rfl⟩
theorem four {α : Type} {l : List α} (h : l.length = 4) : ∃ a b c d, l = [a, b, c, d] := by
  match l, h with
  | [a, b, c, d], _ => exact ⟨a, b, c, d, rfl⟩
theorem five {α : Type} {l : List α} (h : l.length = 5) : ∃ a b c d e, l = [a, b, c, d, e] := by
  match l, h with
  | [a, b, c, d, e], _ => exact ⟨a, b, c, d, e, rfl⟩

theorem b_u64 {i : Int} (h : IntKind.min .u64 ≤ i ∧ i ≤ IntKind.max .u64) : 0 ≤ i ∧ i < 18446744073709551616 := by
  have e1 : IntKind.min .u64 = 0 := by decide
  have e2 : IntKind.max .u64 = 18446744073709551615 := by decide
  rw [e1, e2] at h
  omega
theorem b_i64 {i : Int} (h : IntKind.min .i64 ≤ i ∧ i ≤ IntKind.max .i64) : -9223372036854775808 ≤ i ∧ i < 9223372036854775808 := by
  have e1 : IntKind.min .i64 = -9223372036854775808 := by decide
  have e2 : IntKind.max .i64 = 9223372036854775807 := by decide
  rw [e1, e2] at h
  omega
theorem b_wf {k : IntKind} {i : Int} (h : (Lit.int k i).wf = true) : k.min ≤ i ∧ i ≤ k.max := by
  simpa only [Lit.wf, Bool.and_eq_true, decide_eq_true_eq] using h

/-- A rule as it may be handed in. -/
def RuleB (r : Int × Int) : Prop := (0 ≤ r.1 ∧ r.1 < 18446744073709551616) ∧ (-9223372036854775808 ≤ r.2 ∧ r.2 < 9223372036854775808)

theorem rule_parts {m : Nat} {r : List Value} {y : DataW H × List MemPlace} (h : DataW.trod enc Tryd.prog w 0 (fun _ => true) true m 42 r = some y) :
    ∃ e c : Int, r = [.int .u64 e, .int .i64 c] ∧ RuleB (e, c) := by
  obtain ⟨xs, n, _, rfl, hl, hx, hf⟩ := DataW.trod_struct Tryd.underlying42 h
  rw [c_rule] at hl
  obtain ⟨v0, v1, rfl⟩ := two hl
  obtain ⟨y0, y1, rfl⟩ := two (l := xs) (by rw [hx]; rfl)
  have f0 := hf 0 _ rfl
  have f1 := hf 1 _ rfl
  simp only [c_int, c_u64, List.drop_zero, List.drop_succ_cons, List.take_succ_cons, List.take_zero, List.getElem?_cons_zero, List.getElem?_cons_succ] at f0 f1
  obtain ⟨n0, e0, _, w0⟩ := DataW.trod_int Tryd.underlying32 f0
  obtain ⟨n1, e1, _, w1⟩ := DataW.trod_int Tryd.underlying3 f1
  cases e0; cases e1
  exact ⟨n0, n1, rfl, b_u64 (b_wf w0), b_i64 (b_wf w1)⟩

theorem one_rule (m : Nat) (r : List Value) (y : DataW H × List MemPlace) (h : DataW.trod enc Tryd.prog w 0 (fun _ => true) true m 42 r = some y) : ∀ u ∈ r, Value.oneCell' u = true := by
  obtain ⟨k, x, rfl, _⟩ := rule_parts h
  intro u hu
  simp only [List.mem_cons, List.not_mem_nil, or_false] at hu
  rcases hu with rfl | rfl <;> rfl

theorem rules_rows : ∀ (rows : List (List Value)), (∀ r ∈ rows, ∃ e c : Int, r = [.int .u64 e, .int .i64 c] ∧ RuleB (e, c)) → ∃ rs : List (Int × Int), rs.length = rows.length ∧ rows.map (List.map (rdV w N0)) = rrows rs ∧ ∀ r ∈ rs, RuleB r
  | [], _ => ⟨[], rfl, rfl, by simp⟩
  | r :: rows, h => by
    obtain ⟨rs, h1, h2, h3⟩ := rules_rows rows fun r hr => h r (by simp [hr])
    obtain ⟨k, x, rfl, hb⟩ := h r (by simp)
    refine ⟨(k, x) :: rs, by simp [h1], by simp only [List.map_cons, h2]; rfl, fun z hz => ?_⟩
    rcases List.mem_cons.1 hz with rfl | hz
    · exact hb
    · exact h3 z hz

/-- A list of rules that is handed in. -/
theorem rules_arg {fuel : Nat} {v : Value} {x : DataW H × List MemPlace} (hN : v = .slice none 0 0 ∨ Room w N0) (h : DataW.trod enc Tryd.prog w 0 (fun _ => true) true fuel 22 [v] = some x) :
    ∃ (a : Option Pos) (c : Cap) (rs : List (Int × Int)), rdV w N0 v = .sl a rs.length c ∧ Value.oneCell' v = true ∧ RdR (Xw w N0) [] a (rrows rs).flatten ∧ ∀ r ∈ rs, RuleB r := by
  rcases hN with rfl | hN
  · exact ⟨none, .ex 0, [], by simp [rdV], rfl, .nil, by simp⟩
  obtain ⟨a, c, rows, h1, h2, h3, h4, h5, h6⟩ := rd_slice w hN Tryd.underlying22 c_rule (by omega) one_rule h
  obtain ⟨rs, q1, q2, q3⟩ := rules_rows (w := w) (N0 := N0) rows fun r hr => by
    obtain ⟨i, hi, rfl⟩ := List.getElem_of_mem hr
    obtain ⟨_, m, y, hd, hy⟩ := h6 i _ (List.getElem?_eq_getElem hi)
    exact rule_parts hy
  exact ⟨a, c, rs, by rw [q1]; exact h1, h2, by rw [← q2]; exact h3, q3⟩

/-- Ticks that are handed in. -/
theorem ticks_arg {fuel : Nat} {v : Value} {x : DataW H × List MemPlace} (hN : v = .slice none 0 0 ∨ Room w N0) (h : DataW.trod enc Tryd.prog w 0 (fun _ => true) true fuel 25 [v] = some x) :
    ∃ (a : Option Pos) (c : Cap) (ts : List Int), rdV w N0 v = .sl a ts.length c ∧ Value.oneCell' v = true ∧ RdR (Xw w N0) [] a (u64s ts) ∧ (∀ t ∈ ts, 0 ≤ t) ∧ ∀ t ∈ ts, t < 18446744073709551616 := by
  obtain ⟨a, c, ts, h1, h2, h3, h4, _⟩ := rd_ints w hN Tryd.underlying25 Tryd.underlying32 c_u64 h
  exact ⟨a, c, ts, h1, h2, h3, fun t ht => (b_u64 (h4 t ht)).1, fun t ht => (b_u64 (h4 t ht)).2⟩

theorem rsb {last : Int} {rs : List (Int × Int)} (hl : -9223372036854775808 ≤ last ∧ last < 9223372036854775808) (h : ∀ r ∈ rs, RuleB r) : RsB last rs :=
  ⟨hl.1, hl.2, fun r hr => (h r hr).1.1, fun r hr => (h r hr).1.2, fun r hr => (h r hr).2.1, fun r hr => (h r hr).2.2⟩

/-- A stand-in for two slices that are handed in. -/
theorem room2 {r : Reach} {base : Nat} {v1 v2 : Value} {t1 e1 t2 e2 : TypeId} {P : Program} (ht1 : P.underlying t1 = some (.slice e1)) (ht2 : P.underlying t2 = some (.slice e2)) (h1 : Value.okWide P w r base t1 v1) (h2 : Value.okWide P w r base t2 v2) :
    ∃ N0, (v1 = .slice none 0 0 ∨ Room w N0) ∧ (v2 = .slice none 0 0 ∨ Room w N0) := by
  have hnil : ∀ {v : Value} {t e : TypeId}, P.underlying t = some (.slice e) → Value.okWide P w r base t v → v = .slice none 0 0 ∨ ∃ N0, Room w N0 := by
    intro v t e ht h
    obtain ⟨a, l, c, rfl⟩ := Go.WideShapes.okWide_slice ht h
    cases a with
    | some A =>
      obtain ⟨C, hC⟩ := arg_block w ht h
      exact .inr ⟨_, room_of w hC⟩
    | none =>
      left
      simp only [Value.okWide, ht, Cell.okWide, Cell.ok] at h
      split at h <;> simp_all
  rcases hnil ht1 h1 with e | ⟨N, hN⟩
  · rcases hnil ht2 h2 with e' | ⟨N, hN⟩
    · exact ⟨0, .inl e, .inl e'⟩
    · exact ⟨N, .inr hN, .inr hN⟩
  · exact ⟨N, .inr hN, .inr hN⟩
end

end Go.Ct
