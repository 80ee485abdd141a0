/- Lists of acts that are handed in. -/
import Derived.Test.YtjninokocidaaaaRows
import Derived.Test.YtjninokocidaaaaAlH
import Derived.Test.YtjninokocidaaaaGrArgs
import Derived.KernelRfl
set_option linter.unusedVariables false
set_option linter.unusedSimpArgs false
set_option maxRecDepth 4000
namespace Go.Al
open Go.Gr
open Go.Proofs Go.Proofs.Ytjninokocidaaaa

section
variable {H : Type} {enc : TypeId × Value → H} {w : World} {N0 : Nat}

theorem c_int : Try.prog.cellsOf 3 = 1 := by kernel_rfl
theorem c_act : Try.prog.cellsOf 42 = 2 := by kernel_rfl
theorem two {α : Type} {l : List α} (h : l.length = 2) : ∃ a b, l = [a, b] := by
  match l, h with
  | [a, b], _ => exact ⟨a, b, rfl⟩
theorem act_parts {m : Nat} {r : List Value} {y : DataW H × List MemPlace} (h : DataW.trod enc Try.prog w 0 (fun _ => true) true m 42 r = some y) :
    ∃ k x : Int, r = [.int .i64 k, .int .i64 x] := by
  obtain ⟨xs, n, _, rfl, hl, hx, hf⟩ := DataW.trod_struct Try.underlying42 h
  rw [c_act] at hl
  obtain ⟨v0, v1, rfl⟩ := two hl
  obtain ⟨y0, y1, rfl⟩ := two (l := xs) (by rw [hx]; rfl)
  have f0 := hf 0 _ rfl
  have f1 := hf 1 _ rfl
  simp only [c_int, List.drop_zero, List.drop_succ_cons, List.take_succ_cons, List.take_zero, List.getElem?_cons_zero, List.getElem?_cons_succ] at f0 f1
  obtain ⟨n0, e0, _, w0⟩ := DataW.trod_int Try.underlying3 f0
  obtain ⟨n1, e1, _, w1⟩ := DataW.trod_int Try.underlying3 f1
  cases e0; cases e1
  exact ⟨n0, n1, rfl⟩

theorem one_act (m : Nat) (r : List Value) (y : DataW H × List MemPlace) (h : DataW.trod enc Try.prog w 0 (fun _ => true) true m 42 r = some y) : ∀ u ∈ r, Value.oneCell' u = true := by
  obtain ⟨k, x, rfl⟩ := act_parts h
  intro u hu
  simp only [List.mem_cons, List.not_mem_nil, or_false] at hu
  rcases hu with rfl | rfl <;> rfl

theorem acts_rows : ∀ (rows : List (List Value)), (∀ r ∈ rows, ∃ k x : Int, r = [.int .i64 k, .int .i64 x]) → ∃ acts : List (Int × Int), acts.length = rows.length ∧ rows.map (List.map (rdV w N0)) = acts.map arow
  | [], _ => ⟨[], rfl, rfl⟩
  | r :: rows, h => by
    obtain ⟨acts, h1, h2⟩ := acts_rows rows fun r hr => h r (by simp [hr])
    obtain ⟨k, x, rfl⟩ := h r (by simp)
    exact ⟨(k, x) :: acts, by simp [h1], by simp only [List.map_cons, h2]; rfl⟩

/-- A list of acts that is handed in. -/
theorem acts_arg {fuel : Nat} {v : Value} {x : DataW H × List MemPlace} (hN : v = .slice none 0 0 ∨ Room w N0) (h : DataW.trod enc Try.prog w 0 (fun _ => true) true fuel 34 [v] = some x) :
    ∃ (a : Option Pos) (c : Cap) (acts : List (Int × Int)), rdV w N0 v = .sl a acts.length c ∧ Value.oneCell' v = true ∧ ActsR (Xw w N0) a acts := by
  rcases hN with rfl | hN
  · exact ⟨none, .ex 0, [], by simp [rdV], rfl, .nil⟩
  obtain ⟨a, c, rows, h1, h2, h3, h4, h5, h6⟩ := rd_slice w hN Try.underlying34 c_act (by omega) one_act h
  obtain ⟨acts, q1, q2⟩ := acts_rows (w := w) (N0 := N0) rows fun r hr => by
    obtain ⟨i, hi, rfl⟩ := List.getElem_of_mem hr
    obtain ⟨_, m, y, hd, hy⟩ := h6 i _ (List.getElem?_eq_getElem hi)
    exact act_parts hy
  exact ⟨a, c, acts, by rw [q1]; exact h1, h2, by unfold ActsR; rw [← q2]; exact h3⟩

/-- A stand-in for two slices that are handed in. -/
theorem room2 {r : Reach} {base : Nat} {v1 v2 : Value} {t1 e1 t2 e2 : TypeId} {P : Program} (ht1 : P.underlying t1 = some (.slice e1)) (ht2 : P.underlying t2 = some (.slice e2)) (h1 : Value.okWide P w r base t1 v1) (h2 : Value.okWide P w r base t2 v2) :
    ∃ N0, (v1 = .slice none 0 0 ∨ Room w N0) ∧ (v2 = .slice none 0 0 ∨ Room w N0) := by
  have hnil : ∀ {v : Value} {t e : TypeId}, P.underlying t = some (.slice e) → Value.okWide P w r base t v → v = .slice none 0 0 ∨ ∃ N0, Room w N0 := by
    intro v t e ht h
    obtain ⟨a, l, c, rfl⟩ := Go.WideShapes.okWide_slice ht h
    cases a with
    | some A =>
      obtain ⟨C, hC⟩ := arg_block w ht h
      exact .inr ⟨_, room_of w hC⟩
    | none =>
      left
      simp only [Value.okWide, ht, Cell.okWide, Cell.ok] at h
      split at h <;> simp_all
  rcases hnil ht1 h1 with e | ⟨N, hN⟩
  · rcases hnil ht2 h2 with e' | ⟨N, hN⟩
    · exact ⟨0, .inl e, .inl e'⟩
    · exact ⟨N, .inr hN, .inr hN⟩
  · exact ⟨N, .inr hN, .inr hN⟩
end

end Go.Al
