/- Lists of acts that are handed in. -/
import Derived.Test.YtmehlagfkmnipaaRows
import Derived.Test.YtmehlagfkmnipaaDiskPlay
import Derived.Test.YtmehlagfkmnipaaGrArgs
import Derived.KernelRfl
set_option linter.unusedVariables false
set_option linter.unusedSimpArgs false
set_option maxRecDepth 4000
namespace Go.Dk
open Go.Gr
open Go.Proofs Go.Proofs.Ytmehlagfkmnipaa

section
variable {H : Type}

theorem bulk_pos (d : DataW H) : 1 ≤ Rows.uptoBulk d := by
  cases d with
  | lit l => cases l <;> simp [Rows.uptoBulk]
  | _ => simp [Rows.uptoBulk]

theorem bulk_len : ∀ l : List (DataW H), l.length ≤ Rows.uptoBulkAll l
  | [] => by simp
  | d :: l => by
    have := bulk_len l
    have := bulk_pos d
    simp only [Rows.uptoBulkAll, List.length_cons]; omega

theorem bulk_mem : ∀ (l : List (DataW H)) (d : DataW H), d ∈ l → Rows.uptoBulk d ≤ Rows.uptoBulkAll l
  | [], d, h => by cases h
  | x :: l, d, h => by
    simp only [Rows.uptoBulkAll]
    rcases List.mem_cons.1 h with rfl | h
    · omega
    · have := bulk_mem l d h; omega

theorem bulk_slice {x : DataW H} {n : Nat} {α : Type} {l : List α} (h : (∃ e s, x = .slice e s ∧ e.length = l.length) ∨ l = []) : l.length ≤ Rows.uptoBulk x := by
  rcases h with ⟨e, s, rfl, h⟩ | rfl
  · have := bulk_len e
    simp only [Rows.uptoBulk]; omega
  · simp

variable {enc : TypeId × Value → H} {w : World} {N0 : Nat}

theorem one_slice {P : Program} {t e : TypeId} (ht : P.underlying t = some (.slice e)) {fuel : Nat} {cs : List Value} {y : DataW H × List MemPlace} (h : DataW.trod enc P w 0 (fun _ => true) true fuel t cs = some y) : ∀ u ∈ cs, Value.oneCell' u = true := by
  intro u hu
  rcases DataW.trod_slice ht h with ⟨rfl, _⟩ | ⟨A, len, cap, _, _, _, _, rfl, _⟩ <;> (simp at hu; subst hu; rfl)

theorem u8lo : IntKind.u8.min = 0 := by decide
theorem u8hi : IntKind.u8.max = 255 := by decide
theorem u32lo : IntKind.u32.min = 0 := by decide
theorem u32hi : IntKind.u32.max = 4294967295 := by decide
theorem i64lo : IntKind.i64.min = -9223372036854775808 := by decide
theorem i64hi : IntKind.i64.max = 9223372036854775807 := by decide
theorem rdV_int {k : IntKind} {n : Int} : rdV w N0 (.int k n) = .int k n := rfl

theorem c_int : Try.prog.cellsOf 3 = 1 := by kernel_rfl
theorem c_u32 : Try.prog.cellsOf 56 = 1 := by kernel_rfl
theorem c_u8 : Try.prog.cellsOf 5 = 1 := by kernel_rfl
theorem c_bs : Try.prog.cellsOf 29 = 1 := by kernel_rfl
theorem c_is : Try.prog.cellsOf 48 = 1 := by kernel_rfl
theorem c_acts : Try.prog.cellsOf 38 = 1 := by kernel_rfl
theorem c_act : Try.prog.cellsOf 72 = 6 := by kernel_rfl

theorem six {α : Type} {l : List α} (h : l.length = 6) : ∃ a b c d e f, l = [a, b, c, d, e, f] := by
  match l, h with
  | [a, b, c, d, e, f], _ => exact ⟨a, b, c, d, e, f, rfl⟩

theorem five {α : Type} {l : List α} (h : l.length = 5) : ∃ a b c d e, l = [a, b, c, d, e] := by
  match l, h with
  | [a, b, c, d, e], _ => exact ⟨a, b, c, d, e, rfl⟩
theorem four {α : Type} {l : List α} (h : l.length = 4) : ∃ a b c d, l = [a, b, c, d] := by
  match l, h with
  | [a, b, c, d], _ => exact ⟨a, b, c, d, rfl⟩

theorem act_parts {m : Nat} {r : List Value} {y : DataW H × List MemPlace} (h : DataW.trod enc Try.prog w 0 (fun _ => true) true m 72 r = some y) :
    ∃ n v0 v1 v2 v3 v4 v5 y0 y1 y2 y3 y4 y5, r = [v0, v1, v2, v3, v4, v5] ∧ y.1 = .agg [Prod.fst y0, Prod.fst y1, Prod.fst y2, Prod.fst y3, Prod.fst y4, Prod.fst y5] ∧
      DataW.trod enc Try.prog w 0 (fun _ => true) true n 3 [v0] = some y0 ∧ DataW.trod enc Try.prog w 0 (fun _ => true) true n 3 [v1] = some y1 ∧ DataW.trod enc Try.prog w 0 (fun _ => true) true n 3 [v2] = some y2 ∧
      DataW.trod enc Try.prog w 0 (fun _ => true) true n 56 [v3] = some y3 ∧ DataW.trod enc Try.prog w 0 (fun _ => true) true n 29 [v4] = some y4 ∧ DataW.trod enc Try.prog w 0 (fun _ => true) true n 48 [v5] = some y5 := by
  obtain ⟨xs, n, _, rfl, hl, hx, hf⟩ := DataW.trod_struct Try.underlying72 h
  rw [c_act] at hl
  obtain ⟨v0, v1, v2, v3, v4, v5, rfl⟩ := six hl
  obtain ⟨y0, y1, y2, y3, y4, y5, rfl⟩ := six (l := xs) (by rw [hx]; rfl)
  have f0 := hf 0 _ rfl
  have f1 := hf 1 _ rfl
  have f2 := hf 2 _ rfl
  have f3 := hf 3 _ rfl
  have f4 := hf 4 _ rfl
  have f5 := hf 5 _ rfl
  simp only [c_int, c_u32, c_bs, c_is, List.drop_zero, List.drop_succ_cons, List.take_succ_cons, List.take_zero, List.getElem?_cons_zero, List.getElem?_cons_succ] at f0 f1 f2 f3 f4 f5
  exact ⟨n, v0, v1, v2, v3, v4, v5, y0, y1, y2, y3, y4, y5, rfl, rfl, f0, f1, f2, f3, f4, f5⟩

theorem one_act (m : Nat) (r : List Value) (y : DataW H × List MemPlace) (h : DataW.trod enc Try.prog w 0 (fun _ => true) true m 72 r = some y) : ∀ u ∈ r, Value.oneCell' u = true := by
  obtain ⟨n, v0, v1, v2, v3, v4, v5, y0, y1, y2, y3, y4, y5, rfl, _, f0, f1, f2, f3, f4, f5⟩ := act_parts h
  have i0 := one_int w Try.underlying3 n _ _ f0
  have i1 := one_int w Try.underlying3 n _ _ f1
  have i2 := one_int w Try.underlying3 n _ _ f2
  have i3 := one_int w Try.underlying56 n _ _ f3
  have i4 := one_slice Try.underlying29 f4
  have i5 := one_slice Try.underlying48 f5
  intro u hu
  simp only [List.mem_cons, List.not_mem_nil, or_false] at hu i0 i1 i2 i3 i4 i5
  rcases hu with rfl | rfl | rfl | rfl | rfl | rfl
  · exact i0 _ rfl
  · exact i1 _ rfl
  · exact i2 _ rfl
  · exact i3 _ rfl
  · exact i4 _ rfl
  · exact i5 _ rfl

theorem act_row (hN : Room w N0) {m : Nat} {r : List Value} {y : DataW H × List MemPlace} (h : DataW.trod enc Try.prog w 0 (fun _ => true) true m 72 r = some y) :
    ∃ x : Act, ActR (Xw w N0) x (r.map (rdV w N0)) ∧ x.data.length ≤ Rows.uptoBulk y.1 ∧ x.keep.length ≤ Rows.uptoBulk y.1 := by
  obtain ⟨n, v0, v1, v2, v3, v4, v5, y0, y1, y2, y3, y4, y5, rfl, hy, f0, f1, f2, f3, f4, f5⟩ := act_parts h
  obtain ⟨n0, e0, _, w0⟩ := DataW.trod_int Try.underlying3 f0
  obtain ⟨n1, e1, _, w1⟩ := DataW.trod_int Try.underlying3 f1
  obtain ⟨n2, e2, _, w2⟩ := DataW.trod_int Try.underlying3 f2
  obtain ⟨n3, e3, _, w3⟩ := DataW.trod_int Try.underlying56 f3
  cases e0; cases e1; cases e2; cases e3
  obtain ⟨da, dc, dl, hd, _, rd, hdb, hdl⟩ := rd_ints w (.inr hN) Try.underlying29 Try.underlying5 c_u8 f4
  obtain ⟨ka, kc, kl, hk, _, rk, hkb, hkl⟩ := rd_ints w (.inr hN) Try.underlying48 Try.underlying3 c_int f5
  obtain ⟨s, hs, hse⟩ := bytes_of dl (fun i hi => by have := hdb i hi; rwa [u8lo, u8hi] at this)
  simp only [Lit.wf, Bool.and_eq_true, decide_eq_true_eq] at w2 w3
  have b2 : -9223372036854775808 ≤ n2 ∧ n2 ≤ 9223372036854775807 := by rwa [i64lo, i64hi] at w2
  have b3 : 0 ≤ n3 ∧ n3 ≤ 4294967295 := by rwa [u32lo, u32hi] at w3
  refine ⟨⟨n0, n1, n2, n3.toNat, s, kl⟩, ⟨da, dc, ka, kc, ?_, ?_, ?_, ?_, b2.1, ?_⟩, ?_, ?_⟩
  · simp only [List.map_cons, List.map_nil, hd, hk, rdV_int, hs]
    rw [show ((n3.toNat : Nat) : Int) = n3 by omega]
  · rw [hse]; exact rd
  · exact rk
  · show n3.toNat < _; omega
  · show n2 < _; omega
  · rw [hy]
    have := bulk_slice (n := 0) hdl
    simp only [Rows.uptoBulk, Rows.uptoBulkAll, hs]
    show dl.length ≤ _
    omega
  · rw [hy]
    have := bulk_slice (n := 0) hkl
    simp only [Rows.uptoBulk, Rows.uptoBulkAll]
    omega

theorem acts_rows (hN : Room w N0) (bound : Nat) : ∀ (rows : List (List Value)), (∀ r ∈ rows, ∃ m y, Rows.uptoBulk (Prod.fst y) ≤ bound ∧ DataW.trod enc Try.prog w 0 (fun _ => true) true m 72 r = some y) →
    ∃ acts : List Act, acts.length = rows.length ∧ (∀ x ∈ acts, x.data.length ≤ bound ∧ x.keep.length ≤ bound) ∧ ∀ (i : Nat) (x : Act) (r : List AV), acts[i]? = some x → (rows.map (List.map (rdV w N0)))[i]? = some r → ActR (Xw w N0) x r
  | [], _ => ⟨[], rfl, by simp, by simp⟩
  | r :: rows, h => by
    obtain ⟨acts, h1, h2, h3⟩ := acts_rows hN bound rows fun r hr => h r (by simp [hr])
    obtain ⟨m, y, hb, hy⟩ := h r (by simp)
    obtain ⟨x, hx, hd, hk⟩ := act_row hN hy
    refine ⟨x :: acts, by simp [h1], fun z hz => ?_, fun i z q hz hq => ?_⟩
    · rcases List.mem_cons.1 hz with rfl | hz
      · exact ⟨by omega, by omega⟩
      · exact h2 z hz
    · cases i with
      | zero => simp at hz hq; subst hz hq; exact hx
      | succ i => exact h3 i z q (by simpa using hz) (by simpa using hq)

/-- A list of acts that is handed in. -/
theorem acts_arg {fuel : Nat} {v : Value} {x : DataW H × List MemPlace} (hN : v = .slice none 0 0 ∨ Room w N0) (h : DataW.trod enc Try.prog w 0 (fun _ => true) true fuel 38 [v] = some x) (hb : Rows.uptoBulk x.1 ≤ 1048576) :
    ∃ (a : Option Pos) (c : Cap) (acts : List Act), rdV w N0 v = .sl a acts.length c ∧ Value.oneCell' v = true ∧ ActsR (Xw w N0) a acts.length acts := by
  rcases hN with rfl | hN
  · exact ⟨none, .ex 0, [], by simp [rdV], rfl, [], .nil, rfl, rfl, by simp, by simp, by simp, by simp⟩
  obtain ⟨a, c, rows, h1, h2, h3, h4, h5, h6⟩ := rd_slice w hN Try.underlying38 c_act (by omega) one_act h
  have hlen : rows.length ≤ Rows.uptoBulk x.1 := by
    refine bulk_slice (n := 0) ?_
    rcases h5 with ⟨e, s, he⟩ | h5
    · exact .inl ⟨e, s, he, by rw [he] at h4; simpa [dsOf] using h4⟩
    · exact .inr h5
  obtain ⟨acts, q1, q2, q3⟩ := acts_rows (enc := enc) hN 1048576 rows fun r hr => by
    obtain ⟨i, hi, rfl⟩ := List.getElem_of_mem hr
    obtain ⟨_, m, y, hd, hy⟩ := h6 i _ (List.getElem?_eq_getElem hi)
    refine ⟨m, y, ?_, hy⟩
    have hm := List.mem_of_getElem? hd
    rcases h5 with ⟨e, s, he⟩ | h5
    · rw [he] at hm hb
      simp only [dsOf] at hm
      have := bulk_mem e _ hm
      simp only [Rows.uptoBulk] at hb; omega
    · rw [h5] at hi; simp at hi
  refine ⟨a, c, acts, by rw [q1]; exact h1, h2, rows.map (List.map (rdV w N0)), h3, by simp [q1], rfl, fun r hr => ?_, fun z hz => ?_, by omega, q3⟩
  · obtain ⟨r', hr', rfl⟩ := List.mem_map.1 hr
    obtain ⟨i, hi, rfl⟩ := List.getElem_of_mem hr'
    rw [List.length_map]; exact (h6 i _ (List.getElem?_eq_getElem hi)).1
  · have := q2 z hz; omega

/-- A stand-in for two slices that are handed in. -/
theorem room2 {r : Reach} {base : Nat} {v1 v2 : Value} {t1 e1 t2 e2 : TypeId} {P : Program} (ht1 : P.underlying t1 = some (.slice e1)) (ht2 : P.underlying t2 = some (.slice e2)) (h1 : Value.okWide P w r base t1 v1) (h2 : Value.okWide P w r base t2 v2) :
    ∃ N0, (v1 = .slice none 0 0 ∨ Room w N0) ∧ (v2 = .slice none 0 0 ∨ Room w N0) := by
  have hnil : ∀ {v : Value} {t e : TypeId}, P.underlying t = some (.slice e) → Value.okWide P w r base t v → v = .slice none 0 0 ∨ ∃ N0, Room w N0 := by
    intro v t e ht h
    obtain ⟨a, l, c, rfl⟩ := Go.WideShapes.okWide_slice ht h
    cases a with
    | some A =>
      obtain ⟨C, hC⟩ := arg_block w ht h
      exact .inr ⟨_, room_of w hC⟩
    | none =>
      left
      simp only [Value.okWide, ht, Cell.okWide, Cell.ok] at h
      split at h <;> simp_all
  rcases hnil ht1 h1 with e | ⟨N, hN⟩
  · rcases hnil ht2 h2 with e' | ⟨N, hN⟩
    · exact ⟨0, .inl e, .inl e'⟩
    · exact ⟨N, .inr hN, .inr hN⟩
  · exact ⟨N, .inr hN, .inr hN⟩
end

end Go.Dk
