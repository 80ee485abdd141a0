/- Lists of acts on a catalogue that are handed in. -/
import Derived.Test.YteakdhikjddogaaDoorCtArgs
import Derived.Test.YteakdhikjddogaaDoorCtT
set_option linter.unusedVariables false
set_option linter.unusedSimpArgs false
set_option maxRecDepth 4000
namespace Go.Ct
open Go.Gr
open Go.Proofs Go.Proofs.YteakdhikjddogaaDoor

section
variable {H : Type}

theorem bulk_pos (d : DataW H) : 1 ≤ Rows.uptoBulk d := by
  cases d with
  | lit l => cases l <;> simp [Rows.uptoBulk]
  | _ => simp [Rows.uptoBulk]

theorem bulk_len : ∀ l : List (DataW H), l.length ≤ Rows.uptoBulkAll l
  | [] => by simp
  | d :: l => by
    have := bulk_len l
    have := bulk_pos d
    simp only [Rows.uptoBulkAll, List.length_cons]; omega

theorem bulk_mem : ∀ (l : List (DataW H)) (d : DataW H), d ∈ l → Rows.uptoBulk d ≤ Rows.uptoBulkAll l
  | [], d, h => by cases h
  | x :: l, d, h => by
    simp only [Rows.uptoBulkAll]
    rcases List.mem_cons.1 h with rfl | h
    · omega
    · have := bulk_mem l d h; omega

theorem bulk_slice {x : DataW H} {α : Type} {l : List α} (h : (∃ e s, x = .slice e s ∧ e.length = l.length) ∨ l = []) : l.length ≤ Rows.uptoBulk x := by
  rcases h with ⟨e, s, rfl, h⟩ | rfl
  · have := bulk_len e
    simp only [Rows.uptoBulk]; omega
  · simp

variable {enc : TypeId × Value → H} {w : World} {N0 : Nat}

theorem one_slice {P : Program} {t e : TypeId} (ht : P.underlying t = some (.slice e)) {fuel : Nat} {cs : List Value} {y : DataW H × List MemPlace} (h : DataW.trod enc P w 0 (fun _ => true) true fuel t cs = some y) : ∀ u ∈ cs, Value.oneCell' u = true := by
  intro u hu
  rcases DataW.trod_slice ht h with ⟨rfl, _⟩ | ⟨A, len, cap, _, _, _, _, rfl, _⟩ <;> (simp at hu; subst hu; rfl)

theorem c_u32 : Tryd.prog.cellsOf 44 = 1 := by kernel_rfl
theorem c_str : Tryd.prog.cellsOf 9 = 1 := by kernel_rfl
theorem c_act : Tryd.prog.cellsOf 60 = 8 := by kernel_rfl

theorem seven {α : Type} {l : List α} (h : l.length = 7) : ∃ a b c d e f g, l = [a, b, c, d, e, f, g] := by
  match l, h with
  | [a, b, c, d, e, f, g], _ => exact ⟨a, b, c, d, e, f, g, rfl⟩
theorem eight {α : Type} {l : List α} (h : l.length = 8) : ∃ a b c d e f g i, l = [a, b, c, d, e, f, g, i] := by
  match l, h with
  | [a, b, c, d, e, f, g, i], _ => exact ⟨a, b, c, d, e, f, g, i, rfl⟩

theorem rules_arg2 {fuel : Nat} {v : Value} {x : DataW H × List MemPlace} (hN : Room w N0) (h : DataW.trod enc Tryd.prog w 0 (fun _ => true) true fuel 22 [v] = some x) :
    ∃ (a : Option Pos) (c : Cap) (rs : List (Int × Int)), rdV w N0 v = .sl a rs.length c ∧ Value.oneCell' v = true ∧ RdR (Xw w N0) [] a (rrows rs).flatten ∧ (∀ r ∈ rs, RuleB r) ∧ rs.length ≤ Rows.uptoBulk x.1 := by
  obtain ⟨a, c, rows, h1, h2, h3, h4, h5, h6⟩ := rd_slice w hN Tryd.underlying22 c_rule (by omega) one_rule h
  obtain ⟨rs, q1, q2, q3⟩ := rules_rows (w := w) (N0 := N0) rows fun r hr => by
    obtain ⟨i, hi, rfl⟩ := List.getElem_of_mem hr
    obtain ⟨_, m, y, hd, hy⟩ := h6 i _ (List.getElem?_eq_getElem hi)
    exact rule_parts hy
  refine ⟨a, c, rs, by rw [q1]; exact h1, h2, by rw [← q2]; exact h3, q3, bulk_slice ?_⟩
  rcases h5 with ⟨e, s, he⟩ | h5
  · exact .inl ⟨e, s, he, by rw [he] at h4; simp [dsOf] at h4; omega⟩
  · exact .inr (List.length_eq_zero_iff.1 (by rw [q1, h5]; rfl))

theorem act_parts {m : Nat} {r : List Value} {y : DataW H × List MemPlace} (h : DataW.trod enc Tryd.prog w 0 (fun _ => true) true m 60 r = some y) :
    ∃ (k t z n : Int) (rt nm : ByteArray) (last : Int) (v : Value) (f : Nat) (x : DataW H × List MemPlace), r = [.int .i64 k, .int .u64 t, .string rt, .int .u64 z, .int .u32 n, .string nm, .int .i64 last, v] ∧
      (0 ≤ t ∧ t < 18446744073709551616) ∧ (-9223372036854775808 ≤ last ∧ last < 9223372036854775808) ∧ DataW.trod enc Tryd.prog w 0 (fun _ => true) true f 22 [v] = some x ∧
      rt.data.toList.length ≤ Rows.uptoBulk y.1 ∧ nm.data.toList.length ≤ Rows.uptoBulk y.1 ∧ Rows.uptoBulk x.1 ≤ Rows.uptoBulk y.1 := by
  obtain ⟨xs, n, _, rfl, hl, hx, hf⟩ := DataW.trod_struct Tryd.underlying60 h
  rw [c_act] at hl
  obtain ⟨v0, v1, v2, v3, v4, v5, v6, v7, rfl⟩ := eight hl
  obtain ⟨y0, y1, y2, y3, y4, y5, y6, rfl⟩ := seven (l := xs) (by rw [hx]; rfl)
  have f0 := hf 0 _ rfl
  have f1 := hf 1 _ rfl
  have f2 := hf 2 _ rfl
  have f3 := hf 3 _ rfl
  have f4 := hf 4 _ rfl
  have f5 := hf 5 _ rfl
  have f6 := hf 6 _ rfl
  simp only [c_int, c_u64, c_str, c_u32, c_pol, List.drop_zero, List.drop_succ_cons, List.take_succ_cons, List.take_zero, List.getElem?_cons_zero, List.getElem?_cons_succ] at f0 f1 f2 f3 f4 f5 f6
  obtain ⟨n0, e0, _, w0⟩ := DataW.trod_int Tryd.underlying3 f0
  obtain ⟨n1, e1, _, w1⟩ := DataW.trod_int Tryd.underlying32 f1
  obtain ⟨s2, e2, z2, _⟩ := DataW.trod_string Tryd.underlying9 f2
  obtain ⟨n3, e3, _, w3⟩ := DataW.trod_int Tryd.underlying32 f3
  obtain ⟨n4, e4, _, w4⟩ := DataW.trod_int Tryd.underlying44 f4
  obtain ⟨s5, e5, z5, _⟩ := DataW.trod_string Tryd.underlying9 f5
  obtain ⟨zs, k6, _, z6, hl6, hx6, hf6⟩ := DataW.trod_struct Tryd.underlying24 f6
  obtain ⟨a0, a1, rfl⟩ := two (l := zs) (by rw [hx6]; rfl)
  have g0 := hf6 0 _ rfl
  have g1 := hf6 1 _ rfl
  simp only [c_int, c_rules, List.drop_zero, List.drop_succ_cons, List.take_succ_cons, List.take_zero, List.getElem?_cons_zero, List.getElem?_cons_succ] at g0 g1
  obtain ⟨n6, e6, _, w6⟩ := DataW.trod_int Tryd.underlying3 g0
  cases e0; cases e1; cases e2; cases e3; cases e4; cases e5; cases e6
  refine ⟨n0, n1, n3, n4, s2, s5, n6, v7, _, a1, rfl, b_u64 (b_wf w1), b_i64 (b_wf w6), g1, ?_, ?_, ?_⟩ <;>
  · rw [z6, z5, z2]
    simp only [List.map_cons, List.map_nil, Rows.uptoBulk, Rows.uptoBulkAll]
    omega

theorem one_act (m : Nat) (r : List Value) (y : DataW H × List MemPlace) (h : DataW.trod enc Tryd.prog w 0 (fun _ => true) true m 60 r = some y) : ∀ u ∈ r, Value.oneCell' u = true := by
  obtain ⟨k, t, z, n, rt, nm, last, v, f, x, rfl, _, _, hv, _, _, _⟩ := act_parts h
  have i7 := one_slice Tryd.underlying22 hv
  intro u hu
  simp only [List.mem_cons, List.not_mem_nil, or_false] at hu i7
  rcases hu with rfl | rfl | rfl | rfl | rfl | rfl | rfl | rfl
  all_goals first | rfl | exact i7 _ rfl

theorem act_row (hN : Room w N0) {m : Nat} {r : List Value} {y : DataW H × List MemPlace} (h : DataW.trod enc Tryd.prog w 0 (fun _ => true) true m 60 r = some y) (hb : Rows.uptoBulk y.1 ≤ 1048576) :
    ∃ x : Act, r.map (rdV w N0) = arow x ∧ ActB (Xw w N0) [] x := by
  obtain ⟨k, t, z, n, rt, nm, last, v, f, x, rfl, ht, hla, hv, l1, l2, l3⟩ := act_parts h
  obtain ⟨a, c, rs, q1, q2, q3, q4, q5⟩ := rules_arg2 hN hv
  refine ⟨⟨k, t, rt.data.toList, z, n, nm.data.toList, last, a, c, rs⟩, ?_, ht.1, ht.2, rsb hla q4, q3, by show rt.data.toList.length ≤ _; omega, by show nm.data.toList.length ≤ _; omega, by show rs.length ≤ _; omega⟩
  simp only [List.map_cons, List.map_nil, q1, rdV_int, arow]
  rfl

theorem acts_rows (hN : Room w N0) : ∀ (rows : List (List Value)), (∀ r ∈ rows, ∃ m y, Rows.uptoBulk (Prod.fst y) ≤ 1048576 ∧ DataW.trod enc Tryd.prog w 0 (fun _ => true) true m 60 r = some y) →
    ∃ acts : List Act, acts.length = rows.length ∧ rows.map (List.map (rdV w N0)) = arows acts ∧ ∀ x ∈ acts, ActB (Xw w N0) [] x
  | [], _ => ⟨[], rfl, rfl, by simp⟩
  | r :: rows, h => by
    obtain ⟨acts, h1, h2, h3⟩ := acts_rows hN rows fun r hr => h r (by simp [hr])
    obtain ⟨m, y, hb, hy⟩ := h r (by simp)
    obtain ⟨x, hx, hB⟩ := act_row hN hy hb
    refine ⟨x :: acts, by simp [h1], by simp only [List.map_cons, h2, hx]; rfl, fun z hz => ?_⟩
    rcases List.mem_cons.1 hz with rfl | hz
    · exact hB
    · exact h3 z hz

/-- A list of acts that is handed in. -/
theorem acts_arg {fuel : Nat} {v : Value} {x : DataW H × List MemPlace} (hN : v = .slice none 0 0 ∨ Room w N0) (h : DataW.trod enc Tryd.prog w 0 (fun _ => true) true fuel 53 [v] = some x) (hb : Rows.uptoBulk x.1 ≤ 1048576) :
    ∃ (a : Option Pos) (c : Cap) (acts : List Act), rdV w N0 v = .sl a acts.length c ∧ Value.oneCell' v = true ∧ RdR (Xw w N0) [] a (arows acts).flatten ∧ (∀ y ∈ acts, ActB (Xw w N0) [] y) ∧ acts.length ≤ 1048576 := by
  rcases hN with rfl | hN
  · exact ⟨none, .ex 0, [], by simp [rdV], rfl, .nil, by simp, by simp⟩
  obtain ⟨a, c, rows, h1, h2, h3, h4, h5, h6⟩ := rd_slice w hN Tryd.underlying53 c_act (by omega) one_act h
  have hlen : rows.length ≤ Rows.uptoBulk x.1 := by
    refine bulk_slice ?_
    rcases h5 with ⟨e, s, he⟩ | h5
    · exact .inl ⟨e, s, he, by rw [he] at h4; simpa [dsOf] using h4⟩
    · exact .inr h5
  obtain ⟨acts, q1, q2, q3⟩ := acts_rows (enc := enc) hN rows fun r hr => by
    obtain ⟨i, hi, rfl⟩ := List.getElem_of_mem hr
    obtain ⟨_, m, y, hd, hy⟩ := h6 i _ (List.getElem?_eq_getElem hi)
    refine ⟨m, y, ?_, hy⟩
    have hm := List.mem_of_getElem? hd
    rcases h5 with ⟨e, s, he⟩ | h5
    · rw [he] at hm hb
      simp only [dsOf] at hm
      have := bulk_mem e _ hm
      simp only [Rows.uptoBulk] at hb; omega
    · rw [h5] at hi; simp at hi
  exact ⟨a, c, acts, by rw [q1]; exact h1, h2, by rw [← q2]; exact h3, q3, by omega⟩
end

end Go.Ct
