/- An entry, a superblock, a transaction and bytes that are handed in. -/
import Derived.Test.YtefpcbcbjnfhnaaRows
import Derived.Test.YtefpcbcbjnfhnaaJnV
import Derived.Test.YtefpcbcbjnfhnaaGrArgs
import Derived.KernelRfl
set_option linter.unusedVariables false
set_option linter.unusedSimpArgs false
set_option maxRecDepth 4000
namespace Go.Jn
open Go.Gr
open Go.Proofs Go.Proofs.Ytefpcbcbjnfhnaa

section
variable {H : Type}

theorem bulk_pos (d : DataW H) : 1 ≤ Rows.uptoBulk d := by
  cases d with
  | lit l => cases l <;> simp [Rows.uptoBulk]
  | _ => simp [Rows.uptoBulk]
theorem bulk_len : ∀ l : List (DataW H), l.length ≤ Rows.uptoBulkAll l
  | [] => by simp
  | d :: l => by
    have := bulk_len l
    have := bulk_pos d
    simp only [Rows.uptoBulkAll, List.length_cons]; omega
theorem bulk_mem : ∀ (l : List (DataW H)) (d : DataW H), d ∈ l → Rows.uptoBulk d ≤ Rows.uptoBulkAll l
  | [], d, h => by cases h
  | x :: l, d, h => by
    simp only [Rows.uptoBulkAll]
    rcases List.mem_cons.1 h with rfl | h
    · omega
    · have := bulk_mem l d h; omega
theorem bulk_slice {x : DataW H} {α : Type} {l : List α} (h : (∃ e s, x = .slice e s ∧ e.length = l.length) ∨ l = []) : l.length ≤ Rows.uptoBulk x := by
  rcases h with ⟨e, s, rfl, h⟩ | rfl
  · have := bulk_len e
    simp only [Rows.uptoBulk]; omega
  · simp

variable {enc : TypeId × Value → H} {w : World} {N0 : Nat}

theorem one_slice {P : Program} {t e : TypeId} (ht : P.underlying t = some (.slice e)) {fuel : Nat} {cs : List Value} {y : DataW H × List MemPlace} (h : DataW.trod enc P w 0 (fun _ => true) true fuel t cs = some y) : ∀ u ∈ cs, Value.oneCell' u = true := by
  intro u hu
  rcases DataW.trod_slice ht h with ⟨rfl, _⟩ | ⟨A, len, cap, _, _, _, _, rfl, _⟩ <;> (simp at hu; subst hu; rfl)

theorem c_int : Try.prog.cellsOf 3 = 1 := by kernel_rfl
theorem c_u64 : Try.prog.cellsOf 22 = 1 := by kernel_rfl
theorem c_u8 : Try.prog.cellsOf 5 = 1 := by kernel_rfl
theorem c_bytes : Try.prog.cellsOf 23 = 1 := by kernel_rfl
theorem c_puts : Try.prog.cellsOf 28 = 1 := by kernel_rfl
theorem c_put : Try.prog.cellsOf 64 = 2 := by kernel_rfl
theorem c_entry : Try.prog.cellsOf 25 = 7 := by kernel_rfl
theorem c_super : Try.prog.cellsOf 27 = 6 := by kernel_rfl
theorem c_parts : Try.prog.cellsOf 30 = 16 := by kernel_rfl

theorem rdV_int {k : IntKind} {n : Int} : rdV w N0 (.int k n) = .int k n := rfl
theorem two {α : Type} {l : List α} (h : l.length = 2) : ∃ a b, l = [a, b] := by
  match l, h with
  | [a, b], _ => exact ⟨a, b, rfl⟩
theorem five {α : Type} {l : List α} (h : l.length = 5) : ∃ a b c d e, l = [a, b, c, d, e] := by
  match l, h with
  | [a, b, c, d, e], _ => exact ⟨a, b, c, d, e, rfl⟩
theorem six {α : Type} {l : List α} (h : l.length = 6) : ∃ a b c d e f, l = [a, b, c, d, e, f] := by
  match l, h with
  | [a, b, c, d, e, f], _ => exact ⟨a, b, c, d, e, f, rfl⟩
theorem seven {α : Type} {l : List α} (h : l.length = 7) : ∃ a b c d e f g, l = [a, b, c, d, e, f, g] := by
  match l, h with
  | [a, b, c, d, e, f, g], _ => exact ⟨a, b, c, d, e, f, g, rfl⟩
theorem sixteen {α : Type} {l : List α} (h : l.length = 16) : ∃ a b c d e f g i j k m n o p q r, l = [a, b, c, d, e, f, g, i, j, k, m, n, o, p, q, r] := by
  match l, h with
  | [a, b, c, d, e, f, g, i, j, k, m, n, o, p, q, r], _ => exact ⟨a, b, c, d, e, f, g, i, j, k, m, n, o, p, q, r, rfl⟩

theorem b_u64 {i : Int} (h : IntKind.min .u64 ≤ i ∧ i ≤ IntKind.max .u64) : 0 ≤ i ∧ i < 18446744073709551616 := by
  have e1 : IntKind.min .u64 = 0 := by decide
  have e2 : IntKind.max .u64 = 18446744073709551615 := by decide
  rw [e1, e2] at h
  omega
theorem b_i64 {i : Int} (h : IntKind.min .i64 ≤ i ∧ i ≤ IntKind.max .i64) : -9223372036854775808 ≤ i ∧ i < 9223372036854775808 := by
  have e1 : IntKind.min .i64 = -9223372036854775808 := by decide
  have e2 : IntKind.max .i64 = 9223372036854775807 := by decide
  rw [e1, e2] at h
  omega
theorem b_u8 {i : Int} (h : IntKind.min .u8 ≤ i ∧ i ≤ IntKind.max .u8) : 0 ≤ i ∧ i ≤ 255 := by
  have e1 : IntKind.min .u8 = 0 := by decide
  have e2 : IntKind.max .u8 = 255 := by decide
  rw [e1, e2] at h
  omega
theorem b_wf {k : IntKind} {i : Int} (h : (Lit.int k i).wf = true) : k.min ≤ i ∧ i ≤ k.max := by
  simpa only [Lit.wf, Bool.and_eq_true, decide_eq_true_eq] using h

theorem rd_cap {v : Value} {a : Option Pos} {l : Nat} {c : Cap} (h : rdV w N0 v = .sl a l c) : ∃ N, c = .ex N ∧ l ≤ N := by
  unfold rdV at h
  split at h
  · cases h
  · cases h
  · cases h
  · split at h
    · cases h; exact ⟨0, rfl, Nat.le_refl _⟩
    · cases h
  · split at h
    · split at h
      · cases h; exact ⟨0, rfl, Nat.le_refl _⟩
      · cases h
    · split at h
      · rename_i hh
        cases h; exact ⟨_, rfl, hh.2.2⟩
      · cases h
  · cases h

/-- Bytes that are handed in. -/
theorem bytes_arg {fuel : Nat} {v : Value} {x : DataW H × List MemPlace} (hN : v = .slice none 0 0 ∨ Room w N0) (h : DataW.trod enc Try.prog w 0 (fun _ => true) true fuel 23 [v] = some x) :
    ∃ (a : Option Pos) (c : Cap) (s : List UInt8), rdV w N0 v = .sl a s.length c ∧ Value.oneCell' v = true ∧ Vw (Xw w N0) [] a s.length c s ∧ s.length ≤ Rows.uptoBulk x.1 := by
  obtain ⟨a, c, ts, h1, h2, h3, h4, h5⟩ := rd_ints w hN Try.underlying23 Try.underlying5 c_u8 h
  obtain ⟨s, hs1, hs2⟩ := bytes_of ts (fun i hi => b_u8 (h4 i hi))
  obtain ⟨N, hc, hl⟩ := rd_cap h1
  rw [← hs1] at h1 hl
  refine ⟨a, c, s, h1, h2, ⟨by rw [hs2]; exact h3, rfl, N, .inl hc, hl⟩, ?_⟩
  rw [hs1]
  exact bulk_slice h5

theorem put_parts {m : Nat} {r : List Value} {y : DataW H × List MemPlace} (h : DataW.trod enc Try.prog w 0 (fun _ => true) true m 64 r = some y) :
    ∃ (b : Int) (v : Value) (f : Nat) (x : DataW H × List MemPlace), r = [.int .i64 b, v] ∧ DataW.trod enc Try.prog w 0 (fun _ => true) true f 23 [v] = some x ∧ Rows.uptoBulk x.1 ≤ Rows.uptoBulk y.1 := by
  obtain ⟨xs, n, _, rfl, hl, hx, hf⟩ := DataW.trod_struct Try.underlying64 h
  rw [c_put] at hl
  obtain ⟨v0, v1, rfl⟩ := two hl
  obtain ⟨y0, y1, rfl⟩ := two (l := xs) (by rw [hx]; rfl)
  have f0 := hf 0 _ rfl
  have f1 := hf 1 _ rfl
  simp only [c_int, c_bytes, List.drop_zero, List.drop_succ_cons, List.take_succ_cons, List.take_zero, List.getElem?_cons_zero, List.getElem?_cons_succ] at f0 f1
  obtain ⟨n0, e0, _, w0⟩ := DataW.trod_int Try.underlying3 f0
  cases e0
  refine ⟨n0, v1, _, y1, rfl, f1, ?_⟩
  simp only [List.map_cons, List.map_nil, Rows.uptoBulk, Rows.uptoBulkAll]
  omega

theorem one_put (m : Nat) (r : List Value) (y : DataW H × List MemPlace) (h : DataW.trod enc Try.prog w 0 (fun _ => true) true m 64 r = some y) : ∀ u ∈ r, Value.oneCell' u = true := by
  obtain ⟨b, v, f, x, rfl, hv, _⟩ := put_parts h
  have i1 := one_slice Try.underlying23 hv
  intro u hu
  simp only [List.mem_cons, List.not_mem_nil, or_false] at hu i1
  rcases hu with rfl | rfl
  · rfl
  · exact i1 _ rfl

theorem puts_rows (hN : Room w N0) : ∀ (rows : List (List Value)), (∀ r ∈ rows, ∃ m y, Rows.uptoBulk (Prod.fst y) ≤ 1048576 ∧ DataW.trod enc Try.prog w 0 (fun _ => true) true m 64 r = some y) →
    ∃ ps : List Pr, ps.length = rows.length ∧ rows.map (List.map (rdV w N0)) = prows ps ∧ PsV (Xw w N0) [] ps ∧ ∀ p ∈ ps, p.d.length ≤ 1048576
  | [], _ => ⟨[], rfl, rfl, (fun p hp => by cases hp), (fun p hp => by cases hp)⟩
  | r :: rows, h => by
    obtain ⟨ps, h1, h2, h3, h4⟩ := puts_rows hN rows fun r hr => h r (by simp [hr])
    obtain ⟨m, y, hb, hy⟩ := h r (by simp)
    obtain ⟨b, v, f, x, rfl, hv, hb2⟩ := put_parts hy
    obtain ⟨a, c, s, q1, q2, q3, q4⟩ := bytes_arg (.inr hN) hv
    refine ⟨⟨b, a, c, s⟩ :: ps, by simp [h1], ?_, fun z hz => ?_, fun z hz => ?_⟩
    · simp only [List.map_cons, List.map_nil, h2, q1, rdV_int]; rfl
    · rcases List.mem_cons.1 hz with rfl | hz
      · exact q3
      · exact h3 z hz
    · rcases List.mem_cons.1 hz with rfl | hz
      · show s.length ≤ _; omega
      · exact h4 z hz

/-- Puts that are handed in. -/
theorem puts_arg {fuel : Nat} {v : Value} {x : DataW H × List MemPlace} (hN : v = .slice none 0 0 ∨ Room w N0) (h : DataW.trod enc Try.prog w 0 (fun _ => true) true fuel 28 [v] = some x) (hb : Rows.uptoBulk x.1 ≤ 1048576) :
    ∃ (a : Option Pos) (c : Cap) (ps : List Pr), rdV w N0 v = .sl a ps.length c ∧ Value.oneCell' v = true ∧ RdR (Xw w N0) [] a (prows ps).flatten ∧ PsV (Xw w N0) [] ps ∧ (∀ p ∈ ps, p.d.length ≤ 1048576) := by
  rcases hN with rfl | hN
  · exact ⟨none, .ex 0, [], by simp [rdV], rfl, .nil, (fun p hp => by cases hp), (fun p hp => by cases hp)⟩
  obtain ⟨a, c, rows, h1, h2, h3, h4, h5, h6⟩ := rd_slice w hN Try.underlying28 c_put (by omega) one_put h
  obtain ⟨ps, q1, q2, q3, q4⟩ := puts_rows (enc := enc) hN rows fun r hr => by
    obtain ⟨i, hi, rfl⟩ := List.getElem_of_mem hr
    obtain ⟨_, m, y, hd, hy⟩ := h6 i _ (List.getElem?_eq_getElem hi)
    refine ⟨m, y, ?_, hy⟩
    have hm := List.mem_of_getElem? hd
    rcases h5 with ⟨e, s, he⟩ | h5
    · rw [he] at hm hb
      simp only [dsOf] at hm
      have := bulk_mem e _ hm
      simp only [Rows.uptoBulk] at hb; omega
    · rw [h5] at hi; simp at hi
  exact ⟨a, c, ps, by rw [q1]; exact h1, h2, by rw [← q2]; exact h3, q3, q4⟩

/-- What is handed in, in its parts. -/
theorem parts_arg {fuel : Nat} {cs : List Value} {x : DataW H × List MemPlace} (h : DataW.trod enc Try.prog w 0 (fun _ => true) true fuel 30 cs = some x) (hb : Rows.uptoBulk x.1 ≤ 1048576) :
    ∃ (e0 e1 e2 e3 e4 e5 s0 s1 s2 s3 s4 s5 nn : Int) (ve vt vb : Value), cs = [.int .u64 e0, .int .u64 e1, .int .u64 e2, .int .u64 e3, .int .i64 e4, .int .i64 e5, ve, .int .u64 s0, .int .u64 s1, .int .u64 s2, .int .u64 s3, .int .u64 s4, .int .u64 s5, vt, vb, .int .i64 nn] ∧
      ∀ N0, (ve = .slice none 0 0 ∨ Room w N0) → (vt = .slice none 0 0 ∨ Room w N0) → (vb = .slice none 0 0 ∨ Room w N0) →
        ∃ q : Parts, cs.map (rdV w N0) = parow q ∧ PaB (Xw w N0) [] q ∧ ∀ u ∈ cs, Value.oneCell' u = true := by
  obtain ⟨xs, n, _, rfl, hl, hx, hf⟩ := DataW.trod_struct Try.underlying30 h
  rw [c_parts] at hl
  obtain ⟨v0, v1, v2, v3, v4, v5, v6, v7, v8, v9, v10, v11, v12, v13, v14, v15, rfl⟩ := sixteen hl
  obtain ⟨y0, y1, y2, y3, y4, rfl⟩ := five (l := xs) (by rw [hx]; rfl)
  have f0 := hf 0 _ rfl
  have f1 := hf 1 _ rfl
  have f2 := hf 2 _ rfl
  have f3 := hf 3 _ rfl
  have f4 := hf 4 _ rfl
  simp only [c_entry, c_super, c_puts, c_bytes, c_int, List.drop_zero, List.drop_succ_cons, List.take_succ_cons, List.take_zero, List.getElem?_cons_zero, List.getElem?_cons_succ] at f0 f1 f2 f3 f4
  obtain ⟨es, k0, _, z0, hl0, hx0, hg⟩ := DataW.trod_struct Try.underlying25 f0
  obtain ⟨a0, a1, a2, a3, a4, a5, a6, rfl⟩ := seven (l := es) (by rw [hx0]; rfl)
  have g0 := hg 0 _ rfl
  have g1 := hg 1 _ rfl
  have g2 := hg 2 _ rfl
  have g3 := hg 3 _ rfl
  have g4 := hg 4 _ rfl
  have g5 := hg 5 _ rfl
  have g6 := hg 6 _ rfl
  simp only [c_int, c_u64, c_bytes, List.drop_zero, List.drop_succ_cons, List.take_succ_cons, List.take_zero, List.getElem?_cons_zero, List.getElem?_cons_succ] at g0 g1 g2 g3 g4 g5 g6
  obtain ⟨e0, q0, _, w0⟩ := DataW.trod_int Try.underlying22 g0
  obtain ⟨e1, q1, _, w1⟩ := DataW.trod_int Try.underlying22 g1
  obtain ⟨e2, q2, _, w2⟩ := DataW.trod_int Try.underlying22 g2
  obtain ⟨e3, q3, _, w3⟩ := DataW.trod_int Try.underlying22 g3
  obtain ⟨e4, q4, _, w4⟩ := DataW.trod_int Try.underlying3 g4
  obtain ⟨e5, q5, _, w5⟩ := DataW.trod_int Try.underlying3 g5
  obtain ⟨ss, k1, _, z1, hl1, hx1, hg1⟩ := DataW.trod_struct Try.underlying27 f1
  obtain ⟨c0, c1, c2, c3, c4, c5, rfl⟩ := six (l := ss) (by rw [hx1]; rfl)
  have h0 := hg1 0 _ rfl
  have h1 := hg1 1 _ rfl
  have h2 := hg1 2 _ rfl
  have h3 := hg1 3 _ rfl
  have h4 := hg1 4 _ rfl
  have h5 := hg1 5 _ rfl
  simp only [c_u64, List.drop_zero, List.drop_succ_cons, List.take_succ_cons, List.take_zero, List.getElem?_cons_zero, List.getElem?_cons_succ] at h0 h1 h2 h3 h4 h5
  obtain ⟨s0, r0, _, u0⟩ := DataW.trod_int Try.underlying22 h0
  obtain ⟨s1, r1, _, u1⟩ := DataW.trod_int Try.underlying22 h1
  obtain ⟨s2, r2, _, u2⟩ := DataW.trod_int Try.underlying22 h2
  obtain ⟨s3, r3, _, u3⟩ := DataW.trod_int Try.underlying22 h3
  obtain ⟨s4, r4, _, u4⟩ := DataW.trod_int Try.underlying22 h4
  obtain ⟨s5, r5, _, u5⟩ := DataW.trod_int Try.underlying22 h5
  obtain ⟨nn, r6, _, u6⟩ := DataW.trod_int Try.underlying3 f4
  cases q0; cases q1; cases q2; cases q3; cases q4; cases q5
  cases r0; cases r1; cases r2; cases r3; cases r4; cases r5; cases r6
  have hbb : Rows.uptoBulk a6.1 ≤ 1048576 ∧ Rows.uptoBulk y2.1 ≤ 1048576 ∧ Rows.uptoBulk y3.1 ≤ 1048576 := by
    rw [z0] at hb
    simp only [List.map_cons, List.map_nil, Rows.uptoBulk, Rows.uptoBulkAll] at hb
    omega
  refine ⟨e0, e1, e2, e3, e4, e5, s0, s1, s2, s3, s4, s5, nn, v6, v13, v14, rfl, fun N0 n1 n2 n3 => ?_⟩
  obtain ⟨ea, ec, eb, p1, p2, p3, p4⟩ := bytes_arg n1 g6
  obtain ⟨ta, tc, tt, t1, t2, t3, t4, t5⟩ := puts_arg n2 f2 hbb.2.1
  obtain ⟨ba, bc, bb, m1, m2, m3, m4⟩ := bytes_arg n3 f3
  refine ⟨⟨⟨e0, e1, e2, e3, e4, e5, eb⟩, ea, ec, ⟨s0, s1, s2, s3, s4, s5⟩, ta, tc, tt, ba, bc, bb, nn⟩, ?_, ?_, ?_⟩
  · simp only [List.map_cons, List.map_nil, p1, t1, m1, rdV_int]; rfl
  · refine ⟨⟨b_u64 (b_wf w0), b_u64 (b_wf w1), b_u64 (b_wf w2), b_u64 (b_wf w3), b_i64 (b_wf w4), b_i64 (b_wf w5)⟩, p3, ?_, t3, t4, m3, by show eb.length ≤ _; omega, t5, by show bb.length ≤ _; omega⟩
    intro y hy
    simp only [Su.l, List.mem_cons, List.not_mem_nil, or_false] at hy
    rcases hy with rfl | rfl | rfl | rfl | rfl | rfl
    · exact b_u64 (b_wf u0)
    · exact b_u64 (b_wf u1)
    · exact b_u64 (b_wf u2)
    · exact b_u64 (b_wf u3)
    · exact b_u64 (b_wf u4)
    · exact b_u64 (b_wf u5)
  · intro u hu
    simp only [List.mem_cons, List.not_mem_nil, or_false] at hu
    rcases hu with rfl | rfl | rfl | rfl | rfl | rfl | rfl | rfl | rfl | rfl | rfl | rfl | rfl | rfl | rfl | rfl
    all_goals first | rfl | exact p2 | exact t2 | exact m2

theorem slot {r : Reach} {base : Nat} {v : Value} {t e : TypeId} {P : Program} (ht : P.underlying t = some (.slice e)) (h : Value.okWide P w r base t v) : v = .slice none 0 0 ∨ ∃ N0, Room w N0 := by
  obtain ⟨a, l, c, rfl⟩ := Go.WideShapes.okWide_slice ht h
  cases a with
  | some A =>
    obtain ⟨C, hC⟩ := arg_block w ht h
    exact .inr ⟨_, room_of w hC⟩
  | none =>
    left
    simp only [Value.okWide, ht, Cell.okWide, Cell.ok] at h
    split at h <;> simp_all
/-- A stand-in for three slices that are handed in. -/
theorem room3 {v1 v2 v3 : Value} (h1 : v1 = .slice none 0 0 ∨ ∃ N0, Room w N0) (h2 : v2 = .slice none 0 0 ∨ ∃ N0, Room w N0) (h3 : v3 = .slice none 0 0 ∨ ∃ N0, Room w N0) :
    ∃ N0, (v1 = .slice none 0 0 ∨ Room w N0) ∧ (v2 = .slice none 0 0 ∨ Room w N0) ∧ (v3 = .slice none 0 0 ∨ Room w N0) := by
  rcases h1 with h1 | ⟨N, hN⟩
  · rcases h2 with h2 | ⟨N, hN⟩
    · rcases h3 with h3 | ⟨N, hN⟩
      · exact ⟨0, .inl h1, .inl h2, .inl h3⟩
      · exact ⟨N, .inr hN, .inr hN, .inr hN⟩
    · exact ⟨N, .inr hN, .inr hN, .inr hN⟩
  · exact ⟨N, .inr hN, .inr hN, .inr hN⟩
end

end Go.Jn
