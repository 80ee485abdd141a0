/- Acts on a journal that are handed in. -/
import Derived.Test.YtcepfilbiahdjaaRows
import Derived.Test.YtcepfilbiahdjaaJmH
import Derived.Test.YtcepfilbiahdjaaGrArgs
import Derived.KernelRfl
set_option linter.unusedVariables false
set_option linter.unusedSimpArgs false
set_option maxRecDepth 4000
namespace Go.Jn
open Go.Gr
open Go.Proofs Go.Proofs.Ytcepfilbiahdjaa
section
variable {H : Type}
theorem bulk_pos (d : DataW H) : 1 ≤ Rows.uptoBulk d := by
 cases d with
 | lit l => cases l <;> simp [Rows.uptoBulk]
 | _ => simp [Rows.uptoBulk]
theorem bulk_len : ∀ l : List (DataW H), l.length ≤ Rows.uptoBulkAll l
 | [] => by simp
 | d :: l => by
   have := bulk_len l
   have := bulk_pos d
   simp only [Rows.uptoBulkAll, List.length_cons]; omega
theorem bulk_mem : ∀ (l : List (DataW H)) (d : DataW H), d ∈ l → Rows.uptoBulk d ≤ Rows.uptoBulkAll l
 | [], d, h => by cases h
 | x :: l, d, h => by
   simp only [Rows.uptoBulkAll]
   rcases List.mem_cons.1 h with rfl | h
   ·omega
   ·have := bulk_mem l d h; omega
theorem bulk_slice {x : DataW H} {α : Type} {l : List α} (h : (∃ e s, x = .slice e s ∧ e.length = l.length) ∨ l = []) : l.length ≤ Rows.uptoBulk x := by
 rcases h with ⟨e, s, rfl, h⟩ | rfl
 ·have := bulk_len e
  simp only [Rows.uptoBulk]; omega
 ·simp
variable {enc : TypeId × Value → H} {w : World} {N0 : Nat}
theorem one_slice {P : Program} {t e : TypeId} (ht : P.underlying t = some (.slice e)) {fuel : Nat} {cs : List Value} {y : DataW H × List MemPlace} (h : DataW.trod enc P w 0 (fun _ => true) true fuel t cs = some y) : ∀ u ∈ cs, Value.oneCell' u = true := by
 intro u hu
 rcases DataW.trod_slice ht h with ⟨rfl, _⟩ | ⟨A, len, cap, _, _, _, _, rfl, _⟩ <;> (simp at hu; subst hu; rfl)
theorem c_int : Try.prog.cellsOf 3 = 1 := by kernel_rfl
theorem c_u64 : Try.prog.cellsOf 31 = 1 := by kernel_rfl
theorem c_u8 : Try.prog.cellsOf 5 = 1 := by kernel_rfl
theorem c_bytes : Try.prog.cellsOf 34 = 1 := by kernel_rfl
theorem c_puts : Try.prog.cellsOf 30 = 1 := by kernel_rfl
theorem c_ints : Try.prog.cellsOf 29 = 1 := by kernel_rfl
theorem c_act : Try.prog.cellsOf 33 = 5 := by kernel_rfl
theorem c_put : Try.prog.cellsOf 66 = 2 := by kernel_rfl
theorem rdV_int {k : IntKind} {n : Int} : rdV w N0 (.int k n) = .int k n := rfl
theorem two {α : Type} {l : List α} (h : l.length = 2) : ∃ a b, l = [a, b] := by
 match l, h with
 | [a, b], _ => exact ⟨a, b, rfl⟩
theorem five {α : Type} {l : List α} (h : l.length = 5) : ∃ a b c d e, l = [a, b, c, d, e] := by
 match l, h with
 | [a, b, c, d, e], _ => exact ⟨a, b, c, d, e, rfl⟩
theorem six {α : Type} {l : List α} (h : l.length = 6) : ∃ a b c d e f, l = [a, b, c, d, e, f] := by
 match l, h with
 | [a, b, c, d, e, f], _ => exact ⟨a, b, c, d, e, f, rfl⟩
theorem b_u64 {i : Int} (h : IntKind.min .u64 ≤ i ∧ i ≤ IntKind.max .u64) : 0 ≤ i ∧ i < 18446744073709551616 := by
 have e1 : IntKind.min .u64 = 0 := by decide
 have e2 : IntKind.max .u64 = 18446744073709551615 := by decide
 rw [e1, e2] at h
 omega
theorem b_i64 {i : Int} (h : IntKind.min .i64 ≤ i ∧ i ≤ IntKind.max .i64) : -9223372036854775808 ≤ i ∧ i < 9223372036854775808 := by
 have e1 : IntKind.min .i64 = -9223372036854775808 := by decide
 have e2 : IntKind.max .i64 = 9223372036854775807 := by decide
 rw [e1, e2] at h
 omega
theorem b_u8 {i : Int} (h : IntKind.min .u8 ≤ i ∧ i ≤ IntKind.max .u8) : 0 ≤ i ∧ i ≤ 255 := by
 have e1 : IntKind.min .u8 = 0 := by decide
 have e2 : IntKind.max .u8 = 255 := by decide
 rw [e1, e2] at h
 omega
theorem b_wf {k : IntKind} {i : Int} (h : (Lit.int k i).wf = true) : k.min ≤ i ∧ i ≤ k.max := by
 simpa only [Lit.wf, Bool.and_eq_true, decide_eq_true_eq] using h
theorem rd_cap {v : Value} {a : OP} {l : Nat} {c : Cap} (h : rdV w N0 v = .sl a l c) : ∃ N, c = .ex N ∧ l ≤ N := by
 unfold rdV at h
 split at h
 ·cases h
 ·cases h
 ·cases h
 ·split at h
  ·cases h; exact ⟨0, rfl, Nat.le_refl _⟩
  ·cases h
 ·split at h
  ·split at h
   ·cases h; exact ⟨0, rfl, Nat.le_refl _⟩
   ·cases h
  ·split at h
   ·rename_i hh
    cases h; exact ⟨_, rfl, hh.2.2⟩
   ·cases h
 ·cases h
theorem bytes_arg {fuel : Nat} {v : Value} {x : DataW H × List MemPlace} (hN : v = .slice none 0 0 ∨ Room w N0) (h : DataW.trod enc Try.prog w 0 (fun _ => true) true fuel 34 [v] = some x) :
 ∃ (a : OP) (c : Cap) (s : List UInt8), rdV w N0 v = .sl a s.length c ∧ Value.oneCell' v = true ∧ Vw (Xw w N0) [] a s.length c s ∧ s.length ≤ Rows.uptoBulk x.1 := by
 obtain ⟨a, c, ts, h1, h2, h3, h4, h5⟩ := rd_ints w hN Try.underlying34 Try.underlying5 c_u8 h
 obtain ⟨s, hs1, hs2⟩ := bytes_of ts (fun i hi => b_u8 (h4 i hi))
 obtain ⟨N, hc, hl⟩ := rd_cap h1
 rw [← hs1] at h1 hl
 refine ⟨a, c, s, h1, h2, ⟨by rw [hs2]; exact h3, rfl, N, .inl hc, hl⟩, ?_⟩
 rw [hs1]
 exact bulk_slice h5
theorem put_parts {m : Nat} {r : List Value} {y : DataW H × List MemPlace} (h : DataW.trod enc Try.prog w 0 (fun _ => true) true m 66 r = some y) :
 ∃ (b : Int) (v : Value) (f : Nat) (x : DataW H × List MemPlace), r = [.int .i64 b, v] ∧ DataW.trod enc Try.prog w 0 (fun _ => true) true f 34 [v] = some x ∧ Rows.uptoBulk x.1 ≤ Rows.uptoBulk y.1 := by
 obtain ⟨xs, n, _, rfl, hl, hx, hf⟩ := DataW.trod_struct Try.underlying66 h
 rw [c_put] at hl
 obtain ⟨v0, v1, rfl⟩ := two hl
 obtain ⟨y0, y1, rfl⟩ := two (l := xs) (by rw [hx]; rfl)
 have f0 := hf 0 _ rfl
 have f1 := hf 1 _ rfl
 simp only [c_int, c_bytes, List.drop_zero, List.drop_succ_cons, List.take_succ_cons, List.take_zero, List.getElem?_cons_zero, List.getElem?_cons_succ] at f0 f1
 obtain ⟨n0, e0, _, w0⟩ := DataW.trod_int Try.underlying3 f0
 cases e0
 refine ⟨n0, v1, _, y1, rfl, f1, ?_⟩
 simp only [List.map_cons, List.map_nil, Rows.uptoBulk, Rows.uptoBulkAll]
 omega
theorem one_put (m : Nat) (r : List Value) (y : DataW H × List MemPlace) (h : DataW.trod enc Try.prog w 0 (fun _ => true) true m 66 r = some y) : ∀ u ∈ r, Value.oneCell' u = true := by
 obtain ⟨b, v, f, x, rfl, hv, _⟩ := put_parts h
 have i1 := one_slice Try.underlying34 hv
 intro u hu
 simp only [List.mem_cons, List.not_mem_nil, or_false] at hu i1
 rcases hu with rfl | rfl
 ·rfl
 ·exact i1 _ rfl
theorem puts_rows (hN : Room w N0) : ∀ (rows : List (List Value)), (∀ r ∈ rows, ∃ m y, Rows.uptoBulk (Prod.fst y) ≤ 1048576 ∧ DataW.trod enc Try.prog w 0 (fun _ => true) true m 66 r = some y) →
 ∃ ps : List Pr, ps.length = rows.length ∧ rows.map (List.map (rdV w N0)) = prows ps ∧ PsV (Xw w N0) [] ps ∧ ∀ p ∈ ps, p.d.length ≤ 1048576
 | [], _ => ⟨[], rfl, rfl, (fun p hp => by cases hp), (fun p hp => by cases hp)⟩
 | r :: rows, h => by
   obtain ⟨ps, h1, h2, h3, h4⟩ := puts_rows hN rows fun r hr => h r (by simp [hr])
   obtain ⟨m, y, hb, hy⟩ := h r (by simp)
   obtain ⟨b, v, f, x, rfl, hv, hb2⟩ := put_parts hy
   obtain ⟨a, c, s, q1, q2, q3, q4⟩ := bytes_arg (.inr hN) hv
   refine ⟨⟨b, a, c, s⟩ :: ps, by simp [h1], ?_, fun z hz => ?_, fun z hz => ?_⟩
   ·simp only [List.map_cons, List.map_nil, h2, q1, rdV_int]; rfl
   ·rcases List.mem_cons.1 hz with rfl | hz
    ·exact q3
    ·exact h3 z hz
   ·rcases List.mem_cons.1 hz with rfl | hz
    ·show s.length ≤ _; omega
    ·exact h4 z hz
theorem puts_arg {fuel : Nat} {v : Value} {x : DataW H × List MemPlace} (hN : v = .slice none 0 0 ∨ Room w N0) (h : DataW.trod enc Try.prog w 0 (fun _ => true) true fuel 30 [v] = some x) (hb : Rows.uptoBulk x.1 ≤ 1048576) :
 ∃ (a : OP) (c : Cap) (ps : List Pr), rdV w N0 v = .sl a ps.length c ∧ Value.oneCell' v = true ∧ RdR (Xw w N0) [] a (prows ps).flatten ∧ PsV (Xw w N0) [] ps ∧ (∀ p ∈ ps, p.d.length ≤ 1048576) := by
 rcases hN with rfl | hN
 ·exact ⟨none, .ex 0, [], by simp [rdV], rfl, .nil, (fun p hp => by cases hp), (fun p hp => by cases hp)⟩
 obtain ⟨a, c, rows, h1, h2, h3, h4, h5, h6⟩ := rd_slice w hN Try.underlying30 c_put (by omega) one_put h
 obtain ⟨ps, q1, q2, q3, q4⟩ := puts_rows (enc := enc) hN rows fun r hr => by
  obtain ⟨i, hi, rfl⟩ := List.getElem_of_mem hr
  obtain ⟨_, m, y, hd, hy⟩ := h6 i _ (List.getElem?_eq_getElem hi)
  refine ⟨m, y, ?_, hy⟩
  have hm := List.mem_of_getElem? hd
  rcases h5 with ⟨e, s, he⟩ | h5
  ·rw [he] at hm hb
   simp only [dsOf] at hm
   have := bulk_mem e _ hm
   simp only [Rows.uptoBulk] at hb; omega
  ·rw [h5] at hi; simp at hi
 exact ⟨a, c, ps, by rw [q1]; exact h1, h2, by rw [← q2]; exact h3, q3, q4⟩
theorem act_parts {m : Nat} {r : List Value} {y : DataW H × List MemPlace} (h : DataW.trod enc Try.prog w 0 (fun _ => true) true m 33 r = some y) :
 ∃ (k lsn fl : Int) (vt vk : Value) (f1 f2 : Nat) (x1 x2 : DataW H × List MemPlace), r = [.int .i64 k, vt, .int .u64 lsn, vk, .int .i64 fl] ∧ u64B lsn ∧ i64B fl ∧ DataW.trod enc Try.prog w 0 (fun _ => true) true f1 30 [vt] = some x1 ∧ DataW.trod enc Try.prog w 0 (fun _ => true) true f2 29 [vk] = some x2 ∧
   Rows.uptoBulk x1.1 ≤ Rows.uptoBulk y.1 ∧ Rows.uptoBulk x2.1 ≤ Rows.uptoBulk y.1 := by
 obtain ⟨xs, n, _, rfl, hl, hx, hf⟩ := DataW.trod_struct Try.underlying33 h
 rw [c_act] at hl
 obtain ⟨v0, v1, v2, v3, v4, rfl⟩ := five hl
 obtain ⟨y0, y1, y2, y3, y4, rfl⟩ := five (l := xs) (by rw [hx]; rfl)
 have f0 := hf 0 _ rfl
 have f1 := hf 1 _ rfl
 have f2 := hf 2 _ rfl
 have f3 := hf 3 _ rfl
 have f4 := hf 4 _ rfl
 simp only [c_int, c_u64, c_puts, c_ints, List.drop_zero, List.drop_succ_cons, List.take_succ_cons, List.take_zero, List.getElem?_cons_zero, List.getElem?_cons_succ] at f0 f1 f2 f3 f4
 obtain ⟨n0, e0, _, w0⟩ := DataW.trod_int Try.underlying3 f0
 obtain ⟨n2, e2, _, w2⟩ := DataW.trod_int Try.underlying31 f2
 obtain ⟨n4, e4, _, w4⟩ := DataW.trod_int Try.underlying3 f4
 cases e0; cases e2; cases e4
 refine ⟨n0, n2, n4, v1, v3, _, _, y1, y3, rfl, b_u64 (b_wf w2), b_i64 (b_wf w4), f1, f3, ?_, ?_⟩ <;>
 ·simp only [List.map_cons, List.map_nil, Rows.uptoBulk, Rows.uptoBulkAll]
  omega
theorem one_act (m : Nat) (r : List Value) (y : DataW H × List MemPlace) (h : DataW.trod enc Try.prog w 0 (fun _ => true) true m 33 r = some y) : ∀ u ∈ r, Value.oneCell' u = true := by
 obtain ⟨k, lsn, fl, vt, vk, f1, f2, x1, x2, rfl, _, _, h1, h2, _, _⟩ := act_parts h
 have i1 := one_slice Try.underlying30 h1
 have i2 := one_slice Try.underlying29 h2
 intro u hu
 simp only [List.mem_cons, List.not_mem_nil, or_false] at hu i1 i2
 rcases hu with rfl | rfl | rfl | rfl | rfl
 all_goals first | rfl | exact i1 _ rfl | exact i2 _ rfl
theorem puts_len {fuel : Nat} {v : Value} {x : DataW H × List MemPlace} (hN : Room w N0) (h : DataW.trod enc Try.prog w 0 (fun _ => true) true fuel 30 [v] = some x) {a : OP} {l : Nat} {c : Cap} (hv : rdV w N0 v = .sl a l c) : l ≤ Rows.uptoBulk x.1 := by
 obtain ⟨a', c', rows, h1, h2, h3, h4, h5, h6⟩ := rd_slice w hN Try.underlying30 c_put (by omega) one_put h
 rw [h1] at hv
 cases hv
 refine bulk_slice ?_
 rcases h5 with ⟨e, s, he⟩ | h5
 ·exact .inl ⟨e, s, he, by rw [he] at h4; simpa [dsOf] using h4⟩
 ·exact .inr h5
theorem act_row (hN : Room w N0) {m : Nat} {r : List Value} {y : DataW H × List MemPlace} (h : DataW.trod enc Try.prog w 0 (fun _ => true) true m 33 r = some y) (hb : Rows.uptoBulk y.1 ≤ 1048576) :
 ∃ x : Ac, r.map (rdV w N0) = acrow x ∧ P.AcP (Xw w N0) [] x := by
 obtain ⟨k, lsn, fl, vt, vk, f1, f2, x1, x2, rfl, hl, hfl, h1, h2, b1, b2⟩ := act_parts h
 obtain ⟨ta, tc, tt, t1, t2, t3, t4, t5⟩ := puts_arg (.inr hN) h1 (by omega)
 obtain ⟨ka, kc, kk, k1, k2, k3, k4, k5⟩ := rd_ints w (.inr hN) Try.underlying29 Try.underlying3 c_int h2
 have hkl := bulk_slice k5
 have htl := puts_len hN h1 t1
 refine ⟨⟨k, ta, tc, tt, lsn, ka, kk.length, kc, fl⟩, ?_, ⟨⟨t3, t4, t5, hl, by show tt.length ≤ _; omega, by show kk.length ≤ _; omega⟩, ⟨kk, rfl, by rw [ixs_flat]; exact k3⟩, hfl⟩⟩
 simp only [List.map_cons, List.map_nil, t1, k1, rdV_int]; rfl
theorem acts_rows (hN : Room w N0) : ∀ (rows : List (List Value)), (∀ r ∈ rows, ∃ m y, Rows.uptoBulk (Prod.fst y) ≤ 1048576 ∧ DataW.trod enc Try.prog w 0 (fun _ => true) true m 33 r = some y) →
 ∃ acts : List Ac, acts.length = rows.length ∧ rows.map (List.map (rdV w N0)) = acrows acts ∧ ∀ x ∈ acts, P.AcP (Xw w N0) [] x
 | [], _ => ⟨[], rfl, rfl, by simp⟩
 | r :: rows, h => by
   obtain ⟨acts, h1, h2, h3⟩ := acts_rows hN rows fun r hr => h r (by simp [hr])
   obtain ⟨m, y, hb, hy⟩ := h r (by simp)
   obtain ⟨x, hx, hB⟩ := act_row hN hy hb
   refine ⟨x :: acts, by simp [h1], by simp only [List.map_cons, h2, hx]; rfl, fun z hz => ?_⟩
   rcases List.mem_cons.1 hz with rfl | hz
   ·exact hB
   ·exact h3 z hz
theorem acts_arg {fuel : Nat} {v : Value} {x : DataW H × List MemPlace} (hN : v = .slice none 0 0 ∨ Room w N0) (h : DataW.trod enc Try.prog w 0 (fun _ => true) true fuel 22 [v] = some x) (hb : Rows.uptoBulk x.1 ≤ 1048576) :
 ∃ (a : OP) (c : Cap) (acts : List Ac), rdV w N0 v = .sl a acts.length c ∧ Value.oneCell' v = true ∧ RdR (Xw w N0) [] a (acrows acts).flatten ∧ (∀ y ∈ acts, P.AcP (Xw w N0) [] y) ∧ acts.length ≤ 1048576 := by
 rcases hN with rfl | hN
 ·exact ⟨none, .ex 0, [], by simp [rdV], rfl, .nil, by simp, by simp⟩
 obtain ⟨a, c, rows, h1, h2, h3, h4, h5, h6⟩ := rd_slice w hN Try.underlying22 c_act (by omega) one_act h
 have hlen : rows.length ≤ Rows.uptoBulk x.1 := by
  refine bulk_slice ?_
  rcases h5 with ⟨e, s, he⟩ | h5
  ·exact .inl ⟨e, s, he, by rw [he] at h4; simpa [dsOf] using h4⟩
  ·exact .inr h5
 obtain ⟨acts, q1, q2, q3⟩ := acts_rows (enc := enc) hN rows fun r hr => by
  obtain ⟨i, hi, rfl⟩ := List.getElem_of_mem hr
  obtain ⟨_, m, y, hd, hy⟩ := h6 i _ (List.getElem?_eq_getElem hi)
  refine ⟨m, y, ?_, hy⟩
  have hm := List.mem_of_getElem? hd
  rcases h5 with ⟨e, s, he⟩ | h5
  ·rw [he] at hm hb
   simp only [dsOf] at hm
   have := bulk_mem e _ hm
   simp only [Rows.uptoBulk] at hb; omega
  ·rw [h5] at hi; simp at hi
 exact ⟨a, c, acts, by rw [q1]; exact h1, h2, by rw [← q2]; exact h3, q3, by omega⟩
theorem slot {r : Reach} {base : Nat} {v : Value} {t e : TypeId} {P : Program} (ht : P.underlying t = some (.slice e)) (h : Value.okWide P w r base t v) : ∃ N0, v = .slice none 0 0 ∨ Room w N0 := by
 obtain ⟨a, l, c, rfl⟩ := Go.WideShapes.okWide_slice ht h
 cases a with
 | some A =>
   obtain ⟨C, hC⟩ := arg_block w ht h
   exact ⟨_, .inr (room_of w hC)⟩
 | none =>
   refine ⟨0, .inl ?_⟩
   simp only [Value.okWide, ht, Cell.okWide, Cell.ok] at h
   split at h <;> simp_all
end
end Go.Jn
