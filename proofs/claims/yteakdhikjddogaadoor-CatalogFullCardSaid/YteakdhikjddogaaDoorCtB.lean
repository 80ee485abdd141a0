/- The law CatalogFull: its run. -/
import Derived.Test.YteakdhikjddogaaDoorCtA
set_option linter.unusedVariables false
set_option linter.unusedSimpArgs false
set_option maxRecDepth 4000
namespace Go.Ct
open Go.Gr

/-- So many snapshots were added. -/
structure Fl (A : CM) (j : Nat) : Prop where
  p : A.past = j
  l : A.l.length = j
  t : A.tick < j ∨ j = 0
  n : ∀ k, k < j → ∃ s, A.l[k]? = some s ∧ s.n = ((k + 1 : Nat) : Int)

theorem Fl.add {A : CM} {j : Nat} (h : Fl A j) (hj : j < 256) {r : List UInt8} (hr : r.length = 32) (z : Int) : A.addE j r = 0 ∧ Fl (A.add j r z) (j + 1) := by
  have hp := h.p
  have hl := h.l
  have ht := h.t
  have he : A.addE j r = 0 := by
    unfold CM.addE
    rw [if_neg (by omega), if_neg (by omega), if_neg (by omega)]
  refine ⟨he, ?_⟩
  rw [CM.add, if_pos he]
  refine ⟨by show A.past + 1 = _; omega, by simp; omega, .inl (by show (j : Int) < _; omega), fun k hk => ?_⟩
  show ∃ s, (A.l ++ [_])[k]? = some s ∧ _
  by_cases hkj : k < j
  · obtain ⟨s, hs, hn⟩ := h.n k hkj
    exact ⟨s, by rw [List.getElem?_append_left (by omega)]; exact hs, hn⟩
  · have hkj : k = A.l.length := by omega
    subst hkj
    exact ⟨_, by rw [List.getElem?_append_right (by omega), Nat.sub_self]; rfl, by show ((A.past + 1 : Nat) : Int) = _; omega⟩
theorem Fl.full {A : CM} (h : Fl A 256) {t : Int} (ht : 256 ≤ t) {r : List UInt8} (hr : r.length = 32) (z : Int) : A.addE t r = 5 ∧ A.add t r z = A := by
  have hp := h.p
  have hl := h.l
  have ht2 := h.t
  have he : A.addE t r = 5 := by
    unfold CM.addE
    rw [if_neg (by omega), if_neg (by omega), if_pos (by omega)]
  exact ⟨he, by rw [CM.add, if_neg (by rw [he]; decide)]⟩
theorem Fl.drop {A : CM} (h : Fl A 256) (x : Int) : ((1 ≤ x ∧ x ≤ 256) ∧ A.dropE x = 0 ∧ (A.drop x).l.length = 255 ∨ ¬ (1 ≤ x ∧ x ≤ 256) ∧ A.dropE x = 7 ∧ (A.drop x).l.length = 256) ∧ (A.drop x).past = 256 ∧ (A.drop x).tick < 256 := by
  have hp := h.p
  have hl := h.l
  have ht := h.t
  cases hf : fnd x A.l with
  | none =>
    have hd : A.drop x = A := by simp [CM.drop, hf]
    rw [hd]
    refine ⟨.inr ⟨fun hx => ?_, by simp [CM.dropE, hf], hl⟩, hp, by omega⟩
    obtain ⟨s, hs, hn⟩ := h.n (x.toNat - 1) (by omega)
    have := List.findIdx?_eq_none_iff.1 hf s (List.mem_of_getElem? hs)
    simp only [decide_eq_false_iff_not] at this
    exact this (by rw [hn]; omega)
  | some i =>
    obtain ⟨hi, hxi, _⟩ := List.findIdx?_eq_some_iff_getElem.1 hf
    simp only [decide_eq_true_eq] at hxi
    obtain ⟨s, hs, hn⟩ := h.n i (by omega)
    have : A.l[i] = s := by simpa [hi] using hs
    have hd : A.drop x = { A with l := A.l.eraseIdx i } := by simp [CM.drop, hf]
    rw [hd]
    exact ⟨.inl ⟨by rw [← hxi, this, hn]; omega, by simp [CM.dropE, hf], by show (A.l.eraseIdx i).length = _; rw [List.length_eraseIdx, if_pos hi]; omega⟩, hp, by show A.tick < _; omega⟩

section
variable {X : Cx} {S : AS} {L F : List Ent} {b : Nat} {A : CM} {Q : AV → AS → Prop}

theorem wu8 (i : Nat) : IntKind.wrap .u8 (i : Int) = ((i % 256 : Nat) : Int) := by
  simp [IntKind.wrap, IntKind.bits, IntKind.signed]

theorem full_loop (n0 n : Nat) (hn : 70000 < n) {w0 w1 : Int} (h0 : 0 ≤ w0) (h3 : w0 ≤ 3) (w4 : Bool) : ∀ (m i : Nat) (A : CM) (L : List Ent) (S : AS), i ≤ 256 + w0.toNat → 256 + w0.toNat - i < m → Fl A (min i 256) → Cat b A L → Hp X S (L ++ F) →
    Ok (J5_l1_1_1_1_0_1_0 (evF E orcL (n + 4)) n0 m w0 w1 w4 (some (.rw b, 0)) i S) TrueQ
  | 0, i, A, L, S, hi, hm, hf, hc, h => by omega
  | m + 1, i, A, L, S, hi, hm, hf, hc, h => by
    rw [J5_l1_1_1_1_0_1_0_succ]
    simp only [b5_l1_1_1_1_0_1_0]
    have hp := hf.p
    have hl := hf.l
    rw [wz (x := 256 + w0) (z := 256 + w0) rfl (by omega) (by omega)]
    refine ok_cond (fun hc1 => ?_) (fun hc1 => ?_)
    · simp only [decide_eq_true_eq] at hc1
      rw [wu8 i]
      obtain ⟨v, S1, e, rfl, h1⟩ : Ok (evF E orcL (n + 4) (.fn 20) [.int .u8 ((i % 256 : Nat) : Int)] S) _ := digest_ok (n + 3) (by omega) h (x := i % 256) (Nat.mod_lt _ (by decide)) rfl
      rw [callS_of e, wu64 (n := (i : Int)) (by omega) (by omega)]
      obtain ⟨v, S2, e, rfl, L2, hc2, h2⟩ : Ok (evF E orcL (n + 4) (.fn 19) [.ptr (some (.rw b, 0)), .int .u64 i, .str (List.replicate 32 (UInt8.ofNat (i % 256))), .int .u64 0] S1) _ := add_ok (n + 3) h1 hc i _ 0
      rw [callT_of e]
      refine ok_atI rfl (ok_atI rfl ?_)
      rw [callI_of (num_eq (n + 3) _ S2), callI_of (num_eq (n + 3) _ S2)]
      rw [wn (x := (i : Int) + 1) (n := i + 1) (by omega) (by omega)]
      by_cases hi2 : i < 256
      · have hmin : min i 256 = i := Nat.min_eq_left (by omega)
        rw [hmin] at hf hp hl
        obtain ⟨he, hf2⟩ := hf.add hi2 (r := List.replicate 32 (UInt8.ofNat (i % 256))) (by simp) 0
        rw [he, callI_of (num_eq (n + 3) _ S2)]
        refine ok_false (by simp; omega) (ok_true rfl (ok_false ?_ (ok_false rfl ?_)))
        · rw [CM.addV, if_pos he, hp, wn (x := ((i + 1 : Nat) : Int)) (n := i + 1) rfl (by omega)]
          simp
        · exact full_loop n0 n hn h0 h3 w4 m (i + 1) _ L2 S2 (by omega) (by omega) (by rw [Nat.min_eq_left (by omega)]; exact hf2) hc2 h2
      · have hmin : min i 256 = 256 := Nat.min_eq_right (by omega)
        rw [hmin] at hf hp hl
        obtain ⟨he, ha2⟩ := hf.full (t := (i : Int)) (by omega) (r := List.replicate 32 (UInt8.ofNat (i % 256))) (by simp) 0
        rw [he, callI_of (num_eq (n + 3) _ S2)]
        rw [ha2] at hc2
        refine ok_false (by simp; omega) (ok_false rfl (ok_true rfl ?_))
        rw [callI_of (num_eq (n + 3) _ S2)]
        refine ok_false rfl (ok_false ?_ ?_)
        · rw [CM.addV, if_neg (by rw [he]; decide)]; rfl
        · exact full_loop n0 n hn h0 h3 w4 m (i + 1) _ L2 S2 (by omega) (by omega) (by rw [Nat.min_eq_right (by omega)]; exact hf) hc2 h2
    · simp only [decide_eq_false_iff_not] at hc1
      have hmin : min i 256 = 256 := Nat.min_eq_right (by omega)
      rw [hmin] at hf hp hl
      obtain ⟨hd, hdp, hdt⟩ := hf.drop w1
      obtain ⟨v, S1, e, rfl, L1, hcd, h1⟩ : Ok (evF E orcL (n + 4) (.fn 21) [.ptr (some (.rw b, 0)), .int .u32 w1] S) _ := drop_ok n hn h hc (by omega) w1
      obtain ⟨v, S2, e2, rfl, h2⟩ : Ok (evF E orcL (n + 4) (.fn 20) [.int .u8 1] S1) _ := digest_ok (n + 3) (by omega) h1 (x := 1) (by decide) rfl
      obtain ⟨v, S3, e3, rfl, L3, hc3, h3'⟩ : Ok (evF E orcL (n + 4) (.fn 19) [.ptr (some (.rw b, 0)), .int .u64 1000, .str (List.replicate 32 (UInt8.ofNat 1)), .int .u64 0] S2) _ := add_ok (n + 3) h2 hcd 1000 _ 0
      have e4 := len_eq (n + 3) h3' hc3
      have hr32 : (List.replicate 32 (UInt8.ofNat 1)).length = 32 := by simp
      generalize hrr : List.replicate 32 (UInt8.ofNat 1) = r at e2 e3 e4 hr32 hc3
      have fin : ∀ (there : Bool), (there = true → A.dropE w1 = 0 ∧ (A.drop w1).l.length = 255) → (there = false → A.dropE w1 = 7 ∧ (A.drop w1).l.length = 256) → Ok (callI .i64 (evF E orcL (n + 4)) 21 [.ptr (some (.rw b, 0)), .int .u32 w1] S fun v26 S25 =>
          callI .i64 (evF E orcL (n + 4)) 15 [.int .i64 v26] S25 fun v28 S27 =>
          cond (!((v28 == 0) == there)) (some ((.bool false), S27)) (
          callS (evF E orcL (n + 4)) 20 [.int .u8 1] S27 fun v30 S29 =>
          callT (evF E orcL (n + 4)) 19 [.ptr (some (.rw b, 0)), .int .u64 1000, .str v30, .int .u64 0] S29 fun v32 S31 =>
          atI .u32 v32 0 fun v33 =>
          atI .i64 v32 1 fun v34 =>
          callI .i64 (evF E orcL (n + 4)) 15 [.int .i64 v34] S31 fun v36 S35 =>
          cond ((v36 == 0) == there) (
          cond ((v33 == 257) == there) (
          callI .i64 (evF E orcL (n + 4)) 22 [.ptr (some (.rw b, 0))] S35 fun v38 S37 =>
          cond (v38 == 256) (
          callB (evF E orcL (n + 4)) 10 [] S37 fun v40 S39 =>
          some ((.bool v40), S39)) (
          some ((.bool false), S37))) (
          some ((.bool false), S35))) (
          some ((.bool false), S35)))) TrueQ := by
        intro there ht hf2
        rw [callI_of e, callI_of (num_eq (n + 3) _ S1)]
        cases there with
        | true =>
          obtain ⟨q1, q2⟩ := ht rfl
          have hE : (A.drop w1).addE 1000 r = 0 := by
            unfold CM.addE
            rw [if_neg (by omega), if_neg (by omega), if_neg (by omega)]
          have hV : (A.drop w1).addV 1000 r = 257 := by rw [CM.addV, if_pos hE, hdp]; rfl
          have hL : ((A.drop w1).add 1000 r 0).l.length = 256 := by rw [CM.add, if_pos hE]; simp; omega
          rw [q1]
          refine ok_false rfl ?_
          rw [callS_of e2, callT_of e3]
          refine ok_atI rfl (ok_atI rfl ?_)
          rw [callI_of (num_eq (n + 3) _ S3), hE, hV]
          refine ok_true rfl (ok_true rfl ?_)
          rw [callI_of e4, hL]
          exact ok_true rfl (live_ok (n + 3) S3)
        | false =>
          obtain ⟨q1, q2⟩ := hf2 rfl
          have hE : (A.drop w1).addE 1000 r = 5 := by
            unfold CM.addE
            rw [if_neg (by omega), if_neg (by omega), if_pos (by omega)]
          have hV : (A.drop w1).addV 1000 r = 0 := by rw [CM.addV, if_neg (by rw [hE]; decide)]
          have hL : ((A.drop w1).add 1000 r 0).l.length = 256 := by rw [CM.add, if_neg (by rw [hE]; decide)]; omega
          rw [q1]
          refine ok_false rfl ?_
          rw [callS_of e2, callT_of e3]
          refine ok_atI rfl (ok_atI rfl ?_)
          rw [callI_of (num_eq (n + 3) _ S3), hE, hV]
          refine ok_true rfl (ok_true rfl ?_)
          rw [callI_of e4, hL]
          exact ok_true rfl (live_ok (n + 3) S3)
      refine ok_cond (fun hc2 => ?_) (fun hc2 => ?_)
      · simp only [ge_iff_le, decide_eq_true_eq] at hc2
        refine fin (decide (w1 ≤ 256)) (fun ht => ?_) (fun ht => ?_)
        · simp only [decide_eq_true_eq] at ht
          rcases hd with ⟨_, q1, q2⟩ | ⟨q, _⟩
          · exact ⟨q1, q2⟩
          · exact absurd ⟨hc2, ht⟩ q
        · simp only [decide_eq_false_iff_not] at ht
          rcases hd with ⟨q, _⟩ | ⟨_, q1, q2⟩
          · exact absurd q.2 ht
          · exact ⟨q1, q2⟩
      · simp only [ge_iff_le, decide_eq_false_iff_not] at hc2
        refine fin false (fun ht => by cases ht) (fun _ => ?_)
        rcases hd with ⟨q, _⟩ | ⟨_, q1, q2⟩
        · exact absurd q.1 hc2
        · exact ⟨q1, q2⟩

theorem full_run (n : Nat) (hn : 70000 < n) (h : Hp X S F) (x0 x1 : Int) : Ok (ev (n + 5) (.fn 5) [.int .i64 x0, .int .u32 x1] S) TrueQ := by
  rw [ev, F5 _ _ _ _ (oL rfl)]
  simp only [J5, b5_entry]
  refine ok_cond (fun _ => live_ok (n + 3) S) (fun c1 => ok_cond (fun _ => live_ok (n + 3) S) (fun c2 => ?_))
  simp only [gt_iff_lt, decide_eq_false_iff_not] at c1 c2
  obtain ⟨v, S1, e, b, L, rfl, hc, h1⟩ : Ok (evF E orcL (n + 4) (.fn 18) [] S) _ := new_ok (n + 3) h
  rw [callP_of e]
  refine ok_false rfl ?_
  exact full_loop (n + 4) n hn (by omega) (by omega) false (n + 4) 0 _ L S1 (by omega) (by omega) ⟨rfl, rfl, .inr rfl, by simp⟩ hc h1

end

end Go.Ct
