/- The law DiskTurns, as the evaluator runs it. -/
import Derived.Test.YtmehlagfkmnipaaDiskPlay
set_option linter.unusedVariables false
set_option linter.unusedSimpArgs false
set_option maxRecDepth 4000
namespace Go.Dk
open Go.Gr

def bitAt (d : List UInt8) (j : Nat) : Bool := (d.getD (j / 8) 0).toNat.testBit (j % 8)

theorem one_shl (r : Nat) (h : r < 8) : ((1 : UInt8) <<< UInt8.ofNat r).toNat = 2 ^ r := by
  rcases (show r = 0 ∨ r = 1 ∨ r = 2 ∨ r = 3 ∨ r = 4 ∨ r = 5 ∨ r = 6 ∨ r = 7 by omega) with h | h | h | h | h | h | h | h <;> subst h <;> decide

theorem bitAt_flipB (d : List UInt8) (j k : Nat) (hj : j / 8 < d.length) : bitAt (flipB d j) k = (bitAt d k ^^ decide (j = k)) := by
  unfold bitAt flipB
  by_cases hb : j / 8 = k / 8
  · rw [← hb]
    have e : (d.set (j / 8) (d.getD (j / 8) 0 ^^^ (1 <<< UInt8.ofNat (j % 8)))).getD (j / 8) 0 = d.getD (j / 8) 0 ^^^ (1 <<< UInt8.ofNat (j % 8)) := by
      simp [List.getD, hj]
    rw [e, UInt8.toNat_xor, one_shl _ (Nat.mod_lt _ (by omega)), Nat.testBit_xor, Nat.testBit_two_pow]
    congr 1
    by_cases h : j % 8 = k % 8
    · have : j = k := by omega
      simp [this]
    · have : ¬ j = k := by omega
      simp [h, this]
  · have e : (d.set (j / 8) (d.getD (j / 8) 0 ^^^ (1 <<< UInt8.ofNat (j % 8)))).getD (k / 8) 0 = d.getD (k / 8) 0 := by
      simp only [List.getD, List.getElem?_set]
      rw [if_neg hb]
    rw [e]
    have : ¬ j = k := by omega
    simp [this]

theorem bitAt_flips (d : List UInt8) (bit mk : Nat) (i0 : Nat) : ∀ n, (∀ i, i < n → mk.testBit i = true → (bit + i) / 8 < d.length) → bitAt (flips d bit mk n) (bit + i0) = (bitAt d (bit + i0) ^^ (decide (i0 < n) && mk.testBit i0))
  | 0, _ => by simp [flips]
  | n + 1, h => by
    have ih := bitAt_flips d bit mk i0 n (fun i hi ht => h i (by omega) ht)
    simp only [flips]
    by_cases ht : mk.testBit n = true
    · rw [if_pos ht, bitAt_flipB _ _ _ (by rw [flips_len]; exact h n (by omega) ht), ih]
      by_cases hn : n = i0
      · subst hn
        simp [ht]
      · have h1 : ¬ bit + n = bit + i0 := by omega
        have h2 : decide (i0 < n + 1) = decide (i0 < n) := by simp; omega
        simp [h1, h2, hn]
    · rw [if_neg ht, ih]
      by_cases hn : n = i0
      · subst hn
        simp [ht]
      · have h2 : decide (i0 < n + 1) = decide (i0 < n) := by simp; omega
        rw [h2]

theorem flips_ne (d : List UInt8) (size bit mk : Nat) (hs : d.length = size) (hb : bit < 8 * size) (hmk : mk < 4294967296) (h0 : tmask size bit mk ≠ 0) : flips d bit (tmask size bit mk) 32 ≠ d := by
  intro he
  obtain ⟨i, hi⟩ := Nat.exists_testBit_of_ne_zero h0
  have hlt := tmask_lt (size := size) (bit := bit) hmk
  have h32 : i < 32 := by
    rcases Nat.lt_or_ge i 32 with h | h
    · exact h
    · rw [Nat.testBit_lt_two_pow (Nat.lt_of_lt_of_le hlt (Nat.le_trans (show 4294967296 ≤ 2 ^ 32 by decide) (Nat.pow_le_pow_right (by decide) h)))] at hi
      cases hi
  have hin : ∀ k, k < 32 → (tmask size bit mk).testBit k = true → (bit + k) / 8 < d.length := by
    intro k hk ht
    rw [tmask_bit hb hk] at ht
    simp only [Bool.and_eq_true, decide_eq_true_eq] at ht
    omega
  have := bitAt_flips d bit (tmask size bit mk) i 32 hin
  rw [he, hi] at this
  simp [h32] at this

section
variable {X : Cx} {S : AS} {L F : List Ent}

theorem stab_setS_ne (D : DM) (k : Nat) (x : Sec) {i : Int} (hi : ¬ i = (k : Int)) : (D.setS k x).stab i = D.stab i := by
  have hii : (D.setS k x).inn i = D.inn i := by simp [DM.inn, DM.setS]
  unfold DM.stab
  rw [hii]
  by_cases hv : D.inn i = false
  · rw [if_pos hv, if_pos hv]
  · rw [if_neg hv, if_neg hv]
    simp only [DM.inn, Bool.not_eq_false, Bool.and_eq_true, decide_eq_true_eq] at hv
    simp only [DM.setS, List.getElem?_set]
    rw [if_neg (by omega)]

theorem turn_facts {D : DM} (hwf : D.WF) {at_ bit : Int} {mk : Nat} (hmk : mk < 4294967296) (h0 : D.turnE at_ bit mk = 0) :
    (D.turn at_ bit mk).turnE at_ bit mk = 8 ∧ (D.turn at_ bit mk).loseE at_ = 8 ∧ (D.turn at_ bit mk).q = D.q ∧ (∀ i : Int, decide (i = at_) = !(decide (D.stab i = (D.turn at_ bit mk).stab i))) := by
  have ht : D.turn at_ bit mk = D.setS at_.toNat ⟨flips (D.stab at_) bit.toNat (tmask D.size bit.toNat mk) 32, 2⟩ := by rw [DM.turn, if_pos h0]
  rw [ht]
  unfold DM.turnE at h0
  split at h0
  · cases h0
  rename_i hin
  split at h0
  · cases h0
  rename_i hbit
  split at h0
  · cases h0
  rename_i htm
  simp only [Bool.not_eq_false] at hin
  have hin2 := hin
  simp only [DM.inn, Bool.and_eq_true, decide_eq_true_eq] at hin2
  obtain ⟨k, rfl⟩ : ∃ k : Nat, at_ = k := ⟨at_.toNat, by omega⟩
  have hk : k < D.secs.length := by omega
  obtain ⟨x, hx⟩ := sec_at hk
  have hoff : D.off = false := by
    unfold DM.hurts at h0
    split at h0
    · cases h0
    · rename_i h; simpa using h
  simp only [Int.toNat_natCast] at *
  have hinn : (D.setS k ⟨flips (D.stab k) bit.toNat (tmask D.size bit.toNat mk) 32, 2⟩).inn k = true := by
    simp only [DM.inn, DM.setS, List.length_set] at hin ⊢; exact hin
  have hhu : (D.setS k ⟨flips (D.stab k) bit.toNat (tmask D.size bit.toNat mk) 32, 2⟩).hurts k = 8 := by
    simp [DM.hurts, DM.setS, hoff, DM.hurtAt, hk]
  have hst : D.stab k = x.d := by simp [DM.stab, hin, hx]
  have hxl : x.d.length = D.size := hwf.s x (List.mem_of_getElem? hx)
  refine ⟨?_, ?_, rfl, fun i => ?_⟩
  · have hsz : (D.setS k ⟨flips (D.stab k) bit.toNat (tmask D.size bit.toNat mk) 32, 2⟩).size = D.size := rfl
    rw [DM.turnE, hsz, if_neg (by rw [hinn]; decide), if_neg hbit, if_neg htm]; exact hhu
  · rw [DM.loseE, if_neg (by rw [hinn]; decide)]; exact hhu
  · by_cases hi : i = (k : Int)
    · subst hi
      have hs : (D.setS k ⟨flips (D.stab k) bit.toNat (tmask D.size bit.toNat mk) 32, 2⟩).stab k = flips x.d bit.toNat (tmask D.size bit.toNat mk) 32 := by
        rw [DM.stab, if_neg (by rw [hinn]; decide)]
        simp [DM.setS, hk, hst]
      have hne := flips_ne x.d D.size bit.toNat mk hxl (by omega) hmk htm
      have hne2 : ¬ D.stab k = (D.setS k ⟨flips (D.stab k) bit.toNat (tmask D.size bit.toNat mk) 32, 2⟩).stab k := by
        rw [hs, hst]; exact fun h => hne h.symm
      rw [decide_eq_false hne2]; simp
    · have hii : (D.setS k ⟨flips (D.stab k) bit.toNat (tmask D.size bit.toNat mk) 32, 2⟩).inn i = D.inn i := by simp [DM.inn, DM.setS]
      have hs := stab_setS_ne D k ⟨flips (D.stab k) bit.toNat (tmask D.size bit.toNat mk) 32, 2⟩ hi
      rw [decide_eq_false hi, decide_eq_true hs.symm]; rfl

theorem disk_turns (n : Nat) (hn : 80000 < n) (h : Hp X S L) (s at_ bit : Int) (mk : Nat) (hmk : mk < 4294967296) (hb0 : -9223372036854775808 ≤ bit) (hb1 : bit < 9223372036854775808) {a : Option Pos} {l : Nat} {c : Cap} {acts : List Act} (ha : ActsR X a l acts) :
    Ok (ev (n + 6) (.fn 6) [.agg [.int .i64 s, .sl a l c, .int .i64 at_, .int .i64 bit, .int .u32 mk]] S) fun v S' => v = .bool true := by
  rw [ev, F6 _ _ _ (oL rfl)]
  simp only [J6, b6_entry]
  have live : ∀ S, Ok (callB (evF E orcL (n + 5)) 10 [] S fun v S => some (.bool v, S)) fun v S' => v = .bool true := fun S => by
    rw [callB_of (live_eq (n + 4) S)]; exact ok_ret rfl
  refine ok_ifO rfl ?_
  refine ok_newA h (fun b1 S2 h => ?_)
  refine ok_ldI h rfl (ok_ldL h rfl (ok_ldI h rfl (ok_ldI h rfl (ok_ldI h rfl ?_))))
  replace h := h.drop1
  obtain ⟨r1, e1, h1⟩ := long_ok (n + 4) (by omega) h ha (c := c)
  rw [callB_of e1]
  refine ok_cond (fun _ => live _) (fun hr1 => ?_)
  refine ok_cond (fun _ => live _) (fun hs => ?_)
  simp only [gt_iff_lt, decide_eq_false_iff_not] at hs
  obtain ⟨v, S1, e, hp⟩ := played_ok n hn h ha (h1 hr1).1 (h1 hr1).2 s (c := c)
  rcases hp with ⟨hrng, b, w, Ld, Lr, rfl, hd, hw, hp1⟩ | ⟨hrng, rfl, hp1⟩
  · rw [callT_of e]
    simp only [atP, List.getElem?_cons_zero, List.getElem?_cons_succ, gP]
    refine ok_false rfl ?_
    generalize (DM.new s.toNat 16).plays acts = D at hd hw
    obtain ⟨v, S2, e, b', Lc, rfl, hc, hp2⟩ := copy_ok (n + 3) hp1 hd
    rw [callP_of e]
    refine ok_false rfl ?_
    -- the copy, the disk, the document's
    have hwf : D.WF := by obtain ⟨_, _, _, _, _, _, _, _, hR, _⟩ := hd; exact hR.wf
    have ord : ∀ {S : AS} {A B M : List Ent}, Hp X S (A ++ (B ++ M)) → Hp X S (B ++ (A ++ M)) := fun h => h.re (by intro p; simp only [List.countP_append]; omega)
    obtain ⟨v, S3, e, rfl, Ld2, hd2, hp3⟩ := turn_ok (n + 3) (by omega) (ord hp2) hd at_ bit mk hmk
    rw [callI_of e, callI_of (num_eq (n + 4) _ S3)]
    have hp3' : Hp X S3 (Lr ++ (Ld2 ++ (Lc ++ L))) := hp3.re (by intro p; simp only [List.countP_append]; omega)
    obtain ⟨v, S4, e, rfl, Lr2, hw2, hp4⟩ := rturn_ok (n + 2) (by omega) hp3' hw at_ bit hb0 hb1 mk hmk
    rw [callI_of e]
    refine ok_false (by simp) ?_
    rw [callI_of (num_eq (n + 4) _ S4)]
    have hp5 : Hp X S4 (Ld2 ++ (Lc ++ (Lr2 ++ L))) := hp4.re (by intro p; simp only [List.countP_append]; omega)
    by_cases h0 : D.turnE at_ bit mk = 0
    · refine ok_false (by simp [h0]) ?_
      obtain ⟨f1, f2, f3, f4⟩ := turn_facts hwf hmk h0
      obtain ⟨v, S6, e, rfl, Ld3, hd3, hp6⟩ := turn_ok (n + 3) (by omega) hp5 hd2 at_ bit mk hmk
      have e3 : (D.turn at_ bit mk).turn at_ bit mk = D.turn at_ bit mk := by rw [DM.turn, if_neg (by rw [f1]; decide)]
      rw [e3] at hd3
      rw [callI_of e, callI_of (num_eq (n + 4) _ S6)]
      refine ok_false (by rw [f1]; rfl) ?_
      obtain ⟨v, S7, e, rfl, Ld4, hd4, hp7⟩ := lose_ok (n + 3) hp6 hd3 at_
      have e4 : (D.turn at_ bit mk).lose at_ = D.turn at_ bit mk := by rw [DM.lose, if_neg (by rw [f2]; decide)]
      rw [e4] at hd4
      rw [callI_of e, callI_of (num_eq (n + 4) _ S7)]
      refine ok_false (by rw [f2]; rfl) ?_
      have loop : ∀ (m i : Nat) (S : AS) (G : List Ent), i ≤ 41 → 41 - i < m → Hp X S (Ld4 ++ (Lc ++ G)) → Ok (J6_l1_1_1_1_1_1_1_1_1_1_1_0_1_0 (evF E orcL (n + 5)) (n + 5) m false s at_ (some (.rw b, 0)) (some (.rw b', 0)) i S) fun v S' => v = .bool true := by
        intro m
        induction m with
        | zero => intro i S G _ hm; omega
        | succ m ih =>
          intro i S G hi hm h
          rw [J6_l1_1_1_1_1_1_1_1_1_1_1_0_1_0_succ]
          simp only [b6_l1_1_1_1_1_1_1_1_1_1_1_0_1_0]
          refine ok_cond (fun hc1 => ?_) (fun hc1 => ?_)
          · simp only [decide_eq_true_eq] at hc1
            obtain ⟨v, S8, e, a8, l8, c8, L8, rfl, hs8, hp8⟩ := stable_ok (n + 3) (ord h) hc i
            rw [callT_of e]
            simp only [atL, atB, List.getElem?_cons_zero, List.getElem?_cons_succ, gL, gB]
            obtain ⟨v, S9, e, a9, l9, c9, L9, rfl, hs9, hp9⟩ := stable_ok (n + 3) (F := L8 ++ (Lc ++ G)) (hp8.re (by intro p; simp only [List.countP_append]; omega)) hd4 i
            rw [callT_of e]
            simp only [List.getElem?_cons_zero, List.getElem?_cons_succ]
            obtain ⟨r8, q8⟩ := hs8.bytes (X := X) (M := L9 ++ (Ld4 ++ (L8 ++ (Lc ++ G)))) (by intro e he; simp [he])
            obtain ⟨r9, q9⟩ := hs9.bytes (X := X) (M := L9 ++ (Ld4 ++ (L8 ++ (Lc ++ G)))) (by intro e he; simp [he])
            rw [bytesStr_of r8 hp9 q8, bytesStr_of r9 hp9 q9]
            have := f4 i
            refine ok_false ?_ ?_
            · by_cases hi : (i : Int) = at_
              · rw [decide_eq_true hi] at this
                have hne : ¬ D.stab i = (D.turn at_ bit mk).stab i := by simpa using this.symm
                simp [hi] at hne ⊢
                exact hne
              · rw [decide_eq_false hi] at this
                have heq : D.stab i = (D.turn at_ bit mk).stab i := by simpa using this.symm
                rw [heq]; simp [hi]
            · rw [wrap64 (by omega) (by omega)]
              exact ih (i + 1) S9 (L9 ++ (L8 ++ G)) (by omega) (by omega) (hp9.re (by intro p; simp only [List.countP_append]; omega))
          · simp only [J6_j1_1_1_1_1_1_1_1_1_1_1_1, b6_j1_1_1_1_1_1_1_1_1_1_1_1]
            obtain ⟨v, S8, e, a8, l8, c8, L8, rfl, hs8, hp8⟩ := queue_ok (n + 3) h hd4
            rw [callL_of e]
            obtain ⟨v, S9, e, a9, l9, c9, L9, rfl, hs9, hp9⟩ := queue_ok (n + 3) (F := L8 ++ (Ld4 ++ G)) (hp8.re (by intro p; simp only [List.countP_append]; omega)) hc
            rw [callL_of e]
            obtain ⟨r, e, hr⟩ := rsectors_eq (n + 4) (by omega) (by rw [f3]; exact hwf.ql) hp9 hs8 hs9 (by intro e he; simp [he]) (by intro e he; simp [he])
            rw [callB_of e]
            have : r = true := hr.2 f3
            subst this
            exact ok_true rfl (live _)
      exact loop (n + 5) 0 S7 _ (by omega) (by omega) hp7
    · refine ok_true (by simpa using h0) ?_
      have e3 : D.turn at_ bit mk = D := by rw [DM.turn, if_neg h0]
      rw [e3] at hd2
      obtain ⟨r, e, hr⟩ := same_eq (n + 3) (by omega) hp5 hd2 hc (by intro e he; simp [he]) (by intro e he; simp [he])
      rw [callB_of e]
      have : r = true := hr.2 ⟨rfl, rfl, rfl, rfl⟩
      subst this
      exact ok_true rfl (live _)
  · rw [callT_of e]
    simp only [atP, List.getElem?_cons_zero, List.getElem?_cons_succ, gP]
    exact ok_true rfl (live _)
end

end Go.Dk
