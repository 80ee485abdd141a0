/- What the functions of the document's answer for the disk do with a heap: turned bits, new disks, crashes. -/
import Derived.Test.YtmehlagfkmnipaaDiskRef
import Derived.Test.YtmehlagfkmnipaaDiskF
set_option linter.unusedVariables false
set_option linter.unusedSimpArgs false
set_option maxRecDepth 4000
namespace Go.Dk
open Go.Gr

def someTo (size bit mk : Nat) : Nat → Bool
  | 0 => false
  | i + 1 => someTo size bit mk i || (mk.testBit i && decide (bit + i < 8 * size))

theorem someTo_iff (size bit mk : Nat) : ∀ n, someTo size bit mk n = true ↔ ∃ i, i < n ∧ mk.testBit i = true ∧ bit + i < 8 * size
  | 0 => by simp [someTo]
  | n + 1 => by
    simp only [someTo, Bool.or_eq_true, someTo_iff size bit mk n, Bool.and_eq_true, decide_eq_true_eq]
    constructor
    · rintro (⟨i, h1, h2⟩ | h)
      · exact ⟨i, by omega, h2⟩
      · exact ⟨n, by omega, h⟩
    · rintro ⟨i, h1, h2⟩
      by_cases hi : i = n
      · subst hi; exact .inr h2
      · exact .inl ⟨i, by omega, h2⟩

theorem some_tmask {size bit mk : Nat} (hb : bit < 8 * size) (hmk : mk < 4294967296) : someTo size bit mk 32 = true ↔ tmask size bit mk ≠ 0 := by
  rw [someTo_iff]
  have hl := tmask_lt (size := size) (bit := bit) hmk
  constructor
  · rintro ⟨i, hi, h1, h2⟩ h0
    have := tmask_bit (mk := mk) hb hi
    rw [h0] at this
    simp [h1, h2] at this
  · intro h0
    apply Classical.byContradiction
    intro hn
    apply h0
    apply Nat.eq_of_testBit_eq
    intro i
    rw [Nat.zero_testBit]
    by_cases hi : i < 32
    · rw [tmask_bit hb hi]
      cases h1 : mk.testBit i with
      | false => rfl
      | true =>
        cases h2 : decide (bit + i < 8 * size) with
        | false => rfl
        | true => exact absurd ⟨i, hi, h1, by simpa using h2⟩ hn
    · exact Nat.testBit_lt_two_pow (Nat.lt_of_lt_of_le hl (Nat.le_trans (by decide) (Nat.pow_le_pow_right (n := 2) (by decide) (show 32 ≤ i by omega))))

section
variable {X : Cx} {S : AS} {L F : List Ent} {w : Nat} {D : DM}

theorem ofBytes_set (s : List UInt8) {j : Nat} (hj : j < s.length) (c : UInt8) : splice (ofBytes s) j [.int .u8 (c.toNat : Nat)] = ofBytes (s.set j c) := by
  simp only [splice, ofBytes, List.map_set]
  rw [List.set_eq_take_append_cons_drop, if_pos (by simpa using hj)]
  simp

theorem ofBytes_get {s : List UInt8} {j : Nat} (hj : j < s.length) : (ofBytes s)[j]? = some (.int .u8 ((s.getD j 0).toNat : Nat)) := by
  simp [ofBytes, hj]

theorem rturn_loop2 (call : CallA) (n0 : Nat) {bs : Nat} {sc : Cap} {bh : Nat} {hk : Cap} {qa : Option Pos} {ql : Nat} {qc : Cap} {Lq : List Ent} {k bit mk bb : Nat} {d : List UInt8} {cp : Cap} (hR : RefR w D bs sc bh hk qa ql qc Lq) (hmk : mk < 4294967296) (hd0 : d.length = D.size) (hbit : bit < 8 * D.size) (hkl : k < D.secs.length) {Q : AV → AS → Prop} {x : Sec} (hx : D.secs[k]? = some x)
    (ht : ∀ S', Hp X S' (C w (rhdr D (some (.rw bs, 0)) sc (some (.rw bh, 0)) hk qa ql qc) :: C bs (dcells (D.setS k ⟨flips d bit (tmask D.size bit mk) 32, 2⟩)) :: C bh (hcells (D.setS k ⟨flips d bit (tmask D.size bit mk) 32, 2⟩)) :: Lq ++ F) → Q (.int .i64 0) S') : ∀ (m i : Nat) (S : AS), i ≤ 32 → 32 - i < m →
    Hp X S (C bb (ofBytes (flips d bit (tmask D.size bit mk) i)) :: (C w (rhdr D (some (.rw bs, 0)) sc (some (.rw bh, 0)) hk qa ql qc) :: C bs (dcells D) :: C bh (hcells D) :: Lq) ++ F) →
    Ok (J28_l1_1_1_1_1_1_1_0_1_0 call n0 m (some (.rw w, 0)) k bit mk (some (.rw bb, 0)) d.length cp i S) Q
  | 0, i, S, hi, hm, h => by omega
  | m + 1, i, S, hi, hm, h => by
    have hwf := hR.wf
    have hhi := hwf.hi
    rw [J28_l1_1_1_1_1_1_1_0_1_0_succ]
    simp only [b28_l1_1_1_1_1_1_1_0_1_0]
    refine ok_cond (fun hc => ?_) (fun hc => ?_)
    · simp only [decide_eq_true_eq] at hc
      have hlt : i < 32 := by omega
      rw [wrapU64 (n := (i : Int)) (by omega) (by omega)]
      refine ok_nneg (by omega) ?_
      rw [mbit_eq mk i hmk hlt]
      have ew : IntKind.wrap .i64 ((i : Int) + 1) = ((i + 1 : Nat) : Int) := by rw [wrap64 (by omega) (by omega)]; rfl
      have eb : IntKind.wrap .i64 ((bit : Int) + (i : Int)) = ((bit + i : Nat) : Int) := by rw [wrap64 (by omega) (by omega)]; rfl
      have e8s : IntKind.wrap .i64 (8 * (D.size : Int)) = ((8 * D.size : Nat) : Int) := by rw [wrap64 (by omega) (by omega)]; omega
      rw [ew, eb]
      have htm := tmask_bit (mk := mk) hbit hlt
      have stay : (mk.testBit i && decide (bit + i < 8 * D.size)) = false → flips d bit (tmask D.size bit mk) (i + 1) = flips d bit (tmask D.size bit mk) i := fun hf => by
        rw [flips, if_neg (by rw [htm, hf]; decide)]
      refine ok_cond (fun hc2 => ?_) (fun hc2 => ?_)
      · refine ok_gO (ok_ldI h rfl ?_)
        rw [e8s]
        refine ok_cond (fun hc3 => ?_) (fun hc3 => ?_)
        · simp only [decide_eq_true_eq] at hc3
          have hb : bit + i < 8 * D.size := by omega
          have e8 : IntKind.wrap .i64 (Int.tdiv ((bit + i : Nat) : Int) 8) = (((bit + i) / 8 : Nat) : Int) := by
            rw [Int.tdiv_eq_ediv_of_nonneg (by omega), wrap64 (by omega) (by omega)]; omega
          have em : IntKind.wrap .u64 (Int.tmod ((bit + i : Nat) : Int) 8) = (((bit + i) % 8 : Nat) : Int) := by
            rw [Int.tmod_eq_emod_of_nonneg (by omega), wrapU64 (by omega) (by omega)]; omega
          rw [e8, em]
          have hj : (bit + i) / 8 < d.length := by omega
          have hjd : (bit + i) / 8 < (flips d bit (tmask D.size bit mk) i).length := by simpa using hj
          refine ok_ixSl (k := (bit + i) / 8) rfl hj ?_
          refine ok_ldI h (n := (((flips d bit (tmask D.size bit mk) i).getD ((bit + i) / 8) 0).toNat : Nat)) ?_ ?_
          · rw [Nat.zero_add, Nat.mul_one]
            exact ofBytes_get hjd
          refine ok_nneg (by omega) ?_
          refine ok_ixSl (k := (bit + i) / 8) rfl hj ?_
          rw [flip_cell _ _ (Nat.mod_lt _ (by decide))]
          refine ok_stn h (by simp; omega) (d := ofBytes (flips d bit (tmask D.size bit mk) (i + 1))) ?_ (fun S42 h => ?_)
          · rw [Nat.zero_add, Nat.mul_one, ofBytes_set _ hjd]
            rw [flips, if_pos (by rw [htm, hc2]; simpa using hb)]
            rfl
          exact rturn_loop2 call n0 hR hmk hd0 hbit hkl hx ht m (i + 1) S42 (by omega) (by omega) h
        · simp only [decide_eq_false_iff_not] at hc3
          exact rturn_loop2 call n0 hR hmk hd0 hbit hkl hx ht m (i + 1) S (by omega) (by omega) (by rw [stay (by rw [hc2]; simp; omega)]; exact h)
      · exact rturn_loop2 call n0 hR hmk hd0 hbit hkl hx ht m (i + 1) S (by omega) (by omega) (by rw [stay (by rw [hc2]; rfl)]; exact h)
    · simp only [decide_eq_false_iff_not] at hc
      have : i = 32 := by omega
      subst this
      refine ok_gO (ok_ldL h rfl ?_)
      rw [bytesStr_of (X := X) (s := flips d bit (tmask D.size bit mk) 32) (.rw List.mem_cons_self (by simp) (by rw [List.drop_zero, List.take_length])) h (by simp)]
      refine ok_ixSl (k := k) rfl hkl ?_
      refine ok_stn h (by simp; omega) (dcells_set hkl ⟨flips d bit (tmask D.size bit mk) 32, 2⟩) (fun S47 h => ?_)
      refine ok_gO (ok_ldL h rfl (ok_ixSl (k := k) rfl hkl ?_))
      refine ok_stn h (by simp; omega) (hcells_set hkl ⟨flips d bit (tmask D.size bit mk) 32, 2⟩) (fun S51 h => ?_)
      exact ok_ret (ht S51 h.drop1)

theorem rturn_ok (n : Nat) (hn : 40 < n) (h : Hp X S (L ++ F)) (hd : Ref w D L) (at_ bit : Int) (hb0 : -9223372036854775808 ≤ bit) (hb1 : bit < 9223372036854775808) (mk : Nat) (hmk : mk < 4294967296) :
    Ok (ev (n + 3) (.fn 28) [.ptr (some (.rw w, 0)), .int .i64 at_, .int .i64 bit, .int .u32 mk] S) fun v S' => v = .int .i64 (D.turnE at_ bit mk) ∧ ∃ L', Ref w (D.turn at_ bit mk) L' ∧ Hp X S' (L' ++ F) := by
  have hh := fun right => rhurt_eq n h hd at_ right
  have hd0 := hd
  obtain ⟨bs, sc, bh, hk, qa, ql, qc, Lq, hR, rfl⟩ := hd
  have hwf := hR.wf
  have hhi := hwf.hi
  rw [ev, F28 _ _ _ _ _ _ (oL rfl)]
  simp only [J28, b28_entry]
  have e8s : IntKind.wrap .i64 (8 * (D.size : Int)) = ((8 * D.size : Nat) : Int) := by rw [wrap64 (by omega) (by omega)]; omega
  -- what is done behind the first loop
  have none_ : (at_ = at_) → (∀ z : Int → AS → Option (AV × AS), Ok (callI .i64 (ev (n + 2)) 49 [.ptr (some (.rw w, 0)), .int .i64 at_, .bool false] S fun v6 S5 => cond (v6 != 0) (some (.int .i64 v6, S5)) (z v6 S5)) fun v S' => v = .int .i64 2 ∧ S' = S) := by
    intro _ z
    rw [callI_of (hh false)]
    rw [if_pos (.inr rfl)]
    exact ok_true rfl (ok_ret ⟨rfl, rfl⟩)
  have same : ∀ e, D.turnE at_ bit mk = e → e ≠ 0 → ∀ (v : AV) (S' : AS), v = .int .i64 e ∧ S' = S → v = .int .i64 (D.turnE at_ bit mk) ∧ ∃ L', Ref w (D.turn at_ bit mk) L' ∧ Hp X S' (L' ++ F) := by
    rintro e he h0 v S' ⟨rfl, rfl⟩
    exact ⟨by rw [he], _, by rw [DM.turn, if_neg (by rw [he]; exact h0)]; exact hd0, h⟩
  by_cases hright : 0 ≤ bit ∧ bit < 8 * (D.size : Int)
  · obtain ⟨bt, rfl⟩ : ∃ bt : Nat, bit = bt := ⟨bit.toNat, by omega⟩
    have hbit : bt < 8 * D.size := by omega
    refine ok_true (by simp) (ok_gO (ok_ldI h rfl ?_))
    rw [e8s, show decide ((bt : Int) < ((8 * D.size : Nat) : Int)) = true by simp; omega]
    have cont : Ok (callI .i64 (ev (n + 2)) 49 [.ptr (some (.rw w, 0)), .int .i64 at_, .bool (someTo D.size bt mk 32)] S fun v6 S5 => cond (v6 != 0) (some (.int .i64 v6, S5)) (gO (some (Bid.rw w, 0)) fun p7 => ldL S5 p7.1 p7.2 fun v8a v8l v8c => ixSl 1 v8a v8l at_ fun p9 => ldS S5 p9.1 p9.2 fun v10 => ifO (v10.length ≤ pow46) <| newA S5 (.cells (ofBytes v10)) fun b11 S12 =>
        J28_l1_1_1_1_1_1_1_0_1_0 (ev (n + 2)) (n + 2) (n + 2) (some (.rw w, 0)) at_ bt mk (some (.rw b11, 0)) v10.length (.op 1 v10.length) 0 S12)) fun v S' => v = .int .i64 (D.turnE at_ bt mk) ∧ ∃ L', Ref w (D.turn at_ bt mk) L' ∧ Hp X S' (L' ++ F) := by
      have hE : (if D.inn at_ = false ∨ someTo D.size bt mk 32 = false then 2 else D.hurts at_.toNat) = D.turnE at_ bt mk := by
        rw [DM.turnE]
        by_cases h1 : D.inn at_ = false
        · rw [if_pos (.inl h1), if_pos h1]
        · rw [if_neg h1, if_neg (show ¬ ((bt : Int) < 0 ∨ 8 * (D.size : Int) ≤ (bt : Int)) by omega), Int.toNat_natCast]
          have hs := some_tmask (mk := mk) hbit hmk
          cases hst : someTo D.size bt mk 32 with
          | true => rw [if_neg (by simp [h1]), if_neg (hs.1 hst)]
          | false => rw [if_pos (.inr rfl), if_pos (by apply Classical.byContradiction; intro h0; rw [hs.2 h0] at hst; cases hst)]
      have hh2 := hh (someTo D.size bt mk 32)
      rw [hE] at hh2
      rw [callI_of hh2]
      refine ok_cond (fun hc => ?_) (fun hc => ?_)
      · simp only [bne_iff_ne, ne_eq] at hc
        exact ok_ret (same _ rfl hc _ _ ⟨rfl, rfl⟩)
      simp only [bne_eq_false_iff_eq] at hc
      have hin : D.inn at_ = true := by
        cases hi : D.inn at_ with
        | true => rfl
        | false => rw [DM.turnE, if_pos hi] at hc; cases hc
      obtain ⟨k, rfl, hkl⟩ := inn_nat hin
      obtain ⟨x, hx⟩ := sec_at hkl
      have hxd : x.d.length = D.size := hwf.s x (List.mem_of_getElem? hx)
      have hst : D.stab k = x.d := by rw [DM.stab, if_neg (by rw [hin]; decide)]; simp [hx]
      refine ok_gO (ok_ldL h rfl (ok_ixSl (k := k) rfl hkl (ok_ldS h (dcells_get hx) ?_)))
      refine ok_ifO (by simp [pow46]; omega) ?_
      refine ok_newA h (fun b11 S12 h => ?_)
      refine rturn_loop2 (ev (n + 2)) (n + 2) (d := x.d) hR hmk hxd hbit hkl hx (fun S' h => ?_) (n + 2) 0 S12 (by omega) (by omega) h
      refine ⟨by rw [hc], ?_⟩
      rw [DM.turn, if_pos hc, hst, Int.toNat_natCast, Int.toNat_natCast]
      refine ⟨_, ⟨bs, sc, bh, hk, qa, ql, qc, Lq, ⟨setS_wf hwf k _ (by simp [hxd]), by simpa [DM.setS] using hR.cs, by simpa [DM.setS] using hR.ch, hR.hq⟩, rfl⟩, ?_⟩
      have e : rhdr (D.setS k ⟨flips x.d bt (tmask D.size bt mk) 32, 2⟩) (some (.rw bs, 0)) sc (some (.rw bh, 0)) hk qa ql qc = rhdr D (some (.rw bs, 0)) sc (some (.rw bh, 0)) hk qa ql qc := by simp [rhdr, DM.setS]
      rw [e]; exact h
    -- the first loop
    have loop : ∀ (m i : Nat), i ≤ 32 → 32 - i < m → Ok (J28_l1_1_1_0_1_0 (ev (n + 2)) (n + 2) m (some (.rw w, 0)) at_ bt mk (someTo D.size bt mk i) true i S) fun v S' => v = .int .i64 (D.turnE at_ bt mk) ∧ ∃ L', Ref w (D.turn at_ bt mk) L' ∧ Hp X S' (L' ++ F) := by
      intro m
      induction m with
      | zero => intro i _ hm; omega
      | succ m ih =>
        intro i hi hm
        rw [J28_l1_1_1_0_1_0_succ]
        simp only [b28_l1_1_1_0_1_0]
        refine ok_true rfl ?_
        refine ok_cond (fun hc => ?_) (fun hc => ?_)
        · simp only [decide_eq_true_eq] at hc
          have hlt : i < 32 := by omega
          have ew : IntKind.wrap .i64 ((i : Int) + 1) = ((i + 1 : Nat) : Int) := by rw [wrap64 (by omega) (by omega)]; rfl
          have eb : IntKind.wrap .i64 ((bt : Int) + (i : Int)) = ((bt + i : Nat) : Int) := by rw [wrap64 (by omega) (by omega)]; rfl
          rw [ew]
          have ih' := ih (i + 1) (by omega) (by omega)
          simp only [someTo] at ih'
          refine ok_cond (fun hc2 => ?_) (fun hc2 => ?_)
          · rw [hc2] at ih'; exact ih'
          · rw [hc2, Bool.false_or] at ih'
            rw [wrapU64 (n := (i : Int)) (by omega) (by omega)]
            refine ok_nneg (by omega) ?_
            rw [mbit_eq mk i hmk hlt]
            refine ok_cond (fun hc3 => ?_) (fun hc3 => ?_)
            · refine ok_gO (ok_ldI h rfl ?_)
              rw [eb, e8s]
              rw [hc3, Bool.true_and] at ih'
              have e9 : decide (((bt + i : Nat) : Int) < ((8 * D.size : Nat) : Int)) = decide (bt + i < 8 * D.size) := decide_eq_decide.2 (by omega)
              rw [e9]; exact ih'
            · rw [hc3, Bool.false_and] at ih'; exact ih'
        · simp only [decide_eq_false_iff_not] at hc
          have : i = 32 := by omega
          subst this
          refine ok_true rfl ?_
          exact cont
    exact loop (n + 2) 0 (by omega) (by omega)
  · have hE : D.turnE at_ bit mk = 2 := by
      rw [DM.turnE]
      by_cases h1 : D.inn at_ = false
      · rw [if_pos h1]
      · rw [if_neg h1, if_pos (by omega)]
    have fin : Ok (J28_l1_1_1_0_1_0 (ev (n + 2)) (n + 2) (n + 2) (some (.rw w, 0)) at_ bit mk false false 0 S) fun v S' => v = .int .i64 (D.turnE at_ bit mk) ∧ ∃ L', Ref w (D.turn at_ bit mk) L' ∧ Hp X S' (L' ++ F) := by
      rw [J28_l1_1_1_0_1_0_succ]
      simp only [b28_l1_1_1_0_1_0]
      refine ok_false rfl (ok_false rfl ?_)
      exact (none_ rfl _).mono (same 2 hE (by decide))
    refine ok_cond (fun hc => ?_) (fun hc => ?_)
    · simp only [ge_iff_le, decide_eq_true_eq] at hc
      refine ok_gO (ok_ldI h rfl ?_)
      rw [e8s, show decide (bit < ((8 * D.size : Nat) : Int)) = false by simp; omega]
      exact fin
    · exact fin
end

end Go.Dk
