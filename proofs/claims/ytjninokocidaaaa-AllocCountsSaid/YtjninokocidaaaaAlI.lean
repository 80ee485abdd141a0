/- The law AllocReserved: its run. -/
import Derived.Test.YtjninokocidaaaaAlH
set_option linter.unusedVariables false
set_option linter.unusedSimpArgs false
set_option maxRecDepth 4000
namespace Go.Al
open Go.Gr

abbrev TrueQ : AV → AS → Prop := fun v S' => v = .bool true

theorem live_ok (n : Nat) (S : AS) : Ok (callB (evF E orcL (n + 1)) 12 [] S fun v S => some (.bool v, S)) TrueQ := by
  have e : evF E orcL (n + 1) (.fn 12) [] S = some (.bool true, S) := by simp [evF, orcL]
  rw [callB_of e]; exact ok_ret rfl

theorem AM.res_r (A : AM) (x : Int) : A.r - 1 ≤ (A.res x).r := by unfold AM.res AM.takes; split <;> simp
theorem AM.take_r (A : AM) (x : Int) : (A.take x).r = A.r := by unfold AM.take AM.takes; split <;> simp

section
variable {X : Cx} {S : AS} {L F : List Ent} {b : Nat} {A : AM} {Q : AV → AS → Prop}

theorem res_inner (n0 n : Nat) (hn : 1000000 < n) {bl : Nat} (h1 : 1 ≤ bl) (h2 : bl ≤ 200) {bet : Int} (hbet : bet ≤ 10) {cnt : Int} {i : Nat} (hi : i ≤ 200) {b : Nat} {Lo : AV → Int → Int → Int → Option Pos → Int → AS → Option (AV × AS)} {r : Nat} (hr0 : 0 < r)
    (hout : ∀ (A : AM) (L M : List Ent) (S : AS), Alloc b A L → A.WF → A.s.length = bl → r - 1 ≤ A.r → Hp X S (L ++ (M ++ F)) → Ok (Lo .undef bl cnt bet (some (.rw b, 0)) ((i + 1 : Nat) : Int) S) TrueQ) :
    ∀ (m j : Nat) (A : AM) (L M : List Ent) (S : AS), 10 - j < m → j ≤ 10 → Alloc b A L → A.WF → A.s.length = bl → r ≤ A.r → Hp X S (L ++ (M ++ F)) →
      Ok (J5_l1_1_1_1_1_1_0_1_0_0_1_0_0_0_1_0 (evF E orcL (n + 303)) n0 Lo m bl cnt bet (some (.rw b, 0)) i j S) TrueQ
  | 0, j, A, L, M, S, hm, hj, hal, hw, hl, hr, h => by omega
  | m + 1, j, A, L, M, S, hm, hj, hal, hw, hl, hr, h => by
    rw [J5_l1_1_1_1_1_1_0_1_0_0_1_0_0_0_1_0_succ]
    simp only [b5_l1_1_1_1_1_1_0_1_0_0_1_0_0_0_1_0]
    have hwt := hw.tl
    have hmod : (0 : Int) ≤ Int.tmod (i : Int) (bl : Int) ∧ Int.tmod (i : Int) (bl : Int) < bl := by
      rw [Int.tmod_eq_emod_of_nonneg (by omega)]
      exact ⟨Int.emod_nonneg _ (by omega), Int.emod_lt_of_pos _ (by omega)⟩
    refine ok_cond (fun hc => ?_) (fun hc => ?_)
    · simp only [decide_eq_true_eq] at hc
      refine ok_nz (by omega) ?_
      obtain ⟨v, S1, e, rfl, L1, ha1, h1'⟩ : Ok (evF E orcL (n + 303) (.fn 13) [.ptr (some (.rw b, 0)), .int .i64 (Int.tmod (i : Int) (bl : Int))] S) _ := take_ok (n + 300) (by omega) h hal (by omega) _
      rw [callT_of e, wn (x := (j : Int) + 1) (n := j + 1) (by omega) (by omega)]
      exact res_inner n0 n hn h1 h2 hbet hi hr0 hout m (j + 1) _ L1 M S1 (by omega) (by omega) ha1 (hw.take _) (by simpa using hl) (by rw [AM.take_r]; exact hr) h1'
    · simp only [J5_j1_1_1_1_1_1_0_1_0_0_1_0_0_1, b5_j1_1_1_1_1_1_0_1_0_0_1_0_0_1]
      refine ok_nz (by omega) ?_
      obtain ⟨v, S1, e, rfl, L1, ha1, h1'⟩ : Ok (evF E orcL (n + 303) (.fn 20) [.ptr (some (.rw b, 0)), .int .i64 (Int.tmod (i : Int) (bl : Int))] S) _ := res_ok (n + 300) (by omega) h hal hw _
      have he : A.resE (Int.tmod (i : Int) (bl : Int)) = 0 := by
        unfold AM.resE
        rw [if_neg (by rw [hl]; omega), if_neg (by omega)]
      rw [callT_of e]
      refine ok_atI rfl (ok_atI rfl ?_)
      rw [callI_of (num_eq (n + 302) _ S1), he]
      refine ok_false rfl ?_
      rw [wn (x := (i : Int) + 1) (n := i + 1) (by omega) (by omega)]
      have := A.res_r (Int.tmod (i : Int) (bl : Int))
      exact hout _ L1 M S1 ha1 (hw.res _) (by simpa using hl) (by omega) h1'

theorem res_outer (n0 n : Nat) (hn : 1000000 < n) (hn0 : 10 < n0) {bl : Nat} (h1 : 1 ≤ bl) (h2 : bl ≤ 200) {bet : Int} (hbet : bet ≤ 10) {cnt : Int} (hcnt : cnt ≤ 200) {b : Nat} :
    ∀ (m i : Nat) (w2 : AV) (A : AM) (L M : List Ent) (S : AS), 200 - i < m → i ≤ 200 → Alloc b A L → A.WF → A.s.length = bl → cnt ≤ (A.r : Int) + i → Hp X S (L ++ (M ++ F)) →
      Ok (J5_l1_1_1_1_1_1_0_1_0 (evF E orcL (n + 303)) n0 m w2 bl cnt bet (some (.rw b, 0)) i S) TrueQ
  | 0, i, w2, A, L, M, S, hm, hi, hal, hw, hl, hr, h => by omega
  | m + 1, i, w2, A, L, M, S, hm, hi, hal, hw, hl, hr, h => by
    rw [J5_l1_1_1_1_1_1_0_1_0_succ]
    simp only [b5_l1_1_1_1_1_1_0_1_0]
    refine ok_cond (fun hc => ?_) (fun hc => live_ok (n + 302) S)
    simp only [decide_eq_true_eq] at hc
    exact res_inner n0 n hn h1 h2 hbet hi (r := A.r) (by omega) (fun A1 L1 M1 S1 e1 e2 e3 e4 e5 => res_outer n0 n hn hn0 h1 h2 hbet hcnt m (i + 1) .undef A1 L1 M1 S1 (by omega) (by omega) e1 e2 e3 (by omega) e5) n0 0 A L M S (by omega) (by omega) hal hw hl (Nat.le_refl _) h

theorem reserved_run (n : Nat) (hn : 1000000 < n) (h : Hp X S F) {a : Option Pos} {c : Cap} {acts : List (Int × Int)} (ha : ActsR X a acts) (bl cnt bet : Int) :
    Ok (ev (n + 304) (.fn 5) [.agg [.int .i64 bl, .sl a acts.length c, .int .i64 cnt, .int .i64 bet]] S) TrueQ := by
  rw [ev, F5 _ _ _ (oL rfl)]
  simp only [J5, b5_entry]
  refine ok_ifO rfl (ok_newA h (fun b1 S2 h1 => ok_ldI h1 rfl (ok_ldL h1 rfl (ok_ldI h1 rfl (ok_ldI h1 rfl ?_)))))
  refine ok_cond (fun _ => live_ok (n + 302) S2) (fun c1 => ok_cond (fun _ => live_ok (n + 302) S2) (fun c2 => ok_cond (fun _ => live_ok (n + 302) S2) (fun c3 => ok_cond (fun _ => live_ok (n + 302) S2) (fun c4 => ok_cond (fun _ => live_ok (n + 302) S2) (fun c5 => ok_cond (fun _ => live_ok (n + 302) S2) (fun c6 => ?_))))))
  simp only [gt_iff_lt, decide_eq_false_iff_not] at c1 c2 c3 c4 c5 c6
  obtain ⟨v, S3, e, hB⟩ := begun_ok n hn h1 (x := bl) (by omega) (c := c) ha (by omega)
  rcases hB with ⟨hx, rfl, h3⟩ | ⟨hx, b, A, L, M, rfl, hal, hw, hl, hh, hpl, h3⟩
  · rw [callP_of e]
    refine ok_true rfl (ok_true ?_ (live_ok (n + 302) S3))
    unfold right at hx
    simp only [decide_eq_true_eq]; omega
  · rw [callP_of e]
    refine ok_false rfl ?_
    unfold right at hx
    obtain ⟨v, S4, e, rfl, L4, ha4, h4⟩ : Ok (evF E orcL (n + 303) (.fn 22) [.ptr (some (.rw b, 0)), .int .i64 cnt] S3) _ := reserve_ok (n + 302) h3 hal hw cnt
    rw [callI_of e, callI_of (num_eq (n + 302) _ S4)]
    refine ok_cond (fun hc => ?_) (fun hc => ?_)
    · simp only [bne_iff_ne, ne_eq] at hc
      have hgt : cnt > (A.s.count 0 : Nat) - (A.r : Int) := by
        unfold AM.reserveE at hc
        rw [if_neg (by omega)] at hc
        split at hc
        · assumption
        · exact absurd rfl hc
      have hs : A.reserve cnt = A := by unfold AM.reserve; rw [if_neg hc]
      rw [hs] at ha4
      have hrf := hw.rf
      have hcl : A.s.count 0 ≤ A.s.length := List.count_le_length
      rw [callI_of (show evF E orcL (n + 303) (.fn 15) [.ptr (some (.rw b, 0))] S4 = _ from free_eq (n + 302) h4 ha4), callI_of (show evF E orcL (n + 303) (.fn 23) [.ptr (some (.rw b, 0))] S4 = _ from reserved_eq (n + 302) h4 ha4)]
      rw [wz (z := ((A.s.count 0 : Nat) : Int) - (A.r : Int)) rfl (by omega) (by omega)]
      exact ok_true (by simp only [decide_eq_true_eq]; omega) (live_ok (n + 302) S4)
    · simp only [bne_eq_false_iff_eq] at hc
      have hs : A.reserve cnt = { A with r := A.r + cnt.toNat } := by unfold AM.reserve; rw [if_pos hc]
      have hwr := hw.reserve cnt
      rw [hs] at ha4 hwr
      obtain ⟨bn, rfl⟩ : ∃ k : Nat, bl = (k : Int) := ⟨bl.toNat, by omega⟩
      exact res_outer (n + 303) n hn (by omega) (by omega) (by omega) (by omega) (by omega) (n + 303) 0 _ _ L4 M S4 (by omega) (by omega) ha4 hwr (by simpa using hl) (by show cnt ≤ ((A.r + cnt.toNat : Nat) : Int) + (0 : Nat); omega) h4

end

end Go.Al
