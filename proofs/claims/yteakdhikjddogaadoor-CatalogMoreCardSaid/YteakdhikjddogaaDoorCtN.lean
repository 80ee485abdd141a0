/- The laws CatalogKeeps and CatalogMore: their runs. -/
import Derived.Test.YteakdhikjddogaaDoorCtM
set_option linter.unusedVariables false
set_option linter.unusedSimpArgs false
set_option maxRecDepth 4000
namespace Go.Ct
open Go.Gr

section
variable {X : Cx} {S : AS} {L F : List Ent} {b : Nat} {Q : AV → AS → Prop}

abbrev polV (last : Int) (ra : Option Pos) (rl : Nat) (rc : Cap) : List AV := [.int .i64 last, .sl ra rl rc]

theorem copy_ok {ta : Option Pos} {tc : Cap} {ts : List Int} (hl : ts.length ≤ 300) (hta : RdR X F ta (u64s ts)) (h : Hp X S ([C b []] ++ F)) {K : Option Pos → Nat → Cap → AS → Option (AV × AS)}
    (ht : ∀ (a : Option Pos) (c : Cap) (S' : AS) (L' : List Ent), RdR X L' a (u64s ts) → Hp X S' (L' ++ F) → Ok (K a ts.length c S') Q) :
    Ok (appendA 1 8 S (some (.rw b, 0)) 0 (.ex 0) ts.length (firstA S 1 ts.length (.sl ta ts.length tc)) K) Q := by
  have hs : SlR (some (.rw b, 0)) 0 (.ex 0) 1 [] [C b []] := .of (xs := []) (by simp) rfl (.inl rfl)
  refine ok_append h hs (ys := ixs .u64 ts) (ixs_all _ _) (by simp) (fun K => ?_) (by decide) (by simp [pow46]; omega) (by simp [pow46]; omega) (fun a3 l3 c3 S3 L3 hs3 h3 => ?_)
  · rw [ixs_flat]
    exact (hta.mono (fun e he => by simp [he])).first h (sz := 1) (n := ts.length) (by simp) (by decide) (l := ts.length) (c := tc) K
  · rw [List.nil_append] at hs3
    obtain rfl : l3 = ts.length := by have := hs3.len; simpa using this
    refine ht a3 c3 S3 L3 ?_ h3
    have := hs3.rd (X := X) (M := L3) (fun e he => he)
    rwa [ixs_flat] at this

theorem keeps_end (n0 n : Nat) (hn : 70000 < n) {last : Int} {ra : Option Pos} {rc : Cap} {rs : List (Int × Int)} (hB : RsB last rs) (hra : RdR X F ra (rrows rs).flatten) (hrl : rs.length ≤ 50) {ta : Option Pos} {tc : Cap} {ts : List Int} (hup : Up ts) (hta : RdR X F ta (u64s ts)) {b1 b3 : Nat} {ga : Option Pos} {gc : Cap} (hga : RdR X F ga (u64s ts))
    (h : Hp X S (C b3 ((keepL last rs ts).map AV.bool) :: C b1 (polV last ra rs.length rc) :: F)) :
    ∀ (m i : Nat) (w4 : Bool), i ≤ ts.length → ts.length - i < m → Ok (J3_l1_1_1_1_0_1_0 (evF E orcL (n + 3)) n0 m ta ts.length tc (some (.rw b1, 0)) w4 ga ts.length gc (some (.rw b3, 0)) ts.length (.ex ts.length) i S) TrueQ
  | 0, i, w4, hi, hm => by omega
  | m + 1, i, w4, hi, hm => by
    have hlen := hup.n
    have sub : ∀ e ∈ F, e ∈ C b3 ((keepL last rs ts).map AV.bool) :: C b1 (polV last ra rs.length rc) :: F := fun e he => by simp [he]
    rw [J3_l1_1_1_1_0_1_0_succ]
    simp only [b3_l1_1_1_1_0_1_0]
    refine ok_cond (fun hc => ?_) (fun hc => ?_)
    · simp only [decide_eq_true_eq] at hc
      have hlt : i < ts.length := by omega
      obtain ⟨x, hx⟩ : ∃ x, ts[i]? = some x := ⟨_, List.getElem?_eq_getElem hlt⟩
      have hgm := hga.mono sub
      have htm := hta.mono sub
      obtain ⟨p, hp⟩ := ts_some hga hlt
      obtain ⟨p2, hp2⟩ := ts_some hta hlt
      have hgm' : RdR X (C b3 ((keepL last rs ts).map AV.bool) :: C b1 (polV last ra rs.length rc) :: F) (some p) (u64s ts) := by rw [← hp]; exact hgm
      have htm' : RdR X (C b3 ((keepL last rs ts).map AV.bool) :: C b1 (polV last ra rs.length rc) :: F) (some p2) (u64s ts) := by rw [← hp2]; exact htm
      rw [show ixSl 1 ga ts.length (i : Int) = ixSl 1 (some p) ts.length (i : Int) by rw [hp]]
      rw [ixSl_at rfl hlt]
      simp only [Nat.mul_one]
      rw [hgm'.ldI h (u64s_at hx)]
      rw [show ixSl 1 ta ts.length (i : Int) = ixSl 1 (some p2) ts.length (i : Int) by rw [hp2]]
      rw [ixSl_at rfl hlt]
      simp only [Nat.mul_one]
      rw [htm'.ldI h (u64s_at hx)]
      refine ok_false (by simp) ?_
      rw [wn (x := (i : Int) + 1) (n := i + 1) (by omega) (by omega)]
      exact keeps_end n0 n hn hB hra hrl hup hta hga h m (i + 1) w4 (by omega) (by omega)
    · refine ok_gO (ok_ldn h (by simp) (d := polV last ra rs.length rc) rfl ?_)
      obtain ⟨v, S1, e, a, c, L1, rfl, hs1, h1⟩ : Ok (evF E orcL (n + 3) (.fn 14) [.agg (polV last ra rs.length rc), .sl ta ts.length tc] S) _ := rkeep_ok (n + 1) (by omega) h hB (hra.mono sub) hrl hup (hta.mono sub)
      rw [callL_of e]
      have sub1 : ∀ e ∈ F, e ∈ L1 ++ (C b3 ((keepL last rs ts).map AV.bool) :: C b1 (polV last ra rs.length rc) :: F) := fun e he => by simp [he]
      have r1 : RdR X (L1 ++ (C b3 ((keepL last rs ts).map AV.bool) :: C b1 (polV last ra rs.length rc) :: F)) (some (.rw b3, 0)) ((keepL last rs ts).map AV.bool) := .rw (c := (keepL last rs ts).map AV.bool) (by simp) (by simp) (by rw [List.drop_zero, List.take_length])
      have r2 := hs1.rd (X := X) (M := L1 ++ (C b3 ((keepL last rs ts).map AV.bool) :: C b1 (polV last ra rs.length rc) :: F)) (fun e he => by simp [he])
      rw [brows_flat] at r2
      have eb := bools_eq (n + 2) (by omega) (c := .ex ts.length) (c2 := c) (by simp; omega) h1 r1 r2
      rw [keepL_len] at eb
      have eb' : evF E orcL (n + 3) (.fn 13) [.sl (some (.rw b3, 0)) ts.length (.ex ts.length), .sl a ts.length c] S1 = some (.bool true, S1) := by rw [← decide_eq_true (rfl : keepL last rs ts = keepL last rs ts)]; exact eb
      rw [keepL_len, callB_of eb']
      refine ok_true rfl (ok_gO (ok_ldn h1 (by simp) (d := polV last ra rs.length rc) rfl ?_))
      obtain ⟨v, S2, e, a2, c2, L2, rfl, hs2, h2⟩ : Ok (evF E orcL (n + 3) (.fn 12) [.agg (polV last ra rs.length rc)] S1) _ := own_ok (n + 2) h1 last (hra.mono sub1) hrl
      rw [callG_of (n := 2) e rfl]
      have rd2 := hs2.rd (X := X) (M := L2 ++ (L1 ++ (C b3 ((keepL last rs ts).map AV.bool) :: C b1 (polV last ra rs.length rc) :: F))) (fun e he => by simp [he])
      obtain ⟨v, S3, e, rfl, h3⟩ : Ok (evF E orcL (n + 3) (.fn 16) [.agg [.int .i64 last, .sl a2 rs.length c2]] S2) _ := check_ok (n + 2) (by omega) h2 last rd2
      rw [callI_of e, callI_of (num_eq (n + 2) _ S3)]
      have hbq : AV.beq (.agg (polV last ra rs.length rc)) (.agg (polV last ra rs.length rc)) = true := by simp [AV.beq, AV.beqs]
      refine ok_gO (ok_ldn h3 (by simp) (d := polV last ra rs.length rc) rfl (ok_gO (ok_ldn h3 (by simp) (d := polV last ra rs.length rc) rfl (ok_true hbq ?_))))
      refine ok_gO (ok_ldn h2 (by simp) (d := polV last ra rs.length rc) rfl (ok_true hbq ?_))
      refine ok_gO (ok_ldn h1 (by simp) (d := polV last ra rs.length rc) rfl (ok_true hbq ?_))
      obtain ⟨v, S4, e, rfl, h4⟩ : Ok (evF E orcL (n + 3) (.fn 17) [.agg [.int .i64 last, .sl ra rs.length rc]] S3) _ := rcheck_ok (n + 2) (by omega) h3 last (hra.mono (fun e he => by simp [he]))
      rw [callI_of e]
      exact ok_true (by simp) (live_ok (n + 2) S4)

theorem keeps_run (n : Nat) (hn : 70000 < n) (h : Hp X S F) {last : Int} {ra : Option Pos} {rc : Cap} {rs : List (Int × Int)} (hB : RsB last rs) (hra : RdR X F ra (rrows rs).flatten) {ta : Option Pos} {tc : Cap} {ts : List Int} (hlo : ∀ t ∈ ts, 0 ≤ t) (hhi : ∀ t ∈ ts, t < 18446744073709551616) (hta : RdR X F ta (u64s ts)) :
    Ok (ev (n + 4) (.fn 3) [.agg (polV last ra rs.length rc), .sl ta ts.length tc] S) TrueQ := by
  rw [ev, F3 _ _ _ _ _ _ (oL rfl)]
  simp only [J3, b3_entry]
  refine ok_ifO rfl (ok_newA h (fun b1 S1 h1 => ok_ldn h1 (by simp) (d := polV last ra rs.length rc) rfl ?_))
  obtain ⟨v, S2, e, rfl, h2⟩ : Ok (evF E orcL (n + 3) (.fn 8) [.agg [.int .i64 last, .sl ra rs.length rc]] S1) _ := many_ok (n + 2) h1 last ra rs.length rc
  rw [callB_of e]
  refine ok_cond (fun _ => live_ok (n + 2) S2) (fun c1 => ok_cond (fun _ => live_ok (n + 2) S2) (fun c2 => ?_))
  simp only [gt_iff_lt, decide_eq_false_iff_not] at c1 c2
  obtain ⟨v, S3, e, r, rfl, rfl, hr⟩ : Ok (evF E orcL (n + 3) (.fn 9) [.sl ta ts.length tc] S2) _ := rises_ok (n + 2) (by omega) h2 (by omega) (hta.mono (fun e he => by simp [he]))
  rw [callB_of e]
  refine ok_cond (fun _ => live_ok (n + 2) S3) (fun c3 => ?_)
  simp only [Bool.not_eq_false'] at c3
  have hup : Up ts := ⟨hlo, hhi, hr c3, by omega⟩
  refine ok_newA h2 (fun b14 S4 h4 => ?_)
  refine copy_ok (b := b14) (F := C b1 (polV last ra rs.length rc) :: F) (by omega) (hta.mono (fun e he => by simp [he])) h4 (fun ga gc S5 L5 hga h5 => ?_)
  refine ok_ldn h5 (by simp) (d := polV last ra rs.length rc) rfl ?_
  obtain ⟨v, S6, e, a2, c2, L2, rfl, hs2, h6⟩ : Ok (evF E orcL (n + 3) (.fn 12) [.agg (polV last ra rs.length rc)] S5) _ := own_ok (n + 2) h5 last (hra.mono (fun e he => by simp [he])) (by omega)
  rw [callG_of (n := 2) e rfl]
  have rd2 := hs2.rd (X := X) (M := L2 ++ (L5 ++ (C b1 (polV last ra rs.length rc) :: F))) (fun e he => by simp [he])
  obtain ⟨v, S7, e, b3, rfl, h7⟩ : Ok (evF E orcL (n + 3) (.fn 11) [.agg [.int .i64 last, .sl a2 rs.length c2], .sl ga ts.length gc] S6) _ := keep_ok n (by omega) h6 hB rd2 hup (hga.mono (fun e he => by simp [he]))
  rw [callL_of e]
  have h8 : Hp X S7 (C b3 ((keepL last rs ts).map AV.bool) :: C b1 (polV last ra rs.length rc) :: (L5 ++ (L2 ++ F))) := h7.re (by intro p; simp only [List.countP_append, List.countP_cons, C]; omega)
  exact keeps_end (n + 3) n hn hB (hra.mono (fun e he => by simp [he])) (by omega) hup (hta.mono (fun e he => by simp [he])) (hga.mono (fun e he => by simp [he])) h8 (n + 3) 0 false (by omega) (by omega)

end

end Go.Ct
