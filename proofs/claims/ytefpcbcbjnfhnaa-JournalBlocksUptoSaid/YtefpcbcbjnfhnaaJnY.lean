/- What the document's codec of a journal does with a heap: entries and superblocks read; transactions. -/
import Derived.Test.YtefpcbcbjnfhnaaJnX
set_option linter.unusedVariables false
set_option linter.unusedSimpArgs false
set_option maxRecDepth 4000
namespace Go.Jn
open Go.Gr

section
variable {X : Cx} {S : AS} {L F : List Ent} {b : Nat} {Q : AV → AS → Prop}

theorem rgetE_ok (n : Nat) (hn : 70000 < n) {s : List UInt8} {a : Option Pos} {l : Nat} {c : Cap} (h : Hp X S F) (hv : Vw X F a l c s) :
    Ok (ev (n + 3) (.fn 19) [.sl a l c] S) (GQ X F (getE s) (getEe s)) := by
  have hln := hv.ln
  rw [ev, F19 _ _ _ _ _ (oL rfl)]
  simp only [J19, b19_entry]
  have bad : goodE s = false → GQ X F (getE s) (getEe s) = GQ X F zE 81 := fun he => by simp [getE, getEe, he]
  have zer : ∀ (b1 : Nat) (S' : AS) (M : List Ent), goodE s = false → Hp X S' (M ++ (C b1 zrow :: F)) → Ok (S'.stn (.rw b1) 0 zrow fun S3 => S3.ldn (.rw b1) 0 7 fun g4 => some (.tup [(.agg g4), (.int .i64 81)], S3)) (GQ X F (getE s) (getEe s)) := fun b1 S' M he hh => by
    rw [bad he]
    refine ok_stn hh (by simp) (d := zrow) (by simp [splice]) (fun S3 h3 => ok_ldn h3 (by simp) (d := zrow) rfl (ok_ret ⟨none, .ex 0, [], rfl, vw_nil, h3.right.drop1⟩))
  refine ok_newA h (fun b1 S1 h1 => ok_cond (fun c1 => ?_) (fun c1 => ?_))
  · simp only [bne_iff_ne, ne_eq] at c1
    exact zer b1 S1 [] (by simp [goodE]; omega) h1
  simp only [bne_eq_false_iff_eq] at c1
  have h384 : s.length = 384 := by omega
  have v1 : Vw X (C b1 zrow :: F) a l c s := hv.mono (fun e he => by simp [he])
  have num1 : ∀ (at_ k : Nat) (xi ki : Int), xi = at_ → ki = k → k ≤ 8 → at_ + k ≤ 384 → ∀ {S' : AS} {M : List Ent}, Hp X S' M → (∀ e ∈ F, e ∈ M) → evF E orcL (n + 2) (.fn 47) [.sl a l c, .int .i64 xi, .int .i64 ki] S' = some (.int .u64 ((vl (win8 s at_ k) : Nat) : Int), S') := fun at_ k xi ki hx hk h8 hat {S' M} hh hm =>
    number_eq (n + 1) (by omega) hx hk (hv.mono hm) hh (by omega) h8 (by omega)
  rw [callI_of (num1 40 2 40 2 rfl rfl (by decide) (by decide) h1 (fun e he => by simp [he]))]
  have k1 := vl_win2 s 40
  have k2 := vl_win2 s 36
  have k3 := vl_win2 s 38
  rw [wn (x := ((vl (win8 s 40 2) : Nat) : Int)) rfl (by omega)]
  refine ok_cond (fun c2 => ?_) (fun c2 => ?_)
  · simp only [gt_iff_lt, decide_eq_true_eq] at c2
    refine zer b1 S1 [] ?_ h1
    cases hg : goodE s with
    | false => rfl
    | true => have := good_n hg; omega
  simp only [gt_iff_lt, decide_eq_false_iff_not] at c2
  refine ok_drawA h1 [14, 21] (by decide) (by simp) (fun b9 S10 h10 => ?_)
  have h10' : Hp X S10 ((b9 + 14, none) :: (b9 + 21, none) :: C b1 zrow :: F) := h10
  have sub : ∀ e ∈ F, e ∈ ((b9 + 14, none) : Ent) :: (b9 + 21, none) :: C b1 zrow :: F := fun e he => by simp [he]
  rw [callI_of (num1 4 8 4 8 rfl rfl (by decide) (by decide) h10' sub), callI_of (num1 12 8 12 8 rfl rfl (by decide) (by decide) h10' sub), callI_of (num1 20 8 20 8 rfl rfl (by decide) (by decide) h10' sub), callI_of (num1 28 8 28 8 rfl rfl (by decide) (by decide) h10' sub), callI_of (num1 36 2 36 2 rfl rfl (by decide) (by decide) h10' sub), callI_of (num1 38 2 38 2 rfl rfl (by decide) (by decide) h10' sub)]
  rw [wn (x := ((vl (win8 s 36 2) : Nat) : Int)) rfl (by omega), wn (x := ((vl (win8 s 38 2) : Nat) : Int)) rfl (by omega)]
  have hby : (decE s).by_ = win8 s 48 (vl (win8 s 40 2)) := by
    have e : min (vl (win8 s 40 2)) 336 = vl (win8 s 40 2) := Nat.min_eq_left (by omega)
    show win8 s 48 (min (vl (win8 s 40 2)) 336) = _
    rw [e]
  have hbl : (decE s).by_.length = vl (win8 s 40 2) := by rw [hby]; exact win8_len (by omega)
  rw [wn (x := (48 : Int) + ((vl (win8 s 40 2) : Nat) : Int)) (n := 48 + vl (win8 s 40 2)) (by omega) (by omega)]
  have sub2 : ∀ e ∈ F, e ∈ ((b9 + 21, none) : Ent) :: C b1 zrow :: F := fun e he => by simp [he]
  refine ok_sl (hv.mono sub2) (lo := 48) (hi := 48 + vl (win8 s 40 2)) (by omega) (by omega) rfl rfl (fun a2 c2' w2 => ?_)
  rw [Nat.add_sub_cancel_left, ← hby] at w2
  rw [Nat.add_sub_cancel_left]
  refine ok_layA (b := b9 + 14) h10' (fun S24 h24 => ?_)
  have h24' : Hp X S24 ([C (b9 + 14) []] ++ ((b9 + 21, none) :: C b1 zrow :: F)) := h24
  have s24 : SlG (some (.rw (b9 + 14), 0)) 0 (.ex 0) 1 (bxs []) [C (b9 + 14) []] := (SlR.of (xs := []) (by simp) rfl (.inl rfl)).g
  refine ok_bytes h24' s24 w2 (by simp only [List.length_nil, Nat.zero_add]; rw [hbl]; omega) (fun a3 c3 L3 S3 hs3 h3 => ?_)
  rw [List.nil_append] at hs3 ⊢
  refine ok_layA (b := b9 + 21) h3 (fun S4 h4 => ok_stn h4 (by simp) (d := erow (decE s) a3 (decE s).by_.length c3) (by simp [splice, erow, decE]) (fun S5 h5 => ok_ldn h5 (by simp [erow]) (d := erow (decE s) a3 (decE s).by_.length c3) rfl ?_))
  have hv5 : Vw X (L3 ++ (C (b9 + 21) (erow (decE s) a3 (decE s).by_.length c3) :: C b1 zrow :: F)) a3 (decE s).by_.length c3 (decE s).by_ := slG_vw hs3 (fun e he => by simp [he])
  obtain ⟨v, S6, e6, a6, c6, L6, rfl, hs6, h6⟩ : Ok (evF E orcL (n + 2) (.fn 9) [.agg (erow (decE s) a3 (decE s).by_.length c3)] S5) _ := rputE_ok n (by omega) (decB s) h5 hv5
  rw [callT_of e6]
  refine ok_atL rfl (ok_atI rfl (ok_cond (fun cc => ?_) (fun cc => ?_)))
  · have he : okE (decE s) = false := by
      cases hk : okE (decE s) with
      | false => rfl
      | true => rw [putEe, if_pos hk] at cc; exact absurd cc (by decide)
    exact zer b1 S6 (L6 ++ (L3 ++ [C (b9 + 21) (erow (decE s) a3 (decE s).by_.length c3)])) (by simp [goodE, he]) (by simpa using h6)
  have he : okE (decE s) = true := by
    cases hk : okE (decE s) with
    | true => rfl
    | false => rw [putEe, if_neg (by simp [hk])] at cc; exact absurd cc (by decide)
  rw [show putE (decE s) = encE (decE s) by simp [putE, he]] at hs6 ⊢
  have hv6 : Vw X (L6 ++ (L3 ++ (C (b9 + 21) (erow (decE s) a3 (decE s).by_.length c3) :: C b1 zrow :: F))) a l c s := hv.mono (fun e he => by simp [he])
  have vw6 : Vw X (L6 ++ (L3 ++ (C (b9 + 21) (erow (decE s) a3 (decE s).by_.length c3) :: C b1 zrow :: F))) a6 (encE (decE s)).length c6 (encE (decE s)) := slG_vw hs6 (fun e he => by simp [he])
  rw [bytesStr_of vw6.r h6 vw6.ln, bytesStr_of hv6.r h6 hv6.ln]
  refine ok_cond (fun cc => ?_) (fun cc => ?_)
  · simp only [Bool.not_eq_true'] at cc
    exact zer b1 S6 (L6 ++ (L3 ++ [C (b9 + 21) (erow (decE s) a3 (decE s).by_.length c3)])) (by simp only [goodE, cc, Bool.and_false]) (by simpa using h6)
  · simp only [Bool.not_eq_false'] at cc
    have hg : goodE s = true := by simp only [goodE, h384, he, cc, decide_true, Bool.and_self]
    rw [show getE s = decE s by simp [getE, hg], show getEe s = 0 by simp [getEe, hg]]
    refine ok_ldn h6 (by simp [erow]) (d := erow (decE s) a3 (decE s).by_.length c3) rfl (ok_ifO rfl (ok_stn h6 (by simp [erow]) (d := erow (decE s) a3 (decE s).by_.length c3) (by simp [splice, erow]) (fun S7 h7 => ok_ldn h7 (by simp [erow]) (d := erow (decE s) a3 (decE s).by_.length c3) rfl (ok_ret ⟨a3, c3, L3, rfl, slG_vw hs3 (fun e he => he), ?_⟩))))
    exact h7.right.sub (List.Sublist.append_left (((List.Sublist.refl F).cons _).cons _) L3)

theorem rgetS_ok (n : Nat) (hn : 70000 < n) {s : List UInt8} {a : Option Pos} {l : Nat} {c : Cap} (h : Hp X S F) (hv : Vw X F a l c s) :
    Ok (ev (n + 3) (.fn 21) [.sl a l c] S) (GSQ X F (getS s) (getSe s)) := by
  have hln := hv.ln
  rw [ev, F21 _ _ _ _ _ (oL rfl)]
  simp only [J21, b21_entry]
  have bad : goodS s = false → GSQ X F (getS s) (getSe s) = GSQ X F zS 81 := fun he => by simp [getS, getSe, he]
  have zer : ∀ (b1 : Nat) (S' : AS) (M : List Ent), goodS s = false → Hp X S' (M ++ (C b1 zrowS :: F)) → Ok (S'.stn (.rw b1) 0 zrowS fun S3 => S3.ldn (.rw b1) 0 6 fun g4 => some (.tup [(.agg g4), (.int .i64 81)], S3)) (GSQ X F (getS s) (getSe s)) := fun b1 S' M he hh => by
    rw [bad he]
    exact ok_stn hh (by simp) (d := zrowS) (by simp [splice]) (fun S3 h3 => ok_ldn h3 (by simp) (d := zrowS) rfl (ok_ret ⟨rfl, h3.right.drop1⟩))
  refine ok_newA h (fun b1 S1 h1 => ok_cond (fun c1 => ?_) (fun c1 => ?_))
  · simp only [bne_iff_ne, ne_eq] at c1
    exact zer b1 S1 [] (by simp [goodS]; omega) h1
  simp only [bne_eq_false_iff_eq] at c1
  have h384 : s.length = 384 := by omega
  have num1 : ∀ (at_ k : Nat) (xi ki : Int), xi = at_ → ki = k → k ≤ 8 → at_ + k ≤ 384 → ∀ {S' : AS} {M : List Ent}, Hp X S' M → (∀ e ∈ F, e ∈ M) → evF E orcL (n + 2) (.fn 47) [.sl a l c, .int .i64 xi, .int .i64 ki] S' = some (.int .u64 ((vl (win8 s at_ k) : Nat) : Int), S') := fun at_ k xi ki hx hk h8 hat {S' M} hh hm =>
    number_eq (n + 1) (by omega) hx hk (hv.mono hm) hh (by omega) h8 (by omega)
  have sub : ∀ e ∈ F, e ∈ C b1 zrowS :: F := fun e he => by simp [he]
  rw [callI_of (num1 4 8 4 8 rfl rfl (by decide) (by decide) h1 sub), callI_of (num1 12 8 12 8 rfl rfl (by decide) (by decide) h1 sub), callI_of (num1 20 8 20 8 rfl rfl (by decide) (by decide) h1 sub), callI_of (num1 28 8 28 8 rfl rfl (by decide) (by decide) h1 sub), callI_of (num1 36 8 36 8 rfl rfl (by decide) (by decide) h1 sub), callI_of (num1 44 8 44 8 rfl rfl (by decide) (by decide) h1 sub)]
  refine ok_newA h1 (fun b31 S4 h4 => ok_stn h4 (by simp) (d := srowS (decS s)) (by simp [splice, srowS, Su.l, decS]) (fun S5 h5 => ok_ldn h5 (by simp [srowS]) (d := srowS (decS s)) (by simp [srowS, Su.l]) ?_))
  obtain ⟨v, S6, e6, a6, c6, L6, rfl, hs6, h6⟩ : Ok (evF E orcL (n + 2) (.fn 11) [.agg (srowS (decS s))] S5) _ := rputS_ok n (by omega) (decSB s) h5
  rw [callT_of e6]
  refine ok_atL rfl (ok_atI rfl (ok_cond (fun cc => ?_) (fun cc => ?_)))
  · have he : okS (decS s) = false := by
      cases hk : okS (decS s) with
      | false => rfl
      | true => rw [putSe, if_pos hk] at cc; exact absurd cc (by decide)
    exact zer b1 S6 (L6 ++ [C b31 (srowS (decS s))]) (by simp [goodS, he]) (by simpa using h6)
  have he : okS (decS s) = true := by
    cases hk : okS (decS s) with
    | true => rfl
    | false => rw [putSe, if_neg (by simp [hk])] at cc; exact absurd cc (by decide)
  rw [show putS (decS s) = encS (decS s) by simp [putS, he]] at hs6 ⊢
  have hv6 : Vw X (L6 ++ (C b31 (srowS (decS s)) :: C b1 zrowS :: F)) a l c s := hv.mono (fun e he => by simp [he])
  have vw6 : Vw X (L6 ++ (C b31 (srowS (decS s)) :: C b1 zrowS :: F)) a6 (encS (decS s)).length c6 (encS (decS s)) := slG_vw hs6 (fun e he => by simp [he])
  rw [bytesStr_of vw6.r h6 vw6.ln, bytesStr_of hv6.r h6 hv6.ln]
  refine ok_cond (fun cc => ?_) (fun cc => ?_)
  · simp only [Bool.not_eq_true'] at cc
    exact zer b1 S6 (L6 ++ [C b31 (srowS (decS s))]) (by simp only [goodS, cc, Bool.and_false]) (by simpa using h6)
  · simp only [Bool.not_eq_false'] at cc
    have hg : goodS s = true := by simp only [goodS, h384, he, cc, decide_true, Bool.and_self]
    rw [show getS s = decS s by simp [getS, hg], show getSe s = 0 by simp [getSe, hg]]
    refine ok_ldn h6 (by simp [srowS]) (d := srowS (decS s)) (by simp [srowS, Su.l]) (ok_ifO rfl (ok_stn h6 (by simp [srowS]) (d := srowS (decS s)) (by simp [splice, srowS, Su.l]) (fun S7 h7 => ok_ldn h7 (by simp [srowS]) (d := srowS (decS s)) (by simp [srowS, Su.l]) (ok_ret ⟨rfl, ?_⟩))))
    exact h7.right.sub (((List.Sublist.refl F).cons _).cons _)

theorem rt_loop (n0 n : Nat) (hn : 100 < n) {ps : List Pr} {pa w2a : Option Pos} {pc w2c : Cap} {w2l : Nat} {w3 : Int} (hps : ps.length ≤ 64) (h1ps : 1 ≤ ps.length) (hr : RdR X F pa (prows ps).flatten) (hv : PsV X F ps) :
    ∀ (m i : Nat) (a : Option Pos) (l : Nat) (c : Cap) (L : List Ent) (S : AS), i ≤ ps.length → ps.length - i < m → (∀ p ∈ (pts ps).take i, okP p = true) → SlG a l c 1 (bxs (be 4 ps.length ++ encPs ((pts ps).take i))) L → Hp X S (L ++ F) →
      Ok (J14_l1_1_1_0_1_0 (evF E orcL (n + 1)) n0 m pa ps.length pc w2a w2l w2c w3 a l c i S) (BQ X F (putT (pts ps)) (putTe (pts ps)))
  | 0, i, a, l, c, L, S, hi, hm, hg, hs, h => by omega
  | m + 1, i, a, l, c, L, S, hi, hm, hg, hs, h => by
    have hl : l = (be 4 ps.length ++ encPs ((pts ps).take i)).length := by have := hs.len; rwa [bxs_len] at this
    have hsz : (be 4 ps.length ++ encPs ((pts ps).take i)).length = 4 + 388 * i := by
      rw [List.length_append, be_len, encPs_len hg, List.length_take, pts_len]; omega
    rw [J14_l1_1_1_0_1_0_succ]
    simp only [b14_l1_1_1_0_1_0]
    refine ok_cond (fun hc => ?_) (fun hc => ?_)
    · simp only [decide_eq_true_eq] at hc
      have hlt : i < ps.length := by omega
      have hr' : RdR X (L ++ F) pa (prows ps).flatten := hr.mono (fun e he => by simp [he])
      obtain ⟨q, hq⟩ := ps_some hr' hlt
      obtain ⟨x, hx⟩ : ∃ x, ps[i]? = some x := ⟨_, List.getElem?_eq_getElem hlt⟩
      have hr0 : RdR X F (some q) (prows ps).flatten := by rw [← hq]; exact hr
      have hr2 : RdR X (L ++ F) (some q) (prows ps).flatten := by rw [← hq]; exact hr'
      rw [show ixSl 2 pa ps.length (i : Int) = ixSl 2 (some q) ps.length (i : Int) by rw [hq]]
      have bad : okP x.pt = false → Ok (some (AV.tup [.sl none 0 (.ex 0), .int .i64 82], S)) (BQ X F (putT (pts ps)) (putTe (pts ps))) := fun hp => by
        have he := okT_false (pts_at hx) hp
        rw [show putT (pts ps) = [] by simp [putT, he], show putTe (pts ps) = 82 by simp [putTe, he]]
        exact ok_ret ⟨none, .ex 0, [], rfl, .nil, h.right⟩
      rw [ixSl_at rfl hlt, pf_I hr2 h hx]
      refine ok_cond (fun c1 => bad ?_) (fun c1 => ?_)
      · simp only [decide_eq_true_eq] at c1; exact okP_false (by omega)
      rw [ixSl_at rfl hlt, pf_I hr2 h hx]
      refine ok_cond (fun c2 => bad ?_) (fun c2 => ?_)
      · simp only [gt_iff_lt, decide_eq_true_eq] at c2; exact okP_false (by omega)
      rw [ixSl_at rfl hlt, pf_L hr2 h hx]
      refine ok_cond (fun c3 => bad ?_) (fun c3 => ?_)
      · simp only [bne_iff_ne, ne_eq] at c3; exact okP_false (by omega)
      simp only [gt_iff_lt, decide_eq_false_iff_not, bne_eq_false_iff_eq] at c1 c2 c3
      have hok : okP x.pt = true := (okP_iff _).2 (by show 0 ≤ x.b ∧ x.b < _ ∧ x.d.length = _; omega)
      rw [ixSl_at rfl hlt, pf_I hr2 h hx, wu64 (by omega) (by omega)]
      obtain ⟨v, S3, e3, a3, c3', L3, rfl, hs3, h3⟩ : Ok (evF E orcL (n + 1) (.fn 42) [.sl a l c, .int .u64 x.b, .int .i64 4] S) _ := rput_ok n hn h hs (by omega) (x := x.b.toNat) (by omega) (k := 4) (by decide) rfl
      rw [callL_of e3, ixSl_at rfl hlt, pf_L (hr0.mono (fun e he => by simp [he])) h3 hx, pf_L hr2 h hx]
      refine ok_true (by simp [AV.beq]) ?_
      have hvx := hv x (List.mem_of_getElem? hx)
      refine ok_bytes h3 hs3 hvx (by rw [List.length_append, hsz, be_len]; omega) (fun a4 c4 L4 S4 hs4 h4 => ?_)
      rw [wn (x := (i : Int) + 1) (n := i + 1) (by omega) (by omega)]
      have he : be 4 ps.length ++ encPs ((pts ps).take i) ++ be 4 x.b.toNat ++ x.d = be 4 ps.length ++ encPs ((pts ps).take (i + 1)) := by
        rw [encPs_take (pts_at hx)]; simp [Pr.pt]
      rw [he] at hs4 ⊢
      refine rt_loop n0 n hn hps h1ps hr hv m (i + 1) a4 _ c4 L4 S4 (by omega) (by omega) (fun p hp => ?_) hs4 h4
      rw [List.take_add_one, pts_at hx] at hp
      rcases List.mem_append.1 hp with hp | hp
      · exact hg p hp
      · simp at hp; subst hp; exact hok
    · simp only [decide_eq_false_iff_not] at hc
      have : i = ps.length := by omega
      subst this
      simp only [J14_j1_1_1_1, b14_j1_1_1_1]
      have ht : (pts ps).take ps.length = pts ps := List.take_of_length_le (by simp)
      rw [ht] at hg hs hl
      have he : okT (pts ps) = true := by
        simp only [okT, Bool.and_eq_true, decide_eq_true_eq, List.all_eq_true, pts_len]
        exact ⟨⟨h1ps, hps⟩, hg⟩
      rw [show putT (pts ps) = encT (pts ps) by simp [putT, he], show putTe (pts ps) = 0 by simp [putTe, he]]
      subst hl
      refine ok_ret ⟨a, c, L, ?_, ?_, h⟩
      · simp [encT]
      · simpa [encT] using hs

theorem rputT_ok (n : Nat) (hn : 100 < n) {ps : List Pr} {a : Option Pos} {c : Cap} (h : Hp X S F) (hr : RdR X F a (prows ps).flatten) (hv : PsV X F ps) :
    Ok (ev (n + 2) (.fn 14) [.sl a ps.length c] S) (BQ X F (putT (pts ps)) (putTe (pts ps))) := by
  rw [ev, F14 _ _ _ _ _ (oL rfl)]
  simp only [J14, b14_entry]
  have bad : okT (pts ps) = false → Ok (some (AV.tup [.sl none 0 (.ex 0), .int .i64 82], S)) (BQ X F (putT (pts ps)) (putTe (pts ps))) := fun he => by
    rw [show putT (pts ps) = [] by simp [putT, he], show putTe (pts ps) = 82 by simp [putTe, he]]
    exact ok_ret ⟨none, .ex 0, [], rfl, .nil, h⟩
  refine ok_cond (fun c1 => bad ?_) (fun c1 => ok_cond (fun c2 => bad ?_) (fun c2 => ?_))
  · simp only [decide_eq_true_eq] at c1; simp [okT]; omega
  · simp only [gt_iff_lt, decide_eq_true_eq] at c2; simp [okT]; omega
  simp only [gt_iff_lt, decide_eq_false_iff_not] at c1 c2
  rw [wu64 (by omega) (by omega)]
  have h' : Hp X S ([] ++ F) := h
  obtain ⟨v, S3, e3, a3, c3, L3, rfl, hs3, h3⟩ : Ok (evF E orcL (n + 1) (.fn 42) [.sl none 0 (.ex 0), .int .u64 (ps.length : Nat), .int .i64 4] S) _ := rput_ok n hn h' (s := []) (by exact (SlG.nil : SlG none 0 (.ex 0) 1 [] [])) (by simp) (x := ps.length) rfl (k := 4) (by decide) rfl
  rw [callL_of e3]
  exact rt_loop (n + 1) n hn (by omega) (by omega) hr hv (n + 1) 0 a3 _ c3 L3 S3 (by omega) (by omega) (by simp) (by simpa [encPs] using hs3) h3

theorem rgt_loop (n0 n : Nat) (hn : 70000 < n) {s : List UInt8} {sa w2a : Option Pos} {sl w2l : Nat} {sc w2c : Cap} {w3 : Int} (hln : sl = s.length) (hs1 : 1 ≤ cntT s) (hsz : szT s = true) (hv : Vw X F sa sl sc s) :
    ∀ (m k at_ : Nat) (qs : List Pr) (a : Option Pos) (c : Cap) (Lr Ld : List Ent) (S : AS), k < m → at_ + 388 * k = s.length → qs.length + k = cntT s → pts qs ++ cks k (s.drop at_) = listT s → (∀ p ∈ pts qs, okP p = true) → SlG a qs.length c 2 (prows qs) Lr → PsV X Ld qs → Hp X S (Lr ++ (Ld ++ F)) →
      Ok (J23_l1_1_1_0_1_0 (evF E orcL (n + 1)) n0 m sa sl sc w2a w2l w2c w3 a qs.length c at_ S) (TQ X F (getT s) (getTe s))
  | 0, k, at_, qs, a, c, Lr, Ld, S, hm, hq, hl, hP, hok, hs, hd, h => by omega
  | m + 1, k, at_, qs, a, c, Lr, Ld, S, hm, hq, hl, hP, hok, hs, hd, h => by
    have h64 : cntT s ≤ 64 ∧ s.length - 4 = 388 * cntT s ∧ 4 ≤ s.length := by
      simp only [szT, Bool.and_eq_true, decide_eq_true_eq] at hsz
      omega
    rw [J23_l1_1_1_0_1_0_succ]
    simp only [b23_l1_1_1_0_1_0]
    refine ok_cond (fun hc => ?_) (fun hc => ?_)
    · simp only [decide_eq_true_eq] at hc
      obtain ⟨k, rfl⟩ : ∃ k', k = k' + 1 := ⟨k - 1, by omega⟩
      have sub : ∀ e ∈ F, e ∈ Lr ++ (Ld ++ F) := fun e he => by simp [he]
      rw [callI_of (show evF E orcL (n + 1) (.fn 47) [.sl sa sl sc, .int .i64 (at_ : Nat), .int .i64 4] S = _ from number_eq n (by omega) rfl rfl (hv.mono sub) h (by omega) (k := 4) (by decide) (by omega))]
      have hPe : listT s = pts qs ++ (⟨((vl (win8 s at_ 4) : Nat) : Int), win8 s (at_ + 4) 384⟩ :: cks k (s.drop (at_ + 388))) := by
        rw [← hP, cks]
        simp only [win8, List.drop_drop]
      have hget : (listT s)[qs.length]? = some ⟨((vl (win8 s at_ 4) : Nat) : Int), win8 s (at_ + 4) 384⟩ := by
        rw [hPe, List.getElem?_append_right (by simp)]; simp
      refine ok_cond (fun c2 => ?_) (fun c2 => ?_)
      · simp only [gt_iff_lt, decide_eq_true_eq] at c2
        have he : okT (listT s) = false := okT_false hget (by
          cases hk : okP ⟨((vl (win8 s at_ 4) : Nat) : Int), win8 s (at_ + 4) 384⟩ with
          | false => rfl
          | true => have := (okP_iff _).1 hk; simp only at this; omega)
        have hg : goodT s = false := by simp [goodT, he]
        rw [show getT s = [] by simp [getT, hg], show getTe s = 82 by simp [getTe, hg]]
        exact ok_ret ⟨[], none, .ex 0, [], [], rfl, rfl, .nil, (fun p hp => by cases hp), h.right.right⟩
      simp only [gt_iff_lt, decide_eq_false_iff_not] at c2
      have hokx : okP ⟨((vl (win8 s at_ 4) : Nat) : Int), win8 s (at_ + 4) 384⟩ = true := (okP_iff _).2 ⟨Int.natCast_nonneg _, by show ((vl (win8 s at_ 4) : Nat) : Int) < _; omega, win8_len (by omega)⟩
      refine ok_newA h (fun b9 S1 h1 => ?_)
      rw [wn (x := ((at_ : Nat) : Int) + 4) (n := at_ + 4) (by omega) (by omega), wn (x := ((at_ + 4 : Nat) : Int) + 384) (n := at_ + 388) (by omega) (by omega)]
      refine ok_sl (hv.mono sub) (lo := at_ + 4) (hi := at_ + 388) (by omega) (by omega) rfl rfl (fun a2 c2' w2 => ?_)
      rw [show at_ + 388 - (at_ + 4) = 384 by omega] at w2 ⊢
      have h1' : Hp X S1 ([C b9 []] ++ (Lr ++ (Ld ++ F))) := h1
      have hs0 : SlG (some (.rw b9, 0)) 0 (.ex 0) 1 (bxs []) [C b9 []] := (SlR.of (xs := []) (by simp) rfl (.inl rfl)).g
      refine ok_bytes h1' hs0 w2 (by simp [win8]; omega) (fun a3 c3 L3 S3 hs3 h3 => ?_)
      rw [List.nil_append] at hs3 ⊢
      rw [wn (x := ((vl (win8 s at_ 4) : Nat) : Int)) rfl (by omega)]
      refine ok_newA h3 (fun b14 S4 h4 => ?_)
      have h4' : Hp X S4 (Lr ++ (C b14 (prow ⟨((vl (win8 s at_ 4) : Nat) : Int), a3, c3, win8 s (at_ + 4) 384⟩) :: ((L3 ++ Ld) ++ F))) := h4.re (by intro p; simp only [List.countP_append, List.countP_cons, C, prow]; omega)
      refine row_push (by omega) hs h4' (fun a5 c5 L5 S5 hs5 h5 => ?_)
      rw [wn (x := ((at_ : Nat) : Int) + 384) (n := at_ + 384) (by omega) (by omega), wn (x := ((at_ + 384 : Nat) : Int) + 4) (n := at_ + 388) (by omega) (by omega)]
      refine rgt_loop n0 n hn hln hs1 hsz hv m k (at_ + 388) _ a5 c5 L5 (L3 ++ Ld) S5 (by omega) (by omega) (by simp; omega) ?_ (fun p hp => ?_) hs5 (fun p hp => ?_) h5
      · rw [hPe, pts_append, List.append_assoc]; rfl
      · rw [pts_append] at hp
        rcases List.mem_append.1 hp with hp | hp
        · exact hok p hp
        · simp only [pts, List.map_cons, List.map_nil, List.mem_singleton] at hp
          subst hp; exact hokx
      · rcases List.mem_append.1 hp with hp | hp
        · exact (hd p hp).mono (fun e he => by simp [he])
        · simp only [List.mem_singleton] at hp
          subst hp
          exact slG_vw hs3 (fun e he => by simp [he])
    · simp only [decide_eq_false_iff_not] at hc
      have : k = 0 := by omega
      subst this
      rw [cks, List.append_nil] at hP
      simp only [J23_j1_1_1_1, b23_j1_1_1_1]
      have hlen : (listT s).length = cntT s := by rw [listT, cks_len]
      have he : okT (listT s) = true := by
        simp only [okT, Bool.and_eq_true, decide_eq_true_eq, List.all_eq_true]
        exact ⟨⟨by omega, by omega⟩, by rw [← hP]; exact hok⟩
      have hg : goodT s = true := by simp [goodT, he, hsz]
      rw [show getT s = listT s by simp [getT, hg], show getTe s = 0 by simp [getTe, hg]]
      exact ok_ret ⟨qs, a, c, Lr, Ld, rfl, hP, hs, hd, h⟩

theorem rgetT_ok (n : Nat) (hn : 70000 < n) {s : List UInt8} {a : Option Pos} {l : Nat} {c : Cap} (h : Hp X S F) (hv : Vw X F a l c s) (hsl : s.length ≤ 1048576) :
    Ok (ev (n + 2) (.fn 23) [.sl a l c] S) (TQ X F (getT s) (getTe s)) := by
  have hln := hv.ln
  rw [ev, F23 _ _ _ _ _ (oL rfl)]
  simp only [J23, b23_entry]
  have bad : goodT s = false → Ok (some (AV.tup [.sl none 0 (.ex 0), .int .i64 82], S)) (TQ X F (getT s) (getTe s)) := fun he => by
    rw [show getT s = [] by simp [getT, he], show getTe s = 82 by simp [getTe, he]]
    exact ok_ret ⟨[], none, .ex 0, [], [], rfl, rfl, .nil, (fun p hp => by cases hp), h⟩
  refine ok_cond (fun c1 => bad ?_) (fun c1 => ?_)
  · simp only [decide_eq_true_eq] at c1; simp [goodT, szT]; omega
  simp only [decide_eq_false_iff_not] at c1
  have hct : vl (win8 s 0 4) = cntT s := by simp [win8, cntT]
  have hn1 : evF E orcL (n + 1) (.fn 47) [.sl a l c, .int .i64 0, .int .i64 4] S = some (.int .u64 ((cntT s : Nat) : Int), S) := by
    rw [← hct]
    exact number_eq n (by omega) (at_ := 0) rfl rfl hv h hsl (k := 4) (by decide) (by omega)
  rw [callI_of hn1]
  refine ok_cond (fun c2 => bad ?_) (fun c2 => ?_)
  · simp only [gt_iff_lt, decide_eq_true_eq] at c2; simp [goodT, szT]; omega
  simp only [gt_iff_lt, decide_eq_false_iff_not] at c2
  rw [callI_of hn1]
  refine ok_cond (fun c3 => bad ?_) (fun c3 => ?_)
  · simp only [decide_eq_true_eq] at c3
    have : okT (listT s) = false := by simp [okT, listT]; omega
    simp [goodT, this]
  simp only [decide_eq_false_iff_not] at c3
  rw [callI_of hn1, wn (x := ((cntT s : Nat) : Int)) rfl (by omega), wn (x := (388 : Int) * ((cntT s : Nat) : Int)) (n := 388 * cntT s) (by omega) (by omega), wn (x := (4 : Int) + ((388 * cntT s : Nat) : Int)) (n := 4 + 388 * cntT s) (by omega) (by omega)]
  refine ok_cond (fun c4 => bad ?_) (fun c4 => ?_)
  · simp only [bne_iff_ne, ne_eq] at c4; simp [goodT, szT]; omega
  simp only [bne_eq_false_iff_eq] at c4
  have hsz : szT s = true := by simp [szT]; omega
  exact rgt_loop (n + 1) n hn hln (by omega) hsz hv (n + 1) (cntT s) 4 [] none (.ex 0) [] [] S (by omega) (by omega) (by simp) rfl (by intro p hp; cases hp) (by exact (SlG.nil : SlG none 0 (.ex 0) 2 [] [])) (fun p hp => by cases hp) h

end

end Go.Jn
