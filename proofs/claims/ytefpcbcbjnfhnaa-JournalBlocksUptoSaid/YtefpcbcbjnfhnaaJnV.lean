/- The law JournalBack as the evaluator runs it. -/
import Derived.Test.YtefpcbcbjnfhnaaJnU
set_option linter.unusedVariables false
set_option linter.unusedSimpArgs false
set_option maxRecDepth 4000
namespace Go.Jn
open Go.Gr

theorem ok_atG {n : Nat} {l m : List AV} {i : Nat} {K : List AV → Option (AV × AS)} {Q : AV → AS → Prop} (h : l[i]? = some (.agg m)) (hm : m.length = n) (ht : Ok (K m) Q) : Ok (atG n l i K) Q := by simp only [atG, h, gG, hm, if_true]; exact ht

theorem PaB.mono {X : Cx} {L M : List Ent} {q : Parts} (h : PaB X L q) (k : ∀ e ∈ L, e ∈ M) : PaB X M q := ⟨h.e, h.ve.mono k, h.s, h.rt.mono k, h.vt.mono k, h.vb.mono k, h.le, h.lt, h.lb⟩

section
variable {X : Cx} {S : AS} {L F : List Ent} {b : Nat} {Q : AV → AS → Prop}

theorem live2 (n : Nat) (S : AS) (K : Bool → AS → Option (AV × AS)) (ht : Ok (K true S) Q) : Ok (callB (evF E orcL (n + 1)) 7 [] S K) Q := by
  rw [callB_of (S' := S) (v := true) (by simp [evF, orcL])]; exact ht

theorem back_j3 (n n0 : Nat) (hn : 70000 < n) {q : Parts} {b1 : Nat} (h : Hp X S (C b1 (parow q) :: F)) (hB : PaB X (C b1 (parow q) :: F) q) : Ok (J4_j1_1_1_1_1_1_1_1 (evF E orcL (n + 4)) n0 (some (.rw b1, 0)) S) TrueQ := by
  simp only [J4_j1_1_1_1_1_1_1_1, b4_j1_1_1_1_1_1_1_1]
  have lb := hB.lb
  refine ok_newA h (fun b2 S2 h2 => ok_gO (ok_ldL h2 rfl ?_))
  have h2' : Hp X S2 ([C b2 []] ++ (C b1 (parow q) :: F)) := h2
  have hs0 : SlG (some (.rw b2, 0)) 0 (.ex 0) 1 (bxs []) [C b2 []] := (SlR.of (xs := []) (by simp) rfl (.inl rfl)).g
  refine ok_bytes h2' hs0 hB.vb (by simp; exact lb) (fun a3 c3 L3 S3 hs3 h3 => ?_)
  rw [List.nil_append] at hs3 ⊢
  obtain ⟨v, S4, e4, qs, a4, c4, Lr, Ld, rfl, hP, hs4, hd4, h4⟩ : Ok (evF E orcL (n + 4) (.fn 22) [.sl a3 q.b.length c3] S3) _ := getT_ok n hn h3 (slG_vw hs3 (fun e he => by simp [he])) lb
  rw [callT_of e4]
  refine ok_atL rfl (ok_atI rfl ?_)
  rw [callI_of (num_eq (n + 3) _ S4)]
  refine ok_cond (fun cc => ?_) (fun cc => live2 (n + 3) S4 _ (ok_ret rfl))
  have hg : goodT q.b = true := by
    cases hk : goodT q.b with
    | true => rfl
    | false => rw [getTe, if_neg (by simp [hk])] at cc; exact absurd cc (by decide)
  obtain ⟨p1, p2⟩ := putT_getT hg
  rw [show getT q.b = listT q.b by simp [getT, hg]] at hP
  obtain ⟨v, S5, e5, a5, c5, L5, rfl, hs5, h5⟩ : Ok (evF E orcL (n + 4) (.fn 12) [.sl a4 qs.length c4] S4) _ := putT_ok (n + 1) (by omega) h4 (hs4.rd (fun e he => by simp [he])) (hd4.mono (fun e he => by simp [he]))
  rw [callT_of e5]
  rw [hP, show putT (listT q.b) = q.b by simp [putT, p1, p2], show putTe (listT q.b) = 0 by simp [putTe, p1]]  at *
  refine ok_atL rfl (ok_atI rfl ?_)
  rw [callI_of (num_eq (n + 3) _ S5)]
  refine ok_false rfl ?_
  have v5 : Vw X (L5 ++ (Lr ++ (Ld ++ (L3 ++ (C b1 (parow q) :: F))))) a5 q.b.length c5 q.b := slG_vw hs5 (fun e he => by simp [he])
  have vb : Vw X (L5 ++ (Lr ++ (Ld ++ (L3 ++ (C b1 (parow q) :: F))))) q.ba q.b.length q.bc q.b := hB.vb.mono (fun e he => by simp only [List.mem_append]; exact .inr (.inr (.inr (.inr he))))
  rw [bytesStr_of v5.r h5 v5.ln]
  refine ok_gO (okM_ldL h5 (c := parow q) (by simp) rfl ?_)
  rw [bytesStr_of vb.r h5 vb.ln]
  exact ok_false (by simp) (live2 (n + 3) S5 _ (ok_ret rfl))

theorem back_j2 (n n0 : Nat) (hn : 70000 < n) {q : Parts} {b1 : Nat} (h : Hp X S (C b1 (parow q) :: F)) (hB : PaB X (C b1 (parow q) :: F) q) (hT : q.t.length < 100) : Ok (J4_j1_1_1_1_1_1 (evF E orcL (n + 4)) n0 (some (.rw b1, 0)) S) TrueQ := by
  simp only [J4_j1_1_1_1_1_1, b4_j1_1_1_1_1_1]
  refine ok_gO (ok_ldL h rfl ?_)
  obtain ⟨v, S3, e3, qs, a3, c3, Lr, Ld, rfl, hP, hs3, hd3, h3⟩ : Ok (evF E orcL (n + 4) (.fn 13) [.sl q.ta q.t.length q.tc] S) _ := own_ok (n + 3) (by omega) (by omega) h hB.rt hB.vt hB.lt
  rw [callL_of e3]
  obtain ⟨v, S5, e5, a5, c5, L5, rfl, hs5, h5⟩ : Ok (evF E orcL (n + 4) (.fn 12) [.sl a3 qs.length c3] S3) _ := putT_ok (n + 1) (by omega) h3 (hs3.rd (fun e he => by simp [he])) (hd3.mono (fun e he => by simp [he]))
  rw [callT_of e5]
  rw [hP] at hs5 ⊢
  refine ok_atL rfl (ok_atI rfl ?_)
  rw [callI_of (num_eq (n + 3) _ S5)]
  have h5r : Hp X S5 (C b1 (parow q) :: F) := h5.right.right.right
  refine ok_cond (fun cc => ?_) (fun cc => back_j3 n n0 hn h5r hB)
  have hg : okT (pts q.t) = true := by
    cases hk : okT (pts q.t) with
    | true => rfl
    | false => rw [putTe, if_neg (by simp [hk])] at cc; exact absurd cc (by decide)
  obtain ⟨p1, p2⟩ := getT_putT hg
  have hg2 := hg
  simp only [okT, Bool.and_eq_true, decide_eq_true_eq, List.all_eq_true, pts_len] at hg2
  have hlen : (encT (pts q.t)).length = 4 + 388 * q.t.length := by rw [encT, List.length_append, be_len, encPs_len hg2.2, pts_len]
  rw [show putT (pts q.t) = encT (pts q.t) by simp [putT, hg]] at hs5 ⊢
  obtain ⟨v, S6, e6, rs, a6, c6, Lr6, Ld6, rfl, hP6, hs6, hd6, h6⟩ : Ok (evF E orcL (n + 4) (.fn 22) [.sl a5 (encT (pts q.t)).length c5] S5) _ := getT_ok n hn h5 (slG_vw hs5 (fun e he => by simp [he])) (by omega)
  rw [callT_of e6]
  rw [show getT (encT (pts q.t)) = pts q.t by simp [getT, p1, p2]] at hP6
  rw [show getTe (encT (pts q.t)) = 0 by simp [getTe, p1]]
  refine ok_atL rfl (ok_atI rfl ?_)
  rw [callI_of (num_eq (n + 3) _ S6)]
  refine ok_false rfl (ok_gO (okM_ldL h6 (c := parow q) (by simp) rfl ?_))
  have hsub : ∀ e ∈ C b1 (parow q) :: F, e ∈ Lr6 ++ (Ld6 ++ (L5 ++ (Lr ++ (Ld ++ (C b1 (parow q) :: F))))) := fun e he => by
    simp only [List.mem_append]; exact .inr (.inr (.inr (.inr (.inr he))))
  rw [callB_of (show evF E orcL (n + 4) (.fn 25) [.sl a6 rs.length c6, .sl q.ta q.t.length q.tc] S6 = _ from same_eq (n + 3) (by omega) (by have := congrArg List.length hP6; rw [pts_len, pts_len] at this; omega) hP6 (hs6.rd (fun e he => by simp [he])) (hd6.mono (fun e he => by simp [he])) (hB.rt.mono hsub) (hB.vt.mono hsub) h6)]
  refine ok_false rfl (ok_gO (okM_ldL h6 (c := parow q) (by simp) rfl ?_))
  rw [callI_of (need_eq (n + 3) _ S6)]
  refine ok_false ?_ (back_j3 n n0 hn h6.right.right.right.right.right hB)
  rw [hlen]
  rw [wz (x := ((4 + 388 * q.t.length : Nat) : Int) + 336) rfl (by omega) (by omega), wz (x := ((4 + 388 * q.t.length : Nat) : Int) + 336 - 1) rfl (by omega) (by omega), Int.tdiv_eq_ediv_of_nonneg (by omega), wz rfl (by omega) (by omega), needI, if_neg (by omega)]
  simp only [bne_eq_false_iff_eq]
  congr 1
  omega

theorem back_j1 (n n0 : Nat) (hn : 70000 < n) {q : Parts} {b1 : Nat} (h : Hp X S (C b1 (parow q) :: F)) (hB : PaB X (C b1 (parow q) :: F) q) (hT : q.t.length < 100) : Ok (J4_j1_1_1_1 (evF E orcL (n + 4)) n0 (some (.rw b1, 0)) S) TrueQ := by
  simp only [J4_j1_1_1_1, b4_j1_1_1_1]
  refine ok_gO (ok_ldn h (by simp [parow]) (d := srowS q.s) rfl ?_)
  obtain ⟨v, S5, e5, a5, c5, L5, rfl, hs5, h5⟩ : Ok (evF E orcL (n + 4) (.fn 10) [.agg (srowS q.s)] S) _ := putS_ok (n + 1) (by omega) hB.s h
  rw [callT_of e5]
  refine ok_atL rfl (ok_atI rfl ?_)
  rw [callI_of (num_eq (n + 3) _ S5)]
  refine ok_cond (fun cc => ?_) (fun cc => back_j2 n n0 hn h5.right hB hT)
  have hg : okS q.s = true := by
    cases hk : okS q.s with
    | true => rfl
    | false => rw [putSe, if_neg (by simp [hk])] at cc; exact absurd cc (by decide)
  obtain ⟨p1, p2⟩ := good_encS hg hB.s
  rw [show putS q.s = encS q.s by simp [putS, hg]] at hs5 ⊢
  obtain ⟨v, S6, e6, rfl, h6⟩ : Ok (evF E orcL (n + 4) (.fn 20) [.sl a5 (encS q.s).length c5] S5) _ := getS_ok n hn h5 (slG_vw hs5 (fun e he => by simp [he]))
  rw [callT_of e6]
  rw [show getS (encS q.s) = q.s by simp [getS, p1, p2], show getSe (encS q.s) = 0 by simp [getSe, p1]]
  refine ok_atG rfl rfl (ok_atI rfl (ok_newA h6 (fun b7 S7 h7 => ok_ifO rfl (ok_stn h7 (by simp [srowS, Su.l]) (d := srowS q.s) (by simp [splice, srowS, Su.l]) (fun S8 h8 => ?_)))))
  rw [callI_of (num_eq (n + 3) _ S8)]
  refine ok_false rfl (ok_ldn h8 (by simp [srowS, Su.l]) (d := srowS q.s) rfl (ok_gO (ok_ldn h8 (by simp [parow]) (d := srowS q.s) rfl ?_)))
  have hne : ∀ (K : Bool → Option (AV × AS)), aggNe ty27 (srowS q.s) (srowS q.s) K = K false := fun K => by
    have hb : AV.beqs (srowS q.s) (srowS q.s) = true := (beqs_scal (by intro x hx; simp [srowS, Su.l] at hx; rcases hx with rfl | rfl | rfl | rfl | rfl | rfl <;> trivial)).2 rfl
    have h1 : (ty27).plain = true := rfl
    have h2 : fitZ (ty27).zero (srowS q.s) = true := rfl
    simp only [aggNe, h1, h2, hb, cond_true, if_true, Bool.not_true]
  rw [hne]
  exact ok_false rfl (back_j2 n n0 hn h8.drop1.right hB hT)

theorem back_run (n : Nat) (hn : 70000 < n) {q : Parts} (h : Hp X S F) (hB : PaB X F q) : Ok (ev (n + 5) (.fn 4) [.agg (parow q)] S) TrueQ := by
  rw [ev, F4 _ _ _ (oL rfl)]
  simp only [J4, b4_entry]
  refine ok_ifO rfl (ok_newA h (fun b1 S1 h1 => ok_ldn h1 (by simp [parow]) (d := parow q) rfl ?_))
  have hB1 : PaB X (C b1 (parow q) :: F) q := hB.mono (fun e he => by simp [he])
  obtain ⟨v, S2, e2, ⟨r, rfl, hr⟩, h2⟩ : Ok (evF E orcL (n + 4) (.fn 6) [.agg (parow q)] S1) _ := heavy_ok (n + 3) (by omega) hB1 h1
  rw [callB_of e2]
  refine ok_cond (fun _ => live2 (n + 3) S2 _ (ok_ret rfl)) (fun hc => ?_)
  obtain ⟨hT, _⟩ := hr hc
  refine ok_ldn h2 (by simp [parow]) (d := erow q.e q.ea q.e.by_.length q.ec) rfl ?_
  obtain ⟨v, S5, e5, a5, c5, L5, rfl, hs5, h5⟩ : Ok (evF E orcL (n + 4) (.fn 8) [.agg (erow q.e q.ea q.e.by_.length q.ec)] S2) _ := putE_ok (n + 1) (by omega) hB.e h2 hB1.ve
  rw [callT_of e5]
  refine ok_atL rfl (ok_atI rfl ?_)
  rw [callI_of (num_eq (n + 3) _ S5)]
  refine ok_cond (fun cc => ?_) (fun cc => back_j1 n _ hn h5.right hB1 hT)
  have hg : okE q.e = true := by
    cases hk : okE q.e with
    | true => rfl
    | false => rw [putEe, if_neg (by simp [hk])] at cc; exact absurd cc (by decide)
  obtain ⟨p1, p2⟩ := good_enc hg hB.e
  have hlen := encE_len ((okE_iff _).1 hg).2.2.2.2.2.2.2.2.2.2.2.2
  rw [show putE q.e = encE q.e by simp [putE, hg]] at hs5 ⊢
  obtain ⟨v, S6, e6, a6, c6, L6, rfl, hv6, h6⟩ : Ok (evF E orcL (n + 4) (.fn 18) [.sl a5 (encE q.e).length c5] S5) _ := getE_ok n hn h5 (slG_vw hs5 (fun e he => by simp [he]))
  rw [callT_of e6]
  rw [show getE (encE q.e) = q.e by simp [getE, p1, p2]] at hv6 ⊢
  rw [show getEe (encE q.e) = 0 by simp [getEe, p1]]
  refine ok_atG rfl rfl (ok_atI rfl (ok_newA h6 (fun b7 S7 h7 => ok_ifO rfl (ok_stn h7 (by simp [erow]) (d := erow q.e a6 q.e.by_.length c6) (by simp [splice, erow]) (fun S8 h8 => ?_)))))
  rw [callI_of (num_eq (n + 3) _ S8)]
  refine ok_false rfl (ok_ldn h8 (by simp [erow]) (d := erow q.e a6 q.e.by_.length c6) rfl (ok_ldn h8 (by simp [parow]) (d := erow q.e q.ea q.e.by_.length q.ec) rfl ?_))
  have hsub : ∀ e ∈ C b1 (parow q) :: F, e ∈ C b7 (erow q.e a6 q.e.by_.length c6) :: (L6 ++ (L5 ++ (C b1 (parow q) :: F))) := fun e he => by
    simp only [List.mem_cons, List.mem_append] at he ⊢; exact .inr (.inr (.inr he))
  obtain ⟨v, S9, e9, rfl, h9⟩ : Ok (evF E orcL (n + 4) (.fn 24) [.agg (erow q.e a6 q.e.by_.length c6), .agg (erow q.e q.ea q.e.by_.length q.ec)] S8) _ := sameE_ok (n + 3) h8 (hv6.mono (fun e he => by simp [he])) (hB1.ve.mono hsub)
  rw [callB_of e9]
  refine ok_false rfl (ok_false (by simp [hlen]) (back_j1 n _ hn h9.drop1.right.right hB1 hT))

end

end Go.Jn
