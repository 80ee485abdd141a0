/- The law JournalBlocks as the evaluator runs it. -/
import Derived.Test.YtefpcbcbjnfhnaaJnY
import Derived.Test.YtefpcbcbjnfhnaaJnV
set_option linter.unusedVariables false
set_option linter.unusedSimpArgs false
set_option maxRecDepth 8000
namespace Go.Jn
open Go.Gr

section
variable {X : Cx} {S : AS} {L F : List Ent} {b : Nat} {Q : AV → AS → Prop}

theorem okM_ldn {c : List AV} {i n : Nat} {K : List AV → Option (AV × AS)} (h : Hp X S L) (hm : C b c ∈ L) (hi : i + n ≤ c.length) {d : List AV} (hd : (c.drop i).take n = d) (ht : Ok (K d) Q) : Ok (S.ldn (.rw b) i n K) Q := by
  simp only [AS.ldn_eq, h.blkM hm, if_pos hi, hd]; exact ht

theorem blocks2 (n n0 : Nat) (hn : 70000 < n) {q : Parts} {b1 : Nat} (h : Hp X S (C b1 (parow q) :: F)) (hB : PaB X (C b1 (parow q) :: F) q) : Ok (J3_j1_1_1_1_1_1_1_1_1_1_1 (evF E orcL (n + 4)) n0 (some (.rw b1, 0)) S) TrueQ := by
  simp only [J3_j1_1_1_1_1_1_1_1_1_1_1, b3_j1_1_1_1_1_1_1_1_1_1_1, J3_j1_1_1_1_1_1_1_1_1_1_1_1, b3_j1_1_1_1_1_1_1_1_1_1_1_1, J3_j1_1_1_1_1_1_1_1_1_1_1_1_1, b3_j1_1_1_1_1_1_1_1_1_1_1_1_1, J3_j1_1_1_1_1_1_1_1_1_1_1_1_1_1, b3_j1_1_1_1_1_1_1_1_1_1_1_1_1_1, J3_j1_1_1_1_1_1_1_1_1_1_1_1_1_1_1, b3_j1_1_1_1_1_1_1_1_1_1_1_1_1_1_1, J3_j1_1_1_1_1_1_1_1_1_1_1_1_1_1_1_1, b3_j1_1_1_1_1_1_1_1_1_1_1_1_1_1_1_1, J3_j1_1_1_1_1_1_1_1_1_1_1_1_1_1_1_1_1, b3_j1_1_1_1_1_1_1_1_1_1_1_1_1_1_1_1_1, J3_j1_1_1_1_1_1_1_1_1_1_1_1_1_1_1_1_1_1, b3_j1_1_1_1_1_1_1_1_1_1_1_1_1_1_1_1_1_1]
  have lb := hB.lb
  generalize hG : (C b1 (parow q) :: F : List Ent) = G at h hB
  have hbG : C b1 (parow q) ∈ G := by rw [← hG]; simp
  refine ok_newA h (fun b2 S2 h2 => ok_gO (okM_ldL h2 (List.mem_cons_of_mem _ hbG) rfl ?_))
  have h2' : Hp X S2 ([C b2 []] ++ G) := h2
  have hs0 : SlG (some (.rw b2, 0)) 0 (.ex 0) 1 (bxs []) [C b2 []] := (SlR.of (xs := []) (by simp) rfl (.inl rfl)).g
  refine ok_bytes h2' hs0 hB.vb (by simp; exact lb) (fun a3 c3 L3 S3 hs3 h3 => ?_)
  rw [List.nil_append] at hs3 ⊢
  -- an entry
  obtain ⟨v, S4, e4, a4, c4, L4, rfl, hv4, h4⟩ : Ok (evF E orcL (n + 4) (.fn 18) [.sl a3 q.b.length c3] S3) _ := getE_ok n hn h3 (slG_vw hs3 (fun e he => by simp [he]))
  rw [callT_of e4]
  refine ok_atG rfl rfl (ok_atI rfl (ok_newA h4 (fun b5 S5 h5 => ok_ifO rfl (ok_stn h5 (by simp [erow]) (d := erow (getE q.b) a4 (getE q.b).by_.length c4) (by simp [splice, erow]) (fun S6 h6 => ?_)))))
  have hm6 : C b1 (parow q) ∈ C b5 (erow (getE q.b) a4 (getE q.b).by_.length c4) :: (L4 ++ (L3 ++ G)) := by simp [hbG]
  refine ok_gO (okM_ldL h6 hm6 rfl ?_)
  have sub6 : ∀ e ∈ G, e ∈ C b5 (erow (getE q.b) a4 (getE q.b).by_.length c4) :: (L4 ++ (L3 ++ G)) := fun e he => by simp [he]
  obtain ⟨v, S7, e7, a7, c7, L7, rfl, hv7, h7⟩ : Ok (evF E orcL (n + 4) (.fn 19) [.sl q.ba q.b.length q.bc] S6) _ := rgetE_ok (n + 1) (by omega) h6 (hB.vb.mono sub6)
  rw [callT_of e7]
  refine ok_atG rfl rfl (ok_atI rfl (ok_newA h7 (fun b8 S8 h8 => ok_ifO rfl (ok_stn h8 (by simp [erow]) (d := erow (getE q.b) a7 (getE q.b).by_.length c7) (by simp [splice, erow]) (fun S9 h9 => ?_)))))
  -- a superblock
  have v9 : Vw X (C b8 (erow (getE q.b) a7 (getE q.b).by_.length c7) :: (L7 ++ (C b5 (erow (getE q.b) a4 (getE q.b).by_.length c4) :: (L4 ++ (L3 ++ G))))) a3 q.b.length c3 q.b := slG_vw hs3 (fun e he => by simp [he])
  obtain ⟨v, S10, e10, rfl, h10⟩ : Ok (evF E orcL (n + 4) (.fn 20) [.sl a3 q.b.length c3] S9) _ := getS_ok n hn h9 v9
  rw [callT_of e10]
  refine ok_atG rfl rfl (ok_atI rfl (ok_newA h10 (fun b11 S11 h11 => ok_ifO rfl (ok_stn h11 (by simp [srowS, Su.l]) (d := srowS (getS q.b)) (by simp [splice, srowS, Su.l]) (fun S12 h12 => ?_)))))
  have hm12 : C b1 (parow q) ∈ C b11 (srowS (getS q.b)) :: C b8 (erow (getE q.b) a7 (getE q.b).by_.length c7) :: (L7 ++ (C b5 (erow (getE q.b) a4 (getE q.b).by_.length c4) :: (L4 ++ (L3 ++ G)))) := by simp [hbG]
  have sub12 : ∀ e ∈ G, e ∈ C b11 (srowS (getS q.b)) :: C b8 (erow (getE q.b) a7 (getE q.b).by_.length c7) :: (L7 ++ (C b5 (erow (getE q.b) a4 (getE q.b).by_.length c4) :: (L4 ++ (L3 ++ G)))) := fun e he => by simp [he]
  refine ok_gO (okM_ldL h12 hm12 rfl ?_)
  obtain ⟨v, S13, e13, rfl, h13⟩ : Ok (evF E orcL (n + 4) (.fn 21) [.sl q.ba q.b.length q.bc] S12) _ := rgetS_ok (n + 1) (by omega) h12 (hB.vb.mono sub12)
  rw [callT_of e13]
  refine ok_atG rfl rfl (ok_atI rfl (ok_newA h13 (fun b14 S14 h14 => ok_ifO rfl (ok_stn h14 (by simp [srowS, Su.l]) (d := srowS (getS q.b)) (by simp [splice, srowS, Su.l]) (fun S15 h15 => ?_)))))
  -- a transaction
  generalize hH : (C b14 (srowS (getS q.b)) :: C b11 (srowS (getS q.b)) :: C b8 (erow (getE q.b) a7 (getE q.b).by_.length c7) :: (L7 ++ (C b5 (erow (getE q.b) a4 (getE q.b).by_.length c4) :: (L4 ++ (L3 ++ G)))) : List Ent) = M at h15
  have subM : ∀ e ∈ G, e ∈ M := fun e he => by rw [← hH]; simp [he]
  have vM : Vw X M a3 q.b.length c3 q.b := slG_vw hs3 (fun e he => by rw [← hH]; simp [he])
  obtain ⟨v, S16, e16, qs, a16, c16, Lr, Ld, rfl, hP, hs16, hd16, h16⟩ : Ok (evF E orcL (n + 4) (.fn 22) [.sl a3 q.b.length c3] S15) _ := getT_ok n hn h15 vM lb
  rw [callT_of e16]
  refine ok_atL rfl (ok_atI rfl ?_)
  have hm16 : C b1 (parow q) ∈ Lr ++ (Ld ++ M) := by simp [subM _ hbG]
  refine ok_gO (okM_ldL h16 hm16 rfl ?_)
  obtain ⟨v, S17, e17, rs, a17, c17, Lr7, Ld7, rfl, hP7, hs17, hd17, h17⟩ : Ok (evF E orcL (n + 4) (.fn 23) [.sl q.ba q.b.length q.bc] S16) _ := rgetT_ok (n + 2) (by omega) h16 (hB.vb.mono (fun e he => by simp [subM e he])) lb
  rw [callT_of e17]
  refine ok_atL rfl (ok_atI rfl ?_)
  -- all alike
  have inM : ∀ {e : Ent}, e ∈ M → e ∈ Lr7 ++ (Ld7 ++ (Lr ++ (Ld ++ M))) := fun he => by simp [he]
  have m5 : C b5 (erow (getE q.b) a4 (getE q.b).by_.length c4) ∈ M := by rw [← hH]; simp
  have m8 : C b8 (erow (getE q.b) a7 (getE q.b).by_.length c7) ∈ M := by rw [← hH]; simp
  have m11 : C b11 (srowS (getS q.b)) ∈ M := by rw [← hH]; simp
  have m14 : C b14 (srowS (getS q.b)) ∈ M := by rw [← hH]; simp
  refine ok_gO (okM_ldn h17 (inM m5) (by simp [erow]) (d := erow (getE q.b) a4 (getE q.b).by_.length c4) rfl (ok_gO (okM_ldn h17 (inM m8) (by simp [erow]) (d := erow (getE q.b) a7 (getE q.b).by_.length c7) rfl ?_)))
  obtain ⟨v, S18, e18, rfl, h18⟩ : Ok (evF E orcL (n + 4) (.fn 24) [.agg (erow (getE q.b) a4 (getE q.b).by_.length c4), .agg (erow (getE q.b) a7 (getE q.b).by_.length c7)] S17) _ := sameE_ok (n + 3) h17 (hv4.mono (fun e he => inM (by rw [← hH]; simp [he]))) (hv7.mono (fun e he => inM (by rw [← hH]; simp [he])))
  rw [callB_of e18]
  refine ok_true rfl ?_
  rw [callI_of (num_eq (n + 3) _ S18)]
  refine ok_true (by simp) (ok_gO (okM_ldn h18 (inM m11) (by simp [srowS, Su.l]) (d := srowS (getS q.b)) (by simp [srowS, Su.l]) (ok_gO (okM_ldn h18 (inM m14) (by simp [srowS, Su.l]) (d := srowS (getS q.b)) (by simp [srowS, Su.l]) ?_))))
  have heq : ∀ (K : Bool → Option (AV × AS)), aggEq ty27 (srowS (getS q.b)) (srowS (getS q.b)) K = K true := fun K => by
    have hb : AV.beqs (srowS (getS q.b)) (srowS (getS q.b)) = true := (beqs_scal (by intro x hx; simp [srowS, Su.l] at hx; rcases hx with rfl | rfl | rfl | rfl | rfl | rfl <;> trivial)).2 rfl
    have h1 : (ty27).plain = true := rfl
    have h2 : fitZ (ty27).zero (srowS (getS q.b)) = true := rfl
    simp only [aggEq, h1, h2, hb, cond_true, if_true]
  rw [heq]
  refine ok_true rfl ?_
  rw [callI_of (num_eq (n + 3) _ S18)]
  refine ok_true (by simp) ?_
  rw [callB_of (show evF E orcL (n + 4) (.fn 25) [.sl a16 qs.length c16, .sl a17 rs.length c17] S18 = _ from same_eq (n + 3) (by omega) (by
      have h1 := congrArg List.length hP
      rw [pts_len] at h1
      by_cases hg : goodT q.b = true
      · rw [show getT q.b = listT q.b by simp [getT, hg]] at h1
        have := getT_len hg
        omega
      · rw [show getT q.b = [] by simp [getT, hg]] at h1
        rw [List.length_nil] at h1; omega) (hP.trans hP7.symm) (hs16.rd (fun e he => by simp [he])) (hd16.mono (fun e he => by simp [he])) (hs17.rd (fun e he => by simp [he])) (hd17.mono (fun e he => by simp [he])) h18)]
  refine ok_true rfl ?_
  rw [callI_of (num_eq (n + 3) _ S18)]
  refine ok_true (by simp) ?_
  have vg : Vw X (Lr7 ++ (Ld7 ++ (Lr ++ (Ld ++ M)))) a3 q.b.length c3 q.b := vM.mono (fun e he => inM he)
  have vb : Vw X (Lr7 ++ (Ld7 ++ (Lr ++ (Ld ++ M)))) q.ba q.b.length q.bc q.b := hB.vb.mono (fun e he => inM (subM e he))
  rw [bytesStr_of vg.r h18 vg.ln]
  refine ok_gO (okM_ldL h18 (inM (subM _ hbG)) rfl ?_)
  rw [bytesStr_of vb.r h18 vb.ln]
  exact ok_true (by simp) (live2 (n + 3) S18 _ (ok_ret rfl))

theorem blocks_run (n : Nat) (hn : 70000 < n) {q : Parts} (h : Hp X S F) (hB : PaB X F q) : Ok (ev (n + 5) (.fn 3) [.agg (parow q)] S) TrueQ := by
  rw [ev, F3 _ _ _ (oL rfl)]
  simp only [J3, b3_entry, J3_j1, b3_j1, J3_j1_1, b3_j1_1, J3_j1_1_1, b3_j1_1_1, J3_j1_1_1_1, b3_j1_1_1_1, J3_j1_1_1_1_1, b3_j1_1_1_1_1, J3_j1_1_1_1_1_1, b3_j1_1_1_1_1_1, J3_j1_1_1_1_1_1_1, b3_j1_1_1_1_1_1_1, J3_j1_1_1_1_1_1_1_1, b3_j1_1_1_1_1_1_1_1, J3_j1_1_1_1_1_1_1_1_1, b3_j1_1_1_1_1_1_1_1_1, J3_j1_1_1_1_1_1_1_1_1_1, b3_j1_1_1_1_1_1_1_1_1_1]
  refine ok_ifO rfl (ok_newA h (fun b1 S1 h1 => ok_gO (ok_ldn h1 (by simp [parow]) (d := parow q) rfl ?_)))
  have hB1 : PaB X (C b1 (parow q) :: F) q := hB.mono (fun e he => by simp [he])
  obtain ⟨v, S2, e2, ⟨r, rfl, hr⟩, h2⟩ : Ok (evF E orcL (n + 4) (.fn 6) [.agg (parow q)] S1) _ := heavy_ok (n + 3) (by omega) hB1 h1
  rw [callB_of e2]
  refine ok_cond (fun _ => live2 (n + 3) S2 _ (ok_ret rfl)) (fun hc => ?_)
  obtain ⟨hT, hz⟩ := hr hc
  generalize hG : (C b1 (parow q) :: F : List Ent) = G at h2 hB1
  have hbG : C b1 (parow q) ∈ G := by rw [← hG]; simp
  refine ok_gO (okM_ldn h2 hbG (by simp [parow]) (d := erow q.e q.ea q.e.by_.length q.ec) rfl (ok_newA h2 (fun b11 S12 h12 => ok_ifO rfl (ok_stn h12 (by simp [erow]) (d := erow q.e q.ea q.e.by_.length q.ec) (by simp [splice, erow]) (fun S13 h13 => ?_)))))
  refine ok_newA h13 (fun b14 S15 h15 => ok_gO (okM_ldL h15 (c := parow q) (by simp [hbG]) rfl ?_))
  have h15' : Hp X S15 ([C b14 []] ++ (C b11 (erow q.e q.ea q.e.by_.length q.ec) :: G)) := h15
  have hs0 : SlG (some (.rw b14, 0)) 0 (.ex 0) 1 (bxs []) [C b14 []] := (SlR.of (xs := []) (by simp) rfl (.inl rfl)).g
  refine ok_bytes h15' hs0 (hB1.ve.mono (fun e he => by simp [he])) (by simp; exact hB.le) (fun a18 c18 L18 S19 hs18 h19 => ?_)
  rw [List.nil_append] at hs18 ⊢
  refine ok_gO (ok_stn h19 (by simp [erow]) (d := erow q.e a18 q.e.by_.length c18) (by simp [splice, erow]) (fun S21 h21 => ?_))
  refine ok_gO (ok_ldn h21 (by simp [erow]) (d := erow q.e a18 q.e.by_.length c18) rfl ?_)
  obtain ⟨v, S24, e24, a24, c24, L24, rfl, hs24, h24⟩ : Ok (evF E orcL (n + 4) (.fn 8) [.agg (erow q.e a18 q.e.by_.length c18)] S21) _ := putE_ok (n + 1) (by omega) hB.e h21 (slG_vw hs18 (fun e he => by simp [he]))
  rw [callT_of e24]
  refine ok_atL rfl (ok_atI rfl ?_)
  generalize hH : (L24 ++ (L18 ++ (C b11 (erow q.e a18 q.e.by_.length c18) :: G)) : List Ent) = M at h24
  have subM : ∀ e ∈ G, e ∈ M := fun e he => by rw [← hH]; simp [he]
  have v24 : Vw X M a24 (putE q.e).length c24 (putE q.e) := slG_vw hs24 (fun e he => by rw [← hH]; simp [he])
  have hBM : PaB X M q := hB1.mono subM
  refine ok_gO (okM_ldn h24 (subM _ hbG) (by simp [parow]) (d := erow q.e q.ea q.e.by_.length q.ec) rfl ?_)
  obtain ⟨v, S30, e30, a30, c30, L30, rfl, hs30, h30⟩ : Ok (evF E orcL (n + 4) (.fn 9) [.agg (erow q.e q.ea q.e.by_.length q.ec)] S24) _ := rputE_ok (n + 2) (by omega) hB.e h24 hBM.ve
  rw [callT_of e30]
  refine ok_atL rfl (ok_atI rfl ?_)
  refine ok_gO (okM_ldn h30 (c := parow q) (by simp [subM _ hbG]) (by simp [parow]) (d := srowS q.s) rfl ?_)
  obtain ⟨v, S36, e36, a36, c36, L36, rfl, hs36, h36⟩ : Ok (evF E orcL (n + 4) (.fn 10) [.agg (srowS q.s)] S30) _ := putS_ok (n + 1) (by omega) hB.s h30
  rw [callT_of e36]
  refine ok_atL rfl (ok_atI rfl ?_)
  refine ok_gO (okM_ldn h36 (c := parow q) (by simp [subM _ hbG]) (by simp [parow]) (d := srowS q.s) rfl ?_)
  obtain ⟨v, S42, e42, a42, c42, L42, rfl, hs42, h42⟩ : Ok (evF E orcL (n + 4) (.fn 11) [.agg (srowS q.s)] S36) _ := rputS_ok (n + 2) (by omega) hB.s h36
  rw [callT_of e42]
  refine ok_atL rfl (ok_atI rfl ?_)
  have hBN : PaB X (L42 ++ (L36 ++ (L30 ++ M))) q := hBM.mono (fun e he => by simp [he])
  refine ok_gO (okM_ldL h42 (c := parow q) (by simp [subM _ hbG]) rfl ?_)
  obtain ⟨v, S48, e48, ps, a48, c48, Lr, Ld, rfl, hP, hs48, hd48, h48⟩ : Ok (evF E orcL (n + 4) (.fn 13) [.sl q.ta q.t.length q.tc] S42) _ := own_ok (n + 3) (by omega) (by omega) h42 hBN.rt hBN.vt hBN.lt
  rw [callL_of e48]
  obtain ⟨v, S50, e50, a50, c50, L50, rfl, hs50, h50⟩ : Ok (evF E orcL (n + 4) (.fn 12) [.sl a48 ps.length c48] S48) _ := putT_ok (n + 1) (by omega) h48 (hs48.rd (fun e he => by simp [he])) (hd48.mono (fun e he => by simp [he]))
  rw [callT_of e50]
  rw [hP] at hs50 ⊢
  refine ok_atL rfl (ok_atI rfl ?_)
  refine ok_gO (okM_ldL h50 (c := parow q) (by simp [subM _ hbG]) rfl ?_)
  have hBO : PaB X (L50 ++ (Lr ++ (Ld ++ (L42 ++ (L36 ++ (L30 ++ M)))))) q := hBM.mono (fun e he => by simp [he])
  obtain ⟨v, S56, e56, a56, c56, L56, rfl, hs56, h56⟩ : Ok (evF E orcL (n + 4) (.fn 14) [.sl q.ta q.t.length q.tc] S50) _ := rputT_ok (n + 2) (by omega) h50 hBO.rt hBO.vt
  rw [callT_of e56]
  refine ok_atL rfl (ok_atI rfl ?_)
  -- all alike
  have w1 := v24.mono (M := L56 ++ (L50 ++ (Lr ++ (Ld ++ (L42 ++ (L36 ++ (L30 ++ M))))))) (fun e he => by simp [he])
  have w2 := slG_vw (X := X) (M := L56 ++ (L50 ++ (Lr ++ (Ld ++ (L42 ++ (L36 ++ (L30 ++ M))))))) hs30 (fun e he => by simp [he])
  have w3 := slG_vw (X := X) (M := L56 ++ (L50 ++ (Lr ++ (Ld ++ (L42 ++ (L36 ++ (L30 ++ M))))))) hs36 (fun e he => by simp [he])
  have w4 := slG_vw (X := X) (M := L56 ++ (L50 ++ (Lr ++ (Ld ++ (L42 ++ (L36 ++ (L30 ++ M))))))) hs42 (fun e he => by simp [he])
  have w5 := slG_vw (X := X) (M := L56 ++ (L50 ++ (Lr ++ (Ld ++ (L42 ++ (L36 ++ (L30 ++ M))))))) hs50 (fun e he => by simp [he])
  have w6 := slG_vw (X := X) (M := L56 ++ (L50 ++ (Lr ++ (Ld ++ (L42 ++ (L36 ++ (L30 ++ M))))))) hs56 (fun e he => by simp [he])
  rw [bytesStr_of w1.r h56 w1.ln, bytesStr_of w2.r h56 w2.ln]
  refine ok_false (by simp) ?_
  rw [callI_of (num_eq (n + 3) _ S56)]
  refine ok_false (by simp) ?_
  rw [bytesStr_of w3.r h56 w3.ln, bytesStr_of w4.r h56 w4.ln]
  refine ok_false (by simp) ?_
  rw [callI_of (num_eq (n + 3) _ S56)]
  refine ok_false (by simp) ?_
  rw [bytesStr_of w5.r h56 w5.ln, bytesStr_of w6.r h56 w6.ln]
  refine ok_false (by simp) ?_
  rw [callI_of (num_eq (n + 3) _ S56)]
  refine ok_false (by simp) ?_
  have hmm : C b1 (parow q) ∈ L56 ++ (L50 ++ (Lr ++ (Ld ++ (L42 ++ (L36 ++ (L30 ++ M)))))) := by simp [subM _ hbG]
  refine ok_gO (okM_ldI h56 hmm rfl ?_)
  rw [callI_of (need_eq (n + 3) _ S56)]
  refine ok_gO (okM_ldI h56 hmm rfl (okM_ldI h56 hmm rfl (ok_true (by simp [AV.beq]) ?_)))
  rw [callI_of (rneed_eq (n + 3) _ S56)]
  refine ok_false (by simp) ?_
  have hfin : Hp X S56 G := by
    have h1 : Hp X S56 M := h56.right.right.right.right.right.right.right
    rw [← hH] at h1
    exact h1.right.right.drop1
  rw [← hG] at hfin hB1
  exact blocks2 n _ hn hfin hB1

end

end Go.Jn
