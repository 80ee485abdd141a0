/- What the laws' helpers do with a heap: lists of puts copied and compared, entries compared, how many entries a transaction takes, whether there are too many bytes. -/
import Derived.Test.YtcepfilbiahdjaaJnT
set_option linter.unusedVariables false
set_option linter.unusedSimpArgs false
set_option maxRecDepth 4000
namespace Go.Jn
open Go.Gr

section
variable {X : Cx} {S : AS} {L F : List Ent} {b : Nat} {Q : AV → AS → Prop}

/-- Puts in memory of their own. -/
abbrev OQ (X : Cx) (F : List Ent) (l : List Pt) : AV → AS → Prop := fun v S' => ∃ (qs : List Pr) (a : Option Pos) (c : Cap) (Lr Ld : List Ent), v = .sl a qs.length c ∧ pts qs = l ∧ SlG a qs.length c 2 (prows qs) Lr ∧ PsV X Ld qs ∧ Hp X S' (Lr ++ (Ld ++ F))

theorem own_loop (n0 : Nat) (call : CallA) {ps : List Pr} {pa : Option Pos} {pc : Cap} (hps : ps.length ≤ 1000) (hr : RdR X F pa (prows ps).flatten) (hv : PsV X F ps) (hB : ∀ p ∈ ps, p.d.length ≤ 1048576) :
    ∀ (m i : Nat) (qs : List Pr) (a : Option Pos) (c : Cap) (Lr Ld : List Ent) (S : AS), i ≤ ps.length → ps.length - i < m → pts qs = (pts ps).take i → SlG a qs.length c 2 (prows qs) Lr → PsV X Ld qs → Hp X S (Lr ++ (Ld ++ F)) →
      Ok (J12_l1_1_0_1_0 call n0 m pa ps.length pc a qs.length c i S) (OQ X F (pts ps))
  | 0, i, qs, a, c, Lr, Ld, S, hi, hm, hP, hs, hd, h => by omega
  | m + 1, i, qs, a, c, Lr, Ld, S, hi, hm, hP, hs, hd, h => by
    have hql : qs.length = i := by have := congrArg List.length hP; rw [List.length_take, pts_len, pts_len] at this; omega
    rw [J12_l1_1_0_1_0_succ]
    simp only [b12_l1_1_0_1_0]
    refine ok_cond (fun hc => ?_) (fun hc => ?_)
    · simp only [decide_eq_true_eq] at hc
      have hlt : i < ps.length := by omega
      obtain ⟨x, hx⟩ : ∃ x, ps[i]? = some x := ⟨_, List.getElem?_eq_getElem hlt⟩
      have hxm := List.mem_of_getElem? hx
      obtain ⟨q, hq⟩ := ps_some hr hlt
      have hr0 : RdR X F (some q) (prows ps).flatten := by rw [← hq]; exact hr
      refine ok_drawA h [6, 14] (by decide) (by simp) (fun b1 S1 h1 => ?_)
      have h1' : Hp X S1 ((b1 + 6, none) :: (b1 + 14, none) :: (Lr ++ (Ld ++ F))) := h1
      rw [show ixSl 2 pa ps.length (i : Int) = ixSl 2 (some q) ps.length (i : Int) by rw [hq]]
      rw [ixSl_at rfl hlt, pf_I (hr0.mono (fun e he => by simp [he])) h1' hx, ixSl_at rfl hlt, pf_L (hr0.mono (fun e he => by simp [he])) h1' hx]
      refine ok_layA (b := b1 + 6) h1' (fun S2 h2 => ?_)
      have h2' : Hp X S2 ([C (b1 + 6) []] ++ ((b1 + 14, none) :: (Lr ++ (Ld ++ F)))) := h2
      have hs0 : SlG (some (.rw (b1 + 6), 0)) 0 (.ex 0) 1 (bxs []) [C (b1 + 6) []] := (SlR.of (xs := []) (by simp) rfl (.inl rfl)).g
      refine ok_bytes h2' hs0 ((hv x hxm).mono (fun e he => by simp [he])) (by simp; exact hB x hxm) (fun a3 c3 L3 S3 hs3 h3 => ?_)
      rw [List.nil_append] at hs3 ⊢
      rw [pf_I (hr0.mono (fun e he => by simp [he])) h3 hx]
      refine ok_true (by simp [AV.beq]) (ok_layA (b := b1 + 14) h3 (fun S4 h4 => ?_))
      have h4' : Hp X S4 (Lr ++ (C (b1 + 14) (prow ⟨x.b, a3, c3, x.d⟩) :: ((L3 ++ Ld) ++ F))) := h4.re (by intro p; simp only [List.countP_append, List.countP_cons, C, prow]; omega)
      refine row_push (by omega) hs h4' (fun a5 c5 L5 S5 hs5 h5 => ?_)
      rw [wn (x := (i : Int) + 1) (n := i + 1) (by omega) (by omega)]
      refine own_loop n0 call hps hr hv hB m (i + 1) _ a5 c5 L5 (L3 ++ Ld) S5 (by omega) (by omega) ?_ hs5 (fun p hp => ?_) h5
      · rw [pts_append, hP, List.take_add_one, pts_at hx]; rfl
      · rcases List.mem_append.1 hp with hp | hp
        · exact (hd p hp).mono (fun e he => by simp [he])
        · simp only [List.mem_singleton] at hp
          subst hp
          exact slG_vw hs3 (fun e he => by simp [he])
    · simp only [decide_eq_false_iff_not] at hc
      rw [List.take_of_length_le (by simp; omega)] at hP
      exact ok_ret ⟨qs, a, c, Lr, Ld, rfl, hP, hs, hd, h⟩

theorem own_ok (n : Nat) (hn : 2000 < n) {ps : List Pr} {pa : Option Pos} {pc : Cap} (hps : ps.length ≤ 1000) (h : Hp X S F) (hr : RdR X F pa (prows ps).flatten) (hv : PsV X F ps) (hB : ∀ p ∈ ps, p.d.length ≤ 1048576) :
    Ok (ev (n + 1) (.fn 12) [.sl pa ps.length pc] S) (OQ X F (pts ps)) := by
  rw [ev, F12 _ _ _ _ _ (oL rfl)]
  simp only [J12, b12_entry]
  exact own_loop n (evF E orcL n) hps hr hv hB n 0 [] none (.ex 0) [] [] S (by omega) (by omega) rfl (by exact (SlG.nil : SlG none 0 (.ex 0) 2 [] [])) (fun p hp => by cases hp) h

theorem same_loop (n0 : Nat) (call : CallA) {ps qs : List Pr} {pa qa : Option Pos} {pc qc : Cap} (hps : ps.length ≤ 1000) (he : pts ps = pts qs) (hr : RdR X L pa (prows ps).flatten) (hv : PsV X L ps) (hr2 : RdR X L qa (prows qs).flatten) (hv2 : PsV X L qs) (h : Hp X S L) :
    ∀ (m i : Nat) (w : Bool), i ≤ ps.length → ps.length - i < m → Ok (J55_l1_1_0_1_0 call n0 m pa ps.length pc qa qs.length qc w i S) fun v S' => v = .bool true ∧ S' = S
  | 0, i, w, hi, hm => by omega
  | m + 1, i, w, hi, hm => by
    have hll : ps.length = qs.length := by have := congrArg List.length he; simpa using this
    rw [J55_l1_1_0_1_0_succ]
    simp only [b55_l1_1_0_1_0]
    refine ok_cond (fun hc => ?_) (fun hc => ok_ret ⟨rfl, rfl⟩)
    simp only [decide_eq_true_eq] at hc
    have hlt : i < ps.length := by omega
    have hlt2 : i < qs.length := by omega
    obtain ⟨x, hx⟩ : ∃ x, ps[i]? = some x := ⟨_, List.getElem?_eq_getElem hlt⟩
    obtain ⟨y, hy⟩ : ∃ y, qs[i]? = some y := ⟨_, List.getElem?_eq_getElem hlt2⟩
    have hxy : x.pt = y.pt := by
      have h1 := pts_at hx
      have h2 := pts_at hy
      rw [he, h2] at h1
      exact (Option.some.inj h1).symm
    have hb : x.b = y.b := congrArg Pt.b hxy
    have hd : x.d = y.d := congrArg Pt.d hxy
    obtain ⟨p, rfl⟩ := ps_some hr hlt
    obtain ⟨q, rfl⟩ := ps_some hr2 hlt2
    have vx := hv x (List.mem_of_getElem? hx)
    have vy := hv2 y (List.mem_of_getElem? hy)
    rw [ixSl_at rfl hlt, pf_I hr h hx, ixSl_at rfl hlt2, pf_I hr2 h hy]
    refine ok_false (by simp [hb]) ?_
    rw [ixSl_at rfl hlt, pf_L hr h hx, bytesStr_of vx.r h vx.ln, ixSl_at rfl hlt2, pf_L hr2 h hy, bytesStr_of vy.r h vy.ln]
    refine ok_false (by simp [hd]) ?_
    rw [wn (x := (i : Int) + 1) (n := i + 1) (by omega) (by omega)]
    exact same_loop n0 call hps he hr hv hr2 hv2 h m (i + 1) w (by omega) (by omega)

theorem same_eq (n : Nat) (hn : 2000 < n) {ps qs : List Pr} {pa qa : Option Pos} {pc qc : Cap} (hps : ps.length ≤ 1000) (he : pts ps = pts qs) (hr : RdR X L pa (prows ps).flatten) (hv : PsV X L ps) (hr2 : RdR X L qa (prows qs).flatten) (hv2 : PsV X L qs) (h : Hp X S L) :
    ev (n + 1) (.fn 55) [.sl pa ps.length pc, .sl qa qs.length qc] S = some (.bool true, S) := by
  have hll : ps.length = qs.length := by have := congrArg List.length he; simpa using this
  apply ok_eq
  rw [ev, F55 _ _ _ _ _ _ _ _ (oL rfl)]
  simp only [J55, b55_entry]
  exact ok_false (by simp [hll]) (same_loop n (evF E orcL n) hps he hr hv hr2 hv2 h n 0 false (by omega) (by omega))

theorem need_eq (n : Nat) (x : Int) (S : AS) : ev (n + 1) (.fn 10) [.int .i64 x] S = some (.int .i64 (needI x), S) := by
  apply ok_eq
  rw [ev, F10 _ _ _ (oL rfl)]
  simp only [J10, b10_entry]
  refine ok_cond (fun c1 => ok_ret ⟨?_, rfl⟩) (fun c1 => ok_cond (fun c2 => ok_ret ⟨?_, rfl⟩) (fun c2 => ok_ret ⟨?_, rfl⟩))
  · simp only [decide_eq_true_eq] at c1; rw [needI, if_pos (by omega)]
  · simp only [gt_iff_lt, decide_eq_true_eq] at c2; rw [needI, if_pos (by omega)]
  · simp only [gt_iff_lt, decide_eq_false_iff_not] at c1 c2
    rw [wz (x := x * 388) rfl (by omega) (by omega), wz (x := 4 + x * 388) rfl (by omega) (by omega), wz (x := 4 + x * 388 + 336) rfl (by omega) (by omega), wz (x := 4 + x * 388 + 336 - 1) rfl (by omega) (by omega)]
    rw [Int.tdiv_eq_ediv_of_nonneg (by omega), wz (z := needI x) ?_ (by rw [needI, if_neg (by omega)]; omega) (by rw [needI, if_neg (by omega)]; omega)]
    rw [needI, if_neg (by omega)]
    congr 1
    omega

end

end Go.Jn
