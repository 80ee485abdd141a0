/- What the laws' helpers do with a heap: lists of puts copied and compared, entries compared, how many entries a transaction takes, whether there are too many bytes. -/
import Derived.Test.YtefpcbcbjnfhnaaJnT
set_option linter.unusedVariables false
set_option linter.unusedSimpArgs false
set_option maxRecDepth 4000
namespace Go.Jn
open Go.Gr

section
variable {X : Cx} {S : AS} {L F : List Ent} {b : Nat} {Q : AV → AS → Prop}

/-- Puts in memory of their own. -/
abbrev OQ (X : Cx) (F : List Ent) (l : List Pt) : AV → AS → Prop := fun v S' => ∃ (qs : List Pr) (a : Option Pos) (c : Cap) (Lr Ld : List Ent), v = .sl a qs.length c ∧ pts qs = l ∧ SlG a qs.length c 2 (prows qs) Lr ∧ PsV X Ld qs ∧ Hp X S' (Lr ++ (Ld ++ F))

theorem own_loop (n0 : Nat) (call : CallA) {ps : List Pr} {pa : Option Pos} {pc : Cap} (hps : ps.length ≤ 100) (hr : RdR X F pa (prows ps).flatten) (hv : PsV X F ps) (hB : ∀ p ∈ ps, p.d.length ≤ 1048576) :
    ∀ (m i : Nat) (qs : List Pr) (a : Option Pos) (c : Cap) (Lr Ld : List Ent) (S : AS), i ≤ ps.length → ps.length - i < m → pts qs = (pts ps).take i → SlG a qs.length c 2 (prows qs) Lr → PsV X Ld qs → Hp X S (Lr ++ (Ld ++ F)) →
      Ok (J13_l1_1_0_1_0 call n0 m pa ps.length pc a qs.length c i S) (OQ X F (pts ps))
  | 0, i, qs, a, c, Lr, Ld, S, hi, hm, hP, hs, hd, h => by omega
  | m + 1, i, qs, a, c, Lr, Ld, S, hi, hm, hP, hs, hd, h => by
    have hql : qs.length = i := by have := congrArg List.length hP; rw [List.length_take, pts_len, pts_len] at this; omega
    rw [J13_l1_1_0_1_0_succ]
    simp only [b13_l1_1_0_1_0]
    refine ok_cond (fun hc => ?_) (fun hc => ?_)
    · simp only [decide_eq_true_eq] at hc
      have hlt : i < ps.length := by omega
      obtain ⟨x, hx⟩ : ∃ x, ps[i]? = some x := ⟨_, List.getElem?_eq_getElem hlt⟩
      have hxm := List.mem_of_getElem? hx
      obtain ⟨q, hq⟩ := ps_some hr hlt
      have hr0 : RdR X F (some q) (prows ps).flatten := by rw [← hq]; exact hr
      refine ok_drawA h [6, 14] (by decide) (by simp) (fun b1 S1 h1 => ?_)
      have h1' : Hp X S1 ((b1 + 6, none) :: (b1 + 14, none) :: (Lr ++ (Ld ++ F))) := h1
      rw [show ixSl 2 pa ps.length (i : Int) = ixSl 2 (some q) ps.length (i : Int) by rw [hq]]
      rw [ixSl_at rfl hlt, pf_I (hr0.mono (fun e he => by simp [he])) h1' hx, ixSl_at rfl hlt, pf_L (hr0.mono (fun e he => by simp [he])) h1' hx]
      refine ok_layA (b := b1 + 6) h1' (fun S2 h2 => ?_)
      have h2' : Hp X S2 ([C (b1 + 6) []] ++ ((b1 + 14, none) :: (Lr ++ (Ld ++ F)))) := h2
      have hs0 : SlG (some (.rw (b1 + 6), 0)) 0 (.ex 0) 1 (bxs []) [C (b1 + 6) []] := (SlR.of (xs := []) (by simp) rfl (.inl rfl)).g
      refine ok_bytes h2' hs0 ((hv x hxm).mono (fun e he => by simp [he])) (by simp; exact hB x hxm) (fun a3 c3 L3 S3 hs3 h3 => ?_)
      rw [List.nil_append] at hs3 ⊢
      rw [pf_I (hr0.mono (fun e he => by simp [he])) h3 hx]
      refine ok_true (by simp [AV.beq]) (ok_layA (b := b1 + 14) h3 (fun S4 h4 => ?_))
      have h4' : Hp X S4 (Lr ++ (C (b1 + 14) (prow ⟨x.b, a3, c3, x.d⟩) :: ((L3 ++ Ld) ++ F))) := h4.re (by intro p; simp only [List.countP_append, List.countP_cons, C, prow]; omega)
      refine row_push (by omega) hs h4' (fun a5 c5 L5 S5 hs5 h5 => ?_)
      rw [wn (x := (i : Int) + 1) (n := i + 1) (by omega) (by omega)]
      refine own_loop n0 call hps hr hv hB m (i + 1) _ a5 c5 L5 (L3 ++ Ld) S5 (by omega) (by omega) ?_ hs5 (fun p hp => ?_) h5
      · rw [pts_append, hP, List.take_add_one, pts_at hx]; rfl
      · rcases List.mem_append.1 hp with hp | hp
        · exact (hd p hp).mono (fun e he => by simp [he])
        · simp only [List.mem_singleton] at hp
          subst hp
          exact slG_vw hs3 (fun e he => by simp [he])
    · simp only [decide_eq_false_iff_not] at hc
      rw [List.take_of_length_le (by simp; omega)] at hP
      exact ok_ret ⟨qs, a, c, Lr, Ld, rfl, hP, hs, hd, h⟩

theorem own_ok (n : Nat) (hn : 200 < n) {ps : List Pr} {pa : Option Pos} {pc : Cap} (hps : ps.length ≤ 100) (h : Hp X S F) (hr : RdR X F pa (prows ps).flatten) (hv : PsV X F ps) (hB : ∀ p ∈ ps, p.d.length ≤ 1048576) :
    Ok (ev (n + 1) (.fn 13) [.sl pa ps.length pc] S) (OQ X F (pts ps)) := by
  rw [ev, F13 _ _ _ _ _ (oL rfl)]
  simp only [J13, b13_entry]
  exact own_loop n (evF E orcL n) hps hr hv hB n 0 [] none (.ex 0) [] [] S (by omega) (by omega) rfl (by exact (SlG.nil : SlG none 0 (.ex 0) 2 [] [])) (fun p hp => by cases hp) h

theorem same_loop (n0 : Nat) (call : CallA) {ps qs : List Pr} {pa qa : Option Pos} {pc qc : Cap} (hps : ps.length ≤ 100) (he : pts ps = pts qs) (hr : RdR X L pa (prows ps).flatten) (hv : PsV X L ps) (hr2 : RdR X L qa (prows qs).flatten) (hv2 : PsV X L qs) (h : Hp X S L) :
    ∀ (m i : Nat) (w : Bool), i ≤ ps.length → ps.length - i < m → Ok (J25_l1_1_0_1_0 call n0 m pa ps.length pc qa qs.length qc w i S) fun v S' => v = .bool true ∧ S' = S
  | 0, i, w, hi, hm => by omega
  | m + 1, i, w, hi, hm => by
    have hll : ps.length = qs.length := by have := congrArg List.length he; simpa using this
    rw [J25_l1_1_0_1_0_succ]
    simp only [b25_l1_1_0_1_0]
    refine ok_cond (fun hc => ?_) (fun hc => ok_ret ⟨rfl, rfl⟩)
    simp only [decide_eq_true_eq] at hc
    have hlt : i < ps.length := by omega
    have hlt2 : i < qs.length := by omega
    obtain ⟨x, hx⟩ : ∃ x, ps[i]? = some x := ⟨_, List.getElem?_eq_getElem hlt⟩
    obtain ⟨y, hy⟩ : ∃ y, qs[i]? = some y := ⟨_, List.getElem?_eq_getElem hlt2⟩
    have hxy : x.pt = y.pt := by
      have h1 := pts_at hx
      have h2 := pts_at hy
      rw [he, h2] at h1
      exact (Option.some.inj h1).symm
    have hb : x.b = y.b := congrArg Pt.b hxy
    have hd : x.d = y.d := congrArg Pt.d hxy
    obtain ⟨p, rfl⟩ := ps_some hr hlt
    obtain ⟨q, rfl⟩ := ps_some hr2 hlt2
    have vx := hv x (List.mem_of_getElem? hx)
    have vy := hv2 y (List.mem_of_getElem? hy)
    rw [ixSl_at rfl hlt, pf_I hr h hx, ixSl_at rfl hlt2, pf_I hr2 h hy]
    refine ok_false (by simp [hb]) ?_
    rw [ixSl_at rfl hlt, pf_L hr h hx, bytesStr_of vx.r h vx.ln, ixSl_at rfl hlt2, pf_L hr2 h hy, bytesStr_of vy.r h vy.ln]
    refine ok_false (by simp [hd]) ?_
    rw [wn (x := (i : Int) + 1) (n := i + 1) (by omega) (by omega)]
    exact same_loop n0 call hps he hr hv hr2 hv2 h m (i + 1) w (by omega) (by omega)

theorem same_eq (n : Nat) (hn : 200 < n) {ps qs : List Pr} {pa qa : Option Pos} {pc qc : Cap} (hps : ps.length ≤ 100) (he : pts ps = pts qs) (hr : RdR X L pa (prows ps).flatten) (hv : PsV X L ps) (hr2 : RdR X L qa (prows qs).flatten) (hv2 : PsV X L qs) (h : Hp X S L) :
    ev (n + 1) (.fn 25) [.sl pa ps.length pc, .sl qa qs.length qc] S = some (.bool true, S) := by
  have hll : ps.length = qs.length := by have := congrArg List.length he; simpa using this
  apply ok_eq
  rw [ev, F25 _ _ _ _ _ _ _ _ (oL rfl)]
  simp only [J25, b25_entry]
  exact ok_false (by simp [hll]) (same_loop n (evF E orcL n) hps he hr hv hr2 hv2 h n 0 false (by omega) (by omega))

theorem sameE_ok (n : Nat) {e : Le} {a a2 : Option Pos} {l l2 : Nat} {c c2 : Cap} (h : Hp X S F) (hv : Vw X F a l c e.by_) (hv2 : Vw X F a2 l2 c2 e.by_) :
    Ok (ev (n + 1) (.fn 24) [.agg (erow e a l c), .agg (erow e a2 l2 c2)] S) fun v S' => v = .bool true ∧ Hp X S' F := by
  rw [ev, F24 _ _ _ _ (oL rfl)]
  simp only [J24, b24_entry]
  refine ok_ifO rfl (ok_newA h (fun b1 S1 h1 => ok_ifO rfl (ok_newA h1 (fun b2 S2 h2 => ?_))))
  refine ok_ldI h2 rfl (ok_ldI h2 rfl (ok_true (by simp) (ok_ldI h2 rfl (ok_ldI h2 rfl (ok_true (by simp) (ok_ldI h2 rfl (ok_ldI h2 rfl (ok_true (by simp) (ok_ldI h2 rfl (ok_ldI h2 rfl (ok_true (by simp) (ok_ldI h2 rfl (ok_ldI h2 rfl (ok_true (by simp) (ok_ldI h2 rfl (ok_ldI h2 rfl (ok_true (by simp) (ok_ldL h2 rfl ?_))))))))))))))))))
  have v1 := hv.mono (M := C b2 (erow e a2 l2 c2) :: C b1 (erow e a l c) :: F) (fun x hx => by simp [hx])
  have v2 := hv2.mono (M := C b2 (erow e a2 l2 c2) :: C b1 (erow e a l c) :: F) (fun x hx => by simp [hx])
  rw [bytesStr_of v1.r h2 v1.ln]
  refine ok_ldL h2 rfl ?_
  rw [bytesStr_of v2.r h2 v2.ln]
  exact ok_ret ⟨by simp, h2.drop1.drop1⟩

theorem need_eq (n : Nat) (x : Int) (S : AS) : ev (n + 1) (.fn 16) [.int .i64 x] S = some (.int .i64 (needI x), S) := by
  apply ok_eq
  rw [ev, F16 _ _ _ (oL rfl)]
  simp only [J16, b16_entry]
  refine ok_cond (fun c1 => ok_ret ⟨?_, rfl⟩) (fun c1 => ok_cond (fun c2 => ok_ret ⟨?_, rfl⟩) (fun c2 => ok_ret ⟨?_, rfl⟩))
  · simp only [decide_eq_true_eq] at c1; rw [needI, if_pos (by omega)]
  · simp only [gt_iff_lt, decide_eq_true_eq] at c2; rw [needI, if_pos (by omega)]
  · simp only [gt_iff_lt, decide_eq_false_iff_not] at c1 c2
    rw [wz (x := x * 388) rfl (by omega) (by omega), wz (x := 4 + x * 388) rfl (by omega) (by omega), wz (x := 4 + x * 388 + 336) rfl (by omega) (by omega), wz (x := 4 + x * 388 + 336 - 1) rfl (by omega) (by omega)]
    rw [Int.tdiv_eq_ediv_of_nonneg (by omega), wz (z := needI x) ?_ (by rw [needI, if_neg (by omega)]; omega) (by rw [needI, if_neg (by omega)]; omega)]
    rw [needI, if_neg (by omega)]
    congr 1
    omega
theorem rneed_eq (n : Nat) (x : Int) (S : AS) : ev (n + 1) (.fn 17) [.int .i64 x] S = some (.int .i64 (needI x), S) := by
  apply ok_eq
  rw [ev, F17 _ _ _ (oL rfl)]
  simp only [J17, b17_entry]
  refine ok_cond (fun c1 => ok_ret ⟨?_, rfl⟩) (fun c1 => ok_cond (fun c2 => ok_ret ⟨?_, rfl⟩) (fun c2 => ok_ret ⟨?_, rfl⟩))
  · simp only [decide_eq_true_eq] at c1; rw [needI, if_pos (by omega)]
  · simp only [gt_iff_lt, decide_eq_true_eq] at c2; rw [needI, if_pos (by omega)]
  · simp only [gt_iff_lt, decide_eq_false_iff_not] at c1 c2
    rw [wz (x := 388 * x) rfl (by omega) (by omega), wz (x := 4 + 388 * x) rfl (by omega) (by omega), wz (x := 4 + 388 * x + 336) rfl (by omega) (by omega), wz (x := 4 + 388 * x + 336 - 1) rfl (by omega) (by omega)]
    rw [Int.tdiv_eq_ediv_of_nonneg (by omega), wz (z := needI x) ?_ (by rw [needI, if_neg (by omega)]; omega) (by rw [needI, if_neg (by omega)]; omega)]
    rw [needI, if_neg (by omega)]
    congr 1
    omega

/-- What the law is called with. -/
structure Parts where
  e : Le
  ea : Option Pos
  ec : Cap
  s : Su
  ta : Option Pos
  tc : Cap
  t : List Pr
  ba : Option Pos
  bc : Cap
  b : List UInt8
  n : Int
def parow (p : Parts) : List AV := [.int .u64 p.e.bo, .int .u64 p.e.se, .int .u64 p.e.po, .int .u64 p.e.ls, .int .i64 p.e.pa, .int .i64 p.e.ps, .sl p.ea p.e.by_.length p.ec, .int .u64 p.s.g, .int .u64 p.s.bo, .int .u64 p.s.po, .int .u64 p.s.ls, .int .u64 p.s.ab, .int .u64 p.s.as_, .sl p.ta p.t.length p.tc, .sl p.ba p.b.length p.bc, .int .i64 p.n]
structure PaB (X : Cx) (F : List Ent) (p : Parts) : Prop where
  e : LeB p.e
  ve : Vw X F p.ea p.e.by_.length p.ec p.e.by_
  s : ∀ y ∈ p.s.l, u64B y
  rt : RdR X F p.ta (prows p.t).flatten
  vt : PsV X F p.t
  vb : Vw X F p.ba p.b.length p.bc p.b
  le : p.e.by_.length ≤ 1048576
  lt : ∀ x ∈ p.t, x.d.length ≤ 1048576
  lb : p.b.length ≤ 1048576

def szs (l : List Pr) (i : Nat) : Nat := ((l.take i).map fun p => p.d.length).sum
theorem szs_succ {l : List Pr} {i : Nat} {y : Pr} (h : l[i]? = some y) : szs l (i + 1) = szs l i + y.d.length := by
  rw [szs, List.take_add_one, h, List.map_append, List.sum_append]; simp [szs]

theorem heavy_loop (n0 : Nat) (call : CallA) {q : Parts} {b1 : Nat} {k0 : Nat} (hk0 : k0 = q.e.by_.length + q.b.length) (hB : PaB X F q) (h : Hp X S (C b1 (parow q) :: F)) :
    ∀ (m i : Nat), i ≤ q.t.length → i ≤ 100 → 100 - i < m → szs q.t i ≤ i * 1048576 → Ok (J6_l1_1_0_1_0 call n0 m (some (.rw b1, 0)) ((k0 + szs q.t i : Nat) : Int) i S) fun v S' => (∃ r : Bool, v = .bool r ∧ (r = false → q.t.length < 100 ∧ k0 ≤ 60000)) ∧ Hp X S' F
  | 0, i, hi, h100, hm, hw => by omega
  | m + 1, i, hi, h100, hm, hw => by
    have l1 := hB.le
    have l2 := hB.lb
    rw [J6_l1_1_0_1_0_succ]
    simp only [b6_l1_1_0_1_0, J6_j1_1_1, b6_j1_1_1]
    have fin : Ok (cond (decide (((k0 + szs q.t i : Nat) : Int) > 60000)) (some (AV.bool true, S)) (gO (some (Bid.rw b1, 0)) fun p11 => ldL S p11.1 (p11.2 + 13) fun v12a v12l v12c => some (AV.bool (decide (((v12l : Nat) : Int) ≥ 100)), S))) fun v S' => (∃ r : Bool, v = .bool r ∧ (r = false → q.t.length < 100 ∧ k0 ≤ 60000)) ∧ Hp X S' F := by
      refine ok_cond (fun hc => ok_ret ⟨⟨true, rfl, by simp⟩, h.drop1⟩) (fun hc => ok_gO (ok_ldL h rfl (ok_ret ⟨⟨_, rfl, fun he => ?_⟩, h.drop1⟩)))
      simp only [gt_iff_lt, ge_iff_le, decide_eq_false_iff_not] at hc he
      omega
    refine ok_gO (ok_ldL h rfl (ok_cond (fun hc => ok_cond (fun hc2 => ?_) (fun hc2 => fin)) (fun hc => fin)))
    simp only [decide_eq_true_eq] at hc hc2
    have hlt : i < q.t.length := by omega
    obtain ⟨x, hx⟩ : ∃ x, q.t[i]? = some x := ⟨_, List.getElem?_eq_getElem hlt⟩
    have hxl := hB.lt x (List.mem_of_getElem? hx)
    have hr : RdR X (C b1 (parow q) :: F) q.ta (prows q.t).flatten := hB.rt.mono (fun e he => by simp [he])
    obtain ⟨p, hp⟩ := ps_some hr hlt
    rw [hp] at hr
    refine ok_gO (ok_ldL h rfl ?_)
    rw [hp, ixSl_at rfl hlt, pf_L hr h hx]
    have hs := szs_succ hx
    rw [wn (x := (i : Int) + 1) (n := i + 1) (by omega) (by omega), wn (x := ((k0 + szs q.t i : Nat) : Int) + (x.d.length : Nat)) (n := k0 + szs q.t (i + 1)) (by omega) (by omega)]
    exact heavy_loop n0 call hk0 hB h m (i + 1) (by omega) (by omega) (by omega) (by omega)

theorem heavy_ok (n : Nat) (hn : 200 < n) {q : Parts} (hB : PaB X F q) (h : Hp X S F) :
    Ok (ev (n + 1) (.fn 6) [.agg (parow q)] S) fun v S' => (∃ r : Bool, v = .bool r ∧ (r = false → q.t.length < 100 ∧ q.e.by_.length + q.b.length ≤ 60000)) ∧ Hp X S' F := by
  have l1 := hB.le
  have l2 := hB.lb
  rw [ev, F6 _ _ _ (oL rfl)]
  simp only [J6, b6_entry]
  refine ok_ifO rfl (ok_newA h (fun b1 S1 h1 => ok_ldL h1 rfl (ok_ldL h1 rfl ?_)))
  rw [wn (x := ((q.e.by_.length : Nat) : Int) + ((q.b.length : Nat) : Int)) (n := q.e.by_.length + q.b.length + szs q.t 0) (by simp [szs]) (by simp [szs]; omega)]
  exact heavy_loop n (evF E orcL n) rfl hB h1 n 0 (by omega) (by omega) (by omega) (by simp [szs])

end

end Go.Jn
