/- What the codec of package journal does with a heap: transactions, there and back; lists of puts copied and compared. -/
import Derived.Test.YtcepfilbiahdjaaJnS
set_option linter.unusedVariables false
set_option linter.unusedSimpArgs false
set_option maxRecDepth 4000
namespace Go.Jn
open Go.Gr

/-- A put as it lies. -/
structure Pr where
  b : Int
  a : Option Pos
  c : Cap
  d : List UInt8
def Pr.pt (p : Pr) : Pt := ⟨p.b, p.d⟩
def pts (l : List Pr) : List Pt := l.map Pr.pt
@[simp] theorem pts_len (l : List Pr) : (pts l).length = l.length := by simp [pts]
def prow (p : Pr) : List AV := [.int .i64 p.b, .sl p.a p.d.length p.c]
def prows (l : List Pr) : List (List AV) := l.map prow
@[simp] theorem prows_len (l : List Pr) : (prows l).length = l.length := by simp [prows]
theorem prows_all (l : List Pr) : ∀ x ∈ prows l, x.length = 2 := fun x hx => by
  obtain ⟨s, _, rfl⟩ := List.mem_map.1 hx; rfl
theorem prows_at {l : List Pr} {i : Nat} {s : Pr} (h : l[i]? = some s) : (prows l)[i]? = some (prow s) := by
  rw [prows, List.getElem?_map, h]; rfl
theorem pts_at {l : List Pr} {i : Nat} {s : Pr} (h : l[i]? = some s) : (pts l)[i]? = some s.pt := by
  rw [pts, List.getElem?_map, h]; rfl
theorem prows_append (l m : List Pr) : prows (l ++ m) = prows l ++ prows m := by simp [prows]
theorem pts_append (l m : List Pr) : pts (l ++ m) = pts l ++ pts m := by simp [pts]
def PsV (X : Cx) (L : List Ent) (ps : List Pr) : Prop := ∀ p ∈ ps, Vw X L p.a p.d.length p.c p.d
theorem PsV.mono {X : Cx} {L M : List Ent} {ps : List Pr} (h : PsV X L ps) (k : ∀ e ∈ L, e ∈ M) : PsV X M ps := fun p hp => (h p hp).mono k

theorem rd_ldL {X : Cx} {S : AS} {L : List Ent} {p : Pos} {cs : List AV} (h : RdR X L (some p) cs) (hp : Hp X S L) {i : Nat} {a : Option Pos} {l : Nat} {c : Cap} (hi : cs[i]? = some (.sl a l c)) {K : Option Pos → Nat → Cap → Option (AV × AS)} : Go.Gr.ldL S p.1 (p.2 + i) K = K a l c := by
  have hlt : i < cs.length := (List.getElem?_eq_some_iff.1 hi).1
  cases h with
  | rw hm hl hc =>
    rename_i b0 i0 c0
    have e : c0[i0 + i]? = some (.sl a l c) := by rw [← hi, ← hc, List.getElem?_take_of_lt (by omega), List.getElem?_drop]
    simp only [Go.Gr.ldL, AS.ld_eq, AS.blk, hp.got _ _ hm, e, gL]
  | ro hm hl hc =>
    rename_i b0 i0 c0
    have e : c0[i0 + i]? = some (.sl a l c) := by rw [← hi, ← hc, List.getElem?_take_of_lt (by omega), List.getElem?_drop]
    simp only [Go.Gr.ldL, AS.ld_eq, AS.blk, hp.ro, hm, e, gL]

section
variable {X : Cx} {S : AS} {L F : List Ent} {b : Nat} {Q : AV → AS → Prop}

theorem pf_I {ps : List Pr} {i : Nat} {y : Pr} {p : Pos} {K : Int → Option (AV × AS)} (h : RdR X L (some p) (prows ps).flatten) (hp : Hp X S L) (hi : ps[i]? = some y) : ldI .i64 S p.1 (p.2 + i * 2) K = K y.b := by
  have := h.ldI hp (i := i * 2 + 0) (k := .i64) (v := y.b) (by rw [flat_get (prows_all ps) (prows_at hi) (by decide)]; rfl) (K := K)
  exact this
theorem pf_L {ps : List Pr} {i : Nat} {y : Pr} {p : Pos} {K : Option Pos → Nat → Cap → Option (AV × AS)} (h : RdR X L (some p) (prows ps).flatten) (hp : Hp X S L) (hi : ps[i]? = some y) : ldL S p.1 (p.2 + i * 2 + 1) K = K y.a y.d.length y.c := by
  rw [Nat.add_assoc]
  exact rd_ldL h hp (by rw [flat_get (prows_all ps) (prows_at hi) (by decide)]; rfl)
theorem ps_some {a : Option Pos} {ps : List Pr} {i : Nat} (h : RdR X L a (prows ps).flatten) (hi : i < ps.length) : ∃ p, a = some p :=
  h.some_of (by intro he; have := congrArg List.length he; rw [flat_len (prows_all ps), prows_len] at this; simp at this; omega)

theorem okP_iff (p : Pt) : okP p = true ↔ 0 ≤ p.b ∧ p.b < 2147483648 ∧ p.d.length = 384 := by simp [okP, and_assoc]
theorem okP_false {p : Pr} (h : ¬ (0 ≤ p.b ∧ p.b < 2147483648 ∧ p.d.length = 384)) : okP p.pt = false := by
  cases hk : okP p.pt with
  | false => rfl
  | true => exact absurd ((okP_iff _).1 hk) h
theorem okT_false {l : List Pt} {i : Nat} {p : Pt} (h : l[i]? = some p) (hp : okP p = false) : okT l = false := by
  have : l.all okP = false := by
    rw [List.all_eq_false]
    exact ⟨p, List.mem_of_getElem? h, by simp [hp]⟩
  simp [okT, this]
theorem encPs_take {l : List Pt} {i : Nat} {x : Pt} (h : l[i]? = some x) : encPs (l.take (i + 1)) = encPs (l.take i) ++ (be 4 x.b.toNat ++ x.d) := by
  rw [List.take_add_one, h, encPs_append]
  simp [encPs]

theorem t_loop (n0 n : Nat) (hn : 100 < n) {ps : List Pr} {pa w2a : Option Pos} {pc w2c : Cap} {w2l : Nat} {w3 : Int} (hps : ps.length ≤ 64) (h1ps : 1 ≤ ps.length) (hr : RdR X F pa (prows ps).flatten) (hv : PsV X F ps) :
    ∀ (m i : Nat) (a : Option Pos) (l : Nat) (c : Cap) (L : List Ent) (S : AS), i ≤ ps.length → ps.length - i < m → (∀ p ∈ (pts ps).take i, okP p = true) → SlG a l c 1 (bxs (be 4 ps.length ++ encPs ((pts ps).take i))) L → Hp X S (L ++ F) →
      Ok (J33_l1_1_1_0_1_0 (evF E orcL (n + 2)) n0 m w2a w2l w2c w3 a l c pa ps.length pc ps.length i S) (BQ X F (putT (pts ps)) (putTe (pts ps)))
  | 0, i, a, l, c, L, S, hi, hm, hg, hs, h => by omega
  | m + 1, i, a, l, c, L, S, hi, hm, hg, hs, h => by
    have hl : l = (be 4 ps.length ++ encPs ((pts ps).take i)).length := by have := hs.len; rwa [bxs_len] at this
    have hsz : (be 4 ps.length ++ encPs ((pts ps).take i)).length = 4 + 388 * i := by
      rw [List.length_append, be_len, encPs_len hg, List.length_take, pts_len]; omega
    rw [J33_l1_1_1_0_1_0_succ]
    simp only [b33_l1_1_1_0_1_0]
    refine ok_cond (fun hc => ?_) (fun hc => ?_)
    · simp only [decide_eq_true_eq] at hc
      have hlt : i < ps.length := by omega
      have hr' : RdR X (L ++ F) pa (prows ps).flatten := hr.mono (fun e he => by simp [he])
      obtain ⟨q, hq⟩ := ps_some hr' hlt
      obtain ⟨x, hx⟩ : ∃ x, ps[i]? = some x := ⟨_, List.getElem?_eq_getElem hlt⟩
      have hr2 : RdR X (L ++ F) (some q) (prows ps).flatten := by rw [← hq]; exact hr'
      rw [show ixSl 2 pa ps.length (i : Int) = ixSl 2 (some q) ps.length (i : Int) by rw [hq]]
      rw [ixSl_at rfl hlt, hr2.elem h (prows_all ps) (prows_at hx)]
      refine ok_newA h (fun b5 S1 h1 => ok_ifO rfl (ok_stn h1 (by simp [prow]) (d := prow x) (by simp [splice, prow]) (fun S2 h2 => ?_)))
      have bad : okP x.pt = false → Ok (some (AV.tup [.sl none 0 (.ex 0), .int .i64 82], S2)) (BQ X F (putT (pts ps)) (putTe (pts ps))) := fun hp => by
        have he := okT_false (pts_at hx) hp
        rw [show putT (pts ps) = [] by simp [putT, he], show putTe (pts ps) = 82 by simp [putTe, he]]
        exact ok_ret ⟨none, .ex 0, [], rfl, .nil, h2.drop1.right⟩
      refine ok_ldI h2 rfl (ok_cond (fun c1 => bad ?_) (fun c1 => ok_ldI h2 rfl (ok_cond (fun c2 => bad ?_) (fun c2 => ok_ldL h2 rfl (ok_cond (fun c3 => bad ?_) (fun c3 => ok_ldI h2 rfl ?_))))))
      · simp only [decide_eq_true_eq] at c1; exact okP_false (by omega)
      · simp only [ge_iff_le, decide_eq_true_eq] at c2; exact okP_false (by omega)
      · simp only [bne_iff_ne, ne_eq] at c3; exact okP_false (by omega)
      simp only [ge_iff_le, decide_eq_false_iff_not, bne_eq_false_iff_eq] at c1 c2 c3
      have hok : okP x.pt = true := (okP_iff _).2 (by show 0 ≤ x.b ∧ x.b < _ ∧ x.d.length = _; omega)
      rw [wu64 (by omega) (by omega)]
      have p4 : (256 : Nat) ^ 4 = 4294967296 := by decide
      have h2' : Hp X S2 (L ++ (C b5 (prow x) :: F)) := h2.re (by intro p; simp only [List.countP_append, List.countP_cons, C]; omega)
      obtain ⟨v, S3, e3, a3, c3', L3, rfl, hs3, h3⟩ : Ok (evF E orcL (n + 2) (.fn 56) [.sl a l c, .int .u64 x.b, .int .i64 4] S2) _ := put_ok n hn h2' hs (by omega) (x := x.b.toNat) (by omega) (k := 4) (by decide) (by decide) (by omega) rfl
      rw [callL_of e3]
      refine ok_ldL h3 rfl (ok_ldL h2 rfl (ok_true (by simp [AV.beq]) ?_))
      have hvx : Vw X (C b5 (prow x) :: F) x.a x.d.length x.c x.d := (hv x (List.mem_of_getElem? hx)).mono (fun e he => by simp [he])
      refine ok_bytes h3 hs3 hvx (by rw [List.length_append, hsz, be_len]; omega) (fun a4 c4 L4 S4 hs4 h4 => ?_)
      rw [wn (x := (i : Int) + 1) (n := i + 1) (by omega) (by omega)]
      have he : be 4 ps.length ++ encPs ((pts ps).take i) ++ be 4 x.b.toNat ++ x.d = be 4 ps.length ++ encPs ((pts ps).take (i + 1)) := by
        rw [encPs_take (pts_at hx)]; simp [Pr.pt]
      rw [he] at hs4 ⊢
      refine t_loop n0 n hn hps h1ps hr hv m (i + 1) a4 _ c4 L4 S4 (by omega) (by omega) (fun p hp => ?_) hs4 (h4.re (M := C b5 (prow x) :: (L4 ++ F)) (by intro p; simp only [List.countP_append, List.countP_cons, C]; omega)).drop1
      rw [List.take_add_one, pts_at hx] at hp
      rcases List.mem_append.1 hp with hp | hp
      · exact hg p hp
      · simp at hp; subst hp; exact hok
    · simp only [decide_eq_false_iff_not] at hc
      have : i = ps.length := by omega
      subst this
      simp only [J33_j1_1_1_1, b33_j1_1_1_1]
      have ht : (pts ps).take ps.length = pts ps := List.take_of_length_le (by simp)
      rw [ht] at hg hs hl
      have he : okT (pts ps) = true := by
        simp only [okT, Bool.and_eq_true, decide_eq_true_eq, List.all_eq_true, pts_len]
        exact ⟨⟨h1ps, hps⟩, hg⟩
      rw [show putT (pts ps) = encT (pts ps) by simp [putT, he], show putTe (pts ps) = 0 by simp [putTe, he]]
      subst hl
      refine ok_ret ⟨a, c, L, ?_, ?_, h⟩
      · simp [encT]
      · simpa [encT] using hs

theorem putT_ok (n : Nat) (hn : 100 < n) {ps : List Pr} {a : Option Pos} {c : Cap} (h : Hp X S F) (hr : RdR X F a (prows ps).flatten) (hv : PsV X F ps) :
    Ok (ev (n + 3) (.fn 33) [.sl a ps.length c] S) (BQ X F (putT (pts ps)) (putTe (pts ps))) := by
  rw [ev, F33 _ _ _ _ _ (oL rfl)]
  simp only [J33, b33_entry]
  have bad : okT (pts ps) = false → Ok (some (AV.tup [.sl none 0 (.ex 0), .int .i64 82], S)) (BQ X F (putT (pts ps)) (putTe (pts ps))) := fun he => by
    rw [show putT (pts ps) = [] by simp [putT, he], show putTe (pts ps) = 82 by simp [putTe, he]]
    exact ok_ret ⟨none, .ex 0, [], rfl, .nil, h⟩
  refine ok_cond (fun c1 => bad ?_) (fun c1 => ok_cond (fun c2 => bad ?_) (fun c2 => ?_))
  · simp only [beq_iff_eq] at c1; simp [okT]; omega
  · simp only [gt_iff_lt, decide_eq_true_eq] at c2; simp [okT]; omega
  simp only [beq_eq_false_iff_ne, ne_eq, gt_iff_lt, decide_eq_false_iff_not] at c1 c2
  rw [wu64 (by omega) (by omega)]
  have p4 : (256 : Nat) ^ 4 = 4294967296 := by decide
  have h' : Hp X S ([] ++ F) := h
  obtain ⟨v, S3, e3, a3, c3, L3, rfl, hs3, h3⟩ : Ok (evF E orcL (n + 2) (.fn 56) [.sl none 0 (.ex 0), .int .u64 (ps.length : Nat), .int .i64 4] S) _ := put_ok n hn h' (s := []) (by exact (SlG.nil : SlG none 0 (.ex 0) 1 [] [])) (by simp) (x := ps.length) rfl (k := 4) (by decide) (by decide) (by omega) rfl
  rw [callL_of e3]
  exact t_loop (n + 2) n hn (by omega) (by omega) hr hv (n + 2) 0 a3 _ c3 L3 S3 (by omega) (by omega) (by simp) (by simpa [encPs] using hs3) h3

/-- Puts are told, and an error. -/
abbrev TQ (X : Cx) (F : List Ent) (l : List Pt) (e : Int) : AV → AS → Prop := fun v S' => ∃ (qs : List Pr) (a : Option Pos) (c : Cap) (Lr Ld : List Ent), v = .tup [.sl a qs.length c, .int .i64 e] ∧ pts qs = l ∧ SlG a qs.length c 2 (prows qs) Lr ∧ PsV X Ld qs ∧ Hp X S' (Lr ++ (Ld ++ F))

theorem row_push {qs : List Pr} {x : Pr} {a : Option Pos} {l : Nat} {c : Cap} {Lr : List Ent} {b5 : Nat} {K : Option Pos → Nat → Cap → AS → Option (AV × AS)} (hq : qs.length ≤ 100000) (hs : SlG a l c 2 (prows qs) Lr) (h : Hp X S (Lr ++ (C b5 (prow x) :: F)))
    (ht : ∀ a' c' L' S', SlG a' (qs ++ [x]).length c' 2 (prows (qs ++ [x])) L' → Hp X S' (L' ++ F) → Ok (K a' (qs ++ [x]).length c' S') Q) : Ok (appendA 2 32 S a l c 1 (firstA S 2 1 (.sl (some (.rw b5, 0)) 1 (.ex 1))) K) Q := by
  refine ok_appendG h hs (ys := prows [x]) (prows_all _) rfl (fun K => ?_) (by decide) (by simp [pow46]; omega) (by simp [pow46]; omega) (fun a3 l3 c3 S3 L3 ht' h3 => ?_)
  · have := RdR.first (.rw (X := X) (b := b5) (i := 0) (c := prow x) (cs := prow x) (L := _) (List.mem_append_right Lr List.mem_cons_self) (by simp) rfl) h (sz := 2) (n := 1) rfl (by decide) (l := 1) (c := .ex 1) K
    simpa [prows] using this
  · rw [← prows_append] at ht'
    obtain rfl : l3 = (qs ++ [x]).length := by have := ht'.len; rw [prows_len] at this; exact this
    exact ht _ _ _ _ ht' (h3.re (M := C b5 (prow x) :: (L3 ++ F)) (by intro p; simp only [List.countP_append, List.countP_cons, C]; omega)).drop1

theorem gt_loop {P0 : List Pt} (n0 n : Nat) (hn : 70000 < n)
    (fin : ∀ (qs : List Pr) (a : Option Pos) (c : Cap) (Lr Ld : List Ent) (S' : AS), pts qs = P0 → SlG a qs.length c 2 (prows qs) Lr → PsV X Ld qs → Hp X S' (Lr ++ (Ld ++ F)) → Ok (J71_j1_1_1_1_1_1 (evF E orcL (n + 1)) n0 a qs.length c S') Q) :
    ∀ (m k : Nat) (qs : List Pr) (q : List UInt8) (qa : Option Pos) (ql : Nat) (qc : Cap) (a : Option Pos) (c : Cap) (Lr Ld : List Ent) (S : AS), k < m → q.length = 388 * k → qs.length + k ≤ 64 → pts qs ++ cks k q = P0 → Vw X F qa ql qc q → SlG a qs.length c 2 (prows qs) Lr → PsV X Ld qs → Hp X S (Lr ++ (Ld ++ F)) →
      Ok (J71_l1_1_1_1_1_0_1_0 (evF E orcL (n + 1)) n0 m a qs.length c qa ql qc S) Q
  | 0, k, qs, q, qa, ql, qc, a, c, Lr, Ld, S, hm, hq, hl, hP, hv, hs, hd, h => by omega
  | m + 1, k, qs, q, qa, ql, qc, a, c, Lr, Ld, S, hm, hq, hl, hP, hv, hs, hd, h => by
    have hql := hv.ln
    rw [J71_l1_1_1_1_1_0_1_0_succ]
    simp only [b71_l1_1_1_1_1_0_1_0]
    refine ok_cond (fun hc => ?_) (fun hc => ?_)
    · simp only [gt_iff_lt, decide_eq_true_eq] at hc
      obtain ⟨k, rfl⟩ : ∃ k', k = k' + 1 := ⟨k - 1, by omega⟩
      refine ok_drawA h [9] (by simp) (by simp) (fun b5 S1 h1 => ?_)
      have h1' : Hp X S1 ((b5 + 9, none) :: (Lr ++ (Ld ++ F))) := h1
      have sub : ∀ e ∈ F, e ∈ (b5 + 9, none) :: (Lr ++ (Ld ++ F)) := fun e he => by simp [he]
      refine ok_sl0 (hv.mono sub) (hi := 4) (by omega) rfl (fun a1 c1 w1 => ?_)
      rw [callI_of (show evF E orcL (n + 1) (.fn 77) [.sl a1 4 c1] S1 = _ from get_eq n (by omega) w1 h1' (by simp; omega))]
      refine ok_sl (hv.mono sub) (lo := 4) (hi := 388) (by decide) (by omega) rfl rfl (fun a2 c2 w2 => ?_)
      rw [show (388 : Nat) - 4 = 384 from rfl] at w2 ⊢
      obtain ⟨v, S3, e3, a3, c3, L3, rfl, hs3, h3⟩ : Ok (evF E orcL (n + 1) (.fn 79) [.sl a2 384 c2] S1) _ := clone_ok n h1' w2 (by simp [win8]; omega)
      rw [callL_of e3]
      have hvl : vl (q.take 4) < 4294967296 := by
        refine Nat.lt_of_lt_of_le (vl_lt _) (Nat.le_trans (Nat.pow_le_pow_right (by decide) (?_ : _ ≤ 4)) (by decide))
        simp; omega
      rw [wn (x := ((vl (q.take 4) : Nat) : Int)) rfl (by omega)]
      refine ok_layA (b := b5 + 9) h3 (fun S4 h4 => ?_)
      have h4' : Hp X S4 (Lr ++ (C (b5 + 9) (prow ⟨((vl (q.take 4) : Nat) : Int), a3, c3, win8 q 4 384⟩) :: ((L3 ++ Ld) ++ F))) := h4.re (by intro p; simp only [List.countP_append, List.countP_cons, C, prow]; omega)
      refine row_push (by omega) hs h4' (fun a5 c5 L5 S5 hs5 h5 => ?_)
      refine ok_slT hv (lo := 388) (by omega) rfl (fun a6 c6 w6 => ?_)
      refine gt_loop n0 n hn fin m k _ (q.drop 388) a6 _ c6 a5 c5 L5 (L3 ++ Ld) S5 (by omega) (by simp; omega) (by simp; omega) ?_ w6 hs5 (fun p hp => ?_) h5
      · rw [← hP, pts_append, List.append_assoc]; rfl
      · rcases List.mem_append.1 hp with hp | hp
        · exact (hd p hp).mono (fun e he => by simp [he])
        · simp only [List.mem_singleton] at hp
          subst hp
          exact slG_vw hs3 (fun e he => by simp [he])
    · simp only [gt_iff_lt, decide_eq_false_iff_not] at hc
      have : k = 0 := by omega
      subst this
      rw [cks, List.append_nil] at hP
      exact fin qs a c Lr Ld S hP hs hd h

theorem getT_ok (n : Nat) (hn : 70000 < n) {s : List UInt8} {a : Option Pos} {l : Nat} {c : Cap} (h : Hp X S F) (hv : Vw X F a l c s) (hsl : s.length ≤ 1048576) :
    Ok (ev (n + 4) (.fn 71) [.sl a l c] S) (TQ X F (getT s) (getTe s)) := by
  have hln := hv.ln
  rw [ev, F71 _ _ _ _ _ (oL rfl)]
  simp only [J71, b71_entry]
  have bad : ∀ (S' : AS) (M : List Ent), goodT s = false → Hp X S' (M ++ F) → Ok (some (AV.tup [.sl none 0 (.ex 0), .int .i64 82], S')) (TQ X F (getT s) (getTe s)) := fun S' M he hh => by
    rw [show getT s = [] by simp [getT, he], show getTe s = 82 by simp [getTe, he]]
    exact ok_ret ⟨[], none, .ex 0, [], [], rfl, rfl, .nil, (fun p hp => by cases hp), hh.right⟩
  refine ok_cond (fun c1 => bad S [] ?_ h) (fun c1 => ?_)
  · simp only [decide_eq_true_eq] at c1; simp [goodT, szT]; omega
  simp only [decide_eq_false_iff_not] at c1
  refine ok_sl0 hv (hi := 4) (by omega) rfl (fun a1 c1' w1 => ?_)
  rw [callI_of (show evF E orcL (n + 3) (.fn 77) [.sl a1 4 c1'] S = _ from get_eq (n + 2) (by omega) w1 h (by simp; omega))]
  have hct : vl (s.take 4) = cntT s := rfl
  rw [hct]
  have hvl : cntT s < 4294967296 := by
    refine Nat.lt_of_lt_of_le (vl_lt _) (Nat.le_trans (Nat.pow_le_pow_right (by decide) (?_ : _ ≤ 4)) (by decide))
    simp; omega
  refine ok_cond (fun c2 => bad S [] ?_ h) (fun c2 => ?_)
  · simp only [gt_iff_lt, decide_eq_true_eq] at c2; simp [goodT, szT]; omega
  simp only [gt_iff_lt, decide_eq_false_iff_not] at c2
  rw [wz (x := ((l : Nat) : Int) - 4) (z := ((l - 4 : Nat) : Int)) (by omega) (by omega) (by omega), wu64 (n := ((l - 4 : Nat) : Int)) (by omega) (by omega), wu64 (n := ((cntT s : Nat) : Int) * 388) (by omega) (by omega)]
  refine ok_cond (fun c3 => bad S [] ?_ h) (fun c3 => ?_)
  · simp only [bne_iff_ne, ne_eq] at c3; simp [goodT, szT]; omega
  simp only [bne_eq_false_iff_eq] at c3
  have hsz : szT s = true := by simp [szT]; omega
  refine ok_slT hv (lo := 4) (by omega) rfl (fun a2 c2' w2 => ?_)
  refine gt_loop (P0 := listT s) (n + 3) (n + 2) (by omega) (fun qs a3 c3' Lr Ld S3 hP hs hd h3 => ?_) (n + 3) (cntT s) [] (s.drop 4) a2 _ c2' none (.ex 0) [] [] S (by omega) (by simp; omega) (by simp; omega) rfl w2 (by exact (SlG.nil : SlG none 0 (.ex 0) 2 [] [])) (fun p hp => by cases hp) h
  simp only [J71_j1_1_1_1_1_1, b71_j1_1_1_1_1_1]
  obtain ⟨v, S4, e4, a4, c4, L4, rfl, hs4, h4⟩ : Ok (evF E orcL (n + 3) (.fn 33) [.sl a3 qs.length c3'] S3) _ := putT_ok n (by omega) h3 (hs.rd (fun e he => by simp [he])) (hd.mono (fun e he => by simp [he]))
  rw [callT_of e4]
  rw [hP] at hs4 ⊢
  refine ok_atL rfl (ok_atI rfl (ok_cond (fun cc => ?_) (fun cc => ?_)))
  · have he : okT (listT s) = false := by
      cases hk : okT (listT s) with
      | false => rfl
      | true => rw [putTe, if_pos hk] at cc; exact absurd cc (by decide)
    rw [show putTe (listT s) = 82 by simp [putTe, he]]
    exact bad S4 (L4 ++ (Lr ++ Ld)) (by simp [goodT, he]) (by simpa using h4)
  have he : okT (listT s) = true := by
    cases hk : okT (listT s) with
    | true => rfl
    | false => rw [putTe, if_neg (by simp [hk])] at cc; exact absurd cc (by decide)
  have hg : goodT s = true := by simp [goodT, hsz, he]
  rw [show getT s = listT s by simp [getT, hg], show getTe s = 0 by simp [getTe, hg]]
  exact ok_ret ⟨qs, a3, c3', Lr, Ld, rfl, hP, hs, hd, h4.right⟩

end

end Go.Jn
