/- What the document's codec of a journal does with a heap: a transaction as bytes. -/
import Derived.Test.YtcepfilbiahdjaaJoU
set_option linter.unusedVariables false
set_option linter.unusedSimpArgs false
set_option maxRecDepth 4000
namespace Go.Jn
open Go.Gr

section
variable {X : Cx} {S : AS} {L F : List Ent} {b : Nat} {Q : AV → AS → Prop}

theorem be_succ (m x : Nat) : be (m + 1) x = UInt8.ofNat (x / 256 ^ m) :: be m x := rfl

theorem rput_loop (n0 : Nat) (call : CallA) {x : Nat} : ∀ (m i : Nat) (s : List UInt8) (a : Option Pos) (l : Nat) (c : Cap) (L : List Ent) (S : AS), i ≤ 8 → i < m → s.length + i ≤ 1048576 → SlG a l c 1 (bxs s) L → Hp X S (L ++ F) →
    Ok (J32_l1_0_1_0 call n0 m a l c (x : Int) ((i : Int) - 1) S) fun v S' => ∃ (a' : Option Pos) (c' : Cap) (L' : List Ent), v = .sl a' (s ++ be i x).length c' ∧ SlG a' (s ++ be i x).length c' 1 (bxs (s ++ be i x)) L' ∧ Hp X S' (L' ++ F)
  | 0, i, s, a, l, c, L, S, hi, hm, hl, hs, h => by omega
  | m + 1, i, s, a, l, c, L, S, hi, hm, hl, hs, h => by
    have hln := hs.len
    rw [bxs_len] at hln
    rw [J32_l1_0_1_0_succ]
    simp only [b32_l1_0_1_0]
    cases i with
    | zero =>
      refine ok_false (by simp) (ok_ret ⟨a, c, L, ?_, ?_, h⟩)
      · simp [be, hln]
      · simpa [be, hln] using hs
    | succ i =>
      have hw : ((i + 1 : Nat) : Int) - 1 = (i : Nat) := by omega
      rw [hw, wn (x := (8 : Int) * ((i : Nat) : Int)) (n := 8 * i) (by omega) (by omega), wu64 (n := ((8 * i : Nat) : Int)) (by omega) (by omega)]
      rw [shrk (show i < 8 by omega) rfl, wu8]
      refine ok_true (by simp) (ok_nneg (by omega) (ok_newA h (fun b1 S1 h1 => ?_)))
      have h1' : Hp X S1 (L ++ (C b1 (ofBytes [UInt8.ofNat (x / 256 ^ i)]) :: F)) := h1.re (by intro p; simp only [List.countP_append, List.countP_cons, C, ofBytes, List.map_cons, List.map_nil]; omega)
      have hv : Vw X (C b1 (ofBytes [UInt8.ofNat (x / 256 ^ i)]) :: F) (some (.rw b1, 0)) 1 (.ex 1) [UInt8.ofNat (x / 256 ^ i)] := ⟨.rw (c := ofBytes [UInt8.ofNat (x / 256 ^ i)]) List.mem_cons_self (by simp) rfl, rfl, 1, .inl rfl, Nat.le_refl _⟩
      refine ok_bytes h1' hs hv (by simp; omega) (fun a3 c3 L3 S3 hs3 h3 => ?_)
      rw [wz (z := (i : Int) - 1) rfl (by omega) (by omega)]
      have := rput_loop (x := x) n0 call m i (s ++ [UInt8.ofNat (x / 256 ^ i)]) a3 _ c3 L3 S3 (by omega) (by omega) (by simp; omega) hs3 (h3.re (M := C b1 (ofBytes [UInt8.ofNat (x / 256 ^ i)]) :: (L3 ++ F)) (by intro p; simp only [List.countP_append, List.countP_cons, C]; omega)).drop1
      rw [List.append_assoc, List.singleton_append, ← be_succ] at this
      exact this

theorem rput_ok (n : Nat) (hn : 100 < n) {s : List UInt8} {a : Option Pos} {l : Nat} {c : Cap} (h : Hp X S (L ++ F)) (hs : SlG a l c 1 (bxs s) L) (hsl : s.length ≤ 65536) {x : Nat} {xi : Int} (hxi : xi = x) {k : Nat} (hk : k ≤ 8) {ki : Int} (hki : ki = k) :
    Ok (ev (n + 1) (.fn 32) [.sl a l c, .int .u64 xi, .int .i64 ki] S) fun v S' => ∃ (a' : Option Pos) (c' : Cap) (L' : List Ent), v = .sl a' (s ++ be k x).length c' ∧ SlG a' (s ++ be k x).length c' 1 (bxs (s ++ be k x)) L' ∧ Hp X S' (L' ++ F) := by
  subst hki
  subst hxi
  rw [ev, F32 _ _ _ _ _ _ _ (oL rfl)]
  simp only [J32, b32_entry]
  rw [wz (z := (k : Int) - 1) rfl (by omega) (by omega)]
  exact rput_loop n (evF E orcL n) n k s a l c L S hk (by omega) (by omega) hs h

theorem rt_loop (n0 n : Nat) (hn : 100 < n) {ps : List Pr} {pa w2a : Option Pos} {pc w2c : Cap} {w2l : Nat} {w3 : Int} (hps : ps.length ≤ 64) (h1ps : 1 ≤ ps.length) (hr : RdR X F pa (prows ps).flatten) (hv : PsV X F ps) :
    ∀ (m i : Nat) (a : Option Pos) (l : Nat) (c : Cap) (L : List Ent) (S : AS), i ≤ ps.length → ps.length - i < m → (∀ p ∈ (pts ps).take i, okP p = true) → SlG a l c 1 (bxs (be 4 ps.length ++ encPs ((pts ps).take i))) L → Hp X S (L ++ F) →
      Ok (J9_l1_1_1_0_1_0 (evF E orcL (n + 1)) n0 m pa ps.length pc w2a w2l w2c w3 a l c i S) (BQ X F (putT (pts ps)) (putTe (pts ps)))
  | 0, i, a, l, c, L, S, hi, hm, hg, hs, h => by omega
  | m + 1, i, a, l, c, L, S, hi, hm, hg, hs, h => by
    have hl : l = (be 4 ps.length ++ encPs ((pts ps).take i)).length := by have := hs.len; rwa [bxs_len] at this
    have hsz : (be 4 ps.length ++ encPs ((pts ps).take i)).length = 4 + 388 * i := by
      rw [List.length_append, be_len, encPs_len hg, List.length_take, pts_len]; omega
    rw [J9_l1_1_1_0_1_0_succ]
    simp only [b9_l1_1_1_0_1_0]
    refine ok_cond (fun hc => ?_) (fun hc => ?_)
    · simp only [decide_eq_true_eq] at hc
      have hlt : i < ps.length := by omega
      have hr' : RdR X (L ++ F) pa (prows ps).flatten := hr.mono (fun e he => by simp [he])
      obtain ⟨q, hq⟩ := ps_some hr' hlt
      obtain ⟨x, hx⟩ : ∃ x, ps[i]? = some x := ⟨_, List.getElem?_eq_getElem hlt⟩
      have hr0 : RdR X F (some q) (prows ps).flatten := by rw [← hq]; exact hr
      have hr2 : RdR X (L ++ F) (some q) (prows ps).flatten := by rw [← hq]; exact hr'
      rw [show ixSl 2 pa ps.length (i : Int) = ixSl 2 (some q) ps.length (i : Int) by rw [hq]]
      have bad : okP x.pt = false → Ok (some (AV.tup [.sl none 0 (.ex 0), .int .i64 82], S)) (BQ X F (putT (pts ps)) (putTe (pts ps))) := fun hp => by
        have he := okT_false (pts_at hx) hp
        rw [show putT (pts ps) = [] by simp [putT, he], show putTe (pts ps) = 82 by simp [putTe, he]]
        exact ok_ret ⟨none, .ex 0, [], rfl, .nil, h.right⟩
      rw [ixSl_at rfl hlt, pf_I hr2 h hx]
      refine ok_cond (fun c1 => bad ?_) (fun c1 => ?_)
      · simp only [decide_eq_true_eq] at c1; exact okP_false (by omega)
      rw [ixSl_at rfl hlt, pf_I hr2 h hx]
      refine ok_cond (fun c2 => bad ?_) (fun c2 => ?_)
      · simp only [gt_iff_lt, decide_eq_true_eq] at c2; exact okP_false (by omega)
      rw [ixSl_at rfl hlt, pf_L hr2 h hx]
      refine ok_cond (fun c3 => bad ?_) (fun c3 => ?_)
      · simp only [bne_iff_ne, ne_eq] at c3; exact okP_false (by omega)
      simp only [gt_iff_lt, decide_eq_false_iff_not, bne_eq_false_iff_eq] at c1 c2 c3
      have hok : okP x.pt = true := (okP_iff _).2 (by show 0 ≤ x.b ∧ x.b < _ ∧ x.d.length = _; omega)
      rw [ixSl_at rfl hlt, pf_I hr2 h hx, wu64 (by omega) (by omega)]
      obtain ⟨v, S3, e3, a3, c3', L3, rfl, hs3, h3⟩ : Ok (evF E orcL (n + 1) (.fn 32) [.sl a l c, .int .u64 x.b, .int .i64 4] S) _ := rput_ok n hn h hs (by omega) (x := x.b.toNat) (by omega) (k := 4) (by decide) rfl
      rw [callL_of e3, ixSl_at rfl hlt, pf_L (hr0.mono (fun e he => by simp [he])) h3 hx, pf_L hr2 h hx]
      refine ok_true (by simp [AV.beq]) ?_
      have hvx := hv x (List.mem_of_getElem? hx)
      refine ok_bytes h3 hs3 hvx (by rw [List.length_append, hsz, be_len]; omega) (fun a4 c4 L4 S4 hs4 h4 => ?_)
      rw [wn (x := (i : Int) + 1) (n := i + 1) (by omega) (by omega)]
      have he : be 4 ps.length ++ encPs ((pts ps).take i) ++ be 4 x.b.toNat ++ x.d = be 4 ps.length ++ encPs ((pts ps).take (i + 1)) := by
        rw [encPs_take (pts_at hx)]; simp [Pr.pt]
      rw [he] at hs4 ⊢
      refine rt_loop n0 n hn hps h1ps hr hv m (i + 1) a4 _ c4 L4 S4 (by omega) (by omega) (fun p hp => ?_) hs4 h4
      rw [List.take_add_one, pts_at hx] at hp
      rcases List.mem_append.1 hp with hp | hp
      · exact hg p hp
      · simp at hp; subst hp; exact hok
    · simp only [decide_eq_false_iff_not] at hc
      have : i = ps.length := by omega
      subst this
      simp only [J9_j1_1_1_1, b9_j1_1_1_1]
      have ht : (pts ps).take ps.length = pts ps := List.take_of_length_le (by simp)
      rw [ht] at hg hs hl
      have he : okT (pts ps) = true := by
        simp only [okT, Bool.and_eq_true, decide_eq_true_eq, List.all_eq_true, pts_len]
        exact ⟨⟨h1ps, hps⟩, hg⟩
      rw [show putT (pts ps) = encT (pts ps) by simp [putT, he], show putTe (pts ps) = 0 by simp [putTe, he]]
      subst hl
      refine ok_ret ⟨a, c, L, ?_, ?_, h⟩
      · simp [encT]
      · simpa [encT] using hs

theorem rputT_ok (n : Nat) (hn : 100 < n) {ps : List Pr} {a : Option Pos} {c : Cap} (h : Hp X S F) (hr : RdR X F a (prows ps).flatten) (hv : PsV X F ps) :
    Ok (ev (n + 2) (.fn 9) [.sl a ps.length c] S) (BQ X F (putT (pts ps)) (putTe (pts ps))) := by
  rw [ev, F9 _ _ _ _ _ (oL rfl)]
  simp only [J9, b9_entry]
  have bad : okT (pts ps) = false → Ok (some (AV.tup [.sl none 0 (.ex 0), .int .i64 82], S)) (BQ X F (putT (pts ps)) (putTe (pts ps))) := fun he => by
    rw [show putT (pts ps) = [] by simp [putT, he], show putTe (pts ps) = 82 by simp [putTe, he]]
    exact ok_ret ⟨none, .ex 0, [], rfl, .nil, h⟩
  refine ok_cond (fun c1 => bad ?_) (fun c1 => ok_cond (fun c2 => bad ?_) (fun c2 => ?_))
  · simp only [decide_eq_true_eq] at c1; simp [okT]; omega
  · simp only [gt_iff_lt, decide_eq_true_eq] at c2; simp [okT]; omega
  simp only [gt_iff_lt, decide_eq_false_iff_not] at c1 c2
  rw [wu64 (by omega) (by omega)]
  have h' : Hp X S ([] ++ F) := h
  obtain ⟨v, S3, e3, a3, c3, L3, rfl, hs3, h3⟩ : Ok (evF E orcL (n + 1) (.fn 32) [.sl none 0 (.ex 0), .int .u64 (ps.length : Nat), .int .i64 4] S) _ := rput_ok n hn h' (s := []) (by exact (SlG.nil : SlG none 0 (.ex 0) 1 [] [])) (by simp) (x := ps.length) rfl (k := 4) (by decide) rfl
  rw [callL_of e3]
  exact rt_loop (n + 1) n hn (by omega) (by omega) hr hv (n + 1) 0 a3 _ c3 L3 S3 (by omega) (by omega) (by simp) (by simpa [encPs] using hs3) h3

end

end Go.Jn
