/- What the codec of package journal does with a heap: entries and superblocks as blocks, and back. -/
import Derived.Test.YtcepfilbiahdjaaJnA
set_option linter.unusedVariables false
set_option linter.unusedSimpArgs false
set_option maxRecDepth 4000
namespace Go.Jn
open Go.Gr

def erow (e : Le) (a : Option Pos) (l : Nat) (c : Cap) : List AV := [.int .u64 e.bo, .int .u64 e.se, .int .u64 e.po, .int .u64 e.ls, .int .i64 e.pa, .int .i64 e.ps, .sl a l c]
def srowS (s : Su) : List AV := s.l.map (AV.int .u64)

theorem okE_false {e : Le} (h : ¬ (e.bo ≠ 0 ∧ e.se ≠ 0 ∧ e.ls ≠ 0 ∧ e.bo ≤ 4611686018427387904 ∧ e.se ≤ 4611686018427387904 ∧ e.ls ≤ 4611686018427387904 ∧ e.po ≤ 4611686018427387904 ∧ 1 ≤ e.ps ∧ e.ps ≤ 100 ∧ 0 ≤ e.pa ∧ e.pa < e.ps ∧ 1 ≤ e.by_.length ∧ e.by_.length ≤ 336)) : okE e = false := by
  cases hk : okE e with
  | false => rfl
  | true => exact absurd ((okE_iff e).1 hk) h

section
variable {X : Cx} {S : AS} {L F : List Ent} {b : Nat} {Q : AV → AS → Prop}

theorem bes_take {k : Nat} {l : List Int} {i : Nat} {x : Int} (h : l[i]? = some x) : bes k (l.take (i + 1)) = bes k (l.take i) ++ be k x.toNat := by
  rw [List.take_add_one, h]; simp [bes]

/-- Bytes are told, and an error. -/
abbrev BQ (X : Cx) (F : List Ent) (s : List UInt8) (e : Int) : AV → AS → Prop := fun v S' => ∃ (a : Option Pos) (c : Cap) (L' : List Ent), v = .tup [.sl a s.length c, .int .i64 e] ∧ SlG a s.length c 1 (bxs s) L' ∧ Hp X S' (L' ++ F)

theorem BQ.sub {s : List UInt8} {e : Int} {M : List Ent} (hm : M.Sublist F) {v : AV} {S' : AS} (h : BQ X F s e v S') : BQ X M s e v S' := by
  obtain ⟨a, c, L', rfl, hs, hp⟩ := h
  exact ⟨a, c, L', rfl, hs, hp.sub (List.Sublist.append_left hm L')⟩

theorem e_loop8 (n0 n : Nat) (hn : 100 < n) {ns : List Int} (hB : ∀ x ∈ ns, u64B x) (hns : ns.length ≤ 10) {w1 p : Option Pos} {cp : Cap} {s0 : List UInt8} (hs0 : s0.length ≤ 100) (hr : RdR X F p (ns.map (AV.int .u64)))
    (fin : ∀ a c L' S', SlG a (s0 ++ bes 8 ns).length c 1 (bxs (s0 ++ bes 8 ns)) L' → Hp X S' (L' ++ F) → Ok (J36_j1_1_1_1 (evF E orcL (n + 2)) n0 w1 a (s0 ++ bes 8 ns).length c S') Q) :
    ∀ (m i : Nat) (a : Option Pos) (l : Nat) (c : Cap) (L : List Ent) (S : AS), i ≤ ns.length → ns.length - i < m → SlG a l c 1 (bxs (s0 ++ bes 8 (ns.take i))) L → Hp X S (L ++ F) →
      Ok (J36_l1_1_1_0_1_0 (evF E orcL (n + 2)) n0 m w1 a l c p ns.length cp ns.length i S) Q
  | 0, i, a, l, c, L, S, hi, hm, hs, h => by omega
  | m + 1, i, a, l, c, L, S, hi, hm, hs, h => by
    have hl : l = (s0 ++ bes 8 (ns.take i)).length := by have := hs.len; rwa [bxs_len] at this
    rw [J36_l1_1_1_0_1_0_succ]
    simp only [b36_l1_1_1_0_1_0]
    refine ok_cond (fun hc => ?_) (fun hc => ?_)
    · simp only [decide_eq_true_eq] at hc
      have hlt : i < ns.length := by omega
      have hr' : RdR X (L ++ F) p (ns.map (AV.int .u64)) := hr.mono (fun e he => by simp [he])
      obtain ⟨q, rfl⟩ := hr'.some_of (by intro he; have := congrArg List.length he; simp at this; rw [this] at hlt; simp at hlt)
      obtain ⟨x, hx⟩ : ∃ x, ns[i]? = some x := ⟨_, List.getElem?_eq_getElem hlt⟩
      have hxB := hB x (List.mem_of_getElem? hx)
      rw [ixSl_at rfl hlt]
      simp only [Nat.mul_one]
      rw [hr'.ldI h (k := .u64) (v := x) (by rw [List.getElem?_map, hx]; rfl)]
      have p8 : (256 : Nat) ^ 8 = 18446744073709551616 := by decide
      have hlen : (s0 ++ bes 8 (ns.take i)).length ≤ 65536 := by simp; omega
      obtain ⟨h0, h1⟩ := hxB
      obtain ⟨v, S1, e, a1, c1, L1, rfl, hs1, h1⟩ : Ok (evF E orcL (n + 2) (.fn 56) [.sl a l c, .int .u64 x, .int .i64 8] S) _ := put_ok n hn h hs hlen (x := x.toNat) (by omega) (k := 8) (by decide) (by decide) (by omega) rfl
      rw [callL_of e, wn (x := (i : Int) + 1) (n := i + 1) (by omega) (by omega)]
      rw [List.append_assoc, ← bes_take hx] at hs1 ⊢
      exact e_loop8 n0 n hn hB hns hs0 hr fin m (i + 1) a1 _ c1 L1 S1 (by omega) (by omega) hs1 (by exact h1)
    · simp only [decide_eq_false_iff_not] at hc
      have : i = ns.length := by omega
      subst this
      rw [List.take_length] at hs hl
      subst hl
      exact fin a c L S hs h

theorem e_loop2 (n0 n : Nat) (hn : 100 < n) {ns : List Int} (hB : ∀ x ∈ ns, 0 ≤ x ∧ x < 65536) (hns : ns.length ≤ 10) {w1 p : Option Pos} {cp : Cap} {s0 : List UInt8} (hs0 : s0.length ≤ 100) (hr : RdR X F p (ns.map (AV.int .i64)))
    (fin : ∀ a c L' S', SlG a (s0 ++ bes 2 ns).length c 1 (bxs (s0 ++ bes 2 ns)) L' → Hp X S' (L' ++ F) → Ok (J36_j1_1_1_1_1 (evF E orcL (n + 2)) n0 w1 a (s0 ++ bes 2 ns).length c S') Q) :
    ∀ (m i : Nat) (a : Option Pos) (l : Nat) (c : Cap) (L : List Ent) (S : AS), i ≤ ns.length → ns.length - i < m → SlG a l c 1 (bxs (s0 ++ bes 2 (ns.take i))) L → Hp X S (L ++ F) →
      Ok (J36_l1_1_1_1_0_1_0 (evF E orcL (n + 2)) n0 m w1 a l c p ns.length cp ns.length i S) Q
  | 0, i, a, l, c, L, S, hi, hm, hs, h => by omega
  | m + 1, i, a, l, c, L, S, hi, hm, hs, h => by
    have hl : l = (s0 ++ bes 2 (ns.take i)).length := by have := hs.len; rwa [bxs_len] at this
    rw [J36_l1_1_1_1_0_1_0_succ]
    simp only [b36_l1_1_1_1_0_1_0]
    refine ok_cond (fun hc => ?_) (fun hc => ?_)
    · simp only [decide_eq_true_eq] at hc
      have hlt : i < ns.length := by omega
      have hr' : RdR X (L ++ F) p (ns.map (AV.int .i64)) := hr.mono (fun e he => by simp [he])
      obtain ⟨q, rfl⟩ := hr'.some_of (by intro he; have := congrArg List.length he; simp at this; rw [this] at hlt; simp at hlt)
      obtain ⟨x, hx⟩ : ∃ x, ns[i]? = some x := ⟨_, List.getElem?_eq_getElem hlt⟩
      obtain ⟨h0, h1⟩ := hB x (List.mem_of_getElem? hx)
      rw [ixSl_at rfl hlt]
      simp only [Nat.mul_one]
      rw [hr'.ldI h (k := .i64) (v := x) (by rw [List.getElem?_map, hx]; rfl), wu64 h0 (by omega)]
      have p2 : (256 : Nat) ^ 2 = 65536 := by decide
      have hlen : (s0 ++ bes 2 (ns.take i)).length ≤ 65536 := by simp; omega
      obtain ⟨v, S1, e, a1, c1, L1, rfl, hs1, h1⟩ : Ok (evF E orcL (n + 2) (.fn 56) [.sl a l c, .int .u64 x, .int .i64 2] S) _ := put_ok n hn h hs hlen (x := x.toNat) (by omega) (k := 2) (by decide) (by decide) (by omega) rfl
      rw [callL_of e, wn (x := (i : Int) + 1) (n := i + 1) (by omega) (by omega)]
      rw [List.append_assoc, ← bes_take hx] at hs1 ⊢
      exact e_loop2 n0 n hn hB hns hs0 hr fin m (i + 1) a1 _ c1 L1 S1 (by omega) (by omega) hs1 h1
    · simp only [decide_eq_false_iff_not] at hc
      have : i = ns.length := by omega
      subst this
      rw [List.take_length] at hs hl
      subst hl
      exact fin a c L S hs h

theorem putE_ok (n : Nat) (hn : 100 < n) {e : Le} (hB : LeB e) {a : Option Pos} {l : Nat} {c : Cap} (h : Hp X S F) (hv : Vw X F a l c e.by_) :
    Ok (ev (n + 3) (.fn 36) [.agg (erow e a l c)] S) (BQ X F (putE e) (putEe e)) := by
  have hln := hv.ln
  rw [ev, F36 _ _ _ (oL rfl)]
  simp only [J36, b36_entry]
  have bad : ∀ (S' : AS) (M : List Ent), Hp X S' (M ++ F) → okE e = false → Ok (some (AV.tup [.sl none 0 (.ex 0), .int .i64 81], S')) (BQ X F (putE e) (putEe e)) := fun S' M hh he => by
    have e1 : putE e = [] := by simp [putE, he]
    have e2 : putEe e = 81 := by simp [putEe, he]
    rw [e1, e2]
    exact ok_ret ⟨none, .ex 0, [], rfl, .nil, hh.right⟩
  refine ok_ifO rfl (ok_newA h (fun b1 S1 h1 => ok_ldI h1 rfl (ok_cond (fun c1 => bad _ [_] h1 (okE_false fun hk => ?_)) (fun c1 => ok_ldI h1 rfl (ok_cond (fun c2 => bad _ [_] h1 (okE_false fun hk => ?_)) (fun c2 => ok_ldI h1 rfl (ok_cond (fun c3 => bad _ [_] h1 (okE_false fun hk => ?_)) (fun c3 => ?_))))))))
  · simp only [beq_iff_eq] at c1; omega
  · simp only [beq_iff_eq] at c2; omega
  · simp only [beq_iff_eq] at c3; omega
  refine ok_ldI h1 rfl (ok_ldI h1 rfl (ok_ldI h1 rfl (ok_ldI h1 rfl (ok_newA h1 (fun b2 S2 h2 => ?_)))))
  have rd2 : RdR X (C b2 [.int .u64 e.bo, .int .u64 e.se, .int .u64 e.ls, .int .u64 e.po] :: C b1 (erow e a l c) :: F) (some (.rw b2, 0)) (([e.bo, e.se, e.ls, e.po]).map (AV.int .u64)) := .rw (c := [.int .u64 e.bo, .int .u64 e.se, .int .u64 e.ls, .int .u64 e.po]) List.mem_cons_self (by simp) rfl
  rw [callB_of (show evF E orcL (n + 2) (.fn 35) [.sl (some (.rw b2, 0)) 4 (.ex 4)] S2 = _ from below_eq (n + 1) (by omega) rd2 h2 (by simp) rfl)]
  refine ok_cond (fun c4 => bad _ [_, _] h2 (okE_false fun hk => ?_)) (fun c4 => ?_)
  · simp only [Bool.not_eq_true', List.all_cons, List.all_nil, mxB, Bool.and_eq_false_iff, decide_eq_false_iff_not] at c4; simp at c4; omega
  have c4' : e.bo ≤ 4611686018427387904 ∧ e.se ≤ 4611686018427387904 ∧ e.ls ≤ 4611686018427387904 ∧ e.po ≤ 4611686018427387904 := by
    simpa [mxB] using c4
  refine ok_ldI h2 rfl (ok_cond (fun c5 => bad _ [_, _] h2 (okE_false fun hk => ?_)) (fun c5 => ok_ldI h2 rfl (ok_cond (fun c6 => bad _ [_, _] h2 (okE_false fun hk => ?_)) (fun c6 => ok_ldI h2 rfl (ok_cond (fun c7 => bad _ [_, _] h2 (okE_false fun hk => ?_)) (fun c7 => ok_ldI h2 rfl (ok_ldI h2 rfl (ok_cond (fun c8 => bad _ [_, _] h2 (okE_false fun hk => ?_)) (fun c8 => ok_ldL h2 rfl (ok_cond (fun c9 => bad _ [_, _] h2 (okE_false fun hk => ?_)) (fun c9 => ok_ldL h2 rfl (ok_cond (fun c10 => bad _ [_, _] h2 (okE_false fun hk => ?_)) (fun c10 => ?_)))))))))))))
  · simp only [decide_eq_true_eq] at c5; omega
  · simp only [gt_iff_lt, decide_eq_true_eq] at c6; omega
  · simp only [decide_eq_true_eq] at c7; omega
  · simp only [ge_iff_le, decide_eq_true_eq] at c8; omega
  · simp only [beq_iff_eq] at c9; omega
  · simp only [gt_iff_lt, decide_eq_true_eq] at c10; omega
  simp only [beq_eq_false_iff_ne, ne_eq, decide_eq_false_iff_not, gt_iff_lt, ge_iff_le] at c1 c2 c3 c5 c6 c7 c8 c9 c10
  obtain ⟨q1, q2, q3, q4⟩ := c4'
  have good : okE e = true := (okE_iff e).2 ⟨c1, c2, c3, q1, q2, q3, q4, by omega, by omega, by omega, by omega, by omega, by omega⟩
  have e1 : putE e = encE e := by simp [putE, good]
  have e2 : putEe e = 0 := by simp [putEe, good]
  rw [e1, e2]
  refine ok_newA h2 (fun b3 S3 h3 => ok_convLL h3 (by decide) (fun S4 h4 => ok_ldI h4 rfl (ok_ldI h4 rfl (ok_ldI h4 rfl (ok_ldI h4 rfl (ok_newA h4 (fun b4 S5 h5 => ?_)))))))
  have h5' : Hp X S5 ([C b3 (bxs jlog).flatten] ++ (C b4 [.int .u64 e.bo, .int .u64 e.se, .int .u64 e.po, .int .u64 e.ls] :: C b2 [.int .u64 e.bo, .int .u64 e.se, .int .u64 e.ls, .int .u64 e.po] :: C b1 (erow e a l c) :: F)) :=
    h5.re (by intro p; simp only [List.countP_append, List.countP_cons, List.countP_nil, C]; simp [jlog, bxs, ofBytes]; omega)
  have rd5 : RdR X (C b4 [.int .u64 e.bo, .int .u64 e.se, .int .u64 e.po, .int .u64 e.ls] :: C b2 [.int .u64 e.bo, .int .u64 e.se, .int .u64 e.ls, .int .u64 e.po] :: C b1 (erow e a l c) :: F) (some (.rw b4, 0)) (([e.bo, e.se, e.po, e.ls]).map (AV.int .u64)) := .rw (c := [.int .u64 e.bo, .int .u64 e.se, .int .u64 e.po, .int .u64 e.ls]) List.mem_cons_self (by simp) rfl
  refine Ok.mono (e_loop8 (Q := BQ X (C b4 [.int .u64 e.bo, .int .u64 e.se, .int .u64 e.po, .int .u64 e.ls] :: C b2 [.int .u64 e.bo, .int .u64 e.se, .int .u64 e.ls, .int .u64 e.po] :: C b1 (erow e a l c) :: F) (encE e) 0) (n + 2) n hn (ns := [e.bo, e.se, e.po, e.ls]) (by simp; exact ⟨hB.bo, hB.se, hB.po, hB.ls⟩) (by simp) (s0 := jlog) (by decide) rd5 (fun a3 c3 L3 S6 hs6 h6 => ?_) (n + 2) 0 (some (.rw b3, 0)) 4 (.ex 4) _ S5 (by omega) (by simp; omega) ?_ h5') (fun v S' hq => hq.sub ((((List.Sublist.refl F).cons _).cons _).cons _))
  · simp only [J36_j1_1_1_1, b36_j1_1_1_1]
    refine ok_gO (ok_ldI h6 rfl (ok_gO (ok_ldI h6 rfl (ok_gO (ok_ldL h6 rfl (ok_newA h6 (fun b7 S7 h7 => ?_)))))))
    generalize hF7 : (C b4 [.int .u64 e.bo, .int .u64 e.se, .int .u64 e.po, .int .u64 e.ls] :: C b2 [.int .u64 e.bo, .int .u64 e.se, .int .u64 e.ls, .int .u64 e.po] :: C b1 (erow e a l c) :: F : List Ent) = F7 at h7 ⊢
    have h7' : Hp X S7 (L3 ++ (C b7 [.int .i64 e.pa, .int .i64 e.ps, .int .i64 (l : Nat)] :: F7)) := h7.re (by intro p; simp only [List.countP_append, List.countP_cons, C]; omega)
    have rd7 : RdR X (C b7 [.int .i64 e.pa, .int .i64 e.ps, .int .i64 (l : Nat)] :: F7) (some (.rw b7, 0)) (([e.pa, e.ps, (l : Int)]).map (AV.int .i64)) := .rw (c := [.int .i64 e.pa, .int .i64 e.ps, .int .i64 (l : Nat)]) List.mem_cons_self (by simp) rfl
    refine Ok.mono (e_loop2 (Q := BQ X (C b7 [.int .i64 e.pa, .int .i64 e.ps, .int .i64 (l : Nat)] :: F7) (encE e) 0) (n + 2) n hn (ns := [e.pa, e.ps, (l : Int)]) (by simp; omega) (by simp) (s0 := jlog ++ bes 8 [e.bo, e.se, e.po, e.ls]) (by simp [jlog]) rd7 (fun a8 c8 L8 S8 hs8 h8 => ?_) (n + 2) 0 a3 _ c3 L3 S7 (by omega) (by simp; omega) ?_ h7') (fun v S' hq => hq.sub (List.sublist_cons_self _ _))
    · simp only [J36_j1_1_1_1_1, b36_j1_1_1_1_1]
      have hlen8 : (jlog ++ bes 8 [e.bo, e.se, e.po, e.ls] ++ bes 2 [e.pa, e.ps, (l : Int)]).length = 42 := by simp [jlog]
      refine ok_zeros h8 hs8 (k := 6) (by rw [hlen8]; rfl) (by rw [hlen8]; decide) (fun a9 c9 L9 S9 hs9 h9 => ?_)
      have hm9 : C b1 (erow e a l c) ∈ L9 ++ (C b7 [.int .i64 e.pa, .int .i64 e.ps, .int .i64 (l : Nat)] :: F7) := by rw [← hF7]; simp
      refine ok_gO (okM_ldL h9 hm9 rfl ?_)
      have hv9 : Vw X (C b7 [.int .i64 e.pa, .int .i64 e.ps, .int .i64 (l : Nat)] :: F7) a l c e.by_ := hv.mono (fun x hx => by rw [← hF7]; simp [hx])
      refine ok_bytes h9 hs9 hv9 (by rw [List.length_append, hlen8]; simp; omega) (fun a10 c10 L10 S10 hs10 h10 => ?_)
      have hlen10 : (jlog ++ bes 8 [e.bo, e.se, e.po, e.ls] ++ bes 2 [e.pa, e.ps, (l : Int)] ++ zz 6 ++ e.by_).length = 48 + e.by_.length := by rw [List.length_append, List.length_append, hlen8]; simp
      obtain ⟨v, S11, e11, a11, c11, L11, rfl, hs11, h11⟩ : Ok (evF E orcL (n + 2) (.fn 57) [.sl a10 _ c10] S10) _ := filled_ok (n + 1) h10 hs10 (by rw [hlen10]; omega)
      rw [callL_of e11]
      have he : jlog ++ bes 8 [e.bo, e.se, e.po, e.ls] ++ bes 2 [e.pa, e.ps, (l : Int)] ++ zz 6 ++ e.by_ ++ zz (384 - (jlog ++ bes 8 [e.bo, e.se, e.po, e.ls] ++ bes 2 [e.pa, e.ps, (l : Int)] ++ zz 6 ++ e.by_).length) = encE e := by
        rw [hlen10, show 384 - (48 + e.by_.length) = 336 - e.by_.length by omega, encE, hdE, hln]
        simp only [bes_cons, bes_nil, List.append_assoc, List.append_nil, List.nil_append, Int.toNat_natCast]
      rw [he] at hs11 ⊢
      exact ok_ret ⟨a11, c11, L11, rfl, hs11, h11⟩
    · simpa using hs6
  · have := (SlR.of (b := b3) (bxs_all jlog) (n := 4) rfl (.inl rfl)).g
    simpa using this

theorem ok_sl {a : Option Pos} {l : Nat} {c : Cap} {s : List UInt8} {K : Option Pos → Nat → Cap → Option (AV × AS)} (h : Vw X L a l c s) {lo hi : Nat} (h1 : lo ≤ hi) (h2 : hi ≤ l) {x y : Int} (hx : x = lo) (hy : y = hi) (ht : ∀ a' c', Vw X L a' (hi - lo) c' (win8 s lo (hi - lo)) → Ok (K a' (hi - lo) c') Q) : Ok (slSl 1 a l c (some x) (some y) none K) Q := by
  subst hx; subst hy
  obtain ⟨a', c', v, e, _, _⟩ := vw_sl h h1 h2
  rw [e]; exact ht _ _ v
theorem ok_sl0 {a : Option Pos} {l : Nat} {c : Cap} {s : List UInt8} {K : Option Pos → Nat → Cap → Option (AV × AS)} (h : Vw X L a l c s) {hi : Nat} (h2 : hi ≤ l) {y : Int} (hy : y = hi) (ht : ∀ a' c', Vw X L a' hi c' (s.take hi) → Ok (K a' hi c') Q) : Ok (slSl 1 a l c none (some y) none K) Q := by
  subst hy
  obtain ⟨a', c', v, _, e, _⟩ := vw_sl h (Nat.zero_le hi) h2
  rw [e _ rfl]; exact ht _ _ (by simpa [win8] using v)
theorem ok_slT {a : Option Pos} {l : Nat} {c : Cap} {s : List UInt8} {K : Option Pos → Nat → Cap → Option (AV × AS)} (h : Vw X L a l c s) {lo : Nat} (h2 : lo ≤ l) {x : Int} (hx : x = lo) (ht : ∀ a' c', Vw X L a' (l - lo) c' (s.drop lo) → Ok (K a' (l - lo) c') Q) : Ok (slSl 1 a l c (some x) none none K) Q := by
  subst hx
  obtain ⟨a', c', v, _, _, e⟩ := vw_sl h h2 (Nat.le_refl l)
  have hl := h.ln
  rw [e _ rfl]; exact ht _ _ (by rwa [win8, List.take_of_length_le (by simp; omega)] at v)

/-- An entry is told, and an error. -/
abbrev GQ (X : Cx) (F : List Ent) (g : Le) (e : Int) : AV → AS → Prop := fun v S' => ∃ (a : Option Pos) (c : Cap) (L' : List Ent), v = .tup [.agg (erow g a g.by_.length c), .int .i64 e] ∧ Vw X L' a g.by_.length c g.by_ ∧ Hp X S' (L' ++ F)

abbrev zrow : List AV := [.int .u64 0, .int .u64 0, .int .u64 0, .int .u64 0, .int .i64 0, .int .i64 0, .sl none 0 (.ex 0)]
theorem vw_nil : Vw X L none 0 (.ex 0) [] := ⟨.nil, rfl, 0, .inl rfl, Nat.le_refl _⟩

theorem win8_le {s : List UInt8} {i k m : Nat} (h : k ≤ m) : (win8 s i k).length ≤ m := by simp [win8]; omega
theorem vl_win2 (s : List UInt8) (i : Nat) : vl (win8 s i 2) < 65536 := by
  refine Nat.lt_of_lt_of_le (vl_lt _) (Nat.le_trans (Nat.pow_le_pow_right (by decide) (?_ : _ ≤ 2)) (by decide))
  simp [win8]; omega

theorem getE_ok (n : Nat) (hn : 70000 < n) {s : List UInt8} {a : Option Pos} {l : Nat} {c : Cap} (h : Hp X S F) (hv : Vw X F a l c s) :
    Ok (ev (n + 4) (.fn 69) [.sl a l c] S) (GQ X F (getE s) (getEe s)) := by
  have hln := hv.ln
  rw [ev, F69 _ _ _ _ _ (oL rfl)]
  simp only [J69, b69_entry]
  have bad : goodE s = false → GQ X F (getE s) (getEe s) = GQ X F zE 81 := fun he => by simp [getE, getEe, he]
  have zer : ∀ (b1 : Nat) (S' : AS) (M : List Ent), goodE s = false → Hp X S' (M ++ (C b1 zrow :: F)) → Ok (S'.stn (.rw b1) 0 zrow fun S3 => S3.ldn (.rw b1) 0 7 fun g4 => some (.tup [(.agg g4), (.int .i64 81)], S3)) (GQ X F (getE s) (getEe s)) := fun b1 S' M he hh => by
    rw [bad he]
    refine ok_stn hh (by simp) (d := zrow) (by simp [splice]) (fun S3 h3 => ok_ldn h3 (by simp) (d := zrow) rfl (ok_ret ⟨none, .ex 0, [], rfl, vw_nil, h3.right.drop1⟩))
  refine ok_newA h (fun b1 S1 h1 => ok_cond (fun c1 => ?_) (fun c1 => ?_))
  · simp only [bne_iff_ne, ne_eq] at c1
    exact zer b1 S1 [] (by simp [goodE]; omega) h1
  simp only [bne_eq_false_iff_eq] at c1
  have h384 : s.length = 384 := by omega
  have v1 : Vw X (C b1 zrow :: F) a l c s := hv.mono (fun e he => by simp [he])
  refine ok_sl v1 (lo := 40) (hi := 42) (by decide) (by omega) rfl rfl (fun a5 c5 v5 => ?_)
  rw [callI_of (show evF E orcL (n + 3) (.fn 77) [.sl a5 (42 - 40) c5] S1 = _ from get_eq (n + 2) (by omega) v5 h1 (win8_le (by decide)))]
  refine ok_drawA h1 [26] (by simp) (by simp) (fun b8 S9 h9 => ?_)
  have h9' : Hp X S9 ((b8 + 26, none) :: C b1 zrow :: F) := h9
  have v9 : Vw X ((b8 + 26, none) :: C b1 zrow :: F) a l c s := hv.mono (fun e he => by simp [he])
  refine ok_sl v9 (lo := 4) (hi := 12) (by decide) (by omega) rfl rfl (fun a1 c1 w1 => ?_)
  rw [callI_of (show evF E orcL (n + 3) (.fn 77) [.sl a1 (12 - 4) c1] S9 = _ from get_eq (n + 2) (by omega) w1 h9' (win8_le (by decide)))]
  refine ok_sl v9 (lo := 12) (hi := 20) (by decide) (by omega) rfl rfl (fun a1 c1 w1 => ?_)
  rw [callI_of (show evF E orcL (n + 3) (.fn 77) [.sl a1 (20 - 12) c1] S9 = _ from get_eq (n + 2) (by omega) w1 h9' (win8_le (by decide)))]
  refine ok_sl v9 (lo := 20) (hi := 28) (by decide) (by omega) rfl rfl (fun a1 c1 w1 => ?_)
  rw [callI_of (show evF E orcL (n + 3) (.fn 77) [.sl a1 (28 - 20) c1] S9 = _ from get_eq (n + 2) (by omega) w1 h9' (win8_le (by decide)))]
  refine ok_sl v9 (lo := 28) (hi := 36) (by decide) (by omega) rfl rfl (fun a1 c1 w1 => ?_)
  rw [callI_of (show evF E orcL (n + 3) (.fn 77) [.sl a1 (36 - 28) c1] S9 = _ from get_eq (n + 2) (by omega) w1 h9' (win8_le (by decide)))]
  refine ok_sl v9 (lo := 36) (hi := 38) (by decide) (by omega) rfl rfl (fun a1 c1 w1 => ?_)
  rw [callI_of (show evF E orcL (n + 3) (.fn 77) [.sl a1 (38 - 36) c1] S9 = _ from get_eq (n + 2) (by omega) w1 h9' (win8_le (by decide)))]
  refine ok_sl v9 (lo := 38) (hi := 40) (by decide) (by omega) rfl rfl (fun a1 c1 w1 => ?_)
  rw [callI_of (show evF E orcL (n + 3) (.fn 77) [.sl a1 (40 - 38) c1] S9 = _ from get_eq (n + 2) (by omega) w1 h9' (win8_le (by decide)))]
  have k1 := vl_win2 s 40
  have k2 := vl_win2 s 36
  have k3 := vl_win2 s 38
  have kk : (42 : Nat) - 40 = 2 := rfl
  rw [show (42 : Nat) - 40 = 2 from rfl, show (12 : Nat) - 4 = 8 from rfl]
  rw [wn (x := ((vl (win8 s 40 2) : Nat) : Int)) rfl (by omega), wn (x := ((vl (win8 s 36 2) : Nat) : Int)) rfl (by omega), wn (x := ((vl (win8 s 38 2) : Nat) : Int)) rfl (by omega)]
  have hmin : (48 : Int) + (if (336 : Int) < ((vl (win8 s 40 2) : Nat) : Int) then 336 else ((vl (win8 s 40 2) : Nat) : Int)) = ((48 + min (vl (win8 s 40 2)) 336 : Nat) : Int) := by
    split <;> omega
  rw [wn hmin (by omega)]
  refine ok_sl v9 (lo := 48) (hi := 48 + min (vl (win8 s 40 2)) 336) (by omega) (by omega) rfl rfl (fun a2 c2 w2 => ?_)
  rw [Nat.add_sub_cancel_left] at w2 ⊢
  have hby : (decE s).by_ = win8 s 48 (min (vl (win8 s 40 2)) 336) := rfl
  rw [← hby] at w2
  have hbl : (decE s).by_.length = min (vl (win8 s 40 2)) 336 := by rw [hby]; simp [win8]; omega
  obtain ⟨v, S3, e3, a3, c3, L3, rfl, hs3, h3⟩ : Ok (evF E orcL (n + 3) (.fn 79) [.sl a2 (min (vl (win8 s 40 2)) 336) c2] S9) _ := clone_ok (n + 2) h9' w2 (by omega)
  rw [callL_of e3]
  refine ok_layA (b := b8 + 26) h3 (fun S4 h4 => ok_stn h4 (by simp) (d := erow (decE s) a3 (decE s).by_.length c3) (by simp [splice, erow, decE]) (fun S5 h5 => ok_ldn h5 (by simp [erow]) (d := erow (decE s) a3 (decE s).by_.length c3) rfl ?_))
  have hv5 : Vw X (L3 ++ (C (b8 + 26) (erow (decE s) a3 (decE s).by_.length c3) :: C b1 zrow :: F)) a3 (decE s).by_.length c3 (decE s).by_ := slG_vw hs3 (fun e he => by simp [he])
  obtain ⟨v, S6, e6, a6, c6, L6, rfl, hs6, h6⟩ : Ok (evF E orcL (n + 3) (.fn 36) [.agg (erow (decE s) a3 (decE s).by_.length c3)] S5) _ := putE_ok n (by omega) (decB s) h5 hv5
  rw [callT_of e6]
  refine ok_atL rfl (ok_atI rfl (ok_cond (fun cc => ?_) (fun cc => ?_)))
  · have he : okE (decE s) = false := by
      cases hk : okE (decE s) with
      | false => rfl
      | true => rw [putEe, if_pos hk] at cc; exact absurd cc (by decide)
    exact zer b1 S6 (L6 ++ (L3 ++ [C (b8 + 26) (erow (decE s) a3 (decE s).by_.length c3)])) (by simp [goodE, he]) (by simpa using h6)
  have he : okE (decE s) = true := by
    cases hk : okE (decE s) with
    | true => rfl
    | false => rw [putEe, if_neg (by simp [hk])] at cc; exact absurd cc (by decide)
  rw [show putE (decE s) = encE (decE s) by simp [putE, he]] at hs6 ⊢
  have hv6 : Vw X (L6 ++ (L3 ++ (C (b8 + 26) (erow (decE s) a3 (decE s).by_.length c3) :: C b1 zrow :: F))) a l c s := hv.mono (fun e he => by simp [he])
  rw [callB_of (show evF E orcL (n + 3) (.fn 78) [.sl a6 (encE (decE s)).length c6, .sl a l c] S6 = _ from equal_eq (n + 2) (by omega) (slG_vw hs6 (fun e he => by simp [he])) hv6 h6 (by rw [encE_len (by omega)]; decide))]
  refine ok_cond (fun cc => ?_) (fun cc => ?_)
  · simp only [Bool.not_eq_true'] at cc
    exact zer b1 S6 (L6 ++ (L3 ++ [C (b8 + 26) (erow (decE s) a3 (decE s).by_.length c3)])) (by simp only [goodE, cc, Bool.and_false]) (by simpa using h6)
  · simp only [Bool.not_eq_false'] at cc
    have hg : goodE s = true := by simp only [goodE, h384, he, cc, decide_true, Bool.and_self]
    rw [show getE s = decE s by simp [getE, hg], show getEe s = 0 by simp [getEe, hg]]
    refine ok_ldn h6 (by simp [erow]) (d := erow (decE s) a3 (decE s).by_.length c3) rfl (ok_ifO rfl (ok_stn h6 (by simp [erow]) (d := erow (decE s) a3 (decE s).by_.length c3) (by simp [splice, erow]) (fun S7 h7 => ok_ldn h7 (by simp [erow]) (d := erow (decE s) a3 (decE s).by_.length c3) rfl (ok_ret ⟨a3, c3, L3, rfl, slG_vw hs3 (fun e he => he), ?_⟩))))
    exact h7.right.sub (List.Sublist.append_left (((List.Sublist.refl F).cons _).cons _) L3)

end

end Go.Jn
