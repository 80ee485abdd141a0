/- The law JournalRoom as the evaluator runs it: acts on a journal, and how much room there is. -/
import Derived.Test.YtcepfilbiahdjaaJoV
import Derived.Test.YtcepfilbiahdjaaJoY
set_option linter.unusedVariables false
set_option linter.unusedSimpArgs false
set_option maxRecDepth 4000
namespace Go.Jn
open Go.Gr

def nds (J : JM) : List Int := J.l.map (·.need)
theorem nds_sum (J : JM) : (nds J).sum = sumN J.l := rfl
@[simp] theorem nds_len (J : JM) : (nds J).length = J.l.length := by simp [nds]

section
variable {X : Cx} {S : AS} {L F G Lj Ls Ln : List Ent} {b bj sb : Nat} {Q : AV → AS → Prop} {J : JM} {k : Nat} {t : St}

theorem live3 (n : Nat) (S : AS) (K : Bool → AS → Option (AV × AS)) (ht : Ok (K true S) Q) : Ok (callB (evF E orcL (n + 1)) 7 [] S K) Q := by
  rw [callB_of (S' := S) (v := true) (by simp [evF, orcL])]; exact ht

theorem chk (n : Nat) (hn : 2000 < n) (hJ : JI J k) (h : Hp X S (Ls ++ (Lj ++ G))) (hj : JB bj sb J Lj) {w0 w8 : Int} (h0 : w0 = J.count) (h8 : w8 = sumN J.l) {NX : AS → Option (AV × AS)} (ht : ∀ S', Hp X S' (Ls ++ (Lj ++ G)) → Ok (NX S') Q) :
    Ok (callI .i64 (evF E orcL (n + 1)) 17 [.ptr (some (.rw bj, 0))] S fun v47 S46 => cond (v47 != (IntKind.wrap .i64 ((IntKind.wrap .i64 (w0 - 2)) - w8))) (some ((.bool false), S46)) (NX S46)) Q := by
  subst h0; subst h8
  have h1 := hJ.rm
  have h2 := hJ.c6
  have h3 := hJ.c40
  have h4 := sumN_ge fun o ho => (hJ.ol o ho).1
  obtain ⟨v, S1, e1, rfl, h1'⟩ : Ok (evF E orcL (n + 1) (.fn 17) [.ptr (some (.rw bj, 0))] S) _ := room_ok n hn hJ (h.re (M := Lj ++ (Ls ++ G)) (by intro p; simp only [List.countP_append]; omega)) hj
  rw [callI_of e1]
  rw [wz (x := (J.count : Int) - 2) rfl (by omega) (by omega), wz (x := (J.count : Int) - 2 - sumN J.l) rfl (by omega) (by omega)]
  exact ok_false (by simp) (ht S1 (h1'.re (by intro p; simp only [List.countP_append]; omega)))

theorem sum_nn : ∀ {l : List Int}, (∀ x ∈ l, 0 ≤ x) → 0 ≤ l.sum
  | [], _ => by simp
  | x :: l, h => by
    have h1 := h x (by simp)
    have h2 := sum_nn fun y hy => h y (List.mem_cons_of_mem x hy)
    rw [List.sum_cons]; omega

theorem rm_loop (n0 n : Nat) (hn : 2000 < n) (hJ : JI J k) {nx : Int → Option Pos → Nat → Cap → AV → Option Pos → Option Pos → Nat → Cap → Int → Int → AS → Option (AV × AS)} {w0 : Int} (h0 : w0 = J.count) {w1a : Option Pos} {w1l : Nat} {w1c : Cap} {i : Nat} {b19 : Nat} {row : List AV} {lsn : Int} (hrow : row[2]? = some (.int .u64 lsn)) (hi : i ≤ 100) (hlsn : 0 ≤ lsn ∧ lsn ≤ 1000000)
    (hj : JB bj sb J Lj) (fin : ∀ (a : Option Pos) (l : Nat) (c : Cap) (Ln : List Ent) (S' : AS), NdR a l c (nds J) Ln → Hp X S' (Ls ++ (Lj ++ (Ln ++ (C b19 row :: F)))) → Ok (nx w0 w1a w1l w1c .undef (some (.rw bj, 0)) a l c (sumN J.l) (i + 1 : Nat) S') Q) :
    ∀ (m r : Nat) (ns : List Int) (a : Option Pos) (l : Nat) (c : Cap) (w8 w16 : Int) (Ln : List Ent) (S : AS), r < m → w16 + r = lsn → 0 ≤ w16 → r ≤ ns.length → ns.length ≤ 1000 → w8 = ns.sum → ns.drop r = nds J → (∀ x ∈ ns, 0 ≤ x ∧ x ≤ 1000) → -1000000 ≤ w8 → w8 ≤ 1000000 → NdR a l c ns Ln → Hp X S (Ls ++ (Lj ++ (Ln ++ (C b19 row :: F)))) →
      Ok (J3_l1_1_1_1_1_1_0_1_0_0_1_0_0_1_0_1_0_1_1_1_1_1_0_1_1_0_0 (evF E orcL (n + 1)) n0 nx m w0 w1a w1l w1c (some (.rw bj, 0)) a l c w8 i (some (.rw b19, 0)) w16 S) Q
  | 0, r, ns, a, l, c, w8, w16, Ln, S, hm, hr, hw, hrl, hnl, hs, hd, hb, hb1, hb2, hnd, h => by omega
  | m + 1, r, ns, a, l, c, w8, w16, Ln, S, hm, hr, hw, hrl, hnl, hs, hd, hb, hb1, hb2, hnd, h => by
    rw [J3_l1_1_1_1_1_1_0_1_0_0_1_0_0_1_0_1_0_1_1_1_1_1_0_1_1_0_0_succ]
    simp only [b3_l1_1_1_1_1_1_0_1_0_0_1_0_0_1_0_1_0_1_1_1_1_1_0_1_1_0_0]
    have hm19 : C b19 row ∈ Ls ++ (Lj ++ (Ln ++ (C b19 row :: F))) := by simp
    refine ok_gO (okM_ldI h hm19 (by simpa using hrow) ?_)
    cases r with
    | zero =>
      rw [List.drop_zero] at hd
      subst hd
      refine ok_false (by simp; omega) ?_
      rw [wn (x := (i : Int) + 1) (n := i + 1) (by omega) (by omega)]
      rw [nds_sum] at hs
      subst hs
      exact chk n hn hJ h hj h0 rfl (fun S' h' => fin a l c Ln S' hnd h')
    | succ r =>
      refine ok_true (by simp; omega) ?_
      rcases hnd with ⟨_, _, _, rfl, _⟩ | ⟨bn, pre, rfl, rfl, rfl, rfl⟩
      · simp at hrl
      obtain ⟨x, rest, rfl⟩ : ∃ x rest, ns = x :: rest := by
        cases ns with
        | nil => simp at hrl
        | cons x rest => exact ⟨x, rest, rfl⟩
      have hx := hb x (by simp)
      refine ok_true (by simp) (ok_ixSl (k := 0) rfl (by simp) ?_)
      have hmn : C bn ((pre ++ x :: rest).map (AV.int .i64)) ∈ Ls ++ (Lj ++ ([C bn ((pre ++ x :: rest).map (AV.int .i64))] ++ (C b19 row :: F))) := by simp
      refine okM_ldI h hmn (n := x) (by simp) ?_
      have hsl : ∀ (K : Option Pos → Nat → Cap → Option (AV × AS)), slSl 1 (some (Bid.rw bn, pre.length)) (x :: rest).length (.op 1 (x :: rest).length) (some 1) none none K = K (some (.rw bn, pre.length + 1)) rest.length (.op 1 rest.length) := fun K => by
        simp [slSl, optIx, ix]
      rw [hsl]
      rw [List.sum_cons] at hs
      have hrest : 0 ≤ rest.sum := sum_nn fun y hy => (hb y (by simp [hy])).1
      rw [wz (x := w8 - x) (z := rest.sum) (by omega) (by omega) (by omega), wu64 (n := w16 + 1) (by omega) (by omega)]
      refine rm_loop n0 n hn hJ h0 hrow hi hlsn hj fin m r rest _ _ _ rest.sum (w16 + 1) [C bn ((pre ++ x :: rest).map (AV.int .i64))] S (by omega) (by omega) (by omega) (by simp at hrl; omega) (by simp at hnl; omega) rfl (by simpa using hd) (fun y hy => hb y (by simp [hy])) (by omega) (by omega) (.inr ⟨bn, pre ++ [x], by simp, rfl, rfl, by simp⟩) h

theorem room_loop2 (n0 n : Nat) (hn : 1000020 < n) (hn0 : 1000 < n0) {count : Nat} {acts : List Ac} (hacts : acts.length ≤ 30) (htx : ∀ y ∈ acts, y.tx.length ≤ 300) (hB : ∀ y ∈ acts, AcB X F y) {a1 : Option Pos} {c1 : Cap} (hr1 : RdR X F a1 (acrows acts).flatten) :
    ∀ (m i : Nat) (w4 : AV) (J : JM) (t : St) (a : Option Pos) (l : Nat) (c : Cap) (Ls Lj Ln M : List Ent) (S : AS), i ≤ acts.length → acts.length - i < m → J.count = count → JI J (10 + 40 * i) → StB sb t Ls → SI t J.count (40 * i) → JB bj sb J Lj → NdR a l c (nds J) Ln → Hp X S (Ls ++ (Lj ++ (Ln ++ (M ++ F)))) →
      Ok (J3_l1_1_1_1_1_1_0_1_0 (evF E orcL (n + 8)) n0 m count a1 acts.length c1 w4 (some (.rw bj, 0)) a l c (sumN J.l) i S) TrueQ
  | 0, i, w4, J, t, a, l, c, Ls, Lj, Ln, M, S, hi, hm, hJc, hJ, hb, hSI, hj, hnd, h => by omega
  | m + 1, i, w4, J, t, a, l, c, Ls, Lj, Ln, M, S, hi, hm, hJc, hJ, hb, hSI, hj, hnd, h => by
    have h38 := hJ.lcount
    have q1 := hJ.rm
    have q2 := hJ.c40
    have q3 := hJ.c6
    have q4 := sumN_ge fun o ho => (hJ.ol o ho).1
    rw [J3_l1_1_1_1_1_1_0_1_0_succ]
    simp only [b3_l1_1_1_1_1_1_0_1_0]
    refine ok_cond (fun hc => ?_) (fun hc => live3 (n + 7) S _ (ok_ret rfl))
    simp only [decide_eq_true_eq] at hc
    have hlt : i < acts.length := by omega
    obtain ⟨y, hy⟩ : ∃ y, acts[i]? = some y := ⟨_, List.getElem?_eq_getElem hlt⟩
    have hym := List.mem_of_getElem? hy
    have hyB := hB y hym
    have hyx := htx y hym
    obtain ⟨p, hp⟩ := ac_some hr1 hlt
    have hr2 : ∀ {M : List Ent} {cs : List AV}, RdR X M a1 cs → RdR X M (some p) cs := fun h => by rw [← hp]; exact h
    rw [show ixSl 5 a1 acts.length (i : Int) = ixSl 5 (some p) acts.length (i : Int) by rw [hp]]
    rw [ixSl_at rfl hlt, (hr2 (hr1.mono (fun e he => by simp [he]))).elem h (acrows_all _) (acrows_at hy)]
    refine ok_newA h (fun b19 S20 h20 => ok_ifO rfl (ok_stn h20 (by simp [acrow]) (d := acrow y) (by simp [splice, acrow]) (fun S21 h21 => ok_ldI h21 rfl ?_)))
    rw [wn (x := (i : Int) + 1) (n := i + 1) (by omega) (by omega)]
    have go : ∀ (J' : JM) (t' : St) (a' : Option Pos) (l' : Nat) (c' : Cap) (w4' : AV) (Ls' Lj' Ln' M' : List Ent) (S' : AS), J'.count = count → JI J' (10 + 40 * (i + 1)) → StB sb t' Ls' → SI t' J'.count (40 * (i + 1)) → JB bj sb J' Lj' → NdR a' l' c' (nds J') Ln' → Hp X S' (Ls' ++ (Lj' ++ (Ln' ++ (M' ++ F)))) →
        Ok (J3_l1_1_1_1_1_1_0_1_0 (evF E orcL (n + 8)) n0 m count a1 acts.length c1 w4' (some (.rw bj, 0)) a' l' c' (sumN J'.l) (i + 1 : Nat) S') TrueQ := fun J' t' a' l' c' w4' Ls' Lj' Ln' M' S' g1 g2 g3 g4 g5 g6 g7 =>
      room_loop2 n0 n hn hn0 hacts htx hB hr1 m (i + 1) w4' J' t' a' l' c' Ls' Lj' Ln' M' S' (by omega) (by omega) g1 g2 g3 g4 g5 g6 g7
    have hup : JI J (10 + 40 * (i + 1)) := hJ.up (by omega) (by omega)
    have h21s : Hp X S21 (Ls ++ (Lj ++ (Ln ++ (C b19 (acrow y) :: (M ++ F))))) := h21.re (by intro p; simp only [List.countP_append, List.countP_cons, C]; omega)
    refine ok_cond (fun k1 => ?_) (fun k1 => ok_cond (fun k2 => ?_) (fun k2 => ok_cond (fun k3 => ?_) (fun k3 => ?_)))
    · -- appended
      refine ok_ldL h21s rfl ?_
      have sub1 : ∀ e ∈ F, e ∈ Ls ++ (Lj ++ (Ln ++ (C b19 (acrow y) :: (M ++ F)))) := fun e he => by simp [he]
      obtain ⟨v, S24, e24, a24, c24, L24, rfl, hs24, h24⟩ : Ok (evF E orcL (n + 8) (.fn 9) [.sl y.ta y.tx.length y.tc] S21) _ := rputT_ok (n + 6) (by omega) h21s (hyB.rt.mono sub1) (hyB.vt.mono sub1)
      rw [callT_of e24]
      refine ok_atL rfl (ok_atI rfl (ok_ldL h24 rfl ?_))
      rw [callI_of (need_eq (n + 7) _ S24)]
      refine ok_ldL h24 rfl ?_
      have sub2 : ∀ e ∈ F, e ∈ L24 ++ (Ls ++ (Lj ++ (Ln ++ (C b19 (acrow y) :: (M ++ F))))) := fun e he => by simp [he]
      obtain ⟨v, S32, e32, qs, a32, c32, Lr, Ld, rfl, hP, hs32, hd32, h32⟩ : Ok (evF E orcL (n + 8) (.fn 12) [.sl y.ta y.tx.length y.tc] S24) _ := own_ok (n + 7) (by omega) (by omega) h24 (hyB.rt.mono sub2) (hyB.vt.mono sub2) hyB.lt
      rw [callL_of e32]
      have h32s : Hp X S32 (Ls ++ (Lj ++ (Lr ++ (Ld ++ (L24 ++ (Ln ++ (C b19 (acrow y) :: (M ++ F)))))))) := h32.re (by intro p; simp only [List.countP_append, List.countP_cons]; omega)
      obtain ⟨v, S34, e34, x34, t', Ls', Lj', rfl, hb', hSI', hj', h34⟩ : Ok (evF E orcL (n + 8) (.fn 11) [.ptr (some (.rw bj, 0)), .sl a32 qs.length c32] S32) _ := append_ok (n + 4) (by omega) hJ (K := 40 * i) (by omega) hSI h32s hj hb (hs32.rd (fun e he => by simp [he])) (hd32.mono (fun e he => by simp [he]))
      rw [callT_of e34]
      rw [hP] at hj' ⊢
      refine ok_atI rfl (ok_atI rfl ?_)
      have hJ' : JI (J.ap (pts y.tx)) (10 + 40 * (i + 1)) := by
        have := hJ.ap (p := pts y.tx) (by omega)
        exact this.up (by omega) (by omega)
      have hcnt : (J.ap (pts y.tx)).count = count := by unfold JM.ap; split <;> exact hJc
      have hcnt2 : (J.ap (pts y.tx)).count = J.count := by rw [hcnt, hJc]
      have hSI2 : SI t' (J.ap (pts y.tx)).count (40 * (i + 1)) := ⟨by rw [hcnt2]; exact hSI'.len, hSI'.f, by have := hSI'.q; omega, hSI'.r⟩
      have h34s : Hp X S34 (Ls' ++ (Lj' ++ (Ln ++ ((Lr ++ (Ld ++ (L24 ++ (C b19 (acrow y) :: M)))) ++ F)))) := h34.re (by intro p; simp only [List.countP_append, List.countP_cons, List.cons_append]; omega)
      have keep : J.apE (pts y.tx) ≠ 0 → J.ap (pts y.tx) = J := fun he => by rw [JM.ap, if_neg he]
      have noneCase : J.apE (pts y.tx) ≠ 0 → ∀ S', Hp X S' (Ls' ++ (Lj' ++ (Ln ++ ((Lr ++ (Ld ++ (L24 ++ (C b19 (acrow y) :: M)))) ++ F)))) → Ok (callI .i64 (evF E orcL (n + 8)) 17 [.ptr (some (.rw bj, 0))] S' fun v49 S48 => cond (v49 != (IntKind.wrap .i64 ((IntKind.wrap .i64 ((count : Int) - 2)) - sumN J.l))) (some ((.bool false), S48)) (J3_l1_1_1_1_1_1_0_1_0 (evF E orcL (n + 8)) n0 m count a1 acts.length c1 w4 (some (.rw bj, 0)) a l c (sumN J.l) (i + 1 : Nat) S48)) TrueQ := fun he S' h' => by
        have hk := keep he
        rw [hk] at hj' hSI2
        exact chk (n + 7) (by omega) hup h' hj' (by rw [hJc]) rfl (fun S'' h'' => go J t' a l c w4 Ls' Lj' Ln _ S'' hJc hup hb' hSI2 hj' hnd h'')
      have pushCase : J.apE (pts y.tx) = 0 → ∀ S', Hp X S' (Ls' ++ (Lj' ++ (Ln ++ ((Lr ++ (Ld ++ (L24 ++ (C b19 (acrow y) :: M)))) ++ F)))) → Ok (newA S' (.cells [(.int .i64 (needI (y.tx.length : Nat)))]) fun b42 S43 =>
          appendA 1 8 S43 a l c 1 (firstA S43 1 1 (.sl (some (.rw b42, 0)) 1 (.ex 1))) fun v44a v44l v44c S45 =>
          callI .i64 (evF E orcL (n + 8)) 17 [(.ptr (some (.rw bj, 0)))] S45 fun v47 S46 =>
          cond (v47 != (IntKind.wrap .i64 ((IntKind.wrap .i64 ((count : Int) - 2)) - (IntKind.wrap .i64 (sumN J.l + needI (y.tx.length : Nat)))))) (
          some ((.bool false), S46)) (
          J3_l1_1_1_1_1_1_0_1_0 (evF E orcL (n + 8)) n0 m count a1 acts.length c1 w4 (some (.rw bj, 0)) v44a v44l v44c (IntKind.wrap .i64 (sumN J.l + needI (y.tx.length : Nat))) (i + 1 : Nat) S46)) TrueQ := fun he S' h' => by
        obtain ⟨g1, g2⟩ := apE_iff.1 he
        have g3 := g1
        simp only [okT, Bool.and_eq_true, decide_eq_true_eq, pts_len] at g3
        rw [pts_len] at g2
        have hnd1 := needI_of (n := ((y.tx.length : Nat) : Int)) (by omega) (by omega)
        have hap : (J.ap (pts y.tx)).l = J.l ++ [⟨needI (y.tx.length : Nat), J.sup.bo, J.se + 1⟩] := by rw [JM.ap, if_pos he, pts_len]
        have hnds : nds (J.ap (pts y.tx)) = nds J ++ [needI (y.tx.length : Nat)] := by rw [nds, hap]; simp [nds]
        have hsum : sumN (J.ap (pts y.tx)).l = sumN J.l + needI (y.tx.length : Nat) := by rw [hap, sumN_snoc]
        rw [wz (x := sumN J.l + needI (y.tx.length : Nat)) (z := sumN (J.ap (pts y.tx)).l) (by omega) (by omega) (by omega)]
        refine ok_newA h' (fun b42 S43 h43 => ?_)
        have h43' : Hp X S43 (Ln ++ (C b42 [.int .i64 (needI (y.tx.length : Nat))] :: (Ls' ++ (Lj' ++ ((Lr ++ (Ld ++ (L24 ++ (C b19 (acrow y) :: M)))) ++ F))))) := h43.re (by intro p; simp only [List.countP_append, List.countP_cons, List.cons_append, C]; omega)
        refine nd_push (by simp; omega) hnd h43' (fun a5 l5 c5 L5 S45 hnd5 h45 => ?_)
        rw [← hnds] at hnd5
        exact chk (n + 7) (by omega) hJ' (h45.re (M := Ls' ++ (Lj' ++ (L5 ++ ((Lr ++ (Ld ++ (L24 ++ (C b19 (acrow y) :: M)))) ++ F)))) (by intro p; simp only [List.countP_append, List.countP_cons, List.cons_append]; omega)) hj' (by rw [hcnt]) rfl (fun S'' h'' => go _ t' a5 l5 c5 w4 Ls' Lj' L5 _ S'' hcnt hJ' hb' hSI2 hj' hnd5 h'')
      refine ok_cond (fun c2 => ?_) (fun c2 => ?_)
      · have hk : okT (pts y.tx) = true := by
          cases hk : okT (pts y.tx) with
          | true => rfl
          | false => rw [putTe, if_neg (by simp [hk])] at c2; exact absurd c2 (by decide)
        rw [callI_of (num_eq (n + 7) _ S34)]
        rw [wz (x := (count : Int) - 2) rfl (by omega) (by omega), wz (x := (count : Int) - 2 - sumN J.l) rfl (by omega) (by omega)]
        have hiff : (J.apE (pts y.tx) == 0) = decide (needI (y.tx.length : Nat) ≤ (count : Int) - 2 - sumN J.l) := by
          by_cases he : J.apE (pts y.tx) = 0
          · have := (apE_iff.1 he).2
            rw [pts_len, hJc] at this
            rw [he]; simp [this]
          · have : ¬ (needI (y.tx.length : Nat) ≤ (count : Int) - 2 - sumN J.l) := fun hle => he (apE_iff.2 ⟨hk, by rw [pts_len, hJc]; exact hle⟩)
            simp [he, this]
        refine ok_false (by rw [hiff]; simp) ?_
        rw [callI_of (num_eq (n + 7) _ S34)]
        refine ok_cond (fun c4 => ?_) (fun c4 => ?_)
        · simp only [beq_iff_eq] at c4
          have := pushCase c4 S34 h34s
          rwa [wz (x := (count : Int) - 2) rfl (by omega) (by omega)] at this
        · simp only [beq_eq_false_iff_ne, ne_eq] at c4
          have := noneCase c4 S34 h34s
          rwa [wz (x := (count : Int) - 2) rfl (by omega) (by omega), wz (x := (count : Int) - 2 - sumN J.l) rfl (by omega) (by omega)] at this
      · have hk : okT (pts y.tx) = false := by
          cases hk : okT (pts y.tx) with
          | false => rfl
          | true => rw [putTe, if_pos hk] at c2; exact absurd c2 (by decide)
        have he : J.apE (pts y.tx) ≠ 0 := fun he => by
          have := (apE_iff.1 he).1
          rw [hk] at this; cases this
        rw [callI_of (num_eq (n + 7) _ S34)]
        exact ok_false (by simpa using he) (noneCase he S34 h34s)
    · -- synced
      obtain ⟨v, S60, e60, rfl, t', Ls', Lj', hb', hSI', hj', h60⟩ : Ok (evF E orcL (n + 8) (.fn 14) [.ptr (some (.rw bj, 0))] S21) _ := sync_ok (n + 6) (by omega) hJ (K := 40 * i) (by omega) hSI h21s hj hb
      rw [callI_of e60]
      have hS : JI J.sync (10 + 40 * (i + 1)) := hJ.sync.up (by omega) (by omega)
      exact chk (n + 7) (by omega) hS h60 hj' (by show (count : Int) = (J.count : Int); rw [hJc]) rfl (fun S'' h'' => go J.sync t' a l c w4 Ls' Lj' Ln (C b19 (acrow y) :: M) S'' hJc hS hb' ⟨hSI'.len, hSI'.f, by have := hSI'.q; omega, hSI'.r⟩ hj' hnd h'')
    · -- trimmed
      have h21j : Hp X S21 (Lj ++ (Ls ++ (Ln ++ (C b19 (acrow y) :: (M ++ F))))) := h21s.re (by intro p; simp only [List.countP_append]; omega)
      rw [callI_of (show evF E orcL (n + 8) (.fn 15) [.ptr (some (.rw bj, 0))] S21 = _ from trimmed_eq (n + 7) h21j hj)]
      refine ok_ldI h21s rfl ?_
      obtain ⟨v, S67, e67, rfl, t', Ls', Lj', hb', hSI', hj', h67⟩ : Ok (evF E orcL (n + 8) (.fn 16) [.ptr (some (.rw bj, 0)), .int .u64 y.lsn] S21) _ := trim_ok (n + 3) (by omega) hJ (K := 40 * i) (by omega) hSI hyB.ll h21s hj hb
      rw [callI_of e67, callI_of (num_eq (n + 7) _ S67)]
      have hT : JI (J.tr y.lsn) (10 + 40 * (i + 1)) := by
        have := hJ.tr (lsn := y.lsn) (by omega)
        exact this.up (by omega) (by omega)
      have hcnt : (J.tr y.lsn).count = count := by unfold JM.tr; split <;> exact hJc
      have hcnt2 : (J.tr y.lsn).count = J.count := by rw [hcnt, hJc]
      have hSI2 : SI t' (J.tr y.lsn).count (40 * (i + 1)) := ⟨by rw [hcnt2]; exact hSI'.len, hSI'.f, by have := hSI'.q; omega, hSI'.r⟩
      refine ok_cond (fun c2 => ?_) (fun c2 => ?_)
      · simp only [beq_iff_eq] at c2
        obtain ⟨g1, g2⟩ := trN_le hJ c2
        have g3 := trE_iff.1 c2
        have hls := hJ.ls
        have hsy := hJ.sy
        have hdrop : (nds J).drop (J.trN y.lsn) = nds (J.tr y.lsn) := by
          unfold JM.tr
          by_cases he : y.lsn = J.sup.ls
          · rw [if_neg (fun h => h.2 he)]
            have : J.trN y.lsn = 0 := by omega
            rw [this, List.drop_zero]
          · rw [if_pos ⟨c2, he⟩]
            show (J.l.map (·.need)).drop _ = (J.l.drop _).map (·.need)
            rw [List.map_drop]
        refine rm_loop (J := J.tr y.lsn) (Lj := Lj') (Ls := Ls') (F := M ++ F) (row := acrow y) (lsn := y.lsn) n0 (n + 7) (by omega) hT (by rw [hcnt]) rfl (by omega) (by omega) hj' (fun a' l' c' Ln' S' hnd' h' => go _ t' a' l' c' .undef Ls' Lj' Ln' (C b19 (acrow y) :: M) S' hcnt hT hb' hSI2 hj' hnd' h') n0 (J.trN y.lsn) (nds J) a l c (sumN J.l) J.sup.ls Ln S67 (by omega) (by omega) (by omega) (by rw [nds_len]; exact g1) (by rw [nds_len]; omega) (nds_sum J).symm hdrop (fun x hx => ?_) (by omega) (by omega) hnd h67
        obtain ⟨o, ho, rfl⟩ := List.mem_map.1 hx
        have := hJ.ol o ho
        omega
      · simp only [beq_eq_false_iff_ne, ne_eq] at c2
        have hk : J.tr y.lsn = J := by rw [JM.tr, if_neg (fun h => c2 h.1)]
        rw [hk] at hj' hSI2
        exact chk (n + 7) (by omega) hup h67 hj' (by rw [hJc]) rfl (fun S'' h'' => go J t' a l c w4 Ls' Lj' Ln (C b19 (acrow y) :: M) S'' hJc hup hb' hSI2 hj' hnd h'')
    · exact chk (n + 7) (by omega) hup h21s hj (by rw [hJc]) rfl (fun S'' h'' => go J t a l c w4 Ls Lj Ln (C b19 (acrow y) :: M) S'' hJc hup hb ⟨hSI.len, hSI.f, by have := hSI.q; omega, hSI.r⟩ hj hnd h'')

theorem room_run (n : Nat) (hn : 1000020 < n) (x : Int) {acts : List Ac} {a1 : Option Pos} {c1 : Cap} (hl : acts.length ≤ 1048576) (hB : ∀ y ∈ acts, AcB X F y) (hr1 : RdR X F a1 (acrows acts).flatten) (h : Hp X S F) :
    Ok (ev (n + 9) (.fn 3) [.int .i64 x, .sl a1 acts.length c1] S) TrueQ := by
  rw [ev, F3 _ _ _ _ _ _ (oL rfl)]
  simp only [J3, b3_entry]
  obtain ⟨v, S1, e1, r, rfl, rfl, hr⟩ : Ok (evF E orcL (n + 8) (.fn 6) [.sl a1 acts.length c1] S) _ := long_ok (n + 7) (by omega) hB hl hr1 h
  rw [callB_of e1]
  refine ok_cond (fun _ => live3 (n + 7) _ _ (ok_ret rfl)) (fun hc => ?_)
  obtain ⟨g1, g2⟩ := hr hc
  have htx : ∀ y ∈ acts, y.tx.length ≤ 300 := fun y hy => by
    have := wts_mem hy
    unfold wt at this
    omega
  by_cases hx : 6 ≤ x ∧ x ≤ 40
  · obtain ⟨count, rfl⟩ : ∃ count : Nat, x = count := ⟨x.toNat, by omega⟩
    obtain ⟨v, S2, e2, sb, bj, t, Ls, Lj, rfl, hb, hSI, hj, h2⟩ : Ok (evF E orcL (n + 8) (.fn 8) [.int .i64 count] S1) _ := begun_ok n (by omega) (by omega) (by omega) h
    rw [callT_of e2]
    refine ok_atP rfl (ok_atP rfl (ok_false rfl (ok_false rfl ?_)))
    exact room_loop2 (sb := sb) (n + 8) n hn (by omega) g1 htx hB hr1 (n + 8) 0 (.bool false) (J1 count) t none 0 (.ex 0) Ls Lj [] [] S2 (by omega) (by omega) rfl (J1_JI (by omega) (by omega)) hb hSI hj (.inl ⟨rfl, rfl, rfl, rfl, rfl⟩) h2
  · have hbg : evF E orcL (n + 8) (.fn 8) [.int .i64 x] S1 = some (.tup [.ptr none, .ptr none], S1) := by
      apply ok_eq
      rw [F8 _ _ _ (oL rfl)]
      simp only [J8, b8_entry]
      refine ok_cond (fun _ => ok_ret ⟨rfl, rfl⟩) (fun d1 => ok_cond (fun _ => ok_ret ⟨rfl, rfl⟩) (fun d2 => ?_))
      simp only [decide_eq_false_iff_not, gt_iff_lt] at d1 d2
      omega
    rw [callT_of hbg]
    refine ok_atP rfl (ok_atP rfl (ok_true rfl (ok_cond (fun _ => live3 (n + 7) _ _ (ok_ret rfl)) (fun d1 => ok_cond (fun _ => live3 (n + 7) _ _ (ok_ret rfl)) (fun d2 => ?_)))))
    simp only [decide_eq_false_iff_not, gt_iff_lt] at d1 d2
    omega

end

end Go.Jn
