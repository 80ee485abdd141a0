/- The law CatalogMore: its run. -/
import Derived.Test.YteakdhikjddogaaDoorCtN
set_option linter.unusedVariables false
set_option linter.unusedSimpArgs false
set_option maxRecDepth 4000
namespace Go.Ct
open Go.Gr

/-- A rule with a least count. -/
def raise1 (cnt : Int) (r : Int × Int) : Int × Int := if r.2 < cnt then (r.1, cnt) else r
theorem raise1_fst (cnt : Int) (r : Int × Int) : (raise1 cnt r).1 = r.1 := by unfold raise1; split <;> rfl
theorem raise1_snd (cnt : Int) (r : Int × Int) : r.2 ≤ (raise1 cnt r).2 := by
  unfold raise1
  split
  · show r.2 ≤ cnt; omega
  · exact Int.le_refl _
def raiseTo (cnt : Int) (rs : List (Int × Int)) (i : Nat) : List (Int × Int) := (rs.take i).map (raise1 cnt) ++ rs.drop i
@[simp] theorem raiseTo_len (cnt : Int) (rs : List (Int × Int)) (i : Nat) : (raiseTo cnt rs i).length = rs.length := by
  simp [raiseTo]; omega
theorem raiseTo_at {cnt : Int} {rs : List (Int × Int)} {i : Nat} {r : Int × Int} (h : rs[i]? = some r) : (raiseTo cnt rs i)[i]? = some r := by
  have hlt := (List.getElem?_eq_some_iff.1 h).1
  have hl : ((rs.take i).map (raise1 cnt)).length = i := by simp; omega
  rw [raiseTo, List.getElem?_append_right (by omega), hl, Nat.sub_self, List.getElem?_drop, Nat.add_zero, h]
theorem raiseTo_succ {cnt : Int} {rs : List (Int × Int)} {i : Nat} {r : Int × Int} (h : rs[i]? = some r) : raiseTo cnt rs (i + 1) = (raiseTo cnt rs i).set i (raise1 cnt r) := by
  obtain ⟨hlt, he⟩ := List.getElem?_eq_some_iff.1 h
  have hl : ((rs.take i).map (raise1 cnt)).length = i := by simp; omega
  rw [raiseTo, raiseTo, List.set_append_right _ _ (by omega), hl, Nat.sub_self, List.take_add_one, h, List.drop_eq_getElem_cons hlt, he]
  simp
theorem raiseTo_all (cnt : Int) (rs : List (Int × Int)) : raiseTo cnt rs rs.length = rs.map (raise1 cnt) := by simp [raiseTo]

theorem rb_raise {last last2 cnt : Int} {rs : List (Int × Int)} (h : RsB last rs) (h1 : -9223372036854775808 ≤ last2) (h2 : last2 < 9223372036854775808) (h3 : 0 ≤ cnt) (h4 : cnt ≤ 300) : RsB last2 (rs.map (raise1 cnt)) := by
  refine ⟨h1, h2, fun r hr => ?_, fun r hr => ?_, fun r hr => ?_, fun r hr => ?_⟩ <;> obtain ⟨s, hs, rfl⟩ := List.mem_map.1 hr
  · rw [raise1_fst]; exact h.e1 s hs
  · rw [raise1_fst]; exact h.e2 s hs
  · have := raise1_snd cnt s
    have := h.c1 s hs
    omega
  · have := h.c2 s hs
    unfold raise1
    split
    · show cnt < _; omega
    · exact this

theorem wrong_raise {last last2 cnt : Int} {rs : List (Int × Int)} (h : wrongB last rs = false) (hl : last ≤ last2) : wrongB last2 (rs.map (raise1 cnt)) = false := by
  obtain ⟨h1, h2, h3⟩ := wrong_false h
  simp only [wrongB, Bool.or_eq_false_iff, decide_eq_false_iff_not, List.length_map]
  refine ⟨by omega, by omega, List.any_eq_false.2 fun r hr => ?_⟩
  obtain ⟨s, hs, rfl⟩ := List.mem_map.1 hr
  have := raise1_snd cnt s
  have := h3 s hs
  simp only [bad, Bool.or_eq_true, decide_eq_true_eq, not_or]
  rw [raise1_fst]
  exact ⟨this.1, by omega⟩

theorem keep_more {last last2 cnt : Int} {rs : List (Int × Int)} {ts : List Int} {j : Nat} (hw : wrongB last rs = false) (hl : last ≤ last2) (h : keepAt last rs ts j = true) : keepAt last2 (rs.map (raise1 cnt)) ts j = true := by
  simp only [keepAt, hw, Bool.false_or, Bool.or_eq_true, decide_eq_true_eq, List.any_eq_true] at h
  simp only [keepAt, Bool.or_eq_true, decide_eq_true_eq, List.any_eq_true]
  right
  rcases h with h | ⟨r, hr, h⟩
  · left; omega
  · right
    refine ⟨raise1 cnt r, List.mem_map_of_mem hr, ?_⟩
    have e : qt (raise1 cnt r) ts = qt r ts := by simp only [qt, raise1_fst]
    rw [e]
    exact ruleAt_mono (raise1_snd cnt r) h

theorem keepL_at {last : Int} {rs : List (Int × Int)} {ts : List Int} {j : Nat} (hj : j < ts.length) : (keepL last rs ts)[j]? = some (keepAt last rs ts j) := by
  rw [keepL, List.getElem?_map, List.getElem?_range hj]; rfl

section
variable {X : Cx} {S : AS} {L F : List Ent} {b : Nat} {Q : AV → AS → Prop}

theorem more_end (n0 n : Nat) {last : Int} {ra : Option Pos} {rl : Nat} {rc : Cap} {ta : Option Pos} {tc : Cap} {len : Nat} (hlen : len ≤ 300) {A B : Nat → Bool} {oA oB : List Bool} (lA : oA.length = len) (lB : oB.length = len) (hA : ∀ j, j < len → oA[j]? = some (A j)) (hB : ∀ j, j < len → oB[j]? = some (B j))
    (hm : ∀ j, j < len → A j = true → B j = true) (hlast : ∀ j, j < len → (len : Int) - j ≤ last → A j = true) {bp ba bb : Nat}
    (h : Hp X S (C bb (oB.map AV.bool) :: C ba (oA.map AV.bool) :: C bp (polV last ra rl rc) :: F)) :
    ∀ (m i : Nat) (w2 : AV), i ≤ len → len - i < m → Ok (J4_l1_1_1_1_1_1_1_1_0_1_0 (evF E orcL (n + 1)) n0 m w2 (some (.rw bp, 0)) ta len tc (some (.rw ba, 0)) len (.ex len) (some (.rw bb, 0)) len (.ex len) i S) TrueQ
  | 0, i, w2, hi, hmm => by omega
  | m + 1, i, w2, hi, hmm => by
    rw [J4_l1_1_1_1_1_1_1_1_0_1_0_succ]
    simp only [b4_l1_1_1_1_1_1_1_1_0_1_0]
    refine ok_cond (fun hc => ?_) (fun hc => live_ok n S)
    simp only [decide_eq_true_eq] at hc
    have hlt : i < len := by omega
    have ia := bool_at (hA i hlt)
    have ib := bool_at (hB i hlt)
    have ih := more_end n0 n hlen lA lB hA hB hm hlast (ta := ta) (tc := tc) h m (i + 1) w2 (by omega) (by omega)
    rw [wn (x := (i : Int) + 1) (n := i + 1) (by omega) (by omega), wz (z := (len : Int) - i) rfl (by omega) (by omega)]
    refine ok_ixSl (k := i) rfl hlt ?_
    simp only [Nat.zero_add, Nat.mul_one]
    refine ok_ldB h ia (ok_cond (fun c1 => ?_) (fun c1 => ?_))
    · refine ok_ixSl (k := i) rfl hlt ?_
      simp only [Nat.zero_add, Nat.mul_one]
      refine ok_ldB h ib (ok_false (by rw [hm i hlt c1]; rfl) (ok_gO (ok_ldI h rfl (ok_cond (fun c2 => ?_) (fun c2 => ih)))))
      refine ok_ixSl (k := i) rfl hlt ?_
      simp only [Nat.zero_add, Nat.mul_one]
      exact ok_ldB h ia (ok_false (by rw [c1]; rfl) ih)
    · refine ok_gO (ok_ldI h rfl (ok_false ?_ ih))
      cases hd : decide ((len : Int) - i ≤ last) with
      | false => rfl
      | true =>
        simp only [decide_eq_true_eq] at hd
        rw [hlast i hlt hd] at c1
        cases c1

theorem more_loop (n0 n : Nat) (hn : 70000 < n) (hn0 : 1000 < n0) {last last2 cnt : Int} (hc0 : 0 ≤ cnt) (hc3 : cnt ≤ 300) (hll : last ≤ last2) (hl2 : last2 < 9223372036854775808) {ra : Option Pos} {rc : Cap} {rs : List (Int × Int)} (hB : RsB last rs) (hw : wrongB last rs = false) (hra : RdR X F ra (rrows rs).flatten) {ta : Option Pos} {tc : Cap} {ts : List Int} (hup : Up ts) (hta : RdR X F ta (u64s ts)) {bp bm : Nat} {ma : Option Pos} {mc : Cap} :
    ∀ (m i : Nat) (Lr : List Ent) (S : AS), i ≤ rs.length → rs.length - i < m → SlR ma rs.length mc 2 (rrows (raiseTo cnt rs i)) Lr → Hp X S (Lr ++ (C bm (polV last2 ma rs.length mc) :: C bp (polV last ra rs.length rc) :: F)) →
      Ok (J4_l1_1_1_1_1_0_1_0 (evF E orcL (n + 3)) n0 m (some (.rw bp, 0)) ta ts.length tc cnt (some (.rw bm, 0)) i S) TrueQ
  | 0, i, Lr, S, hi, hm, hs, h => by omega
  | m + 1, i, Lr, S, hi, hm, hs, h => by
    have hlen := hup.n
    have hrl := (wrong_false hw).2.1
    rw [J4_l1_1_1_1_1_0_1_0_succ]
    simp only [b4_l1_1_1_1_1_0_1_0]
    refine ok_gO (ok_ldL h rfl (ok_cond (fun hc => ?_) (fun hc => ?_)))
    · simp only [decide_eq_true_eq] at hc
      have hlt : i < rs.length := by omega
      obtain ⟨r, hri⟩ : ∃ r, rs[i]? = some r := ⟨_, List.getElem?_eq_getElem hlt⟩
      rcases hs.dest with ⟨_, h0, _, _, _⟩ | ⟨bt, rfl, _, hcc, rfl, hall⟩
      · omega
      have hri2 := rrows_at (raiseTo_at (cnt := cnt) hri)
      have next : ∀ (S : AS), Hp X S ([C bt (rrows (raiseTo cnt rs (i + 1))).flatten] ++ (C bm (polV last2 (some (.rw bt, 0)) rs.length mc) :: C bp (polV last ra rs.length rc) :: F)) → Ok (J4_l1_1_1_1_1_0_1_0 (evF E orcL (n + 3)) n0 m (some (.rw bp, 0)) ta ts.length tc cnt (some (.rw bm, 0)) (IntKind.wrap .i64 (i + 1)) S) TrueQ := by
        intro S1 h1
        rw [wn (x := (i : Int) + 1) (n := i + 1) (by omega) (by omega)]
        exact more_loop n0 n hn hn0 hc0 hc3 hll hl2 hB hw hra hup hta m (i + 1) _ S1 (by omega) (by omega) (.of (rrows_all _) (by simp) (by simpa using hcc)) h1
      refine ok_gO (ok_ldL h rfl (ok_ixSl (k := i) rfl hlt ?_))
      refine ok_ldI h (by have := flat_get (j := 1) (rrows_all _) hri2 (by omega); simpa [rrow] using this) ?_
      refine ok_cond (fun c1 => ?_) (fun c1 => ?_)
      · simp only [decide_eq_true_eq] at c1
        refine ok_gO (ok_ldL h rfl (ok_ixSl (k := i) rfl hlt ?_))
        have hfl : (rrows (raiseTo cnt rs i)).flatten.length = rs.length * 2 := by rw [flat_len (rrows_all _)]; simp
        refine ok_stn h (by rw [hfl]; simp; omega) (d := (rrows (raiseTo cnt rs (i + 1))).flatten) ?_ (fun S2 h2 => next S2 h2)
        have := flat_splice_in (j := 1) (vs := [AV.int .i64 cnt]) (rrows_all _) hri2 (by simp)
        simp only [Nat.zero_add]
        rw [this, raiseTo_succ hri]
        congr 1
        rw [raise1, if_pos c1]
        simp [rrows, rrow, splice, List.map_set]
      · simp only [decide_eq_false_iff_not] at c1
        refine next S ?_
        rw [raiseTo_succ hri, raise1, if_neg c1]
        have e : (raiseTo cnt rs i).set i r = raiseTo cnt rs i := by
          have := raiseTo_at (cnt := cnt) hri
          obtain ⟨hl3, he3⟩ := List.getElem?_eq_some_iff.1 this
          conv => lhs; rw [← he3]
          exact List.set_getElem_self hl3
        rw [e]
        exact h
    · simp only [decide_eq_false_iff_not] at hc
      have hie : i = rs.length := by omega
      subst hie
      rw [raiseTo_all] at hs
      have hB2 := rb_raise (last2 := last2) hB (by have := hB.l1; omega) hl2 hc0 hc3
      have hw2 := wrong_raise (cnt := cnt) hw hll
      have hbq : AV.beq (.agg (polV last2 ma rs.length mc)) (.agg (polV last2 ma rs.length mc)) = true := by simp [AV.beq, AV.beqs]
      refine ok_drawA h [2, 7] (by simp) (by simp) (fun b54 S1 h1 => ?_)
      have h1' : Hp X S1 ((b54 + 2, none) :: (b54 + 7, none) :: (Lr ++ (C bm (polV last2 ma rs.length mc) :: C bp (polV last ra rs.length rc) :: F))) := h1
      refine ok_gO (ok_ldn h1' (by simp) (d := polV last ra rs.length rc) rfl ?_)
      obtain ⟨v, S2, e, a5, c5, L5, rfl, hs5, h2⟩ : Ok (evF E orcL (n + 3) (.fn 12) [.agg (polV last ra rs.length rc)] S1) _ := own_ok (n + 2) h1' last (hra.mono (fun e he => by simp [he])) (by omega)
      rw [callG_of (n := 2) e rfl]
      refine ok_layA (b := b54 + 2) h2 (fun S3 h3 => ?_)
      have h3' : Hp X S3 ([C (b54 + 2) []] ++ (L5 ++ ((b54 + 7, none) :: (Lr ++ (C bm (polV last2 ma rs.length mc) :: C bp (polV last ra rs.length rc) :: F))))) := h3.re (by intro p; simp only [List.countP_append, List.countP_cons, List.countP_nil, C]; omega)
      refine copy_ok (by omega) (hta.mono (fun e he => by simp [he])) h3' (fun ga gc S4 L4 hga h4 => ?_)
      have rd5 := hs5.rd (X := X) (M := L4 ++ (L5 ++ ((b54 + 7, none) :: (Lr ++ (C bm (polV last2 ma rs.length mc) :: C bp (polV last ra rs.length rc) :: F))))) (fun e he => by simp [he])
      obtain ⟨v, S5, e, ba, rfl, h5⟩ : Ok (evF E orcL (n + 3) (.fn 11) [.agg [.int .i64 last, .sl a5 rs.length c5], .sl ga ts.length gc] S4) _ := keep_ok n (by omega) h4 hB rd5 hup (hga.mono (fun e he => by simp [he]))
      rw [callL_of e]
      refine ok_gO (ok_ldn h5 (by simp) (d := polV last2 ma rs.length mc) rfl (ok_gO (ok_ldn h4 (by simp) (d := polV last2 ma rs.length mc) rfl (ok_true hbq ?_))))
      refine ok_gO (ok_ldn h2 (by simp) (d := polV last2 ma rs.length mc) rfl (ok_true hbq ?_))
      refine ok_gO (ok_ldn h1' (by simp) (d := polV last2 ma rs.length mc) rfl (ok_true hbq ?_))
      refine ok_layA (b := b54 + 7) h5 (fun S6 h6 => ?_)
      have h6' : Hp X S6 ([C (b54 + 7) []] ++ (Lr ++ (C ba ((keepL last rs ts).map AV.bool) :: C bm (polV last2 ma rs.length mc) :: C bp (polV last ra rs.length rc) :: (L4 ++ (L5 ++ F))))) := h6.re (by intro p; simp only [List.countP_append, List.countP_cons, List.countP_nil, C]; omega)
      refine copy_ok (by omega) (hta.mono (fun e he => by simp [he])) h6' (fun gb gd S7 L7 hgb h7 => ?_)
      refine ok_gO (ok_ldn h7 (by simp) (d := polV last2 ma rs.length mc) rfl (ok_true hbq ?_))
      have rd7 := hs.rd (X := X) (M := L7 ++ (Lr ++ (C ba ((keepL last rs ts).map AV.bool) :: C bm (polV last2 ma rs.length mc) :: C bp (polV last ra rs.length rc) :: (L4 ++ (L5 ++ F))))) (fun e he => by simp [he])
      have ekp : Ok (evF E orcL (n + 3) (.fn 11) [.agg [.int .i64 last2, .sl ma (rs.map (raise1 cnt)).length mc], .sl gb ts.length gd] S7) _ := keep_ok n (by omega) h7 hB2 rd7 hup (hgb.mono (fun e he => by simp [he]))
      rw [List.length_map] at ekp
      obtain ⟨v, S8, e, bb, rfl, h8⟩ := ekp
      rw [callL_of e]
      refine ok_false (by simp) (ok_false (by simp) ?_)
      have h9 : Hp X S8 (C bb ((keepL last2 (rs.map (raise1 cnt)) ts).map AV.bool) :: C ba ((keepL last rs ts).map AV.bool) :: C bp (polV last ra rs.length rc) :: (C bm (polV last2 ma rs.length mc) :: (Lr ++ (L7 ++ (L4 ++ (L5 ++ F)))))) := h8.re (by intro p; simp only [List.countP_append, List.countP_cons, C]; omega)
      exact more_end n0 (n + 2) (A := keepAt last rs ts) (B := keepAt last2 (rs.map (raise1 cnt)) ts) (by omega) (by simp) (by simp) (fun j hj => keepL_at hj) (fun j hj => keepL_at hj) (fun j hj hk => keep_more hw hll hk) (fun j hj hk => by
        simp only [keepAt, Bool.or_eq_true, decide_eq_true_eq]
        exact .inr (.inl hk)) h9 n0 0 .undef (by omega) (by omega)

theorem more_run (n : Nat) (hn : 70000 < n) (h : Hp X S F) {last last2 cnt : Int} {ra : Option Pos} {rc : Cap} {rs : List (Int × Int)} (hB : RsB last rs) (hl2 : last2 < 9223372036854775808) (hra : RdR X F ra (rrows rs).flatten) {ta : Option Pos} {tc : Cap} {ts : List Int} (hlo : ∀ t ∈ ts, 0 ≤ t) (hhi : ∀ t ∈ ts, t < 18446744073709551616) (hta : RdR X F ta (u64s ts)) :
    Ok (ev (n + 4) (.fn 4) [.agg [.int .i64 last, .sl ra rs.length rc, .sl ta ts.length tc, .int .i64 last2, .int .i64 cnt]] S) TrueQ := by
  rw [ev, F4 _ _ _ (oL rfl)]
  simp only [J4, b4_entry]
  refine ok_ifO rfl (ok_newA h (fun b1 S1 h1 => ?_))
  refine ok_drawA h1 [8] (by simp) (by simp) (fun b3 S2 h2 => ?_)
  have h2' : Hp X S2 ((b3 + 8, none) :: (C b1 [.int .i64 last, .sl ra rs.length rc, .sl ta ts.length tc, .int .i64 last2, .int .i64 cnt] :: F)) := h2
  refine ok_ldn h2' (by simp) (d := polV last ra rs.length rc) rfl (ok_ldL h2' rfl (ok_ldI h2' rfl (ok_ldI h2' rfl ?_)))
  refine ok_layA (b := b3 + 8) h2' (fun S3 h3 => ok_ifO rfl ?_)
  refine ok_stn h3 (by simp) (d := polV last ra rs.length rc) (by simp [splice]) (fun S4 h4 => ?_)
  refine ok_ldI h4 rfl (ok_true (by simp [AV.beq]) (ok_ldI h4 rfl (ok_true (by simp [AV.beq]) (ok_ldL h4 rfl (ok_true (by simp [AV.beq]) ?_)))))
  refine ok_ldn h4 (by simp) (d := polV last ra rs.length rc) rfl ?_
  obtain ⟨v, S5, e, rfl, h5⟩ : Ok (evF E orcL (n + 3) (.fn 8) [.agg [.int .i64 last, .sl ra rs.length rc]] S4) _ := many_ok (n + 2) h4 last ra rs.length rc
  rw [callB_of e]
  refine ok_cond (fun _ => live_ok (n + 2) S5) (fun c1 => ok_cond (fun _ => live_ok (n + 2) S5) (fun c2 => ?_))
  simp only [gt_iff_lt, decide_eq_false_iff_not] at c1 c2
  obtain ⟨v, S6, e, r, rfl, rfl, hr⟩ : Ok (evF E orcL (n + 3) (.fn 9) [.sl ta ts.length tc] S5) _ := rises_ok (n + 2) (by omega) h5 (by omega) (hta.mono (fun e he => by simp [he]))
  rw [callB_of e]
  refine ok_cond (fun _ => live_ok (n + 2) S6) (fun c3 => ?_)
  simp only [Bool.not_eq_false'] at c3
  have hup : Up ts := ⟨hlo, hhi, hr c3, by omega⟩
  refine ok_ldn h5 (by simp) (d := polV last ra rs.length rc) rfl ?_
  obtain ⟨v, S7, e, rfl, h7⟩ : Ok (evF E orcL (n + 3) (.fn 17) [.agg [.int .i64 last, .sl ra rs.length rc]] S6) _ := rcheck_ok (n + 2) (by omega) h5 last (hra.mono (fun e he => by simp [he]))
  rw [callI_of e]
  refine ok_cond (fun _ => live_ok (n + 2) S7) (fun c4 => ok_ldI h7 rfl (ok_cond (fun _ => live_ok (n + 2) S7) (fun c5 => ok_cond (fun _ => live_ok (n + 2) S7) (fun c6 => ok_cond (fun _ => live_ok (n + 2) S7) (fun c7 => ?_)))))
  simp only [gt_iff_lt, decide_eq_false_iff_not] at c5 c6 c7
  have hw : wrongB last rs = false := by
    simp only [bne_eq_false_iff_eq] at c4
    unfold checkE at c4
    cases hwb : wrongB last rs with
    | false => rfl
    | true => rw [hwb] at c4; simp at c4
  refine ok_ldn h7 (by simp) (d := polV last ra rs.length rc) rfl ?_
  obtain ⟨v, S8, e, ma, mc, Lr, rfl, hs8, h8⟩ : Ok (evF E orcL (n + 3) (.fn 12) [.agg (polV last ra rs.length rc)] S7) _ := own_ok (n + 2) h7 last (hra.mono (fun e he => by simp [he])) (by omega)
  rw [callG_of (n := 2) e rfl]
  refine ok_newA h8 (fun bm S9 h9 => ok_ifO rfl ?_)
  refine ok_stn h9 (by simp) (d := polV last ma rs.length mc) (by simp [splice]) (fun S10 h10 => ?_)
  refine ok_stn h10 (by simp) (d := polV last2 ma rs.length mc) (by simp [splice]) (fun S11 h11 => ?_)
  have h12 : Hp X S11 (Lr ++ (C bm (polV last2 ma rs.length mc) :: C (b3 + 8) (polV last ra rs.length rc) :: (C b1 [.int .i64 last, .sl ra rs.length rc, .sl ta ts.length tc, .int .i64 last2, .int .i64 cnt] :: F))) := h11.re (by intro p; simp only [List.countP_append, List.countP_cons, C]; omega)
  exact more_loop (n + 3) n hn (by omega) (by omega) (by omega) (by omega) hl2 hB hw (hra.mono (fun e he => by simp [he])) hup (hta.mono (fun e he => by simp [he])) (n + 3) 0 Lr S11 (by omega) (by have := (wrong_false hw).2.1; omega) (by simpa [raiseTo] using hs8) h12

end

end Go.Ct
