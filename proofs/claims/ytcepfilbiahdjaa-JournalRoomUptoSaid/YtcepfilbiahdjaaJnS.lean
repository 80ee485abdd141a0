/- What the codec of package journal does with a heap: superblocks, there and back. -/
import Derived.Test.YtcepfilbiahdjaaJnB
set_option linter.unusedVariables false
set_option linter.unusedSimpArgs false
set_option maxRecDepth 4000
namespace Go.Jn
open Go.Gr

section
variable {X : Cx} {S : AS} {L F : List Ent} {b : Nat} {Q : AV → AS → Prop}

theorem s_loop8 (n0 n : Nat) (hn : 100 < n) {ns : List Int} (hB : ∀ x ∈ ns, u64B x) (hns : ns.length ≤ 10) {p : Option Pos} {cp : Cap} {s0 : List UInt8} (hs0 : s0.length ≤ 100) (hr : RdR X F p (ns.map (AV.int .u64)))
    (fin : ∀ a c L' S', SlG a (s0 ++ bes 8 ns).length c 1 (bxs (s0 ++ bes 8 ns)) L' → Hp X S' (L' ++ F) → Ok (J41_j1_1_1_1_1 (evF E orcL (n + 2)) n0 a (s0 ++ bes 8 ns).length c S') Q) :
    ∀ (m i : Nat) (a : Option Pos) (l : Nat) (c : Cap) (L : List Ent) (S : AS), i ≤ ns.length → ns.length - i < m → SlG a l c 1 (bxs (s0 ++ bes 8 (ns.take i))) L → Hp X S (L ++ F) →
      Ok (J41_l1_1_1_1_0_1_0 (evF E orcL (n + 2)) n0 m a l c p ns.length cp ns.length i S) Q
  | 0, i, a, l, c, L, S, hi, hm, hs, h => by omega
  | m + 1, i, a, l, c, L, S, hi, hm, hs, h => by
    have hl : l = (s0 ++ bes 8 (ns.take i)).length := by have := hs.len; rwa [bxs_len] at this
    rw [J41_l1_1_1_1_0_1_0_succ]
    simp only [b41_l1_1_1_1_0_1_0]
    refine ok_cond (fun hc => ?_) (fun hc => ?_)
    · simp only [decide_eq_true_eq] at hc
      have hlt : i < ns.length := by omega
      have hr' : RdR X (L ++ F) p (ns.map (AV.int .u64)) := hr.mono (fun e he => by simp [he])
      obtain ⟨q, rfl⟩ := hr'.some_of (by intro he; have := congrArg List.length he; simp at this; rw [this] at hlt; simp at hlt)
      obtain ⟨x, hx⟩ : ∃ x, ns[i]? = some x := ⟨_, List.getElem?_eq_getElem hlt⟩
      obtain ⟨h0, h1⟩ := hB x (List.mem_of_getElem? hx)
      rw [ixSl_at rfl hlt]
      simp only [Nat.mul_one]
      rw [hr'.ldI h (k := .u64) (v := x) (by rw [List.getElem?_map, hx]; rfl)]
      have p8 : (256 : Nat) ^ 8 = 18446744073709551616 := by decide
      have hlen : (s0 ++ bes 8 (ns.take i)).length ≤ 65536 := by simp; omega
      obtain ⟨v, S1, e, a1, c1, L1, rfl, hs1, h1⟩ : Ok (evF E orcL (n + 2) (.fn 56) [.sl a l c, .int .u64 x, .int .i64 8] S) _ := put_ok n hn h hs hlen (x := x.toNat) (by omega) (k := 8) (by decide) (by decide) (by omega) rfl
      rw [callL_of e, wn (x := (i : Int) + 1) (n := i + 1) (by omega) (by omega)]
      rw [List.append_assoc, ← bes_take hx] at hs1 ⊢
      exact s_loop8 n0 n hn hB hns hs0 hr fin m (i + 1) a1 _ c1 L1 S1 (by omega) (by omega) hs1 h1
    · simp only [decide_eq_false_iff_not] at hc
      have : i = ns.length := by omega
      subst this
      rw [List.take_length] at hs hl
      subst hl
      exact fin a c L S hs h

theorem putS_ok (n : Nat) (hn : 100 < n) {x : Su} (hB : ∀ y ∈ x.l, u64B y) (h : Hp X S F) :
    Ok (ev (n + 3) (.fn 41) [.agg (srowS x)] S) (BQ X F (putS x) (putSe x)) := by
  rw [ev, F41 _ _ _ (oL rfl)]
  simp only [J41, b41_entry]
  have bad : ∀ (S' : AS) (M : List Ent), Hp X S' (M ++ F) → okS x = false → Ok (some (AV.tup [.sl none 0 (.ex 0), .int .i64 81], S')) (BQ X F (putS x) (putSe x)) := fun S' M hh he => by
    have e1 : putS x = [] := by simp [putS, he]
    have e2 : putSe x = 81 := by simp [putSe, he]
    rw [e1, e2]
    exact ok_ret ⟨none, .ex 0, [], rfl, .nil, hh.right⟩
  refine ok_ifO rfl (ok_newA h (fun b1 S1 h1 => ok_ldI h1 rfl (ok_ldI h1 rfl (ok_ldI h1 rfl (ok_ldI h1 rfl (ok_ldI h1 rfl (ok_ldI h1 rfl (ok_newA h1 (fun b2 S2 h2 => ok_ldI h2 rfl (ok_cond (fun c1 => bad _ [_, _] h2 ?_) (fun c1 => ok_ldI h2 rfl (ok_cond (fun c2 => bad _ [_, _] h2 ?_) (fun c2 => ?_)))))))))))))
  · simp only [beq_iff_eq] at c1; simp [okS, c1]
  · simp only [beq_iff_eq] at c2; simp [okS, c2]
  have rd2 : RdR X (C b2 (srowS x) :: C b1 (srowS x) :: F) (some (.rw b2, 0)) (x.l.map (AV.int .u64)) := .rw (c := srowS x) List.mem_cons_self (by simp [srowS]) rfl
  have h2' : Hp X S2 (C b2 (srowS x) :: C b1 (srowS x) :: F) := h2
  rw [callB_of (show evF E orcL (n + 2) (.fn 35) [.sl (some (.rw b2, 0)) 6 (.ex 6)] S2 = _ from below_eq (n + 1) (by omega) rd2 h2' (by simp [Su.l]) rfl)]
  refine ok_cond (fun c4 => bad _ [_, _] h2 ?_) (fun c4 => ?_)
  · simp only [Bool.not_eq_true'] at c4; simp [okS, c4]
  simp only [beq_eq_false_iff_ne, ne_eq, Bool.not_eq_false'] at c1 c2 c4
  have good : okS x = true := by simp [okS, c1, c2, c4]
  have e1 : putS x = encS x := by simp [putS, good]
  have e2 : putSe x = 0 := by simp [putSe, good]
  rw [e1, e2]
  refine ok_newA h2' (fun b3 S3 h3 => ok_convLL h3 (by decide) (fun S4 h4 => ?_))
  have h5' : Hp X S4 ([C b3 (bxs jsup).flatten] ++ (C b2 (srowS x) :: C b1 (srowS x) :: F)) := h4.re (by intro p; simp only [List.countP_append, List.countP_cons, List.countP_nil, C]; simp [jsup, bxs, ofBytes]; omega)
  refine Ok.mono (s_loop8 (Q := BQ X (C b2 (srowS x) :: C b1 (srowS x) :: F) (encS x) 0) (n + 2) n hn (ns := x.l) hB (by simp [Su.l]) (s0 := jsup) (by decide) rd2 (fun a3 c3 L3 S6 hs6 h6 => ?_) (n + 2) 0 (some (.rw b3, 0)) 4 (.ex 4) _ S4 (by omega) (by simp [Su.l]; omega) ?_ h5') (fun v S' hq => hq.sub (((List.Sublist.refl F).cons _).cons _))
  · simp only [J41_j1_1_1_1_1, b41_j1_1_1_1_1]
    have hlen : (jsup ++ bes 8 x.l).length = 52 := by simp [jsup, Su.l]
    obtain ⟨v, S11, e11, a11, c11, L11, rfl, hs11, h11⟩ : Ok (evF E orcL (n + 2) (.fn 57) [.sl a3 _ c3] S6) _ := filled_ok (n + 1) h6 hs6 (by rw [hlen]; omega)
    rw [callL_of e11]
    have he : jsup ++ bes 8 x.l ++ zz (384 - (jsup ++ bes 8 x.l).length) = encS x := by
      rw [hlen, encS, List.append_assoc]
    rw [he] at hs11 ⊢
    exact ok_ret ⟨a11, c11, L11, rfl, hs11, h11⟩
  · have := (SlR.of (b := b3) (bxs_all jsup) (n := 4) rfl (.inl rfl)).g
    simpa using this

theorem map_splice {k : IntKind} {l : List Int} {i : Nat} (v : Int) (h : i < l.length) : splice (l.map (AV.int k)) i [.int k v] = (l.set i v).map (AV.int k) := by
  rw [splice, List.set_eq_take_append_cons_drop, if_pos h]
  simp [List.map_take, List.map_drop]

def arrS (s : List UInt8) (i : Nat) : List Int := (decS s).l.take i ++ List.replicate (6 - i) 0
@[simp] theorem decS_l_len (s : List UInt8) : (decS s).l.length = 6 := rfl
theorem arrS_len (s : List UInt8) {i : Nat} (h : i ≤ 6) : (arrS s i).length = 6 := by simp [arrS]; omega
theorem decS_at (s : List UInt8) {i : Nat} (h : i < 6) : (decS s).l[i]? = some ((vl (win8 s (4 + 8 * i) 8) : Nat) : Int) := by
  match i, h with
  | 0, _ => rfl
  | 1, _ => rfl
  | 2, _ => rfl
  | 3, _ => rfl
  | 4, _ => rfl
  | 5, _ => rfl
theorem arrS_set (s : List UInt8) {i : Nat} (h : i < 6) : (arrS s i).set i ((vl (win8 s (4 + 8 * i) 8) : Nat) : Int) = arrS s (i + 1) := by
  have hl : ((decS s).l.take i).length = i := by simp; omega
  rw [arrS, arrS, List.set_append_right _ _ (by omega), hl, Nat.sub_self, show 6 - i = (6 - (i + 1)) + 1 by omega, List.replicate_succ, List.set_cons_zero, List.take_add_one, decS_at s h]
  simp

theorem ok_ixArr1 {b0 : Bid} {o : Nat} {n : Int} {k : Nat} {K : Pos → Option (AV × AS)} (hn : n = k) (hk : k < 6) (ht : Ok (K (b0, o + k)) Q) : Ok (ixArr 1 (b0, o) 6 n K) Q :=
  ok_ixArr hn hk (by rwa [Nat.mul_one])

theorem gs_loop (n0 n : Nat) (hn : 100 < n) {s : List UInt8} {a : Option Pos} {l : Nat} {c : Cap} {b5 : Nat} {w2 : Option Pos} (hl : l = 384) (hv : Vw X F a l c s)
    (fin : ∀ S', Hp X S' (C b5 ((decS s).l.map (AV.int .u64)) :: F) → Ok (J68_j1_1_1_1 (evF E orcL (n + 1)) n0 a l c w2 (some (.rw b5, 0)) S') Q) :
    ∀ (m i : Nat) (S : AS), i ≤ 6 → 6 - i < m → Hp X S (C b5 ((arrS s i).map (AV.int .u64)) :: F) →
      Ok (J68_l1_1_1_0_1_0 (evF E orcL (n + 1)) n0 m a l c w2 (some (.rw b5, 0)) i S) Q
  | 0, i, S, hi, hm, h => by omega
  | m + 1, i, S, hi, hm, h => by
    rw [J68_l1_1_1_0_1_0_succ]
    simp only [b68_l1_1_1_0_1_0]
    refine ok_cond (fun hc => ?_) (fun hc => ?_)
    · simp only [decide_eq_true_eq] at hc
      have hlt : i < 6 := by omega
      rw [wn (x := (8 : Int) * i) (n := 8 * i) (by omega) (by omega), wn (x := (4 : Int) + ((8 * i : Nat) : Int)) (n := 4 + 8 * i) (by omega) (by omega), wn (x := (12 : Int) + ((8 * i : Nat) : Int)) (n := 12 + 8 * i) (by omega) (by omega)]
      have hv' : Vw X (C b5 ((arrS s i).map (AV.int .u64)) :: F) a l c s := hv.mono (fun e he => by simp [he])
      refine ok_sl hv' (lo := 4 + 8 * i) (hi := 12 + 8 * i) (by omega) (by omega) rfl rfl (fun a5 c5 v5 => ?_)
      rw [callI_of (show evF E orcL (n + 1) (.fn 77) [.sl a5 (12 + 8 * i - (4 + 8 * i)) c5] S = _ from get_eq n (by omega) v5 h (win8_le (by omega)))]
      rw [show 12 + 8 * i - (4 + 8 * i) = 8 by omega]
      refine ok_gO (ok_ixArr1 rfl hlt ?_)
      rw [Nat.zero_add]
      refine ok_stn h (by simp [arrS_len s hi]; omega) (d := (arrS s (i + 1)).map (AV.int .u64)) (by rw [map_splice _ (by rw [arrS_len s hi]; exact hlt), arrS_set s hlt]) (fun S1 h1 => ?_)
      rw [wn (x := (i : Int) + 1) (n := i + 1) (by omega) (by omega)]
      exact gs_loop n0 n hn hl hv fin m (i + 1) S1 (by omega) (by omega) h1
    · simp only [decide_eq_false_iff_not] at hc
      have : i = 6 := by omega
      subst this
      exact fin S (by simpa [arrS, List.take_of_length_le] using h)

abbrev zrowS : List AV := [.int .u64 0, .int .u64 0, .int .u64 0, .int .u64 0, .int .u64 0, .int .u64 0]
/-- A superblock is told, and an error. -/
abbrev GSQ (X : Cx) (F : List Ent) (g : Su) (e : Int) : AV → AS → Prop := fun v S' => v = .tup [.agg (srowS g), .int .i64 e] ∧ Hp X S' F

theorem decSB (b : List UInt8) : ∀ y ∈ (decS b).l, u64B y := by
  intro y hy
  obtain ⟨i, hi, rfl⟩ := List.getElem_of_mem hy
  have h8 : ∀ i, vl (win8 b i 8) < 18446744073709551616 := fun i => by
    refine Nat.lt_of_lt_of_le (vl_lt _) (Nat.le_trans (Nat.pow_le_pow_right (by decide) (?_ : _ ≤ 8)) (by decide))
    simp [win8]; omega
  have := decS_at b (i := i) (by simpa using hi)
  rw [List.getElem?_eq_getElem hi] at this
  rw [Option.some.inj this]
  have := h8 (4 + 8 * i)
  exact ⟨by omega, by omega⟩

theorem getS_ok (n : Nat) (hn : 70000 < n) {s : List UInt8} {a : Option Pos} {l : Nat} {c : Cap} (h : Hp X S F) (hv : Vw X F a l c s) :
    Ok (ev (n + 4) (.fn 68) [.sl a l c] S) (GSQ X F (getS s) (getSe s)) := by
  have hln := hv.ln
  rw [ev, F68 _ _ _ _ _ (oL rfl)]
  simp only [J68, b68_entry]
  have bad : goodS s = false → GSQ X F (getS s) (getSe s) = GSQ X F zS 81 := fun he => by simp [getS, getSe, he]
  have zer : ∀ (b1 : Nat) (S' : AS) (M : List Ent), goodS s = false → Hp X S' (M ++ (C b1 zrowS :: F)) → Ok (S'.stn (.rw b1) 0 zrowS fun S3 => S3.ldn (.rw b1) 0 6 fun g4 => some (.tup [(.agg g4), (.int .i64 81)], S3)) (GSQ X F (getS s) (getSe s)) := fun b1 S' M he hh => by
    rw [bad he]
    exact ok_stn hh (by simp) (d := zrowS) (by simp [splice]) (fun S3 h3 => ok_ldn h3 (by simp) (d := zrowS) rfl (ok_ret ⟨rfl, h3.right.drop1⟩))
  refine ok_newA h (fun b1 S1 h1 => ok_cond (fun c1 => ?_) (fun c1 => ?_))
  · simp only [bne_iff_ne, ne_eq] at c1
    exact zer b1 S1 [] (by simp [goodS]; omega) h1
  simp only [bne_eq_false_iff_eq] at c1
  have h384 : s.length = 384 := by omega
  refine ok_newA h1 (fun b5 S2 h2 => ?_)
  have v1 : Vw X (C b1 zrowS :: F) a l c s := hv.mono (fun e he => by simp [he])
  refine gs_loop (b5 := b5) (n + 3) (n + 2) (by omega) (s := s) (by omega) v1 (fun S3 h3 => ?_) (n + 3) 0 S2 (by omega) (by omega) h2
  simp only [J68_j1_1_1_1, b68_j1_1_1_1]
  refine ok_gO (ok_ixArr1 (k := 0) rfl (by decide) (ok_ldI h3 rfl ?_))
  refine ok_gO (ok_ixArr1 (k := 1) rfl (by decide) (ok_ldI h3 rfl ?_))
  refine ok_gO (ok_ixArr1 (k := 2) rfl (by decide) (ok_ldI h3 rfl ?_))
  refine ok_gO (ok_ixArr1 (k := 3) rfl (by decide) (ok_ldI h3 rfl ?_))
  refine ok_gO (ok_ixArr1 (k := 4) rfl (by decide) (ok_ldI h3 rfl ?_))
  refine ok_gO (ok_ixArr1 (k := 5) rfl (by decide) (ok_ldI h3 rfl ?_))
  refine ok_newA h3 (fun b31 S4 h4 => ok_stn h4 (by simp) (d := srowS (decS s)) (by simp [splice, srowS, Su.l]) (fun S5 h5 => ok_ldn h5 (by simp [srowS]) (d := srowS (decS s)) (by simp [srowS, Su.l]) ?_))
  obtain ⟨v, S6, e6, a6, c6, L6, rfl, hs6, h6⟩ : Ok (evF E orcL (n + 3) (.fn 41) [.agg (srowS (decS s))] S5) _ := putS_ok n (by omega) (decSB s) h5
  rw [callT_of e6]
  refine ok_atL rfl (ok_atI rfl (ok_cond (fun cc => ?_) (fun cc => ?_)))
  · have he : okS (decS s) = false := by
      cases hk : okS (decS s) with
      | false => rfl
      | true => rw [putSe, if_pos hk] at cc; exact absurd cc (by decide)
    exact zer b1 S6 (L6 ++ [C b31 (srowS (decS s)), C b5 ((decS s).l.map (AV.int .u64))]) (by simp [goodS, he]) (by simpa using h6)
  have he : okS (decS s) = true := by
    cases hk : okS (decS s) with
    | true => rfl
    | false => rw [putSe, if_neg (by simp [hk])] at cc; exact absurd cc (by decide)
  rw [show putS (decS s) = encS (decS s) by simp [putS, he]] at hs6 ⊢
  have hv6 : Vw X (L6 ++ (C b31 (srowS (decS s)) :: C b5 ((decS s).l.map (AV.int .u64)) :: C b1 zrowS :: F)) a l c s := hv.mono (fun e he => by simp [he])
  rw [callB_of (show evF E orcL (n + 3) (.fn 78) [.sl a6 (encS (decS s)).length c6, .sl a l c] S6 = _ from equal_eq (n + 2) (by omega) (slG_vw hs6 (fun e he => by simp [he])) hv6 h6 (by simp))]
  refine ok_cond (fun cc => ?_) (fun cc => ?_)
  · simp only [Bool.not_eq_true'] at cc
    exact zer b1 S6 (L6 ++ [C b31 (srowS (decS s)), C b5 ((decS s).l.map (AV.int .u64))]) (by simp only [goodS, cc, Bool.and_false]) (by simpa using h6)
  · simp only [Bool.not_eq_false'] at cc
    have hg : goodS s = true := by simp only [goodS, h384, he, cc, decide_true, Bool.and_self]
    rw [show getS s = decS s by simp [getS, hg], show getSe s = 0 by simp [getSe, hg]]
    refine ok_ldn h6 (by simp [srowS]) (d := srowS (decS s)) (by simp [srowS, Su.l]) (ok_gO (ok_ifO rfl (ok_stn h6 (by simp [srowS]) (d := srowS (decS s)) (by simp [splice, srowS, Su.l]) (fun S7 h7 => ok_gO (ok_ldn h7 (by simp [srowS]) (d := srowS (decS s)) (by simp [srowS, Su.l]) (ok_ret ⟨rfl, ?_⟩))))))
    exact h7.right.sub ((((List.Sublist.refl F).cons _).cons _).cons _)

end

end Go.Jn
