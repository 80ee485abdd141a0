/- JournalPlays: the document's journal: what stands on a device is read. -/
import Derived.Test.YtcepfilbiahdjaaJmE
set_option linter.unusedVariables false
set_option linter.unusedSimpArgs false
set_option maxRecDepth 4000
namespace Go.Jn.P
open Go.Gr Go.Jn
section
variable {X : Cx} {S : AS} {L F G Lj Ls : List Ent} {b bj sb : Nat} {Q : AV → AS → Prop} {J : JM} {k : Nat} {t : St}
abbrev EnQ (X : Cx) (F : List Ent) (r : Option Le) : AV → AS → Prop := fun v S' => ∃ (x : Le) (a : OP) (c : Cap) (L' : List Ent), v = .tup [.agg (erow x a x.by_.length c), .bool r.isSome] ∧ (∀ y, r = some y → x = y) ∧ Vw X L' a x.by_.length c x.by_ ∧ Hp X S' (L' ++ F)
theorem entry_ok (n : Nat) (hn : 1000010 < n) {N K : Nat} (hSI : SI t N K) (hK : K ≤ 1000000) (hSK : SK k t) (h6 : 6 ≤ J.count) (hff : J.first + J.count ≤ 40) (hN : J.first + J.count ≤ N) {p : Int} (hp : 0 ≤ p ∧ p ≤ 1000000000) (hb : StB sb t Ls) (hj : DJ bj sb J Lj) (h : Hp X S (Ls ++ (Lj ++ F))) :
 Ok (ev (n + 4) (.fn 74) [.ptr (some (.rw bj, 0)), .int .u64 p] S) (EnQ X (Ls ++ (Lj ++ F)) (enR t J p)) := by
 have hj0 := hj
 obtain ⟨na, nc, ta, tc, Ln, Lt, hn1, ht1, rfl⟩ := hj
 rw [ev, F74 _ _ _ _ (oL rfl)]
 simp only [J74, b74_entry]
 refine ok_newA h (fun b1 S2 h2 => ok_gO (ok_ldP h2 rfl ?_))
 have hbl := blkP_lt (J := J) (p := p) h6 (by omega)
 have h2j : Hp X S2 ((C bj (drow sb J na nc ta tc J.l.length) :: (Ln ++ Lt)) ++ (C b1 zrow :: (Ls ++ F))) := h2.re (by intro p; simp only [List.countP_append, List.countP_cons, List.cons_append, C, zrow]; omega)
 rw [callI_of (show evF E orcL (n + 3) (.fn 67) [.ptr (some (.rw bj, 0)), .int .u64 p] S2 = _ from dblock_eq (n + 2) h6 hff (by omega) (by omega) h2j hj0)]
 refine ok_ldP h2 rfl (ok_true (by simp [AV.beq]) ?_)
 have h2s : Hp X S2 (Ls ++ (C b1 zrow :: ((C bj (drow sb J na nc ta tc J.l.length) :: (Ln ++ Lt)) ++ F))) := h2.re (by intro p; simp only [List.countP_append, List.countP_cons, List.cons_append, C, zrow]; omega)
 have hx : blkP J p < t.s.length := by rw [hSI.len]; omega
 obtain ⟨v, S8, e8, a8, c8, L8, rfl, hs8, h8⟩ : Ok (evF E orcL (n + 3) (.fn 59) [.ptr (some (.rw sb, 0)), .int .i64 (blkP J p)] S2) _ := read_ok (n + 2) (by omega) (x := blkP J p) rfl hx hb h2s (by have := hSI.q; omega) (by rw [(hSK.rd hx).len]; decide)
 rw [callT_of e8]
 refine ok_atL rfl (ok_atI rfl ?_)
 obtain ⟨v, S12, e12, a7, c7, L7, rfl, hv7, h12⟩ : Ok (evF E orcL (n + 3) (.fn 80) [.sl a8 (t.rd (blkP J p)).length c8] S8) _ := rgetE_ok n (by omega) h8 (slG_vw hs8 (fun e he => by simp [he]))
 rw [callT_of e12]
 have hge : goodE (t.rd (blkP J p)) = true → getE (t.rd (blkP J p)) = decE (t.rd (blkP J p)) := fun hg => by simp [getE, hg]
 have hek : getEe (t.rd (blkP J p)) = 0 ↔ goodE (t.rd (blkP J p)) = true := by
  unfold getEe; split <;> simp_all
 have henR : goodE (t.rd (blkP J p)) = true → (getE (t.rd (blkP J p))).po = p → enR t J p = some (getE (t.rd (blkP J p))) := fun hg hpo => by
  rw [enR, if_pos ⟨hg, by rw [← hge hg]; exact hpo⟩, hge hg]
 have henN : ¬ (goodE (t.rd (blkP J p)) = true ∧ (getE (t.rd (blkP J p))).po = p) → enR t J p = none := fun hx => by
  rw [enR, if_neg (fun h => hx ⟨h.1, by rw [hge h.1]; exact h.2⟩)]
 clear hge
 generalize getE (t.rd (blkP J p)) = x at *
 refine ok_atG rfl rfl (ok_atI rfl (ok_newA h12 (fun b16 S17 h17 => ok_ifO rfl (ok_stn h17 (by simp [erow]) (d := erow x a7 x.by_.length c7) (by simp [splice, erow]) (fun S18 h18 => ?_)))))
 have h18' : Hp X S18 (C b16 (erow x a7 x.by_.length c7) :: C b1 zrow :: (L7 ++ (L8 ++ (Ls ++ ((C bj (drow sb J na nc ta tc J.l.length) :: (Ln ++ Lt)) ++ F))))) := h18.re (by intro p; simp only [List.countP_append, List.countP_cons, List.cons_append, C, zrow]; omega)
 refine ok_ldn h18' (by simp [erow]) (d := erow x a7 x.by_.length c7) (by simp [erow]) (ok_cond (fun cg => ?_) (fun cg => ?_))
 ·have hg : goodE (t.rd (blkP J p)) = true := hek.1 (by simpa using cg)
  refine ok_ldI h18' rfl (ok_ifO rfl (ok_stn h18' (by simp [erow]) (d := erow x a7 x.by_.length c7) (by simp [splice, erow]) (fun S21 h21 => ok_ldI h21 rfl (ok_true (by simp [AV.beq]) (ok_ldn h21 (by simp [erow]) (d := erow x a7 x.by_.length c7) (by simp [erow]) (ok_ret ?_))))))
  refine ⟨x, a7, c7, L7, ?_, fun y hy => ?_, hv7, (h21.re (M := C b16 (erow x a7 x.by_.length c7) :: C b1 (erow x a7 x.by_.length c7) :: (L8 ++ (L7 ++ (Ls ++ ((C bj (drow sb J na nc ta tc J.l.length) :: (Ln ++ Lt)) ++ F))))) (by intro p; simp only [List.countP_append, List.countP_cons, List.cons_append, C, zrow]; omega)).drop1.drop1.right⟩
  ·by_cases hpo : x.po = p
   ·rw [henR hg hpo]; simp [hpo]
   ·rw [henN (fun h => hpo h.2)]; simp [hpo]
  ·by_cases hpo : x.po = p
   ·rw [henR hg hpo] at hy; injection hy
   ·rw [henN (fun h => hpo h.2)] at hy; cases hy
 ·have hg : ¬ goodE (t.rd (blkP J p)) = true := fun hg => by rw [hek.2 hg] at cg; exact absurd cg (by decide)
  refine ok_ifO rfl (ok_stn h18' (by simp [erow]) (d := erow x a7 x.by_.length c7) (by simp [splice, erow]) (fun S21 h21 => ok_ldn h21 (by simp [erow]) (d := erow x a7 x.by_.length c7) (by simp [erow]) (ok_ret ?_)))
  refine ⟨x, a7, c7, L7, ?_, fun y hy => ?_, hv7, (h21.re (M := C b16 (erow x a7 x.by_.length c7) :: C b1 (erow x a7 x.by_.length c7) :: (L8 ++ (L7 ++ (Ls ++ ((C bj (drow sb J na nc ta tc J.l.length) :: (Ln ++ Lt)) ++ F))))) (by intro p; simp only [List.countP_append, List.countP_cons, List.cons_append, C, zrow]; omega)).drop1.drop1.right⟩
  ·rw [henN (fun h => hg h.1)]; rfl
  ·rw [henN (fun h => hg h.1)] at hy; cases hy
theorem behind_ok (n : Nat) {a b c d : Int} (h : Hp X S F) : Ok (ev (n + 1) (.fn 75) [.agg [.int .u64 a, .int .u64 b], .agg [.int .u64 c, .int .u64 d]] S) fun v S' => v = .bool (decide (c < a) || (decide (a = c) && decide (d < b))) ∧ Hp X S' F := by
 rw [ev, F75 _ _ _ _ (oL rfl)]
 simp only [J75, b75_entry]
 refine ok_ifO rfl (ok_newA h (fun b1 S1 h1 => ok_ifO rfl (ok_newA h1 (fun b3 S3 h3 => ok_ldI h3 rfl (ok_ldI h3 rfl (ok_cond (fun c1 => ?_) (fun c1 => ?_)))))))
 ·simp only [gt_iff_lt, decide_eq_true_eq] at c1
  exact ok_ret ⟨by simp [c1], h3.drop1.drop1⟩
 ·simp only [gt_iff_lt, decide_eq_false_iff_not] at c1
  refine ok_ldI h3 rfl (ok_ldI h3 rfl (ok_cond (fun c2 => ?_) (fun c2 => ?_)))
  ·simp only [beq_iff_eq] at c2
   exact ok_ldI h3 rfl (ok_ldI h3 rfl (ok_ret ⟨by simp [c1, c2], h3.drop1.drop1⟩))
  ·simp only [beq_eq_false_iff_ne, ne_eq] at c2
   exact ok_ret ⟨by simp [c1, c2], h3.drop1.drop1⟩
theorem dps_loop (n0 n : Nat) (hn : 1000010 < n) {N K : Nat} (hSI : SI t N K) (hK : K ≤ 1000000) (hSK : SK k t) (hJ : JI J k) (hN : J.first + J.count ≤ N) (hb : StB sb t Ls) (hj : DJ bj sb J Lj) {hd : Le} {ha : OP} {hl : Nat} {hc : Cap} {P : Nat} (hP : hd.ps = (P : Nat)) (hP2 : P ≤ 100) {w1 ab as_ : Int} {w4 : AV} {oa : OP} {ol : Nat} {oc : Cap} {Lo Ld : List Ent} {b6 b7 b9 : Nat} {K1 : OP → Int → AV → OP → Nat → Cap → OP → AS → RV} :
 ∀ (m i : Nat) (s : List UInt8) (pa : OP) (pc : Cap) (Lp : List Ent) (S : AS), i ≤ P → P - i < m → s.length ≤ 336 * i → SlG pa s.length pc 1 (bxs s) Lp →
   Hp X S (Lp ++ (C b7 (erow hd ha hl hc) :: C b9 [.int .u64 hd.bo, .int .u64 hd.se] :: C b6 [.int .u64 ab, .int .u64 as_] :: (Ls ++ (Lj ++ (Lo ++ (Ld ++ F)))))) →
   (∀ s', rdPs t J (J.sup.po + sumN J.l) hd (P - i) i s = some s' → s'.length ≤ 336 * P → ∀ (S' : AS) (pa' : OP) (pc' : Cap) (Lp' : List Ent), SlG pa' s'.length pc' 1 (bxs s') Lp' → Hp X S' (Lp' ++ (C b7 (erow hd ha hl hc) :: C b9 [.int .u64 hd.bo, .int .u64 hd.se] :: C b6 [.int .u64 ab, .int .u64 as_] :: (Ls ++ (Lj ++ (Lo ++ (Ld ++ F)))))) → Ok (J61_jZAG (evF E orcL (n + 4)) n0 K1 (some (.rw bj, 0)) w1 oa ol oc (some (.rw b6, 0)) (some (.rw b7, 0)) (some (.rw b9, 0)) pa' s'.length pc' S') Q) →
   (rdPs t J (J.sup.po + sumN J.l) hd (P - i) i s = none → ∀ S', Hp X S' (Ls ++ (Lj ++ (Lo ++ (Ld ++ F)))) → Ok (some (AV.sl oa ol oc, S')) Q) →
   Ok (J61_lZAV (evF E orcL (n + 4)) n0 K1 m (some (.rw bj, 0)) w1 w4 oa ol oc (some (.rw b6, 0)) (some (.rw b7, 0)) (some (.rw b9, 0)) pa s.length pc i S) Q
 | 0, i, s, pa, pc, Lp, S, h2, h3, h4, hsp, h, fin, bad => by omega
 | m + 1, i, s, pa, pc, Lp, S, h2, h3, h4, hsp, h, fin, bad => by
   have q1 := hJ.po
   have q2 := hJ.k1
   have q3 := hJ.rm
   have q4 := hJ.c40
   have q5 := sumN_ge fun o ho => (hJ.ol o ho).1
   rw [J61_lZAV_succ]
   simp only [b61_lZAV]
   refine ok_gO (ok_ldI h rfl (ok_cond (fun cc => ?_) (fun cc => ?_)))
   ·simp only [decide_eq_true_eq] at cc
    rw [hP] at cc
    have hr : P - i = (P - (i + 1)) + 1 := by omega
    have hsj : Hp X S (Lj ++ (Lp ++ (C b7 (erow hd ha hl hc) :: C b9 [.int .u64 hd.bo, .int .u64 hd.se] :: C b6 [.int .u64 ab, .int .u64 as_] :: (Ls ++ (Lo ++ (Ld ++ F)))))) := h.re (by intro p; simp only [List.countP_append, List.countP_cons, List.cons_append, C]; omega)
    rw [callI_of (show evF E orcL (n + 4) (.fn 65) [.ptr (some (.rw bj, 0))] S = _ from dnext_eq (n + 2) (by omega) hJ hsj hj)]
    rw [wu64 (n := ((i : Nat) : Int)) (by omega) (by omega), wu64 (n := J.sup.po + sumN J.l + ((i : Nat) : Int)) (by omega) (by omega)]
    have hss : Hp X S (Ls ++ (Lj ++ (Lp ++ (C b7 (erow hd ha hl hc) :: C b9 [.int .u64 hd.bo, .int .u64 hd.se] :: C b6 [.int .u64 ab, .int .u64 as_] :: (Lo ++ (Ld ++ F)))))) := h.re (by intro p; simp only [List.countP_append, List.countP_cons, List.cons_append, C]; omega)
    obtain ⟨v, S39, e39, x, xa, xc, Lx, rfl, hxr, hvx, h39⟩ : Ok (evF E orcL (n + 4) (.fn 74) [.ptr (some (.rw bj, 0)), .int .u64 (J.sup.po + sumN J.l + ((i : Nat) : Int))] S) _ := entry_ok n hn hSI hK hSK hJ.c6 hJ.ff hN (by omega) hb hj hss
    rw [callT_of e39]
    refine ok_atG rfl rfl (ok_atB rfl (ok_newA h39 (fun b43 S44 h44 => ok_ifO rfl (ok_stn h44 (by simp [erow]) (d := erow x xa x.by_.length xc) (by simp [splice, erow]) (fun S45 h45 => ?_)))))
    have h45' : Hp X S45 (Lp ++ (C b43 (erow x xa x.by_.length xc) :: C b7 (erow hd ha hl hc) :: C b9 [.int .u64 hd.bo, .int .u64 hd.se] :: C b6 [.int .u64 ab, .int .u64 as_] :: (Lx ++ (Ls ++ (Lj ++ (Lo ++ (Ld ++ F))))))) := h45.re (by intro p; simp only [List.countP_append, List.countP_cons, List.cons_append, C]; omega)
    have quit : rdPs t J (J.sup.po + sumN J.l) hd (P - i) i s = none → Ok (some (AV.sl oa ol oc, S45)) Q := fun he => bad he S45 (h45'.re (M := (Lp ++ (C b43 (erow x xa x.by_.length xc) :: C b7 (erow hd ha hl hc) :: C b9 [.int .u64 hd.bo, .int .u64 hd.se] :: C b6 [.int .u64 ab, .int .u64 as_] :: Lx)) ++ (Ls ++ (Lj ++ (Lo ++ (Ld ++ F))))) (by intro p; simp only [List.countP_append, List.countP_cons, List.cons_append, C]; omega)).right
    cases hen : enR t J (J.sup.po + sumN J.l + ((i : Nat) : Int)) with
    | none =>
      refine ok_true rfl (quit ?_)
      rw [hr, rdPs, hen]
    | some y =>
      have hxy := hxr y hen
      subst hxy
      have hby := ((okE_iff _).1 (enR_ok hen)).2.2.2.2.2.2.2.2.2.2.2.2
      have hrd : rdPs t J (J.sup.po + sumN J.l) hd (P - i) i s = if x.pa = (i : Nat) ∧ x.bo = hd.bo ∧ x.se = hd.se ∧ x.ls = hd.ls ∧ x.ps = hd.ps then rdPs t J (J.sup.po + sumN J.l) hd (P - (i + 1)) (i + 1) (s ++ x.by_) else none := by rw [hr, rdPs, hen]
      have qn : ¬ (x.pa = (i : Nat) ∧ x.bo = hd.bo ∧ x.se = hd.se ∧ x.ls = hd.ls ∧ x.ps = hd.ps) → Ok (some (AV.sl oa ol oc, S45)) Q := fun hne => quit (by rw [hrd, if_neg hne])
      refine ok_false rfl (ok_ldI h45' rfl (ok_gO (ok_ldI h45' rfl (ok_cond (fun c1 => qn (fun h => ?_)) (fun c1 => ?_)))))
      ·simp only [bne_iff_ne, ne_eq] at c1; exact c1 h.2.1
      simp only [bne_eq_false_iff_eq] at c1
      refine ok_ldI h45' rfl (ok_gO (ok_ldI h45' rfl (ok_cond (fun c2 => qn (fun h => ?_)) (fun c2 => ?_))))
      ·simp only [bne_iff_ne, ne_eq] at c2; exact c2 h.2.2.1
      simp only [bne_eq_false_iff_eq] at c2
      refine ok_ldI h45' rfl (ok_gO (ok_ldI h45' rfl (ok_cond (fun c3 => qn (fun h => ?_)) (fun c3 => ?_))))
      ·simp only [bne_iff_ne, ne_eq] at c3; exact c3 h.2.2.2.1
      simp only [bne_eq_false_iff_eq] at c3
      refine ok_ldI h45' rfl (ok_gO (ok_ldI h45' rfl (ok_cond (fun c4 => qn (fun h => ?_)) (fun c4 => ?_))))
      ·simp only [bne_iff_ne, ne_eq] at c4; exact c4 h.2.2.2.2
      simp only [bne_eq_false_iff_eq] at c4
      refine ok_ldI h45' rfl (ok_cond (fun c5 => qn (fun h => ?_)) (fun c5 => ?_))
      ·simp only [bne_iff_ne, ne_eq] at c5; exact c5 h.1
      simp only [bne_eq_false_iff_eq] at c5
      rw [hrd, if_pos ⟨c5, c1, c2, c3, c4⟩] at fin bad
      refine ok_ldL h45' rfl (by_push (by omega) hsp h45' (hvx.mono (fun e he => by simp [he])) (fun a' c' L' S' hs' h' => ?_))
      rw [wn (x := ((i : Nat) : Int) + 1) (n := i + 1) (by omega) (by omega)]
      refine dps_loop n0 n hn hSI hK hSK hJ hN hb hj hP hP2 m (i + 1) (s ++ x.by_) a' c' L' S' (by omega) (by omega) (by rw [List.length_append]; omega) hs' ?_ fin bad
      exact (h'.re (M := (C b43 (erow x xa x.by_.length xc) :: Lx) ++ (L' ++ (C b7 (erow hd ha hl hc) :: C b9 [.int .u64 hd.bo, .int .u64 hd.se] :: C b6 [.int .u64 ab, .int .u64 as_] :: (Ls ++ (Lj ++ (Lo ++ (Ld ++ F))))))) (by intro p; simp only [List.countP_append, List.countP_cons, List.cons_append, C]; omega)).right
   ·simp only [decide_eq_false_iff_not] at cc
    rw [hP] at cc
    have : i = P := by omega
    subst this
    rw [Nat.sub_self] at fin
    exact fin s rfl h4 S pa pc Lp hsp h
theorem rdPs_zero {p : Int} {x : Le} {P : Nat} (hP : x.ps = (P : Nat)) (hP1 : 1 ≤ P) (hen : enR t J p = some x) (hpa : x.pa = 0) : rdPs t J p x (P - 0) 0 [] = rdPs t J p x (x.ps.toNat - 1) 1 x.by_ := by
 have h1 : P - 0 = (P - 1) + 1 := by omega
 have h2 : x.ps.toNat - 1 = P - 1 := by omega
 rw [h1, h2, rdPs, show p + ((0 : Nat) : Int) = p by omega, hen]
 simp only [List.nil_append]
 rw [if_pos ⟨by rw [hpa]; rfl, trivial, trivial, trivial, trivial⟩]
theorem dread_loop (n0 n : Nat) (hn : 1000010 < n) (hn0 : n0 = n + 4) {N K : Nat} (hSI : SI t N K) (hK : K ≤ 1000000) (hSK : SK k t) (hb : StB sb t Ls) {b6 : Nat} :
 ∀ (f m : Nat) (J : JM) (xs : List Tx) (ab as_ : Int) (w4 : AV) (oa : OP) (oc : Cap) (Lo Ld Lj : List Ent) (S : AS), f < m → (J.count : Int) - 2 - sumN J.l < f → J.first + J.count ≤ N → xs.length = J.l.length → JI J k → DJ bj sb J Lj → SlG oa xs.length oc 1 (trows xs) Lo → TxV X Ld xs → Hp X S (C b6 [.int .u64 ab, .int .u64 as_] :: (Ls ++ (Lj ++ (Lo ++ (Ld ++ F))))) →
   (∀ (xs' : List Tx) (J' : JM) (oa' : OP) (oc' : Cap) (Lo' Ld' Lj' : List Ent) (S' : AS), rdAll t f J (J.sup.po + sumN J.l) ab as_ (ptx xs) = (J', ptx xs') → JI J' k → J'.sup = J.sup → J'.first = J.first → J'.count = J.count → xs'.length ≤ 40 → DJ bj sb J' Lj' → SlG oa' xs'.length oc' 1 (trows xs') Lo' → TxV X Ld' xs' → Hp X S' (Ls ++ (Lj' ++ (Lo' ++ (Ld' ++ F)))) → Ok (some (AV.sl oa' xs'.length oc', S')) Q) →
   Ok (J61_lZAU (evF E orcL (n + 4)) n0 m (some (.rw bj, 0)) J.sup.bo w4 oa xs.length oc (some (.rw b6, 0)) S) Q
 | 0, m, J, xs, ab, as_, w4, oa, oc, Lo, Ld, Lj, S, hm, hf, hJN, hxl, hJ, hj, hs, hd, h, fin => by
   have := hJ.rm
   omega
 | f + 1, 0, J, xs, ab, as_, w4, oa, oc, Lo, Ld, Lj, S, hm, hf, hJN, hxl, hJ, hj, hs, hd, h, fin => by omega
 | f + 1, m + 1, J, xs, ab, as_, w4, oa, oc, Lo, Ld, Lj, S, hm, hf, hJN, hxl, hJ, hj, hs, hd, h, fin => by
   have h38 := hJ.lcount
   have q1 := hJ.ls
   have q2 := hJ.k1
   have q3 := hJ.po
   have q4 := hJ.rm
   have q5 := hJ.c40
   have q6 := sumN_ge fun o ho => (hJ.ol o ho).1
   rw [J61_lZAU_succ]
   simp only [b61_lZAU]
   have hjj : Hp X S (Lj ++ (Ls ++ (C b6 [.int .u64 ab, .int .u64 as_] :: (Lo ++ (Ld ++ F))))) := h.re (by intro p; simp only [List.countP_append, List.countP_cons, List.cons_append, C]; omega)
   have hss : Hp X S (Ls ++ (Lj ++ (C b6 [.int .u64 ab, .int .u64 as_] :: (Lo ++ (Ld ++ F))))) := h.re (by intro p; simp only [List.countP_append, List.countP_cons, List.cons_append, C]; omega)
   rw [callI_of (show evF E orcL (n + 4) (.fn 65) [.ptr (some (.rw bj, 0))] S = _ from dnext_eq (n + 2) (by omega) hJ hjj hj)]
   obtain ⟨v, S8, e8, x, xa, xc, Lx, rfl, hxr, hvx, h8⟩ : Ok (evF E orcL (n + 4) (.fn 74) [.ptr (some (.rw bj, 0)), .int .u64 (J.sup.po + sumN J.l)] S) _ := entry_ok n hn hSI hK hSK hJ.c6 hJ.ff hJN (by omega) hb hj hss
   rw [callT_of e8]
   refine ok_atG rfl rfl (ok_atB rfl (ok_newA h8 (fun b12 S13 h13 => ok_ifO rfl (ok_stn h13 (by simp [erow]) (d := erow x xa x.by_.length xc) (by simp [splice, erow]) (fun S14 h14 => ?_)))))
   have h14' : Hp X S14 (C b12 (erow x xa x.by_.length xc) :: C b6 [.int .u64 ab, .int .u64 as_] :: (Lx ++ (Ls ++ (Lj ++ (Lo ++ (Ld ++ F)))))) := h14.re (by intro p; simp only [List.countP_append, List.countP_cons, List.cons_append, C]; omega)
   rw [rdAll_succ] at fin
   have stop : ∀ S', rdTx t J (J.sup.po + sumN J.l) (J.sup.ls + (J.l.length : Nat) + 1) ab as_ ((J.count : Int) - 2 - sumN J.l) = none → Hp X S' (Ls ++ (Lj ++ (Lo ++ (Ld ++ F)))) → Ok (some (AV.sl oa xs.length oc, S')) Q := fun S' he hh => by
    rw [he] at fin
    exact fin xs J oa oc Lo Ld Lj S' rfl hJ rfl rfl rfl (by omega) hj hs hd hh
   have dr14 : ∀ {S' : AS} {M : List Ent}, Hp X S' (M ++ (C b12 (erow x xa x.by_.length xc) :: C b6 [.int .u64 ab, .int .u64 as_] :: (Lx ++ (Ls ++ (Lj ++ (Lo ++ (Ld ++ F))))))) → Hp X S' (Ls ++ (Lj ++ (Lo ++ (Ld ++ F)))) := fun {S' M} hh => (hh.re (M := (M ++ (C b12 (erow x xa x.by_.length xc) :: C b6 [.int .u64 ab, .int .u64 as_] :: Lx)) ++ (Ls ++ (Lj ++ (Lo ++ (Ld ++ F))))) (by intro p; simp only [List.countP_append, List.countP_cons, List.cons_append, C]; omega)).right
   cases hen : enR t J (J.sup.po + sumN J.l) with
   | none => exact ok_true rfl (stop S14 (by rw [rdTx, hen]) (dr14 (M := []) h14'))
   | some y =>
     have hxy := hxr y hen
     subst hxy
     have hoe := (okE_iff _).1 (enR_ok hen)
     have hby := hoe.2.2.2.2.2.2.2.2.2.2.2.2
     have hp1 := hoe.2.2.2.2.2.2.2.1
     have hp2 := hoe.2.2.2.2.2.2.2.2.1
     have hrd : rdTx t J (J.sup.po + sumN J.l) (J.sup.ls + (J.l.length : Nat) + 1) ab as_ ((J.count : Int) - 2 - sumN J.l) = if hdOk J x (J.sup.ls + (J.l.length : Nat) + 1) ab as_ ((J.count : Int) - 2 - sumN J.l) = true then rdE x (rdPs t J (J.sup.po + sumN J.l) x (x.ps.toNat - 1) 1 x.by_) else none := by
      rw [rdTx, hen]
      simp only
      split
      ·cases rdPs t J (J.sup.po + sumN J.l) x (x.ps.toNat - 1) 1 x.by_ <;> rfl
      ·rfl
     have nh : hdOk J x (J.sup.ls + (J.l.length : Nat) + 1) ab as_ ((J.count : Int) - 2 - sumN J.l) = false → rdTx t J (J.sup.po + sumN J.l) (J.sup.ls + (J.l.length : Nat) + 1) ab as_ ((J.count : Int) - 2 - sumN J.l) = none := fun he => by rw [hrd, if_neg (by simp [he])]
     refine ok_false rfl (ok_ldI h14' rfl (ok_cond (fun c1 => stop S14 (nh (by simp only [bne_iff_ne, ne_eq] at c1; simp [hdOk, c1])) (dr14 (M := []) h14')) (fun c1 => ?_)))
     simp only [bne_eq_false_iff_eq] at c1
     have h14j : Hp X S14 (Lj ++ (C b12 (erow x xa x.by_.length xc) :: C b6 [.int .u64 ab, .int .u64 as_] :: (Lx ++ (Ls ++ (Lo ++ (Ld ++ F)))))) := h14'.re (by intro p; simp only [List.countP_append, List.countP_cons, List.cons_append, C]; omega)
     refine ok_ldI h14' rfl ?_
     rw [callI_of (show evF E orcL (n + 4) (.fn 48) [.ptr (some (.rw bj, 0))] S14 = _ from dlast_eq (n + 3) hJ h14j hj)]
     rw [wu64 (n := J.sup.ls + (J.l.length : Nat) + 1) (by omega) (by omega)]
     refine ok_ldI h14' rfl (ok_true (by simp [AV.beq]) (ok_cond (fun c2 => stop S14 (nh (by simp only [bne_iff_ne, ne_eq] at c2; simp [hdOk, c2])) (dr14 (M := []) h14')) (fun c2 => ?_)))
     simp only [bne_eq_false_iff_eq] at c2
     refine ok_ldI h14' rfl (ok_cond (fun c3 => stop S14 (nh (by simp only [gt_iff_lt, decide_eq_true_eq] at c3; simp [hdOk, show ¬ x.bo ≤ J.sup.bo by omega])) (dr14 (M := []) h14')) (fun c3 => ?_))
     simp only [gt_iff_lt, decide_eq_false_iff_not] at c3
     refine ok_ldI h14' rfl ?_
     rw [callI_of (show evF E orcL (n + 4) (.fn 49) [.ptr (some (.rw bj, 0))] S14 = _ from droom_eq (n + 2) (by omega) hJ h14j hj)]
     refine ok_ldI h14' rfl (ok_true (by simp [AV.beq]) (ok_cond (fun c4 => stop S14 (nh (by simp only [gt_iff_lt, decide_eq_true_eq] at c4; simp [hdOk, show ¬ x.ps ≤ (J.count : Int) - 2 - sumN J.l by omega])) (dr14 (M := []) h14')) (fun c4 => ?_)))
     simp only [gt_iff_lt, decide_eq_false_iff_not] at c4
     refine ok_ldI h14' rfl (ok_ldI h14' rfl (ok_newA h14' (fun b27 S28 h28 => ok_stn h28 (by simp) (d := [.int .u64 x.bo, .int .u64 x.se]) (by simp [splice]) (fun S29 h29 => ok_ldn h29 (by simp) (d := [.int .u64 x.bo, .int .u64 x.se]) rfl (ok_gO (ok_ldn h29 (by simp) (d := [.int .u64 ab, .int .u64 as_]) rfl ?_))))))
     obtain ⟨v, S33, e33, rfl, h33⟩ : Ok (evF E orcL (n + 4) (.fn 75) [.agg [.int .u64 x.bo, .int .u64 x.se], .agg [.int .u64 ab, .int .u64 as_]] S29) _ := behind_ok (n + 3) h29
     rw [callB_of e33]
     refine ok_cond (fun c5 => stop S33 (nh (by rw [Bool.not_eq_true'] at c5; simp only [hdOk, c5, Bool.and_false, Bool.false_and])) (dr14 (M := [C b27 [.int .u64 x.bo, .int .u64 x.se]]) h33)) (fun c5 => ?_)
     rw [Bool.not_eq_false'] at c5
     have hall : hdOk J x (J.sup.ls + (J.l.length : Nat) + 1) ab as_ ((J.count : Int) - 2 - sumN J.l) = true := by
      simp only [hdOk, c5, Bool.and_true, Bool.and_eq_true, decide_eq_true_eq]
      exact ⟨⟨⟨c1, c2⟩, by omega⟩, by omega⟩
     rw [if_pos hall] at hrd
     have hz := rdPs_zero (t := t) (J := J) (p := J.sup.po + sumN J.l) (x := x) (P := x.ps.toNat) (by omega) (by omega) hen c1
     rw [← hz] at hrd
     have h33' : Hp X S33 ([] ++ (C b12 (erow x xa x.by_.length xc) :: C b27 [.int .u64 x.bo, .int .u64 x.se] :: C b6 [.int .u64 ab, .int .u64 as_] :: (Ls ++ (Lj ++ (Lo ++ (Ld ++ (Lx ++ F))))))) := h33.re (by intro p; simp only [List.countP_append, List.countP_cons, List.countP_nil, List.nil_append, List.cons_append, C]; omega)
     clear h14 h14' h14j h33 h28 h29 h13 h8
     refine dps_loop (F := Lx ++ F) (s := []) n0 n hn hSI hK hSK hJ hJN hb hj (P := x.ps.toNat) (by omega) (by omega) n0 0 none (.ex 0) [] S33 (by omega) (by omega) (by simp) (by exact (SlG.nil : SlG none 0 (.ex 0) 1 [] [])) h33' (fun s' hs' hsl' S' pa' pc' Lp' hsp' h' => ?_) (fun hs' S' h' => stop S' (by rw [hrd, hs']; rfl) (h'.re (M := Lx ++ (Ls ++ (Lj ++ (Lo ++ (Ld ++ F))))) (by intro p; simp only [List.countP_append]; omega)).right)
     rw [hs'] at hrd
     simp only [J61_jZAG, b61_jZAG]
     obtain ⟨v, S4, e4, qs, a4, c4', Lr, Lq, rfl, hq4, hs4, hd4, h4'⟩ : Ok (evF E orcL (n + 4) (.fn 76) [.sl pa' s'.length pc'] S') _ := rgetT_ok (n + 2) (by omega) h' (slG_vw hsp' (fun e he => by simp [he])) (by omega)
     rw [callT_of e4]
     refine ok_atL rfl (ok_atI rfl ?_)
     by_cases hg : goodT s' = true
     ·have hgt : getTe s' = 0 := by rw [getTe, if_pos hg]
      have hrd2 : rdTx t J (J.sup.po + sumN J.l) (J.sup.ls + (J.l.length : Nat) + 1) ab as_ ((J.count : Int) - 2 - sumN J.l) = some (listT s', ⟨x.ps, x.bo, x.se⟩) := by rw [hrd, rdE, if_pos hg]
      rw [hrd2] at fin
      have hbl := blkP_lt (J := J) (p := J.sup.po + sumN J.l) hJ.c6 (by omega)
      have ho := rdTx_some hrd2 hSK (by rw [hSI.len]; omega)
      have hJ' := hJ.push ho
      have hqt : pts qs = listT s' := by rw [hq4, getT, if_pos hg]
      rw [hgt]
      refine ok_false rfl (ok_newA h4' (fun b66 S67 h67 => ?_))
      have h67' : Hp X S67 (Lo ++ (C b66 (trow ⟨qs, a4, c4'⟩) :: (C b12 (erow x xa x.by_.length xc) :: C b27 [.int .u64 x.bo, .int .u64 x.se] :: C b6 [.int .u64 ab, .int .u64 as_] :: (Lr ++ (Lq ++ (Lp' ++ (Lx ++ (Ls ++ (Lj ++ (Ld ++ F)))))))))) := h67.re (by intro p; simp only [List.countP_append, List.countP_cons, List.countP_nil, List.cons_append, C, trow]; omega)
      clear h67 h4' h'
      refine ok_appendG h67' hs (ys := trows [⟨qs, a4, c4'⟩]) (trows_all _) rfl (fun K => ?_) (by decide) (by simp [pow46]; omega) (by simp [pow46]; omega) (fun a8 l8 c8 S69 L8 ht8 h69 => ?_)
      ·have := RdR.first (.rw (X := X) (b := b66) (i := 0) (c := trow ⟨qs, a4, c4'⟩) (cs := trow ⟨qs, a4, c4'⟩) (L := _) (List.mem_append_right Lo List.mem_cons_self) (by simp) rfl) h67' (sz := 1) (n := 1) rfl (by decide) (l := 1) (c := .ex 1) K
       simpa [trows] using this
      rw [← trows_append] at ht8
      obtain rfl : l8 = (xs ++ [(⟨qs, a4, c4'⟩ : Tx)]).length := by have := ht8.len; rw [trows_len] at this; exact this
      obtain ⟨na, nc, ta, tc, Ln, Lt, hn1, ht1, hLj⟩ := hj
      rw [hLj] at h69
      have h69' : Hp X S69 (C bj (drow sb J na nc ta tc J.l.length) :: C b12 (erow x xa x.by_.length xc) :: C b27 [.int .u64 x.bo, .int .u64 x.se] :: C b6 [.int .u64 ab, .int .u64 as_] :: (Ln ++ (Lt ++ (L8 ++ (Lr ++ (Lq ++ (Ls ++ (Ld ++ F)))))))) := (h69.re (M := (C b66 (trow ⟨qs, a4, c4'⟩) :: (Lp' ++ Lx)) ++ (C bj (drow sb J na nc ta tc J.l.length) :: C b12 (erow x xa x.by_.length xc) :: C b27 [.int .u64 x.bo, .int .u64 x.se] :: C b6 [.int .u64 ab, .int .u64 as_] :: (Ln ++ (Lt ++ (L8 ++ (Lr ++ (Lq ++ (Ls ++ (Ld ++ F))))))))) (by intro p; simp only [List.countP_append, List.countP_cons, List.countP_nil, List.cons_append, C]; omega)).right
      clear h69 h67'
      refine ok_drawA h69' [7] (by simp) (by simp) (fun b70 S71 h71 => ?_)
      have h71' : Hp X S71 ((b70 + 7, none) :: C bj (drow sb J na nc ta tc J.l.length) :: C b12 (erow x xa x.by_.length xc) :: C b27 [.int .u64 x.bo, .int .u64 x.se] :: C b6 [.int .u64 ab, .int .u64 as_] :: (Ln ++ (Lt ++ (L8 ++ (Lr ++ (Lq ++ (Ls ++ (Ld ++ F)))))))) := h71
      refine ok_gO (ok_ldL h71' rfl (ok_gO (ok_ldI h71' rfl (ok_layA (b := b70 + 7) h71' (fun S76 h76 => ?_)))))
      have h76' : Hp X S76 (Ln ++ (C (b70 + 7) [.int .i64 x.ps] :: (C bj (drow sb J na nc ta tc J.l.length) :: C b12 (erow x xa x.by_.length xc) :: C b27 [.int .u64 x.bo, .int .u64 x.se] :: C b6 [.int .u64 ab, .int .u64 as_] :: (Lt ++ (L8 ++ (Lr ++ (Lq ++ (Ls ++ (Ld ++ F))))))))) := h76.re (by intro p; simp only [List.countP_append, List.countP_cons, List.countP_nil, List.cons_append, C]; omega)
      have hll : (J.l ++ [(⟨x.ps, x.bo, x.se⟩ : One)]).length = J.l.length + 1 := by simp
      refine so_push (sz := 1) (by decide) rfl (by rw [nrows_len]; omega) (by decide) hn1 h76' (fun a3 c3 L3 S78 hs3 h78 => ?_)
      have e3 : (nrows J.l ++ [[AV.int .i64 x.ps]]) = nrows (J.l ++ [⟨x.ps, x.bo, x.se⟩]) := by rw [nrows_append]; rfl
      rw [e3] at hs3 ⊢
      rw [nrows_len, hll] at hs3 ⊢
      have h78c : Hp X S78 (C bj (drow sb J na nc ta tc J.l.length) :: C b12 (erow x xa x.by_.length xc) :: C b27 [.int .u64 x.bo, .int .u64 x.se] :: C b6 [.int .u64 ab, .int .u64 as_] :: (L3 ++ (Lt ++ (L8 ++ (Lr ++ (Lq ++ (Ls ++ (Ld ++ F)))))))) := h78.re (by intro p; simp only [List.countP_append, List.countP_cons, List.cons_append, C]; omega)
      refine ok_gO (ok_stn h78c (by simp [drow]) (d := [.ptr (some (.rw sb, 0)), .int .i64 J.first, .int .i64 J.count, .int .u64 J.sup.g, .int .u64 J.sup.bo, .int .u64 J.se, .int .u64 J.sup.po, .int .u64 J.sup.ls, .sl a3 (J.l.length + 1) c3, .sl ta J.l.length tc, .int .u64 J.sup.ab, .int .u64 J.sup.as_, .int .u64 J.sy]) (by simp [splice, drow]) (fun S80 h80 => ?_))
      clear h71 h71' h76 h76' h78 h78c h69'
      refine ok_drawA h80 [6] (by simp) (by simp) (fun b81 S82 h82 => ?_)
      have h82' : Hp X S82 ((b81 + 6, none) :: C bj [.ptr (some (.rw sb, 0)), .int .i64 J.first, .int .i64 J.count, .int .u64 J.sup.g, .int .u64 J.sup.bo, .int .u64 J.se, .int .u64 J.sup.po, .int .u64 J.sup.ls, .sl a3 (J.l.length + 1) c3, .sl ta J.l.length tc, .int .u64 J.sup.ab, .int .u64 J.sup.as_, .int .u64 J.sy] :: C b12 (erow x xa x.by_.length xc) :: C b27 [.int .u64 x.bo, .int .u64 x.se] :: C b6 [.int .u64 ab, .int .u64 as_] :: (L3 ++ (Lt ++ (L8 ++ (Lr ++ (Lq ++ (Ls ++ (Ld ++ F)))))))) := h82
      refine ok_gO (ok_ldL h82' rfl (ok_gO (ok_ldn h82' (by simp) (d := [.int .u64 x.bo, .int .u64 x.se]) rfl (ok_ifO rfl (ok_ifO (by simp) (ok_layA (b := b81 + 6) h82' (fun S88 h88 => ?_)))))))
      have h88' : Hp X S88 (Lt ++ (C (b81 + 6) (strow ⟨x.ps, x.bo, x.se⟩) :: (C bj [.ptr (some (.rw sb, 0)), .int .i64 J.first, .int .i64 J.count, .int .u64 J.sup.g, .int .u64 J.sup.bo, .int .u64 J.se, .int .u64 J.sup.po, .int .u64 J.sup.ls, .sl a3 (J.l.length + 1) c3, .sl ta J.l.length tc, .int .u64 J.sup.ab, .int .u64 J.sup.as_, .int .u64 J.sy] :: C b12 (erow x xa x.by_.length xc) :: C b27 [.int .u64 x.bo, .int .u64 x.se] :: C b6 [.int .u64 ab, .int .u64 as_] :: (L3 ++ (L8 ++ (Lr ++ (Lq ++ (Ls ++ (Ld ++ F))))))))) := h88.re (by
       have e6 : splice [AV.int .u64 0, .int .u64 0] 0 [.int .u64 x.bo, .int .u64 x.se] = strow ⟨x.ps, x.bo, x.se⟩ := rfl
       intro p; simp only [e6, List.countP_append, List.countP_cons, List.cons_append, C]; omega)
      refine so_push (sz := 2) (by decide) rfl (by rw [strows_len]; omega) (by decide) ht1 h88' (fun a9 c9 L9 S90 hs9 h90 => ?_)
      have e4 : (strows J.l ++ [strow (⟨x.ps, x.bo, x.se⟩ : One)]) = strows (J.l ++ [⟨x.ps, x.bo, x.se⟩]) := by rw [strows_append]; rfl
      rw [e4] at hs9 ⊢
      rw [strows_len, hll] at hs9 ⊢
      have h90c : Hp X S90 (C bj [.ptr (some (.rw sb, 0)), .int .i64 J.first, .int .i64 J.count, .int .u64 J.sup.g, .int .u64 J.sup.bo, .int .u64 J.se, .int .u64 J.sup.po, .int .u64 J.sup.ls, .sl a3 (J.l.length + 1) c3, .sl ta J.l.length tc, .int .u64 J.sup.ab, .int .u64 J.sup.as_, .int .u64 J.sy] :: C b12 (erow x xa x.by_.length xc) :: C b27 [.int .u64 x.bo, .int .u64 x.se] :: C b6 [.int .u64 ab, .int .u64 as_] :: (L3 ++ (L9 ++ (L8 ++ (Lr ++ (Lq ++ (Ls ++ (Ld ++ F)))))))) := h90.re (by intro p; simp only [List.countP_append, List.countP_cons, List.cons_append, C]; omega)
      refine ok_gO (ok_stn h90c (by simp) (d := drow sb (J.push ⟨x.ps, x.bo, x.se⟩) a3 c3 a9 c9 (J.push ⟨x.ps, x.bo, x.se⟩).l.length) (by simp [splice, drow, JM.push]) (fun S92 h92 => ?_))
      refine ok_gO (ok_ldn h92 (by simp) (d := [.int .u64 x.bo, .int .u64 x.se]) rfl (ok_gO (ok_ifO rfl (ok_stn h92 (by simp) (d := [.int .u64 x.bo, .int .u64 x.se]) (by simp [splice]) (fun S95 h95 => ?_)))))
      have hl' : (xs ++ [(⟨qs, a4, c4'⟩ : Tx)]).length = (J.push ⟨x.ps, x.bo, x.se⟩).l.length := by
       show _ = (J.l ++ [_]).length
       rw [List.length_append, List.length_append, hxl]; rfl
      have hsn : sumN (J.push ⟨x.ps, x.bo, x.se⟩).l = sumN J.l + x.ps := sumN_snoc ⟨x.ps, x.bo, x.se⟩ J.l
      have h95' : Hp X S95 (C b6 [.int .u64 x.bo, .int .u64 x.se] :: (Ls ++ ((C bj (drow sb (J.push ⟨x.ps, x.bo, x.se⟩) a3 c3 a9 c9 (J.push ⟨x.ps, x.bo, x.se⟩).l.length) :: (L3 ++ L9)) ++ (L8 ++ ((Lr ++ (Lq ++ Ld)) ++ F))))) := (h95.re (M := C b12 (erow x xa x.by_.length xc) :: C b27 [.int .u64 x.bo, .int .u64 x.se] :: (C b6 [.int .u64 x.bo, .int .u64 x.se] :: (Ls ++ ((C bj (drow sb (J.push ⟨x.ps, x.bo, x.se⟩) a3 c3 a9 c9 (J.push ⟨x.ps, x.bo, x.se⟩).l.length) :: (L3 ++ L9)) ++ (L8 ++ ((Lr ++ (Lq ++ Ld)) ++ F)))))) (by intro p; simp only [List.countP_append, List.countP_cons, List.cons_append, C]; omega)).drop1.drop1
      have hJl : (J.push ⟨x.ps, x.bo, x.se⟩).l.length = J.l.length + 1 := hll
      refine dread_loop (b6 := b6) n0 n hn hn0 hSI hK hSK hb f m (J.push ⟨x.ps, x.bo, x.se⟩) (xs ++ [⟨qs, a4, c4'⟩]) x.bo x.se .undef a8 c8 L8 (Lr ++ (Lq ++ Ld)) _ S95 (by omega) (by rw [hsn]; show (J.count : Int) - 2 - _ < _; omega) hJN hl' hJ' ⟨a3, c3, a9, c9, L3, L9, by rw [hJl]; exact hs3, by rw [hJl]; exact hs9, rfl⟩ ht8 (fun y hy => ?_) h95' (fun xs' J' oa' oc' Lo' Ld' Lj' S' hall' hJI' e1 e2 e3 hxs' hj' hs' hd' h' => ?_)
      ·rcases List.mem_append.1 hy with hy | hy
       ·exact ⟨(hd y hy).1.mono (fun e he => by simp [he]), (hd y hy).2.mono (fun e he => by simp [he])⟩
       ·simp only [List.mem_singleton] at hy
        subst hy
        exact ⟨hs4.rd (fun e he => by simp [he]), hd4.mono (fun e he => by simp [he])⟩
      ·refine fin xs' J' oa' oc' Lo' Ld' Lj' S' ?_ hJI' e1 e2 e3 hxs' hj' hs' hd' h'
       have e : ptx (xs ++ [(⟨qs, a4, c4'⟩ : Tx)]) = ptx xs ++ [listT s'] := by simp [ptx, hqt]
       rw [e, hsn] at hall'
       show rdAll t f (J.push ⟨x.ps, x.bo, x.se⟩) (J.sup.po + sumN J.l + x.ps) x.bo x.se (ptx xs ++ [listT s']) = _
       rw [show J.sup.po + sumN J.l + x.ps = (J.push ⟨x.ps, x.bo, x.se⟩).sup.po + (sumN J.l + x.ps) by show _ = J.sup.po + _; omega]
       exact hall'
     ·have hgt : getTe s' = 82 := by rw [getTe, if_neg hg]
      rw [hgt]
      refine ok_true rfl (stop S4 (by rw [hrd, rdE, if_neg hg]) ?_)
      exact (h4'.re (M := (Lr ++ (Lq ++ (Lp' ++ (C b12 (erow x xa x.by_.length xc) :: C b27 [.int .u64 x.bo, .int .u64 x.se] :: C b6 [.int .u64 ab, .int .u64 as_] :: Lx)))) ++ (Ls ++ (Lj ++ (Lo ++ (Ld ++ F))))) (by intro p; simp only [List.countP_append, List.countP_cons, List.cons_append, C]; omega)).right
end
end Go.Jn.P
namespace Go.Jn.P
open Go.Gr Go.Jn
noncomputable def roTail (call : CallA) (x0 : OP) (x1 x2 : Int) (b15 : Nat) (S : AS) : RV :=
 ldI .u64 S (.rw b15) 0 fun v27 =>
 ldI .u64 S (.rw b15) 1 fun v28 =>
 ldI .u64 S (.rw b15) 2 fun v29 =>
 ldI .u64 S (.rw b15) 3 fun v30 =>
 ldI .u64 S (.rw b15) 4 fun v31 =>
 ldI .u64 S (.rw b15) 5 fun v32 =>
 newA S (.cells [(.ptr x0), (.int .i64 x1), (.int .i64 x2), (.int .u64 v27), (.int .u64 v28), (.int .u64 0), (.int .u64 v29), (.int .u64 v30), (.sl none 0 (.ex 0)), (.sl none 0 (.ex 0)), (.int .u64 v31), (.int .u64 v32), (.int .u64 0)]) fun b33 S34 =>
 ldI .u64 S34 (.rw b15) 1 fun v35 =>
 callL call 61 [(.ptr (some ((.rw b33), 0))), (.int .u64 v35)] S34 fun v37a v37l v37c S36 =>
 ldI .u64 S36 (.rw b15) 0 fun v38 =>
 cond (decide (v38 ≥ 4611686018427387904)) (
 some (.tup [(.ptr none), (.sl none 0 (.ex 0)), (.int .i64 5)], S36)) (
 ldI .u64 S36 (.rw b15) 1 fun v39 =>
 cond (decide (v39 ≥ 4611686018427387904)) (
 some (.tup [(.ptr none), (.sl none 0 (.ex 0)), (.int .i64 5)], S36)) (
 ldI .u64 S36 (.rw b15) 1 fun v40 =>
 S36.stn (.rw b33) 4 [(.int .u64 (IntKind.wrap .u64 (v40 + 1)))] fun S41 =>
 ldI .u64 S41 (.rw b33) 4 fun v42 =>
 S41.stn (.rw b15) 1 [(.int .u64 v42)] fun S43 =>
 S43.ldn (.rw b15) 0 6 fun g44 =>
 callI .i64 call 62 [(.ptr (some ((.rw b33), 0))), (.agg g44)] S43 fun v46 S45 =>
 cond (v46 != 0) (
 some (.tup [(.ptr none), (.sl none 0 (.ex 0)), (.int .i64 v46)], S45)) (
 callI .u64 call 48 [(.ptr (some ((.rw b33), 0)))] S45 fun v48 S47 =>
 S47.stn (.rw b33) 12 [(.int .u64 v48)] fun S49 =>
 some (.tup [(.ptr (some ((.rw b33), 0))), (.sl v37a v37l v37c), (.int .i64 0)], S49))))
def DopQ (X : Cx) (F : List Ent) (sb : Nat) (t : St) (first count : Int) : AV → AS → Prop := fun v S' => ∃ L', StB sb (opT t first count) L' ∧
 (opE t first count ≠ 0 → v = .tup [.ptr none, .sl none 0 (.ex 0), .int .i64 (opE t first count)] ∧ Hp X S' (L' ++ F)) ∧
 (opE t first count = 0 → ∃ (bj : Nat) (xs : List Tx) (a : OP) (c : Cap) (Lo Ld Lj : List Ent), v = .tup [.ptr (some (.rw bj, 0)), .sl a xs.length c, .int .i64 0] ∧ xs.length ≤ 40 ∧ ptx xs = opL t first count ∧ SlG a xs.length c 1 (trows xs) Lo ∧ TxV X Ld xs ∧ DJ bj sb (opJ t first count) Lj ∧ Hp X S' (Lo ++ (Ld ++ (L' ++ (Lj ++ F)))))
section
variable {X : Cx} {S : AS} {L F G Lj Ls : List Ent} {b bj sb : Nat} {Q : AV → AS → Prop} {J : JM} {k : Nat} {t : St}
theorem place_eq (n : Nat) {first count : Int} (ht : t.s.length ≤ 1000000) (hb : StB b t L) (h : Hp X S (L ++ F)) : ev (n + 1) (.fn 42) [.ptr (some (.rw b, 0)), .int .i64 first, .int .i64 count] S = some (.int .i64 (fitE t.s.length first count), S) := by
 obtain ⟨sa, sl, sc, qa, ql, qc, L1, L2, hs1, hs2, rfl⟩ := hb
 have hl := hs1.len
 rw [strs_len] at hl
 subst hl
 apply ok_eq
 rw [ev, F42 _ _ _ _ _ (oL rfl)]
 simp only [J42, b42_entry]
 refine ok_cond (fun c1 => ?_) (fun c1 => ?_)
 ·simp only [decide_eq_true_eq] at c1
  exact ok_ret ⟨by rw [fitE, if_pos (.inl c1)], rfl⟩
 simp only [decide_eq_false_iff_not] at c1
 refine ok_cond (fun c2 => ?_) (fun c2 => ?_)
 ·simp only [decide_eq_true_eq] at c2
  exact ok_ret ⟨by rw [fitE, if_pos (.inr (.inl c2))], rfl⟩
 simp only [decide_eq_false_iff_not] at c2
 refine ok_gO (ok_ldL h rfl (ok_cond (fun c3 => ?_) (fun c3 => ?_)))
 ·simp only [gt_iff_lt, decide_eq_true_eq] at c3
  exact ok_ret ⟨by rw [fitE, if_pos (by omega)], rfl⟩
 simp only [gt_iff_lt, decide_eq_false_iff_not] at c3
 refine ok_gO (ok_ldL h rfl ?_)
 rw [wz (x := ((t.s.length : Nat) : Int) - count) rfl (by omega) (by omega)]
 refine ok_cond (fun c4 => ?_) (fun c4 => ?_)
 ·simp only [gt_iff_lt, decide_eq_true_eq] at c4
  exact ok_ret ⟨by rw [fitE, if_pos (by omega)], rfl⟩
 ·simp only [gt_iff_lt, decide_eq_false_iff_not] at c4
  exact ok_ret ⟨by rw [fitE, if_neg (by omega)], rfl⟩
theorem dread_ok (n : Nat) (hn : 1000010 < n) {N K : Nat} (hSI : SI t N K) (hK : K ≤ 1000000) (hSK : SK k t) (hb : StB sb t Ls) (hN : J.first + J.count ≤ N) (hJl : J.l = []) (hJ : JI J k) (hj : DJ bj sb J Lj) (h : Hp X S (Ls ++ (Lj ++ F))) :
 Ok (ev (n + 5) (.fn 61) [.ptr (some (.rw bj, 0)), .int .u64 J.sup.bo] S) fun v S' => ∃ (xs : List Tx) (J' : JM) (a : OP) (c : Cap) (Lo Ld Lj' : List Ent), v = .sl a xs.length c ∧ rdAll t 60 J J.sup.po J.sup.ab J.sup.as_ [] = (J', ptx xs) ∧ JI J' k ∧ J'.sup = J.sup ∧ J'.first = J.first ∧ J'.count = J.count ∧ xs.length ≤ 40 ∧ DJ bj sb J' Lj' ∧ SlG a xs.length c 1 (trows xs) Lo ∧ TxV X Ld xs ∧ Hp X S' (Ls ++ (Lj' ++ (Lo ++ (Ld ++ F)))) := by
 have hj0 := hj
 have q1 := hJ.c40
 obtain ⟨na, nc, ta, tc, Ln, Lt, hn1, ht1, rfl⟩ := hj
 rw [ev, F61 _ _ _ _ (oL rfl)]
 simp only [J61, b61_entry]
 refine ok_gO (ok_ldn h (by simp [drow]) (d := [.int .u64 J.sup.ab, .int .u64 J.sup.as_]) rfl (ok_newA h (fun b3 S4 h4 => ok_ifO rfl (ok_stn h4 (by simp) (d := [.int .u64 J.sup.ab, .int .u64 J.sup.as_]) (by simp [splice]) (fun S5 h5 => ?_)))))
 have h5' : Hp X S5 (C b3 [.int .u64 J.sup.ab, .int .u64 J.sup.as_] :: (Ls ++ ((C bj (drow sb J na nc ta tc J.l.length) :: (Ln ++ Lt)) ++ ([] ++ ([] ++ F))))) := h5
 have hp : J.sup.po + sumN J.l = J.sup.po := by rw [hJl]; simp [sumN]
 have hs0 : sumN J.l = 0 := by rw [hJl]; rfl
 refine dread_loop (b6 := b3) (n + 4) n hn rfl hSI hK hSK hb 60 (n + 4) J [] J.sup.ab J.sup.as_ _ none (.ex 0) [] [] _ S5 (by omega) (by omega) hN (by rw [hJl]; rfl) hJ hj0 (by exact (SlG.nil : SlG none 0 (.ex 0) 1 [] [])) (fun y hy => by cases hy) h5' (fun xs' J' oa' oc' Lo' Ld' Lj' S' hall hJI' e1 e2 e3 hxs' hj' hs' hd' h' => ok_ret ⟨xs', J', oa', oc', Lo', Ld', Lj', rfl, ?_, hJI', e1, e2, e3, hxs', hj', hs', hd', h'⟩)
 rw [hp] at hall
 exact hall
theorem dopen_ok (n : Nat) (hn : 1000010 < n) {N K : Nat} (hSI : SI t N K) (hK : K ≤ 800000) (hN40 : N ≤ 40) (hSK : SK k t) (hk : k + 40 ≤ 100000) {first count : Int} (hb : StB sb t Ls) (h : Hp X S (Ls ++ F)) :
 Ok (ev (n + 6) (.fn 46) [.ptr (some (.rw sb, 0)), .int .i64 first, .int .i64 count] S) (DopQ X F sb t first count) := by
 have hlen := hSI.len
 rw [ev, F46 _ _ _ _ _ (oL rfl)]
 simp only [J46, b46_entry]
 rw [callI_of (show evF E orcL (n + 5) (.fn 42) [.ptr (some (.rw sb, 0)), .int .i64 first, .int .i64 count] S = _ from place_eq (n + 4) (by omega) hb h)]
 refine ok_cond (fun c1 => ?_) (fun c1 => ?_)
 ·simp only [bne_iff_ne, ne_eq] at c1
  have e1 : opE t first count = fitE t.s.length first count := by rw [opE, if_neg c1]
  have e2 : opT t first count = t := by rw [opT, if_neg (fun h => c1 h.1)]
  refine ok_ret ⟨Ls, by rw [e2]; exact hb, fun _ => ⟨by rw [e1], h⟩, fun he => absurd he (by rw [e1]; exact c1)⟩
 simp only [bne_eq_false_iff_eq] at c1
 obtain ⟨g1, g2, g3⟩ := fitE_iff.1 c1
 obtain ⟨f, hf⟩ : ∃ f : Nat, first = f := ⟨first.toNat, by omega⟩
 obtain ⟨c, hc⟩ : ∃ c : Nat, count = c := ⟨count.toNat, by omega⟩
 subst hf; subst hc
 have hfc : f + c ≤ N := by omega
 have tailOk : ∀ (S : AS) (y : Su) (b15 : Nat) (M : List Ent), supA t f = some y → Hp X S (C b15 (srowS y) :: (Ls ++ (M ++ F))) → Ok (roTail (evF E orcL (n + 5)) (some (.rw sb, 0)) f c b15 S) (DopQ X F sb t f c) := by
  intro S y b15 M hx h
  have hJz : JI (jz f c y) k := jz_JI hSK hx (by omega) (by omega) (by omega) (by omega)
  have ex : opX t f = y := by rw [opX, Int.toNat_natCast, hx]; rfl
  unfold roTail
  refine ok_ldI h rfl (ok_ldI h rfl (ok_ldI h rfl (ok_ldI h rfl (ok_ldI h rfl (ok_ldI h rfl (ok_newA h (fun b33 S34 h34 => ?_)))))))
  have h34a : Hp X S34 (C b33 (drow sb (jz f c y) none (.ex 0) none (.ex 0) 0) :: C b15 (srowS y) :: (Ls ++ (M ++ F))) := h34
  have h34' : Hp X S34 (Ls ++ ([C b33 (drow sb (jz f c y) none (.ex 0) none (.ex 0) 0)] ++ (C b15 (srowS y) :: (M ++ F)))) := h34a.re (by intro p; simp only [List.countP_append, List.countP_cons, List.countP_nil, C]; omega)
  refine ok_ldI h34a rfl ?_
  obtain ⟨v, S36, e36, xs, J', a, c', Lo, Ld, Lj', rfl, hall, hJI', e1, e2, e3, hxs, hj', hs', hd', h36⟩ : Ok (evF E orcL (n + 5) (.fn 61) [.ptr (some (.rw b33, 0)), .int .u64 (jz f c y).sup.bo] S34) _ := dread_ok n hn hSI (by omega) hSK hb (J := jz f c y) hfc rfl hJz ⟨none, .ex 0, none, .ex 0, [], [], .nil, .nil, rfl⟩ h34'
  rw [callL_of (show evF E orcL (n + 5) (.fn 61) [.ptr (some (.rw b33, 0)), .int .u64 y.bo] S34 = _ from e36)]
  have hR : opR t f c y = (J', ptx xs) := hall
  have e1' : J'.sup = y := e1
  have hbo := hJI'.bo
  have hg' := hJI'.g
  have hpo' := hJI'.po
  have hls' := hJI'.ls
  have hab' := hJI'.ab
  have has' := hJI'.as_
  have hk' := hJI'.k1
  rw [e1'] at hbo hg' hpo' hls' hab' has'
  obtain ⟨na, nc, ta, tc, Ln, Lt, hn1, ht1, rfl⟩ := hj'
  have h36' : Hp X S36 (C b33 (drow sb J' na nc ta tc J'.l.length) :: C b15 (srowS y) :: (Ln ++ (Lt ++ (Ls ++ (Lo ++ (Ld ++ (M ++ F))))))) := h36.re (by intro p; simp only [List.countP_append, List.countP_cons, List.countP_nil, List.cons_append, C]; omega)
  refine ok_ldI h36' rfl (ok_false (by simp; omega) (ok_ldI h36' rfl (ok_false (by simp; omega) (ok_ldI h36' rfl ?_))))
  rw [wu64 (n := y.bo + 1) (by omega) (by omega)]
  have hd1 : splice (drow sb J' na nc ta tc J'.l.length) 4 [.int .u64 (y.bo + 1)] = drow sb (J'.sup! (opW y)) na nc ta tc J'.l.length := by
   rw [← e1']; simp [splice, drow, JM.sup!, opW]
  refine ok_stn h36' (by simp [drow]) (d := drow sb (J'.sup! (opW y)) na nc ta tc J'.l.length) hd1 (fun S41 h41 => ok_ldI h41 rfl (ok_stn h41 (by simp [srowS, Su.l]) (d := srowS (opW y)) (by simp [splice, srowS, Su.l, opW, JM.sup!]) (fun S43 h43 => ok_ldn h43 (by simp [srowS, Su.l]) (d := srowS (opW y)) (by simp [srowS, Su.l]) ?_)))
  have hJI1 : JI (J'.sup! (opW y)) (k + 40) := by
   obtain ⟨a1, a2, a3, a4, a5, a6, a7, a8, a9, a10, a11, a12, a13, a14⟩ := hJI'.up (m := k + 40) (by omega) hk
   rw [e1'] at a3 a5 a6 a7 a8 a10
   refine ⟨a1, a2, a3, ?_, a5, a6, a7, a8, a9, a10, a11, a12, a13, a14⟩
   show 1 ≤ y.bo + 1 ∧ y.bo + 1 ≤ ((k + 40 : Nat) : Int); omega
  have hj1 : DJ b33 sb (J'.sup! (opW y)) (C b33 (drow sb (J'.sup! (opW y)) na nc ta tc J'.l.length) :: (Ln ++ Lt)) := ⟨na, nc, ta, tc, Ln, Lt, hn1, ht1, rfl⟩
  have h43' : Hp X S43 (Ls ++ ((C b33 (drow sb (J'.sup! (opW y)) na nc ta tc J'.l.length) :: (Ln ++ Lt)) ++ (C b15 (srowS (opW y)) :: (Lo ++ (Ld ++ (M ++ F)))))) := h43.re (by intro p; simp only [List.countP_append, List.countP_cons, List.countP_nil, List.cons_append, C]; omega)
  obtain ⟨v, S45, e45, rfl, L', Lj'', hb', hj'', h45⟩ : Ok (evF E orcL (n + 5) (.fn 62) [.ptr (some (.rw b33, 0)), .agg (srowS (opW y))] S43) _ := super_ok (n + 1) (by omega) hJI1 (x := opW y) (by intro z hz; simp only [opW, Su.l, List.mem_cons, List.not_mem_nil, or_false] at hz; omega) (by show y.bo + 1 ≠ 0; omega) (N := N) (by show J'.first + J'.count ≤ N; rw [e2, e3]; exact hfc) ⟨hSI.len, hSI.f, by have := hSI.q; omega, hSI.r⟩ h43' hj1 hb
  rw [callI_of e45]
  have hgg : (J'.sup! (opW y)).sup.g = J'.sup.g := by rw [e1']; rfl
  have hwT : wrT (J'.sup! (opW y)) t (opW y) = wrT J' t (opW y) := by
   unfold wrT wrAt
   rw [hgg]; rfl
  rw [hwT] at hb'
  have eE : opE t f c = wE t := by rw [opE, if_pos c1, Int.toNat_natCast, hx]
  have eT : opT t f c = wrT J' t (opW y) := by rw [opT, if_pos ⟨c1, by rw [Int.toNat_natCast, hx]; rfl⟩, ex, hR]
  have eJ : opJ t f c = (wrJ J' t (opW y)).sync := by rw [opJ, ex, hR]
  have eL : opL t f c = ptx xs := by rw [opL, ex, hR]
  refine ok_cond (fun cw => ?_) (fun cw => ?_)
  ·simp only [bne_iff_ne, ne_eq] at cw
   refine ok_ret ⟨L', by rw [eT]; exact hb', fun _ => ⟨by rw [eE], ?_⟩, fun he => absurd he (by rw [eE]; exact cw)⟩
   exact (h45.re (M := (Lj'' ++ (C b15 (srowS (opW y)) :: (Lo ++ (Ld ++ M)))) ++ (L' ++ F)) (by intro p; simp only [List.countP_append, List.countP_cons, List.countP_nil, List.cons_append, C]; omega)).right
  simp only [bne_eq_false_iff_eq] at cw
  have hnf := wE_iff.1 cw
  have hw : wrJ J' t (opW y) = (J'.sup! (opW y)).sup! { (J'.sup! (opW y)).sup with g := (J'.sup! (opW y)).sup.g + 1 } := by
   rw [wrJ, if_neg hnf, hgg]; rfl
  rw [← hw] at hj''
  have hJI2 : JI (wrJ J' t (opW y)) (k + 40) := by
   rw [hw]
   obtain ⟨a1, a2, a3, a4, a5, a6, a7, a8, a9, a10, a11, a12, a13, a14⟩ := hJI1
   refine ⟨a1, a2, ?_, a4, a5, a6, a7, a8, a9, a10, a11, a12, a13, a14⟩
   show 1 ≤ y.g + 1 ∧ y.g + 1 ≤ ((k + 40 : Nat) : Int); omega
  have h45' : Hp X S45 (Lj'' ++ (L' ++ (C b15 (srowS (opW y)) :: (Lo ++ (Ld ++ (M ++ F)))))) := h45.re (by intro p; simp only [List.countP_append]; omega)
  rw [callI_of (show evF E orcL (n + 5) (.fn 48) [.ptr (some (.rw b33, 0))] S45 = _ from dlast_eq (n + 4) hJI2 h45' hj'')]
  obtain ⟨na2, nc2, ta2, tc2, Ln2, Lt2, hn2, ht2, rfl⟩ := hj''
  refine ok_stn h45' (by simp [drow]) (d := drow sb (wrJ J' t (opW y)).sync na2 nc2 ta2 tc2 (wrJ J' t (opW y)).sync.l.length) (by simp [splice, drow, JM.sync]) (fun S49 h49 => ok_ret ⟨L', by rw [eT]; exact hb', fun he => absurd (by rw [eE]; exact cw) he, fun _ => ⟨b33, xs, a, c', Lo, Ld, _, rfl, hxs, eL.symm, hs', hd', by rw [eJ]; exact ⟨na2, nc2, ta2, tc2, Ln2, Lt2, hn2, ht2, rfl⟩, ?_⟩⟩)
  exact (h49.re (M := (C b15 (srowS (opW y)) :: M) ++ (Lo ++ (Ld ++ (L' ++ (C b33 (drow sb (wrJ J' t (opW y)).sync na2 nc2 ta2 tc2 (wrJ J' t (opW y)).sync.l.length) :: (Ln2 ++ Lt2) ++ F))))) (by intro p; simp only [List.countP_append, List.countP_cons, List.cons_append, C]; omega)).right
 have hx0 : f < t.s.length := by omega
 have hx1 : f + 1 < t.s.length := by omega
 obtain ⟨v, S3, e3, a3, c3, L3, rfl, hs3, h3⟩ : Ok (evF E orcL (n + 5) (.fn 59) [.ptr (some (.rw sb, 0)), .int .i64 f] S) _ := read_ok (n + 4) (by omega) (x := f) rfl hx0 hb h (by have := hSI.q; omega) (by rw [(hSK.rd hx0).len]; decide)
 rw [callT_of e3]
 refine ok_atL rfl (ok_atI rfl ?_)
 rw [wn (x := (f : Int) + 1) (n := f + 1) (by omega) (by omega)]
 have h3' : Hp X S3 (Ls ++ (L3 ++ F)) := h3.re (by intro p; simp only [List.countP_append]; omega)
 obtain ⟨v, S7, e7, a7, c7, L7, rfl, hs7, h7⟩ : Ok (evF E orcL (n + 5) (.fn 59) [.ptr (some (.rw sb, 0)), .int .i64 ((f + 1 : Nat) : Int)] S3) _ := read_ok (n + 4) (by omega) (x := f + 1) rfl hx1 hb h3' (by have := hSI.q; omega) (by rw [(hSK.rd hx1).len]; decide)
 rw [callT_of e7]
 refine ok_atL rfl (ok_atI rfl ?_)
 obtain ⟨v, S11, e11, rfl, h11⟩ : Ok (evF E orcL (n + 5) (.fn 60) [.sl a3 (t.rd f).length c3] S7) _ := rgetS_ok (n + 2) (by omega) h7 (slG_vw hs3 (fun e he => by simp [he]))
 rw [callT_of e11]
 refine ok_atG rfl rfl (ok_atI rfl (ok_newA h11 (fun b15 S16 h16 => ok_ifO rfl (ok_stn h16 (by simp [srowS, Su.l]) (d := srowS (getS (t.rd f))) (by simp [splice, srowS, Su.l]) (fun S17 h17 => ?_)))))
 obtain ⟨v, S18, e18, rfl, h18⟩ : Ok (evF E orcL (n + 5) (.fn 60) [.sl a7 (t.rd (f + 1)).length c7] S17) _ := rgetS_ok (n + 2) (by omega) h17 (slG_vw hs7 (fun e he => by simp [he]))
 rw [callT_of e18]
 refine ok_atG rfl rfl (ok_atI rfl (ok_newA h18 (fun b22 S23 h23 => ok_ifO rfl (ok_stn h23 (by simp [srowS, Su.l]) (d := srowS (getS (t.rd (f + 1)))) (by simp [splice, srowS, Su.l]) (fun S24 h24 => ?_)))))
 have h24' : Hp X S24 (C b15 (srowS (getS (t.rd f))) :: C b22 (srowS (getS (t.rd (f + 1)))) :: (Ls ++ ((L3 ++ L7) ++ F))) := h24.re (by intro p; simp only [List.countP_append, List.countP_cons, C]; omega)
 have tA : supA t f = some (getS (t.rd f)) → Ok (roTail (evF E orcL (n + 5)) (some (.rw sb, 0)) f c b15 S24) (DopQ X F sb t f c) := fun he => tailOk S24 _ b15 (C b22 (srowS (getS (t.rd (f + 1)))) :: (L3 ++ L7)) he (h24'.re (by intro p; simp only [List.countP_append, List.countP_cons, List.cons_append, C]; omega))
 have tB : supA t f = some (getS (t.rd (f + 1))) → Ok (S24.ldn (.rw b22) 0 6 fun g25 => ifO (g25.length = 6) <| S24.stn (.rw b15) 0 g25 fun S26 => roTail (evF E orcL (n + 5)) (some (.rw sb, 0)) f c b15 S26) (DopQ X F sb t f c) := fun he => by
  refine ok_ldn h24' (by simp [srowS, Su.l]) (d := srowS (getS (t.rd (f + 1)))) (by simp [srowS, Su.l]) (ok_ifO rfl (ok_stn h24' (by simp [srowS, Su.l]) (d := srowS (getS (t.rd (f + 1)))) (by simp [splice, srowS, Su.l]) (fun S26 h26 => ?_)))
  exact tailOk S26 _ b15 (C b22 (srowS (getS (t.rd (f + 1)))) :: (L3 ++ L7)) he (h26.re (by intro p; simp only [List.countP_append, List.countP_cons, List.cons_append, C]; omega))
 have se : ∀ s, getSe s = 0 ↔ goodS s = true := fun s => by unfold getSe; split <;> simp_all
 have sd : ∀ s, goodS s = true → getS s = decS s := fun s hg => by simp [getS, hg]
 refine ok_cond (fun c2 => ?_) (fun c2 => ?_)
 ·simp only [bne_iff_ne, ne_eq] at c2
  have hg0 : ¬ goodS (t.rd f) = true := fun h => c2 ((se _).2 h)
  refine ok_cond (fun c3 => ?_) (fun c3 => ?_)
  ·simp only [bne_iff_ne, ne_eq] at c3
   have hg1 : ¬ goodS (t.rd (f + 1)) = true := fun h => c3 ((se _).2 h)
   have hx : supA t f = none := by rw [supA, if_neg hg0, if_neg hg1]
   have e1 : opE t f c = 80 := by rw [opE, if_pos c1, Int.toNat_natCast, hx]
   have e2 : opT t f c = t := by rw [opT, if_neg (fun h => by rw [Int.toNat_natCast, hx] at h; exact absurd h.2 (by decide))]
   refine ok_ret ⟨Ls, by rw [e2]; exact hb, fun _ => ⟨by rw [e1], ?_⟩, fun he => absurd he (by rw [e1]; decide)⟩
   exact (h24'.re (M := (C b15 (srowS (getS (t.rd f))) :: C b22 (srowS (getS (t.rd (f + 1)))) :: (L3 ++ L7)) ++ (Ls ++ F)) (by intro p; simp only [List.countP_append, List.countP_cons, List.cons_append, C]; omega)).right
  ·simp only [bne_eq_false_iff_eq] at c3
   have hg1 := (se _).1 c3
   refine ok_true (by simpa using c2) (tB ?_)
   rw [supA, if_neg hg0, if_pos hg1, sd _ hg1]
 ·simp only [bne_eq_false_iff_eq] at c2
  have hg0 := (se _).1 c2
  refine ok_false (by simpa using c2) (ok_cond (fun c3 => ?_) (fun c3 => ?_))
  ·simp only [beq_iff_eq] at c3
   have hg1 := (se _).1 c3
   refine ok_ldI h24' rfl (ok_ldI h24' rfl (ok_cond (fun c4 => ?_) (fun c4 => ?_)))
   ·simp only [gt_iff_lt, decide_eq_true_eq] at c4
    refine tB ?_
    rw [sd _ hg0, sd _ hg1] at c4
    rw [supA, if_pos hg0, if_pos ⟨hg1, c4⟩, sd _ hg1]
   ·simp only [gt_iff_lt, decide_eq_false_iff_not] at c4
    refine tA ?_
    rw [sd _ hg0, sd _ hg1] at c4
    rw [supA, if_pos hg0, if_neg (fun h => c4 h.2), sd _ hg0]
  ·simp only [beq_eq_false_iff_ne, ne_eq] at c3
   have hg1 : ¬ goodS (t.rd (f + 1)) = true := fun h => c3 ((se _).2 h)
   refine tA ?_
   rw [supA, if_pos hg0, if_neg (fun h => hg1 h.1), sd _ hg0]
end
end Go.Jn.P
namespace Go.Jn.P
open Go.Gr Go.Jn
def fmW (first : Nat) : Nat → Nat → St → St
 | 0, _, t => t
 | r + 1, i, t => fmW first r (i + 1) (wS t ((first + i : Nat) : Int) (zz 384))
def fmT (first count : Nat) (t : St) : St := (wS (wS (fmW first (count - 2) 2 t).fl ((first : Nat) : Int) (encS (su 1))) ((first + 1 : Nat) : Int) (encS (su 2))).fl
def fmG (t : St) (first count : Int) : St := if fitE t.s.length first count = 0 then fmT first.toNat count.toNat t else t
theorem wS_go {t : St} {x : Int} {p : List UInt8} (h : t.f = -1) : wS t x p = ⟨t.s, t.q ++ [(x, p)], -1⟩ := by
 rw [wS, if_neg (by omega), if_neg (by omega), h]
theorem wE_go {t : St} (h : t.f = -1) : wE t = 0 := by rw [wE, if_neg (by omega)]
theorem SI.wS {t : St} {N K : Nat} (h : SI t N K) {x : Int} {p : List UInt8} (h0 : 0 ≤ x) (h1 : x < N) : SI (P.wS t x p) N (K + 1) :=
 ⟨by rw [wS_len]; exact h.len, wS_f h.f, Nat.le_trans (wS_q _ _ _) (by have := h.q; omega), wS_inr h.r h0 (by rw [h.len]; exact h1)⟩
theorem SI.fl {t : St} {N K : Nat} (h : SI t N K) : SI t.fl N 0 :=
 ⟨by rw [St.fl]; simp only [flS_len]; exact h.len, h.f, by simp [St.fl], fun e he => by cases he⟩
theorem fmW_facts {k N first : Nat} : ∀ (r i K : Nat) (t : St), t.f = -1 → SI t N K → SK k t → first + i + r ≤ N → (fmW first r i t).f = -1 ∧ SI (fmW first r i t) N (K + r) ∧ SK k (fmW first r i t)
 | 0, i, K, t, hf, hSI, hSK, hN => ⟨hf, hSI, hSK⟩
 | r + 1, i, K, t, hf, hSI, hSK, hN => by
   have := fmW_facts (first := first) r (i + 1) (K + 1) (wS t ((first + i : Nat) : Int) (zz 384)) (by rw [wS_go hf]) (hSI.wS (by omega) (by omega)) (hSK.wS CK.zz) (by omega)
   rw [show K + 1 + r = K + (r + 1) by omega] at this
   exact this
theorem CK_su {g : Int} (h1 : 1 ≤ g) (h2 : g ≤ 2) : CK 10 (encS (su g)) := by
 refine CK.encS ?_ ⟨h1, by show g ≤ 10; omega⟩ ⟨by show (1 : Int) ≤ 1; omega, by show (1 : Int) ≤ 10; omega⟩ ?_ ?_ ?_ ?_
 ·intro y hy
  simp [Su.l, su] at hy
  rcases hy with rfl | rfl | rfl
  all_goals omega
 all_goals (show (0 : Int) ≤ _; omega)
theorem fmT_facts {N first count : Nat} {t : St} {K : Nat} (hf : t.f = -1) (hSI : SI t N K) (hSK : SK 10 t) (hc : 6 ≤ count) (hN : first + count ≤ N) : SI (fmT first count t) N 0 ∧ SK 10 (fmT first count t) ∧ (fmT first count t).f = -1 := by
 obtain ⟨h1, h2, h3⟩ := fmW_facts (first := first) (count - 2) 2 K t hf hSI hSK (by omega)
 have a1 := h2.fl
 have a2 := (a1.wS (x := ((first : Nat) : Int)) (p := encS (su 1)) (by omega) (by omega)).wS (x := ((first + 1 : Nat) : Int)) (p := encS (su 2)) (by omega) (by omega)
 refine ⟨a2.fl, ((h3.fl.wS (CK_su (by omega) (by omega))).wS (CK_su (by omega) (by omega))).fl, ?_⟩
 have hfl : (fmW first (count - 2) 2 t).fl.f = -1 := h1
 show (wS (wS (fmW first (count - 2) 2 t).fl ((first : Nat) : Int) (encS (su 1))) ((first + 1 : Nat) : Int) (encS (su 2))).f = -1
 rw [wS_go (by rw [wS_go hfl])]
section
variable {X : Cx} {S : AS} {L F G Lj Ls : List Ent} {b bj sb : Nat} {Q : AV → AS → Prop} {J : JM} {k : Nat} {t : St}
theorem fP_loop (n0 n : Nat) {first count N : Nat} (hN : first + count ≤ N) (hN40 : N ≤ 40) {w6 : Int} : ∀ (m i K : Nat) (t : St) (L : List Ent) (S : AS), 2 ≤ i → i ≤ count → count - i < m → t.f = -1 → K ≤ 1000 → SI t N (K + i) → StB b t L → Hp X S (L ++ F) →
 (∀ (L' : List Ent) (S' : AS), StB b (fmW first (count - i) i t) L' → Hp X S' (L' ++ F) → Ok (J19_jZAF (evF E orcL (n + 1)) n0 (dev b) first S') Q) →
 Ok (J19_lZAS (evF E orcL (n + 1)) n0 m (dev b) first count w6 ((first + i : Nat) : Int) S) Q
 | 0, i, K, t, L, S, h2i, hi, hm, hf, hK, hSI, hb, h, fin => by omega
 | m + 1, i, K, t, L, S, h2i, hi, hm, hf, hK, hSI, hb, h, fin => by
   rw [J19_lZAS_succ]
   simp only [b19_lZAS]
   rw [wn (x := ((first : Nat) : Int) + (count : Nat)) (n := first + count) (by omega) (by omega)]
   refine ok_cond (fun hc => ?_) (fun hc => ?_)
   ·simp only [decide_eq_true_eq] at hc
    refine ok_drawA h [2] (by simp) (by simp) (fun b3 S1 h1 => ok_mkSl (l := 384) (c := 384) rfl rfl (Nat.le_refl _) (by simp [pow46]) (by simp [pow46]) ?_)
    have h1' : Hp X S1 ((b3 + 2, none) :: (L ++ F)) := h1
    rw [mthV_dev, nilV_write]
    refine ok_layA (b := b3 + 2) h1' (fun S2 h2 => ?_)
    have e : zeros 384 [AV.int .u8 0] = ofBytes (zz 384) := by rw [zeros_bxs, bxs_flat]
    rw [e] at h2
    have h2' : Hp X S2 (L ++ (C (b3 + 2) (ofBytes (zz 384)) :: F)) := h2.re (by intro p; simp only [List.countP_append, List.countP_cons, C]; omega)
    have hv : Vw X (C (b3 + 2) (ofBytes (zz 384)) :: F) (some (.rw (b3 + 2), 0)) 384 (.ex 384) (zz 384) := ⟨.rw (c := ofBytes (zz 384)) List.mem_cons_self (by simp) (by rw [List.drop_zero, List.take_length]), by simp, 384, .inl rfl, Nat.le_refl _⟩
    refine ok_invWriteG n (by omega) (by rw [hSI.len]; omega) (by simp) hSI.f (by have := hSI.q; omega) hb h2' hv (fun L3 S3 hb3 h3 => ok_gIk (ok_false (by rw [wE_go hf]; rfl) ?_))
    rw [wn (x := ((first + i : Nat) : Int) + 1) (n := first + (i + 1)) (by omega) (by omega)]
    have hr : count - i = (count - (i + 1)) + 1 := by omega
    rw [hr] at fin
    exact fP_loop n0 n hN hN40 m (i + 1) K _ L3 S3 (by omega) (by omega) (by omega) (by rw [wS_go hf]) hK (hSI.wS (by omega) (by omega)) hb3 (h3.re (M := C (b3 + 2) (ofBytes (zz 384)) :: (L3 ++ F)) (by intro p; simp only [List.countP_append, List.countP_cons, C]; omega)).drop1 fin
   ·simp only [decide_eq_false_iff_not] at hc
    have : i = count := by omega
    subst this
    rw [Nat.sub_self] at fin
    exact fin L S hb h
theorem formatP_ok (n : Nat) (hn : 1000010 < n) {N : Nat} (hN40 : N ≤ 40) (hf : t.f = -1) (hSI : SI t N 0) (hSK : SK 10 t) {first count : Int} (hb : StB b t L) (h : Hp X S (L ++ F)) :
 Ok (ev (n + 4) (.fn 19) [dev b, .int .i64 first, .int .i64 count] S) fun v S' => v = .int .i64 (fitE t.s.length first count) ∧ ∃ L', StB b (fmG t first count) L' ∧ Hp X S' (L' ++ F) := by
 have hlen := hSI.len
 rw [ev, F19 _ _ _ _ _ (oL rfl)]
 simp only [J19, b19_entry]
 rw [callI_of (show evF E orcL (n + 3) (.fn 40) [dev b, .int .i64 first, .int .i64 count] S = _ from fitsG_eq (n + 1) (by omega) hb h)]
 refine ok_cond (fun c1 => ?_) (fun c1 => ?_)
 ·simp only [bne_iff_ne, ne_eq] at c1
  exact ok_ret ⟨rfl, L, by rw [fmG, if_neg c1]; exact hb, h⟩
 simp only [bne_eq_false_iff_eq] at c1
 obtain ⟨g1, g2, g3⟩ := fitE_iff.1 c1
 obtain ⟨f, hff⟩ : ∃ f : Nat, first = f := ⟨first.toNat, by omega⟩
 obtain ⟨c, hcc⟩ : ∃ c : Nat, count = c := ⟨count.toNat, by omega⟩
 subst hff; subst hcc
 have hfc : f + c ≤ N := by omega
 have hG : fmG t f c = fmT f c t := by rw [fmG, if_pos c1]; rfl
 obtain ⟨w1, w2, w3⟩ := fmW_facts (first := f) (c - 2) 2 0 t hf hSI hSK (by omega)
 rw [wn (x := ((f : Nat) : Int) + 2) (n := f + 2) (by omega) (by omega)]
 refine fP_loop (n + 3) (n + 2) hfc hN40 (n + 3) 2 0 t L S (by omega) (by omega) (by omega) hf (by omega) ⟨hSI.len, hSI.f, by have := hSI.q; omega, hSI.r⟩ hb h (fun L1 S1 hb1 h1 => ?_)
 simp only [J19_jZAF, b19_jZAF]
 refine ok_invFlush (n + 2) (by omega) w2.r (by have := w2.q; omega) hb1 h1 (fun L2 S2 hb2 h2 => ok_gIk (ok_false rfl ?_))
 have w4 := w2.fl
 have hf2 : (fmW f (c - 2) 2 t).fl.f = -1 := w1
 rw [J19_lZAZ_succ]
 simp only [b19_lZAZ]
 refine ok_true (by decide) ?_
 rw [show IntKind.wrap .u64 (IntKind.wrap .i64 ((0 : Int) + 1)) = 1 by decide]
 obtain ⟨v, S3, e3, a3, c3, L3, rfl, hs3, h3⟩ : Ok (evF E orcL (n + 3) (.fn 41) [.agg (srowS (su 1))] S2) _ := putS_ok n (by omega) (su_B (by omega) (by omega)) h2
 rw [callT_of (show evF E orcL (n + 3) (.fn 41) [.agg [.int .u64 1, .int .u64 1, .int .u64 0, .int .u64 0, .int .u64 0, .int .u64 0]] S2 = _ from e3)]
 rw [show putS (su 1) = encS (su 1) by simp [putS, su_ok]] at hs3 ⊢
 refine ok_atL rfl (ok_atI rfl ?_)
 rw [wn (x := ((f : Nat) : Int) + 0) (n := f) (by omega) (by omega)]
 refine ok_invWriteG (n + 2) (by omega) (by rw [w4.len]; omega) (encS_len _) w4.f (by have := w4.q; omega) hb2 (h3.re (M := L2 ++ (L3 ++ F)) (by intro p; simp only [List.countP_append]; omega)) (slG_vw hs3 (fun e he => by simp [he])) (fun L4 S4 hb4 h4 => ok_gIk (ok_false (by rw [wE_go hf2]; rfl) ?_))
 rw [show IntKind.wrap .i64 ((0 : Int) + 1) = 1 by decide]
 have w5 := w4.wS (x := ((f : Nat) : Int)) (p := encS (su 1)) (by omega) (by omega)
 have hf3 : (wS (fmW f (c - 2) 2 t).fl ((f : Nat) : Int) (encS (su 1))).f = -1 := by rw [wS_go hf2]
 rw [show J19_lZAZ (evF E orcL (n + 3)) (n + 3) (n + 2) = J19_lZAZ (evF E orcL (n + 3)) (n + 3) ((n + 1) + 1) from rfl, J19_lZAZ_succ]
 simp only [b19_lZAZ]
 refine ok_true (by decide) ?_
 rw [show IntKind.wrap .u64 (IntKind.wrap .i64 ((1 : Int) + 1)) = 2 by decide]
 obtain ⟨v, S5, e5, a5, c5, L5, rfl, hs5, h5⟩ : Ok (evF E orcL (n + 3) (.fn 41) [.agg (srowS (su 2))] S4) _ := putS_ok n (by omega) (su_B (by omega) (by omega)) h4
 rw [callT_of (show evF E orcL (n + 3) (.fn 41) [.agg [.int .u64 2, .int .u64 1, .int .u64 0, .int .u64 0, .int .u64 0, .int .u64 0]] S4 = _ from e5)]
 rw [show putS (su 2) = encS (su 2) by simp [putS, su_ok]] at hs5 ⊢
 refine ok_atL rfl (ok_atI rfl ?_)
 rw [wn (x := ((f : Nat) : Int) + 1) (n := f + 1) (by omega) (by omega)]
 refine ok_invWriteG (n + 2) (by omega) (by rw [w5.len]; omega) (encS_len _) w5.f (by have := w5.q; omega) hb4 (h5.re (M := L4 ++ (L5 ++ (L3 ++ F))) (by intro p; simp only [List.countP_append]; omega)) (slG_vw hs5 (fun e he => by simp [he])) (fun L6 S6 hb6 h6 => ok_gIk (ok_false (by rw [wE_go hf3]; rfl) ?_))
 rw [show IntKind.wrap .i64 ((1 : Int) + 1) = 2 by decide]
 rw [show J19_lZAZ (evF E orcL (n + 3)) (n + 3) (n + 1) = J19_lZAZ (evF E orcL (n + 3)) (n + 3) (n + 1) from rfl, J19_lZAZ_succ]
 simp only [b19_lZAZ]
 refine ok_false (by decide) ?_
 simp only [J19_jZAK, b19_jZAK]
 have w6 := w5.wS (x := ((f + 1 : Nat) : Int)) (p := encS (su 2)) (by omega) (by omega)
 refine ok_invFlush (n + 2) (by omega) w6.r (by have := w6.q; omega) hb6 h6 (fun L7 S7 hb7 h7 => ok_gIk (ok_ret ⟨by rw [c1], L7, by rw [hG]; exact hb7, h7.sub (List.Sublist.append_left ((List.sublist_append_right L3 F).trans (List.sublist_append_right L5 _)) L7)⟩))
theorem fD_loop (n0 n : Nat) {first count N : Nat} (hN : first + count ≤ N) (hN40 : N ≤ 40) {w6 : Int} : ∀ (m i K : Nat) (t : St) (L : List Ent) (S : AS), 2 ≤ i → i ≤ count → count - i < m → t.f = -1 → K ≤ 1000 → SI t N (K + i) → StB b t L → Hp X S (L ++ F) →
 (∀ (L' : List Ent) (S' : AS), StB b (fmW first (count - i) i t) L' → Hp X S' (L' ++ F) → Ok (J20_jZAJ (evF E orcL (n + 1)) n0 (some (.rw b, 0)) first S') Q) →
 Ok (J20_lZAW (evF E orcL (n + 1)) n0 m (some (.rw b, 0)) first count w6 i S) Q
 | 0, i, K, t, L, S, h2i, hi, hm, hf, hK, hSI, hb, h, fin => by omega
 | m + 1, i, K, t, L, S, h2i, hi, hm, hf, hK, hSI, hb, h, fin => by
   rw [J20_lZAW_succ]
   simp only [b20_lZAW]
   refine ok_cond (fun hc => ?_) (fun hc => ?_)
   ·simp only [decide_eq_true_eq] at hc
    refine ok_mkSl (l := 384) (c := 384) rfl rfl (Nat.le_refl _) (by simp [pow46]) (by simp [pow46]) (ok_newA h (fun b3 S2 h2 => ?_))
    have e : zeros 384 [AV.int .u8 0] = ofBytes (zz 384) := by rw [zeros_bxs, bxs_flat]
    rw [e] at h2
    rw [wn (x := ((first : Nat) : Int) + (i : Nat)) (n := first + i) (by omega) (by omega)]
    have h2' : Hp X S2 (L ++ (C b3 (ofBytes (zz 384)) :: F)) := h2.re (by intro p; simp only [List.countP_append, List.countP_cons, C]; omega)
    have hv : Vw X (C b3 (ofBytes (zz 384)) :: F) (some (.rw b3, 0)) 384 (.ex 384) (zz 384) := ⟨.rw (c := ofBytes (zz 384)) List.mem_cons_self (by simp) (by rw [List.drop_zero, List.take_length]), by simp, 384, .inl rfl, Nat.le_refl _⟩
    obtain ⟨v, S3, e3, rfl, L3, hb3, h3⟩ : Ok (evF E orcL (n + 1) (.fn 43) [.ptr (some (.rw b, 0)), .int .i64 ((first + i : Nat) : Int), .sl (some (.rw b3, 0)) 384 (.ex 384)] S2) _ := writeG_ok n (by omega) (by rw [hSI.len]; omega) (by simp) hSI.f (by have := hSI.q; omega) hb h2' hv
    rw [callI_of e3]
    refine ok_false (by rw [wE_go hf]; rfl) ?_
    rw [wn (x := ((i : Nat) : Int) + 1) (n := i + 1) (by omega) (by omega)]
    have hr : count - i = (count - (i + 1)) + 1 := by omega
    rw [hr] at fin
    exact fD_loop n0 n hN hN40 m (i + 1) K _ L3 S3 (by omega) (by omega) (by omega) (by rw [wS_go hf]) hK (hSI.wS (by omega) (by omega)) hb3 (h3.re (M := C b3 (ofBytes (zz 384)) :: (L3 ++ F)) (by intro p; simp only [List.countP_append, List.countP_cons, C]; omega)).drop1 fin
   ·simp only [decide_eq_false_iff_not] at hc
    have : i = count := by omega
    subst this
    rw [Nat.sub_self] at fin
    exact fin L S hb h
theorem formatD_ok (n : Nat) (hn : 1000010 < n) {N : Nat} (hN40 : N ≤ 40) (hf : t.f = -1) (hSI : SI t N 0) (hSK : SK 10 t) {first count : Int} (hb : StB b t L) (h : Hp X S (L ++ F)) :
 Ok (ev (n + 4) (.fn 20) [.ptr (some (.rw b, 0)), .int .i64 first, .int .i64 count] S) fun v S' => v = .int .i64 (fitE t.s.length first count) ∧ ∃ L', StB b (fmG t first count) L' ∧ Hp X S' (L' ++ F) := by
 have hlen := hSI.len
 rw [ev, F20 _ _ _ _ _ (oL rfl)]
 simp only [J20, b20_entry]
 rw [callI_of (show evF E orcL (n + 3) (.fn 42) [.ptr (some (.rw b, 0)), .int .i64 first, .int .i64 count] S = _ from place_eq (n + 2) (by omega) hb h)]
 refine ok_cond (fun c1 => ?_) (fun c1 => ?_)
 ·simp only [bne_iff_ne, ne_eq] at c1
  exact ok_ret ⟨rfl, L, by rw [fmG, if_neg c1]; exact hb, h⟩
 simp only [bne_eq_false_iff_eq] at c1
 obtain ⟨g1, g2, g3⟩ := fitE_iff.1 c1
 obtain ⟨f, hff⟩ : ∃ f : Nat, first = f := ⟨first.toNat, by omega⟩
 obtain ⟨c, hcc⟩ : ∃ c : Nat, count = c := ⟨count.toNat, by omega⟩
 subst hff; subst hcc
 have hfc : f + c ≤ N := by omega
 have hG : fmG t f c = fmT f c t := by rw [fmG, if_pos c1]; rfl
 obtain ⟨w1, w2, w3⟩ := fmW_facts (first := f) (c - 2) 2 0 t hf hSI hSK (by omega)
 refine fD_loop (n + 3) (n + 2) hfc hN40 (n + 3) 2 0 t L S (by omega) (by omega) (by omega) hf (by omega) ⟨hSI.len, hSI.f, by have := hSI.q; omega, hSI.r⟩ hb h (fun L1 S1 hb1 h1 => ?_)
 simp only [J20_jZAJ, b20_jZAJ]
 obtain ⟨v, S2, e2, rfl, L2, hb2, h2⟩ : Ok (evF E orcL (n + 3) (.fn 44) [.ptr (some (.rw b, 0))] S1) _ := flush_ok (n + 2) (by omega) w2.r (by have := w2.q; omega) hb1 h1
 rw [callI_of e2]
 have w4 := w2.fl
 have hf2 : (fmW f (c - 2) 2 t).fl.f = -1 := w1
 rw [J20_lZAa_succ]
 simp only [b20_lZAa]
 refine ok_true (by decide) ?_
 rw [show IntKind.wrap .u64 (IntKind.wrap .i64 ((0 : Int) + 1)) = 1 by decide]
 obtain ⟨v, S3, e3, a3, c3, L3, rfl, hs3, h3⟩ : Ok (evF E orcL (n + 3) (.fn 45) [.agg (srowS (su 1))] S2) _ := rputS_ok (n + 1) (by omega) (su_B (by omega) (by omega)) h2
 rw [callT_of (show evF E orcL (n + 3) (.fn 45) [.agg [.int .u64 1, .int .u64 1, .int .u64 0, .int .u64 0, .int .u64 0, .int .u64 0]] S2 = _ from e3)]
 rw [show putS (su 1) = encS (su 1) by simp [putS, su_ok]] at hs3 ⊢
 refine ok_atL rfl (ok_atI rfl ?_)
 rw [wn (x := ((f : Nat) : Int) + 0) (n := f) (by omega) (by omega)]
 obtain ⟨v, S4, e4, rfl, L4, hb4, h4⟩ : Ok (evF E orcL (n + 3) (.fn 43) [.ptr (some (.rw b, 0)), .int .i64 ((f : Nat) : Int), .sl a3 (encS (su 1)).length c3] S3) _ := writeG_ok (n + 2) (by omega) (by rw [w4.len]; omega) (encS_len _) w4.f (by have := w4.q; omega) hb2 (h3.re (M := L2 ++ (L3 ++ F)) (by intro p; simp only [List.countP_append]; omega)) (slG_vw hs3 (fun e he => by simp [he]))
 rw [callI_of e4]
 refine ok_false (by rw [wE_go hf2]; rfl) ?_
 rw [show IntKind.wrap .i64 ((0 : Int) + 1) = 1 by decide]
 have w5 := w4.wS (x := ((f : Nat) : Int)) (p := encS (su 1)) (by omega) (by omega)
 have hf3 : (wS (fmW f (c - 2) 2 t).fl ((f : Nat) : Int) (encS (su 1))).f = -1 := by rw [wS_go hf2]
 rw [show J20_lZAa (evF E orcL (n + 3)) (n + 3) (n + 2) = J20_lZAa (evF E orcL (n + 3)) (n + 3) ((n + 1) + 1) from rfl, J20_lZAa_succ]
 simp only [b20_lZAa]
 refine ok_true (by decide) ?_
 rw [show IntKind.wrap .u64 (IntKind.wrap .i64 ((1 : Int) + 1)) = 2 by decide]
 obtain ⟨v, S5, e5, a5, c5, L5, rfl, hs5, h5⟩ : Ok (evF E orcL (n + 3) (.fn 45) [.agg (srowS (su 2))] S4) _ := rputS_ok (n + 1) (by omega) (su_B (by omega) (by omega)) h4
 rw [callT_of (show evF E orcL (n + 3) (.fn 45) [.agg [.int .u64 2, .int .u64 1, .int .u64 0, .int .u64 0, .int .u64 0, .int .u64 0]] S4 = _ from e5)]
 rw [show putS (su 2) = encS (su 2) by simp [putS, su_ok]] at hs5 ⊢
 refine ok_atL rfl (ok_atI rfl ?_)
 rw [wn (x := ((f : Nat) : Int) + 1) (n := f + 1) (by omega) (by omega)]
 obtain ⟨v, S6, e6, rfl, L6, hb6, h6⟩ : Ok (evF E orcL (n + 3) (.fn 43) [.ptr (some (.rw b, 0)), .int .i64 ((f + 1 : Nat) : Int), .sl a5 (encS (su 2)).length c5] S5) _ := writeG_ok (n + 2) (by omega) (by rw [w5.len]; omega) (encS_len _) w5.f (by have := w5.q; omega) hb4 (h5.re (M := L4 ++ (L5 ++ (L3 ++ F))) (by intro p; simp only [List.countP_append]; omega)) (slG_vw hs5 (fun e he => by simp [he]))
 rw [callI_of e6]
 refine ok_false (by rw [wE_go hf3]; rfl) ?_
 rw [show IntKind.wrap .i64 ((1 : Int) + 1) = 2 by decide]
 rw [show J20_lZAa (evF E orcL (n + 3)) (n + 3) (n + 1) = J20_lZAa (evF E orcL (n + 3)) (n + 3) (n + 1) from rfl, J20_lZAa_succ]
 simp only [b20_lZAa]
 refine ok_false (by decide) ?_
 simp only [J20_jZAL, b20_jZAL]
 have w6 := w5.wS (x := ((f + 1 : Nat) : Int)) (p := encS (su 2)) (by omega) (by omega)
 obtain ⟨v, S7, e7, rfl, L7, hb7, h7⟩ : Ok (evF E orcL (n + 3) (.fn 44) [.ptr (some (.rw b, 0))] S6) _ := flush_ok (n + 2) (by omega) w6.r (by have := w6.q; omega) hb6 h6
 rw [callI_of e7]
 exact ok_ret ⟨by rw [c1], L7, by rw [hG]; exact hb7, h7.sub (List.Sublist.append_left ((List.sublist_append_right L3 F).trans (List.sublist_append_right L5 _)) L7)⟩
end
end Go.Jn.P
namespace Go.Jn.P
open Go.Gr Go.Jn
def inK (ks : List Int) (i : Nat) : Bool := ks.any fun x => x == (i : Int)
def crS (ks : List Int) (q : List (Int × List UInt8)) (s : List (List UInt8)) : Nat → List (List UInt8)
 | 0 => s
 | i + 1 => match q[i]? with
   | some e => if inK ks i = true then (crS ks q s i).set e.1.toNat e.2 else crS ks q s i
   | none => crS ks q s i
def crT (t : St) (ks : List Int) : St := ⟨crS ks t.q t.s t.q.length, [], t.f⟩
theorem crS_len (ks : List Int) (q : List (Int × List UInt8)) (s : List (List UInt8)) : ∀ i, (crS ks q s i).length = s.length
 | 0 => rfl
 | i + 1 => by
   simp only [crS]
   split
   ·split
    ·rw [List.length_set]; exact crS_len ks q s i
    ·exact crS_len ks q s i
   ·exact crS_len ks q s i
theorem crS_mem (ks : List Int) (q : List (Int × List UInt8)) (s : List (List UInt8)) : ∀ (i : Nat) (x : List UInt8), x ∈ crS ks q s i → x ∈ s ∨ ∃ y, (y, x) ∈ q
 | 0, x, h => .inl h
 | i + 1, x, h => by
   simp only [crS] at h
   split at h
   ·rename_i e he
    split at h
    ·rcases List.mem_or_eq_of_mem_set h with h | h
     ·exact crS_mem ks q s i x h
     ·subst h; exact .inr ⟨e.1, List.mem_of_getElem? he⟩
    ·exact crS_mem ks q s i x h
   ·exact crS_mem ks q s i x h
theorem SI.cr {t : St} {N K : Nat} (h : SI t N K) (ks : List Int) : SI (crT t ks) N 0 :=
 ⟨by rw [crT]; simp only [crS_len]; exact h.len, h.f, by simp [crT], fun e he => by cases he⟩
theorem SK.cr {t : St} {k : Nat} (h : SK k t) (ks : List Int) : SK k (crT t ks) := by
 refine ⟨fun x hx => ?_, fun e he => by cases he⟩
 rcases crS_mem _ _ _ _ _ hx with hx | ⟨y, hx⟩
 ·exact h.1 x hx
 ·exact h.2 _ hx
theorem ixs_at' {k : IntKind} {l : List Int} {i : Nat} {x : Int} (h : l[i]? = some x) : (ixs k l)[i]? = some [.int k x] := by
 rw [ixs, List.getElem?_map, h]; rfl
section
variable {X : Cx} {S : AS} {L F G Lj Ls : List Ent} {b bj sb : Nat} {Q : AV → AS → Prop} {J : JM} {k : Nat} {t : St}
theorem cr_in (n0 : Nat) (call : CallA) {K1 : OP → OP → Nat → Cap → Int → AS → RV} {w0 : OP} {ks : List Int} {ka : OP} {kc : Cap} (hr : RdR X F ka (ixs .i64 ks).flatten) (hkl : ks.length ≤ 1048576) (h : Hp X S (L ++ F)) {i : Nat}
 (fin : Ok (J24_jZAA call n0 K1 w0 ka ks.length kc i (inK ks i) S) Q) : ∀ (m j : Nat), j ≤ ks.length → ks.length - j < m →
  Ok (J24_lZAP call n0 K1 m w0 ka ks.length kc i (inK (ks.take j) i) j S) Q
 | 0, j, h1, h2 => by omega
 | m + 1, j, h1, h2 => by
   rw [J24_lZAP_succ]
   simp only [b24_lZAP]
   refine ok_cond (fun hc => ?_) (fun hc => ?_)
   ·simp only [decide_eq_true_eq] at hc
    have hlt : j < ks.length := by omega
    obtain ⟨x, hx⟩ : ∃ x, ks[j]? = some x := ⟨_, List.getElem?_eq_getElem hlt⟩
    have hin : inK (ks.take (j + 1)) i = (inK (ks.take j) i || (x == (i : Int))) := by
     rw [inK, List.take_add_one, hx, List.any_append]; simp [inK]
    rw [wn (x := (j : Int) + 1) (n := j + 1) (by omega) (by omega)]
    have next := cr_in n0 call hr hkl h fin m (j + 1) (by omega) (by omega)
    rw [hin] at next
    cases hw : inK (ks.take j) i with
    | true =>
      rw [hw] at next
      exact ok_true rfl next
    | false =>
      rw [hw] at next
      refine ok_false rfl ?_
      obtain ⟨p, hp⟩ := hr.some_of (by intro he; have := congrArg List.length he; rw [flat_len (ixs_all .i64 ks), ixs_len] at this; simp only [List.length_nil] at this; omega)
      have hr2 : ∀ {M : List Ent} {cs : List AV}, RdR X M ka cs → RdR X M (some p) cs := fun h => by rw [← hp]; exact h
      have hr' := hr2 (hr.mono (M := L ++ F) (fun e he => by simp [he]))
      rw [show ixSl 1 ka ks.length (j : Int) = ixSl 1 (some p) ks.length (j : Int) by rw [hp]]
      rw [ixSl_at rfl hlt, hr'.ldI h (by have := flat_get (ixs_all .i64 ks) (ixs_at' hx) (j := 0) (by decide); simpa using this)]
      simpa using next
   ·simp only [decide_eq_false_iff_not] at hc
    rw [List.take_of_length_le (by omega)]
    exact fin
theorem cr_loop (n0 : Nat) (call : CallA) {s0 : List (List UInt8)} {q : List (Int × List UInt8)} {f : Int} {qa : OP} {qc : Cap} {Lq : List Ent} (hq0 : ∀ e ∈ q, 0 ≤ e.1 ∧ e.1 < s0.length) (hq : q.length ≤ 1000000) (hs2 : SlG qa q.length qc 2 (qrows q) Lq) {ks : List Int} {ka : OP} {kc : Cap} (hr : RdR X F ka (ixs .i64 ks).flatten) (hkl : ks.length ≤ 1048576) (hn0 : 1048576 < n0) :
 ∀ (m i : Nat) (sa : OP) (sl : Nat) (sc : Cap) (Ls : List Ent) (S : AS), i ≤ q.length → q.length - i < m → SlG sa sl sc 1 (strs (crS ks q s0 i)) Ls → Hp X S (C b [.sl sa sl sc, .sl qa q.length qc, .int .i64 f] :: (Ls ++ (Lq ++ F))) →
   Ok (J24_lZAO call n0 m (some (.rw b, 0)) ka ks.length kc i S) fun v S' => v = .tup [] ∧ ∃ L', StB b ⟨crS ks q s0 q.length, [], f⟩ L' ∧ Hp X S' (L' ++ F)
 | 0, i, sa, sl, sc, Ls, S, hi, hm, hs, h => by omega
 | m + 1, i, sa, sl, sc, Ls, S, hi, hm, hs, h => by
   have hl1 := hs.len
   rw [strs_len, crS_len] at hl1
   rw [J24_lZAO_succ]
   simp only [b24_lZAO]
   refine ok_gO (ok_ldL h rfl (ok_cond (fun hc => ?_) (fun hc => ?_)))
   ·simp only [decide_eq_true_eq] at hc
    have hlt : i < q.length := by omega
    obtain ⟨y, hy⟩ : ∃ y, q[i]? = some y := ⟨_, List.getElem?_eq_getElem hlt⟩
    obtain ⟨hy0, hy1⟩ := hq0 y (List.mem_of_getElem? hy)
    have hL : Hp X S ((C b [.sl sa sl sc, .sl qa q.length qc, .int .i64 f] :: (Ls ++ Lq)) ++ F) := h.re (by intro p; simp only [List.countP_append, List.countP_cons, List.cons_append, C]; omega)
    refine cr_in n0 call hr hkl hL ?_ n0 0 (by omega) (by omega)
    simp only [J24_jZAA, b24_jZAA]
    have next : ∀ (sa' : OP) (Ls' : List Ent) (S' : AS), SlG sa' sl sc 1 (strs (crS ks q s0 (i + 1))) Ls' → Hp X S' (C b [.sl sa' sl sc, .sl qa q.length qc, .int .i64 f] :: (Ls' ++ (Lq ++ F))) → Ok (J24_jZAB call n0 (J24_lZAO call n0 m) (some (.rw b, 0)) ka ks.length kc i S') fun v S' => v = .tup [] ∧ ∃ L', StB b ⟨crS ks q s0 q.length, [], f⟩ L' ∧ Hp X S' (L' ++ F) := by
     intro sa' Ls' S' hs' h'
     simp only [J24_jZAB, b24_jZAB]
     rw [wn (x := (i : Int) + 1) (n := i + 1) (by omega) (by omega)]
     exact cr_loop n0 call hq0 hq hs2 hr hkl hn0 m (i + 1) sa' sl sc Ls' S' (by omega) (by omega) hs' h'
    refine ok_cond (fun hk => ?_) (fun hk => ?_)
    ·have hcr : crS ks q s0 (i + 1) = (crS ks q s0 i).set y.1.toNat y.2 := by simp only [crS, hy, hk, if_true]
     have hrd : RdR X (C b [.sl sa sl sc, .sl qa q.length qc, .int .i64 f] :: (Ls ++ (Lq ++ F))) qa (qrows q).flatten := hs2.rd (fun e he => by simp [he])
     obtain ⟨p, hp⟩ := hrd.some_of (by intro he; have := congrArg List.length he; rw [flat_len (qrows_all q), qrows_len] at this; simp only [List.length_nil] at this; omega)
     have hrd2 : ∀ {M : List Ent} {cs : List AV}, RdR X M qa cs → RdR X M (some p) cs := fun h => by rw [← hp]; exact h
     replace hrd := hrd2 hrd
     have g0 : (qrows q).flatten[i * 2]? = some (.int .i64 y.1) := by have := flat_get (qrows_all q) (qrows_at hy) (j := 0) (by decide); simpa [qrow] using this
     have g1 : (qrows q).flatten[i * 2 + 1]? = some (.str y.2) := by have := flat_get (qrows_all q) (qrows_at hy) (j := 1) (by decide); simpa [qrow] using this
     refine ok_gO (ok_ldL h rfl (ok_gO (ok_ldL h rfl ?_)))
     rw [show ixSl 2 qa q.length (i : Int) = ixSl 2 (some p) q.length (i : Int) by rw [hp]]
     rw [ixSl_at rfl hlt, hrd.ldI h g0]
     refine ok_gO (ok_ldL h rfl ?_)
     rw [show ixSl 2 qa q.length (i : Int) = ixSl 2 (some p) q.length (i : Int) by rw [hp]]
     rw [ixSl_at rfl hlt, Nat.add_assoc, rd_ldS hrd h g1]
     rcases hs.dest with ⟨_, hz, _, _, _⟩ | ⟨bs, js, rfl, hln, hcc, rfl, hx', hj⟩
     ·omega
     have hk0 : y.1 = ((y.1.toNat : Nat) : Int) := by omega
     have hklt : y.1.toNat < sl := by omega
     refine ok_ixSl hk0 hklt ?_
     rw [Nat.zero_add]
     have hsp : splice (strs (crS ks q s0 i) ++ js).flatten (y.1.toNat * 1) [.str y.2] = (strs (crS ks q s0 (i + 1)) ++ js).flatten := by
      have hall : ∀ x ∈ strs (crS ks q s0 i) ++ js, x.length = 1 := fun x hx => by
       rcases List.mem_append.1 hx with hx | hx
       ·exact hx' x hx
       ·exact hj x hx
      rw [flat_splice hall (by rw [List.length_append, strs_len, crS_len]; omega) rfl, List.set_append_left _ _ (by rw [strs_len, crS_len]; omega)]
      have : (strs (crS ks q s0 i)).set y.1.toNat [.str y.2] = strs (crS ks q s0 (i + 1)) := by
       rw [hcr, strs, strs, List.map_set]
      rw [this]
     have h' : Hp X S (C bs (strs (crS ks q s0 i) ++ js).flatten :: (C b [.sl (some (.rw bs, 0)) sl sc, .sl qa q.length qc, .int .i64 f] :: (Lq ++ F))) := h.re (by intro p; simp only [List.countP_append, List.countP_cons, List.countP_nil, C]; omega)
     have hlen : (strs (crS ks q s0 i) ++ js).flatten.length = (s0.length + js.length) * 1 := by
      rw [flat_len (fun x hx => ?_), List.length_append, strs_len, crS_len]
      rcases List.mem_append.1 hx with hx | hx
      ·exact hx' x hx
      ·exact hj x hx
     refine ok_stn h' (by rw [hlen]; simp; omega) (d := (strs (crS ks q s0 (i + 1)) ++ js).flatten) hsp (fun S1 h1 => ?_)
     refine next (some (.rw bs, 0)) [C bs (strs (crS ks q s0 (i + 1)) ++ js).flatten] S1 ?_ (h1.re (by intro p; simp only [List.countP_append, List.countP_cons, List.countP_nil, C]; omega))
     rw [strs_len, crS_len] at hcc
     have := SlG.blk (b := bs) (xs := strs (crS ks q s0 (i + 1))) (js := js) (c := sc) (strs_all _) hj (by rw [strs_len, crS_len]; exact hcc)
     rw [strs_len, crS_len, ← hl1] at this
     exact this
    ·have hcr : crS ks q s0 (i + 1) = crS ks q s0 i := by simp [crS, hy, hk]
     exact next sa Ls S (by rw [hcr]; exact hs) h
   ·simp only [decide_eq_false_iff_not] at hc
    have : i = q.length := by omega
    subst this
    simp only [J24_j1, b24_j1]
    refine ok_gO (ok_stn h (by simp) (d := [.sl sa sl sc, .sl none 0 (.ex 0), .int .i64 f]) (by simp [splice]) (fun S1 h1 => ok_ret ⟨rfl, C b [.sl sa sl sc, .sl none 0 (.ex 0), .int .i64 f] :: (Ls ++ []), ⟨sa, sl, sc, none, 0, .ex 0, Ls, [], hs, .nil, rfl⟩, ?_⟩))
    rw [List.append_nil]
    exact (h1.re (M := Lq ++ (C b [.sl sa sl sc, .sl none 0 (.ex 0), .int .i64 f] :: Ls ++ F)) (by intro p; simp only [List.countP_append, List.countP_cons, List.cons_append, C]; omega)).right
theorem crash_ok (n : Nat) (hn : 1048576 < n) {N K : Nat} (hSI : SI t N K) (hK : K ≤ 1000000) {ks : List Int} {ka : OP} {kc : Cap} (hr : RdR X F ka (ixs .i64 ks).flatten) (hkl : ks.length ≤ 1048576) (hb : StB b t L) (h : Hp X S (L ++ F)) :
 Ok (ev (n + 1) (.fn 24) [.ptr (some (.rw b, 0)), .sl ka ks.length kc] S) fun v S' => v = .tup [] ∧ ∃ L', StB b (crT t ks) L' ∧ Hp X S' (L' ++ F) := by
 obtain ⟨sa, sl, sc, qa, ql, qc, Ls, Lq, hs1, hs2, rfl⟩ := hb
 have hl2 := hs2.len
 rw [qrows_len] at hl2
 subst hl2
 rw [ev, F24 _ _ _ _ _ _ (oL rfl)]
 simp only [J24, b24_entry]
 exact cr_loop (b := b) n (evF E orcL n) (s0 := t.s) (q := t.q) (f := t.f) hSI.r (by have := hSI.q; omega) hs2 hr hkl hn n 0 sa sl sc Ls S (by omega) (by have := hSI.q; omega) hs1 (by simpa using h)
theorem ss_loop2 (n0 : Nat) (call : CallA) {b1 b2 : Nat} {s1 s2 q1 q2 : OP} {m1 m2 : Nat} {c1 c2 d1 d2 : Cap} {q : List (Int × List UInt8)} {f1 f2 : Int} (hq : q.length ≤ 1000000) (h : Hp X S (C b1 [.sl s1 m1 c1, .sl q1 q.length d1, .int .i64 f1] :: C b2 [.sl s2 m2 c2, .sl q2 q.length d2, .int .i64 f2] :: F)) (r1 : RdR X (C b1 [.sl s1 m1 c1, .sl q1 q.length d1, .int .i64 f1] :: C b2 [.sl s2 m2 c2, .sl q2 q.length d2, .int .i64 f2] :: F) q1 (qrows q).flatten) (r2 : RdR X (C b1 [.sl s1 m1 c1, .sl q1 q.length d1, .int .i64 f1] :: C b2 [.sl s2 m2 c2, .sl q2 q.length d2, .int .i64 f2] :: F) q2 (qrows q).flatten) : ∀ (m i : Nat) (w4 : AV), i ≤ q.length → q.length - i < m →
 Ok (J47_lZAW call n0 m (some (.rw b1, 0)) (some (.rw b2, 0)) w4 i S) fun v S' => v = .bool true ∧ S' = S
 | 0, i, w4, hi, hm => by omega
 | m + 1, i, w4, hi, hm => by
   rw [J47_lZAW_succ]
   simp only [b47_lZAW]
   refine ok_gO (ok_ldL h rfl (ok_cond (fun hc => ?_) (fun hc => ok_ret ⟨rfl, rfl⟩)))
   simp only [decide_eq_true_eq] at hc
   have hlt : i < q.length := by omega
   obtain ⟨y, hy⟩ : ∃ y, q[i]? = some y := ⟨_, List.getElem?_eq_getElem hlt⟩
   have nn : (qrows q).flatten ≠ [] := by intro he; have := congrArg List.length he; rw [flat_len (qrows_all q), qrows_len] at this; simp only [List.length_nil] at this; omega
   obtain ⟨p1, hp1⟩ := r1.some_of nn
   obtain ⟨p2, hp2⟩ := r2.some_of nn
   subst hp1; subst hp2
   refine ok_gO (ok_ldL h rfl ?_)
   rw [ixSl_at rfl hlt, r1.elem h (qrows_all q) (qrows_at hy)]
   refine ok_gO (ok_ldL h rfl ?_)
   rw [ixSl_at rfl hlt, r2.elem h (qrows_all q) (qrows_at hy)]
   have hne : ∀ (K : Bool → RV), aggNe ty107 (qrow y) (qrow y) K = K false := fun K => by
    have h1 : fitZ ty107.zero (qrow y) = true := rfl
    have h2 : ty107.plain = true := rfl
    have hb : AV.beqs (qrow y) (qrow y) = true := (beqs_scal (by intro x hx; simp [qrow] at hx; rcases hx with rfl | rfl <;> trivial)).2 rfl
    simp only [aggNe, h1, h2, hb, cond_true, if_true, Bool.not_true]
   rw [hne]
   refine ok_false rfl ?_
   rw [wn (x := (i : Int) + 1) (n := i + 1) (by omega) (by omega)]
   exact ss_loop2 n0 call hq h r1 r2 m (i + 1) w4 (by omega) (by omega)
theorem ss_loop1 (n0 : Nat) (hn0 : 1000000 < n0) (call : CallA) {b1 b2 : Nat} {s1 s2 q1 q2 : OP} {c1 c2 d1 d2 : Cap} {s : List (List UInt8)} {q : List (Int × List UInt8)} {f1 f2 : Int} (hs : s.length ≤ 1000000) (hq : q.length ≤ 1000000) (h : Hp X S (C b1 [.sl s1 s.length c1, .sl q1 q.length d1, .int .i64 f1] :: C b2 [.sl s2 s.length c2, .sl q2 q.length d2, .int .i64 f2] :: F)) (r1 : RdR X (C b1 [.sl s1 s.length c1, .sl q1 q.length d1, .int .i64 f1] :: C b2 [.sl s2 s.length c2, .sl q2 q.length d2, .int .i64 f2] :: F) q1 (qrows q).flatten) (r2 : RdR X (C b1 [.sl s1 s.length c1, .sl q1 q.length d1, .int .i64 f1] :: C b2 [.sl s2 s.length c2, .sl q2 q.length d2, .int .i64 f2] :: F) q2 (qrows q).flatten)
 (r3 : RdR X (C b1 [.sl s1 s.length c1, .sl q1 q.length d1, .int .i64 f1] :: C b2 [.sl s2 s.length c2, .sl q2 q.length d2, .int .i64 f2] :: F) s1 (strs s).flatten) (r4 : RdR X (C b1 [.sl s1 s.length c1, .sl q1 q.length d1, .int .i64 f1] :: C b2 [.sl s2 s.length c2, .sl q2 q.length d2, .int .i64 f2] :: F) s2 (strs s).flatten) : ∀ (m i : Nat) (w4 : Bool), i ≤ s.length → s.length - i < m →
 Ok (J47_lZAS call n0 m (some (.rw b1, 0)) (some (.rw b2, 0)) w4 i S) fun v S' => v = .bool true ∧ S' = S
 | 0, i, w4, hi, hm => by omega
 | m + 1, i, w4, hi, hm => by
   rw [J47_lZAS_succ]
   simp only [b47_lZAS]
   refine ok_gO (ok_ldL h rfl (ok_cond (fun hc => ?_) (fun hc => ?_)))
   ·simp only [decide_eq_true_eq] at hc
    have hlt : i < s.length := by omega
    obtain ⟨y, hy⟩ : ∃ y, s[i]? = some y := ⟨_, List.getElem?_eq_getElem hlt⟩
    have nn : (strs s).flatten ≠ [] := by intro he; have := congrArg List.length he; rw [flat_len (strs_all s), strs_len] at this; simp only [List.length_nil] at this; omega
    obtain ⟨p1, hp1⟩ := r3.some_of nn
    obtain ⟨p2, hp2⟩ := r4.some_of nn
    subst hp1; subst hp2
    have g : (strs s).flatten[i * 1]? = some (.str y) := by have := flat_get (strs_all s) (strs_at hy) (j := 0) (by decide); simpa using this
    refine ok_gO (ok_ldL h rfl ?_)
    rw [ixSl_at rfl hlt, rd_ldS r3 h g]
    refine ok_gO (ok_ldL h rfl ?_)
    rw [ixSl_at rfl hlt, rd_ldS r4 h g]
    refine ok_false (by simp) ?_
    rw [wn (x := (i : Int) + 1) (n := i + 1) (by omega) (by omega)]
    exact ss_loop1 n0 hn0 call hs hq h r1 r2 r3 r4 m (i + 1) w4 (by omega) (by omega)
   ·simp only [J47_jZAF, b47_jZAF]
    exact ss_loop2 n0 call hq h r1 r2 n0 0 _ (by omega) (by omega)
theorem sameStore_eq (n : Nat) (hn : 1000000 < n) {b1 b2 : Nat} {L1 L2 : List Ent} {N K : Nat} (hSI : SI t N K) (hN : N ≤ 1000) (hK : K ≤ 900000) (hb1 : StB b1 t L1) (hb2 : StB b2 t L2) (h : Hp X S (L1 ++ (L2 ++ F))) :
 ev (n + 1) (.fn 47) [.ptr (some (.rw b1, 0)), .ptr (some (.rw b2, 0))] S = some (.bool true, S) := by
 have hlen := hSI.len
 have hql := hSI.q
 obtain ⟨sa, sl, sc, qa, ql, qc, Ls1, Lq1, hs1, hq1, rfl⟩ := hb1
 obtain ⟨ta, tl, tc, ua, ul, uc, Ls2, Lq2, hs2, hq2, rfl⟩ := hb2
 have e1 := hs1.len
 have e2 := hq1.len
 have e3 := hs2.len
 have e4 := hq2.len
 rw [strs_len] at e1 e3
 rw [qrows_len] at e2 e4
 subst e1; subst e2; subst e3; subst e4
 apply ok_eq
 rw [ev, F47 _ _ _ _ (oL rfl)]
 simp only [J47, b47_entry]
 have h' : Hp X S (C b1 [.sl sa t.s.length sc, .sl qa t.q.length qc, .int .i64 t.f] :: C b2 [.sl ta t.s.length tc, .sl ua t.q.length uc, .int .i64 t.f] :: (Ls1 ++ (Lq1 ++ (Ls2 ++ (Lq2 ++ F))))) := h.re (by intro p; simp only [List.countP_append, List.countP_cons, List.cons_append, C]; omega)
 refine ok_gO (ok_ldL h' rfl (ok_gO (ok_ldL h' rfl (ok_false (by simp) (ok_gO (ok_ldL h' rfl (ok_gO (ok_ldL h' rfl (ok_false (by simp) ?_)))))))))
 exact ss_loop1 n hn (evF E orcL n) (by omega) (by omega) h' (hq1.rd (fun e he => by simp [he])) (hq2.rd (fun e he => by simp [he])) (hs1.rd (fun e he => by simp [he])) (hs2.rd (fun e he => by simp [he])) n 0 false (by omega) (by omega)
theorem st_loop (n0 n : Nat) (hn : 2000 < n) {xs ys : List Tx} {xa ya : OP} {xc yc : Cap} (hl : xs.length ≤ 1000) (he : ptx xs = ptx ys) (h64 : ∀ x ∈ ptx xs, x.length ≤ 64) (r1 : RdR X F xa (trows xs).flatten) (r2 : RdR X F ya (trows ys).flatten) (v1 : TxV X F xs) (v2 : TxV X F ys) (h : Hp X S F) : ∀ (m i : Nat) (w4 : Bool), i ≤ xs.length → xs.length - i < m →
 Ok (J26_lZAS (evF E orcL (n + 1)) n0 m xa xs.length xc ya ys.length yc w4 i S) fun v S' => v = .bool true ∧ S' = S
 | 0, i, w4, hi, hm => by omega
 | m + 1, i, w4, hi, hm => by
   have hll : xs.length = ys.length := by have := congrArg List.length he; simpa [ptx] using this
   rw [J26_lZAS_succ]
   simp only [b26_lZAS]
   refine ok_cond (fun hc => ?_) (fun hc => ok_ret ⟨rfl, rfl⟩)
   simp only [decide_eq_true_eq] at hc
   have hlt : i < xs.length := by omega
   have hlt2 : i < ys.length := by omega
   obtain ⟨x, hx⟩ : ∃ x, xs[i]? = some x := ⟨_, List.getElem?_eq_getElem hlt⟩
   obtain ⟨y, hy⟩ : ∃ y, ys[i]? = some y := ⟨_, List.getElem?_eq_getElem hlt2⟩
   have hxy : pts x.ps = pts y.ps := by
    have h1 : (ptx xs)[i]? = some (pts x.ps) := by rw [ptx, List.getElem?_map, hx]; rfl
    have h2 : (ptx ys)[i]? = some (pts y.ps) := by rw [ptx, List.getElem?_map, hy]; rfl
    rw [he, h2] at h1
    exact (Option.some.inj h1).symm
   have hpl : x.ps.length ≤ 64 := by
    have := h64 (pts x.ps) (by rw [ptx]; exact List.mem_map_of_mem (f := fun x : Tx => pts x.ps) (List.mem_of_getElem? hx))
    rw [pts_len] at this; exact this
   have nn : ∀ (zs : List Tx), i < zs.length → (trows zs).flatten ≠ [] := fun zs hz => by intro he; have := congrArg List.length he; rw [flat_len (trows_all zs), trows_len] at this; simp only [List.length_nil] at this; omega
   obtain ⟨p1, hp1⟩ := r1.some_of (nn xs hlt)
   obtain ⟨p2, hp2⟩ := r2.some_of (nn ys hlt2)
   subst hp1; subst hp2
   have g1 : (trows xs).flatten[i * 1]? = some (.sl x.a x.ps.length x.c) := by have := flat_get (trows_all xs) (trows_at hx) (j := 0) (by decide); simpa [trow] using this
   have g2 : (trows ys).flatten[i * 1]? = some (.sl y.a y.ps.length y.c) := by have := flat_get (trows_all ys) (trows_at hy) (j := 0) (by decide); simpa [trow] using this
   rw [ixSl_at rfl hlt, rd_ldL r1 h g1, ixSl_at rfl hlt2, rd_ldL r2 h g2]
   have vx := v1 x (List.mem_of_getElem? hx)
   have vy := v2 y (List.mem_of_getElem? hy)
   rw [callB_of (show evF E orcL (n + 1) (.fn 55) [.sl x.a x.ps.length x.c, .sl y.a y.ps.length y.c] S = _ from same_eq n hn (by omega) hxy vx.1 vx.2 vy.1 vy.2 h)]
   refine ok_false rfl ?_
   rw [wn (x := (i : Int) + 1) (n := i + 1) (by omega) (by omega)]
   exact st_loop n0 n hn hl he h64 r1 r2 v1 v2 h m (i + 1) w4 (by omega) (by omega)
theorem sameTx_eq (n : Nat) (hn : 2000 < n) {xs ys : List Tx} {xa ya : OP} {xc yc : Cap} (hl : xs.length ≤ 1000) (he : ptx xs = ptx ys) (h64 : ∀ x ∈ ptx xs, x.length ≤ 64) (r1 : RdR X F xa (trows xs).flatten) (r2 : RdR X F ya (trows ys).flatten) (v1 : TxV X F xs) (v2 : TxV X F ys) (h : Hp X S F) :
 ev (n + 2) (.fn 26) [.sl xa xs.length xc, .sl ya ys.length yc] S = some (.bool true, S) := by
 have hll : xs.length = ys.length := by have := congrArg List.length he; simpa [ptx] using this
 apply ok_eq
 rw [ev, F26 _ _ _ _ _ _ _ _ (oL rfl)]
 simp only [J26, b26_entry]
 exact ok_false (by simp [hll]) (st_loop (n + 1) n hn hl he h64 r1 r2 v1 v2 h (n + 1) 0 false (by omega) (by omega))
end
theorem rdTx_len {t : St} {J : JM} {p lsn ab as_ room : Int} {tx : List Pt} {o : One} (h : rdTx t J p lsn ab as_ room = some (tx, o)) : tx.length ≤ 64 := by
 unfold rdTx at h
 cases he : enR t J p with
 | none => rw [he] at h; cases h
 | some x =>
   rw [he] at h
   simp only at h
   split at h
   ·cases hr : rdPs t J p x (x.ps.toNat - 1) 1 x.by_ with
    | none => rw [hr] at h; cases h
    | some s =>
      rw [hr] at h
      simp only at h
      split at h
      ·rename_i hg
       injection h with h
       injection h with h _
       subst h
       simp only [goodT, okT, Bool.and_eq_true, decide_eq_true_eq] at hg
       omega
      ·cases h
   ·cases h
theorem rdAll_len {t : St} : ∀ (f : Nat) (J : JM) (p ab as_ : Int) (out : List (List Pt)), (∀ x ∈ out, x.length ≤ 64) → ∀ x ∈ (rdAll t f J p ab as_ out).2, x.length ≤ 64
 | 0, J, p, ab, as_, out, h => h
 | f + 1, J, p, ab, as_, out, h => by
   rw [rdAll_succ]
   cases hr : rdTx t J p (J.sup.ls + (J.l.length : Nat) + 1) ab as_ ((J.count : Int) - 2 - sumN J.l) with
   | none => exact h
   | some to =>
     obtain ⟨tx, o⟩ := to
     refine rdAll_len f _ _ _ _ _ (fun x hx => ?_)
     rcases List.mem_append.1 hx with hx | hx
     ·exact h x hx
     ·simp only [List.mem_singleton] at hx; subst hx; exact rdTx_len hr
end Go.Jn.P
namespace Go.Jn.P
open Go.Gr Go.Jn
section
variable {J : JM} {k N K : Nat} {t : St}
theorem rdAll_facts (hSK : SK k t) : ∀ (f : Nat) (J : JM) (p ab as_ : Int) (out : List (List Pt)), 0 ≤ p → J.first + J.count ≤ t.s.length → JI J k → JI (rdAll t f J p ab as_ out).1 k ∧ (rdAll t f J p ab as_ out).1.sup = J.sup ∧ (rdAll t f J p ab as_ out).1.first = J.first ∧ (rdAll t f J p ab as_ out).1.count = J.count
 | 0, J, p, ab, as_, out, hp, hl, hJ => ⟨hJ, rfl, rfl, rfl⟩
 | f + 1, J, p, ab, as_, out, hp, hl, hJ => by
   rw [rdAll_succ]
   cases hr : rdTx t J p (J.sup.ls + (J.l.length : Nat) + 1) ab as_ ((J.count : Int) - 2 - sumN J.l) with
   | none => exact ⟨hJ, rfl, rfl, rfl⟩
   | some to =>
     obtain ⟨tx, o⟩ := to
     have hbl := blkP_lt (J := J) (p := p) hJ.c6 hp
     have ho := rdTx_some hr hSK (by omega)
     exact rdAll_facts hSK f (J.push o) (p + o.need) o.bo o.se _ (by omega) hl (hJ.push ho)
theorem wrAt_lt (h6 : 6 ≤ J.count) (hN : J.first + J.count ≤ N) : 0 ≤ wrAt J ∧ wrAt J < N := by
 unfold wrAt; split <;> omega
theorem SI.wr (h : SI t N K) (h6 : 6 ≤ J.count) (hN : J.first + J.count ≤ N) (x : Su) : SI (wrT J t x) N (K + 1) := by
 have hat := wrAt_lt h6 hN
 have h1 := h.wS (x := wrAt J) (p := encS { x with g := J.sup.g + 1 }) hat.1 hat.2
 unfold wrT
 split
 ·exact h1
 ·have h2 := h1.fl
  exact ⟨h2.len, h2.f, by have := h2.q; omega, h2.r⟩
theorem SK.wr (h : SK k t) {x : Su} (hc : CK k (encS { x with g := J.sup.g + 1 })) : SK k (wrT J t x) := by
 unfold wrT
 split
 ·exact h.wS hc
 ·exact (h.wS hc).fl
theorem op_facts (hSI : SI t N K) (hN40 : N ≤ 40) (hSK : SK k t) (hk : k + 40 ≤ 100000) (first count : Int) : SI (opT t first count) N (K + 1) ∧ SK (k + 40) (opT t first count) ∧ (opE t first count = 0 → JI (opJ t first count) (k + 40) ∧ (opJ t first count).first + (opJ t first count).count ≤ N) := by
 have hlen := hSI.len
 by_cases hc : fitE t.s.length first count = 0 ∧ (supA t first.toNat).isSome = true
 ·obtain ⟨c1, c2⟩ := hc
  obtain ⟨g1, g2, g3⟩ := fitE_iff.1 c1
  cases hx : supA t first.toNat with
  | none => rw [hx] at c2; cases c2
  | some x =>
    have ex : opX t first = x := by rw [opX, hx]; rfl
    have hJz : JI (jz first.toNat count.toNat x) k := jz_JI hSK hx (by omega) (by omega) (by omega) (by omega)
    have hpo0 := hJz.po
    obtain ⟨hJ, e1, e2, e3⟩ := rdAll_facts hSK 60 (jz first.toNat count.toNat x) x.po x.ab x.as_ [] hpo0.1 (by show first.toNat + count.toNat ≤ _; omega) hJz
    have hRd : (rdAll t 60 (jz first.toNat count.toNat x) x.po x.ab x.as_ []).1 = (opR t first count (opX t first)).1 := by rw [ex]; rfl
    rw [hRd] at hJ e1 e2 e3
    generalize hJ' : (opR t first count (opX t first)).1 = J' at hJ e1 e2 e3
    have e1' : J'.sup = x := e1
    have e2' : J'.first = first.toNat := e2
    have e3' : J'.count = count.toNat := e3
    have hT : opT t first count = wrT J' t (opW x) := by rw [opT, if_pos ⟨c1, by rw [hx]; rfl⟩, hJ', ex]
    have q1 := hJ.g
    have q2 := hJ.bo
    have q3 := hJ.po
    have q4 := hJ.ls
    have q5 := hJ.ab
    have q6 := hJ.as_
    have q7 := hJ.c6
    have q8 := hJ.se
    rw [e1'] at q1 q2 q3 q4 q5 q6
    have hCK : CK (k + 40) (encS { opW x with g := J'.sup.g + 1 }) := by
     rw [e1']
     refine CK.encS ?_ ⟨?_, ?_⟩ ⟨?_, ?_⟩ ?_ ?_ ?_ ?_
     ·intro y hy
      simp only [opW, Su.l, List.mem_cons, List.not_mem_nil, or_false] at hy
      omega
     ·show 1 ≤ x.g + 1; omega
     ·show x.g + 1 ≤ ((k + 40 : Nat) : Int); omega
     ·show 1 ≤ x.bo + 1; omega
     ·show x.bo + 1 ≤ ((k + 40 : Nat) : Int); omega
     ·show x.po ≤ 100 * ((k + 40 : Nat) : Int); omega
     ·show x.ls ≤ ((k + 40 : Nat) : Int); omega
     ·show x.ab ≤ ((k + 40 : Nat) : Int); omega
     ·show x.as_ ≤ ((k + 40 : Nat) : Int); omega
    rw [hT]
    refine ⟨hSI.wr (by omega) (by omega) _, (hSK.up (by omega)).wr hCK, fun he => ?_⟩
    have hE : opE t first count = wE t := by rw [opE, if_pos c1, hx]
    rw [hE] at he
    have hnf := wE_iff.1 he
    have hw : wrJ J' t (opW x) = J'.sup! { opW x with g := J'.sup.g + 1 } := by rw [wrJ, if_neg hnf]
    have hJJ : opJ t first count = (J'.sup! { opW x with g := J'.sup.g + 1 }).sync := by rw [opJ, hJ', ex, hw]
    rw [hJJ]
    refine ⟨JI.sync ?_, by show J'.first + J'.count ≤ N; omega⟩
    obtain ⟨a1, a2, a3, a4, a5, a6, a7, a8, a9, a10, a11, a12, a13, a14⟩ := hJ.up (m := k + 40) (by omega) hk
    refine ⟨a1, a2, ?_, ?_, ?_, ?_, ?_, ?_, a9, ?_, a11, a12, a13, a14⟩
    ·show 1 ≤ J'.sup.g + 1 ∧ J'.sup.g + 1 ≤ ((k + 40 : Nat) : Int); rw [e1']; omega
    ·show 1 ≤ x.bo + 1 ∧ x.bo + 1 ≤ ((k + 40 : Nat) : Int); omega
    ·show 0 ≤ x.po ∧ x.po ≤ 100 * ((k + 40 : Nat) : Int); omega
    ·show 0 ≤ x.ls ∧ x.ls ≤ ((k + 40 : Nat) : Int); omega
    ·show 0 ≤ x.ab ∧ x.ab ≤ ((k + 40 : Nat) : Int); omega
    ·show 0 ≤ x.as_ ∧ x.as_ ≤ ((k + 40 : Nat) : Int); omega
    ·show 0 ≤ J'.sy ∧ J'.sy ≤ x.ls + (J'.l.length : Nat); rw [e1'] at a10; exact a10
 ·have hT : opT t first count = t := by rw [opT, if_neg hc]
  rw [hT]
  refine ⟨⟨hSI.len, hSI.f, by have := hSI.q; omega, hSI.r⟩, hSK.up (by omega), fun he => ?_⟩
  exfalso
  unfold opE at he
  by_cases c1 : fitE t.s.length first count = 0
  ·rw [if_pos c1] at he
   cases hx : supA t first.toNat with
   | none => rw [hx] at he; simp at he
   | some x => exact hc ⟨c1, by rw [hx]; rfl⟩
  ·rw [if_neg c1] at he; exact c1 he
theorem apRun_SK {lsn pos : Int} {need : Nat} {s : List UInt8} (hJ : 1 ≤ J.sup.bo ∧ J.sup.bo ≤ k) (hse : 1 ≤ J.se ∧ J.se ≤ k) (hl : 1 ≤ lsn ∧ lsn ≤ k) (hp : 0 ≤ pos ∧ pos + need ≤ 100 * k) (hk : k ≤ 1000000) (hne : need ≤ 40) (hs1 : (need - 1) * 336 < s.length) (hs2 : s.length ≤ need * 336) : ∀ (r i : Nat) (t : St), i + r ≤ need → SK k t → SK k (apRun J lsn pos need s r i t).2
 | 0, i, t, hi, h => h
 | r + 1, i, t, hi, h => by
   have hil : i * 336 < s.length := by
    have : i * 336 ≤ (need - 1) * 336 := Nat.mul_le_mul_right _ (by omega)
    omega
   have hpl : (win8 s (i * 336) (min s.length ((i + 1) * 336) - i * 336)).length = min s.length ((i + 1) * 336) - i * 336 := win8_len (by omega)
   have hCK : CK k (encE (apPart J lsn pos need s i)) := by
    have hb : (apPart J lsn pos need s i).by_.length = min s.length ((i + 1) * 336) - i * 336 := hpl
    refine CK.encE ((okE_iff _).2 ⟨?_, ?_, ?_, ?_, ?_, ?_, ?_, ?_, ?_, ?_, ?_, ?_, ?_⟩) ⟨⟨?_, ?_⟩, ⟨?_, ?_⟩, ⟨?_, ?_⟩, ⟨?_, ?_⟩, ⟨?_, ?_⟩, ⟨?_, ?_⟩⟩ ?_ ?_ ?_ ?_
    all_goals simp only [apPart]
    all_goals omega
   rw [apRun]
   split
   ·exact h.wS hCK
   ·exact apRun_SK hJ hse hl hp hk hne hs1 hs2 r (i + 1) _ (by omega) (h.wS hCK)
theorem ap_SK (hJ : JI J k) (hk : k + 40 ≤ 100000) (hSK : SK k t) (p : List Pt) : SK (k + 40) (apT J t p) := by
 unfold apT
 split
 ·rename_i hgo
  obtain ⟨h1, h2⟩ := apGo_iff.1 hgo
  have hk2 := h1
  simp only [okT, Bool.and_eq_true, decide_eq_true_eq, List.all_eq_true] at hk2
  have hnd := needI_of (n := (p.length : Int)) (by omega) (by omega)
  have hpl : (encT p).length = 4 + 388 * p.length := by rw [encT, List.length_append, be_len, encPs_len hk2.2]
  have hln := hJ.lcount
  have q2 := hJ.bo
  have q3 := hJ.po
  have q4 := hJ.ls
  have q5 := hJ.se
  have q7 := hJ.c40
  have q8 := hJ.rm
  have q9 := sumN_ge fun o ho => (hJ.ol o ho).1
  obtain ⟨nd, hnd2⟩ : ∃ nd : Nat, needI (p.length : Nat) = nd := ⟨(needI (p.length : Nat)).toNat, by omega⟩
  unfold apR
  rw [hnd2, Int.toNat_natCast]
  refine apRun_SK (J := { J with se := J.se + 1 }) ⟨q2.1, ?_⟩ ⟨?_, ?_⟩ ⟨by omega, ?_⟩ ⟨by omega, ?_⟩ (by omega) (by omega) (by rw [hpl]; omega) (by rw [hpl]; omega) nd 0 t (by omega) (hSK.up (by omega))
  ·show J.sup.bo ≤ ((k + 40 : Nat) : Int); omega
  ·show 1 ≤ J.se + 1; omega
  ·show J.se + 1 ≤ ((k + 40 : Nat) : Int); omega
  ·omega
  ·omega
 ·exact hSK.up (by omega)
theorem tr_SK (hJ : JI J k) (hk : k + 40 ≤ 100000) (hSK : SK k t) (lsn : Int) : SK (k + 40) (trT J t lsn) := by
 unfold trT
 split
 ·rename_i hg
  obtain ⟨he, hne⟩ := trG_iff.1 hg
  obtain ⟨hN, hNi⟩ := trN_le hJ he
  have h3 := trE_iff.1 he
  obtain ⟨f1, f2, f3, f4, f5, f6⟩ := supT_facts hJ lsn (J.trN lsn) hN
  have hsum := sumN_le (fun o ho => (hJ.ol o ho).1) (J.trN lsn)
  have hln := hJ.lcount
  have q1 := hJ.g
  have q2 := hJ.bo
  have q3 := hJ.po
  have q4 := hJ.ls
  have q7 := hJ.c40
  have q8 := hJ.rm
  have q9 := hJ.sy
  refine (hSK.up (by omega)).wr (CK.encS ?_ ⟨?_, ?_⟩ ⟨?_, ?_⟩ ?_ ?_ ?_ ?_)
  ·intro y hy
   simp only [Su.l, List.mem_cons, List.not_mem_nil, or_false] at hy
   omega
  ·show 1 ≤ J.sup.g + 1; omega
  ·show J.sup.g + 1 ≤ ((k + 40 : Nat) : Int); omega
  ·show 1 ≤ (supT J lsn (J.trN lsn)).bo; omega
  ·show (supT J lsn (J.trN lsn)).bo ≤ ((k + 40 : Nat) : Int); omega
  ·show (supT J lsn (J.trN lsn)).po ≤ 100 * ((k + 40 : Nat) : Int); omega
  ·show (supT J lsn (J.trN lsn)).ls ≤ ((k + 40 : Nat) : Int); omega
  ·show (supT J lsn (J.trN lsn)).ab ≤ ((k + 40 : Nat) : Int); omega
  ·show (supT J lsn (J.trN lsn)).as_ ≤ ((k + 40 : Nat) : Int); omega
 ·exact hSK.up (by omega)
end
end Go.Jn.P
