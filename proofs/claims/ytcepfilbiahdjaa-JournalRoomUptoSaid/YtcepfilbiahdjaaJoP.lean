/- What package journal does with a heap: a superblock is written; a new journal is opened. -/
import Derived.Test.YtcepfilbiahdjaaJoS
set_option linter.unusedVariables false
set_option linter.unusedSimpArgs false
set_option maxRecDepth 4000
namespace Go.Jn
open Go.Gr

section
variable {X : Cx} {S : AS} {L F Lj Ls : List Ent} {b bj sb : Nat} {Q : AV → AS → Prop} {J : JM} {k : Nat} {t : St}

theorem ok_invRead (n : Nat) (hn : 1000002 < n) {t : St} {x : Nat} {xi : Int} {K : AV → AS → Option (AV × AS)} (hxi : xi = x) (hx : x < t.s.length) (hb : StB b t L) (h : Hp X S (L ++ F)) (hq : t.q.length ≤ 1000000) (hz : (t.rd x).length ≤ 1000000)
    (ht : ∀ (a : Option Pos) (c : Cap) (L' : List Ent) (S' : AS), SlG a (t.rd x).length c 1 (bxs (t.rd x)) L' → Hp X S' (L' ++ (L ++ F)) → Ok (K (.tup [.sl a (t.rd x).length c, .int .i64 0]) S') Q) : Ok (invV E (evF E orcL (n + 1)) (dev b) "Read" [.int .i64 xi] S K) Q := by
  obtain ⟨v, S', e, a, c, L', rfl, hs, hh⟩ : Ok (evF E orcL (n + 1) (.fn 59) [.ptr (some (.rw b, 0)), .int .i64 xi] S) _ := read_ok n hn hxi hx hb h hq hz
  rw [invV_of mRead e]
  exact ht a c L' S' hs hh

theorem ok_atG {n : Nat} {l m : List AV} {i : Nat} {K : List AV → Option (AV × AS)} (h : l[i]? = some (.agg m)) (hm : m.length = n) (ht : Ok (K m) Q) : Ok (atG n l i K) Q := by simp only [atG, h, gG, hm, if_true]; exact ht
theorem ok_gT {l : List AV} {K : List AV → Option (AV × AS)} (ht : Ok (K l) Q) : Ok (Go.Gr.gT (.tup l) K) Q := by simpa [Go.Gr.gT] using ht

def JM.sup! (J : JM) (x : Su) : JM := { J with sup := x }
/-- A journal and its device, behind a superblock that was written. -/
abbrev WrQ (X : Cx) (F : List Ent) (bj sb : Nat) (J : JM) (x : Su) : AV → AS → Prop := fun v S' => v = .int .i64 0 ∧ ∃ t' L' Lj', StB sb t' L' ∧ SI t' J.count 0 ∧ JB bj sb (J.sup! { x with g := J.sup.g + 1 }) Lj' ∧ Hp X S' (L' ++ (Lj' ++ F))

theorem writes_ok (n : Nat) (hn : 1000010 < n) (hJ : JI J k) {x : Su} (hx : ∀ y ∈ x.l, 0 ≤ y ∧ y ≤ 4611686018427387904) (hbo : x.bo ≠ 0) (hSI : SI t J.count 900000) (h : Hp X S (Ls ++ (Lj ++ F))) (hj : JB bj sb J Lj) (hb : StB sb t Ls) :
    Ok (ev (n + 4) (.fn 38) [.ptr (some (.rw bj, 0)), .agg (srowS x)] S) (WrQ X F bj sb J x) := by
  obtain ⟨a, c, Ll, hs, rfl⟩ := hj
  have hg := hJ.g
  have hk := hJ.k1
  have hc6 := hJ.c6
  have hxB : ∀ y ∈ ({ x with g := J.sup.g + 1 } : Su).l, 0 ≤ y ∧ y ≤ 4611686018427387904 := by
    intro y hy
    simp only [Su.l, List.mem_cons, List.not_mem_nil, or_false] at hy
    rcases hy with rfl | hy
    · omega
    · exact hx y (by simp [Su.l, hy])
  have hok : okS ({ x with g := J.sup.g + 1 } : Su) = true := by
    have : ({ x with g := J.sup.g + 1 } : Su).l.all mxB = true := by
      rw [List.all_eq_true]; intro y hy; simp [mxB]; exact (hxB y hy).2
    simp only [okS, this, Bool.and_true, Bool.and_eq_true, bne_iff_ne, ne_eq]
    exact ⟨by omega, hbo⟩
  rw [ev, F38 _ _ _ _ (oL rfl)]
  simp only [J38, b38_entry]
  refine ok_ifO rfl (ok_newA h (fun b1 S2 h2 => ok_gO (ok_ldI h2 rfl ?_)))
  rw [wu64 (n := J.sup.g + 1) (by omega) (by omega)]
  refine ok_stn h2 (by simp [srowS, Su.l]) (d := srowS { x with g := J.sup.g + 1 }) (by simp [splice, srowS, Su.l]) (fun S5 h5 => ok_ldn h5 (by simp [srowS, Su.l]) (d := srowS { x with g := J.sup.g + 1 }) (by simp [srowS, Su.l]) ?_)
  obtain ⟨v, S7, e7, a7, c7, L7, rfl, hs7, h7⟩ : Ok (evF E orcL (n + 3) (.fn 41) [.agg (srowS { x with g := J.sup.g + 1 })] S5) _ := putS_ok n (by omega) (fun y hy => ⟨(hxB y hy).1, by have := (hxB y hy).2; omega⟩) h5
  rw [callT_of e7]
  rw [show putS ({ x with g := J.sup.g + 1 } : Su) = encS { x with g := J.sup.g + 1 } by simp [putS, hok], show putSe ({ x with g := J.sup.g + 1 } : Su) = 0 by simp [putSe, hok]]
  rw [show putS ({ x with g := J.sup.g + 1 } : Su) = encS { x with g := J.sup.g + 1 } by simp [putS, hok]] at hs7
  refine ok_atL rfl (ok_atI rfl (ok_false rfl (ok_gO (ok_ldI h7 rfl (ok_gO ?_)))))
  rw [wu64 (n := J.sup.g + 1) (by omega) (by omega)]
  refine ok_stn h7 (by simp [jrow]) (d := jrow (dev sb) (J.sup! { J.sup with g := J.sup.g + 1 }) a J.l.length c) (by simp [splice, jrow, JM.sup!]) (fun S14 h14 => ok_gO (ok_ldI h14 rfl (ok_ldI h14 rfl ?_)))
  have tail : ∀ (at_ : Int), 0 ≤ at_ → at_ ≤ 1 → Ok (gO (some (Bid.rw bj, 0)) fun p18 =>
      ldV S14 p18.1 p18.2 fun v19 =>
      invV E (evF E orcL (n + 3)) v19 "Write" [(.int .i64 at_), (.sl a7 (encS { x with g := J.sup.g + 1 }).length c7)] S14 fun v21 S20 =>
      gIk .i64 v21 fun v22 =>
      cond (v22 != 0) (
      some ((.int .i64 v22), S20)) (
      gO (some (Bid.rw bj, 0)) fun p23 =>
      ldV S20 p23.1 p23.2 fun v24 =>
      invV E (evF E orcL (n + 3)) v24 "Flush" [] S20 fun v26 S25 =>
      gIk .i64 v26 fun v27 =>
      cond (v27 != 0) (
      some ((.int .i64 v27), S25)) (
      S25.ldn (.rw b1) 0 6 fun g28 =>
      gO (some (Bid.rw bj, 0)) fun p29 =>
      ifO (g28.length = 6) <|
      S25.stn p29.1 (p29.2 + 3) g28 fun S30 =>
      some ((.int .i64 0), S30)))) (WrQ X F bj sb J x) := by
    intro at_ h0 h1
    refine ok_gO (ok_ldV h14 rfl ?_)
    have h14' : Hp X S14 (Ls ++ (L7 ++ (C b1 (srowS { x with g := J.sup.g + 1 }) :: C bj (jrow (dev sb) (J.sup! { J.sup with g := J.sup.g + 1 }) a J.l.length c) :: (Ll ++ F)))) := h14.re (by intro p; simp only [List.countP_append, List.countP_cons, List.cons_append, C]; omega)
    refine ok_invWrite (n + 2) h0 (by rw [hSI.len]; omega) (encS_len _) hSI.f (by have := hSI.q; omega) hb h14' (slG_vw hs7 (fun e he => by simp [he])) (fun L20 S20 hb20 h20 => ok_gIk (ok_false rfl (ok_gO (ok_ldV h20 rfl ?_))))
    have hr20 : St.inr ⟨t.s, t.q ++ [(at_, encS { x with g := J.sup.g + 1 })], -1⟩ := fun e he => by
      rcases List.mem_append.1 he with he | he
      · exact hSI.r e he
      · simp only [List.mem_singleton] at he
        subst he
        have := hSI.len
        exact ⟨h0, by show at_ < (t.s.length : Int); omega⟩
    refine ok_invFlush (n + 2) (by omega) hr20 (by have := hSI.q; simp; omega) hb20 h20 (fun L25 S25 hb25 h25 => ok_gIk (ok_false rfl ?_))
    refine ok_ldn h25 (by simp [srowS, Su.l]) (d := srowS { x with g := J.sup.g + 1 }) (by simp [srowS, Su.l]) (ok_gO (ok_ifO rfl (ok_stn h25 (by simp [jrow, srowS, Su.l]) (d := jrow (dev sb) (J.sup! { x with g := J.sup.g + 1 }) a J.l.length c) (by simp [splice, jrow, JM.sup!, srowS, Su.l]) (fun S30 h30 => ok_ret ⟨rfl, _, L25, C bj (jrow (dev sb) (J.sup! { x with g := J.sup.g + 1 }) a J.l.length c) :: Ll, hb25, ⟨?_, rfl, by simp [St.fl], fun e he => by cases he⟩, ⟨a, c, Ll, hs, rfl⟩, ?_⟩))))
    · rw [St.fl]; simp only [flS_len]; exact hSI.len
    · exact (h30.re (M := L7 ++ (C b1 (srowS { x with g := J.sup.g + 1 }) :: (L25 ++ (C bj (jrow (dev sb) (J.sup! { x with g := J.sup.g + 1 }) a J.l.length c) :: Ll ++ F)))) (by intro p; simp only [List.countP_append, List.countP_cons, List.cons_append, C]; omega)).right.drop1
  refine ok_cond (fun _ => ?_) (fun _ => ?_)
  · rw [show IntKind.wrap .i64 ((0 : Int) + 1) = 1 by decide]
    exact tail 1 (by omega) (by omega)
  · exact tail 0 (by omega) (by omega)

def J0 (count : Nat) (g : Int) : JM := ⟨count, if g = 0 then ⟨0, 0, 0, 0, 0, 0⟩ else su g, [], 0, 0⟩

theorem supered_ok (n : Nat) (hn : 1000010 < n) {count : Nat} (hc : 6 ≤ count) (h40 : count ≤ 40) (h : Hp X S (Ls ++ (C bj (jrow (dev sb) (J0 count 0) none 0 (.ex 0)) :: F))) (hb : StB sb (st0 count) Ls) :
    Ok (ev (n + 5) (.fn 53) [.ptr (some (.rw bj, 0))] S) fun v S' => v = .int .i64 0 ∧ Hp X S' (Ls ++ (C bj (jrow (dev sb) (J0 count 2) none 0 (.ex 0)) :: F)) := by
  have hr0 := st0_rd0 hc
  have hr1 := st0_rd1 hc
  have g1 := good_encS (su_ok (g := 1) (by omega) (by omega)) (su_B (by omega) (by omega))
  have g2 := good_encS (su_ok (g := 2) (by omega) (by omega)) (su_B (by omega) (by omega))
  rw [ev, F53 _ _ _ (oL rfl)]
  simp only [J53, b53_entry]
  rw [J53_l1_1_0_1_0_succ]
  simp only [b53_l1_1_0_1_0]
  refine ok_true (by decide) (ok_gO (ok_ldV h rfl (ok_gO (ok_ldI h rfl ?_))))
  rw [nilV_dev, show IntKind.wrap .i64 ((0 : Int) + 0) = 0 by decide]
  refine ok_invRead (n + 3) (by omega) (x := 0) rfl (by simp; omega) hb h (by simp [st0]) (by rw [hr0]; simp) (fun a1 c1 L1 S1 hs1 h1 => ?_)
  rw [hr0] at hs1 ⊢
  refine ok_gT (ok_atL rfl (ok_atI rfl (ok_false rfl ?_)))
  obtain ⟨v, S2, e2, rfl, h2⟩ : Ok (evF E orcL (n + 4) (.fn 68) [.sl a1 (encS (su 1)).length c1] S1) _ := getS_ok n (by omega) h1 (slG_vw hs1 (fun e he => by simp [he]))
  rw [callT_of e2, show getS (encS (su 1)) = su 1 by simp [getS, g1.1, g1.2], show getSe (encS (su 1)) = 0 by simp [getSe, g1.1]]
  refine ok_atG rfl rfl (ok_atI rfl (ok_newA h2 (fun b3 S3 h3 => ok_ifO rfl (ok_stn h3 (by simp [srowS, Su.l]) (d := srowS (su 1)) (by simp [splice, srowS, Su.l]) (fun S4 h4 => ok_true rfl (ok_true rfl ?_))))))
  refine ok_ldn h4 (by simp [srowS, Su.l]) (d := srowS (su 1)) (by simp [srowS, Su.l]) (ok_gO (ok_ifO rfl (ok_stn h4 (by simp [jrow, srowS, Su.l]) (d := jrow (dev sb) (J0 count 1) none 0 (.ex 0)) (by simp [splice, jrow, J0, srowS, Su.l]) (fun S5 h5 => ?_))))
  simp only [J53_j1_1_0_1_0_0_1_1_1, b53_j1_1_0_1_0_0_1_1_1]
  rw [show IntKind.wrap .i64 ((0 : Int) + 1) = 1 by decide]
  have h5' : Hp X S5 (Ls ++ (C bj (jrow (dev sb) (J0 count 1) none 0 (.ex 0)) :: F)) := (h5.re (M := C b3 (srowS (su 1)) :: (L1 ++ (Ls ++ (C bj (jrow (dev sb) (J0 count 1) none 0 (.ex 0)) :: F)))) (by intro p; simp only [List.countP_append, List.countP_cons, C])).drop1.right
  rw [J53_l1_1_0_1_0_succ]
  simp only [b53_l1_1_0_1_0]
  refine ok_true (by decide) (ok_gO (ok_ldV h5' rfl (ok_gO (ok_ldI h5' rfl ?_))))
  rw [nilV_dev, show IntKind.wrap .i64 ((0 : Int) + 1) = 1 by decide]
  refine ok_invRead (n + 3) (by omega) (x := 1) rfl (by simp; omega) hb h5' (by simp [st0]) (by rw [hr1]; simp) (fun a1 c1 L1 S1 hs1 h1 => ?_)
  rw [hr1] at hs1 ⊢
  refine ok_gT (ok_atL rfl (ok_atI rfl (ok_false rfl ?_)))
  obtain ⟨v, S2, e2, rfl, h2⟩ : Ok (evF E orcL (n + 4) (.fn 68) [.sl a1 (encS (su 2)).length c1] S1) _ := getS_ok n (by omega) h1 (slG_vw hs1 (fun e he => by simp [he]))
  rw [callT_of e2, show getS (encS (su 2)) = su 2 by simp [getS, g2.1, g2.2], show getSe (encS (su 2)) = 0 by simp [getSe, g2.1]]
  refine ok_atG rfl rfl (ok_atI rfl (ok_newA h2 (fun b3 S3 h3 => ok_ifO rfl (ok_stn h3 (by simp [srowS, Su.l]) (d := srowS (su 2)) (by simp [splice, srowS, Su.l]) (fun S4 h4 => ok_true rfl (ok_false rfl ?_))))))
  refine ok_ldI h4 rfl (ok_gO (ok_ldI h4 rfl (ok_true (by simp [J0, su]) ?_)))
  refine ok_ldn h4 (by simp [srowS, Su.l]) (d := srowS (su 2)) (by simp [srowS, Su.l]) (ok_gO (ok_ifO rfl (ok_stn h4 (by simp [jrow, srowS, Su.l]) (d := jrow (dev sb) (J0 count 2) none 0 (.ex 0)) (by simp [splice, jrow, J0, srowS, Su.l]) (fun S6 h6 => ?_))))
  simp only [J53_j1_1_0_1_0_0_1_1_1, b53_j1_1_0_1_0_0_1_1_1]
  rw [show IntKind.wrap .i64 ((1 : Int) + 1) = 2 by decide]
  have h6' : Hp X S6 (Ls ++ (C bj (jrow (dev sb) (J0 count 2) none 0 (.ex 0)) :: F)) := (h6.re (M := C b3 (srowS (su 2)) :: (L1 ++ (Ls ++ (C bj (jrow (dev sb) (J0 count 2) none 0 (.ex 0)) :: F)))) (by intro p; simp only [List.countP_append, List.countP_cons, C])).drop1.right
  rw [J53_l1_1_0_1_0_succ]
  simp only [b53_l1_1_0_1_0]
  refine ok_false (by decide) ?_
  simp only [J53_j1_1_1, b53_j1_1_1]
  exact ok_false rfl (ok_ret ⟨rfl, h6'⟩)

end

end Go.Jn

namespace Go.Jn
open Go.Gr

theorem vl_zz : ∀ n, vl (zz n) = 0
  | 0 => rfl
  | n + 1 => by
    have : zz (n + 1) = 0 :: zz n := rfl
    rw [this, vl_cons, vl_zz n]; simp
theorem win8_zz {n i k : Nat} (h : i + k ≤ n) : win8 (zz n) i k = zz k := by
  rw [win8, zz, List.drop_replicate, List.take_replicate, Nat.min_eq_left (by omega)]; rfl
theorem good_zz : goodE (zz 384) = false := by
  have h1 : (decE (zz 384)).bo = 0 := by
    show ((vl (win8 (zz 384) 4 8) : Nat) : Int) = 0
    rw [win8_zz (by decide), vl_zz]; rfl
  have : okE (decE (zz 384)) = false := okE_false fun h => h.1 h1
  simp [goodE, this]

section
variable {X : Cx} {S : AS} {L F Lj Ls : List Ent} {b bj sb : Nat} {Q : AV → AS → Prop} {J : JM} {k : Nat} {t : St}

theorem J0_JI {count : Nat} (hc : 6 ≤ count) (h40 : count ≤ 40) : JI (J0 count 2) 10 := by
  refine ⟨hc, h40, ?_, ?_, ?_, ?_, ?_, ?_, ?_, ?_, ?_, ?_, by decide⟩
  · simp [J0, su]
  · simp [J0, su]
  · simp [J0, su]
  · simp [J0, su]
  · simp [J0, su]
  · simp [J0, su]
  · simp [J0]
  · simp [J0, su]
  · intro o ho; simp [J0] at ho
  · simp [J0, sumN]; omega
theorem J0_JB {count : Nat} {g : Int} : JB bj sb (J0 count g) [C bj (jrow (dev sb) (J0 count g) none 0 (.ex 0))] := ⟨none, .ex 0, [], by exact (SlG.nil : SlG none 0 (.ex 0) 3 [] []), rfl⟩

abbrev zone : List AV := [.int .i64 0, .int .u64 0, .int .u64 0]

theorem read0_ok (n : Nat) (hn : 1000010 < n) {count : Nat} (hc : 6 ≤ count) (h40 : count ≤ 40) {lsn room : Int} (h : Hp X S (Ls ++ (C bj (jrow (dev sb) (J0 count 2) none 0 (.ex 0)) :: F))) (hb : StB sb (st0 count) Ls) {g : List AV} (hg : g.length = 2) :
    Ok (ev (n + 6) (.fn 54) [.ptr (some (.rw bj, 0)), .int .u64 0, .int .u64 lsn, .agg g, .int .i64 room] S) fun v S' => v = .tup [.sl none 0 (.ex 0), .agg zone, .bool false, .int .i64 0] ∧ Hp X S' (Ls ++ (C bj (jrow (dev sb) (J0 count 2) none 0 (.ex 0)) :: F)) := by
  have hr2 := st0_rd2 hc
  rw [ev, F54 _ _ _ _ _ _ _ (oL rfl)]
  simp only [J54, b54_entry]
  refine ok_ifO hg (ok_newA h (fun b1 S1 h1 => ok_newA h1 (fun b3 S2 h2 => ok_newA h2 (fun b5 S3 h3 => ?_))))
  rw [J54_l1_1_1_0_1_0_succ]
  simp only [b54_l1_1_1_0_1_0]
  generalize hM : ((b5, some (AObj.cells [.int .u64 0, .int .u64 0, .int .u64 0, .int .u64 0, .int .i64 0, .int .i64 0, .sl none 0 (.ex 0)])) :: (b3, some (AObj.cells zone)) :: (b1, some (AObj.cells g)) :: F : List Ent) = M
  have h3' : Hp X S3 (Ls ++ (C bj (jrow (dev sb) (J0 count 2) none 0 (.ex 0)) :: M)) := h3.re (by intro p; rw [← hM]; simp only [List.countP_append, List.countP_cons, C, zone]; omega)
  have hblk : blkP (J0 count 2) 0 = 2 := by simp [blkP]
  have hjb : Hp X S3 ([C bj (jrow (dev sb) (J0 count 2) none 0 (.ex 0))] ++ (Ls ++ M)) := h3'.re (by intro p; simp only [List.countP_append, List.countP_cons, List.countP_nil, C]; omega)
  have e1 : evF E orcL (n + 5) (.fn 37) [.ptr (some (.rw bj, 0)), .int .u64 (IntKind.wrap .u64 ((0 : Int) + IntKind.wrap .u64 0))] S3 = some (.int .i64 2, S3) := by
    have := block_eq (n + 4) (J := J0 count 2) (p := 0) hc h40 (by omega) (by omega) hjb J0_JB
    rw [hblk] at this
    exact this
  refine ok_true rfl (ok_gO (ok_ldV h3' rfl ?_))
  rw [callI_of e1]
  refine ok_ldV h3' rfl (ok_true (by simp [AV.beq]) ?_)
  rw [nilV_dev]
  refine ok_invRead (n + 4) (by omega) (x := 2) rfl (by simp; omega) hb h3' (by simp [st0]) (by rw [hr2]; simp) (fun a6 c6 L6 S6 hs6 h6 => ?_)
  rw [hr2] at hs6 ⊢
  refine ok_gT (ok_atL rfl (ok_atI rfl (ok_false rfl ?_)))
  obtain ⟨v, S7, e7, a7, c7, L7, rfl, hv7, h7⟩ : Ok (evF E orcL (n + 5) (.fn 69) [.sl a6 (zz 384).length c6] S6) _ := getE_ok (n + 1) (by omega) h6 (slG_vw hs6 (fun e he => by simp [he]))
  rw [callT_of e7, show getEe (zz 384) = 81 by simp [getEe, good_zz]]
  refine ok_atG rfl rfl (ok_atI rfl (ok_newA h7 (fun b8 S8 h8 => ok_ifO rfl (ok_stn h8 (by simp [erow]) (d := erow (getE (zz 384)) a7 (getE (zz 384)).by_.length c7) (by simp [splice, erow]) (fun S9 h9 => ok_true rfl (ok_gO ?_))))))
  have h9' : Hp X S9 (C b3 zone :: (C b8 (erow (getE (zz 384)) a7 (getE (zz 384)).by_.length c7) :: (L7 ++ (L6 ++ (Ls ++ (C bj (jrow (dev sb) (J0 count 2) none 0 (.ex 0)) :: (b5, some (AObj.cells [.int .u64 0, .int .u64 0, .int .u64 0, .int .u64 0, .int .i64 0, .int .i64 0, .sl none 0 (.ex 0)])) :: (b1, some (AObj.cells g)) :: F)))))) := h9.re (by intro p; rw [← hM]; simp only [List.countP_append, List.countP_cons, C, zone]; omega)
  refine ok_stn h9' (by simp) (d := zone) (by simp [splice]) (fun S10 h10 => ok_gO (ok_ldn h10 (by simp) (d := zone) rfl (ok_ret ⟨rfl, ?_⟩)))
  exact (h10.re (M := C b3 zone :: (C b8 (erow (getE (zz 384)) a7 (getE (zz 384)).by_.length c7) :: (L7 ++ (L6 ++ ((b5, some (AObj.cells [.int .u64 0, .int .u64 0, .int .u64 0, .int .u64 0, .int .i64 0, .int .i64 0, .sl none 0 (.ex 0)])) :: (b1, some (AObj.cells g)) :: (Ls ++ (C bj (jrow (dev sb) (J0 count 2) none 0 (.ex 0)) :: F))))))) (by intro p; simp only [List.countP_append, List.countP_cons, C, zone]; omega)).drop1.drop1.right.right.drop1.drop1

/-- The journal behind its opening. -/
def J1 (count : Nat) : JM := ⟨count, ⟨3, 2, 0, 0, 0, 0⟩, [], 0, 0⟩
theorem J1_JI {count : Nat} (hc : 6 ≤ count) (h40 : count ≤ 40) : JI (J1 count) 10 := by
  refine ⟨hc, h40, ?_, ?_, ?_, ?_, ?_, ?_, ?_, ?_, ?_, ?_, by decide⟩
  · simp [J1]
  · simp [J1]
  · simp [J1]
  · simp [J1]
  · simp [J1]
  · simp [J1]
  · simp [J1]
  · simp [J1]
  · intro o ho; simp [J1] at ho
  · simp [J1, sumN]; omega

theorem open_ok (n : Nat) (hn : 1000010 < n) {count : Nat} (hc : 6 ≤ count) (h40 : count ≤ 40) (h : Hp X S (Ls ++ F)) (hb : StB sb (st0 count) Ls) :
    Ok (ev (n + 7) (.fn 25) [dev sb, .int .i64 0, .int .i64 count] S) fun v S' => ∃ bj t' L' Lj, v = .tup [.ptr (some (.rw bj, 0)), .sl none 0 (.ex 0), .int .i64 0] ∧ StB sb t' L' ∧ SI t' count 0 ∧ JB bj sb (J1 count) Lj ∧ Hp X S' (L' ++ (Lj ++ F)) := by
  rw [ev, F25 _ _ _ _ _ (oL rfl)]
  simp only [J25, b25_entry]
  rw [callI_of (show evF E orcL (n + 6) (.fn 40) [dev sb, .int .i64 0, .int .i64 count] S = _ from fits_eq (n + 4) (first := 0) hc (by simp) (by simp; omega) hb h)]
  refine ok_false rfl ?_
  rw [show ∀ (K : List AV → Option (AV × AS)), cellsOf ty73 (dev sb) K = K [dev sb] from fun K => rfl]
  refine ok_ifO (by simp) (ok_ifO (by simp [splice]) (ok_ifO (by simp [splice]) (ok_ifO (by simp [splice]) (ok_newA h (fun b7 S8 h8 => ?_)))))
  have h8' : Hp X S8 (Ls ++ (C b7 (jrow (dev sb) (J0 count 0) none 0 (.ex 0)) :: F)) := h8.re (by intro p; simp only [List.countP_append, List.countP_cons, C, jrow, J0, splice, List.take, List.drop, List.length, List.append_eq, List.nil_append, List.cons_append]; simp; omega)
  obtain ⟨v, S9, e9, rfl, h9⟩ : Ok (evF E orcL (n + 6) (.fn 53) [.ptr (some (.rw b7, 0))] S8) _ := supered_ok (n + 1) (by omega) hc h40 h8' hb
  rw [callI_of e9]
  refine ok_false rfl (ok_drawA h9 [11] (by simp) (by simp) (fun b11 S12 h12 => ?_))
  have h12' : Hp X S12 ((b11 + 11, none) :: (Ls ++ (C b7 (jrow (dev sb) (J0 count 2) none 0 (.ex 0)) :: F))) := h12
  refine ok_ldI h12' rfl (ok_ldI h12' rfl (ok_layA (b := b11 + 11) h12' (fun S15 h15 => ok_stn h15 (by simp) (d := [.int .u64 0, .int .u64 0]) (by simp [splice, J0, su]) (fun S16 h16 => ok_ldI h16 rfl ?_))))
  rw [J25_l1_1_1_1_1_1_0_1_0_succ]
  simp only [b25_l1_1_1_1_1_1_0_1_0]
  refine ok_drawA h16 [14] (by simp) (by simp) (fun b18 S19 h19 => ?_)
  have h19j : Hp X S19 ([C b7 (jrow (dev sb) (J0 count 2) none 0 (.ex 0))] ++ ((b18 + 14, none) :: C (b11 + 11) [.int .u64 0, .int .u64 0] :: (Ls ++ F))) := h19.re (by intro p; simp only [List.countP_append, List.countP_cons, List.countP_nil, List.map_cons, List.map_nil, List.cons_append, List.nil_append, C]; omega)
  have hJI := J0_JI hc h40
  rw [callI_of (show evF E orcL (n + 6) (.fn 29) [.ptr (some (.rw b7, 0))] S19 = _ from last_eq (n + 5) hJI h19j J0_JB)]
  refine ok_gO (ok_ldn h19j (by simp) (d := [.int .u64 0, .int .u64 0]) rfl (ok_gO (ok_ldn h19j (by simp) (d := [.int .u64 0, .int .u64 0]) rfl (ok_true (by simp [AV.beq, AV.beqs]) ?_))))
  obtain ⟨v, S26, e26, rfl, h26⟩ : Ok (evF E orcL (n + 6) (.fn 17) [.ptr (some (.rw b7, 0))] S19) _ := room_ok (n + 5) (by omega) hJI h19j J0_JB
  rw [callI_of e26]
  refine ok_gO (ok_ldn h26 (by simp) (d := [.int .u64 0, .int .u64 0]) rfl (ok_true (by simp [AV.beq, AV.beqs]) ?_))
  have h26' : Hp X S26 (Ls ++ (C b7 (jrow (dev sb) (J0 count 2) none 0 (.ex 0)) :: ((b18 + 14, none) :: C (b11 + 11) [.int .u64 0, .int .u64 0] :: F))) := h26.re (by intro p; simp only [List.countP_append, List.countP_cons, List.countP_nil, C]; omega)
  obtain ⟨v, S30, e30, rfl, h30⟩ : Ok (evF E orcL (n + 6) (.fn 54) [.ptr (some (.rw b7, 0)), .int .u64 (J0 count 2).sup.po, .int .u64 (IntKind.wrap .u64 ((J0 count 2).sup.ls + ((J0 count 2).l.length : Nat) + 1)), .agg [.int .u64 0, .int .u64 0], .int .i64 (((J0 count 2).count : Int) - 2 - sumN (J0 count 2).l)] S26) _ := read0_ok n hn hc h40 h26' hb rfl
  rw [callT_of e30]
  refine ok_atL rfl (ok_atG rfl rfl (?_ : Ok (atB _ 2 _) _))
  have hB : ∀ {l : List AV} {x : Bool} {i : Nat} {K : Bool → Option (AV × AS)} {Q : AV → AS → Prop}, l[i]? = some (.bool x) → Ok (K x) Q → Ok (atB l i K) Q := fun h ht => by simp only [atB, h, gB]; exact ht
  refine hB rfl (ok_atI rfl (ok_layA (b := b18 + 14) h30 (fun S36 h36 => ok_ifO rfl (ok_stn h36 (by simp) (d := zone) (by simp [splice]) (fun S37 h37 => ok_false rfl (ok_true rfl ?_))))))
  simp only [J25_j1_1_1_1_1_1_1, b25_j1_1_1_1_1_1_1]
  refine ok_gO (ok_ldn h37 (by simp [jrow]) (d := srowS (su 2)) rfl (ok_newA h37 (fun b58 S59 h59 => ok_ifO rfl (ok_stn h59 (by simp [srowS, Su.l]) (d := srowS (su 2)) (by simp [splice, srowS, Su.l]) (fun S60 h60 => ok_ldI h60 rfl ?_)))))
  rw [show IntKind.wrap .u64 ((su 2).bo + 1) = 2 by decide]
  refine ok_stn h60 (by simp [srowS, Su.l]) (d := srowS ⟨2, 2, 0, 0, 0, 0⟩) (by simp [splice, srowS, Su.l, su]) (fun S62 h62 => ok_ldn h62 (by simp [srowS, Su.l]) (d := srowS ⟨2, 2, 0, 0, 0, 0⟩) (by simp [srowS, Su.l]) ?_)
  have h62' : Hp X S62 (Ls ++ ([C b7 (jrow (dev sb) (J0 count 2) none 0 (.ex 0))] ++ (C b58 (srowS ⟨2, 2, 0, 0, 0, 0⟩) :: C (b18 + 14) zone :: C (b11 + 11) [.int .u64 0, .int .u64 0] :: F))) := h62.re (by intro p; simp only [List.countP_append, List.countP_cons, List.countP_nil, C]; omega)
  have hSI : SI (st0 count) (J0 count 2).count 900000 := ⟨by simp [J0], rfl, by simp [st0], fun e he => by cases he⟩
  obtain ⟨v, S64, e64, rfl, t', L', Lj', hb', hSI', hj', h64⟩ : Ok (evF E orcL (n + 6) (.fn 38) [.ptr (some (.rw b7, 0)), .agg (srowS ⟨2, 2, 0, 0, 0, 0⟩)] S62) _ := writes_ok (n + 2) (by omega) hJI (x := ⟨2, 2, 0, 0, 0, 0⟩) (by intro y hy; simp [Su.l] at hy; omega) (by decide) hSI h62' J0_JB hb
  rw [callI_of e64]
  have hJ1 : (J0 count 2).sup! { (⟨2, 2, 0, 0, 0, 0⟩ : Su) with g := (J0 count 2).sup.g + 1 } = J1 count := rfl
  rw [hJ1] at hj'
  have hJI1 := J1_JI hc h40
  have h64' : Hp X S64 (Lj' ++ (L' ++ (C b58 (srowS ⟨2, 2, 0, 0, 0, 0⟩) :: C (b18 + 14) zone :: C (b11 + 11) [.int .u64 0, .int .u64 0] :: F))) := h64.re (by intro p; simp only [List.countP_append]; omega)
  refine ok_false rfl ?_
  rw [callI_of (show evF E orcL (n + 6) (.fn 29) [.ptr (some (.rw b7, 0))] S64 = _ from last_eq (n + 5) hJI1 h64' hj')]
  obtain ⟨a, c, Ll, hs, rfl⟩ := hj'
  refine ok_gO (ok_stn h64' (by simp [jrow]) (d := jrow (dev sb) (J1 count) a (J1 count).l.length c) (by simp [splice, jrow, J1]) (fun S69 h69 => ok_ret ⟨b7, t', L', _, rfl, hb', hSI', ⟨a, c, Ll, hs, rfl⟩, ?_⟩))
  exact (h69.re (M := C b58 (srowS ⟨2, 2, 0, 0, 0, 0⟩) :: C (b18 + 14) zone :: C (b11 + 11) [.int .u64 0, .int .u64 0] :: (L' ++ (C b7 (jrow (dev sb) (J1 count) a (J1 count).l.length c) :: Ll ++ F))) (by intro p; simp only [List.countP_append, List.countP_cons, List.cons_append, C]; omega)).drop1.drop1.drop1

end

end Go.Jn

namespace Go.Jn
open Go.Gr

theorem JI.up {J : JM} {k m : Nat} (h : JI J k) (hm : k ≤ m) (hm2 : m ≤ 100000) : JI J m := by
  obtain ⟨a1, a2, a3, a4, a5, a6, a7, a8, a9, a10, a11, a12, a13⟩ := h
  refine ⟨a1, a2, ?_, ?_, ?_, ?_, ?_, ?_, ?_, a10, fun o ho => ?_, a12, hm2⟩
  · omega
  · omega
  · omega
  · omega
  · omega
  · omega
  · omega
  · have := a11 o ho; omega

theorem needI_of {n : Int} (h1 : 1 ≤ n) (h2 : n ≤ 64) : needI n = (4 + n * 388 + 335) / 336 := by rw [needI, if_neg (by omega)]

section
variable {X : Cx} {S : AS} {L F G Lj Ls : List Ent} {b bj sb : Nat} {Q : AV → AS → Prop} {J : JM} {k : Nat} {t : St}

theorem app_loop (n0 n : Nat) (hn : 1000010 < n) {need K : Nat} {lsn pos : Int} {s : List UInt8} {a6 : Option Pos} {l6 : Nat} {c6 : Cap} {w4 w5 : Int} (h6 : 6 ≤ J.count) (h40 : J.count ≤ 40) (hne : need ≤ 40) (hK : K ≤ 900000)
    (hbo : 1 ≤ J.sup.bo ∧ J.sup.bo ≤ 1000000) (hse : 1 ≤ J.se ∧ J.se ≤ 1000000) (hlsn : 1 ≤ lsn ∧ lsn ≤ 1000000) (hpos : 0 ≤ pos ∧ pos ≤ 100000000)
    (hv : Vw X G a6 l6 c6 s) (hs1 : (need - 1) * 336 < s.length) (hs2 : s.length ≤ need * 336) {ja : Option Pos} {jc : Cap} {Ll : List Ent} (hsj : SlG ja J.l.length jc 3 (orows J.l) Ll)
    (fin : ∀ t' L' S', StB sb t' L' → SI t' J.count (K + need) → Hp X S' (L' ++ (C bj (jrow (dev sb) J ja J.l.length jc) :: Ll ++ G)) → Ok (J11_j1_1_1_1_1_1_1_1_1 (evF E orcL (n + 3)) n0 (some (.rw bj, 0)) need lsn S') Q) :
    ∀ (m i : Nat) (t : St) (Ls : List Ent) (S : AS), i ≤ need → need - i < m → StB sb t Ls → SI t J.count (K + i) → Hp X S (Ls ++ (C bj (jrow (dev sb) J ja J.l.length jc) :: Ll ++ G)) →
      Ok (J11_l1_1_1_1_1_1_1_1_0_1_0 (evF E orcL (n + 3)) n0 m (some (.rw bj, 0)) w4 w5 a6 l6 c6 need pos lsn need i S) Q
  | 0, i, t, Ls, S, hi, hm, hb, hSI, h => by omega
  | m + 1, i, t, Ls, S, hi, hm, hb, hSI, h => by
    have hln := hv.ln
    rw [J11_l1_1_1_1_1_1_1_1_0_1_0_succ]
    simp only [b11_l1_1_1_1_1_1_1_1_0_1_0]
    refine ok_cond (fun hc => ?_) (fun hc => ?_)
    · simp only [decide_eq_true_eq] at hc
      have hlt : i < need := by omega
      have hil : i * 336 < s.length := by
        have : i * 336 ≤ (need - 1) * 336 := Nat.mul_le_mul_right _ (by omega)
        omega
      rw [wn (x := (i : Int) * 336) (n := i * 336) (by omega) (by omega), wn (x := (i : Int) + 1) (n := i + 1) (by omega) (by omega), wn (x := ((i + 1 : Nat) : Int) * 336) (n := (i + 1) * 336) (by omega) (by omega)]
      have hmin : (if ((l6 : Nat) : Int) < (((i + 1) * 336 : Nat) : Int) then ((l6 : Nat) : Int) else (((i + 1) * 336 : Nat) : Int)) = ((min l6 ((i + 1) * 336) : Nat) : Int) := by
        split <;> omega
      rw [hmin]
      have hvF : Vw X (Ls ++ (C bj (jrow (dev sb) J ja J.l.length jc) :: Ll ++ G)) a6 l6 c6 s := hv.mono (fun e he => by simp [he])
      refine ok_sl hvF (lo := i * 336) (hi := min l6 ((i + 1) * 336)) (by omega) (by omega) rfl rfl (fun a7 c7 w7 => ?_)
      have hj' : JB bj sb J (C bj (jrow (dev sb) J ja J.l.length jc) :: Ll) := ⟨ja, jc, Ll, hsj, rfl⟩
      refine ok_gO (ok_ldI h rfl (ok_gO (ok_ldI h rfl ?_)))
      rw [wu64 (n := ((i : Nat) : Int)) (by omega) (by omega), wu64 (n := pos + ((i : Nat) : Int)) (by omega) (by omega)]
      have hpl : (win8 s (i * 336) (min l6 ((i + 1) * 336) - i * 336)).length = min l6 ((i + 1) * 336) - i * 336 := win8_len (by omega)
      generalize hpt : win8 s (i * 336) (min l6 ((i + 1) * 336) - i * 336) = pt at w7 hpl
      have hok : okE ⟨J.sup.bo, J.se, pos + (i : Nat), lsn, (i : Nat), (need : Nat), pt⟩ = true := (okE_iff _).2 ⟨by show J.sup.bo ≠ 0; omega, by show J.se ≠ 0; omega, by show lsn ≠ 0; omega, by show J.sup.bo ≤ _; omega, by show J.se ≤ _; omega, by show lsn ≤ _; omega, by show pos + (i : Int) ≤ _; omega, by show (1 : Int) ≤ (need : Int); omega, by show (need : Int) ≤ 100; omega, by show (0 : Int) ≤ (i : Int); omega, by show (i : Int) < (need : Int); omega, by show 1 ≤ pt.length; omega, by show pt.length ≤ 336; omega⟩
      have hLB : LeB ⟨J.sup.bo, J.se, pos + (i : Nat), lsn, (i : Nat), (need : Nat), pt⟩ := by
        refine ⟨⟨?_, ?_⟩, ⟨?_, ?_⟩, ⟨?_, ?_⟩, ⟨?_, ?_⟩, ⟨?_, ?_⟩, ⟨?_, ?_⟩⟩ <;> simp only <;> omega
      obtain ⟨v, S2, e2, a2, c2, L2, rfl, hs2', h2⟩ : Ok (evF E orcL (n + 3) (.fn 36) [.agg (erow ⟨J.sup.bo, J.se, pos + (i : Nat), lsn, (i : Nat), (need : Nat), pt⟩ a7 (min l6 ((i + 1) * 336) - i * 336) c7)] S) _ := putE_ok n (by omega) hLB h w7
      rw [callT_of (show evF E orcL (n + 3) (.fn 36) [.agg [.int .u64 J.sup.bo, .int .u64 J.se, .int .u64 (pos + (i : Nat)), .int .u64 lsn, .int .i64 (i : Nat), .int .i64 (need : Nat), .sl a7 (min l6 ((i + 1) * 336) - i * 336) c7]] S = _ from e2)]
      rw [show putE ⟨J.sup.bo, J.se, pos + (i : Nat), lsn, (i : Nat), (need : Nat), pt⟩ = encE ⟨J.sup.bo, J.se, pos + (i : Nat), lsn, (i : Nat), (need : Nat), pt⟩ by simp [putE, hok]] at hs2' ⊢
      refine ok_atL rfl (ok_atI rfl (ok_gO (ok_ldV h2 rfl ?_)))
      obtain ⟨hb1, hb2⟩ := blkP_lt (J := J) (p := pos + (i : Nat)) h6 (by omega)
      have h2j : Hp X S2 (C bj (jrow (dev sb) J ja J.l.length jc) :: Ll ++ (L2 ++ (Ls ++ G))) := h2.re (by intro p; simp only [List.countP_append, List.countP_cons, List.cons_append, C]; omega)
      rw [callI_of (show evF E orcL (n + 3) (.fn 37) [.ptr (some (.rw bj, 0)), .int .u64 (pos + (i : Nat))] S2 = _ from block_eq (n + 2) h6 h40 (by omega) (by omega) h2j hj')]
      refine ok_ldV h2 rfl (ok_true (by simp [AV.beq]) ?_)
      rw [nilV_dev]
      have h2s : Hp X S2 (Ls ++ (L2 ++ (C bj (jrow (dev sb) J ja J.l.length jc) :: Ll ++ G))) := h2.re (by intro p; simp only [List.countP_append, List.countP_cons, List.cons_append, C]; omega)
      refine ok_invWrite (n + 2) (by omega) (by rw [hSI.len]; omega) (encE_len (by show pt.length ≤ 336; omega)) hSI.f (by have := hSI.q; omega) hb h2s (slG_vw hs2' (fun e he => by simp [he])) (fun L3 S3 hb3 h3 => ok_gIk (ok_false rfl ?_))
      refine app_loop n0 n hn h6 h40 hne hK hbo hse hlsn hpos hv hs1 hs2 hsj fin m (i + 1) _ L3 S3 (by omega) (by omega) hb3 ⟨hSI.len, rfl, by have := hSI.q; simp; omega, fun e he => ?_⟩ ?_
      · rcases List.mem_append.1 he with he | he
        · exact hSI.r e he
        · simp only [List.mem_singleton] at he
          subst he
          have := hSI.len
          exact ⟨by show (0 : Int) ≤ (blkP J (pos + (i : Nat)) : Nat); omega, by show ((blkP J (pos + (i : Nat)) : Nat) : Int) < (t.s.length : Int); omega⟩
      · exact (h3.re (M := L2 ++ (L3 ++ (C bj (jrow (dev sb) J ja J.l.length jc) :: Ll ++ G))) (by intro p; simp only [List.countP_append, List.countP_cons, List.cons_append, C]; omega)).right
    · simp only [decide_eq_false_iff_not] at hc
      have : i = need := by omega
      subst this
      exact fin t Ls S hb hSI h

/-- What an append answers, and the journal behind it. -/
def JM.apE (J : JM) (p : List Pt) : Int := if okT p = true then (if (J.count : Int) - 2 - sumN J.l < needI p.length then 5 else 0) else 82
def JM.ap (J : JM) (p : List Pt) : JM := if J.apE p = 0 then { J with l := J.l ++ [⟨needI p.length, J.sup.bo, J.se + 1⟩], se := J.se + 1 } else J
theorem apE_iff {J : JM} {p : List Pt} : J.apE p = 0 ↔ okT p = true ∧ needI p.length ≤ (J.count : Int) - 2 - sumN J.l := by
  unfold JM.apE
  by_cases h : okT p = true
  · rw [if_pos h]
    by_cases h2 : (J.count : Int) - 2 - sumN J.l < needI p.length
    · rw [if_pos h2]
      constructor
      · intro h3; simp at h3
      · intro h3; omega
    · rw [if_neg h2]
      exact ⟨fun _ => ⟨h, by omega⟩, fun _ => rfl⟩
  · rw [if_neg h]
    constructor
    · intro h3; simp at h3
    · intro h3; exact absurd h3.1 h
theorem JI.ap {J : JM} {k : Nat} (h : JI J k) (hk : k + 40 ≤ 100000) {p : List Pt} : JI (J.ap p) (k + 40) := by
  unfold JM.ap
  split
  · rename_i he
    obtain ⟨h1, h2⟩ := apE_iff.1 he
    simp only [okT, Bool.and_eq_true, decide_eq_true_eq] at h1
    have h3 := needI_of (n := (p.length : Int)) (by omega) (by omega)
    obtain ⟨a1, a2, a3, a4, a5, a6, a7, a8, a9, a10, a11, a12, a13⟩ := h.up (m := k + 40) (by omega) hk
    have b4 := h.bo
    have b9 := h.se
    have h0 := sumN_ge fun o ho => (h.ol o ho).1
    refine ⟨a1, a2, a3, a4, a5, a6, a7, a8, ?_, ?_, fun o ho => ?_, ?_, a13⟩
    · show 0 ≤ J.se + 1 ∧ J.se + 1 ≤ ((k + 40 : Nat) : Int); omega
    · show J.sup.ls ≤ J.sy ∧ J.sy ≤ J.sup.ls + (J.l ++ [_]).length
      rw [List.length_append, List.length_singleton]; omega
    · rcases List.mem_append.1 ho with ho | ho
      · exact a11 o ho
      · simp only [List.mem_singleton] at ho
        subst ho
        refine ⟨?_, ?_, ?_, ?_, ?_, ?_⟩ <;> simp only <;> omega
    · show sumN (J.l ++ [_]) + 2 ≤ (J.count : Int)
      rw [sumN_snoc]
      show sumN J.l + needI p.length + 2 ≤ (J.count : Int)
      omega
  · exact h.up (by omega) hk

theorem append_ok (n : Nat) (hn : 1000010 < n) (hJ : JI J k) {K : Nat} (hK : K ≤ 900000) (hSI : SI t J.count K) {ps : List Pr} {pa : Option Pos} {pc : Cap} (h : Hp X S (Ls ++ (Lj ++ F))) (hj : JB bj sb J Lj) (hb : StB sb t Ls) (hr : RdR X F pa (prows ps).flatten) (hv : PsV X F ps) :
    Ok (ev (n + 4) (.fn 11) [.ptr (some (.rw bj, 0)), .sl pa ps.length pc] S) fun v S' => ∃ (x : Int) (t' : St) (L' Lj' : List Ent), v = .tup [.int .u64 x, .int .i64 (J.apE (pts ps))] ∧ StB sb t' L' ∧ SI t' J.count (K + 40) ∧ JB bj sb (J.ap (pts ps)) Lj' ∧ Hp X S' (L' ++ (Lj' ++ F)) := by
  have hln := hJ.lcount
  have q1 := hJ.g
  have q2 := hJ.bo
  have q3 := hJ.po
  have q4 := hJ.ls
  have q5 := hJ.se
  have q6 := hJ.k1
  have q7 := hJ.c40
  have q8 := hJ.rm
  have q9 := sumN_ge fun o ho => (hJ.ol o ho).1
  have hSI' : SI t J.count (K + 40) := ⟨hSI.len, hSI.f, by have := hSI.q; omega, hSI.r⟩
  rw [ev, F11 _ _ _ _ _ _ (oL rfl)]
  simp only [J11, b11_entry]
  refine ok_false rfl ?_
  obtain ⟨v, S1, e1, a1, c1, L1, rfl, hs1, h1⟩ : Ok (evF E orcL (n + 3) (.fn 33) [.sl pa ps.length pc] S) _ := putT_ok n (by omega) h (hr.mono (fun e he => by simp [he])) (hv.mono (fun e he => by simp [he]))
  rw [callT_of e1]
  refine ok_atL rfl (ok_atI rfl (ok_cond (fun cc => ?_) (fun cc => ?_)))
  · have hk : okT (pts ps) = false := by
      cases hk : okT (pts ps) with
      | false => rfl
      | true => rw [putTe, if_pos hk] at cc; exact absurd cc (by decide)
    have he : J.apE (pts ps) = 82 := by simp [JM.apE, hk]
    have he2 : J.ap (pts ps) = J := by rw [JM.ap, he, if_neg (by decide)]
    rw [he, he2, show putTe (pts ps) = 82 by simp [putTe, hk]]
    exact ok_ret ⟨0, t, Ls, Lj, rfl, hb, hSI', hj, h1.right⟩
  have hk : okT (pts ps) = true := by
    cases hk : okT (pts ps) with
    | true => rfl
    | false => rw [putTe, if_neg (by simp [hk])] at cc; exact absurd cc (by decide)
  have hk2 := hk
  simp only [okT, Bool.and_eq_true, decide_eq_true_eq, List.all_eq_true, pts_len] at hk2
  have hnd := needI_of (n := (ps.length : Int)) (by omega) (by omega)
  have hpl : (encT (pts ps)).length = 4 + 388 * ps.length := by rw [encT, List.length_append, be_len, encPs_len hk2.2, pts_len]
  rw [show putT (pts ps) = encT (pts ps) by simp [putT, hk]] at hs1 ⊢
  rw [callI_of (need_eq (n + 2) _ S1)]
  have h1j : Hp X S1 (Lj ++ (L1 ++ (Ls ++ F))) := h1.re (by intro p; simp only [List.countP_append]; omega)
  obtain ⟨v, S2, e2, rfl, h2⟩ : Ok (evF E orcL (n + 3) (.fn 34) [.ptr (some (.rw bj, 0))] S1) _ := next_ok (n + 2) (by omega) hJ h1j hj
  rw [callI_of e2, callI_of (show evF E orcL (n + 3) (.fn 29) [.ptr (some (.rw bj, 0))] S2 = _ from last_eq (n + 2) hJ h2 hj)]
  obtain ⟨v, S3, e3, rfl, h3⟩ : Ok (evF E orcL (n + 3) (.fn 17) [.ptr (some (.rw bj, 0))] S2) _ := room_ok (n + 2) (by omega) hJ h2 hj
  rw [callI_of e3]
  have h3s : Hp X S3 (Ls ++ (Lj ++ (L1 ++ F))) := h3.re (by intro p; simp only [List.countP_append]; omega)
  refine ok_cond (fun c2 => ?_) (fun c2 => ?_)
  · simp only [gt_iff_lt, decide_eq_true_eq] at c2
    have he : J.apE (pts ps) = 5 := by rw [JM.apE, if_pos hk, pts_len, if_pos c2]
    have he2 : J.ap (pts ps) = J := by rw [JM.ap, he, if_neg (by decide)]
    rw [he, he2]
    exact ok_ret ⟨0, t, Ls, Lj, rfl, hb, hSI', hj, h3s.sub (List.Sublist.append_left (List.Sublist.append_left (List.sublist_append_right L1 F) Lj) Ls)⟩
  simp only [gt_iff_lt, decide_eq_false_iff_not] at c2
  have he : J.apE (pts ps) = 0 := apE_iff.2 ⟨hk, by rw [pts_len]; omega⟩
  obtain ⟨ja, jc, Ll, hsj, rfl⟩ := hj
  refine ok_gO (ok_ldI h3s rfl ?_)
  rw [wu64 (n := J.sup.ls + (J.l.length : Nat) + 1) (by omega) (by omega), wu64 (n := J.se + 1) (by omega) (by omega), wu64 (n := needI (ps.length : Nat)) (by omega) (by omega), wu64 (n := J.sup.po + sumN J.l + needI (ps.length : Nat)) (by omega) (by omega)]
  refine ok_newA h3s (fun b15 S16 h16 => ?_)
  have rd : RdR X (C b15 [.int .u64 (J.sup.ls + (J.l.length : Nat) + 1), .int .u64 (J.se + 1), .int .u64 (J.sup.po + sumN J.l + needI (ps.length : Nat))] :: (Ls ++ (C bj (jrow (dev sb) J ja J.l.length jc) :: Ll ++ (L1 ++ F)))) (some (.rw b15, 0)) (([J.sup.ls + (J.l.length : Nat) + 1, J.se + 1, J.sup.po + sumN J.l + needI (ps.length : Nat)]).map (AV.int .u64)) := .rw (c := [.int .u64 (J.sup.ls + (J.l.length : Nat) + 1), .int .u64 (J.se + 1), .int .u64 (J.sup.po + sumN J.l + needI (ps.length : Nat))]) List.mem_cons_self (by simp) rfl
  rw [callB_of (show evF E orcL (n + 3) (.fn 35) [.sl (some (.rw b15, 0)) 3 (.ex 3)] S16 = _ from below_eq (n + 2) (by omega) rd h16 (by simp) rfl)]
  refine ok_false (by simp [mxB]; omega) (ok_gO (ok_ldI h16 rfl (ok_gO ?_)))
  rw [wu64 (n := J.se + 1) (by omega) (by omega)]
  refine ok_stn h16 (by simp [jrow]) (d := jrow (dev sb) { J with se := J.se + 1 } ja J.l.length jc) (by simp [splice, jrow]) (fun S22 h22 => ?_)
  obtain ⟨nd, hnd2⟩ : ∃ nd : Nat, needI (ps.length : Nat) = nd := ⟨(needI (ps.length : Nat)).toNat, by omega⟩
  rw [hnd2]
  have h22' : Hp X S22 (Ls ++ (C bj (jrow (dev sb) { J with se := J.se + 1 } ja J.l.length jc) :: Ll ++ (C b15 [.int .u64 (J.sup.ls + (J.l.length : Nat) + 1), .int .u64 (J.se + 1), .int .u64 (J.sup.po + sumN J.l + needI (ps.length : Nat))] :: (L1 ++ F)))) := h22.re (by intro p; simp only [List.countP_append, List.countP_cons, List.cons_append, C]; omega)
  have hj2 : JB bj sb { J with se := J.se + 1 } (C bj (jrow (dev sb) { J with se := J.se + 1 } ja J.l.length jc) :: Ll) := ⟨ja, jc, Ll, hsj, rfl⟩
  have hlen1 : (nd - 1) * 336 < (encT (pts ps)).length := by rw [hpl]; omega
  have hlen2 : (encT (pts ps)).length ≤ nd * 336 := by rw [hpl]; omega
  refine app_loop (J := { J with se := J.se + 1 }) (G := C b15 [.int .u64 (J.sup.ls + (J.l.length : Nat) + 1), .int .u64 (J.se + 1), .int .u64 (J.sup.po + sumN J.l + needI (ps.length : Nat))] :: (L1 ++ F)) (n + 3) n hn (need := nd) (K := K) (lsn := J.sup.ls + (J.l.length : Nat) + 1) (pos := J.sup.po + sumN J.l) hJ.c6 hJ.c40 (by omega) hK (by show 1 ≤ J.sup.bo ∧ J.sup.bo ≤ _; omega) (by show 1 ≤ J.se + 1 ∧ J.se + 1 ≤ _; omega) (by omega) (by omega) (slG_vw hs1 (fun e he => by simp [he])) hlen1 hlen2 hsj (fun t' L' S' hb' hSI2 h' => ?_) (n + 3) 0 t Ls S22 (by omega) (by omega) hb hSI h22'
  simp only [J11_j1_1_1_1_1_1_1_1_1, b11_j1_1_1_1_1_1_1_1_1]
  refine ok_drawA h' [17] (by simp) (by simp) (fun b41 S42 h42 => ?_)
  have h42' : Hp X S42 ((b41 + 17, none) :: (L' ++ (C bj (jrow (dev sb) { J with se := J.se + 1 } ja J.l.length jc) :: Ll ++ (C b15 [.int .u64 (J.sup.ls + (J.l.length : Nat) + 1), .int .u64 (J.se + 1), .int .u64 (J.sup.po + sumN J.l + needI (ps.length : Nat))] :: (L1 ++ F))))) := h42
  refine ok_gO (ok_ldL h42' rfl (ok_gO (ok_ldI h42' rfl (ok_gO (ok_ldI h42' rfl (ok_layA (b := b41 + 17) h42' (fun S49 h49 => ?_)))))))
  have h49' : Hp X S49 (Ll ++ (C (b41 + 17) (orow ⟨(nd : Int), J.sup.bo, J.se + 1⟩) :: C bj (jrow (dev sb) { J with se := J.se + 1 } ja J.l.length jc) :: (L' ++ F))) := (h49.re (M := C b15 [.int .u64 (J.sup.ls + (J.l.length : Nat) + 1), .int .u64 (J.se + 1), .int .u64 (J.sup.po + sumN J.l + needI (ps.length : Nat))] :: (L1 ++ (Ll ++ (C (b41 + 17) (orow ⟨(nd : Int), J.sup.bo, J.se + 1⟩) :: C bj (jrow (dev sb) { J with se := J.se + 1 } ja J.l.length jc) :: (L' ++ F))))) (by intro p; simp only [List.countP_append, List.countP_cons, List.cons_append, C, orow]; omega)).drop1.right
  refine ok_appendG h49' hsj (ys := orows [⟨(nd : Int), J.sup.bo, J.se + 1⟩]) (orows_all _) rfl (fun K => ?_) (by decide) (by simp [pow46]; omega) (by simp [pow46]; omega) (fun a3 l3 c3 S51 L3 ht' h51 => ?_)
  · have := RdR.first (.rw (X := X) (b := b41 + 17) (i := 0) (c := orow ⟨(nd : Int), J.sup.bo, J.se + 1⟩) (cs := orow ⟨(nd : Int), J.sup.bo, J.se + 1⟩) (L := _) (List.mem_append_right Ll List.mem_cons_self) (by simp) rfl) h49' (sz := 3) (n := 1) rfl (by decide) (l := 1) (c := .ex 1) K
    simpa [orows] using this
  · rw [← orows_append] at ht'
    have hJe : J.ap (pts ps) = { J with l := J.l ++ [⟨(nd : Int), J.sup.bo, J.se + 1⟩], se := J.se + 1 } := by rw [JM.ap, if_pos he, pts_len, hnd2]
    have hl3 : l3 = (J.ap (pts ps)).l.length := by have := ht'.len; rw [orows_len] at this; rw [hJe]; exact this
    rw [he]
    refine ok_gO (ok_stn h51 (by simp [jrow]) (d := jrow (dev sb) (J.ap (pts ps)) a3 (J.ap (pts ps)).l.length c3) (by rw [hJe]; simp [splice, jrow]; rw [hl3, hJe]; simp) (fun S53 h53 => ok_ret ⟨_, t', L', C bj (jrow (dev sb) (J.ap (pts ps)) a3 (J.ap (pts ps)).l.length c3) :: L3, rfl, hb', ⟨hSI2.len, hSI2.f, by have := hSI2.q; omega, hSI2.r⟩, ⟨a3, c3, L3, ?_, rfl⟩, ?_⟩))
    · rw [← hl3]
      rw [hJe]
      exact ht'
    · exact (h53.re (M := C (b41 + 17) (orow ⟨(nd : Int), J.sup.bo, J.se + 1⟩) :: (L' ++ (C bj (jrow (dev sb) (J.ap (pts ps)) a3 (J.ap (pts ps)).l.length c3) :: L3 ++ F))) (by intro p; simp only [List.countP_append, List.countP_cons, List.cons_append, C]; omega)).drop1

/-- Synced. -/
def JM.sync (J : JM) : JM := { J with sy := J.sup.ls + J.l.length }
theorem JI.sync {J : JM} {k : Nat} (h : JI J k) : JI J.sync k :=
  ⟨h.c6, h.c40, h.g, h.bo, h.po, h.ls, h.ab, h.as_, h.se, by show J.sup.ls ≤ J.sup.ls + (J.l.length : Nat) ∧ J.sup.ls + (J.l.length : Nat) ≤ J.sup.ls + (J.l.length : Nat); omega, h.ol, h.rm, h.k1⟩
theorem sync_ok (n : Nat) (hn : 1000010 < n) (hJ : JI J k) {K : Nat} (hK : K ≤ 1000000) (hSI : SI t J.count K) (h : Hp X S (Ls ++ (Lj ++ F))) (hj : JB bj sb J Lj) (hb : StB sb t Ls) :
    Ok (ev (n + 2) (.fn 14) [.ptr (some (.rw bj, 0))] S) fun v S' => v = .int .i64 0 ∧ ∃ (t' : St) (L' Lj' : List Ent), StB sb t' L' ∧ SI t' J.count 0 ∧ JB bj sb J.sync Lj' ∧ Hp X S' (L' ++ (Lj' ++ F)) := by
  have hj0 := hj
  obtain ⟨ja, jc, Ll, hsj, rfl⟩ := hj
  rw [ev, F14 _ _ _ (oL rfl)]
  simp only [J14, b14_entry]
  refine ok_false rfl (ok_gO (ok_ldV h rfl ?_))
  refine ok_invFlush n (by omega) hSI.r (by have := hSI.q; omega) hb h (fun L1 S1 hb1 h1 => ok_gIk (ok_true rfl ?_))
  have h1j : Hp X S1 (C bj (jrow (dev sb) J ja J.l.length jc) :: Ll ++ (L1 ++ F)) := h1.re (by intro p; simp only [List.countP_append, List.countP_cons, List.cons_append, C]; omega)
  rw [callI_of (show evF E orcL (n + 1) (.fn 29) [.ptr (some (.rw bj, 0))] S1 = _ from last_eq n hJ h1j hj0)]
  refine ok_gO (ok_stn h1 (by simp [jrow]) (d := jrow (dev sb) J.sync ja J.l.length jc) (by simp [splice, jrow, JM.sync]) (fun S2 h2 => ok_ret ⟨rfl, t.fl, L1, C bj (jrow (dev sb) J.sync ja J.l.length jc) :: Ll, hb1, ⟨?_, hSI.f, by simp [St.fl], fun e he => by cases he⟩, ⟨ja, jc, Ll, hsj, rfl⟩, h2⟩))
  rw [St.fl]; simp only [flS_len]; exact hSI.len

end

end Go.Jn
