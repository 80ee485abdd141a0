/- JournalPlays: the program's journal exactly: a transaction is read. -/
import Derived.Test.YtcepfilbiahdjaaJmC
set_option linter.unusedVariables false
set_option linter.unusedSimpArgs false
set_option maxRecDepth 4000
namespace Go.Jn.P
open Go.Gr Go.Jn
noncomputable def rdBody (call : CallA) (w0 : OP) (w1 : Int) (w2 : Int) (w4 : Int) (w8 : OP) (w11 : OP) (w14a : OP) (w14l : Nat) (w14c : Cap) (w15 : OP) (w16 : Int) (S : AS) (K : OP → Nat → Cap → Int → AS → RV) : RV :=
 gO w0 fun p7 =>
 ldV S p7.1 p7.2 fun v8 =>
 callI .i64 call 37 [(.ptr w0), (.int .u64 (IntKind.wrap .u64 (w1 + (IntKind.wrap .u64 w16))))] S fun v10 S9 =>
 ldV S9 p7.1 p7.2 fun v11 =>
 cond (AV.beq v11 v8) (
 nilV E v8 fun v12 =>
 invV E call v8 "Read" [(.int .i64 v10)] S9 fun v14 S13 =>
 Go.Gr.gT v14 fun v15 =>
 atL v15 0 fun v16a v16l v16c =>
 atI .i64 v15 1 fun v17 =>
 cond (v17 != 0) (
 gO w11 fun p19 =>
 S13.stn p19.1 p19.2 [(.int .i64 0), (.int .u64 0), (.int .u64 0)] fun S18 =>
 gO w11 fun p20 =>
 S18.ldn p20.1 p20.2 3 fun g21 =>
 some (.tup [(.sl none 0 (.ex 0)), (.agg g21), (.bool false), (.int .i64 v17)], S18)) (
 callT call 69 [(.sl v16a v16l v16c)] S13 fun v23 S22 =>
 atG 7 v23 0 fun g24 =>
 atI .i64 v23 1 fun v25 =>
 newA S22 (.cells [(.int .u64 0), (.int .u64 0), (.int .u64 0), (.int .u64 0), (.int .i64 0), (.int .i64 0), (.sl none 0 (.ex 0))]) fun b26 S27 =>
 ifO (g24.length = 7) <|
 S27.stn (.rw b26) 0 g24 fun S28 =>
 cond (v25 != 0) (
 gO w11 fun p30 =>
 S28.stn p30.1 p30.2 [(.int .i64 0), (.int .u64 0), (.int .u64 0)] fun S29 =>
 gO w11 fun p31 =>
 S29.ldn p31.1 p31.2 3 fun g32 =>
 some (.tup [(.sl none 0 (.ex 0)), (.agg g32), (.bool false), (.int .i64 0)], S29)) (
 ldI .u64 S28 (.rw b26) 2 fun v33 =>
 cond (v33 != (IntKind.wrap .u64 (w1 + (IntKind.wrap .u64 w16)))) (
 gO w11 fun p35 =>
 S28.stn p35.1 p35.2 [(.int .i64 0), (.int .u64 0), (.int .u64 0)] fun S34 =>
 gO w11 fun p36 =>
 S34.ldn p36.1 p36.2 3 fun g37 =>
 some (.tup [(.sl none 0 (.ex 0)), (.agg g37), (.bool false), (.int .i64 0)], S34)) (
 ldI .i64 S28 (.rw b26) 4 fun v38 =>
 cond (v38 != w16) (
 gO w11 fun p40 =>
 S28.stn p40.1 p40.2 [(.int .i64 0), (.int .u64 0), (.int .u64 0)] fun S39 =>
 gO w11 fun p41 =>
 S39.ldn p41.1 p41.2 3 fun g42 =>
 some (.tup [(.sl none 0 (.ex 0)), (.agg g42), (.bool false), (.int .i64 0)], S39)) (
 ldI .u64 S28 (.rw b26) 0 fun v43 =>
 ldI .u64 S28 (.rw b26) 1 fun v44 =>
 newA S28 (.cells [(.int .u64 0), (.int .u64 0)]) fun b45 S46 =>
 S46.stn (.rw b45) 0 [(.int .u64 v43), (.int .u64 v44)] fun S47 =>
 cond (w16 == 0) (
 ldI .u64 S47 (.rw b26) 3 fun v48 =>
 cond (v48 != w2) (
 gO w11 fun p50 =>
 S47.stn p50.1 p50.2 [(.int .i64 0), (.int .u64 0), (.int .u64 0)] fun S49 =>
 gO w11 fun p51 =>
 S49.ldn p51.1 p51.2 3 fun g52 =>
 some (.tup [(.sl none 0 (.ex 0)), (.agg g52), (.bool false), (.int .i64 0)], S49)) (
 ldI .u64 S47 (.rw b26) 0 fun v53 =>
 gO w0 fun p54 =>
 ldI .u64 S47 p54.1 (p54.2 + 3 + 1) fun v55 =>
 cond (decide (v53 > v55)) (
 gO w11 fun p57 =>
 S47.stn p57.1 p57.2 [(.int .i64 0), (.int .u64 0), (.int .u64 0)] fun S56 =>
 gO w11 fun p58 =>
 S56.ldn p58.1 p58.2 3 fun g59 =>
 some (.tup [(.sl none 0 (.ex 0)), (.agg g59), (.bool false), (.int .i64 0)], S56)) (
 S47.ldn (.rw b45) 0 2 fun g60 =>
 gO w8 fun p61 =>
 S47.ldn p61.1 p61.2 2 fun g62 =>
 callB call 70 [(.agg g60), (.agg g62)] S47 fun v64 S63 =>
 cond (!v64) (
 gO w11 fun p66 =>
 S63.stn p66.1 p66.2 [(.int .i64 0), (.int .u64 0), (.int .u64 0)] fun S65 =>
 gO w11 fun p67 =>
 S65.ldn p67.1 p67.2 3 fun g68 =>
 some (.tup [(.sl none 0 (.ex 0)), (.agg g68), (.bool false), (.int .i64 0)], S65)) (
 ldI .i64 S63 (.rw b26) 5 fun v69 =>
 cond (decide (v69 > w4)) (
 gO w11 fun p71 =>
 S63.stn p71.1 p71.2 [(.int .i64 0), (.int .u64 0), (.int .u64 0)] fun S70 =>
 gO w11 fun p72 =>
 S70.ldn p72.1 p72.2 3 fun g73 =>
 some (.tup [(.sl none 0 (.ex 0)), (.agg g73), (.bool false), (.int .i64 0)], S70)) (
 S63.ldn (.rw b26) 0 7 fun g74 =>
 gO w15 fun p76 =>
 ifO (g74.length = 7) <|
 S63.stn p76.1 p76.2 g74 fun S75 =>
 ldL S75 (.rw b26) 6 fun v77a v77l v77c =>
 appendA 1 1 S75 w14a w14l w14c v77l (firstA S75 1 v77l (.sl v77a v77l v77c)) fun v78a v78l v78c S79 =>
 K v78a v78l v78c (IntKind.wrap .i64 (w16 + 1)) S79))))) (
 S47.ldn (.rw b45) 0 2 fun g80 =>
 gO w15 fun p81 =>
 ldI .u64 S47 p81.1 p81.2 fun v82 =>
 gO w15 fun p83 =>
 ldI .u64 S47 p83.1 (p83.2 + 1) fun v84 =>
 aggNe ty85 g80 [(.int .u64 v82), (.int .u64 v84)] fun b85 =>
 cond b85 (
 gO w11 fun p87 =>
 S47.stn p87.1 p87.2 [(.int .i64 0), (.int .u64 0), (.int .u64 0)] fun S86 =>
 gO w11 fun p88 =>
 S86.ldn p88.1 p88.2 3 fun g89 =>
 some (.tup [(.sl none 0 (.ex 0)), (.agg g89), (.bool false), (.int .i64 0)], S86)) (
 ldI .u64 S47 (.rw b26) 3 fun v90 =>
 cond (v90 != w2) (
 gO w11 fun p92 =>
 S47.stn p92.1 p92.2 [(.int .i64 0), (.int .u64 0), (.int .u64 0)] fun S91 =>
 gO w11 fun p93 =>
 S91.ldn p93.1 p93.2 3 fun g94 =>
 some (.tup [(.sl none 0 (.ex 0)), (.agg g94), (.bool false), (.int .i64 0)], S91)) (
 ldI .i64 S47 (.rw b26) 5 fun v95 =>
 gO w15 fun p96 =>
 ldI .i64 S47 p96.1 (p96.2 + 5) fun v97 =>
 cond (v95 != v97) (
 gO w11 fun p99 =>
 S47.stn p99.1 p99.2 [(.int .i64 0), (.int .u64 0), (.int .u64 0)] fun S98 =>
 gO w11 fun p100 =>
 S98.ldn p100.1 p100.2 3 fun g101 =>
 some (.tup [(.sl none 0 (.ex 0)), (.agg g101), (.bool false), (.int .i64 0)], S98)) (
 ldL S47 (.rw b26) 6 fun v102a v102l v102c =>
 appendA 1 1 S47 w14a w14l w14c v102l (firstA S47 1 v102l (.sl v102a v102l v102c)) fun v103a v103l v103c S104 =>
 K v103a v103l v103c (IntKind.wrap .i64 (w16 + 1)) S104))))))))) none
noncomputable def rdFin (call : CallA) (w11 : OP) (w14a : OP) (w14l : Nat) (w14c : Cap) (w15 : OP) (S : AS) : RV :=
 callT call 71 [(.sl w14a w14l w14c)] S fun v206 S205 =>
 atL v206 0 fun v207a v207l v207c =>
 atI .i64 v206 1 fun v208 =>
 gO w15 fun p209 =>
 ldI .i64 S205 p209.1 (p209.2 + 5) fun v210 =>
 gO w15 fun p211 =>
 ldI .u64 S205 p211.1 p211.2 fun v212 =>
 gO w15 fun p213 =>
 ldI .u64 S205 p213.1 (p213.2 + 1) fun v214 =>
 gO w11 fun p216 =>
 S205.stn p216.1 p216.2 [(.int .i64 v210), (.int .u64 v212), (.int .u64 v214)] fun S215 =>
 gO w11 fun p217 =>
 S215.ldn p217.1 p217.2 3 fun g218 =>
 some (.tup [(.sl v207a v207l v207c), (.agg g218), (.bool (v208 == 0)), (.int .i64 0)], S215)
theorem rd_step (call : CallA) (n m : Nat) (w0 : OP) (w1 w2 w4 : Int) (w8 : OP) (w10a : OP) (w10l : Nat) (w10c : Cap) (w11 : OP) (w12 : Bool) (w13 : Int) (w14a : OP) (w14l : Nat) (w14c : Cap) (w15 : OP) (w16 : Int) (S : AS) :
 J54_lZAW call n (m + 1) w0 w1 w2 w4 w8 w10a w10l w10c w11 w12 w13 w14a w14l w14c w15 w16 S =
 cond (w16 == 0) (rdBody call w0 w1 w2 w4 w8 w11 w14a w14l w14c w15 w16 S (fun a l c i S => J54_lZAW call n m w0 w1 w2 w4 w8 w10a w10l w10c w11 w12 w13 a l c w15 i S))
  (gO w15 fun p105 => ldI .i64 S p105.1 (p105.2 + 5) fun v106 => cond (decide (w16 < v106)) (rdBody call w0 w1 w2 w4 w8 w11 w14a w14l w14c w15 w16 S (fun a l c i S => J54_lZAW call n m w0 w1 w2 w4 w8 w10a w10l w10c w11 w12 w13 a l c w15 i S)) (rdFin call w11 w14a w14l w14c w15 S)) := by
 rw [J54_lZAW_succ]; rfl
abbrev zone : List AV := [.int .i64 0, .int .u64 0, .int .u64 0]
abbrev hd0 : Le := ⟨0, 0, 0, 0, 0, 0, []⟩
def ckF (J : JM) (i : Nat) (hd : Le) (lsn ab as_ room : Int) (x : Le) : Bool :=
 if i = 0 then hdOk J x lsn ab as_ room else decide (x.pa = (i : Nat)) && (decide (x.bo = hd.bo) && decide (x.se = hd.se)) && decide (x.ls = lsn) && decide (x.ps = hd.ps)
def enF (t : St) (J : JM) (p : Int) (i : Nat) (hd : Le) (lsn ab as_ room : Int) : Option Le := match enR t J (p + (i : Nat)) with
 | some x => if ckF J i hd lsn ab as_ room x = true then some x else none
 | none => none
section
variable {X : Cx} {S : AS} {L F Lj Ls : List Ent} {b bj sb : Nat} {Q : AV → AS → Prop} {J : JM} {k : Nat} {t : St}
theorem above_ok (n : Nat) {a b c d : Int} (h : Hp X S F) : Ok (ev (n + 1) (.fn 70) [.agg [.int .u64 a, .int .u64 b], .agg [.int .u64 c, .int .u64 d]] S) fun v S' => v = .bool (decide (c < a) || (decide (a = c) && decide (d < b))) ∧ Hp X S' F := by
 rw [ev, F70 _ _ _ _ (oL rfl)]
 simp only [J70, b70_entry]
 refine ok_ifO rfl (ok_newA h (fun b1 S1 h1 => ok_ifO rfl (ok_newA h1 (fun b3 S3 h3 => ok_ldI h3 rfl (ok_ldI h3 rfl (ok_cond (fun c1 => ?_) (fun c1 => ?_)))))))
 ·simp only [gt_iff_lt, decide_eq_true_eq] at c1
  exact ok_ret ⟨by simp [c1], h3.drop1.drop1⟩
 ·simp only [gt_iff_lt, decide_eq_false_iff_not] at c1
  refine ok_ldI h3 rfl (ok_ldI h3 rfl (ok_cond (fun c2 => ?_) (fun c2 => ?_)))
  ·simp only [beq_iff_eq] at c2
   exact ok_ldI h3 rfl (ok_ldI h3 rfl (ok_ret ⟨by simp [c1, c2], h3.drop1.drop1⟩))
  ·simp only [beq_eq_false_iff_ne, ne_eq] at c2
   exact ok_ret ⟨by simp [c1, c2], h3.drop1.drop1⟩
theorem stampNe (a b c d : Int) (K : Bool → RV) : aggNe ty85 [.int .u64 a, .int .u64 b] [.int .u64 c, .int .u64 d] K = K (!(decide (a = c) && decide (b = d))) := by
 have e : ∀ (x y : Int), AV.beq (.int .u64 x) (.int .u64 y) = decide (x = y) := fun x y => by
  have := beq_scal (x := .int .u64 x) (y := .int .u64 y) trivial
  by_cases hxy : x = y
  ·subst hxy; rw [decide_eq_true rfl]; exact this.2 rfl
  ·rw [decide_eq_false hxy]
   cases hb : AV.beq (.int .u64 x) (.int .u64 y) with
   | false => rfl
   | true => have := this.1 hb; injection this with _ h; exact absurd h hxy
 have h1 : fitZ ty85.zero [.int .u64 a, .int .u64 b] = true := rfl
 have h2 : fitZ ty85.zero [.int .u64 c, .int .u64 d] = true := rfl
 have h3 : AV.beqs [.int .u64 a, .int .u64 b] [.int .u64 c, .int .u64 d] = (decide (a = c) && decide (b = d)) := by
  simp only [AV.beqs, e, Bool.and_true]
 have h4 : ty85.plain = true := rfl
 simp only [aggNe, h1, h2, h3, h4, cond_true, if_true]
theorem by_push {s y : List UInt8} {a ya : OP} {c yc : Cap} {La : List Ent} {K : OP → Nat → Cap → AS → RV} (h1 : s.length + y.length ≤ 1000000) (hs : SlG a s.length c 1 (bxs s) La) (h : Hp X S (La ++ F)) (hy : Vw X F ya y.length yc y)
 (ht : ∀ a' c' L' S', SlG a' (s ++ y).length c' 1 (bxs (s ++ y)) L' → Hp X S' (L' ++ F) → Ok (K a' (s ++ y).length c' S') Q) : Ok (appendA 1 1 S a s.length c y.length (firstA S 1 y.length (.sl ya y.length yc)) K) Q := by
 refine ok_appendG h hs (ys := bxs y) (bxs_all _) (by simp) (fun K => ?_) (by decide) (by simp [pow46]; omega) (by simp [pow46]; omega) (fun a3 l3 c3 S3 L3 ht' h3 => ?_)
 ·have hy' : RdR X (La ++ F) ya (ofBytes y) := hy.r.mono (fun e he => by simp [he])
  have := RdR.first hy' h (sz := 1) (n := y.length) (by simp) (by decide) (l := y.length) (c := yc) K
  rw [bxs_flat]; exact this
 ·have e : bxs s ++ bxs y = bxs (s ++ y) := by simp [bxs, ofBytes]
  rw [e] at ht'
  obtain rfl : l3 = (s ++ y).length := by have := ht'.len; rw [bxs_len] at this; exact this
  exact ht _ _ _ _ ht' h3
theorem body_ok (n : Nat) (hn : 1000010 < n) {N K : Nat} (hSI : SI t N K) (hK : K ≤ 1000000) (hSK : SK k t) (h6 : 6 ≤ J.count) (hff : J.first + J.count ≤ 40) (hN : J.first + J.count ≤ N) {p : Int} (hp : 0 ≤ p ∧ p ≤ 100000000) {i : Nat} (hi : i ≤ 200) (hb : StB sb t Ls) {lsn ab as_ room : Int} {hd : Le} {ha : OP} {hl : Nat} {hc : Cap} {s : List UInt8} (hsl : s.length ≤ 900000) {pa : OP} {pc : Cap} {Lp : List Ent} (hsp : SlG pa s.length pc 1 (bxs s) Lp) {ja : OP} {jc : Cap} {Ll : List Ent} (hsj : SlG ja J.l.length jc 3 (orows J.l) Ll) {b1 b3 b5 : Nat} {Kk : OP → Nat → Cap → Int → AS → RV}
 (h : Hp X S (Lp ++ (C b5 (erow hd ha hl hc) :: C b3 zone :: C b1 [.int .u64 ab, .int .u64 as_] :: (Ls ++ (C bj (jrow (dev sb) J ja J.l.length jc) :: Ll ++ F)))))
 (good : ∀ x, enF t J p i hd lsn ab as_ room = some x → ∀ (S' : AS) (pa' : OP) (pc' : Cap) (Lp' : List Ent) (ha' : OP) (hl' : Nat) (hc' : Cap), SlG pa' (s ++ x.by_).length pc' 1 (bxs (s ++ x.by_)) Lp' → Hp X S' (Lp' ++ (C b5 (erow (if i = 0 then x else hd) ha' hl' hc') :: C b3 zone :: C b1 [.int .u64 ab, .int .u64 as_] :: (Ls ++ (C bj (jrow (dev sb) J ja J.l.length jc) :: Ll ++ F)))) → Ok (Kk pa' (s ++ x.by_).length pc' ((i + 1 : Nat) : Int) S') Q)
 (bad : enF t J p i hd lsn ab as_ room = none → ∀ S', Hp X S' (Ls ++ (C bj (jrow (dev sb) J ja J.l.length jc) :: Ll ++ F)) → Ok (some (.tup [.sl none 0 (.ex 0), .agg zone, .bool false, .int .i64 0], S')) Q) :
 Ok (rdBody (evF E orcL (n + 5)) (some (.rw bj, 0)) p lsn room (some (.rw b1, 0)) (some (.rw b3, 0)) pa s.length pc (some (.rw b5, 0)) i S Kk) Q := by
 unfold rdBody
 refine ok_gO (ok_ldV h rfl ?_)
 have hbl := blkP_lt (J := J) (p := p + (i : Nat)) h6 (by omega)
 rw [show IntKind.wrap .u64 (p + IntKind.wrap .u64 ((i : Nat) : Int)) = p + (i : Nat) by rw [wu64 (n := ((i : Nat) : Int)) (by omega) (by omega), wu64 (by omega) (by omega)]]
 have hjb : Hp X S (C bj (jrow (dev sb) J ja J.l.length jc) :: Ll ++ (Lp ++ (C b5 (erow hd ha hl hc) :: C b3 zone :: C b1 [.int .u64 ab, .int .u64 as_] :: (Ls ++ F)))) := h.re (by intro p; simp only [List.countP_append, List.countP_cons, List.countP_nil, List.nil_append, List.cons_append, C, zone]; omega)
 rw [callI_of (show evF E orcL (n + 5) (.fn 37) [.ptr (some (.rw bj, 0)), .int .u64 (p + (i : Nat))] S = _ from block_eq (n + 4) h6 hff (by omega) (by omega) hjb ⟨ja, jc, Ll, hsj, rfl⟩)]
 refine ok_ldV h rfl (ok_true (by simp [AV.beq]) ?_)
 rw [nilV_dev]
 have hs : Hp X S (Ls ++ (Lp ++ (C b5 (erow hd ha hl hc) :: C b3 zone :: C b1 [.int .u64 ab, .int .u64 as_] :: (C bj (jrow (dev sb) J ja J.l.length jc) :: Ll ++ F)))) := h.re (by intro p; simp only [List.countP_append, List.countP_cons, List.countP_nil, List.nil_append, List.cons_append, C, zone]; omega)
 refine rd_ok1 (n + 4) (by omega) hSI hK hSK (x := blkP J (p + (i : Nat))) rfl (by omega) hb hs (fun a6 c6 L6 S6 hs6 h6' => ?_)
 refine ok_gT (ok_atL rfl (ok_atI rfl (ok_false rfl ?_)))
 obtain ⟨v, S7, e7, a7, c7, L7, rfl, hv7, h7⟩ : Ok (evF E orcL (n + 5) (.fn 69) [.sl a6 (t.rd (blkP J (p + (i : Nat)))).length c6] S6) _ := getE_ok (n + 1) (by omega) h6' (slG_vw hs6 (fun e he => by simp [he]))
 rw [callT_of e7]
 refine ok_atG rfl rfl (ok_atI rfl (ok_newA h7 (fun b8 S8 h8 => ok_ifO rfl (ok_stn h8 (by simp [erow]) (d := erow (getE (t.rd (blkP J (p + (i : Nat))))) a7 (getE (t.rd (blkP J (p + (i : Nat))))).by_.length c7) (by simp [splice, erow]) (fun S9 h9 => ?_)))))
 have hok : goodE (t.rd (blkP J (p + (i : Nat)))) = true → (decE (t.rd (blkP J (p + (i : Nat))))).by_.length ≤ 336 := fun hg => by
  simp only [goodE, Bool.and_eq_true] at hg
  exact ((okE_iff _).1 hg.1.2).2.2.2.2.2.2.2.2.2.2.2.2
 have hge : goodE (t.rd (blkP J (p + (i : Nat)))) = true → (getE (t.rd (blkP J (p + (i : Nat))))) = decE (t.rd (blkP J (p + (i : Nat)))) := fun hg => by simp [getE, hg]
 have hek : getEe (t.rd (blkP J (p + (i : Nat)))) = 0 ↔ goodE (t.rd (blkP J (p + (i : Nat)))) = true := by
  unfold getEe; split <;> simp_all
 have henR : goodE (t.rd (blkP J (p + (i : Nat)))) = true → (getE (t.rd (blkP J (p + (i : Nat))))).po = p + (i : Nat) → enR t J (p + (i : Nat)) = some (getE (t.rd (blkP J (p + (i : Nat))))) := fun hg hpo => by
  rw [enR, if_pos ⟨hg, by rw [← hge hg]; exact hpo⟩, hge hg]
 have henN : ¬ (goodE (t.rd (blkP J (p + (i : Nat)))) = true ∧ (getE (t.rd (blkP J (p + (i : Nat))))).po = p + (i : Nat)) → enR t J (p + (i : Nat)) = none := fun hx => by
  rw [enR, if_neg (fun h => hx ⟨h.1, by rw [hge h.1]; exact h.2⟩)]
 have hokx : goodE (t.rd (blkP J (p + (i : Nat)))) = true → (getE (t.rd (blkP J (p + (i : Nat))))).by_.length ≤ 336 := fun hg => by rw [hge hg]; exact hok hg
 clear hok hge
 generalize (getE (t.rd (blkP J (p + (i : Nat))))) = x at *
 have h9' : Hp X S9 (Lp ++ (C b8 (erow x a7 x.by_.length c7) :: C b5 (erow hd ha hl hc) :: C b3 zone :: C b1 [.int .u64 ab, .int .u64 as_] :: (Ls ++ (C bj (jrow (dev sb) J ja J.l.length jc) :: Ll ++ (L7 ++ (L6 ++ F)))))) := h9.re (by intro p; simp only [List.countP_append, List.countP_cons, List.countP_nil, List.nil_append, List.cons_append, C, zone]; omega)
 clear h9 h8 h7 h6' hs hjb h
 have hv : ∀ M : List Ent, Vw X (M ++ (L7 ++ (L6 ++ F))) a7 x.by_.length c7 x.by_ := fun M => hv7.mono (fun e he => by simp [he])
 have quit : ∀ (S' : AS) (M' : List Ent), enF t J p i hd lsn ab as_ room = none → Hp X S' (M' ++ (Lp ++ (C b8 (erow x a7 x.by_.length c7) :: C b5 (erow hd ha hl hc) :: C b3 zone :: C b1 [.int .u64 ab, .int .u64 as_] :: (Ls ++ (C bj (jrow (dev sb) J ja J.l.length jc) :: Ll ++ (L7 ++ (L6 ++ F))))))) → Ok (gO (some (Bid.rw b3, 0)) fun p30 => S'.stn p30.1 p30.2 [(.int .i64 0), (.int .u64 0), (.int .u64 0)] fun S29 => gO (some (Bid.rw b3, 0)) fun p31 => S29.ldn p31.1 p31.2 3 fun g32 => some (.tup [(.sl none 0 (.ex 0)), (.agg g32), (.bool false), (.int .i64 0)], S29)) Q := fun S' M' he hh =>
  ok_gO (ok_stn hh (by simp) (d := zone) (by simp [splice]) (fun S29 h29 => ok_gO (ok_ldn h29 (by simp) (d := zone) rfl (bad he S29 ((h29.re (M := (M' ++ (Lp ++ (C b8 (erow x a7 x.by_.length c7) :: C b5 (erow hd ha hl hc) :: C b3 zone :: C b1 [.int .u64 ab, .int .u64 as_] :: (L7 ++ L6)))) ++ (Ls ++ (C bj (jrow (dev sb) J ja J.l.length jc) :: Ll ++ F))) (by intro p; simp only [List.countP_append, List.countP_cons, List.cons_append, C, zone]; omega)).right)))))
 have ne : enR t J (p + (i : Nat)) = none → enF t J p i hd lsn ab as_ room = none := fun he => by simp [enF, he]
 refine ok_cond (fun cg => quit _ [] (ne (henN (fun hx => by rw [hek.2 hx.1] at cg; exact absurd cg (by decide)))) h9') (fun cg => ?_)
 have hg : goodE (t.rd (blkP J (p + (i : Nat)))) = true := hek.1 (by simpa using cg)
 refine ok_ldI h9' rfl (ok_cond (fun c1 => quit _ [] (ne (henN (fun hx => by simp only [bne_iff_ne, ne_eq] at c1; exact c1 hx.2))) h9') (fun c1 => ?_))
 simp only [bne_eq_false_iff_eq] at c1
 have hen := henR hg c1
 have nf : ckF J i hd lsn ab as_ room x = false → enF t J p i hd lsn ab as_ room = none := fun he => by simp [enF, hen, he]
 have nt : ckF J i hd lsn ab as_ room x = true → enF t J p i hd lsn ab as_ room = some x := fun he => by simp [enF, hen, he]
 refine ok_ldI h9' rfl (ok_cond (fun c2 => quit _ [] (nf (by
  simp only [bne_iff_ne, ne_eq] at c2
  unfold ckF hdOk
  split
  ·rename_i hi0; subst hi0; simp at c2; simp [c2]
  ·simp [c2])) h9') (fun c2 => ?_))
 simp only [bne_eq_false_iff_eq] at c2
 refine ok_ldI h9' rfl (ok_ldI h9' rfl (ok_newA h9' (fun b45 S46 h46 => ok_stn h46 (by simp) (d := [.int .u64 x.bo, .int .u64 x.se]) (by simp [splice]) (fun S47 h47 => ?_))))
 have go : ∀ (S75 : AS) (M : List Ent) (ha' : OP) (hl' : Nat) (hc' : Cap), ckF J i hd lsn ab as_ room x = true → Hp X S75 (Lp ++ (C b8 (erow x a7 x.by_.length c7) :: (M ++ (C b5 (erow (if i = 0 then x else hd) ha' hl' hc') :: C b3 zone :: C b1 [.int .u64 ab, .int .u64 as_] :: (Ls ++ (C bj (jrow (dev sb) J ja J.l.length jc) :: Ll ++ (L7 ++ (L6 ++ F)))))))) → Ok (ldL S75 (.rw b8) 6 fun v77a v77l v77c => appendA 1 1 S75 pa s.length pc v77l (firstA S75 1 v77l (.sl v77a v77l v77c)) fun v78a v78l v78c S79 => Kk v78a v78l v78c (IntKind.wrap .i64 (((i : Nat) : Int) + 1)) S79) Q := fun S75 M ha' hl' hc' he h75 => by
  refine ok_ldL h75 rfl (by_push (by have := hokx hg; omega) hsp h75 (hv7.mono (fun e he => by simp [he])) (fun a' c' L' S' hs' h' => ?_))
  rw [wn (x := ((i : Nat) : Int) + 1) (n := i + 1) (by omega) (by omega)]
  refine good x (nt he) S' a' c' L' ha' hl' hc' hs' ?_
  exact (h'.re (M := (C b8 (erow x a7 x.by_.length c7) :: (M ++ (L7 ++ L6))) ++ (L' ++ (C b5 (erow (if i = 0 then x else hd) ha' hl' hc') :: C b3 zone :: C b1 [.int .u64 ab, .int .u64 as_] :: (Ls ++ (C bj (jrow (dev sb) J ja J.l.length jc) :: Ll ++ F))))) (by intro p; simp only [List.countP_append, List.countP_cons, List.cons_append, C, zone]; omega)).right
 refine ok_cond (fun ci => ?_) (fun ci => ?_)
 ·simp only [beq_iff_eq] at ci
  have hi0 : i = 0 := by omega
  have hck : ckF J i hd lsn ab as_ room x = hdOk J x lsn ab as_ room := by rw [ckF, if_pos hi0]
  refine ok_ldI h47 rfl (ok_cond (fun c3 => quit _ [C b45 [.int .u64 x.bo, .int .u64 x.se]] (nf (by rw [hck]; simp only [bne_iff_ne, ne_eq] at c3; simp [hdOk, c3])) h47) (fun c3 => ?_))
  simp only [bne_eq_false_iff_eq] at c3
  refine ok_ldI h47 rfl (ok_gO (ok_ldI h47 rfl (ok_cond (fun c4 => quit _ [C b45 [.int .u64 x.bo, .int .u64 x.se]] (nf (by rw [hck]; simp only [gt_iff_lt, decide_eq_true_eq] at c4; simp [hdOk, show ¬ x.bo ≤ J.sup.bo by omega])) h47) (fun c4 => ?_))))
  simp only [gt_iff_lt, decide_eq_false_iff_not] at c4
  refine ok_ldn h47 (by simp) (d := [.int .u64 x.bo, .int .u64 x.se]) rfl (ok_gO (ok_ldn h47 (by simp) (d := [.int .u64 ab, .int .u64 as_]) rfl ?_))
  obtain ⟨v, S63, e63, rfl, h63⟩ : Ok (evF E orcL (n + 5) (.fn 70) [.agg [.int .u64 x.bo, .int .u64 x.se], .agg [.int .u64 ab, .int .u64 as_]] S47) _ := above_ok (n + 4) h47
  rw [callB_of e63]
  refine ok_cond (fun c5 => quit _ [C b45 [.int .u64 x.bo, .int .u64 x.se]] (nf (by rw [hck]; rw [Bool.not_eq_true'] at c5; simp only [hdOk, c5, Bool.and_false, Bool.false_and])) h63) (fun c5 => ?_)
  rw [Bool.not_eq_false'] at c5
  refine ok_ldI h63 rfl (ok_cond (fun c6 => quit _ [C b45 [.int .u64 x.bo, .int .u64 x.se]] (nf (by rw [hck]; simp only [gt_iff_lt, decide_eq_true_eq] at c6; simp [hdOk, show ¬ x.ps ≤ room by omega])) h63) (fun c6 => ?_))
  simp only [gt_iff_lt, decide_eq_false_iff_not] at c6
  have hall : ckF J i hd lsn ab as_ room x = true := by
   rw [hck]
   simp only [hdOk, c5, Bool.and_true, Bool.and_eq_true, decide_eq_true_eq]
   exact ⟨⟨⟨by rw [c2]; omega, c3⟩, by omega⟩, by omega⟩
  refine ok_ldn h63 (by simp [erow]) (d := erow x a7 x.by_.length c7) rfl (ok_gO (ok_ifO rfl (ok_stn h63 (by simp [erow]) (d := erow x a7 x.by_.length c7) (by simp [splice, erow]) (fun S75 h75 => ?_))))
  refine go S75 [C b45 [.int .u64 x.bo, .int .u64 x.se]] a7 x.by_.length c7 hall ?_
  rw [if_pos hi0]
  exact h75.re (by intro p; simp only [List.countP_append, List.countP_cons, List.countP_nil, List.nil_append, List.cons_append, C, zone]; omega)
 ·simp only [beq_eq_false_iff_ne, ne_eq] at ci
  have hi0 : ¬ i = 0 := by omega
  have hck : ckF J i hd lsn ab as_ room x = (decide (x.pa = (i : Nat)) && (decide (x.bo = hd.bo) && decide (x.se = hd.se)) && decide (x.ls = lsn) && decide (x.ps = hd.ps)) := by rw [ckF, if_neg hi0]
  refine ok_ldn h47 (by simp) (d := [.int .u64 x.bo, .int .u64 x.se]) rfl (ok_gO (ok_ldI h47 rfl (ok_gO (ok_ldI h47 rfl ?_))))
  rw [stampNe]
  refine ok_cond (fun c3 => quit _ [C b45 [.int .u64 x.bo, .int .u64 x.se]] (nf (by rw [hck]; rw [Bool.not_eq_true'] at c3; simp only [c3, Bool.and_false, Bool.false_and])) h47) (fun c3 => ?_)
  rw [Bool.not_eq_false'] at c3
  refine ok_ldI h47 rfl (ok_cond (fun c4 => quit _ [C b45 [.int .u64 x.bo, .int .u64 x.se]] (nf (by rw [hck]; simp only [bne_iff_ne, ne_eq] at c4; simp [c4])) h47) (fun c4 => ?_))
  simp only [bne_eq_false_iff_eq] at c4
  refine ok_ldI h47 rfl (ok_gO (ok_ldI h47 rfl (ok_cond (fun c5 => quit _ [C b45 [.int .u64 x.bo, .int .u64 x.se]] (nf (by rw [hck]; simp only [bne_iff_ne, ne_eq] at c5; simp [c5])) h47) (fun c5 => ?_))))
  simp only [bne_eq_false_iff_eq] at c5
  have hall : ckF J i hd lsn ab as_ room x = true := by
   rw [hck]
   simp only [c3, c4, c5, c2, decide_true, Bool.and_true]
  refine go S47 [C b45 [.int .u64 x.bo, .int .u64 x.se]] ha hl hc hall ?_
  rw [if_neg hi0]
  exact h47.re (by intro p; simp only [List.countP_append, List.countP_cons, List.countP_nil, List.nil_append, List.cons_append, C, zone]; omega)
theorem enR_ok {p : Int} {x : Le} (h : enR t J p = some x) : okE x = true := by
 unfold enR at h
 split at h
 ·rename_i hg
  injection h with h
  rw [← h]
  have := hg.1
  simp only [goodE, Bool.and_eq_true] at this
  exact this.1.2
 ·cases h
theorem enF_some {p : Int} {i : Nat} {hd x : Le} {lsn ab as_ room : Int} (h : enF t J p i hd lsn ab as_ room = some x) : enR t J (p + (i : Nat)) = some x ∧ ckF J i hd lsn ab as_ room x = true := by
 unfold enF at h
 cases he : enR t J (p + (i : Nat)) with
 | none => rw [he] at h; cases h
 | some y =>
   rw [he] at h
   simp only at h
   split at h
   ·rename_i hc; injection h with h; subst h; exact ⟨rfl, hc⟩
   ·cases h
def rdE (hd : Le) : Option (List UInt8) → Option (List Pt × One)
 | some s => if goodT s = true then some (listT s, ⟨hd.ps, hd.bo, hd.se⟩) else none
 | none => none
abbrev RdQ (X : Cx) (F : List Ent) (r : Option (List Pt × One)) : AV → AS → Prop := fun v S' =>
 (∀ tx o, r = some (tx, o) → ∃ (qs : List Pr) (a : OP) (c : Cap) (Lr Ld : List Ent), v = .tup [.sl a qs.length c, .agg (orow o), .bool true, .int .i64 0] ∧ pts qs = tx ∧ SlG a qs.length c 2 (prows qs) Lr ∧ PsV X Ld qs ∧ Hp X S' (Lr ++ (Ld ++ F))) ∧
 (r = none → ∃ (a : OP) (l : Nat) (c : Cap) (o : One), v = .tup [.sl a l c, .agg (orow o), .bool false, .int .i64 0] ∧ Hp X S' F)
theorem rdTx_eq {p lsn ab as_ room : Int} : rdTx t J p lsn ab as_ room = match enF t J p 0 hd0 lsn ab as_ room with
 | some h => rdE h (rdPs t J p h (h.ps.toNat - 1) 1 h.by_)
 | none => none := by
 unfold rdTx enF
 rw [show p + ((0 : Nat) : Int) = p by omega]
 cases enR t J p with
 | none => rfl
 | some x =>
   simp only [ckF, if_true]
   by_cases hk : hdOk J x lsn ab as_ room = true
   ·simp only [hk, if_true]
    cases rdPs t J p x (x.ps.toNat - 1) 1 x.by_ <;> rfl
   ·simp only [hk]; rfl
theorem rdPs_eq {p : Int} {h : Le} {r i : Nat} {s : List UInt8} {lsn ab as_ room : Int} (hi : i ≠ 0) (hl : h.ls = lsn) : rdPs t J p h (r + 1) i s = match enF t J p i h lsn ab as_ room with
 | some x => rdPs t J p h r (i + 1) (s ++ x.by_)
 | none => none := by
 rw [rdPs]
 unfold enF
 cases enR t J (p + (i : Nat)) with
 | none => rfl
 | some x =>
   simp only [ckF, if_neg hi]
   by_cases hk : x.pa = (i : Nat) ∧ x.bo = h.bo ∧ x.se = h.se ∧ x.ls = h.ls ∧ x.ps = h.ps
   ·obtain ⟨k1, k2, k3, k4, k5⟩ := hk
    rw [if_pos ⟨k1, k2, k3, k4, k5⟩]
    simp [k1, k2, k3, k4, k5, hl]
   ·rw [if_neg hk]
    have : (decide (x.pa = (i : Nat)) && (decide (x.bo = h.bo) && decide (x.se = h.se)) && decide (x.ls = lsn) && decide (x.ps = h.ps)) = false := by
     cases hb : (decide (x.pa = (i : Nat)) && (decide (x.bo = h.bo) && decide (x.se = h.se)) && decide (x.ls = lsn) && decide (x.ps = h.ps)) with
     | false => rfl
     | true =>
       simp only [Bool.and_eq_true, decide_eq_true_eq] at hb
       exact absurd ⟨hb.1.1.1, hb.1.1.2.1, hb.1.1.2.2, by rw [hl]; exact hb.1.2, hb.2⟩ hk
    simp [this]
theorem rd_loop (n0 n : Nat) (hn : 1000010 < n) {N K : Nat} (hSI : SI t N K) (hK : K ≤ 1000000) (hSK : SK k t) (h6 : 6 ≤ J.count) (hff : J.first + J.count ≤ 40) (hN : J.first + J.count ≤ N) {p : Int} (hp : 0 ≤ p ∧ p ≤ 100000000) (hb : StB sb t Ls) {lsn ab as_ room : Int} {hd : Le} {P : Nat} (hP : hd.ps = (P : Nat)) (hP2 : P ≤ 100) (hls : hd.ls = lsn) {ja : OP} {jc : Cap} {Ll : List Ent} (hsj : SlG ja J.l.length jc 3 (orows J.l) Ll) {b1 b3 b5 : Nat} :
 ∀ (m i : Nat) (s : List UInt8) (pa : OP) (pc : Cap) (Lp : List Ent) (ha : OP) (hl : Nat) (hc : Cap) (S : AS), 1 ≤ i → i ≤ P → P - i < m → s.length ≤ 336 * i → SlG pa s.length pc 1 (bxs s) Lp →
   Hp X S (Lp ++ (C b5 (erow hd ha hl hc) :: C b3 zone :: C b1 [.int .u64 ab, .int .u64 as_] :: (Ls ++ (C bj (jrow (dev sb) J ja J.l.length jc) :: Ll ++ F)))) →
   Ok (J54_lZAW (evF E orcL (n + 5)) n0 m (some (.rw bj, 0)) p lsn room (some (.rw b1, 0)) none 0 (.ex 0) (some (.rw b3, 0)) false 0 pa s.length pc (some (.rw b5, 0)) i S) (RdQ X (Ls ++ (C bj (jrow (dev sb) J ja J.l.length jc) :: Ll ++ F)) (rdE hd (rdPs t J p hd (P - i) i s)))
 | 0, i, s, pa, pc, Lp, ha, hl, hc, S, h1, h2, h3, h4, hsp, h => by omega
 | m + 1, i, s, pa, pc, Lp, ha, hl, hc, S, h1, h2, h3, h4, hsp, h => by
   rw [rd_step]
   refine ok_false (by simp; omega) (ok_gO (ok_ldI h rfl (ok_cond (fun cc => ?_) (fun cc => ?_))))
   ·simp only [decide_eq_true_eq] at cc
    rw [hP] at cc
    have hr : P - i = (P - (i + 1)) + 1 := by omega
    rw [hr, rdPs_eq (lsn := lsn) (ab := ab) (as_ := as_) (room := room) (by omega) hls]
    refine body_ok n hn hSI hK hSK h6 hff hN hp (by omega) hb (by omega) hsp hsj h (fun x hx S' pa' pc' Lp' ha' hl' hc' hs' h' => ?_) (fun hx S' h' => ?_)
    ·obtain ⟨e1, e2⟩ := enF_some hx
     have hby := ((okE_iff _).1 (enR_ok e1)).2.2.2.2.2.2.2.2.2.2.2.2
     rw [if_neg (by omega)] at h'
     simp only [hx]
     exact rd_loop n0 n hn hSI hK hSK h6 hff hN hp hb hP hP2 hls hsj m (i + 1) (s ++ x.by_) pa' pc' Lp' ha' hl' hc' S' (by omega) (by omega) (by omega) (by rw [List.length_append]; omega) hs' h'
    ·simp only [hx]
     refine ok_ret ⟨fun tx o he => (by cases he), fun _ => ⟨none, 0, .ex 0, ⟨0, 0, 0⟩, rfl, h'⟩⟩
   ·simp only [decide_eq_false_iff_not] at cc
    rw [hP] at cc
    have : i = P := by omega
    subst this
    rw [Nat.sub_self, rdPs]
    unfold rdFin
    obtain ⟨v, S4, e4, qs, a4, c4, Lr, Ld, rfl, hq4, hs4, hd4, h4'⟩ : Ok (evF E orcL (n + 5) (.fn 71) [.sl pa s.length pc] S) _ := getT_ok (n + 1) (by omega) h (slG_vw hsp (fun e he => by simp [he])) (by omega)
    rw [callT_of e4]
    refine ok_atL rfl (ok_atI rfl (ok_gO (ok_ldI h4' rfl (ok_gO (ok_ldI h4' rfl (ok_gO (ok_ldI h4' rfl (ok_gO (ok_stn h4' (by simp) (d := orow ⟨hd.ps, hd.bo, hd.se⟩) (by simp [splice, orow]) (fun S5 h5 => ok_gO (ok_ldn h5 (by simp [orow]) (d := orow ⟨hd.ps, hd.bo, hd.se⟩) rfl (ok_ret ?_))))))))))))
    have h5' : Hp X S5 (Lr ++ (Ld ++ (Ls ++ (C bj (jrow (dev sb) J ja J.l.length jc) :: Ll ++ F)))) := (h5.re (M := (Lp ++ (C b5 (erow hd ha hl hc) :: C b3 (orow ⟨hd.ps, hd.bo, hd.se⟩) :: C b1 [.int .u64 ab, .int .u64 as_] :: [])) ++ (Lr ++ (Ld ++ (Ls ++ (C bj (jrow (dev sb) J ja J.l.length jc) :: Ll ++ F))))) (by intro p; simp only [List.countP_append, List.countP_cons, List.countP_nil, List.nil_append, List.cons_append, C, zone]; omega)).right
    refine ⟨fun tx o he => ?_, fun he => ?_⟩
    ·simp only [rdE] at he
     by_cases hg : goodT s = true
     ·rw [if_pos hg] at he
      injection he with he
      injection he with he1 he2
      subst he1; subst he2
      exact ⟨qs, a4, c4, Lr, Ld, by rw [getTe, if_pos hg]; rfl, by rw [hq4, getT, if_pos hg], hs4, hd4, h5'⟩
     ·rw [if_neg hg] at he; cases he
    ·simp only [rdE] at he
     by_cases hg : goodT s = true
     ·rw [if_pos hg] at he; cases he
     ·exact ⟨a4, qs.length, c4, ⟨hd.ps, hd.bo, hd.se⟩, by rw [getTe, if_neg hg]; rfl, h5'.right.right⟩
theorem readP_ok (n : Nat) (hn : 1000010 < n) {N K : Nat} (hSI : SI t N K) (hK : K ≤ 1000000) (hSK : SK k t) (h6 : 6 ≤ J.count) (hff : J.first + J.count ≤ 40) (hN : J.first + J.count ≤ N) {p : Int} (hp : 0 ≤ p ∧ p ≤ 100000000) (hb : StB sb t Ls) {lsn ab as_ room : Int} (hj : JB bj sb J Lj) (h : Hp X S (Ls ++ (Lj ++ F))) :
 Ok (ev (n + 6) (.fn 54) [.ptr (some (.rw bj, 0)), .int .u64 p, .int .u64 lsn, .agg [.int .u64 ab, .int .u64 as_], .int .i64 room] S) (RdQ X (Ls ++ (Lj ++ F)) (rdTx t J p lsn ab as_ room)) := by
 obtain ⟨ja, jc, Ll, hsj, rfl⟩ := hj
 rw [ev, F54 _ _ _ _ _ _ _ (oL rfl)]
 simp only [J54, b54_entry]
 refine ok_ifO rfl (ok_newA h (fun b1 S1 h1 => ok_newA h1 (fun b3 S3 h3 => ok_newA h3 (fun b5 S5 h5 => ?_))))
 rw [show n + 5 = (n + 4) + 1 from rfl, rd_step]
 refine ok_true rfl ?_
 rw [rdTx_eq]
 have h5' : Hp X S5 ([] ++ (C b5 (erow hd0 none 0 (.ex 0)) :: C b3 zone :: C b1 [.int .u64 ab, .int .u64 as_] :: (Ls ++ (C bj (jrow (dev sb) J ja J.l.length jc) :: Ll ++ F)))) := h5
 refine body_ok (i := 0) (s := []) n hn hSI hK hSK h6 hff hN hp (by omega) hb (by simp) (by exact (SlG.nil : SlG none 0 (.ex 0) 1 [] [])) hsj h5' (fun x hx S' pa' pc' Lp' ha' hl' hc' hs' h' => ?_) (fun hx S' h' => ?_)
 ·obtain ⟨e1, e2⟩ := enF_some hx
  have hoe := (okE_iff _).1 (enR_ok e1)
  have hby := hoe.2.2.2.2.2.2.2.2.2.2.2.2
  have hp1 := hoe.2.2.2.2.2.2.2.1
  have hp2 := hoe.2.2.2.2.2.2.2.2.1
  rw [if_pos rfl] at h'
  rw [List.nil_append] at hs' ⊢
  simp only [hx]
  rw [ckF, if_pos rfl] at e2
  simp only [hdOk, Bool.and_eq_true, decide_eq_true_eq] at e2
  exact rd_loop (n + 5) n hn hSI hK hSK h6 hff hN hp hb (P := x.ps.toNat) (by omega) (by omega) e2.1.1.1.2 hsj (n + 4) 1 x.by_ pa' pc' Lp' ha' hl' hc' S' (by omega) (by omega) (by omega) (by omega) hs' h'
 ·simp only [hx]
  refine ok_ret ⟨fun tx o he => (by cases he), fun _ => ⟨none, 0, .ex 0, ⟨0, 0, 0⟩, rfl, h'⟩⟩
end
end Go.Jn.P
namespace Go.Jn.P
open Go.Gr Go.Jn
def fitE (len : Nat) (first count : Int) : Int := if count < 6 ∨ first < 0 ∨ (len : Int) < first ∨ (len : Int) - first < count then 2 else 0
structure Tx where
 ps : List Pr
 a : OP
 c : Cap
def trow (x : Tx) : List AV := [.sl x.a x.ps.length x.c]
def trows (l : List Tx) : List (List AV) := l.map trow
@[simp] theorem trows_len (l : List Tx) : (trows l).length = l.length := by simp [trows]
theorem trows_all (l : List Tx) : ∀ x ∈ trows l, x.length = 1 := fun x hx => by
 obtain ⟨s, _, rfl⟩ := List.mem_map.1 hx; rfl
theorem trows_at {l : List Tx} {i : Nat} {e : Tx} (h : l[i]? = some e) : (trows l)[i]? = some (trow e) := by
 rw [trows, List.getElem?_map, h]; rfl
theorem trows_append (l m : List Tx) : trows (l ++ m) = trows l ++ trows m := by simp [trows]
def TxV (X : Cx) (L : List Ent) (l : List Tx) : Prop := ∀ x ∈ l, RdR X L x.a (prows x.ps).flatten ∧ PsV X L x.ps
theorem TxV.mono {X : Cx} {L M : List Ent} {l : List Tx} (h : TxV X L l) (k : ∀ e ∈ L, e ∈ M) : TxV X M l := fun x hx => ⟨(h x hx).1.mono k, (h x hx).2.mono k⟩
def ptx (l : List Tx) : List (List Pt) := l.map fun x => pts x.ps
theorem CK.nn {k : Nat} {x : List UInt8} (h : CK k x) : goodS x = true → 0 ≤ (decS x).po ∧ 0 ≤ (decS x).ls ∧ 0 ≤ (decS x).ab ∧ 0 ≤ (decS x).as_ := fun _ => by
 refine ⟨?_, ?_, ?_, ?_⟩ <;> exact Int.natCast_nonneg _
theorem supA_mem {t : St} {first : Nat} {x : Su} (h : supA t first = some x) : (goodS (t.rd first) = true ∧ x = decS (t.rd first)) ∨ (goodS (t.rd (first + 1)) = true ∧ x = decS (t.rd (first + 1))) := by
 unfold supA at h
 split at h
 ·rename_i h0
  split at h
  ·rename_i h1; injection h with h; exact .inr ⟨h1.1, h.symm⟩
  ·injection h with h; exact .inl ⟨h0, h.symm⟩
 ·split at h
  ·rename_i h1; injection h with h; exact .inr ⟨h1, h.symm⟩
  ·cases h
theorem jz_JI {t : St} {first count k : Nat} {x : Su} (hSK : SK k t) (hx : supA t first = some x) (hl : first + count ≤ t.s.length) (hc : 6 ≤ count) (h40 : first + count ≤ 40) (hk : k ≤ 100000) : JI (jz first count x) k := by
 have key : ∀ b, b < t.s.length → goodS (t.rd b) = true → x = decS (t.rd b) → JI (jz first count x) k := fun b hb hg he => by
  have h1 := hSK.rd hb
  have h2 := h1.s hg
  have h3 := h1.nn hg
  subst he
  refine ⟨hc, by show count ≤ 40; omega, h2.1, h2.2.1, ⟨h3.1, h2.2.2.1⟩, ⟨h3.2.1, h2.2.2.2.1⟩, ⟨h3.2.2.1, h2.2.2.2.2.1⟩, ⟨h3.2.2.2, h2.2.2.2.2.2⟩, ?_, ?_, (fun o ho => by cases ho), ?_, hk, h40⟩
  ·show (0 : Int) ≤ 0 ∧ (0 : Int) ≤ k; omega
  ·show (0 : Int) ≤ 0 ∧ (0 : Int) ≤ (decS (t.rd b)).ls + (([] : List One).length : Nat)
   simp only [List.length_nil]; omega
  ·show sumN [] + 2 ≤ (count : Int)
   simp [sumN]; omega
 rcases supA_mem hx with ⟨h1, h2⟩ | ⟨h1, h2⟩
 ·exact key first (by omega) h1 h2
 ·exact key (first + 1) (by omega) h1 h2
theorem rdTx_some {t : St} {J : JM} {p lsn ab as_ room : Int} {tx : List Pt} {o : One} {k : Nat} (h : rdTx t J p lsn ab as_ room = some (tx, o)) (hSK : SK k t) (hb : blkP J p < t.s.length) : 1 ≤ o.need ∧ o.need ≤ room ∧ 0 ≤ o.bo ∧ o.bo ≤ k ∧ 0 ≤ o.se ∧ o.se ≤ k := by
 unfold rdTx at h
 cases he : enR t J p with
 | none => rw [he] at h; cases h
 | some x =>
   rw [he] at h
   simp only at h
   by_cases hk : hdOk J x lsn ab as_ room = true
   ·rw [if_pos hk] at h
    cases hr : rdPs t J p x (x.ps.toNat - 1) 1 x.by_ with
    | none => rw [hr] at h; cases h
    | some s =>
      rw [hr] at h
      simp only at h
      split at h
      ·injection h with h
       injection h with _ h
       have h1 := (okE_iff _).1 (enR_ok he)
       have hck := hSK.rd hb
       have h2 : x = decE (t.rd (blkP J p)) ∧ goodE (t.rd (blkP J p)) = true := by
        unfold enR at he
        split at he
        ·rename_i hg; injection he with he; exact ⟨he.symm, hg.1⟩
        ·cases he
       have h3 := hck.e h2.2
       have h4 := decB (t.rd (blkP J p))
       rw [← h2.1] at h3 h4
       simp only [hdOk, Bool.and_eq_true, decide_eq_true_eq] at hk
       subst h
       exact ⟨h1.2.2.2.2.2.2.2.1, hk.2, h4.bo.1, h3.1, h4.se.1, h3.2.1⟩
      ·cases h
   ·rw [if_neg hk] at h; cases h
def JM.push (J : JM) (o : One) : JM := { J with l := J.l ++ [o] }
theorem JI.push {J : JM} {k : Nat} (h : JI J k) {o : One} (ho : 1 ≤ o.need ∧ o.need ≤ (J.count : Int) - 2 - sumN J.l ∧ 0 ≤ o.bo ∧ o.bo ≤ k ∧ 0 ≤ o.se ∧ o.se ≤ k) : JI (J.push o) k := by
 obtain ⟨a1, a2, a3, a4, a5, a6, a7, a8, a9, a10, a11, a12, a13, a14⟩ := h
 have h0 := sumN_ge fun o ho => (a11 o ho).1
 refine ⟨a1, a2, a3, a4, a5, a6, a7, a8, a9, ?_, fun y hy => ?_, ?_, a13, a14⟩
 ·show 0 ≤ J.sy ∧ J.sy ≤ J.sup.ls + (J.l ++ [o]).length
  rw [List.length_append, List.length_singleton]; omega
 ·rcases List.mem_append.1 hy with hy | hy
  ·exact a11 y hy
  ·simp only [List.mem_singleton] at hy
   subst hy
   exact ⟨ho.1, by omega, ho.2.2⟩
 ·show sumN (J.l ++ [o]) + 2 ≤ (J.count : Int)
  rw [sumN_snoc]; omega
theorem rdAll_succ {t : St} {f : Nat} {J : JM} {p ab as_ : Int} {out : List (List Pt)} : rdAll t (f + 1) J p ab as_ out = match rdTx t J p (J.sup.ls + (J.l.length : Nat) + 1) ab as_ ((J.count : Int) - 2 - sumN J.l) with
 | some (tx, o) => rdAll t f (J.push o) (p + o.need) o.bo o.se (out ++ [tx])
 | none => (J, out) := rfl
section
variable {X : Cx} {S : AS} {L F Lj Ls : List Ent} {b bj sb : Nat} {Q : AV → AS → Prop} {J : JM} {k : Nat} {t : St}
theorem fitsG_eq (n : Nat) {t : St} {first count : Int} (ht : t.s.length ≤ 1000000) (hb : StB b t L) (h : Hp X S (L ++ F)) : ev (n + 2) (.fn 40) [dev b, .int .i64 first, .int .i64 count] S = some (.int .i64 (fitE t.s.length first count), S) := by
 apply ok_eq
 rw [ev, F40 _ _ _ _ _ (oL rfl)]
 simp only [J40, b40_entry]
 have el : evF E orcL (n + 1) (.fn 97) [.ptr (some (.rw b, 0))] S = some (.int .i64 t.s.length, S) := len_eq n h hb
 rw [ifNil_dev]
 refine ok_false rfl (ok_cond (fun c1 => ?_) (fun c1 => ?_))
 ·simp only [decide_eq_true_eq] at c1
  exact ok_ret ⟨by rw [fitE, if_pos (.inl c1)], rfl⟩
 simp only [decide_eq_false_iff_not] at c1
 refine ok_cond (fun c2 => ?_) (fun c2 => ?_)
 ·simp only [decide_eq_true_eq] at c2
  exact ok_ret ⟨by rw [fitE, if_pos (.inr (.inl c2))], rfl⟩
 simp only [decide_eq_false_iff_not] at c2
 rw [invV_of mLen el]
 refine ok_gIk (ok_cond (fun c3 => ?_) (fun c3 => ?_))
 ·simp only [gt_iff_lt, decide_eq_true_eq] at c3
  exact ok_ret ⟨by rw [fitE, if_pos (.inr (.inr (.inl c3)))], rfl⟩
 simp only [gt_iff_lt, decide_eq_false_iff_not] at c3
 rw [invV_of mLen el]
 refine ok_gIk ?_
 rw [wz (x := ((t.s.length : Nat) : Int) - first) rfl (by omega) (by omega)]
 refine ok_cond (fun c4 => ?_) (fun c4 => ?_)
 ·simp only [gt_iff_lt, decide_eq_true_eq] at c4
  exact ok_ret ⟨by rw [fitE, if_pos (.inr (.inr (.inr c4)))], rfl⟩
 ·simp only [gt_iff_lt, decide_eq_false_iff_not] at c4
  exact ok_ret ⟨by rw [fitE, if_neg (by omega)], rfl⟩
theorem ok_atB {l : List AV} {x : Bool} {i : Nat} {K : Bool → RV} (h : l[i]? = some (.bool x)) (ht : Ok (K x) Q) : Ok (atB l i K) Q := by simp only [atB, h, gB]; exact ht
theorem open_loop (n0 n : Nat) (hn : 1000010 < n) {N K : Nat} (hSI : SI t N K) (hK : K ≤ 1000000) (hSK : SK k t) (hN : J.first + J.count ≤ N) (hb : StB sb t Ls) {b13 : Nat} :
 ∀ (f m : Nat) (J : JM) (xs : List Tx) (ab as_ : Int) (oa : OP) (oc : Cap) (Lo Ld Lj : List Ent) (S : AS), f < m → (J.count : Int) - 2 - sumN J.l < f → J.first + J.count ≤ N → xs.length = J.l.length → JI J k → JB bj sb J Lj → SlG oa xs.length oc 1 (trows xs) Lo → TxV X Ld xs → Hp X S (Lo ++ (Ld ++ (C b13 [.int .u64 ab, .int .u64 as_] :: (Ls ++ (Lj ++ F))))) →
   (∀ (xs' : List Tx) (J' : JM) (ab' as_' : Int) (oa' : OP) (oc' : Cap) (Lo' Ld' Lj' : List Ent) (S' : AS), rdAll t f J (J.sup.po + sumN J.l) ab as_ (ptx xs) = (J', ptx xs') → JI J' k → J'.sup = J.sup → J'.first = J.first → J'.count = J.count → J'.se = J.se → xs'.length ≤ 40 → JB bj sb J' Lj' → SlG oa' xs'.length oc' 1 (trows xs') Lo' → TxV X Ld' xs' → Hp X S' (Lo' ++ (Ld' ++ (C b13 [.int .u64 ab', .int .u64 as_'] :: (Ls ++ (Lj' ++ F))))) → Ok (J25_jZAM (evF E orcL (n + 6)) n0 (some (.rw bj, 0)) oa' xs'.length oc' S') Q) →
   Ok (J25_lZAb (evF E orcL (n + 6)) n0 m none none 0 (.ex 0) 0 (some (.rw bj, 0)) oa xs.length oc (some (.rw b13, 0)) (J.sup.po + sumN J.l) S) Q
 | 0, m, J, xs, ab, as_, oa, oc, Lo, Ld, Lj, S, hm, hf, hJN, hxl, hJ, hj, hs, hd, h, fin => by
   have := hJ.rm
   omega
 | f + 1, 0, J, xs, ab, as_, oa, oc, Lo, Ld, Lj, S, hm, hf, hJN, hxl, hJ, hj, hs, hd, h, fin => by omega
 | f + 1, m + 1, J, xs, ab, as_, oa, oc, Lo, Ld, Lj, S, hm, hf, hJN, hxl, hJ, hj, hs, hd, h, fin => by
   have h38 := hJ.lcount
   have q1 := hJ.ls
   have q2 := hJ.k1
   have q3 := hJ.po
   have q4 := hJ.rm
   have q5 := hJ.c40
   have q6 := sumN_ge fun o ho => (hJ.ol o ho).1
   rw [J25_lZAb_succ]
   simp only [b25_lZAb]
   refine ok_drawA h [14] (by simp) (by simp) (fun b18 S19 h19 => ?_)
   have h19j : Hp X S19 (Lj ++ (C b13 [.int .u64 ab, .int .u64 as_] :: ((b18 + 14, none) :: (Ls ++ (Lo ++ (Ld ++ F)))))) := h19.re (by intro p; simp only [List.countP_append, List.countP_cons, List.countP_nil, List.map_cons, List.map_nil, List.cons_append, List.nil_append, C]; omega)
   rw [callI_of (show evF E orcL (n + 6) (.fn 29) [.ptr (some (.rw bj, 0))] S19 = _ from last_eq (n + 5) hJ h19j hj)]
   refine ok_gO (ok_ldn h19j (by simp) (d := [.int .u64 ab, .int .u64 as_]) rfl (ok_gO (ok_ldn h19j (by simp) (d := [.int .u64 ab, .int .u64 as_]) rfl (ok_true (by simp [AV.beq, AV.beqs]) ?_))))
   obtain ⟨v, S26, e26, rfl, h26⟩ : Ok (evF E orcL (n + 6) (.fn 17) [.ptr (some (.rw bj, 0))] S19) _ := room_ok (n + 5) (by omega) hJ h19j hj
   rw [callI_of e26]
   refine ok_gO (ok_ldn h26 (by simp) (d := [.int .u64 ab, .int .u64 as_]) rfl (ok_true (by simp [AV.beq, AV.beqs]) ?_))
   have h26' : Hp X S26 (Ls ++ (Lj ++ ((b18 + 14, none) :: C b13 [.int .u64 ab, .int .u64 as_] :: (Lo ++ (Ld ++ F))))) := h26.re (by intro p; simp only [List.countP_append, List.countP_cons, List.countP_nil, C]; omega)
   rw [wu64 (n := J.sup.ls + (J.l.length : Nat) + 1) (by omega) (by omega)]
   obtain ⟨v, S30, e30, hQ1, hQ2⟩ : Ok (evF E orcL (n + 6) (.fn 54) [.ptr (some (.rw bj, 0)), .int .u64 (J.sup.po + sumN J.l), .int .u64 (J.sup.ls + (J.l.length : Nat) + 1), .agg [.int .u64 ab, .int .u64 as_], .int .i64 ((J.count : Int) - 2 - sumN J.l)] S26) _ := readP_ok n hn hSI hK hSK hJ.c6 hJ.ff hJN (by omega) hb hj h26'
   rw [rdAll_succ] at fin
   cases hr : rdTx t J (J.sup.po + sumN J.l) (J.sup.ls + (J.l.length : Nat) + 1) ab as_ ((J.count : Int) - 2 - sumN J.l) with
   | none =>
     rw [hr] at fin
     obtain ⟨a, l, c, o, rfl, h30⟩ := hQ2 hr
     rw [callT_of e30]
     refine ok_atL rfl (ok_atG rfl rfl (ok_atB rfl (ok_atI rfl (ok_layA (b := b18 + 14) h30 (fun S36 h36 => ok_ifO rfl (ok_stn h36 (by simp [orow]) (d := orow o) (by simp [splice, orow]) (fun S37 h37 => ok_false rfl (ok_true rfl ?_))))))))
     refine fin xs J ab as_ oa oc Lo Ld Lj S37 rfl hJ rfl rfl rfl rfl (by omega) hj hs hd ?_
     exact (h37.re (M := C (b18 + 14) (orow o) :: (Lo ++ (Ld ++ (C b13 [.int .u64 ab, .int .u64 as_] :: (Ls ++ (Lj ++ F)))))) (by intro p; simp only [List.countP_append, List.countP_cons, List.countP_nil, C]; omega)).drop1
   | some to =>
     obtain ⟨tx, o⟩ := to
     rw [hr] at fin
     obtain ⟨qs, a, c, Lr, Lq, rfl, hpq, hsq, hvq, h30⟩ := hQ1 tx o hr
     have hbl := blkP_lt (J := J) (p := J.sup.po + sumN J.l) hJ.c6 (by omega)
     have ho := rdTx_some hr hSK (by rw [hSI.len]; omega)
     have hJ' := hJ.push ho
     rw [callT_of e30]
     refine ok_atL rfl (ok_atG rfl rfl (ok_atB rfl (ok_atI rfl (ok_layA (b := b18 + 14) h30 (fun S36 h36 => ok_ifO rfl (ok_stn h36 (by simp [orow]) (d := orow o) (by simp [splice, orow]) (fun S37 h37 => ok_false rfl (ok_false rfl ?_))))))))
     obtain ⟨ja, jc, Ll, hsj, rfl⟩ := hj
     refine ok_drawA h37 [6, 10] (by simp) (by simp) (fun b38 S39 h39 => ?_)
     have h39' : Hp X S39 ((b38 + 6, none) :: (b38 + 10, none) :: C (b18 + 14) (orow o) :: C bj (jrow (dev sb) J ja J.l.length jc) :: C b13 [.int .u64 ab, .int .u64 as_] :: (Ll ++ (Lo ++ (Lr ++ (Lq ++ (Ls ++ (Ld ++ F))))))) := h39.re (by intro p; simp only [List.countP_append, List.countP_cons, List.countP_nil, List.map_cons, List.map_nil, List.cons_append, List.nil_append, C]; omega)
     clear h h19 h19j h26 h26' h30 h36 h37 h39
     refine ok_gO (ok_ldL h39' rfl (ok_ldn h39' (by simp [orow]) (d := orow o) rfl (ok_ifO rfl (ok_ifO (by simp [orow]) (ok_layA (b := b38 + 6) h39' (fun S44 h44 => ?_))))))
     have e6 : splice [AV.int .i64 0, .int .u64 0, .int .u64 0] 0 (orow o) = orow o := rfl
     rw [e6] at h44
     have h44' : Hp X S44 (Ll ++ (C (b38 + 6) (orow o) :: (b38 + 10, none) :: C (b18 + 14) (orow o) :: C bj (jrow (dev sb) J ja J.l.length jc) :: C b13 [.int .u64 ab, .int .u64 as_] :: (Lo ++ (Lr ++ (Lq ++ (Ls ++ (Ld ++ F))))))) := h44.re (by intro p; simp only [List.countP_append, List.countP_cons, List.countP_nil, C]; omega)
     refine ok_appendG h44' hsj (ys := orows [o]) (orows_all _) rfl (fun K => ?_) (by decide) (by simp [pow46]; omega) (by simp [pow46]; omega) (fun a3 l3 c3 S46 L3 ht' h46 => ?_)
     ·have := RdR.first (.rw (X := X) (b := b38 + 6) (i := 0) (c := orow o) (cs := orow o) (L := _) (List.mem_append_right Ll List.mem_cons_self) (by simp) rfl) h44' (sz := 3) (n := 1) rfl (by decide) (l := 1) (c := .ex 1) K
      simpa [orows] using this
     rw [← orows_append] at ht'
     obtain rfl : l3 = (J.push o).l.length := by have := ht'.len; rw [orows_len] at this; exact this
     have h46' : Hp X S46 ((b38 + 10, none) :: C (b18 + 14) (orow o) :: C bj (jrow (dev sb) J ja J.l.length jc) :: C b13 [.int .u64 ab, .int .u64 as_] :: (L3 ++ (Lo ++ (Lr ++ (Lq ++ (Ls ++ (Ld ++ F))))))) := (h46.re (M := C (b38 + 6) (orow o) :: ((b38 + 10, none) :: C (b18 + 14) (orow o) :: C bj (jrow (dev sb) J ja J.l.length jc) :: C b13 [.int .u64 ab, .int .u64 as_] :: (L3 ++ (Lo ++ (Lr ++ (Lq ++ (Ls ++ (Ld ++ F)))))))) (by intro p; simp only [List.countP_append, List.countP_cons, List.countP_nil, C]; omega)).drop1
     clear h39' h44 h44' h46
     refine ok_layA (b := b38 + 10) h46' (fun S47 h47 => ?_)
     have h47' : Hp X S47 (Lo ++ (C (b38 + 10) (trow ⟨qs, a, c⟩) :: C (b18 + 14) (orow o) :: C bj (jrow (dev sb) J ja J.l.length jc) :: C b13 [.int .u64 ab, .int .u64 as_] :: (L3 ++ (Lr ++ (Lq ++ (Ls ++ (Ld ++ F))))))) := h47.re (by intro p; simp only [List.countP_append, List.countP_cons, List.countP_nil, C, trow]; omega)
     refine ok_appendG h47' hs (ys := trows [⟨qs, a, c⟩]) (trows_all _) rfl (fun K => ?_) (by decide) (by simp [pow46]; omega) (by simp [pow46]; omega) (fun a4 l4 c4 S49 L4 ht4 h49 => ?_)
     ·have := RdR.first (.rw (X := X) (b := b38 + 10) (i := 0) (c := trow ⟨qs, a, c⟩) (cs := trow ⟨qs, a, c⟩) (L := _) (List.mem_append_right Lo List.mem_cons_self) (by simp) rfl) h47' (sz := 1) (n := 1) rfl (by decide) (l := 1) (c := .ex 1) K
      simpa [trows] using this
     rw [← trows_append] at ht4
     obtain rfl : l4 = (xs ++ [(⟨qs, a, c⟩ : Tx)]).length := by have := ht4.len; rw [trows_len] at this; exact this
     have h49' : Hp X S49 (C (b18 + 14) (orow o) :: C bj (jrow (dev sb) J ja J.l.length jc) :: C b13 [.int .u64 ab, .int .u64 as_] :: (L3 ++ (L4 ++ (Lr ++ (Lq ++ (Ls ++ (Ld ++ F))))))) := (h49.re (M := C (b38 + 10) (trow ⟨qs, a, c⟩) :: (C (b18 + 14) (orow o) :: C bj (jrow (dev sb) J ja J.l.length jc) :: C b13 [.int .u64 ab, .int .u64 as_] :: (L3 ++ (L4 ++ (Lr ++ (Lq ++ (Ls ++ (Ld ++ F)))))))) (by intro p; simp only [List.countP_append, List.countP_cons, List.countP_nil, C]; omega)).drop1
     clear h46' h47 h47' h49
     refine ok_gO (ok_stn h49' (by simp [jrow]) (d := jrow (dev sb) (J.push o) a3 (J.push o).l.length c3) (by simp [splice, jrow, JM.push]) (fun S51 h51 => ?_))
     refine ok_ldn h51 (by simp [orow]) (d := [.int .u64 o.bo, .int .u64 o.se]) rfl (ok_gO (ok_ifO rfl (ok_stn h51 (by simp) (d := [.int .u64 o.bo, .int .u64 o.se]) (by simp [splice]) (fun S53 h53 => ok_ldI h53 rfl ?_))))
     have hsn : sumN (J.push o).l = sumN J.l + o.need := sumN_snoc o J.l
     have hpp : IntKind.wrap .u64 (J.sup.po + sumN J.l + IntKind.wrap .u64 o.need) = (J.push o).sup.po + sumN (J.push o).l := by
      rw [hsn, wu64 (n := o.need) (by omega) (by omega), wu64 (by omega) (by omega)]
      show _ = J.sup.po + _
      omega
     rw [hpp]
     have hl' : (xs ++ [(⟨qs, a, c⟩ : Tx)]).length = (J.push o).l.length := by
      show _ = (J.l ++ [o]).length
      rw [List.length_append, List.length_append, hxl]; rfl
     refine open_loop (b13 := b13) n0 n hn hSI hK hSK hN hb f m (J.push o) (xs ++ [⟨qs, a, c⟩]) o.bo o.se a4 c4 L4 (Lr ++ (Lq ++ Ld)) (C bj (jrow (dev sb) (J.push o) a3 (J.push o).l.length c3) :: L3) S53 (by omega) (by rw [hsn]; show (J.count : Int) - 2 - _ < _; omega) hJN hl' hJ' ⟨a3, c3, L3, ht', rfl⟩ ht4 (fun x hx => ?_) (h53.drop1.re (by intro p; simp only [List.countP_append, List.countP_cons, List.countP_nil, List.cons_append, C]; omega)) (fun xs' J' ab' as_' oa' oc' Lo' Ld' Lj' S' hall hJI' e1 e2 e3 e4 hxs' hj' hs' hd' h' => ?_)
     ·rcases List.mem_append.1 hx with hx | hx
      ·exact ⟨(hd x hx).1.mono (fun e he => by simp [he]), (hd x hx).2.mono (fun e he => by simp [he])⟩
      ·simp only [List.mem_singleton] at hx
       subst hx
       exact ⟨hsq.rd (fun e he => by simp [he]), hvq.mono (fun e he => by simp [he])⟩
     ·refine fin xs' J' ab' as_' oa' oc' Lo' Ld' Lj' S' ?_ hJI' e1 e2 e3 e4 hxs' hj' hs' hd' h'
      have e : ptx (xs ++ [(⟨qs, a, c⟩ : Tx)]) = ptx xs ++ [tx] := by simp [ptx, hpq]
      rw [e, hsn] at hall
      show rdAll t f (J.push o) (J.sup.po + sumN J.l + o.need) o.bo o.se (ptx xs ++ [tx]) = _
      rw [show J.sup.po + sumN J.l + o.need = (J.push o).sup.po + (sumN J.l + o.need) by show _ = J.sup.po + _; omega]
      exact hall
end
end Go.Jn.P
namespace Go.Jn.P
open Go.Gr Go.Jn
def opE (t : St) (first count : Int) : Int := if fitE t.s.length first count = 0 then (match supA t first.toNat with
 | some _ => wE t
 | none => 80) else fitE t.s.length first count
def opR (t : St) (first count : Int) (x : Su) : JM × List (List Pt) := rdAll t 60 (jz first.toNat count.toNat x) x.po x.ab x.as_ []
def opX (t : St) (first : Int) : Su := (supA t first.toNat).getD sz
def opW (x : Su) : Su := { x with bo := x.bo + 1 }
def opL (t : St) (first count : Int) : List (List Pt) := (opR t first count (opX t first)).2
def opJ (t : St) (first count : Int) : JM := (wrJ (opR t first count (opX t first)).1 t (opW (opX t first))).sync
def opT (t : St) (first count : Int) : St := if fitE t.s.length first count = 0 ∧ (supA t first.toNat).isSome = true then wrT (opR t first count (opX t first)).1 t (opW (opX t first)) else t
theorem fitE_iff {len : Nat} {first count : Int} : fitE len first count = 0 ↔ 6 ≤ count ∧ 0 ≤ first ∧ first + count ≤ len := by
 unfold fitE
 by_cases h : count < 6 ∨ first < 0 ∨ (len : Int) < first ∨ (len : Int) - first < count
 ·rw [if_pos h]; constructor
  ·intro h2; simp at h2
  ·intro h2; omega
 ·rw [if_neg h]; exact ⟨fun _ => by omega, fun _ => rfl⟩
theorem wE_iff {t : St} : wE t = 0 ↔ ¬ t.f = 0 := by
 unfold wE; split
 ·rename_i h; simp [h]
 ·rename_i h; simp [h]
def OpQ (X : Cx) (F : List Ent) (sb : Nat) (t : St) (first count : Int) : AV → AS → Prop := fun v S' => ∃ L', StB sb (opT t first count) L' ∧
 (opE t first count ≠ 0 → v = .tup [.ptr none, .sl none 0 (.ex 0), .int .i64 (opE t first count)] ∧ Hp X S' (L' ++ F)) ∧
 (opE t first count = 0 → ∃ (bj : Nat) (xs : List Tx) (a : OP) (c : Cap) (Lo Ld Lj : List Ent), v = .tup [.ptr (some (.rw bj, 0)), .sl a xs.length c, .int .i64 0] ∧ xs.length ≤ 40 ∧ ptx xs = opL t first count ∧ SlG a xs.length c 1 (trows xs) Lo ∧ TxV X Ld xs ∧ JB bj sb (opJ t first count) Lj ∧ Hp X S' (Lo ++ (Ld ++ (L' ++ (Lj ++ F)))))
section
variable {X : Cx} {S : AS} {L F Lj Ls : List Ent} {b bj sb : Nat} {Q : AV → AS → Prop} {J : JM} {k : Nat} {t : St}
theorem open_ok (n : Nat) (hn : 1000010 < n) {N K : Nat} (hSI : SI t N K) (hK : K ≤ 800000) (hN40 : N ≤ 40) (hSK : SK k t) (hk : k + 40 ≤ 100000) {first count : Int} (hb : StB sb t Ls) (h : Hp X S (Ls ++ F)) :
 Ok (ev (n + 7) (.fn 25) [dev sb, .int .i64 first, .int .i64 count] S) (OpQ X F sb t first count) := by
 have hlen := hSI.len
 rw [ev, F25 _ _ _ _ _ (oL rfl)]
 simp only [J25, b25_entry]
 rw [callI_of (show evF E orcL (n + 6) (.fn 40) [dev sb, .int .i64 first, .int .i64 count] S = _ from fitsG_eq (n + 4) (by omega) hb h)]
 refine ok_cond (fun c1 => ?_) (fun c1 => ?_)
 ·simp only [bne_iff_ne, ne_eq] at c1
  have e1 : opE t first count = fitE t.s.length first count := by rw [opE, if_neg c1]
  have e2 : opT t first count = t := by rw [opT, if_neg (fun h => c1 h.1)]
  refine ok_ret ⟨Ls, by rw [e2]; exact hb, fun _ => ⟨by rw [e1], h⟩, fun he => absurd he (by rw [e1]; exact c1)⟩
 simp only [bne_eq_false_iff_eq] at c1
 obtain ⟨g1, g2, g3⟩ := fitE_iff.1 c1
 obtain ⟨f, hf⟩ : ∃ f : Nat, first = f := ⟨first.toNat, by omega⟩
 obtain ⟨c, hc⟩ : ∃ c : Nat, count = c := ⟨count.toNat, by omega⟩
 subst hf; subst hc
 have hfc : f + c ≤ N := by omega
 rw [show ∀ (K : List AV → RV), cellsOf ty73 (dev sb) K = K [dev sb] from fun K => rfl]
 refine ok_ifO (by simp) (ok_ifO (by simp [splice]) (ok_ifO (by simp [splice]) (ok_ifO (by simp [splice]) (ok_newA h (fun b7 S8 h8 => ?_)))))
 have h8a : Hp X S8 (C b7 (jrow (dev sb) (jz f c sz) none 0 (.ex 0)) :: (Ls ++ F)) := h8
 have h8' : Hp X S8 (Ls ++ (C b7 (jrow (dev sb) (jz f c sz) none 0 (.ex 0)) :: F)) := h8a.re (by intro p; simp only [List.countP_append, List.countP_cons]; omega)
 obtain ⟨v, S9, e9, rfl, h9⟩ : Ok (evF E orcL (n + 6) (.fn 53) [.ptr (some (.rw b7, 0))] S8) _ := supered_ok (n + 1) (by omega) hSI (by omega) hSK (by omega) hN40 hb h8'
 rw [callI_of e9]
 cases hx : supA t f with
 | none =>
   have e1 : opE t f c = 80 := by rw [opE, if_pos c1, Int.toNat_natCast, hx]
   have e2 : opT t f c = t := by rw [opT, if_neg (fun h => by rw [Int.toNat_natCast, hx] at h; exact absurd h.2 (by decide))]
   refine ok_true rfl (ok_ret ⟨Ls, by rw [e2]; exact hb, fun _ => ⟨by rw [e1]; rfl, ?_⟩, fun he => absurd he (by rw [e1]; decide)⟩)
   exact h9.sub (List.Sublist.append_left (List.sublist_cons_self _ _) Ls)
 | some x =>
   have hJz : JI (jz f c x) k := jz_JI hSK hx (by omega) (by omega) (by omega) (by omega)
   have ex : opX t f = x := by rw [opX, Int.toNat_natCast, hx]; rfl
   rw [hx] at h9
   have h9a : Hp X S9 (Ls ++ (C b7 (jrow (dev sb) (jz f c x) none 0 (.ex 0)) :: F)) := h9
   refine ok_false rfl (ok_drawA h9a [11] (by simp) (by simp) (fun b11 S12 h12 => ?_))
   have h12' : Hp X S12 ((b11 + 11, none) :: (Ls ++ (C b7 (jrow (dev sb) (jz f c x) none 0 (.ex 0)) :: F))) := h12
   refine ok_ldI h12' rfl (ok_ldI h12' rfl (ok_layA (b := b11 + 11) h12' (fun S15 h15 => ok_stn h15 (by simp) (d := [.int .u64 x.ab, .int .u64 x.as_]) (by simp [splice, jz]) (fun S16 h16 => ok_ldI h16 rfl ?_))))
   have h16' : Hp X S16 ([] ++ ([] ++ (C (b11 + 11) [.int .u64 x.ab, .int .u64 x.as_] :: (Ls ++ ([C b7 (jrow (dev sb) (jz f c x) none 0 (.ex 0))] ++ F))))) := h16
   have hp : (jz f c x).sup.po = (jz f c x).sup.po + sumN (jz f c x).l := by simp [jz, sumN]
   rw [hp]
   refine open_loop (n + 6) n hn hSI (by omega) hSK (J := jz f c x) hfc hb 60 (n + 6) (jz f c x) [] x.ab x.as_ none (.ex 0) [] [] _ S16 (by omega) (by simp [jz, sumN]; omega) hfc rfl hJz ⟨none, .ex 0, [], by exact (SlG.nil : SlG none 0 (.ex 0) 3 [] []), rfl⟩ (by exact (SlG.nil : SlG none 0 (.ex 0) 1 [] [])) (fun y hy => by cases hy) h16' (fun xs' J' ab' as_' oa' oc' Lo' Ld' Lj' S' hall hJI' e1 e2 e3 e4 hxs' hj' hs' hd' h' => ?_)
   rw [← hp] at hall
   have hR : opR t f c x = (J', ptx xs') := hall
   have e1' : J'.sup = x := e1
   simp only [J25_jZAM, b25_jZAM]
   have hj0 := hj'
   obtain ⟨ja, jc, Ll, hsj, rfl⟩ := hj'
   have hbo := hJI'.bo
   have hg' := hJI'.g
   have hpo' := hJI'.po
   have hls' := hJI'.ls
   have hab' := hJI'.ab
   have has' := hJI'.as_
   have hk' := hJI'.k1
   rw [e1'] at hbo hg' hpo' hls' hab' has'
   refine ok_gO (ok_ldn h' (by simp [jrow]) (d := srowS x) (by rw [← e1']; rfl) (ok_newA h' (fun b58 S59 h59 => ok_ifO rfl (ok_stn h59 (by simp [srowS, Su.l]) (d := srowS x) (by simp [splice, srowS, Su.l]) (fun S60 h60 => ok_ldI h60 rfl ?_)))))
   rw [wu64 (n := x.bo + 1) (by omega) (by omega)]
   refine ok_stn h60 (by simp [srowS, Su.l]) (d := srowS (opW x)) (by simp [splice, srowS, Su.l, opW]) (fun S62 h62 => ok_ldn h62 (by simp [srowS, Su.l]) (d := srowS (opW x)) (by simp [srowS, Su.l]) ?_)
   have h62' : Hp X S62 (Ls ++ (C b7 (jrow (dev sb) J' ja J'.l.length jc) :: Ll ++ (C b58 (srowS (opW x)) :: (Lo' ++ (Ld' ++ (C (b11 + 11) [.int .u64 ab', .int .u64 as_'] :: F)))))) := h62.re (by intro p; simp only [List.countP_append, List.countP_cons, List.countP_nil, List.cons_append, C]; omega)
   obtain ⟨v, S64, e64, rfl, L', Lj'', hb', hj'', h64⟩ : Ok (evF E orcL (n + 6) (.fn 38) [.ptr (some (.rw b7, 0)), .agg (srowS (opW x))] S62) _ := writes_ok (n + 2) (by omega) hJI' (x := opW x) (by intro y hy; simp only [opW, Su.l, List.mem_cons, List.not_mem_nil, or_false] at hy; omega) (by show x.bo + 1 ≠ 0; omega) (N := N) (by rw [e2, e3]; exact hfc) ⟨hSI.len, hSI.f, by have := hSI.q; omega, hSI.r⟩ h62' hj0 hb
   rw [callI_of e64]
   have eE : opE t f c = wE t := by rw [opE, if_pos c1, Int.toNat_natCast, hx]
   have eT : opT t f c = wrT J' t (opW x) := by rw [opT, if_pos ⟨c1, by rw [Int.toNat_natCast, hx]; rfl⟩, ex, hR]
   have eJ : opJ t f c = (wrJ J' t (opW x)).sync := by rw [opJ, ex, hR]
   have eL : opL t f c = ptx xs' := by rw [opL, ex, hR]
   refine ok_cond (fun cw => ?_) (fun cw => ?_)
   ·simp only [bne_iff_ne, ne_eq] at cw
    refine ok_ret ⟨L', by rw [eT]; exact hb', fun _ => ⟨by rw [eE], ?_⟩, fun he => absurd he (by rw [eE]; exact cw)⟩
    exact (h64.re (M := (Lj'' ++ (C b58 (srowS (opW x)) :: (Lo' ++ (Ld' ++ [C (b11 + 11) [.int .u64 ab', .int .u64 as_']])))) ++ (L' ++ F)) (by intro p; simp only [List.countP_append, List.countP_cons, List.countP_nil, List.cons_append, C]; omega)).right
   simp only [bne_eq_false_iff_eq] at cw
   have hnf := wE_iff.1 cw
   have hw : wrJ J' t (opW x) = J'.sup! { opW x with g := J'.sup.g + 1 } := by rw [wrJ, if_neg hnf]
   have hJI1 : JI (wrJ J' t (opW x)) (k + 40) := by
    rw [hw]
    obtain ⟨a1, a2, a3, a4, a5, a6, a7, a8, a9, a10, a11, a12, a13, a14⟩ := hJI'.up (m := k + 40) (by omega) hk
    refine ⟨a1, a2, ?_, ?_, ?_, ?_, ?_, ?_, a9, ?_, a11, a12, a13, a14⟩
    ·show 1 ≤ J'.sup.g + 1 ∧ J'.sup.g + 1 ≤ ((k + 40 : Nat) : Int); rw [e1']; omega
    ·show 1 ≤ x.bo + 1 ∧ x.bo + 1 ≤ ((k + 40 : Nat) : Int); omega
    ·show 0 ≤ x.po ∧ x.po ≤ 100 * ((k + 40 : Nat) : Int); omega
    ·show 0 ≤ x.ls ∧ x.ls ≤ ((k + 40 : Nat) : Int); omega
    ·show 0 ≤ x.ab ∧ x.ab ≤ ((k + 40 : Nat) : Int); omega
    ·show 0 ≤ x.as_ ∧ x.as_ ≤ ((k + 40 : Nat) : Int); omega
    ·show 0 ≤ J'.sy ∧ J'.sy ≤ x.ls + (J'.l.length : Nat); rw [e1'] at a10; exact a10
   have h64' : Hp X S64 (Lj'' ++ (L' ++ (C b58 (srowS (opW x)) :: (Lo' ++ (Ld' ++ (C (b11 + 11) [.int .u64 ab', .int .u64 as_'] :: F)))))) := h64.re (by intro p; simp only [List.countP_append]; omega)
   rw [callI_of (show evF E orcL (n + 6) (.fn 29) [.ptr (some (.rw b7, 0))] S64 = _ from last_eq (n + 5) hJI1 h64' hj'')]
   obtain ⟨a, c', Ll'', hs'', rfl⟩ := hj''
   refine ok_gO (ok_stn h64' (by simp [jrow]) (d := jrow (dev sb) (wrJ J' t (opW x)).sync a (wrJ J' t (opW x)).sync.l.length c') (by simp [splice, jrow, JM.sync]) (fun S69 h69 => ok_ret ⟨L', by rw [eT]; exact hb', fun he => absurd (by rw [eE]; exact cw) he, fun _ => ⟨b7, xs', oa', oc', Lo', Ld', _, rfl, hxs', eL.symm, hs', hd', by rw [eJ]; exact ⟨a, c', Ll'', hs'', rfl⟩, ?_⟩⟩))
   exact (h69.re (M := C b58 (srowS (opW x)) :: C (b11 + 11) [.int .u64 ab', .int .u64 as_'] :: (Lo' ++ (Ld' ++ (L' ++ (C b7 (jrow (dev sb) (wrJ J' t (opW x)).sync a (wrJ J' t (opW x)).sync.l.length c') :: Ll'' ++ F))))) (by intro p; simp only [List.countP_append, List.countP_cons, List.cons_append, C]; omega)).drop1.drop1
end
end Go.Jn.P
