/- What the document's codec of a journal does with a heap: entries and superblocks. -/
import Derived.Test.YtefpcbcbjnfhnaaJnW
set_option linter.unusedVariables false
set_option linter.unusedSimpArgs false
set_option maxRecDepth 4000
namespace Go.Jn
open Go.Gr

section
variable {X : Cx} {S : AS} {L F : List Ent} {b : Nat} {Q : AV → AS → Prop}

theorem be_inv (x : Int) : be 8 x.toNat = be 8 x.toNat := rfl

theorem rputE_ok (n : Nat) (hn : 100 < n) {e : Le} (hB : LeB e) {a : Option Pos} {l : Nat} {c : Cap} (h : Hp X S F) (hv : Vw X F a l c e.by_) :
    Ok (ev (n + 2) (.fn 9) [.agg (erow e a l c)] S) (BQ X F (putE e) (putEe e)) := by
  have hln := hv.ln
  rw [ev, F9 _ _ _ (oL rfl)]
  simp only [J9, b9_entry]
  have bad : ∀ (S' : AS) (M : List Ent), Hp X S' (M ++ F) → okE e = false → Ok (some (AV.tup [.sl none 0 (.ex 0), .int .i64 81], S')) (BQ X F (putE e) (putEe e)) := fun S' M hh he => by
    have e1 : putE e = [] := by simp [putE, he]
    have e2 : putEe e = 81 := by simp [putEe, he]
    rw [e1, e2]
    exact ok_ret ⟨none, .ex 0, [], rfl, .nil, hh.right⟩
  refine ok_ifO rfl (ok_newA h (fun b1 S2 h2 => ?_))
  refine ok_ldI h2 rfl (ok_cond (fun c1 => bad _ [_] h2 (okE_false fun hk => ?_)) (fun c1 => ok_ldI h2 rfl (ok_cond (fun c2 => bad _ [_] h2 (okE_false fun hk => ?_)) (fun c2 => ok_ldI h2 rfl (ok_cond (fun c3 => bad _ [_] h2 (okE_false fun hk => ?_)) (fun c3 => ?_))))))
  · simp only [beq_iff_eq] at c1; omega
  · simp only [beq_iff_eq] at c2; omega
  · simp only [beq_iff_eq] at c3; omega
  refine ok_ldI h2 rfl (ok_cond (fun d1 => bad _ [_] h2 (okE_false fun hk => ?_)) (fun d1 => ok_ldI h2 rfl (ok_cond (fun d2 => bad _ [_] h2 (okE_false fun hk => ?_)) (fun d2 => ok_ldI h2 rfl (ok_cond (fun d3 => bad _ [_] h2 (okE_false fun hk => ?_)) (fun d3 => ok_ldI h2 rfl (ok_cond (fun d4 => bad _ [_] h2 (okE_false fun hk => ?_)) (fun d4 => ?_))))))))
  · simp only [gt_iff_lt, decide_eq_true_eq] at d1; omega
  · simp only [gt_iff_lt, decide_eq_true_eq] at d2; omega
  · simp only [gt_iff_lt, decide_eq_true_eq] at d3; omega
  · simp only [gt_iff_lt, decide_eq_true_eq] at d4; omega
  refine ok_ldI h2 rfl (ok_cond (fun c5 => bad _ [_] h2 (okE_false fun hk => ?_)) (fun c5 => ok_ldI h2 rfl (ok_cond (fun c6 => bad _ [_] h2 (okE_false fun hk => ?_)) (fun c6 => ok_ldI h2 rfl (ok_cond (fun c7 => bad _ [_] h2 (okE_false fun hk => ?_)) (fun c7 => ok_ldI h2 rfl (ok_ldI h2 rfl (ok_cond (fun c8 => bad _ [_] h2 (okE_false fun hk => ?_)) (fun c8 => ok_ldL h2 rfl (ok_cond (fun c9 => bad _ [_] h2 (okE_false fun hk => ?_)) (fun c9 => ok_ldL h2 rfl (ok_cond (fun c10 => bad _ [_] h2 (okE_false fun hk => ?_)) (fun c10 => ?_)))))))))))))
  · simp only [decide_eq_true_eq] at c5; omega
  · simp only [gt_iff_lt, decide_eq_true_eq] at c6; omega
  · simp only [decide_eq_true_eq] at c7; omega
  · simp only [ge_iff_le, decide_eq_true_eq] at c8; omega
  · simp only [decide_eq_true_eq] at c9; omega
  · simp only [gt_iff_lt, decide_eq_true_eq] at c10; omega
  simp only [beq_eq_false_iff_ne, ne_eq, decide_eq_false_iff_not, gt_iff_lt, ge_iff_le] at c1 c2 c3 c5 c6 c7 c8 c9 c10 d1 d2 d3 d4
  have good : okE e = true := (okE_iff e).2 ⟨c1, c2, c3, by omega, by omega, by omega, by omega, by omega, by omega, by omega, by omega, by omega, by omega⟩
  have e1 : putE e = encE e := by simp [putE, good]
  have e2 : putEe e = 0 := by simp [putEe, good]
  rw [e1, e2]
  have g1 := hB.bo.1
  have g2 := hB.se.1
  have g3 := hB.po.1
  have g4 := hB.ls.1
  refine ok_drawA h2 [0] (by simp) (by simp) (fun b17 S18 h18 => ?_)
  have h18' : Hp X S18 ((b17 + 0, none) :: C b1 (erow e a l c) :: F) := h18
  refine ok_layA (b := b17 + 0) h18' (fun S19 h19 => ok_convLL h19 (by decide) (fun S20 h20 => ?_))
  have h20' : Hp X S20 ([C (b17 + 0) (bxs jlog).flatten] ++ (C b1 (erow e a l c) :: F)) := h20
  have s20 : SlG (some (.rw (b17 + 0), 0)) 4 (.ex 4) 1 (bxs jlog) [C (b17 + 0) (bxs jlog).flatten] := (SlR.of (b := b17 + 0) (bxs_all jlog) (n := 4) rfl (.inl rfl)).g
  refine ok_ldI h20' rfl (ok_ldI h18' rfl (ok_true (by simp [AV.beq]) ?_))
  obtain ⟨v, S24, e24, a24, c24, L24, rfl, s24, h24⟩ : Ok (evF E orcL (n + 1) (.fn 42) [.sl (some (.rw (b17 + 0), 0)) 4 (.ex 4), .int .u64 e.bo, .int .i64 8] S20) _ := rput_ok n hn h20' s20 (by decide) (x := e.bo.toNat) (by omega) (k := 8) (by decide) rfl
  rw [callL_of e24]
  refine ok_ldI h24 rfl (ok_ldI h20' rfl (ok_true (by simp [AV.beq]) (ok_ldI h18' rfl (ok_true (by simp [AV.beq]) ?_))))
  obtain ⟨v, S29, e29, a29, c29, L29, rfl, s29, h29⟩ : Ok (evF E orcL (n + 1) (.fn 42) [.sl a24 _ c24, .int .u64 e.se, .int .i64 8] S24) _ := rput_ok n hn h24 s24 (by simp [jlog]) (x := e.se.toNat) (by omega) (k := 8) (by decide) rfl
  rw [callL_of e29]
  refine ok_ldI h29 rfl ?_
  obtain ⟨v, S32, e32, a32, c32, L32, rfl, s32, h32⟩ : Ok (evF E orcL (n + 1) (.fn 42) [.sl a29 _ c29, .int .u64 e.po, .int .i64 8] S29) _ := rput_ok n hn h29 s29 (by simp [jlog]) (x := e.po.toNat) (by omega) (k := 8) (by decide) rfl
  rw [callL_of e32]
  refine ok_ldI h32 rfl (ok_ldI h29 rfl (ok_true (by simp [AV.beq]) ?_))
  obtain ⟨v, S36, e36, a36, c36, L36, rfl, s36, h36⟩ : Ok (evF E orcL (n + 1) (.fn 42) [.sl a32 _ c32, .int .u64 e.ls, .int .i64 8] S32) _ := rput_ok n hn h32 s32 (by simp [jlog]) (x := e.ls.toNat) (by omega) (k := 8) (by decide) rfl
  rw [callL_of e36]
  refine ok_ldI h36 rfl ?_
  rw [wu64 (n := e.pa) (by omega) (by omega)]
  obtain ⟨v, S39, e39, a39, c39, L39, rfl, s39, h39⟩ : Ok (evF E orcL (n + 1) (.fn 42) [.sl a36 _ c36, .int .u64 e.pa, .int .i64 2] S36) _ := rput_ok n hn h36 s36 (by simp [jlog]) (x := e.pa.toNat) (by omega) (k := 2) (by decide) rfl
  rw [callL_of e39]
  refine ok_ldI h39 rfl (ok_ldI h36 rfl (ok_true (by simp [AV.beq]) ?_))
  rw [wu64 (n := e.ps) (by omega) (by omega)]
  obtain ⟨v, S43, e43, a43, c43, L43, rfl, s43, h43⟩ : Ok (evF E orcL (n + 1) (.fn 42) [.sl a39 _ c39, .int .u64 e.ps, .int .i64 2] S39) _ := rput_ok n hn h39 s39 (by simp [jlog]) (x := e.ps.toNat) (by omega) (k := 2) (by decide) rfl
  rw [callL_of e43]
  refine ok_ldL h43 rfl (ok_ldL h39 rfl (ok_true (by simp [AV.beq]) (ok_ldL h36 rfl (ok_true (by simp [AV.beq]) (ok_true (by simp [AV.beq]) (ok_true (by simp [AV.beq]) ?_))))))
  rw [wu64 (n := ((l : Nat) : Int)) (by omega) (by omega)]
  obtain ⟨v, S48, e48, a48, c48, L48, rfl, s48, h48⟩ : Ok (evF E orcL (n + 1) (.fn 42) [.sl a43 _ c43, .int .u64 ((l : Nat) : Int), .int .i64 2] S43) _ := rput_ok n hn h43 s43 (by simp [jlog]) (x := l) rfl (k := 2) (by decide) rfl
  rw [callL_of e48]
  refine ok_zeros h48 s48 (k := 6) rfl (by simp [jlog]) (fun a51 c51 L51 S51 s51 h51 => ?_)
  refine ok_ldL h51 rfl (ok_ldL h48 rfl (ok_true (by simp [AV.beq]) ?_))
  have hv1 : Vw X (C b1 (erow e a l c) :: F) a l c e.by_ := hv.mono (fun x hx => by simp [hx])
  refine ok_bytes h51 s51 hv1 (by simp [jlog]; omega) (fun a55 c55 L55 S55 s55 h55 => ?_)
  have hlen : (jlog ++ be 8 e.bo.toNat ++ be 8 e.se.toNat ++ be 8 e.po.toNat ++ be 8 e.ls.toNat ++ be 2 e.pa.toNat ++ be 2 e.ps.toNat ++ be 2 l ++ zz 6 ++ e.by_).length = 48 + e.by_.length := by simp [jlog]; omega
  obtain ⟨v, S56, e56, a56, c56, L56, rfl, s56, h56⟩ : Ok (evF E orcL (n + 1) (.fn 43) [.sl a55 _ c55] S55) _ := rfilled_ok n h55 s55 (by rw [hlen]; omega)
  rw [callL_of e56]
  have he : jlog ++ be 8 e.bo.toNat ++ be 8 e.se.toNat ++ be 8 e.po.toNat ++ be 8 e.ls.toNat ++ be 2 e.pa.toNat ++ be 2 e.ps.toNat ++ be 2 l ++ zz 6 ++ e.by_ ++ zz (384 - (jlog ++ be 8 e.bo.toNat ++ be 8 e.se.toNat ++ be 8 e.po.toNat ++ be 8 e.ls.toNat ++ be 2 e.pa.toNat ++ be 2 e.ps.toNat ++ be 2 l ++ zz 6 ++ e.by_).length) = encE e := by
    rw [hlen, show 384 - (48 + e.by_.length) = 336 - e.by_.length by omega, encE, hdE, hln]
    simp only [List.append_assoc]
  rw [he] at s56 ⊢
  exact ok_ret ⟨a56, c56, L56, rfl, s56, h56.sub (List.Sublist.append_left (List.sublist_cons_self _ _) L56)⟩

theorem okS_false {x : Su} (h : ¬ (x.g ≠ 0 ∧ x.bo ≠ 0 ∧ x.g ≤ 4611686018427387904 ∧ x.bo ≤ 4611686018427387904 ∧ x.po ≤ 4611686018427387904 ∧ x.ls ≤ 4611686018427387904 ∧ x.ab ≤ 4611686018427387904 ∧ x.as_ ≤ 4611686018427387904)) : okS x = false := by
  cases hk : okS x with
  | false => rfl
  | true =>
    refine absurd ?_ h
    simpa [okS, Su.l, mxB, and_assoc] using hk
theorem okS_true {x : Su} (h : x.g ≠ 0 ∧ x.bo ≠ 0 ∧ x.g ≤ 4611686018427387904 ∧ x.bo ≤ 4611686018427387904 ∧ x.po ≤ 4611686018427387904 ∧ x.ls ≤ 4611686018427387904 ∧ x.ab ≤ 4611686018427387904 ∧ x.as_ ≤ 4611686018427387904) : okS x = true := by
  simpa [okS, Su.l, mxB, and_assoc] using h

theorem rputS_ok (n : Nat) (hn : 100 < n) {x : Su} (hB : ∀ y ∈ x.l, u64B y) (h : Hp X S F) :
    Ok (ev (n + 2) (.fn 11) [.agg (srowS x)] S) (BQ X F (putS x) (putSe x)) := by
  rw [ev, F11 _ _ _ (oL rfl)]
  simp only [J11, b11_entry]
  have bad : ∀ (S' : AS) (M : List Ent), Hp X S' (M ++ F) → okS x = false → Ok (some (AV.tup [.sl none 0 (.ex 0), .int .i64 81], S')) (BQ X F (putS x) (putSe x)) := fun S' M hh he => by
    have e1 : putS x = [] := by simp [putS, he]
    have e2 : putSe x = 81 := by simp [putSe, he]
    rw [e1, e2]
    exact ok_ret ⟨none, .ex 0, [], rfl, .nil, hh.right⟩
  refine ok_ifO rfl (ok_newA h (fun b1 S2 h2 => ?_))
  refine ok_ldI h2 rfl (ok_cond (fun c1 => bad _ [_] h2 (okS_false fun hk => ?_)) (fun c1 => ok_ldI h2 rfl (ok_cond (fun c2 => bad _ [_] h2 (okS_false fun hk => ?_)) (fun c2 => ?_))))
  · simp only [beq_iff_eq] at c1; omega
  · simp only [beq_iff_eq] at c2; omega
  refine ok_ldI h2 rfl (ok_cond (fun d1 => bad _ [_] h2 (okS_false fun hk => ?_)) (fun d1 => ok_ldI h2 rfl (ok_cond (fun d2 => bad _ [_] h2 (okS_false fun hk => ?_)) (fun d2 => ok_ldI h2 rfl (ok_cond (fun d3 => bad _ [_] h2 (okS_false fun hk => ?_)) (fun d3 => ok_ldI h2 rfl (ok_cond (fun d4 => bad _ [_] h2 (okS_false fun hk => ?_)) (fun d4 => ?_))))))))
  · simp only [gt_iff_lt, decide_eq_true_eq] at d1; omega
  · simp only [gt_iff_lt, decide_eq_true_eq] at d2; omega
  · simp only [gt_iff_lt, decide_eq_true_eq] at d3; omega
  · simp only [gt_iff_lt, decide_eq_true_eq] at d4; omega
  refine ok_ldI h2 rfl (ok_cond (fun d5 => bad _ [_] h2 (okS_false fun hk => ?_)) (fun d5 => ok_ldI h2 rfl (ok_cond (fun d6 => bad _ [_] h2 (okS_false fun hk => ?_)) (fun d6 => ?_))))
  · simp only [gt_iff_lt, decide_eq_true_eq] at d5; omega
  · simp only [gt_iff_lt, decide_eq_true_eq] at d6; omega
  simp only [beq_eq_false_iff_ne, ne_eq, decide_eq_false_iff_not, gt_iff_lt] at c1 c2 d1 d2 d3 d4 d5 d6
  have good : okS x = true := okS_true ⟨c1, c2, by omega, by omega, by omega, by omega, by omega, by omega⟩
  have e1 : putS x = encS x := by simp [putS, good]
  have e2 : putSe x = 0 := by simp [putSe, good]
  rw [e1, e2]
  have g1 := (hB x.g (by simp [Su.l])).1
  have g2 := (hB x.bo (by simp [Su.l])).1
  have g3 := (hB x.po (by simp [Su.l])).1
  have g4 := (hB x.ls (by simp [Su.l])).1
  have g5 := (hB x.ab (by simp [Su.l])).1
  have g6 := (hB x.as_ (by simp [Su.l])).1
  refine ok_drawA h2 [0] (by simp) (by simp) (fun b17 S12 h12 => ?_)
  have h12' : Hp X S12 ((b17 + 0, none) :: C b1 (srowS x) :: F) := h12
  refine ok_layA (b := b17 + 0) h12' (fun S13 h13 => ok_convLL h13 (by decide) (fun S14 h14 => ?_))
  have h14' : Hp X S14 ([C (b17 + 0) (bxs jsup).flatten] ++ (C b1 (srowS x) :: F)) := h14
  have s14 : SlG (some (.rw (b17 + 0), 0)) 4 (.ex 4) 1 (bxs jsup) [C (b17 + 0) (bxs jsup).flatten] := (SlR.of (b := b17 + 0) (bxs_all jsup) (n := 4) rfl (.inl rfl)).g
  refine ok_ldI h14' rfl (ok_ldI h12' rfl (ok_true (by simp [AV.beq]) ?_))
  obtain ⟨v, S18, e18, a18, c18, L18, rfl, s18, h18⟩ : Ok (evF E orcL (n + 1) (.fn 42) [.sl (some (.rw (b17 + 0), 0)) 4 (.ex 4), .int .u64 x.g, .int .i64 8] S14) _ := rput_ok n hn h14' s14 (by decide) (x := x.g.toNat) (by omega) (k := 8) (by decide) rfl
  rw [callL_of e18]
  refine ok_ldI h18 rfl (ok_ldI h14' rfl (ok_true (by simp [AV.beq]) (ok_ldI h12' rfl (ok_true (by simp [AV.beq]) ?_))))
  obtain ⟨v, S23, e23, a23, c23, L23, rfl, s23, h23⟩ : Ok (evF E orcL (n + 1) (.fn 42) [.sl a18 _ c18, .int .u64 x.bo, .int .i64 8] S18) _ := rput_ok n hn h18 s18 (by simp [jsup]) (x := x.bo.toNat) (by omega) (k := 8) (by decide) rfl
  rw [callL_of e23]
  refine ok_ldI h23 rfl ?_
  obtain ⟨v, S26, e26, a26, c26, L26, rfl, s26, h26⟩ : Ok (evF E orcL (n + 1) (.fn 42) [.sl a23 _ c23, .int .u64 x.po, .int .i64 8] S23) _ := rput_ok n hn h23 s23 (by simp [jsup]) (x := x.po.toNat) (by omega) (k := 8) (by decide) rfl
  rw [callL_of e26]
  refine ok_ldI h26 rfl (ok_ldI h23 rfl (ok_true (by simp [AV.beq]) ?_))
  obtain ⟨v, S30, e30, a30, c30, L30, rfl, s30, h30⟩ : Ok (evF E orcL (n + 1) (.fn 42) [.sl a26 _ c26, .int .u64 x.ls, .int .i64 8] S26) _ := rput_ok n hn h26 s26 (by simp [jsup]) (x := x.ls.toNat) (by omega) (k := 8) (by decide) rfl
  rw [callL_of e30]
  refine ok_ldI h30 rfl ?_
  obtain ⟨v, S33, e33, a33, c33, L33, rfl, s33, h33⟩ : Ok (evF E orcL (n + 1) (.fn 42) [.sl a30 _ c30, .int .u64 x.ab, .int .i64 8] S30) _ := rput_ok n hn h30 s30 (by simp [jsup]) (x := x.ab.toNat) (by omega) (k := 8) (by decide) rfl
  rw [callL_of e33]
  refine ok_ldI h33 rfl (ok_ldI h30 rfl (ok_true (by simp [AV.beq]) ?_))
  obtain ⟨v, S37, e37, a37, c37, L37, rfl, s37, h37⟩ : Ok (evF E orcL (n + 1) (.fn 42) [.sl a33 _ c33, .int .u64 x.as_, .int .i64 8] S33) _ := rput_ok n hn h33 s33 (by simp [jsup]) (x := x.as_.toNat) (by omega) (k := 8) (by decide) rfl
  rw [callL_of e37]
  have hlen : (jsup ++ be 8 x.g.toNat ++ be 8 x.bo.toNat ++ be 8 x.po.toNat ++ be 8 x.ls.toNat ++ be 8 x.ab.toNat ++ be 8 x.as_.toNat).length = 52 := by simp [jsup]
  obtain ⟨v, S39, e39, a39, c39, L39, rfl, s39, h39⟩ : Ok (evF E orcL (n + 1) (.fn 43) [.sl a37 _ c37] S37) _ := rfilled_ok n h37 s37 (by rw [hlen]; omega)
  rw [callL_of e39]
  have he : jsup ++ be 8 x.g.toNat ++ be 8 x.bo.toNat ++ be 8 x.po.toNat ++ be 8 x.ls.toNat ++ be 8 x.ab.toNat ++ be 8 x.as_.toNat ++ zz (384 - (jsup ++ be 8 x.g.toNat ++ be 8 x.bo.toNat ++ be 8 x.po.toNat ++ be 8 x.ls.toNat ++ be 8 x.ab.toNat ++ be 8 x.as_.toNat).length) = encS x := by
    rw [hlen, encS, Su.l]
    simp only [bes_cons, bes_nil, List.append_assoc, List.append_nil, List.nil_append]
  rw [he] at s39 ⊢
  exact ok_ret ⟨a39, c39, L39, rfl, s39, h39.sub (List.Sublist.append_left (List.sublist_cons_self _ _) L39)⟩

end

end Go.Jn
