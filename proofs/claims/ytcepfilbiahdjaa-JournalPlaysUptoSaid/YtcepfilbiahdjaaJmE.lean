/- What the document's codec of a journal does with a heap: entries, superblocks, transactions (JournalPlays). -/
import Derived.Test.YtcepfilbiahdjaaJmB
import Derived.Test.YtcepfilbiahdjaaJmD
set_option linter.unusedVariables false
set_option linter.unusedSimpArgs false
set_option maxRecDepth 4000
namespace Go.Jn
open Go.Gr
section
variable {X : Cx} {S : AS} {L F : List Ent} {b : Nat} {Q : AV → AS → Prop}
theorem be_succ (m x : Nat) : be (m + 1) x = UInt8.ofNat (x / 256 ^ m) :: be m x := rfl
theorem rput_loop (n0 : Nat) (call : CallA) {x : Nat} : ∀ (m i : Nat) (s : List UInt8) (a : OP) (l : Nat) (c : Cap) (L : List Ent) (S : AS), i ≤ 8 → i < m → s.length + i ≤ 1048576 → SlG a l c 1 (bxs s) L → Hp X S (L ++ F) →
 Ok (J32_lZAR call n0 m a l c (x : Int) ((i : Int) - 1) S) fun v S' => ∃ (a' : OP) (c' : Cap) (L' : List Ent), v = .sl a' (s ++ be i x).length c' ∧ SlG a' (s ++ be i x).length c' 1 (bxs (s ++ be i x)) L' ∧ Hp X S' (L' ++ F)
 | 0, i, s, a, l, c, L, S, hi, hm, hl, hs, h => by omega
 | m + 1, i, s, a, l, c, L, S, hi, hm, hl, hs, h => by
   have hln := hs.len
   rw [bxs_len] at hln
   rw [J32_lZAR_succ]
   simp only [b32_lZAR]
   cases i with
   | zero =>
     refine ok_false (by simp) (ok_ret ⟨a, c, L, ?_, ?_, h⟩)
     ·simp [be, hln]
     ·simpa [be, hln] using hs
   | succ i =>
     have hw : ((i + 1 : Nat) : Int) - 1 = (i : Nat) := by omega
     rw [hw, wn (x := (8 : Int) * ((i : Nat) : Int)) (n := 8 * i) (by omega) (by omega), wu64 (n := ((8 * i : Nat) : Int)) (by omega) (by omega)]
     rw [shrk (show i < 8 by omega) rfl, wu8]
     refine ok_true (by simp) (ok_nneg (by omega) (ok_newA h (fun b1 S1 h1 => ?_)))
     have h1' : Hp X S1 (L ++ (C b1 (ofBytes [UInt8.ofNat (x / 256 ^ i)]) :: F)) := h1.re (by intro p; simp only [List.countP_append, List.countP_cons, C, ofBytes, List.map_cons, List.map_nil]; omega)
     have hv : Vw X (C b1 (ofBytes [UInt8.ofNat (x / 256 ^ i)]) :: F) (some (.rw b1, 0)) 1 (.ex 1) [UInt8.ofNat (x / 256 ^ i)] := ⟨.rw (c := ofBytes [UInt8.ofNat (x / 256 ^ i)]) List.mem_cons_self (by simp) rfl, rfl, 1, .inl rfl, Nat.le_refl _⟩
     refine ok_bytes h1' hs hv (by simp; omega) (fun a3 c3 L3 S3 hs3 h3 => ?_)
     rw [wz (z := (i : Int) - 1) rfl (by omega) (by omega)]
     have := rput_loop (x := x) n0 call m i (s ++ [UInt8.ofNat (x / 256 ^ i)]) a3 _ c3 L3 S3 (by omega) (by omega) (by simp; omega) hs3 (h3.re (M := C b1 (ofBytes [UInt8.ofNat (x / 256 ^ i)]) :: (L3 ++ F)) (by intro p; simp only [List.countP_append, List.countP_cons, C]; omega)).drop1
     rw [List.append_assoc, List.singleton_append, ← be_succ] at this
     exact this
theorem rput_ok (n : Nat) (hn : 100 < n) {s : List UInt8} {a : OP} {l : Nat} {c : Cap} (h : Hp X S (L ++ F)) (hs : SlG a l c 1 (bxs s) L) (hsl : s.length ≤ 65536) {x : Nat} {xi : Int} (hxi : xi = x) {k : Nat} (hk : k ≤ 8) {ki : Int} (hki : ki = k) :
 Ok (ev (n + 1) (.fn 32) [.sl a l c, .int .u64 xi, .int .i64 ki] S) fun v S' => ∃ (a' : OP) (c' : Cap) (L' : List Ent), v = .sl a' (s ++ be k x).length c' ∧ SlG a' (s ++ be k x).length c' 1 (bxs (s ++ be k x)) L' ∧ Hp X S' (L' ++ F) := by
 subst hki
 subst hxi
 rw [ev, F32 _ _ _ _ _ _ _ (oL rfl)]
 simp only [J32, b32_entry]
 rw [wz (z := (k : Int) - 1) rfl (by omega) (by omega)]
 exact rput_loop n (evF E orcL n) n k s a l c L S hk (by omega) (by omega) hs h
theorem rfilled_ok (n : Nat) {s : List UInt8} {a : OP} {l : Nat} {c : Cap} (h : Hp X S (L ++ F)) (hs : SlG a l c 1 (bxs s) L) (hsl : s.length ≤ 384) :
 Ok (ev (n + 1) (.fn 58) [.sl a l c] S) fun v S' => ∃ (a' : OP) (c' : Cap) (L' : List Ent), v = .sl a' (s ++ zz (384 - s.length)).length c' ∧ SlG a' (s ++ zz (384 - s.length)).length c' 1 (bxs (s ++ zz (384 - s.length))) L' ∧ Hp X S' (L' ++ F) := by
 have hl := hs.len
 rw [bxs_len] at hl
 subst hl
 rw [ev, F58 _ _ _ _ _ (oL rfl)]
 simp only [J58, b58_entry]
 exact ok_zeros h hs (k := 384 - s.length) (wz (by omega) (by omega) (by omega)) (by omega) (fun a1 c1 L1 S1 hs1 h1 => ok_ret ⟨a1, c1, L1, rfl, hs1, h1⟩)
theorem number_loop (n0 : Nat) (call : CallA) {a : OP} {c : Cap} {s : List UInt8} {at_ k : Nat} (hr : RdR X L a (ofBytes s)) (h : Hp X S L) (hl : s.length ≤ 1048576) (hk : k ≤ 8) (hat : at_ + k ≤ s.length) : ∀ (m i : Nat), i ≤ k → k - i < m →
 Ok (J73_lZAS call n0 m a s.length c at_ k ((vl (win8 s at_ i) : Nat) : Int) i S) fun v S' => v = .int .u64 ((vl (win8 s at_ k) : Nat) : Int) ∧ S' = S
 | 0, i, hi, hm => by omega
 | m + 1, i, hi, hm => by
   rw [J73_lZAS_succ]
   simp only [b73_lZAS]
   refine ok_cond (fun hc => ?_) (fun hc => ok_ret ⟨?_, rfl⟩)
   ·simp only [decide_eq_true_eq] at hc
    have hlt : at_ + i < s.length := by omega
    obtain ⟨p, rfl⟩ := hr.some_of (by intro he; have := congrArg List.length he; simp at this; rw [this] at hlt; simp at hlt)
    obtain ⟨x, hx⟩ : ∃ x, s[at_ + i]? = some x := ⟨_, List.getElem?_eq_getElem hlt⟩
    rw [wn (x := ((at_ : Nat) : Int) + ((i : Nat) : Int)) (n := at_ + i) (by omega) (by omega), ixSl_at rfl hlt]
    simp only [Nat.mul_one]
    rw [hr.ldI h (k := .u8) (v := (x.toNat : Int)) (by simp [ofBytes, hx])]
    have hv : vl (win8 s at_ i) < 72057594037927936 := by
     refine Nat.lt_of_lt_of_le (vl_lt _) (Nat.le_trans (Nat.pow_le_pow_right (by decide) (?_ : _ ≤ 7)) (by decide))
     simp [win8]; omega
    rw [wn (x := (i : Int) + 1) (n := i + 1) (by omega) (by omega), or8 x hv, ← vl_snoc]
    have e : win8 s at_ i ++ [x] = win8 s at_ (i + 1) := by
     rw [win8, win8, List.take_add_one, List.getElem?_drop, hx]; rfl
    rw [e]
    exact number_loop n0 call hr h hl hk hat m (i + 1) (by omega) (by omega)
   ·simp only [decide_eq_false_iff_not] at hc
    have : i = k := by omega
    subst this; rfl
theorem number_eq (n : Nat) (hn : 100 < n) {a : OP} {l : Nat} {c : Cap} {s : List UInt8} {at_ k : Nat} {xi ki : Int} (hx : xi = at_) (hki : ki = k) (hv : Vw X L a l c s) (h : Hp X S L) (hl : s.length ≤ 1048576) (hk : k ≤ 8) (hat : at_ + k ≤ s.length) : ev (n + 1) (.fn 73) [.sl a l c, .int .i64 xi, .int .i64 ki] S = some (.int .u64 ((vl (win8 s at_ k) : Nat) : Int), S) := by
 subst hx; subst hki
 apply ok_eq
 rw [ev, F73 _ _ _ _ _ _ _ (oL rfl)]
 simp only [J73, b73_entry, hv.ln]
 have := number_loop (at_ := at_) (k := k) (c := c) n (evF E orcL n) hv.r h hl hk hat n 0 (by omega) (by omega)
 simpa [win8, vl, vlF] using this
end
end Go.Jn
namespace Go.Jn
open Go.Gr
section
variable {X : Cx} {S : AS} {L F : List Ent} {b : Nat} {Q : AV → AS → Prop}
theorem rputE_ok (n : Nat) (hn : 100 < n) {e : Le} (hB : LeB e) {a : OP} {l : Nat} {c : Cap} (h : Hp X S F) (hv : Vw X F a l c e.by_) :
 Ok (ev (n + 2) (.fn 66) [.agg (erow e a l c)] S) (BQ X F (putE e) (putEe e)) := by
 have hln := hv.ln
 rw [ev, F66 _ _ _ (oL rfl)]
 simp only [J66, b66_entry]
 have bad : ∀ (S' : AS) (M : List Ent), Hp X S' (M ++ F) → okE e = false → Ok (some (AV.tup [.sl none 0 (.ex 0), .int .i64 81], S')) (BQ X F (putE e) (putEe e)) := fun S' M hh he => by
  have e1 : putE e = [] := by simp [putE, he]
  have e2 : putEe e = 81 := by simp [putEe, he]
  rw [e1, e2]
  exact ok_ret ⟨none, .ex 0, [], rfl, .nil, hh.right⟩
 refine ok_ifO rfl (ok_newA h (fun b1 S2 h2 => ?_))
 refine ok_ldI h2 rfl (ok_cond (fun c1 => bad _ [_] h2 (okE_false fun hk => ?_)) (fun c1 => ok_ldI h2 rfl (ok_cond (fun c2 => bad _ [_] h2 (okE_false fun hk => ?_)) (fun c2 => ok_ldI h2 rfl (ok_cond (fun c3 => bad _ [_] h2 (okE_false fun hk => ?_)) (fun c3 => ?_))))))
 ·simp only [beq_iff_eq] at c1; omega
 ·simp only [beq_iff_eq] at c2; omega
 ·simp only [beq_iff_eq] at c3; omega
 refine ok_ldI h2 rfl (ok_cond (fun d1 => bad _ [_] h2 (okE_false fun hk => ?_)) (fun d1 => ok_ldI h2 rfl (ok_cond (fun d2 => bad _ [_] h2 (okE_false fun hk => ?_)) (fun d2 => ok_ldI h2 rfl (ok_cond (fun d3 => bad _ [_] h2 (okE_false fun hk => ?_)) (fun d3 => ok_ldI h2 rfl (ok_cond (fun d4 => bad _ [_] h2 (okE_false fun hk => ?_)) (fun d4 => ?_))))))))
 ·simp only [gt_iff_lt, decide_eq_true_eq] at d1; omega
 ·simp only [gt_iff_lt, decide_eq_true_eq] at d2; omega
 ·simp only [gt_iff_lt, decide_eq_true_eq] at d3; omega
 ·simp only [gt_iff_lt, decide_eq_true_eq] at d4; omega
 refine ok_ldI h2 rfl (ok_cond (fun c5 => bad _ [_] h2 (okE_false fun hk => ?_)) (fun c5 => ok_ldI h2 rfl (ok_cond (fun c6 => bad _ [_] h2 (okE_false fun hk => ?_)) (fun c6 => ok_ldI h2 rfl (ok_cond (fun c7 => bad _ [_] h2 (okE_false fun hk => ?_)) (fun c7 => ok_ldI h2 rfl (ok_ldI h2 rfl (ok_cond (fun c8 => bad _ [_] h2 (okE_false fun hk => ?_)) (fun c8 => ok_ldL h2 rfl (ok_cond (fun c9 => bad _ [_] h2 (okE_false fun hk => ?_)) (fun c9 => ok_ldL h2 rfl (ok_cond (fun c10 => bad _ [_] h2 (okE_false fun hk => ?_)) (fun c10 => ?_)))))))))))))
 ·simp only [decide_eq_true_eq] at c5; omega
 ·simp only [gt_iff_lt, decide_eq_true_eq] at c6; omega
 ·simp only [decide_eq_true_eq] at c7; omega
 ·simp only [ge_iff_le, decide_eq_true_eq] at c8; omega
 ·simp only [decide_eq_true_eq] at c9; omega
 ·simp only [gt_iff_lt, decide_eq_true_eq] at c10; omega
 simp only [beq_eq_false_iff_ne, ne_eq, decide_eq_false_iff_not, gt_iff_lt, ge_iff_le] at c1 c2 c3 c5 c6 c7 c8 c9 c10 d1 d2 d3 d4
 have good : okE e = true := (okE_iff e).2 ⟨c1, c2, c3, by omega, by omega, by omega, by omega, by omega, by omega, by omega, by omega, by omega, by omega⟩
 have e1 : putE e = encE e := by simp [putE, good]
 have e2 : putEe e = 0 := by simp [putEe, good]
 rw [e1, e2]
 have g1 := hB.bo.1
 have g2 := hB.se.1
 have g3 := hB.po.1
 have g4 := hB.ls.1
 refine ok_drawA h2 [0] (by simp) (by simp) (fun b17 S18 h18 => ?_)
 have h18' : Hp X S18 ((b17 + 0, none) :: C b1 (erow e a l c) :: F) := h18
 refine ok_layA (b := b17 + 0) h18' (fun S19 h19 => ok_convLL h19 (by decide) (fun S20 h20 => ?_))
 have h20' : Hp X S20 ([C (b17 + 0) (bxs jlog).flatten] ++ (C b1 (erow e a l c) :: F)) := h20
 have s20 : SlG (some (.rw (b17 + 0), 0)) 4 (.ex 4) 1 (bxs jlog) [C (b17 + 0) (bxs jlog).flatten] := (SlR.of (b := b17 + 0) (bxs_all jlog) (n := 4) rfl (.inl rfl)).g
 refine ok_ldI h20' rfl (ok_ldI h18' rfl (ok_true (by simp [AV.beq]) ?_))
 obtain ⟨v, S24, e24, a24, c24, L24, rfl, s24, h24⟩ : Ok (evF E orcL (n + 1) (.fn 32) [.sl (some (.rw (b17 + 0), 0)) 4 (.ex 4), .int .u64 e.bo, .int .i64 8] S20) _ := rput_ok n hn h20' s20 (by decide) (x := e.bo.toNat) (by omega) (k := 8) (by decide) rfl
 rw [callL_of e24]
 refine ok_ldI h24 rfl (ok_ldI h20' rfl (ok_true (by simp [AV.beq]) (ok_ldI h18' rfl (ok_true (by simp [AV.beq]) ?_))))
 obtain ⟨v, S29, e29, a29, c29, L29, rfl, s29, h29⟩ : Ok (evF E orcL (n + 1) (.fn 32) [.sl a24 _ c24, .int .u64 e.se, .int .i64 8] S24) _ := rput_ok n hn h24 s24 (by simp [jlog]) (x := e.se.toNat) (by omega) (k := 8) (by decide) rfl
 rw [callL_of e29]
 refine ok_ldI h29 rfl ?_
 obtain ⟨v, S32, e32, a32, c32, L32, rfl, s32, h32⟩ : Ok (evF E orcL (n + 1) (.fn 32) [.sl a29 _ c29, .int .u64 e.po, .int .i64 8] S29) _ := rput_ok n hn h29 s29 (by simp [jlog]) (x := e.po.toNat) (by omega) (k := 8) (by decide) rfl
 rw [callL_of e32]
 refine ok_ldI h32 rfl (ok_ldI h29 rfl (ok_true (by simp [AV.beq]) ?_))
 obtain ⟨v, S36, e36, a36, c36, L36, rfl, s36, h36⟩ : Ok (evF E orcL (n + 1) (.fn 32) [.sl a32 _ c32, .int .u64 e.ls, .int .i64 8] S32) _ := rput_ok n hn h32 s32 (by simp [jlog]) (x := e.ls.toNat) (by omega) (k := 8) (by decide) rfl
 rw [callL_of e36]
 refine ok_ldI h36 rfl ?_
 rw [wu64 (n := e.pa) (by omega) (by omega)]
 obtain ⟨v, S39, e39, a39, c39, L39, rfl, s39, h39⟩ : Ok (evF E orcL (n + 1) (.fn 32) [.sl a36 _ c36, .int .u64 e.pa, .int .i64 2] S36) _ := rput_ok n hn h36 s36 (by simp [jlog]) (x := e.pa.toNat) (by omega) (k := 2) (by decide) rfl
 rw [callL_of e39]
 refine ok_ldI h39 rfl (ok_ldI h36 rfl (ok_true (by simp [AV.beq]) ?_))
 rw [wu64 (n := e.ps) (by omega) (by omega)]
 obtain ⟨v, S43, e43, a43, c43, L43, rfl, s43, h43⟩ : Ok (evF E orcL (n + 1) (.fn 32) [.sl a39 _ c39, .int .u64 e.ps, .int .i64 2] S39) _ := rput_ok n hn h39 s39 (by simp [jlog]) (x := e.ps.toNat) (by omega) (k := 2) (by decide) rfl
 rw [callL_of e43]
 refine ok_ldL h43 rfl (ok_ldL h39 rfl (ok_true (by simp [AV.beq]) (ok_ldL h36 rfl (ok_true (by simp [AV.beq]) (ok_true (by simp [AV.beq]) (ok_true (by simp [AV.beq]) ?_))))))
 rw [wu64 (n := ((l : Nat) : Int)) (by omega) (by omega)]
 obtain ⟨v, S48, e48, a48, c48, L48, rfl, s48, h48⟩ : Ok (evF E orcL (n + 1) (.fn 32) [.sl a43 _ c43, .int .u64 ((l : Nat) : Int), .int .i64 2] S43) _ := rput_ok n hn h43 s43 (by simp [jlog]) (x := l) rfl (k := 2) (by decide) rfl
 rw [callL_of e48]
 refine ok_zeros h48 s48 (k := 6) rfl (by simp [jlog]) (fun a51 c51 L51 S51 s51 h51 => ?_)
 refine ok_ldL h51 rfl (ok_ldL h48 rfl (ok_true (by simp [AV.beq]) ?_))
 have hv1 : Vw X (C b1 (erow e a l c) :: F) a l c e.by_ := hv.mono (fun x hx => by simp [hx])
 refine ok_bytes h51 s51 hv1 (by simp [jlog]; omega) (fun a55 c55 L55 S55 s55 h55 => ?_)
 have hlen : (jlog ++ be 8 e.bo.toNat ++ be 8 e.se.toNat ++ be 8 e.po.toNat ++ be 8 e.ls.toNat ++ be 2 e.pa.toNat ++ be 2 e.ps.toNat ++ be 2 l ++ zz 6 ++ e.by_).length = 48 + e.by_.length := by simp [jlog]; omega
 obtain ⟨v, S56, e56, a56, c56, L56, rfl, s56, h56⟩ : Ok (evF E orcL (n + 1) (.fn 58) [.sl a55 _ c55] S55) _ := rfilled_ok n h55 s55 (by rw [hlen]; omega)
 rw [callL_of e56]
 have he : jlog ++ be 8 e.bo.toNat ++ be 8 e.se.toNat ++ be 8 e.po.toNat ++ be 8 e.ls.toNat ++ be 2 e.pa.toNat ++ be 2 e.ps.toNat ++ be 2 l ++ zz 6 ++ e.by_ ++ zz (384 - (jlog ++ be 8 e.bo.toNat ++ be 8 e.se.toNat ++ be 8 e.po.toNat ++ be 8 e.ls.toNat ++ be 2 e.pa.toNat ++ be 2 e.ps.toNat ++ be 2 l ++ zz 6 ++ e.by_).length) = encE e := by
  rw [hlen, show 384 - (48 + e.by_.length) = 336 - e.by_.length by omega, encE, hdE, hln]
  simp only [List.append_assoc]
 rw [he] at s56 ⊢
 exact ok_ret ⟨a56, c56, L56, rfl, s56, h56.sub (List.Sublist.append_left (List.sublist_cons_self _ _) L56)⟩
theorem okS_false {x : Su} (h : ¬ (x.g ≠ 0 ∧ x.bo ≠ 0 ∧ x.g ≤ 4611686018427387904 ∧ x.bo ≤ 4611686018427387904 ∧ x.po ≤ 4611686018427387904 ∧ x.ls ≤ 4611686018427387904 ∧ x.ab ≤ 4611686018427387904 ∧ x.as_ ≤ 4611686018427387904)) : okS x = false := by
 cases hk : okS x with
 | false => rfl
 | true =>
   refine absurd ?_ h
   simpa [okS, Su.l, mxB, and_assoc] using hk
theorem okS_true {x : Su} (h : x.g ≠ 0 ∧ x.bo ≠ 0 ∧ x.g ≤ 4611686018427387904 ∧ x.bo ≤ 4611686018427387904 ∧ x.po ≤ 4611686018427387904 ∧ x.ls ≤ 4611686018427387904 ∧ x.ab ≤ 4611686018427387904 ∧ x.as_ ≤ 4611686018427387904) : okS x = true := by
 simpa [okS, Su.l, mxB, and_assoc] using h
theorem rputS_ok (n : Nat) (hn : 100 < n) {x : Su} (hB : ∀ y ∈ x.l, u64B y) (h : Hp X S F) :
 Ok (ev (n + 2) (.fn 45) [.agg (srowS x)] S) (BQ X F (putS x) (putSe x)) := by
 rw [ev, F45 _ _ _ (oL rfl)]
 simp only [J45, b45_entry]
 have bad : ∀ (S' : AS) (M : List Ent), Hp X S' (M ++ F) → okS x = false → Ok (some (AV.tup [.sl none 0 (.ex 0), .int .i64 81], S')) (BQ X F (putS x) (putSe x)) := fun S' M hh he => by
  have e1 : putS x = [] := by simp [putS, he]
  have e2 : putSe x = 81 := by simp [putSe, he]
  rw [e1, e2]
  exact ok_ret ⟨none, .ex 0, [], rfl, .nil, hh.right⟩
 refine ok_ifO rfl (ok_newA h (fun b1 S2 h2 => ?_))
 refine ok_ldI h2 rfl (ok_cond (fun c1 => bad _ [_] h2 (okS_false fun hk => ?_)) (fun c1 => ok_ldI h2 rfl (ok_cond (fun c2 => bad _ [_] h2 (okS_false fun hk => ?_)) (fun c2 => ?_))))
 ·simp only [beq_iff_eq] at c1; omega
 ·simp only [beq_iff_eq] at c2; omega
 refine ok_ldI h2 rfl (ok_cond (fun d1 => bad _ [_] h2 (okS_false fun hk => ?_)) (fun d1 => ok_ldI h2 rfl (ok_cond (fun d2 => bad _ [_] h2 (okS_false fun hk => ?_)) (fun d2 => ok_ldI h2 rfl (ok_cond (fun d3 => bad _ [_] h2 (okS_false fun hk => ?_)) (fun d3 => ok_ldI h2 rfl (ok_cond (fun d4 => bad _ [_] h2 (okS_false fun hk => ?_)) (fun d4 => ?_))))))))
 ·simp only [gt_iff_lt, decide_eq_true_eq] at d1; omega
 ·simp only [gt_iff_lt, decide_eq_true_eq] at d2; omega
 ·simp only [gt_iff_lt, decide_eq_true_eq] at d3; omega
 ·simp only [gt_iff_lt, decide_eq_true_eq] at d4; omega
 refine ok_ldI h2 rfl (ok_cond (fun d5 => bad _ [_] h2 (okS_false fun hk => ?_)) (fun d5 => ok_ldI h2 rfl (ok_cond (fun d6 => bad _ [_] h2 (okS_false fun hk => ?_)) (fun d6 => ?_))))
 ·simp only [gt_iff_lt, decide_eq_true_eq] at d5; omega
 ·simp only [gt_iff_lt, decide_eq_true_eq] at d6; omega
 simp only [beq_eq_false_iff_ne, ne_eq, decide_eq_false_iff_not, gt_iff_lt] at c1 c2 d1 d2 d3 d4 d5 d6
 have good : okS x = true := okS_true ⟨c1, c2, by omega, by omega, by omega, by omega, by omega, by omega⟩
 have e1 : putS x = encS x := by simp [putS, good]
 have e2 : putSe x = 0 := by simp [putSe, good]
 rw [e1, e2]
 have g1 := (hB x.g (by simp [Su.l])).1
 have g2 := (hB x.bo (by simp [Su.l])).1
 have g3 := (hB x.po (by simp [Su.l])).1
 have g4 := (hB x.ls (by simp [Su.l])).1
 have g5 := (hB x.ab (by simp [Su.l])).1
 have g6 := (hB x.as_ (by simp [Su.l])).1
 refine ok_drawA h2 [0] (by simp) (by simp) (fun b17 S12 h12 => ?_)
 have h12' : Hp X S12 ((b17 + 0, none) :: C b1 (srowS x) :: F) := h12
 refine ok_layA (b := b17 + 0) h12' (fun S13 h13 => ok_convLL h13 (by decide) (fun S14 h14 => ?_))
 have h14' : Hp X S14 ([C (b17 + 0) (bxs jsup).flatten] ++ (C b1 (srowS x) :: F)) := h14
 have s14 : SlG (some (.rw (b17 + 0), 0)) 4 (.ex 4) 1 (bxs jsup) [C (b17 + 0) (bxs jsup).flatten] := (SlR.of (b := b17 + 0) (bxs_all jsup) (n := 4) rfl (.inl rfl)).g
 refine ok_ldI h14' rfl (ok_ldI h12' rfl (ok_true (by simp [AV.beq]) ?_))
 obtain ⟨v, S18, e18, a18, c18, L18, rfl, s18, h18⟩ : Ok (evF E orcL (n + 1) (.fn 32) [.sl (some (.rw (b17 + 0), 0)) 4 (.ex 4), .int .u64 x.g, .int .i64 8] S14) _ := rput_ok n hn h14' s14 (by decide) (x := x.g.toNat) (by omega) (k := 8) (by decide) rfl
 rw [callL_of e18]
 refine ok_ldI h18 rfl (ok_ldI h14' rfl (ok_true (by simp [AV.beq]) (ok_ldI h12' rfl (ok_true (by simp [AV.beq]) ?_))))
 obtain ⟨v, S23, e23, a23, c23, L23, rfl, s23, h23⟩ : Ok (evF E orcL (n + 1) (.fn 32) [.sl a18 _ c18, .int .u64 x.bo, .int .i64 8] S18) _ := rput_ok n hn h18 s18 (by simp [jsup]) (x := x.bo.toNat) (by omega) (k := 8) (by decide) rfl
 rw [callL_of e23]
 refine ok_ldI h23 rfl ?_
 obtain ⟨v, S26, e26, a26, c26, L26, rfl, s26, h26⟩ : Ok (evF E orcL (n + 1) (.fn 32) [.sl a23 _ c23, .int .u64 x.po, .int .i64 8] S23) _ := rput_ok n hn h23 s23 (by simp [jsup]) (x := x.po.toNat) (by omega) (k := 8) (by decide) rfl
 rw [callL_of e26]
 refine ok_ldI h26 rfl (ok_ldI h23 rfl (ok_true (by simp [AV.beq]) ?_))
 obtain ⟨v, S30, e30, a30, c30, L30, rfl, s30, h30⟩ : Ok (evF E orcL (n + 1) (.fn 32) [.sl a26 _ c26, .int .u64 x.ls, .int .i64 8] S26) _ := rput_ok n hn h26 s26 (by simp [jsup]) (x := x.ls.toNat) (by omega) (k := 8) (by decide) rfl
 rw [callL_of e30]
 refine ok_ldI h30 rfl ?_
 obtain ⟨v, S33, e33, a33, c33, L33, rfl, s33, h33⟩ : Ok (evF E orcL (n + 1) (.fn 32) [.sl a30 _ c30, .int .u64 x.ab, .int .i64 8] S30) _ := rput_ok n hn h30 s30 (by simp [jsup]) (x := x.ab.toNat) (by omega) (k := 8) (by decide) rfl
 rw [callL_of e33]
 refine ok_ldI h33 rfl (ok_ldI h30 rfl (ok_true (by simp [AV.beq]) ?_))
 obtain ⟨v, S37, e37, a37, c37, L37, rfl, s37, h37⟩ : Ok (evF E orcL (n + 1) (.fn 32) [.sl a33 _ c33, .int .u64 x.as_, .int .i64 8] S33) _ := rput_ok n hn h33 s33 (by simp [jsup]) (x := x.as_.toNat) (by omega) (k := 8) (by decide) rfl
 rw [callL_of e37]
 have hlen : (jsup ++ be 8 x.g.toNat ++ be 8 x.bo.toNat ++ be 8 x.po.toNat ++ be 8 x.ls.toNat ++ be 8 x.ab.toNat ++ be 8 x.as_.toNat).length = 52 := by simp [jsup]
 obtain ⟨v, S39, e39, a39, c39, L39, rfl, s39, h39⟩ : Ok (evF E orcL (n + 1) (.fn 58) [.sl a37 _ c37] S37) _ := rfilled_ok n h37 s37 (by rw [hlen]; omega)
 rw [callL_of e39]
 have he : jsup ++ be 8 x.g.toNat ++ be 8 x.bo.toNat ++ be 8 x.po.toNat ++ be 8 x.ls.toNat ++ be 8 x.ab.toNat ++ be 8 x.as_.toNat ++ zz (384 - (jsup ++ be 8 x.g.toNat ++ be 8 x.bo.toNat ++ be 8 x.po.toNat ++ be 8 x.ls.toNat ++ be 8 x.ab.toNat ++ be 8 x.as_.toNat).length) = encS x := by
  rw [hlen, encS, Su.l]
  simp only [bes_cons, bes_nil, List.append_assoc, List.append_nil, List.nil_append]
 rw [he] at s39 ⊢
 exact ok_ret ⟨a39, c39, L39, rfl, s39, h39.sub (List.Sublist.append_left (List.sublist_cons_self _ _) L39)⟩
end
end Go.Jn
namespace Go.Jn
open Go.Gr
section
variable {X : Cx} {S : AS} {L F : List Ent} {b : Nat} {Q : AV → AS → Prop}
theorem rgetE_ok (n : Nat) (hn : 70000 < n) {s : List UInt8} {a : OP} {l : Nat} {c : Cap} (h : Hp X S F) (hv : Vw X F a l c s) :
 Ok (ev (n + 3) (.fn 80) [.sl a l c] S) (GQ X F (getE s) (getEe s)) := by
 have hln := hv.ln
 rw [ev, F80 _ _ _ _ _ (oL rfl)]
 simp only [J80, b80_entry]
 have bad : goodE s = false → GQ X F (getE s) (getEe s) = GQ X F zE 81 := fun he => by simp [getE, getEe, he]
 have zer : ∀ (b1 : Nat) (S' : AS) (M : List Ent), goodE s = false → Hp X S' (M ++ (C b1 zrow :: F)) → Ok (S'.stn (.rw b1) 0 zrow fun S3 => S3.ldn (.rw b1) 0 7 fun g4 => some (.tup [(.agg g4), (.int .i64 81)], S3)) (GQ X F (getE s) (getEe s)) := fun b1 S' M he hh => by
  rw [bad he]
  refine ok_stn hh (by simp) (d := zrow) (by simp [splice]) (fun S3 h3 => ok_ldn h3 (by simp) (d := zrow) rfl (ok_ret ⟨none, .ex 0, [], rfl, vw_nil, h3.right.drop1⟩))
 refine ok_newA h (fun b1 S1 h1 => ok_cond (fun c1 => ?_) (fun c1 => ?_))
 ·simp only [bne_iff_ne, ne_eq] at c1
  exact zer b1 S1 [] (by simp [goodE]; omega) h1
 simp only [bne_eq_false_iff_eq] at c1
 have h384 : s.length = 384 := by omega
 have v1 : Vw X (C b1 zrow :: F) a l c s := hv.mono (fun e he => by simp [he])
 have num1 : ∀ (at_ k : Nat) (xi ki : Int), xi = at_ → ki = k → k ≤ 8 → at_ + k ≤ 384 → ∀ {S' : AS} {M : List Ent}, Hp X S' M → (∀ e ∈ F, e ∈ M) → evF E orcL (n + 2) (.fn 73) [.sl a l c, .int .i64 xi, .int .i64 ki] S' = some (.int .u64 ((vl (win8 s at_ k) : Nat) : Int), S') := fun at_ k xi ki hx hk h8 hat {S' M} hh hm =>
  number_eq (n + 1) (by omega) hx hk (hv.mono hm) hh (by omega) h8 (by omega)
 rw [callI_of (num1 40 2 40 2 rfl rfl (by decide) (by decide) h1 (fun e he => by simp [he]))]
 have k1 := vl_win2 s 40
 have k2 := vl_win2 s 36
 have k3 := vl_win2 s 38
 rw [wn (x := ((vl (win8 s 40 2) : Nat) : Int)) rfl (by omega)]
 refine ok_cond (fun c2 => ?_) (fun c2 => ?_)
 ·simp only [gt_iff_lt, decide_eq_true_eq] at c2
  refine zer b1 S1 [] ?_ h1
  cases hg : goodE s with
  | false => rfl
  | true => have := good_n hg; omega
 simp only [gt_iff_lt, decide_eq_false_iff_not] at c2
 refine ok_drawA h1 [14, 21] (by decide) (by simp) (fun b9 S10 h10 => ?_)
 have h10' : Hp X S10 ((b9 + 14, none) :: (b9 + 21, none) :: C b1 zrow :: F) := h10
 have sub : ∀ e ∈ F, e ∈ ((b9 + 14, none) : Ent) :: (b9 + 21, none) :: C b1 zrow :: F := fun e he => by simp [he]
 rw [callI_of (num1 4 8 4 8 rfl rfl (by decide) (by decide) h10' sub), callI_of (num1 12 8 12 8 rfl rfl (by decide) (by decide) h10' sub), callI_of (num1 20 8 20 8 rfl rfl (by decide) (by decide) h10' sub), callI_of (num1 28 8 28 8 rfl rfl (by decide) (by decide) h10' sub), callI_of (num1 36 2 36 2 rfl rfl (by decide) (by decide) h10' sub), callI_of (num1 38 2 38 2 rfl rfl (by decide) (by decide) h10' sub)]
 rw [wn (x := ((vl (win8 s 36 2) : Nat) : Int)) rfl (by omega), wn (x := ((vl (win8 s 38 2) : Nat) : Int)) rfl (by omega)]
 have hby : (decE s).by_ = win8 s 48 (vl (win8 s 40 2)) := by
  have e : min (vl (win8 s 40 2)) 336 = vl (win8 s 40 2) := Nat.min_eq_left (by omega)
  show win8 s 48 (min (vl (win8 s 40 2)) 336) = _
  rw [e]
 have hbl : (decE s).by_.length = vl (win8 s 40 2) := by rw [hby]; exact win8_len (by omega)
 rw [wn (x := (48 : Int) + ((vl (win8 s 40 2) : Nat) : Int)) (n := 48 + vl (win8 s 40 2)) (by omega) (by omega)]
 have sub2 : ∀ e ∈ F, e ∈ ((b9 + 21, none) : Ent) :: C b1 zrow :: F := fun e he => by simp [he]
 refine ok_sl (hv.mono sub2) (lo := 48) (hi := 48 + vl (win8 s 40 2)) (by omega) (by omega) rfl rfl (fun a2 c2' w2 => ?_)
 rw [Nat.add_sub_cancel_left, ← hby] at w2
 rw [Nat.add_sub_cancel_left]
 refine ok_layA (b := b9 + 14) h10' (fun S24 h24 => ?_)
 have h24' : Hp X S24 ([C (b9 + 14) []] ++ ((b9 + 21, none) :: C b1 zrow :: F)) := h24
 have s24 : SlG (some (.rw (b9 + 14), 0)) 0 (.ex 0) 1 (bxs []) [C (b9 + 14) []] := (SlR.of (xs := []) (by simp) rfl (.inl rfl)).g
 refine ok_bytes h24' s24 w2 (by simp only [List.length_nil, Nat.zero_add]; rw [hbl]; omega) (fun a3 c3 L3 S3 hs3 h3 => ?_)
 rw [List.nil_append] at hs3 ⊢
 refine ok_layA (b := b9 + 21) h3 (fun S4 h4 => ok_stn h4 (by simp) (d := erow (decE s) a3 (decE s).by_.length c3) (by simp [splice, erow, decE]) (fun S5 h5 => ok_ldn h5 (by simp [erow]) (d := erow (decE s) a3 (decE s).by_.length c3) rfl ?_))
 have hv5 : Vw X (L3 ++ (C (b9 + 21) (erow (decE s) a3 (decE s).by_.length c3) :: C b1 zrow :: F)) a3 (decE s).by_.length c3 (decE s).by_ := slG_vw hs3 (fun e he => by simp [he])
 obtain ⟨v, S6, e6, a6, c6, L6, rfl, hs6, h6⟩ : Ok (evF E orcL (n + 2) (.fn 66) [.agg (erow (decE s) a3 (decE s).by_.length c3)] S5) _ := rputE_ok n (by omega) (decB s) h5 hv5
 rw [callT_of e6]
 refine ok_atL rfl (ok_atI rfl (ok_cond (fun cc => ?_) (fun cc => ?_)))
 ·have he : okE (decE s) = false := by
   cases hk : okE (decE s) with
   | false => rfl
   | true => rw [putEe, if_pos hk] at cc; exact absurd cc (by decide)
  exact zer b1 S6 (L6 ++ (L3 ++ [C (b9 + 21) (erow (decE s) a3 (decE s).by_.length c3)])) (by simp [goodE, he]) (by simpa using h6)
 have he : okE (decE s) = true := by
  cases hk : okE (decE s) with
  | true => rfl
  | false => rw [putEe, if_neg (by simp [hk])] at cc; exact absurd cc (by decide)
 rw [show putE (decE s) = encE (decE s) by simp [putE, he]] at hs6 ⊢
 have hv6 : Vw X (L6 ++ (L3 ++ (C (b9 + 21) (erow (decE s) a3 (decE s).by_.length c3) :: C b1 zrow :: F))) a l c s := hv.mono (fun e he => by simp [he])
 have vw6 : Vw X (L6 ++ (L3 ++ (C (b9 + 21) (erow (decE s) a3 (decE s).by_.length c3) :: C b1 zrow :: F))) a6 (encE (decE s)).length c6 (encE (decE s)) := slG_vw hs6 (fun e he => by simp [he])
 rw [bytesStr_of vw6.r h6 vw6.ln, bytesStr_of hv6.r h6 hv6.ln]
 refine ok_cond (fun cc => ?_) (fun cc => ?_)
 ·simp only [Bool.not_eq_true'] at cc
  exact zer b1 S6 (L6 ++ (L3 ++ [C (b9 + 21) (erow (decE s) a3 (decE s).by_.length c3)])) (by simp only [goodE, cc, Bool.and_false]) (by simpa using h6)
 ·simp only [Bool.not_eq_false'] at cc
  have hg : goodE s = true := by simp only [goodE, h384, he, cc, decide_true, Bool.and_self]
  rw [show getE s = decE s by simp [getE, hg], show getEe s = 0 by simp [getEe, hg]]
  refine ok_ldn h6 (by simp [erow]) (d := erow (decE s) a3 (decE s).by_.length c3) rfl (ok_ifO rfl (ok_stn h6 (by simp [erow]) (d := erow (decE s) a3 (decE s).by_.length c3) (by simp [splice, erow]) (fun S7 h7 => ok_ldn h7 (by simp [erow]) (d := erow (decE s) a3 (decE s).by_.length c3) rfl (ok_ret ⟨a3, c3, L3, rfl, slG_vw hs3 (fun e he => he), ?_⟩))))
  exact h7.right.sub (List.Sublist.append_left (((List.Sublist.refl F).cons _).cons _) L3)
theorem rgetS_ok (n : Nat) (hn : 70000 < n) {s : List UInt8} {a : OP} {l : Nat} {c : Cap} (h : Hp X S F) (hv : Vw X F a l c s) :
 Ok (ev (n + 3) (.fn 60) [.sl a l c] S) (GSQ X F (getS s) (getSe s)) := by
 have hln := hv.ln
 rw [ev, F60 _ _ _ _ _ (oL rfl)]
 simp only [J60, b60_entry]
 have bad : goodS s = false → GSQ X F (getS s) (getSe s) = GSQ X F zS 81 := fun he => by simp [getS, getSe, he]
 have zer : ∀ (b1 : Nat) (S' : AS) (M : List Ent), goodS s = false → Hp X S' (M ++ (C b1 zrowS :: F)) → Ok (S'.stn (.rw b1) 0 zrowS fun S3 => S3.ldn (.rw b1) 0 6 fun g4 => some (.tup [(.agg g4), (.int .i64 81)], S3)) (GSQ X F (getS s) (getSe s)) := fun b1 S' M he hh => by
  rw [bad he]
  exact ok_stn hh (by simp) (d := zrowS) (by simp [splice]) (fun S3 h3 => ok_ldn h3 (by simp) (d := zrowS) rfl (ok_ret ⟨rfl, h3.right.drop1⟩))
 refine ok_newA h (fun b1 S1 h1 => ok_cond (fun c1 => ?_) (fun c1 => ?_))
 ·simp only [bne_iff_ne, ne_eq] at c1
  exact zer b1 S1 [] (by simp [goodS]; omega) h1
 simp only [bne_eq_false_iff_eq] at c1
 have h384 : s.length = 384 := by omega
 have num1 : ∀ (at_ k : Nat) (xi ki : Int), xi = at_ → ki = k → k ≤ 8 → at_ + k ≤ 384 → ∀ {S' : AS} {M : List Ent}, Hp X S' M → (∀ e ∈ F, e ∈ M) → evF E orcL (n + 2) (.fn 73) [.sl a l c, .int .i64 xi, .int .i64 ki] S' = some (.int .u64 ((vl (win8 s at_ k) : Nat) : Int), S') := fun at_ k xi ki hx hk h8 hat {S' M} hh hm =>
  number_eq (n + 1) (by omega) hx hk (hv.mono hm) hh (by omega) h8 (by omega)
 have sub : ∀ e ∈ F, e ∈ C b1 zrowS :: F := fun e he => by simp [he]
 rw [callI_of (num1 4 8 4 8 rfl rfl (by decide) (by decide) h1 sub), callI_of (num1 12 8 12 8 rfl rfl (by decide) (by decide) h1 sub), callI_of (num1 20 8 20 8 rfl rfl (by decide) (by decide) h1 sub), callI_of (num1 28 8 28 8 rfl rfl (by decide) (by decide) h1 sub), callI_of (num1 36 8 36 8 rfl rfl (by decide) (by decide) h1 sub), callI_of (num1 44 8 44 8 rfl rfl (by decide) (by decide) h1 sub)]
 refine ok_newA h1 (fun b31 S4 h4 => ok_stn h4 (by simp) (d := srowS (decS s)) (by simp [splice, srowS, Su.l, decS]) (fun S5 h5 => ok_ldn h5 (by simp [srowS]) (d := srowS (decS s)) (by simp [srowS, Su.l]) ?_))
 obtain ⟨v, S6, e6, a6, c6, L6, rfl, hs6, h6⟩ : Ok (evF E orcL (n + 2) (.fn 45) [.agg (srowS (decS s))] S5) _ := rputS_ok n (by omega) (decSB s) h5
 rw [callT_of e6]
 refine ok_atL rfl (ok_atI rfl (ok_cond (fun cc => ?_) (fun cc => ?_)))
 ·have he : okS (decS s) = false := by
   cases hk : okS (decS s) with
   | false => rfl
   | true => rw [putSe, if_pos hk] at cc; exact absurd cc (by decide)
  exact zer b1 S6 (L6 ++ [C b31 (srowS (decS s))]) (by simp [goodS, he]) (by simpa using h6)
 have he : okS (decS s) = true := by
  cases hk : okS (decS s) with
  | true => rfl
  | false => rw [putSe, if_neg (by simp [hk])] at cc; exact absurd cc (by decide)
 rw [show putS (decS s) = encS (decS s) by simp [putS, he]] at hs6 ⊢
 have hv6 : Vw X (L6 ++ (C b31 (srowS (decS s)) :: C b1 zrowS :: F)) a l c s := hv.mono (fun e he => by simp [he])
 have vw6 : Vw X (L6 ++ (C b31 (srowS (decS s)) :: C b1 zrowS :: F)) a6 (encS (decS s)).length c6 (encS (decS s)) := slG_vw hs6 (fun e he => by simp [he])
 rw [bytesStr_of vw6.r h6 vw6.ln, bytesStr_of hv6.r h6 hv6.ln]
 refine ok_cond (fun cc => ?_) (fun cc => ?_)
 ·simp only [Bool.not_eq_true'] at cc
  exact zer b1 S6 (L6 ++ [C b31 (srowS (decS s))]) (by simp only [goodS, cc, Bool.and_false]) (by simpa using h6)
 ·simp only [Bool.not_eq_false'] at cc
  have hg : goodS s = true := by simp only [goodS, h384, he, cc, decide_true, Bool.and_self]
  rw [show getS s = decS s by simp [getS, hg], show getSe s = 0 by simp [getSe, hg]]
  refine ok_ldn h6 (by simp [srowS]) (d := srowS (decS s)) (by simp [srowS, Su.l]) (ok_ifO rfl (ok_stn h6 (by simp [srowS]) (d := srowS (decS s)) (by simp [splice, srowS, Su.l]) (fun S7 h7 => ok_ldn h7 (by simp [srowS]) (d := srowS (decS s)) (by simp [srowS, Su.l]) (ok_ret ⟨rfl, ?_⟩))))
  exact h7.right.sub (((List.Sublist.refl F).cons _).cons _)
theorem rt_loop (n0 n : Nat) (hn : 100 < n) {ps : List Pr} {pa w2a : OP} {pc w2c : Cap} {w2l : Nat} {w3 : Int} (hps : ps.length ≤ 64) (h1ps : 1 ≤ ps.length) (hr : RdR X F pa (prows ps).flatten) (hv : PsV X F ps) :
 ∀ (m i : Nat) (a : OP) (l : Nat) (c : Cap) (L : List Ent) (S : AS), i ≤ ps.length → ps.length - i < m → (∀ p ∈ (pts ps).take i, okP p = true) → SlG a l c 1 (bxs (be 4 ps.length ++ encPs ((pts ps).take i))) L → Hp X S (L ++ F) →
   Ok (J9_lZAW (evF E orcL (n + 1)) n0 m pa ps.length pc w2a w2l w2c w3 a l c i S) (BQ X F (putT (pts ps)) (putTe (pts ps)))
 | 0, i, a, l, c, L, S, hi, hm, hg, hs, h => by omega
 | m + 1, i, a, l, c, L, S, hi, hm, hg, hs, h => by
   have hl : l = (be 4 ps.length ++ encPs ((pts ps).take i)).length := by have := hs.len; rwa [bxs_len] at this
   have hsz : (be 4 ps.length ++ encPs ((pts ps).take i)).length = 4 + 388 * i := by
    rw [List.length_append, be_len, encPs_len hg, List.length_take, pts_len]; omega
   rw [J9_lZAW_succ]
   simp only [b9_lZAW]
   refine ok_cond (fun hc => ?_) (fun hc => ?_)
   ·simp only [decide_eq_true_eq] at hc
    have hlt : i < ps.length := by omega
    have hr' : RdR X (L ++ F) pa (prows ps).flatten := hr.mono (fun e he => by simp [he])
    obtain ⟨q, hq⟩ := ps_some hr' hlt
    obtain ⟨x, hx⟩ : ∃ x, ps[i]? = some x := ⟨_, List.getElem?_eq_getElem hlt⟩
    have hr0 : RdR X F (some q) (prows ps).flatten := by rw [← hq]; exact hr
    have hr2 : RdR X (L ++ F) (some q) (prows ps).flatten := by rw [← hq]; exact hr'
    rw [show ixSl 2 pa ps.length (i : Int) = ixSl 2 (some q) ps.length (i : Int) by rw [hq]]
    have bad : okP x.pt = false → Ok (some (AV.tup [.sl none 0 (.ex 0), .int .i64 82], S)) (BQ X F (putT (pts ps)) (putTe (pts ps))) := fun hp => by
     have he := okT_false (pts_at hx) hp
     rw [show putT (pts ps) = [] by simp [putT, he], show putTe (pts ps) = 82 by simp [putTe, he]]
     exact ok_ret ⟨none, .ex 0, [], rfl, .nil, h.right⟩
    rw [ixSl_at rfl hlt, pf_I hr2 h hx]
    refine ok_cond (fun c1 => bad ?_) (fun c1 => ?_)
    ·simp only [decide_eq_true_eq] at c1; exact okP_false (by omega)
    rw [ixSl_at rfl hlt, pf_I hr2 h hx]
    refine ok_cond (fun c2 => bad ?_) (fun c2 => ?_)
    ·simp only [gt_iff_lt, decide_eq_true_eq] at c2; exact okP_false (by omega)
    rw [ixSl_at rfl hlt, pf_L hr2 h hx]
    refine ok_cond (fun c3 => bad ?_) (fun c3 => ?_)
    ·simp only [bne_iff_ne, ne_eq] at c3; exact okP_false (by omega)
    simp only [gt_iff_lt, decide_eq_false_iff_not, bne_eq_false_iff_eq] at c1 c2 c3
    have hok : okP x.pt = true := (okP_iff _).2 (by show 0 ≤ x.b ∧ x.b < _ ∧ x.d.length = _; omega)
    rw [ixSl_at rfl hlt, pf_I hr2 h hx, wu64 (by omega) (by omega)]
    obtain ⟨v, S3, e3, a3, c3', L3, rfl, hs3, h3⟩ : Ok (evF E orcL (n + 1) (.fn 32) [.sl a l c, .int .u64 x.b, .int .i64 4] S) _ := rput_ok n hn h hs (by omega) (x := x.b.toNat) (by omega) (k := 4) (by decide) rfl
    rw [callL_of e3, ixSl_at rfl hlt, pf_L (hr0.mono (fun e he => by simp [he])) h3 hx, pf_L hr2 h hx]
    refine ok_true (by simp [AV.beq]) ?_
    have hvx := hv x (List.mem_of_getElem? hx)
    refine ok_bytes h3 hs3 hvx (by rw [List.length_append, hsz, be_len]; omega) (fun a4 c4 L4 S4 hs4 h4 => ?_)
    rw [wn (x := (i : Int) + 1) (n := i + 1) (by omega) (by omega)]
    have he : be 4 ps.length ++ encPs ((pts ps).take i) ++ be 4 x.b.toNat ++ x.d = be 4 ps.length ++ encPs ((pts ps).take (i + 1)) := by
     rw [encPs_take (pts_at hx)]; simp [Pr.pt]
    rw [he] at hs4 ⊢
    refine rt_loop n0 n hn hps h1ps hr hv m (i + 1) a4 _ c4 L4 S4 (by omega) (by omega) (fun p hp => ?_) hs4 h4
    rw [List.take_add_one, pts_at hx] at hp
    rcases List.mem_append.1 hp with hp | hp
    ·exact hg p hp
    ·simp at hp; subst hp; exact hok
   ·simp only [decide_eq_false_iff_not] at hc
    have : i = ps.length := by omega
    subst this
    simp only [J9_jZAJ, b9_jZAJ]
    have ht : (pts ps).take ps.length = pts ps := List.take_of_length_le (by simp)
    rw [ht] at hg hs hl
    have he : okT (pts ps) = true := by
     simp only [okT, Bool.and_eq_true, decide_eq_true_eq, List.all_eq_true, pts_len]
     exact ⟨⟨h1ps, hps⟩, hg⟩
    rw [show putT (pts ps) = encT (pts ps) by simp [putT, he], show putTe (pts ps) = 0 by simp [putTe, he]]
    subst hl
    refine ok_ret ⟨a, c, L, ?_, ?_, h⟩
    ·simp [encT]
    ·simpa [encT] using hs
theorem rputT_ok (n : Nat) (hn : 100 < n) {ps : List Pr} {a : OP} {c : Cap} (h : Hp X S F) (hr : RdR X F a (prows ps).flatten) (hv : PsV X F ps) :
 Ok (ev (n + 2) (.fn 9) [.sl a ps.length c] S) (BQ X F (putT (pts ps)) (putTe (pts ps))) := by
 rw [ev, F9 _ _ _ _ _ (oL rfl)]
 simp only [J9, b9_entry]
 have bad : okT (pts ps) = false → Ok (some (AV.tup [.sl none 0 (.ex 0), .int .i64 82], S)) (BQ X F (putT (pts ps)) (putTe (pts ps))) := fun he => by
  rw [show putT (pts ps) = [] by simp [putT, he], show putTe (pts ps) = 82 by simp [putTe, he]]
  exact ok_ret ⟨none, .ex 0, [], rfl, .nil, h⟩
 refine ok_cond (fun c1 => bad ?_) (fun c1 => ok_cond (fun c2 => bad ?_) (fun c2 => ?_))
 ·simp only [decide_eq_true_eq] at c1; simp [okT]; omega
 ·simp only [gt_iff_lt, decide_eq_true_eq] at c2; simp [okT]; omega
 simp only [gt_iff_lt, decide_eq_false_iff_not] at c1 c2
 rw [wu64 (by omega) (by omega)]
 have h' : Hp X S ([] ++ F) := h
 obtain ⟨v, S3, e3, a3, c3, L3, rfl, hs3, h3⟩ : Ok (evF E orcL (n + 1) (.fn 32) [.sl none 0 (.ex 0), .int .u64 (ps.length : Nat), .int .i64 4] S) _ := rput_ok n hn h' (s := []) (by exact (SlG.nil : SlG none 0 (.ex 0) 1 [] [])) (by simp) (x := ps.length) rfl (k := 4) (by decide) rfl
 rw [callL_of e3]
 exact rt_loop (n + 1) n hn (by omega) (by omega) hr hv (n + 1) 0 a3 _ c3 L3 S3 (by omega) (by omega) (by simp) (by simpa [encPs] using hs3) h3
theorem rgt_loop (n0 n : Nat) (hn : 70000 < n) {s : List UInt8} {sa w2a : OP} {sl w2l : Nat} {sc w2c : Cap} {w3 : Int} (hln : sl = s.length) (hs1 : 1 ≤ cntT s) (hsz : szT s = true) (hv : Vw X F sa sl sc s) :
 ∀ (m k at_ : Nat) (qs : List Pr) (a : OP) (c : Cap) (Lr Ld : List Ent) (S : AS), k < m → at_ + 388 * k = s.length → qs.length + k = cntT s → pts qs ++ cks k (s.drop at_) = listT s → (∀ p ∈ pts qs, okP p = true) → SlG a qs.length c 2 (prows qs) Lr → PsV X Ld qs → Hp X S (Lr ++ (Ld ++ F)) →
   Ok (J76_lZAW (evF E orcL (n + 1)) n0 m sa sl sc w2a w2l w2c w3 a qs.length c at_ S) (TQ X F (getT s) (getTe s))
 | 0, k, at_, qs, a, c, Lr, Ld, S, hm, hq, hl, hP, hok, hs, hd, h => by omega
 | m + 1, k, at_, qs, a, c, Lr, Ld, S, hm, hq, hl, hP, hok, hs, hd, h => by
   have h64 : cntT s ≤ 64 ∧ s.length - 4 = 388 * cntT s ∧ 4 ≤ s.length := by
    simp only [szT, Bool.and_eq_true, decide_eq_true_eq] at hsz
    omega
   rw [J76_lZAW_succ]
   simp only [b76_lZAW]
   refine ok_cond (fun hc => ?_) (fun hc => ?_)
   ·simp only [decide_eq_true_eq] at hc
    obtain ⟨k, rfl⟩ : ∃ k', k = k' + 1 := ⟨k - 1, by omega⟩
    have sub : ∀ e ∈ F, e ∈ Lr ++ (Ld ++ F) := fun e he => by simp [he]
    rw [callI_of (show evF E orcL (n + 1) (.fn 73) [.sl sa sl sc, .int .i64 (at_ : Nat), .int .i64 4] S = _ from number_eq n (by omega) rfl rfl (hv.mono sub) h (by omega) (k := 4) (by decide) (by omega))]
    have hPe : listT s = pts qs ++ (⟨((vl (win8 s at_ 4) : Nat) : Int), win8 s (at_ + 4) 384⟩ :: cks k (s.drop (at_ + 388))) := by
     rw [← hP, cks]
     simp only [win8, List.drop_drop]
    have hget : (listT s)[qs.length]? = some ⟨((vl (win8 s at_ 4) : Nat) : Int), win8 s (at_ + 4) 384⟩ := by
     rw [hPe, List.getElem?_append_right (by simp)]; simp
    refine ok_cond (fun c2 => ?_) (fun c2 => ?_)
    ·simp only [gt_iff_lt, decide_eq_true_eq] at c2
     have he : okT (listT s) = false := okT_false hget (by
      cases hk : okP ⟨((vl (win8 s at_ 4) : Nat) : Int), win8 s (at_ + 4) 384⟩ with
      | false => rfl
      | true => have := (okP_iff _).1 hk; simp only at this; omega)
     have hg : goodT s = false := by simp [goodT, he]
     rw [show getT s = [] by simp [getT, hg], show getTe s = 82 by simp [getTe, hg]]
     exact ok_ret ⟨[], none, .ex 0, [], [], rfl, rfl, .nil, (fun p hp => by cases hp), h.right.right⟩
    simp only [gt_iff_lt, decide_eq_false_iff_not] at c2
    have hokx : okP ⟨((vl (win8 s at_ 4) : Nat) : Int), win8 s (at_ + 4) 384⟩ = true := (okP_iff _).2 ⟨Int.natCast_nonneg _, by show ((vl (win8 s at_ 4) : Nat) : Int) < _; omega, win8_len (by omega)⟩
    refine ok_newA h (fun b9 S1 h1 => ?_)
    rw [wn (x := ((at_ : Nat) : Int) + 4) (n := at_ + 4) (by omega) (by omega), wn (x := ((at_ + 4 : Nat) : Int) + 384) (n := at_ + 388) (by omega) (by omega)]
    refine ok_sl (hv.mono sub) (lo := at_ + 4) (hi := at_ + 388) (by omega) (by omega) rfl rfl (fun a2 c2' w2 => ?_)
    rw [show at_ + 388 - (at_ + 4) = 384 by omega] at w2 ⊢
    have h1' : Hp X S1 ([C b9 []] ++ (Lr ++ (Ld ++ F))) := h1
    have hs0 : SlG (some (.rw b9, 0)) 0 (.ex 0) 1 (bxs []) [C b9 []] := (SlR.of (xs := []) (by simp) rfl (.inl rfl)).g
    refine ok_bytes h1' hs0 w2 (by simp [win8]; omega) (fun a3 c3 L3 S3 hs3 h3 => ?_)
    rw [List.nil_append] at hs3 ⊢
    rw [wn (x := ((vl (win8 s at_ 4) : Nat) : Int)) rfl (by omega)]
    refine ok_newA h3 (fun b14 S4 h4 => ?_)
    have h4' : Hp X S4 (Lr ++ (C b14 (prow ⟨((vl (win8 s at_ 4) : Nat) : Int), a3, c3, win8 s (at_ + 4) 384⟩) :: ((L3 ++ Ld) ++ F))) := h4.re (by intro p; simp only [List.countP_append, List.countP_cons, C, prow]; omega)
    refine row_push (by omega) hs h4' (fun a5 c5 L5 S5 hs5 h5 => ?_)
    rw [wn (x := ((at_ : Nat) : Int) + 384) (n := at_ + 384) (by omega) (by omega), wn (x := ((at_ + 384 : Nat) : Int) + 4) (n := at_ + 388) (by omega) (by omega)]
    refine rgt_loop n0 n hn hln hs1 hsz hv m k (at_ + 388) _ a5 c5 L5 (L3 ++ Ld) S5 (by omega) (by omega) (by simp; omega) ?_ (fun p hp => ?_) hs5 (fun p hp => ?_) h5
    ·rw [hPe, pts_append, List.append_assoc]; rfl
    ·rw [pts_append] at hp
     rcases List.mem_append.1 hp with hp | hp
     ·exact hok p hp
     ·simp only [pts, List.map_cons, List.map_nil, List.mem_singleton] at hp
      subst hp; exact hokx
    ·rcases List.mem_append.1 hp with hp | hp
     ·exact (hd p hp).mono (fun e he => by simp [he])
     ·simp only [List.mem_singleton] at hp
      subst hp
      exact slG_vw hs3 (fun e he => by simp [he])
   ·simp only [decide_eq_false_iff_not] at hc
    have : k = 0 := by omega
    subst this
    rw [cks, List.append_nil] at hP
    simp only [J76_jZAJ, b76_jZAJ]
    have hlen : (listT s).length = cntT s := by rw [listT, cks_len]
    have he : okT (listT s) = true := by
     simp only [okT, Bool.and_eq_true, decide_eq_true_eq, List.all_eq_true]
     exact ⟨⟨by omega, by omega⟩, by rw [← hP]; exact hok⟩
    have hg : goodT s = true := by simp [goodT, he, hsz]
    rw [show getT s = listT s by simp [getT, hg], show getTe s = 0 by simp [getTe, hg]]
    exact ok_ret ⟨qs, a, c, Lr, Ld, rfl, hP, hs, hd, h⟩
theorem rgetT_ok (n : Nat) (hn : 70000 < n) {s : List UInt8} {a : OP} {l : Nat} {c : Cap} (h : Hp X S F) (hv : Vw X F a l c s) (hsl : s.length ≤ 1048576) :
 Ok (ev (n + 2) (.fn 76) [.sl a l c] S) (TQ X F (getT s) (getTe s)) := by
 have hln := hv.ln
 rw [ev, F76 _ _ _ _ _ (oL rfl)]
 simp only [J76, b76_entry]
 have bad : goodT s = false → Ok (some (AV.tup [.sl none 0 (.ex 0), .int .i64 82], S)) (TQ X F (getT s) (getTe s)) := fun he => by
  rw [show getT s = [] by simp [getT, he], show getTe s = 82 by simp [getTe, he]]
  exact ok_ret ⟨[], none, .ex 0, [], [], rfl, rfl, .nil, (fun p hp => by cases hp), h⟩
 refine ok_cond (fun c1 => bad ?_) (fun c1 => ?_)
 ·simp only [decide_eq_true_eq] at c1; simp [goodT, szT]; omega
 simp only [decide_eq_false_iff_not] at c1
 have hct : vl (win8 s 0 4) = cntT s := by simp [win8, cntT]
 have hn1 : evF E orcL (n + 1) (.fn 73) [.sl a l c, .int .i64 0, .int .i64 4] S = some (.int .u64 ((cntT s : Nat) : Int), S) := by
  rw [← hct]
  exact number_eq n (by omega) (at_ := 0) rfl rfl hv h hsl (k := 4) (by decide) (by omega)
 rw [callI_of hn1]
 refine ok_cond (fun c2 => bad ?_) (fun c2 => ?_)
 ·simp only [gt_iff_lt, decide_eq_true_eq] at c2; simp [goodT, szT]; omega
 simp only [gt_iff_lt, decide_eq_false_iff_not] at c2
 rw [callI_of hn1]
 refine ok_cond (fun c3 => bad ?_) (fun c3 => ?_)
 ·simp only [decide_eq_true_eq] at c3
  have : okT (listT s) = false := by simp [okT, listT]; omega
  simp [goodT, this]
 simp only [decide_eq_false_iff_not] at c3
 rw [callI_of hn1, wn (x := ((cntT s : Nat) : Int)) rfl (by omega), wn (x := (388 : Int) * ((cntT s : Nat) : Int)) (n := 388 * cntT s) (by omega) (by omega), wn (x := (4 : Int) + ((388 * cntT s : Nat) : Int)) (n := 4 + 388 * cntT s) (by omega) (by omega)]
 refine ok_cond (fun c4 => bad ?_) (fun c4 => ?_)
 ·simp only [bne_iff_ne, ne_eq] at c4; simp [goodT, szT]; omega
 simp only [bne_eq_false_iff_eq] at c4
 have hsz : szT s = true := by simp [szT]; omega
 exact rgt_loop (n + 1) n hn hln (by omega) hsz hv (n + 1) (cntT s) 4 [] none (.ex 0) [] [] S (by omega) (by omega) (by simp) rfl (by intro p hp; cases hp) (by exact (SlG.nil : SlG none 0 (.ex 0) 2 [] [])) (fun p hp => by cases hp) h
end
end Go.Jn
namespace Go.Jn.P
open Go.Gr Go.Jn
def SlO (a : OP) (l : Nat) (c : Cap) (sz : Nat) (xs : List (List AV)) (L : List Ent) : Prop :=
 (a = none ∧ l = 0 ∧ c = .ex 0 ∧ xs = [] ∧ L = []) ∨ ∃ (b : Nat) (pre : List AV), a = some (.rw b, pre.length) ∧ l = xs.length ∧ c = .op sz xs.length ∧ (∀ x ∈ xs, x.length = sz) ∧ L = [C b (pre ++ xs.flatten)]
theorem SlO.len {a : OP} {l : Nat} {c : Cap} {sz : Nat} {xs : List (List AV)} {L : List Ent} (h : SlO a l c sz xs L) : l = xs.length := by
 rcases h with ⟨_, rfl, _, rfl, _⟩ | ⟨_, _, _, rfl, _⟩ <;> rfl
theorem SlO.nil {sz : Nat} : SlO none 0 (.ex 0) sz [] [] := .inl ⟨rfl, rfl, rfl, rfl, rfl⟩
theorem SlO.rd {X : Cx} {M : List Ent} {a : OP} {l : Nat} {c : Cap} {sz : Nat} {xs : List (List AV)} {L : List Ent} (h : SlO a l c sz xs L) (hm : ∀ e ∈ L, e ∈ M) : RdR X M a xs.flatten := by
 rcases h with ⟨rfl, _, _, rfl, _⟩ | ⟨b, pre, rfl, _, _, _, rfl⟩
 ·exact .nil
 ·exact .rw (c := pre ++ xs.flatten) (hm _ (by simp)) (by simp) (by rw [List.drop_left, List.take_length])
theorem SlO.drop {a : OP} {l : Nat} {c : Cap} {sz : Nat} {xs : List (List AV)} {L : List Ent} (h : SlO a l c sz xs L) {k : Nat} (hk : k ≤ xs.length) (h0 : 0 < xs.length) {ki : Int} (hki : ki = k) : ∃ a' c', SlO a' (xs.length - k) c' sz (xs.drop k) L ∧ ∀ {β : Type} (K : OP → Nat → Cap → Option β), slSl sz a l c (some ki) none none K = K a' (xs.length - k) c' := by
 subst hki
 rcases h with ⟨_, _, _, rfl, _⟩ | ⟨b, pre, rfl, rfl, rfl, ha, rfl⟩
 ·simp at h0
 ·refine ⟨some (.rw b, pre.length + k * sz), .op sz (xs.length - k), .inr ⟨b, pre ++ (xs.take k).flatten, ?_, by simp, by simp, fun x hx => ha x (List.mem_of_mem_drop hx), ?_⟩, fun K => ?_⟩
  ·rw [List.length_append, flat_len (fun x hx => ha x (List.mem_of_mem_take hx)), List.length_take, Nat.min_eq_left hk]
  ·rw [List.append_assoc, ← List.flatten_append, List.take_append_drop]
  ·simp [slSl, optIx, ix, hk]
section
variable {X : Cx} {S : AS} {L F G Lj Ls : List Ent} {b bj sb : Nat} {Q : AV → AS → Prop} {J : JM} {k : Nat} {t : St}
theorem so_push {sz bytes : Nat} (hsz : 0 < sz) {xs : List (List AV)} {y : List AV} (hy : y.length = sz) {a : OP} {l : Nat} {c : Cap} {Ln : List Ent} {b5 : Nat} {K : OP → Nat → Cap → AS → RV} (hq : xs.length ≤ 100000) (hb : bytes ≤ 1000) (hs : SlO a l c sz xs Ln) (h : Hp X S (Ln ++ (C b5 y :: F)))
 (ht : ∀ a' c' L' S', SlO a' (xs ++ [y]).length c' sz (xs ++ [y]) L' → Hp X S' (L' ++ F) → Ok (K a' (xs ++ [y]).length c' S') Q) : Ok (appendA sz bytes S a l c 1 (firstA S sz 1 (.sl (some (.rw b5, 0)) 1 (.ex 1))) K) Q := by
 have hl := hs.len
 have hsrc : ∀ (K : List AV → RV), firstA S sz 1 (.sl (some (.rw b5, 0)) 1 (.ex 1)) K = K y := fun K =>
  RdR.first (.rw (X := X) (b := b5) (i := 0) (c := y) (cs := y) (L := _) (List.mem_append_right Ln List.mem_cons_self) (by simp) (by simp)) h (sz := sz) (n := 1) (by rw [hy]; omega) hsz (l := 1) (c := .ex 1) K
 have h1 : (l + 1) * bytes ≤ pow46 := Nat.le_trans (Nat.mul_le_mul (show l + 1 ≤ 100001 by omega) hb) (by simp [pow46])
 have h2 : l + 1 ≤ pow46 := by simp [pow46]; omega
 rcases hs with ⟨rfl, rfl, rfl, rfl, rfl⟩ | ⟨bn, pre, rfl, rfl, rfl, ha, rfl⟩
 ·simp only [appendA, forceL_eq, if_pos h1, if_pos h2, show ¬ (0 + 1 ≤ 0) by omega, if_false]
  have e : firstA S sz 0 (.sl none 0 (.ex 0)) (fun old => firstA S sz 1 (.sl (some (.rw b5, 0)) 1 (.ex 1)) fun new => K (some (.rw S.next, 0)) (0 + 1) (.op sz (0 + 1)) (S.new (.cells (old ++ new)))) = firstA S sz 1 (.sl (some (.rw b5, 0)) 1 (.ex 1)) fun new => K (some (.rw S.next, 0)) (0 + 1) (.op sz (0 + 1)) (S.new (.cells ([] ++ new))) := rfl
  rw [e, hsrc]
  refine ht _ _ [C S.next y] _ (.inr ⟨S.next, [], rfl, rfl, rfl, (by simpa using hy), by simp⟩) ((h.right.drop1).new _)
 ·have hp' : Hp X S (C bn (pre ++ xs.flatten) :: C b5 y :: F) := h
  have hfl := flat_len ha
  have hne : ¬ (xs.length + 1 ≤ xs.length) := by omega
  simp only [appendA, forceL_eq, if_pos h1, if_pos h2, if_neg hne, if_true]
  rw [if_neg (by simp)]
  have hle0 : pre.length + xs.length * sz ≤ (pre ++ xs.flatten).length := by simp [hfl]
  have htk : ((pre ++ xs.flatten).drop pre.length).take (xs.length * sz) = xs.flatten := by
   rw [List.drop_left, List.take_of_length_le (by omega)]
  have e : ∀ (K' : List AV → RV), S.ldn (.rw bn) pre.length (xs.length * sz) K' = K' xs.flatten := fun K' => by
   simp only [AS.ldn_eq, hp'.blk bn, if_pos hle0, htk]
  rw [e, hsrc]
  have hk : Hp X (S.kill bn) F := by
   have hn := hp'.nd
   simp only [List.map_cons, List.nodup_cons] at hn
   have h3 := hp'.drop1.drop1
   refine ⟨h3.ro, h3.lp, h3.nd, fun b1 o1 hm => ?_, h3.lt⟩
   simp only [AS.kill, Tr.get_set]
   rw [if_neg (fun he => hn.1 (by rw [← he]; exact List.mem_cons_of_mem _ (List.mem_map_of_mem hm)))]
   exact h3.got b1 o1 hm
  have hh := hk.new (.cells (xs.flatten ++ y))
  have e0 : xs.flatten ++ y = (xs ++ [y]).flatten := by simp
  have e1 : xs.length + 1 = (xs ++ [y]).length := by simp
  rw [e0] at hh ⊢
  rw [e1]
  refine ht _ _ [C S.next (xs ++ [y]).flatten] _ (.inr ⟨S.next, [], rfl, rfl, rfl, (fun x hx => ?_), by simp⟩) hh
  rcases List.mem_append.1 hx with hx | hx
  ·exact ha x hx
  ·simp only [List.mem_singleton] at hx; subst hx; exact hy
def nrows (l : List One) : List (List AV) := l.map fun o => [.int .i64 o.need]
def strow (o : One) : List AV := [.int .u64 o.bo, .int .u64 o.se]
def strows (l : List One) : List (List AV) := l.map strow
@[simp] theorem nrows_len (l : List One) : (nrows l).length = l.length := by simp [nrows]
@[simp] theorem strows_len (l : List One) : (strows l).length = l.length := by simp [strows]
theorem nrows_all (l : List One) : ∀ x ∈ nrows l, x.length = 1 := fun x hx => by
 obtain ⟨s, _, rfl⟩ := List.mem_map.1 hx; rfl
theorem strows_all (l : List One) : ∀ x ∈ strows l, x.length = 2 := fun x hx => by
 obtain ⟨s, _, rfl⟩ := List.mem_map.1 hx; rfl
theorem nrows_at {l : List One} {i : Nat} {e : One} (h : l[i]? = some e) : (nrows l)[i]? = some [.int .i64 e.need] := by
 rw [nrows, List.getElem?_map, h]; rfl
theorem strows_at {l : List One} {i : Nat} {e : One} (h : l[i]? = some e) : (strows l)[i]? = some (strow e) := by
 rw [strows, List.getElem?_map, h]; rfl
theorem nrows_append (l m : List One) : nrows (l ++ m) = nrows l ++ nrows m := by simp [nrows]
theorem strows_append (l m : List One) : strows (l ++ m) = strows l ++ strows m := by simp [strows]
def drow (sb : Nat) (J : JM) (na : OP) (nc : Cap) (ta : OP) (tc : Cap) (m : Nat) : List AV := [.ptr (some (.rw sb, 0)), .int .i64 J.first, .int .i64 J.count, .int .u64 J.sup.g, .int .u64 J.sup.bo, .int .u64 J.se, .int .u64 J.sup.po, .int .u64 J.sup.ls, .sl na m nc, .sl ta m tc, .int .u64 J.sup.ab, .int .u64 J.sup.as_, .int .u64 J.sy]
def DJ (bj sb : Nat) (J : JM) (L : List Ent) : Prop := ∃ na nc ta tc Ln Lt, SlO na J.l.length nc 1 (nrows J.l) Ln ∧ SlO ta J.l.length tc 2 (strows J.l) Lt ∧ L = C bj (drow sb J na nc ta tc J.l.length) :: (Ln ++ Lt)
theorem used_loop (n0 : Nat) (call : CallA) (hJ : JI J k) {na ta : OP} {nc tc : Cap} (h : Hp X S (C bj (drow sb J na nc ta tc J.l.length) :: F)) (hr : RdR X (C bj (drow sb J na nc ta tc J.l.length) :: F) na (nrows J.l).flatten) : ∀ (m i : Nat), i ≤ J.l.length → J.l.length - i < m →
 Ok (J63_lZAS call n0 m (some (.rw bj, 0)) (sumN (J.l.take i)) i S) fun v S' => v = .int .i64 (sumN J.l) ∧ S' = S
 | 0, i, hi, hm => by omega
 | m + 1, i, hi, hm => by
   have h38 := hJ.lcount
   rw [J63_lZAS_succ]
   simp only [b63_lZAS]
   refine ok_gO (ok_ldL h rfl (ok_cond (fun hc => ?_) (fun hc => ?_)))
   ·simp only [decide_eq_true_eq] at hc
    have hlt : i < J.l.length := by omega
    obtain ⟨x, hx⟩ : ∃ x, J.l[i]? = some x := ⟨_, List.getElem?_eq_getElem hlt⟩
    obtain ⟨p, hp⟩ := hr.some_of (by intro he; have := congrArg List.length he; rw [flat_len (nrows_all J.l), nrows_len] at this; simp only [List.length_nil] at this; omega)
    have hr2 : ∀ {M : List Ent} {cs : List AV}, RdR X M na cs → RdR X M (some p) cs := fun h => by rw [← hp]; exact h
    have hr' := hr2 hr
    refine ok_gO (ok_ldL h rfl ?_)
    rw [show ixSl 1 na J.l.length (i : Int) = ixSl 1 (some p) J.l.length (i : Int) by rw [hp]]
    rw [ixSl_at rfl hlt, hr'.ldI h (by have := flat_get (nrows_all J.l) (nrows_at hx) (j := 0) (by decide); simpa using this)]
    have h3 := sumN_take hx
    have h4 := sumN_le (fun o ho => (hJ.ol o ho).1) i
    have h5 := sumN_le (fun o ho => (hJ.ol o ho).1) (i + 1)
    have h6 := hJ.rm
    have h7 := hJ.c40
    rw [wz (x := sumN (J.l.take i) + x.need) (z := sumN (J.l.take (i + 1))) (by omega) (by omega) (by omega), wn (x := (i : Int) + 1) (n := i + 1) (by omega) (by omega)]
    exact used_loop n0 call hJ h hr m (i + 1) (by omega) (by omega)
   ·simp only [decide_eq_false_iff_not] at hc
    rw [List.take_of_length_le (by omega)]
    exact ok_ret ⟨rfl, rfl⟩
theorem used_eq (n : Nat) (hn : 2000 < n) (hJ : JI J k) (h : Hp X S (Lj ++ F)) (hj : DJ bj sb J Lj) : ev (n + 1) (.fn 63) [.ptr (some (.rw bj, 0))] S = some (.int .i64 (sumN J.l), S) := by
 obtain ⟨na, nc, ta, tc, Ln, Lt, hn1, ht1, rfl⟩ := hj
 have h38 := hJ.lcount
 apply ok_eq
 rw [ev, F63 _ _ _ (oL rfl)]
 simp only [J63, b63_entry]
 have := used_loop (X := X) (F := Ln ++ Lt ++ F) n (evF E orcL n) hJ h (hn1.rd (fun e he => by simp [he])) n 0 (by omega) (by omega)
 simpa [sumN] using this
theorem dlast_eq (n : Nat) (hJ : JI J k) (h : Hp X S (Lj ++ F)) (hj : DJ bj sb J Lj) : ev (n + 1) (.fn 48) [.ptr (some (.rw bj, 0))] S = some (.int .u64 (J.sup.ls + J.l.length), S) := by
 obtain ⟨na, nc, ta, tc, Ln, Lt, hn1, ht1, rfl⟩ := hj
 have h38 := hJ.lcount
 have hls := hJ.ls
 have hk := hJ.k1
 apply ok_eq
 rw [ev, F48 _ _ _ (oL rfl)]
 simp only [J48, b48_entry]
 refine ok_gO (ok_ldI h rfl (ok_gO (ok_ldL h rfl (ok_ret ⟨?_, rfl⟩))))
 rw [wu64 (n := ((J.l.length : Nat) : Int)) (by omega) (by omega), wu64 (by omega) (by omega)]
theorem droom_eq (n : Nat) (hn : 2000 < n) (hJ : JI J k) (h : Hp X S (Lj ++ F)) (hj : DJ bj sb J Lj) : ev (n + 2) (.fn 49) [.ptr (some (.rw bj, 0))] S = some (.int .i64 (J.count - 2 - sumN J.l), S) := by
 have h1 := hJ.rm
 have h2 := hJ.c6
 have h3 := hJ.c40
 have h0 := sumN_ge fun o ho => (hJ.ol o ho).1
 have e := used_eq (X := X) (S := S) (F := F) n hn hJ h hj
 obtain ⟨na, nc, ta, tc, Ln, Lt, hn1, ht1, rfl⟩ := hj
 apply ok_eq
 rw [ev, F49 _ _ _ (oL rfl)]
 simp only [J49, b49_entry]
 refine ok_gO (ok_ldI h rfl ?_)
 rw [callI_of (show evF E orcL (n + 1) (.fn 63) [.ptr (some (.rw bj, 0))] S = _ from e)]
 refine ok_ldI h rfl (ok_true (by simp [AV.beq]) (ok_ret ⟨?_, rfl⟩))
 rw [wz (x := (J.count : Int) - 2) rfl (by omega) (by omega), wz rfl (by omega) (by omega)]
theorem dnext_eq (n : Nat) (hn : 2000 < n) (hJ : JI J k) (h : Hp X S (Lj ++ F)) (hj : DJ bj sb J Lj) : ev (n + 2) (.fn 65) [.ptr (some (.rw bj, 0))] S = some (.int .u64 (J.sup.po + sumN J.l), S) := by
 have h1 := hJ.rm
 have h2 := hJ.po
 have h3 := hJ.c40
 have h4 := hJ.k1
 have h0 := sumN_ge fun o ho => (hJ.ol o ho).1
 have e := used_eq (X := X) (S := S) (F := F) n hn hJ h hj
 obtain ⟨na, nc, ta, tc, Ln, Lt, hn1, ht1, rfl⟩ := hj
 apply ok_eq
 rw [ev, F65 _ _ _ (oL rfl)]
 simp only [J65, b65_entry]
 refine ok_gO (ok_ldI h rfl ?_)
 rw [callI_of (show evF E orcL (n + 1) (.fn 63) [.ptr (some (.rw bj, 0))] S = _ from e)]
 refine ok_ldI h rfl (ok_true (by simp [AV.beq]) (ok_ret ⟨?_, rfl⟩))
 rw [wu64 (n := sumN J.l) (by omega) (by omega), wu64 (by omega) (by omega)]
theorem dblock_eq (n : Nat) {p : Int} (h6 : 6 ≤ J.count) (h40 : J.first + J.count ≤ 40) (h0 : 0 ≤ p) (h1 : p < 4611686018427387904) (h : Hp X S (Lj ++ F)) (hj : DJ bj sb J Lj) : ev (n + 1) (.fn 67) [.ptr (some (.rw bj, 0)), .int .u64 p] S = some (.int .i64 (blkP J p), S) := by
 obtain ⟨na, nc, ta, tc, Ln, Lt, hn1, ht1, rfl⟩ := hj
 apply ok_eq
 rw [ev, F67 _ _ _ _ (oL rfl)]
 simp only [J67, b67_entry]
 obtain ⟨hb1, hb2⟩ := blkP_lt h6 h0
 have e1 : IntKind.wrap .u64 (IntKind.wrap .i64 ((J.count : Int) - 2)) = (J.count : Int) - 2 := by
  rw [wz (x := (J.count : Int) - 2) rfl (by omega) (by omega), wu64 (by omega) (by omega)]
 refine ok_gO (ok_ldI h rfl (ok_gO (ok_ldI h rfl ?_)))
 rw [e1]
 refine ok_nz (by omega) (ok_ret ⟨?_, rfl⟩)
 rw [Int.tmod_eq_emod_of_nonneg h0, wz (x := (J.first : Int) + 2) rfl (by omega) (by omega), wz (x := p % ((J.count : Int) - 2)) rfl (by omega) (by omega), wz rfl (by omega) (by omega), hb2]
theorem dflush_ok (n : Nat) {N K : Nat} (hn : 1000002 < n) (hSI : SI t N K) (hK : K ≤ 1000000) (hb : StB b t L) (h : Hp X S (L ++ F)) :
 Ok (ev (n + 1) (.fn 44) [.ptr (some (.rw b, 0))] S) fun v S' => v = .int .i64 0 ∧ ∃ L', StB b t.fl L' ∧ Hp X S' (L' ++ F) :=
 flush_ok n hn hSI.r (by have := hSI.q; omega) hb h
abbrev DwQ (X : Cx) (F : List Ent) (bj sb : Nat) (J : JM) (t : St) (x : Su) : AV → AS → Prop := fun v S' => v = .int .i64 (wE t) ∧ ∃ L' Lj', StB sb (wrT J t x) L' ∧ DJ bj sb (J.sup! { J.sup with g := J.sup.g + 1 }) Lj' ∧ Hp X S' (L' ++ (Lj' ++ F))
theorem super_ok (n : Nat) (hn : 1000010 < n) (hJ : JI J k) {x : Su} (hx : ∀ y ∈ x.l, 0 ≤ y ∧ y ≤ 4611686018427387904) (hbo : x.bo ≠ 0) {N : Nat} (hN : J.first + J.count ≤ N) (hSI : SI t N 900000) (h : Hp X S (Ls ++ (Lj ++ F))) (hj : DJ bj sb J Lj) (hb : StB sb t Ls) :
 Ok (ev (n + 4) (.fn 62) [.ptr (some (.rw bj, 0)), .agg (srowS x)] S) (DwQ X F bj sb J t x) := by
 obtain ⟨na, nc, ta, tc, Ln, Lt, hn1, ht1, rfl⟩ := hj
 have hg := hJ.g
 have hk := hJ.k1
 have hc6 := hJ.c6
 have hxB : ∀ y ∈ ({ x with g := J.sup.g + 1 } : Su).l, 0 ≤ y ∧ y ≤ 4611686018427387904 := by
  intro y hy
  simp only [Su.l, List.mem_cons, List.not_mem_nil, or_false] at hy
  rcases hy with rfl | hy
  ·omega
  ·exact hx y (by simp [Su.l, hy])
 have hpo := (hx x.po (by simp [Su.l])).2
 have hok : okS ({ x with g := J.sup.g + 1 } : Su) = true := by
  have : ({ x with g := J.sup.g + 1 } : Su).l.all mxB = true := by
   rw [List.all_eq_true]; intro y hy; simp [mxB]; exact (hxB y hy).2
  simp only [okS, this, Bool.and_true, Bool.and_eq_true, bne_iff_ne, ne_eq]
  exact ⟨by omega, hbo⟩
 rw [ev, F62 _ _ _ _ (oL rfl)]
 simp only [J62, b62_entry]
 refine ok_ifO rfl (ok_newA h (fun b1 S2 h2 => ok_gO (ok_ldI h2 rfl (ok_false (by simp; omega) (ok_ldI h2 rfl (ok_false (by simp; omega) (ok_gO (ok_ldI h2 rfl (ok_gO ?_)))))))))
 rw [wu64 (n := J.sup.g + 1) (by omega) (by omega)]
 refine ok_stn h2 (by simp [drow]) (d := drow sb (J.sup! { J.sup with g := J.sup.g + 1 }) na nc ta tc J.l.length) (by simp [splice, drow, JM.sup!]) (fun S9 h9 => ok_gO (ok_ldI h9 rfl (ok_stn h9 (by simp [srowS, Su.l]) (d := srowS { x with g := J.sup.g + 1 }) (by simp [splice, srowS, Su.l, JM.sup!]) (fun S12 h12 => ok_ldn h12 (by simp [srowS, Su.l]) (d := srowS { x with g := J.sup.g + 1 }) (by simp [srowS, Su.l]) ?_))))
 obtain ⟨v, S14, e14, a7, c7, L7, rfl, hs7, h14⟩ : Ok (evF E orcL (n + 3) (.fn 45) [.agg (srowS { x with g := J.sup.g + 1 })] S12) _ := rputS_ok (n + 1) (by omega) (fun y hy => ⟨(hxB y hy).1, by have := (hxB y hy).2; omega⟩) h12
 rw [callT_of e14]
 rw [show putS ({ x with g := J.sup.g + 1 } : Su) = encS { x with g := J.sup.g + 1 } by simp [putS, hok]] at hs7 ⊢
 refine ok_atL rfl (ok_atI rfl (ok_gO (ok_ldI h14 rfl (ok_gO (ok_ldI h14 rfl ?_)))))
 have h40 := hJ.ff
 have tail : ∀ (at_ : Int), at_ = wrAt J → Ok (J62_jZAM (evF E orcL (n + 3)) (n + 3) (some (.rw bj, 0)) a7 (encS { x with g := J.sup.g + 1 }).length c7 at_ S14) (DwQ X F bj sb J t x) := by
  intro at_ hat
  have h0 : 0 ≤ at_ ∧ at_ < N := by
   unfold wrAt at hat
   split at hat <;> omega
  simp only [J62_jZAM, b62_jZAM]
  refine ok_gO (ok_ldP h14 rfl ?_)
  have h14' : Hp X S14 (Ls ++ (L7 ++ (C b1 (srowS { x with g := J.sup.g + 1 }) :: C bj (drow sb (J.sup! { J.sup with g := J.sup.g + 1 }) na nc ta tc J.l.length) :: (Ln ++ (Lt ++ F))))) := h14.re (by intro p; simp only [List.countP_append, List.countP_cons, List.cons_append, C]; omega)
  obtain ⟨v, S20, e20, rfl, L20, hb20, h20⟩ : Ok (evF E orcL (n + 3) (.fn 43) [.ptr (some (.rw sb, 0)), .int .i64 at_, .sl a7 (encS { x with g := J.sup.g + 1 }).length c7] S14) _ := writeG_ok (n + 2) h0.1 (by rw [hSI.len]; exact h0.2) (encS_len _) hSI.f (by have := hSI.q; omega) hb h14' (slG_vw hs7 (fun e he => by simp [he]))
  rw [callI_of e20]
  refine ok_cond (fun hc => ?_) (fun hc => ?_)
  ·have hw : t.f = 0 := by
    unfold wE at hc
    by_cases hf : t.f = 0
    ·exact hf
    ·rw [if_neg hf] at hc; exact absurd hc (by decide)
   refine ok_ret ⟨rfl, L20, C bj (drow sb (J.sup! { J.sup with g := J.sup.g + 1 }) na nc ta tc J.l.length) :: (Ln ++ Lt), ?_, ⟨na, nc, ta, tc, Ln, Lt, hn1, ht1, rfl⟩, ?_⟩
   ·rw [wrT, if_pos hw, ← hat]; exact hb20
   ·exact (h20.re (M := L7 ++ (C b1 (srowS { x with g := J.sup.g + 1 }) :: (L20 ++ (C bj (drow sb (J.sup! { J.sup with g := J.sup.g + 1 }) na nc ta tc J.l.length) :: (Ln ++ Lt) ++ F)))) (by intro p; simp only [List.countP_append, List.countP_cons, List.cons_append, C]; omega)).right.drop1
  have hw : ¬ t.f = 0 := fun hf => by unfold wE at hc; rw [if_pos hf] at hc; exact absurd hc (by decide)
  refine ok_gO (ok_ldP h20 rfl ?_)
  have hq20 : (wS t at_ (encS { x with g := J.sup.g + 1 })).q.length ≤ 1000000 := by
   have h1 := wS_q t at_ (encS { x with g := J.sup.g + 1 })
   have h2 := hSI.q
   omega
  obtain ⟨v, S30, e30, rfl, L30, hb30, h30⟩ : Ok (evF E orcL (n + 3) (.fn 44) [.ptr (some (.rw sb, 0))] S20) _ := flush_ok (n + 2) (by omega) (wS_inr hSI.r h0.1 (by rw [hSI.len]; exact h0.2)) hq20 hb20 h20
  rw [callI_of e30]
  refine ok_ret ⟨by rw [wE, if_neg hw], L30, C bj (drow sb (J.sup! { J.sup with g := J.sup.g + 1 }) na nc ta tc J.l.length) :: (Ln ++ Lt), ?_, ⟨na, nc, ta, tc, Ln, Lt, hn1, ht1, rfl⟩, ?_⟩
  ·rw [wrT, if_neg hw, ← hat]; exact hb30
  ·exact (h30.re (M := L7 ++ (C b1 (srowS { x with g := J.sup.g + 1 }) :: (L30 ++ (C bj (drow sb (J.sup! { J.sup with g := J.sup.g + 1 }) na nc ta tc J.l.length) :: (Ln ++ Lt) ++ F)))) (by intro p; simp only [List.countP_append, List.countP_cons, List.cons_append, C]; omega)).right.drop1
 have hg1 : (J.sup! { J.sup with g := J.sup.g + 1 }).sup.g = J.sup.g + 1 := rfl
 have hgm : Int.tmod (J.sup.g + 1) 2 = (J.sup.g + 1) % 2 := Int.tmod_eq_emod_of_nonneg (by omega)
 refine ok_cond (fun hc => ?_) (fun hc => ?_)
 ·simp only [beq_iff_eq, hg1] at hc
  refine ok_gO (ok_ldI h14 rfl (tail _ ?_))
  show (J.first : Int) = wrAt J
  unfold wrAt
  rw [if_neg (by omega)]
 ·simp only [beq_eq_false_iff_ne, ne_eq, hg1] at hc
  rw [wn (x := ((J.sup! { J.sup with g := J.sup.g + 1 }).first : Int) + 1) (n := J.first + 1) (by show (J.first : Int) + 1 = _; omega) (by omega)]
  refine tail _ ?_
  show ((J.first + 1 : Nat) : Int) = wrAt J
  unfold wrAt
  rw [if_pos (by omega)]; omega
end
end Go.Jn.P
namespace Go.Jn.P
open Go.Gr Go.Jn
theorem rneed_eq (n : Nat) (x : Int) (S : AS) : ev (n + 1) (.fn 64) [.int .i64 x] S = some (.int .i64 (needI x), S) := by
 apply ok_eq
 rw [ev, F64 _ _ _ (oL rfl)]
 simp only [J64, b64_entry]
 refine ok_cond (fun c1 => ok_ret ⟨?_, rfl⟩) (fun c1 => ok_cond (fun c2 => ok_ret ⟨?_, rfl⟩) (fun c2 => ok_ret ⟨?_, rfl⟩))
 ·simp only [decide_eq_true_eq] at c1; rw [needI, if_pos (by omega)]
 ·simp only [gt_iff_lt, decide_eq_true_eq] at c2; rw [needI, if_pos (by omega)]
 ·simp only [gt_iff_lt, decide_eq_false_iff_not] at c1 c2
  rw [wz (x := 388 * x) rfl (by omega) (by omega), wz (x := 4 + 388 * x) rfl (by omega) (by omega), wz (x := 4 + 388 * x + 336) rfl (by omega) (by omega), wz (x := 4 + 388 * x + 336 - 1) rfl (by omega) (by omega)]
  rw [Int.tdiv_eq_ediv_of_nonneg (by omega), wz (z := needI x) ?_ (by rw [needI, if_neg (by omega)]; omega) (by rw [needI, if_neg (by omega)]; omega)]
  rw [needI, if_neg (by omega)]
  congr 1
  omega
section
variable {X : Cx} {S : AS} {L F G Lj Ls : List Ent} {b bj sb : Nat} {Q : AV → AS → Prop} {J : JM} {k : Nat} {t : St}
theorem dsync_ok (n : Nat) (hn : 1000010 < n) (hJ : JI J k) {K N : Nat} (hK : K ≤ 1000000) (hSI : SI t N K) (h : Hp X S (Ls ++ (Lj ++ F))) (hj : DJ bj sb J Lj) (hb : StB sb t Ls) :
 Ok (ev (n + 2) (.fn 51) [.ptr (some (.rw bj, 0))] S) fun v S' => v = .int .i64 0 ∧ ∃ (L' Lj' : List Ent), StB sb t.fl L' ∧ DJ bj sb J.sync Lj' ∧ Hp X S' (L' ++ (Lj' ++ F)) := by
 have hj0 := hj
 obtain ⟨na, nc, ta, tc, Ln, Lt, hn1, ht1, rfl⟩ := hj
 rw [ev, F51 _ _ _ (oL rfl)]
 simp only [J51, b51_entry]
 refine ok_gO (ok_ldP h rfl ?_)
 obtain ⟨v, S1, e1, rfl, L1, hb1, h1⟩ : Ok (evF E orcL (n + 1) (.fn 44) [.ptr (some (.rw sb, 0))] S) _ := dflush_ok n (by omega) hSI hK hb h
 rw [callI_of e1]
 have h1j : Hp X S1 (C bj (drow sb J na nc ta tc J.l.length) :: (Ln ++ Lt) ++ (L1 ++ F)) := h1.re (by intro p; simp only [List.countP_append, List.countP_cons, List.cons_append, C]; omega)
 refine ok_true rfl ?_
 rw [callI_of (show evF E orcL (n + 1) (.fn 48) [.ptr (some (.rw bj, 0))] S1 = _ from dlast_eq n hJ h1j hj0)]
 refine ok_gO (ok_stn h1 (by simp [drow]) (d := drow sb J.sync na nc ta tc J.l.length) (by simp [splice, drow, JM.sync]) (fun S2 h2 => ok_ret ⟨rfl, L1, C bj (drow sb J.sync na nc ta tc J.l.length) :: (Ln ++ Lt), hb1, ⟨na, nc, ta, tc, Ln, Lt, hn1, ht1, rfl⟩, h2⟩))
theorem dtr_loop (n0 : Nat) (call : CallA) (hJ : JI J k) {lsn : Int} {N : Nat} (hN : N ≤ J.l.length) (hNl : J.sup.ls + N = lsn) {na ta : OP} {nc tc : Cap} (h : Hp X S (C bj (drow sb J na nc ta tc J.l.length) :: F)) (hr : RdR X (C bj (drow sb J na nc ta tc J.l.length) :: F) na (nrows J.l).flatten)
 (fin : Ok (J52_jZAL call n0 (some (.rw bj, 0)) lsn (J.sup.po + sumN (J.l.take N)) N S) Q) :
 ∀ (m i : Nat), i ≤ N → N - i < m →
   Ok (J52_lZAa call n0 m (some (.rw bj, 0)) lsn (J.sup.po + sumN (J.l.take i)) i (J.sup.ls + (i : Nat)) S) Q
 | 0, i, hi, hm => by omega
 | m + 1, i, hi, hm => by
   have h38 := hJ.lcount
   have q1 := hJ.po
   have q2 := hJ.k1
   have q3 := hJ.ls
   have q4 := hJ.rm
   have q5 := hJ.c40
   rw [J52_lZAa_succ]
   simp only [b52_lZAa]
   refine ok_cond (fun hc => ?_) (fun hc => ?_)
   ·simp only [decide_eq_true_eq] at hc
    have hlt : i < J.l.length := by omega
    obtain ⟨x, hx⟩ : ∃ x, J.l[i]? = some x := ⟨_, List.getElem?_eq_getElem hlt⟩
    have hxo := hJ.ol x (List.mem_of_getElem? hx)
    obtain ⟨p, hp⟩ := hr.some_of (by intro he; have := congrArg List.length he; rw [flat_len (nrows_all J.l), nrows_len] at this; simp only [List.length_nil] at this; omega)
    have hr2 : ∀ {M : List Ent} {cs : List AV}, RdR X M na cs → RdR X M (some p) cs := fun h => by rw [← hp]; exact h
    have hr' := hr2 hr
    refine ok_gO (ok_ldL h rfl ?_)
    rw [show ixSl 1 na J.l.length (i : Int) = ixSl 1 (some p) J.l.length (i : Int) by rw [hp]]
    rw [ixSl_at rfl hlt, hr'.ldI h (by have := flat_get (nrows_all J.l) (nrows_at hx) (j := 0) (by decide); simpa using this)]
    have h3 := sumN_take hx
    have h4 := sumN_le (fun o ho => (hJ.ol o ho).1) i
    have h5 := sumN_le (fun o ho => (hJ.ol o ho).1) (i + 1)
    rw [wu64 (n := x.need) (by omega) (by omega), wu64 (n := J.sup.po + sumN (J.l.take i) + x.need) (by omega) (by omega), wn (x := (i : Int) + 1) (n := i + 1) (by omega) (by omega), wu64 (n := J.sup.ls + (i : Nat) + 1) (by omega) (by omega)]
    rw [show J.sup.po + sumN (J.l.take i) + x.need = J.sup.po + sumN (J.l.take (i + 1)) by omega, show J.sup.ls + ((i : Nat) : Int) + 1 = J.sup.ls + ((i + 1 : Nat) : Int) by omega]
    exact dtr_loop n0 call hJ hN hNl h hr fin m (i + 1) (by omega) (by omega)
   ·simp only [decide_eq_false_iff_not] at hc
    have : i = N := by omega
    subst this
    exact fin
theorem dtrim_ok (n : Nat) (hn : 1000020 < n) (hJ : JI J k) {K N : Nat} (hK : K ≤ 800000) (hN0 : J.first + J.count ≤ N) (hSI : SI t N K) {lsn : Int} (hlsn : u64B lsn) (h : Hp X S (Ls ++ (Lj ++ F))) (hj : DJ bj sb J Lj) (hb : StB sb t Ls) :
 Ok (ev (n + 5) (.fn 52) [.ptr (some (.rw bj, 0)), .int .u64 lsn] S) fun v S' => v = .int .i64 (trA J t lsn) ∧ ∃ (L' Lj' : List Ent), StB sb (trT J t lsn) L' ∧ DJ bj sb (trJ J t lsn) Lj' ∧ Hp X S' (L' ++ (Lj' ++ F)) := by
 have hj0 := hj
 obtain ⟨na, nc, ta, tc, Ln, Lt, hn1, ht1, rfl⟩ := hj
 have h38 := hJ.lcount
 have hk1 := hJ.k1
 have hls := hJ.ls
 obtain ⟨hl0, hl1⟩ := hlsn
 rw [ev, F52 _ _ _ _ (oL rfl)]
 simp only [J52, b52_entry]
 have same : ∀ (S' : AS), J.trG lsn = false → Hp X S' (Ls ++ (C bj (drow sb J na nc ta tc J.l.length) :: (Ln ++ Lt) ++ F)) → Ok (some (AV.int .i64 (trA J t lsn), S')) fun v S' => v = .int .i64 (trA J t lsn) ∧ ∃ (L' Lj' : List Ent), StB sb (trT J t lsn) L' ∧ DJ bj sb (trJ J t lsn) Lj' ∧ Hp X S' (L' ++ (Lj' ++ F)) := fun S' he hh =>
  ok_ret ⟨rfl, Ls, _, by rw [trT, if_neg (by simp [he])]; exact hb, by rw [trJ, if_neg (by simp [he])]; exact hj0, hh⟩
 refine ok_gO (ok_ldI h rfl (ok_cond (fun c1 => ?_) (fun c1 => ok_gO (ok_ldI h rfl (ok_cond (fun c2 => ?_) (fun c2 => ok_gO (ok_ldI h rfl (ok_cond (fun c3 => ?_) (fun c3 => ?_)))))))))
 ·simp only [gt_iff_lt, decide_eq_true_eq] at c1
  have he : J.trE lsn = 2 := by rw [JM.trE, if_pos (.inl c1)]
  have hg : J.trG lsn = false := by simp [JM.trG, he]
  have := same S hg h
  rwa [show trA J t lsn = 2 by simp [trA, hg, he]] at this ⊢
 ·simp only [decide_eq_true_eq] at c2
  have he : J.trE lsn = 2 := by rw [JM.trE, if_pos (.inr c2)]
  have hg : J.trG lsn = false := by simp [JM.trG, he]
  have := same S hg h
  rwa [show trA J t lsn = 2 by simp [trA, hg, he]] at this ⊢
 ·simp only [gt_iff_lt, decide_eq_false_iff_not, beq_iff_eq] at c1 c2 c3
  have he : J.trE lsn = 0 := trE_iff.2 ⟨by omega, by omega⟩
  have hg : J.trG lsn = false := by simp [JM.trG, c3]
  have := same S hg h
  rwa [show trA J t lsn = 0 by simp [trA, hg, he]] at this ⊢
 simp only [gt_iff_lt, decide_eq_false_iff_not, beq_eq_false_iff_ne, ne_eq] at c1 c2 c3
 have he : J.trE lsn = 0 := trE_iff.2 ⟨by omega, by omega⟩
 obtain ⟨hN, hNi⟩ := trN_le hJ he
 generalize hNN : J.trN lsn = Dn at hN hNi
 have hN1 : 1 ≤ Dn := by omega
 have hgG : J.trG lsn = true := trG_iff.2 ⟨he, c3⟩
 have hA : trA J t lsn = wE t := by rw [trA, if_pos hgG]
 have hTT : trT J t lsn = wrT J t (supT J lsn Dn) := by rw [trT, if_pos hgG, hNN]
 refine ok_gO (ok_ldI h rfl (ok_gO (ok_ldI h rfl ?_)))
 have hC : Hp X S (C bj (drow sb J na nc ta tc J.l.length) :: (Ln ++ (Lt ++ (Ls ++ F)))) := h.re (by intro p; simp only [List.countP_append, List.countP_cons, List.cons_append, C]; omega)
 have h0 : J.sup.po = J.sup.po + sumN (J.l.take 0) := by simp [sumN]
 have h0' : J.sup.ls = J.sup.ls + ((0 : Nat) : Int) := by omega
 rw [show ∀ (x y : Int), x = J.sup.po + sumN (J.l.take 0) → y = J.sup.ls + ((0 : Nat) : Int) → J52_lZAa (evF E orcL (n + 4)) (n + 4) (n + 4) (some (.rw bj, 0)) lsn x 0 y S = J52_lZAa (evF E orcL (n + 4)) (n + 4) (n + 4) (some (.rw bj, 0)) lsn (J.sup.po + sumN (J.l.take 0)) ((0 : Nat) : Int) (J.sup.ls + ((0 : Nat) : Int)) S from fun x y hx hy => by rw [hx, hy]; rfl]
 rotate_left
 ·exact h0
 ·exact h0'
 refine dtr_loop (n + 4) (evF E orcL (n + 4)) hJ hN (by omega) hC (hn1.rd (fun e he => by simp [he])) ?_ (n + 4) 0 (by omega) (by omega)
 simp only [J52_jZAL, b52_jZAL]
 obtain ⟨o, ho⟩ : ∃ o, J.l[Dn - 1]? = some o := ⟨_, List.getElem?_eq_getElem (by omega)⟩
 have hoo := hJ.ol o (List.mem_of_getElem? ho)
 have hsT := supT_succ (lsn := lsn) ho
 rw [Nat.sub_add_cancel hN1] at hsT
 obtain ⟨f1, f2, f3, f4, f5, f6⟩ := supT_facts hJ lsn Dn hN
 have hsum := sumN_le (fun o ho => (hJ.ol o ho).1) Dn
 have hrm := hJ.rm
 have h40 := hJ.c40
 have hpo := hJ.po
 have hg := hJ.g
 have hbo := hJ.bo
 have hsy := hJ.sy
 have fab : (supT J lsn Dn).ab = o.bo := by rw [hsT]
 have fas : (supT J lsn Dn).as_ = o.se := by rw [hsT]
 have hb62 : ∀ y ∈ (⟨0, J.sup.bo, J.sup.po + sumN (J.l.take Dn), lsn, o.bo, o.se⟩ : Su).l, 0 ≤ y ∧ y ≤ 4611686018427387904 := by
  intro y hy
  simp only [Su.l, List.mem_cons, List.not_mem_nil, or_false] at hy
  rcases hy with rfl | rfl | rfl | rfl | rfl | rfl
  all_goals constructor <;> omega
 refine ok_gO (ok_ldL hC rfl ?_)
 obtain ⟨p, hp⟩ := (ht1.rd (X := X) (M := C bj (drow sb J na nc ta tc J.l.length) :: (Ln ++ (Lt ++ (Ls ++ F)))) (fun e he => by simp [he])).some_of (by intro he; have := congrArg List.length he; rw [flat_len (strows_all J.l), strows_len] at this; simp only [List.length_nil] at this; omega)
 have hr2 : ∀ {M : List Ent} {cs : List AV}, RdR X M ta cs → RdR X M (some p) cs := fun h => by rw [← hp]; exact h
 have hrt := hr2 (ht1.rd (X := X) (M := C bj (drow sb J na nc ta tc J.l.length) :: (Ln ++ (Lt ++ (Ls ++ F)))) (fun e he => by simp [he]))
 rw [show ixSl 2 ta J.l.length (IntKind.wrap .i64 ((Dn : Nat) - 1)) = ixSl 2 (some p) J.l.length (IntKind.wrap .i64 ((Dn : Nat) - 1)) by rw [hp]]
 rw [wn (x := ((Dn : Nat) : Int) - 1) (n := Dn - 1) (by omega) (by omega)]
 rw [ixSl_at rfl (by omega : Dn - 1 < J.l.length), hrt.elem hC (strows_all J.l) (strows_at ho)]
 refine ok_newA hC (fun b19 S20 h20 => ok_ifO rfl (ok_stn h20 (by simp [strow]) (d := strow o) (by simp [splice, strow]) (fun S21 h21 => ok_gO (ok_ldI h21 rfl (ok_ldI h21 rfl (ok_ldI h21 rfl ?_))))))
 have h21' : Hp X S21 (Ls ++ ((C bj (drow sb J na nc ta tc J.l.length) :: (Ln ++ Lt)) ++ (C b19 (strow o) :: F))) := h21.re (by intro p; simp only [List.countP_append, List.countP_cons, List.countP_nil, List.cons_append, C]; omega)
 obtain ⟨v, S26, e26, rfl, L', Lj', hb', hj', h26⟩ : Ok (evF E orcL (n + 4) (.fn 62) [.ptr (some (.rw bj, 0)), .agg (srowS ⟨0, J.sup.bo, J.sup.po + sumN (J.l.take Dn), lsn, o.bo, o.se⟩)] S21) _ := super_ok n (by omega) hJ hb62 (by show J.sup.bo ≠ 0; omega) hN0 ⟨hSI.len, hSI.f, by have := hSI.q; omega, hSI.r⟩ h21' hj0 hb
 rw [callI_of (show evF E orcL (n + 4) (.fn 62) [.ptr (some (.rw bj, 0)), .agg [.int .u64 0, .int .u64 J.sup.bo, .int .u64 (J.sup.po + sumN (J.l.take Dn)), .int .u64 lsn, .int .u64 o.bo, .int .u64 o.se]] S21 = _ from e26)]
 have hsg : ({ (⟨0, J.sup.bo, J.sup.po + sumN (J.l.take Dn), lsn, o.bo, o.se⟩ : Su) with g := J.sup.g + 1 } : Su) = { supT J lsn Dn with g := J.sup.g + 1 } := by
  rw [← f4, ← fab, ← fas, ← f2]
  conv => rhs; rw [show (supT J lsn Dn) = ⟨(supT J lsn Dn).g, (supT J lsn Dn).bo, (supT J lsn Dn).po, (supT J lsn Dn).ls, (supT J lsn Dn).ab, (supT J lsn Dn).as_⟩ from rfl, f3]
 have hwT : wrT J t ⟨0, J.sup.bo, J.sup.po + sumN (J.l.take Dn), lsn, o.bo, o.se⟩ = wrT J t (supT J lsn Dn) := by
  unfold wrT
  rw [hsg]
 rw [hwT, ← hTT] at hb'
 rw [hA]
 by_cases hw : t.f = 0
 ·have hwe : wE t = 61 := by rw [wE, if_pos hw]
  have hJJ : trJ J t lsn = J.sup! { J.sup with g := J.sup.g + 1 } := by rw [trJ, if_pos hgG, if_pos hw]
  rw [hwe]
  refine ok_true (by decide) (ok_ret ⟨rfl, L', Lj', hb', by rw [hJJ]; exact hj', h26.sub (List.Sublist.append_left (List.Sublist.append_left (List.sublist_cons_self _ _) Lj') L')⟩)
 have hwe : wE t = 0 := by rw [wE, if_neg hw]
 have htr : trJ J t lsn = { J with sup := { supT J lsn Dn with g := J.sup.g + 1 }, l := J.l.drop Dn, sy := lsn + (J.l.drop Dn).length } := by rw [trJ, if_pos hgG, if_neg hw, hNN]
 have hJ1 : JI (J.sup! { J.sup with g := J.sup.g + 1 }) (k + 1) ∨ True := .inr trivial
 have hj0' := hj'
 obtain ⟨na2, nc2, ta2, tc2, Ln2, Lt2, hn2, ht2, rfl⟩ := hj'
 have hlast : evF E orcL (n + 4) (.fn 48) [.ptr (some (.rw bj, 0))] S26 = some (.int .u64 (J.sup.ls + J.l.length), S26) := by
  have h26j : Hp X S26 ((C bj (drow sb (J.sup! { J.sup with g := J.sup.g + 1 }) na2 nc2 ta2 tc2 J.l.length) :: (Ln2 ++ Lt2)) ++ (L' ++ (C b19 (strow o) :: F))) := h26.re (by intro p; simp only [List.countP_append, List.countP_cons, List.cons_append, C, JM.sup!]; omega)
  apply ok_eq
  rw [F48 _ _ _ (oL rfl)]
  simp only [J48, b48_entry]
  refine ok_gO (ok_ldI h26j rfl (ok_gO (ok_ldL h26j rfl (ok_ret ⟨?_, rfl⟩))))
  show AV.int .u64 (IntKind.wrap .u64 (J.sup.ls + IntKind.wrap .u64 ((J.l.length : Nat) : Int))) = _
  rw [wu64 (n := ((J.l.length : Nat) : Int)) (by omega) (by omega), wu64 (by omega) (by omega)]
 rw [hwe]
 refine ok_false rfl ?_
 rw [callI_of hlast]
 have hsl : (J.sup! { J.sup with g := J.sup.g + 1 }).l = J.l := rfl
 rw [hsl] at hn2 ht2 h26
 obtain ⟨na3, nc3, hn3, hK3⟩ := hn2.drop (k := Dn) (by rw [nrows_len]; exact hN) (by rw [nrows_len]; omega) rfl
 obtain ⟨ta3, tc3, ht3, hK4⟩ := ht2.drop (k := Dn) (by rw [strows_len]; exact hN) (by rw [strows_len]; omega) rfl
 have h26' : Hp X S26 (C bj (drow sb (J.sup! { J.sup with g := J.sup.g + 1 }) na2 nc2 ta2 tc2 J.l.length) :: C b19 (strow o) :: (L' ++ (Ln2 ++ (Lt2 ++ F)))) := h26.re (by intro p; simp only [List.countP_append, List.countP_cons, List.cons_append, C]; omega)
 rw [nrows_len] at hn3 hK3
 rw [strows_len] at ht3 hK4
 refine ok_gO (ok_stn h26' (by simp [drow]) (d := drow sb { (J.sup! { J.sup with g := J.sup.g + 1 }) with sy := J.sup.ls + J.l.length } na2 nc2 ta2 tc2 J.l.length) (by simp [splice, drow]) (fun S31 h31 => ok_gO (ok_ldL h31 rfl ?_)))
 rw [hK3]
 refine ok_gO (ok_stn h31 (by simp [drow]) (d := [.ptr (some (.rw sb, 0)), .int .i64 J.first, .int .i64 J.count, .int .u64 (J.sup.g + 1), .int .u64 J.sup.bo, .int .u64 J.se, .int .u64 J.sup.po, .int .u64 J.sup.ls, .sl na3 (J.l.length - Dn) nc3, .sl ta2 J.l.length tc2, .int .u64 J.sup.ab, .int .u64 J.sup.as_, .int .u64 (J.sup.ls + J.l.length)]) (by simp [splice, drow, JM.sup!]) (fun S36 h36 => ok_gO (ok_ldL h36 rfl ?_)))
 rw [hK4]
 have hll : (J.l.drop Dn).length = J.l.length - Dn := by simp
 have hD : ({ J with sup := { supT J lsn Dn with g := J.sup.g + 1 }, l := J.l.drop Dn, sy := lsn + (J.l.drop Dn).length } : JM).l.length = J.l.length - Dn := hll
 have hsy2 : J.sup.ls + (J.l.length : Nat) = lsn + ((J.l.length - Dn : Nat) : Int) := by omega
 refine ok_gO (ok_stn h36 (by simp) (d := [.ptr (some (.rw sb, 0)), .int .i64 J.first, .int .i64 J.count, .int .u64 (J.sup.g + 1), .int .u64 J.sup.bo, .int .u64 J.se, .int .u64 J.sup.po, .int .u64 J.sup.ls, .sl na3 (J.l.length - Dn) nc3, .sl ta3 (J.l.length - Dn) tc3, .int .u64 J.sup.ab, .int .u64 J.sup.as_, .int .u64 (J.sup.ls + J.l.length)]) (by simp [splice]) (fun S41 h41 => ?_))
 refine ok_ldn h41 (by simp [strow]) (d := strow o) rfl (ok_gO (ok_ifO rfl ?_))
 refine ok_stn h41 (by simp [strow]) (d := [.ptr (some (.rw sb, 0)), .int .i64 J.first, .int .i64 J.count, .int .u64 (J.sup.g + 1), .int .u64 J.sup.bo, .int .u64 J.se, .int .u64 J.sup.po, .int .u64 J.sup.ls, .sl na3 (J.l.length - Dn) nc3, .sl ta3 (J.l.length - Dn) tc3, .int .u64 o.bo, .int .u64 o.se, .int .u64 (J.sup.ls + J.l.length)]) (by simp [splice, strow]) (fun S44 h44 => ?_)
 refine ok_gO (ok_stn h44 (by simp) (d := [.ptr (some (.rw sb, 0)), .int .i64 J.first, .int .i64 J.count, .int .u64 (J.sup.g + 1), .int .u64 J.sup.bo, .int .u64 J.se, .int .u64 (J.sup.po + sumN (J.l.take Dn)), .int .u64 J.sup.ls, .sl na3 (J.l.length - Dn) nc3, .sl ta3 (J.l.length - Dn) tc3, .int .u64 o.bo, .int .u64 o.se, .int .u64 (J.sup.ls + J.l.length)]) (by simp [splice]) (fun S46 h46 => ?_))
 refine ok_gO (ok_stn h46 (by simp) (d := drow sb { J with sup := { supT J lsn Dn with g := J.sup.g + 1 }, l := J.l.drop Dn, sy := lsn + (J.l.drop Dn).length } na3 nc3 ta3 tc3 (J.l.length - Dn)) ?_ (fun S48 h48 => ok_ret ⟨rfl, L', C bj (drow sb { J with sup := { supT J lsn Dn with g := J.sup.g + 1 }, l := J.l.drop Dn, sy := lsn + (J.l.drop Dn).length } na3 nc3 ta3 tc3 (J.l.length - Dn)) :: (Ln2 ++ Lt2), hb', ?_, ?_⟩))
 ·simp only [drow, f2, f4, fab, fas, hll]
  rw [f3, ← hsy2]
  rfl
 ·rw [htr]
  refine ⟨na3, nc3, ta3, tc3, Ln2, Lt2, ?_, ?_, ?_⟩
  ·rw [hD, show nrows (J.l.drop Dn) = (nrows J.l).drop Dn by simp [nrows, List.map_drop]]; exact hn3
  ·rw [hD, show strows (J.l.drop Dn) = (strows J.l).drop Dn by simp [strows, List.map_drop]]; exact ht3
  ·rw [hD]
 ·exact (h48.re (M := C b19 (strow o) :: (L' ++ (C bj (drow sb { J with sup := { supT J lsn Dn with g := J.sup.g + 1 }, l := J.l.drop Dn, sy := lsn + (J.l.drop Dn).length } na3 nc3 ta3 tc3 (J.l.length - Dn)) :: (Ln2 ++ Lt2) ++ F))) (by intro p; simp only [List.countP_append, List.countP_cons, List.cons_append, C]; omega)).drop1
end
end Go.Jn.P
namespace Go.Jn.P
open Go.Gr Go.Jn
section
variable {X : Cx} {S : AS} {L F G Lj Ls : List Ent} {b bj sb : Nat} {Q : AV → AS → Prop} {J : JM} {k : Nat} {t : St}
theorem dapp_loop (n0 n : Nat) (hn : 1000010 < n) (hJ : JI J k) {need : Nat} {lsn pos : Int} {s : List UInt8} {a6 : OP} {l6 : Nat} {c6 : Cap} {w4 w5 : Int} {N : Nat} (h40 : J.first + J.count ≤ N) (hN : N ≤ 40) (hne : need ≤ 40)
 (hse : 1 ≤ J.se) (hlsn : lsn = J.sup.ls + (J.l.length : Nat) + 1) (hpos : pos = J.sup.po + sumN J.l)
 (hv : Vw X G a6 l6 c6 s) (hs1 : (need - 1) * 336 < s.length) (hs2 : s.length ≤ need * 336) (hj : DJ bj sb J Lj) :
 ∀ (m i K : Nat) (t : St) (Ls : List Ent) (S : AS), i ≤ need → need - i < m → K + need ≤ 900000 + i → StB sb t Ls → SI t N K → Hp X S (Ls ++ (Lj ++ G)) →
   ((apRun J lsn pos need s (need - i) i t).1 = true → ∀ L' S', StB sb (apRun J lsn pos need s (need - i) i t).2 L' → Hp X S' (L' ++ (Lj ++ G)) → Ok (J50_jZAM (evF E orcL (n + 3)) n0 (some (.rw bj, 0)) need S') Q) →
   ((apRun J lsn pos need s (need - i) i t).1 = false → ∀ L' S', StB sb (apRun J lsn pos need s (need - i) i t).2 L' → Hp X S' (L' ++ (Lj ++ G)) → Ok (some (AV.tup [.int .u64 0, .int .i64 61], S')) Q) →
   Ok (J50_lZAb (evF E orcL (n + 3)) n0 m (some (.rw bj, 0)) w4 w5 a6 l6 c6 need i S) Q
 | 0, i, K, t, Ls, S, hi, hm, hK, hb, hSI, h, fin, bad => by omega
 | m + 1, i, K, t, Ls, S, hi, hm, hK, hb, hSI, h, fin, bad => by
   have hln := hv.ln
   have q1 := hJ.g
   have q2 := hJ.bo
   have q3 := hJ.po
   have q4 := hJ.ls
   have q5 := hJ.se
   have q6 := hJ.k1
   have q7 := hJ.c40
   have q8 := hJ.rm
   have q9 := sumN_ge fun o ho => (hJ.ol o ho).1
   have q10 := hJ.lcount
   have h6 := hJ.c6
   rw [J50_lZAb_succ]
   simp only [b50_lZAb]
   refine ok_cond (fun hc => ?_) (fun hc => ?_)
   ·simp only [decide_eq_true_eq] at hc
    have hlt : i < need := by omega
    have hil : i * 336 < s.length := by
     have : i * 336 ≤ (need - 1) * 336 := Nat.mul_le_mul_right _ (by omega)
     omega
    have hjj := hj
    obtain ⟨na, nc, ta, tc, Ln, Lt, hn1, ht1, hLj⟩ := hj
    have hj0 : DJ bj sb J (C bj (drow sb J na nc ta tc J.l.length) :: (Ln ++ Lt)) := ⟨na, nc, ta, tc, Ln, Lt, hn1, ht1, rfl⟩
    rw [hLj] at h
    refine ok_drawA h [29] (by simp) (by simp) (fun b19 S20 h20 => ?_)
    have h20' : Hp X S20 ((C bj (drow sb J na nc ta tc J.l.length) :: (Ln ++ Lt)) ++ ((b19 + 29, none) :: (Ls ++ G))) := h20.re (by intro p; simp only [List.countP_append, List.countP_cons, List.countP_nil, List.map_cons, List.map_nil, List.cons_append, List.nil_append, C]; omega)
    have h20c : Hp X S20 ((b19 + 29, none) :: C bj (drow sb J na nc ta tc J.l.length) :: (Ln ++ (Lt ++ (Ls ++ G)))) := h20'.re (by intro p; simp only [List.countP_append, List.countP_cons, List.countP_nil, List.cons_append, C]; omega)
    refine ok_gO (ok_ldI h20c rfl (ok_gO (ok_ldI h20c rfl ?_)))
    rw [callI_of (show evF E orcL (n + 3) (.fn 65) [.ptr (some (.rw bj, 0))] S20 = _ from dnext_eq (n + 1) (by omega) hJ h20' hj0)]
    refine ok_ldI h20c rfl (ok_true (by simp [AV.beq]) (ok_ldI h20c rfl (ok_true (by simp [AV.beq]) ?_)))
    rw [callI_of (show evF E orcL (n + 3) (.fn 48) [.ptr (some (.rw bj, 0))] S20 = _ from dlast_eq (n + 2) hJ h20' hj0)]
    refine ok_ldI h20c rfl (ok_true (by simp [AV.beq]) (ok_ldI h20c rfl (ok_true (by simp [AV.beq]) (ok_true (by simp [AV.beq]) (ok_true (by simp [AV.beq]) ?_)))))
    rw [wn (x := (i : Int) * 336) (n := i * 336) (by omega) (by omega), wn (x := (i : Int) + 1) (n := i + 1) (by omega) (by omega), wn (x := ((i + 1 : Nat) : Int) * 336) (n := (i + 1) * 336) (by omega) (by omega)]
    have hmin : (if ((l6 : Nat) : Int) < (((i + 1) * 336 : Nat) : Int) then ((l6 : Nat) : Int) else (((i + 1) * 336 : Nat) : Int)) = ((min s.length ((i + 1) * 336) : Nat) : Int) := by
     split <;> omega
    rw [hmin]
    refine ok_sl hv (lo := i * 336) (hi := min s.length ((i + 1) * 336)) (by omega) (by omega) rfl rfl (fun a7 c7 w7 => ?_)
    rw [wu64 (n := ((i : Nat) : Int)) (by omega) (by omega), ← hpos, wu64 (n := pos + ((i : Nat) : Int)) (by omega) (by omega), wu64 (n := J.sup.ls + (J.l.length : Nat) + 1) (by omega) (by omega), ← hlsn]
    have hpl : (win8 s (i * 336) (min s.length ((i + 1) * 336) - i * 336)).length = min s.length ((i + 1) * 336) - i * 336 := win8_len (by omega)
    have hpe : apPart J lsn pos need s i = ⟨J.sup.bo, J.se, pos + (i : Nat), lsn, (i : Nat), (need : Nat), win8 s (i * 336) (min s.length ((i + 1) * 336) - i * 336)⟩ := rfl
    generalize hpt : win8 s (i * 336) (min s.length ((i + 1) * 336) - i * 336) = pt at w7 hpl hpe
    have hok : okE ⟨J.sup.bo, J.se, pos + (i : Nat), lsn, (i : Nat), (need : Nat), pt⟩ = true := (okE_iff _).2 ⟨by show J.sup.bo ≠ 0; omega, by show J.se ≠ 0; omega, by show lsn ≠ 0; omega, by show J.sup.bo ≤ _; omega, by show J.se ≤ _; omega, by show lsn ≤ _; omega, by show pos + (i : Int) ≤ _; omega, by show (1 : Int) ≤ (need : Int); omega, by show (need : Int) ≤ 100; omega, by show (0 : Int) ≤ (i : Int); omega, by show (i : Int) < (need : Int); omega, by show 1 ≤ pt.length; omega, by show pt.length ≤ 336; omega⟩
    have hLB : LeB ⟨J.sup.bo, J.se, pos + (i : Nat), lsn, (i : Nat), (need : Nat), pt⟩ := by
     refine ⟨⟨?_, ?_⟩, ⟨?_, ?_⟩, ⟨?_, ?_⟩, ⟨?_, ?_⟩, ⟨?_, ?_⟩, ⟨?_, ?_⟩⟩ <;> simp only <;> omega
    refine ok_layA (b := b19 + 29) h20c (fun S34 h34 => ok_stn h34 (by simp) (d := erow ⟨J.sup.bo, J.se, pos + (i : Nat), lsn, (i : Nat), (need : Nat), pt⟩ a7 (min s.length ((i + 1) * 336) - i * 336) c7) (by simp [splice, erow]) (fun S35 h35 => ok_ldn h35 (by simp [erow]) (d := erow ⟨J.sup.bo, J.se, pos + (i : Nat), lsn, (i : Nat), (need : Nat), pt⟩ a7 (min s.length ((i + 1) * 336) - i * 336) c7) (by simp [erow]) ?_))
    have w7' : Vw X ((b19 + 29, some (AObj.cells (erow ⟨J.sup.bo, J.se, pos + (i : Nat), lsn, (i : Nat), (need : Nat), pt⟩ a7 (min s.length ((i + 1) * 336) - i * 336) c7))) :: C bj (drow sb J na nc ta tc J.l.length) :: (Ln ++ (Lt ++ (Ls ++ G)))) a7 (min s.length ((i + 1) * 336) - i * 336) c7 pt := w7.mono (fun e he => by simp [he])
    obtain ⟨v, S2, e2, a2, c2, L2, rfl, hs2', h2⟩ : Ok (evF E orcL (n + 3) (.fn 66) [.agg (erow ⟨J.sup.bo, J.se, pos + (i : Nat), lsn, (i : Nat), (need : Nat), pt⟩ a7 (min s.length ((i + 1) * 336) - i * 336) c7)] S35) _ := rputE_ok (n + 1) (by omega) hLB h35 w7'
    rw [callT_of e2]
    rw [show putE ⟨J.sup.bo, J.se, pos + (i : Nat), lsn, (i : Nat), (need : Nat), pt⟩ = encE ⟨J.sup.bo, J.se, pos + (i : Nat), lsn, (i : Nat), (need : Nat), pt⟩ by simp [putE, hok]] at hs2' ⊢
    refine ok_atL rfl (ok_atI rfl (ok_gO (ok_ldP h2 rfl (ok_ldI h2 rfl ?_))))
    obtain ⟨hb1, hb2⟩ := blkP_lt (J := J) (p := pos + (i : Nat)) h6 (by omega)
    have h2j : Hp X S2 ((C bj (drow sb J na nc ta tc J.l.length) :: (Ln ++ Lt)) ++ (L2 ++ (C (b19 + 29) (erow ⟨J.sup.bo, J.se, pos + (i : Nat), lsn, (i : Nat), (need : Nat), pt⟩ a7 (min s.length ((i + 1) * 336) - i * 336) c7) :: (Ls ++ G)))) := h2.re (by intro p; simp only [List.countP_append, List.countP_cons, List.cons_append, C]; omega)
    rw [callI_of (show evF E orcL (n + 3) (.fn 67) [.ptr (some (.rw bj, 0)), .int .u64 (pos + (i : Nat))] S2 = _ from dblock_eq (n + 2) h6 (by omega) (by omega) (by omega) h2j hj0)]
    refine ok_ldP h2 rfl (ok_true (by simp [AV.beq]) ?_)
    have h2s : Hp X S2 (Ls ++ (L2 ++ (C (b19 + 29) (erow ⟨J.sup.bo, J.se, pos + (i : Nat), lsn, (i : Nat), (need : Nat), pt⟩ a7 (min s.length ((i + 1) * 336) - i * 336) c7) :: ((C bj (drow sb J na nc ta tc J.l.length) :: (Ln ++ Lt)) ++ G)))) := h2.re (by intro p; simp only [List.countP_append, List.countP_cons, List.cons_append, C]; omega)
    have hr1 : need - i = (need - (i + 1)) + 1 := by omega
    rw [hr1] at fin bad
    have hx1 : ((blkP J (pos + (i : Nat)) : Nat) : Int) < t.s.length := by rw [hSI.len]; omega
    have hSI' : SI (wS t (blkP J (pos + (i : Nat))) (encE (apPart J lsn pos need s i))) N (K + 1) := ⟨by rw [wS_len]; exact hSI.len, wS_f hSI.f, by have h1 := wS_q t (blkP J (pos + (i : Nat))) (encE (apPart J lsn pos need s i)); have h2 := hSI.q; omega, wS_inr hSI.r (by omega) hx1⟩
    obtain ⟨v, S3, e3, rfl, L3, hb3, h3⟩ : Ok (evF E orcL (n + 3) (.fn 43) [.ptr (some (.rw sb, 0)), .int .i64 (blkP J (pos + (i : Nat))), .sl a2 (encE ⟨J.sup.bo, J.se, pos + (i : Nat), lsn, (i : Nat), (need : Nat), pt⟩).length c2] S2) _ := writeG_ok (n + 2) (by omega) hx1 (encE_len (by show pt.length ≤ 336; omega)) hSI.f (by have := hSI.q; omega) hb h2s (slG_vw hs2' (fun e he => by simp [he]))
    rw [callI_of e3]
    have h3' : Hp X S3 (L3 ++ ((C bj (drow sb J na nc ta tc J.l.length) :: (Ln ++ Lt)) ++ G)) := (h3.re (M := (L2 ++ [C (b19 + 29) (erow ⟨J.sup.bo, J.se, pos + (i : Nat), lsn, (i : Nat), (need : Nat), pt⟩ a7 (min s.length ((i + 1) * 336) - i * 336) c7)]) ++ (L3 ++ ((C bj (drow sb J na nc ta tc J.l.length) :: (Ln ++ Lt)) ++ G))) (by intro p; simp only [List.countP_append, List.countP_cons, List.countP_nil, List.cons_append, C]; omega)).right
    refine ok_cond (fun cw => ?_) (fun cw => ?_)
    ·have hw : t.f = 0 := by
      unfold wE at cw
      by_cases hf : t.f = 0
      ·exact hf
      ·rw [if_neg hf] at cw; exact absurd cw (by decide)
     rw [show wE t = 61 by rw [wE, if_pos hw]]
     rw [← hpe] at hb3
     have e1 : apRun J lsn pos need s ((need - (i + 1)) + 1) i t = (false, wS t (blkP J (pos + (i : Nat))) (encE (apPart J lsn pos need s i))) := by rw [apRun, if_pos hw]
     rw [e1] at bad
     exact bad rfl L3 S3 hb3 (by rw [hLj]; exact h3')
    ·have hw : ¬ t.f = 0 := fun hf => by unfold wE at cw; rw [if_pos hf] at cw; exact absurd cw (by decide)
     rw [← hpe] at hb3
     have e1 : apRun J lsn pos need s ((need - (i + 1)) + 1) i t = apRun J lsn pos need s (need - (i + 1)) (i + 1) (wS t (blkP J (pos + (i : Nat))) (encE (apPart J lsn pos need s i))) := by rw [apRun, if_neg hw]
     rw [e1] at fin bad
     exact dapp_loop n0 n hn hJ h40 hN hne hse hlsn hpos hv hs1 hs2 hjj m (i + 1) (K + 1) _ L3 S3 (by omega) (by omega) (by omega) hb3 hSI' (by rw [hLj]; exact h3') fin bad
   ·simp only [decide_eq_false_iff_not] at hc
    have : i = need := by omega
    subst this
    rw [Nat.sub_self] at fin
    exact fin rfl Ls S hb h
theorem dappend_ok (n : Nat) (hn : 1000010 < n) (hJ : JI J k) (hk : k + 40 ≤ 100000) {K : Nat} (hK : K ≤ 800000) {N : Nat} (hN : J.first + J.count ≤ N) (hN40 : N ≤ 40) (hSI : SI t N K) {ps : List Pr} {pa : OP} {pc : Cap} (h : Hp X S (Ls ++ (Lj ++ F))) (hj : DJ bj sb J Lj) (hb : StB sb t Ls) (hr : RdR X F pa (prows ps).flatten) (hv : PsV X F ps) :
 Ok (ev (n + 4) (.fn 50) [.ptr (some (.rw bj, 0)), .sl pa ps.length pc] S) fun v S' => ∃ (L' Lj' : List Ent), v = .tup [.int .u64 (apN J t (pts ps)), .int .i64 (apE J t (pts ps))] ∧ StB sb (apT J t (pts ps)) L' ∧ DJ bj sb (apJ J t (pts ps)) Lj' ∧ Hp X S' (L' ++ (Lj' ++ F)) := by
 have hln := hJ.lcount
 have q1 := hJ.g
 have q2 := hJ.bo
 have q3 := hJ.po
 have q4 := hJ.ls
 have q5 := hJ.se
 have q6 := hJ.k1
 have q7 := hJ.c40
 have q8 := hJ.rm
 have q9 := sumN_ge fun o ho => (hJ.ol o ho).1
 rw [ev, F50 _ _ _ _ _ _ (oL rfl)]
 simp only [J50, b50_entry]
 obtain ⟨v, S1, e1, a1, c1, L1, rfl, hs1, h1⟩ : Ok (evF E orcL (n + 3) (.fn 9) [.sl pa ps.length pc] S) _ := rputT_ok (n + 1) (by omega) h (hr.mono (fun e he => by simp [he])) (hv.mono (fun e he => by simp [he]))
 rw [callT_of e1]
 refine ok_atL rfl (ok_atI rfl (ok_cond (fun cc => ?_) (fun cc => ?_)))
 ·have hk : okT (pts ps) = false := by
   cases hk : okT (pts ps) with
   | false => rfl
   | true => rw [putTe, if_pos hk] at cc; exact absurd cc (by decide)
  have hgo : apGo J (pts ps) = false := by simp [apGo, hk]
  have he : apE J t (pts ps) = 82 := by simp [apE, hk]
  have he2 : apJ J t (pts ps) = J := by simp [apJ, hgo]
  have he3 : apT J t (pts ps) = t := by simp [apT, hgo]
  have he4 : apN J t (pts ps) = 0 := by simp [apN, he]
  rw [he, he2, he3, he4, show putTe (pts ps) = 82 by simp [putTe, hk]]
  exact ok_ret ⟨Ls, Lj, rfl, hb, hj, h1.right⟩
 have hk3 : okT (pts ps) = true := by
  cases hk : okT (pts ps) with
  | true => rfl
  | false => rw [putTe, if_neg (by simp [hk])] at cc; exact absurd cc (by decide)
 have hk2 := hk3
 simp only [okT, Bool.and_eq_true, decide_eq_true_eq, List.all_eq_true, pts_len] at hk2
 have hnd := needI_of (n := (ps.length : Int)) (by omega) (by omega)
 have hpl : (encT (pts ps)).length = 4 + 388 * ps.length := by rw [encT, List.length_append, be_len, encPs_len hk2.2, pts_len]
 rw [show putT (pts ps) = encT (pts ps) by simp [putT, hk3]] at hs1 ⊢
 rw [callI_of (rneed_eq (n + 2) _ S1)]
 have h1j : Hp X S1 (Lj ++ (L1 ++ (Ls ++ F))) := h1.re (by intro p; simp only [List.countP_append]; omega)
 have h1s : Hp X S1 (Ls ++ (Lj ++ (L1 ++ F))) := h1.re (by intro p; simp only [List.countP_append]; omega)
 rw [callI_of (show evF E orcL (n + 3) (.fn 49) [.ptr (some (.rw bj, 0))] S1 = _ from droom_eq (n + 1) (by omega) hJ h1j hj)]
 refine ok_cond (fun c2 => ?_) (fun c2 => ?_)
 ·simp only [gt_iff_lt, decide_eq_true_eq] at c2
  have hgo : apGo J (pts ps) = false := by
   cases hg : apGo J (pts ps) with
   | false => rfl
   | true => have := (apGo_iff.1 hg).2; rw [pts_len] at this; omega
  have he : apE J t (pts ps) = 5 := by simp [apE, hk3, hgo]
  have he2 : apJ J t (pts ps) = J := by simp [apJ, hgo]
  have he3 : apT J t (pts ps) = t := by simp [apT, hgo]
  have he4 : apN J t (pts ps) = 0 := by simp [apN, he]
  rw [he, he2, he3, he4]
  exact ok_ret ⟨Ls, Lj, rfl, hb, hj, h1s.sub (List.Sublist.append_left (List.Sublist.append_left (List.sublist_append_right L1 F) Lj) Ls)⟩
 simp only [gt_iff_lt, decide_eq_false_iff_not] at c2
 have hgo : apGo J (pts ps) = true := apGo_iff.2 ⟨hk3, by rw [pts_len]; omega⟩
 rw [callI_of (show evF E orcL (n + 3) (.fn 65) [.ptr (some (.rw bj, 0))] S1 = _ from dnext_eq (n + 1) (by omega) hJ h1j hj)]
 rw [wu64 (n := needI (ps.length : Nat)) (by omega) (by omega), wu64 (n := J.sup.po + sumN J.l + needI (ps.length : Nat)) (by omega) (by omega)]
 refine ok_false (by simp; omega) ?_
 rw [callI_of (show evF E orcL (n + 3) (.fn 48) [.ptr (some (.rw bj, 0))] S1 = _ from dlast_eq (n + 2) hJ h1j hj)]
 refine ok_false (by simp; omega) ?_
 obtain ⟨na, nc, ta, tc, Ln, Lt, hn1, ht1, rfl⟩ := hj
 refine ok_gO (ok_ldI h1j rfl (ok_false (by simp; omega) (ok_gO (ok_ldI h1j rfl (ok_gO ?_)))))
 rw [wu64 (n := J.se + 1) (by omega) (by omega)]
 refine ok_stn h1j (by simp [drow]) (d := drow sb { J with se := J.se + 1 } na nc ta tc J.l.length) (by simp [splice, drow]) (fun S22 h22 => ?_)
 obtain ⟨nd, hnd2⟩ : ∃ nd : Nat, needI (ps.length : Nat) = nd := ⟨(needI (ps.length : Nat)).toNat, by omega⟩
 rw [hnd2]
 have hj2 : DJ bj sb { J with se := J.se + 1 } (C bj (drow sb { J with se := J.se + 1 } na nc ta tc J.l.length) :: (Ln ++ Lt)) := ⟨na, nc, ta, tc, Ln, Lt, hn1, ht1, rfl⟩
 have h22' : Hp X S22 (Ls ++ ((C bj (drow sb { J with se := J.se + 1 } na nc ta tc J.l.length) :: (Ln ++ Lt)) ++ (L1 ++ F))) := h22.re (by intro p; simp only [List.countP_append, List.countP_cons, List.cons_append, C]; omega)
 have hJ2 : JI { J with se := J.se + 1 } (k + 40) := by
  obtain ⟨a1, a2, a3, a4, a5, a6, a7, a8, a9, a10, a11, a12, a13, a14⟩ := hJ.up (m := k + 40) (by omega) hk
  refine ⟨a1, a2, a3, a4, a5, a6, a7, a8, ?_, a10, a11, a12, a13, a14⟩
  show 0 ≤ J.se + 1 ∧ J.se + 1 ≤ ((k + 40 : Nat) : Int); omega
 have hlen1 : (nd - 1) * 336 < (encT (pts ps)).length := by rw [hpl]; omega
 have hlen2 : (encT (pts ps)).length ≤ nd * 336 := by rw [hpl]; omega
 have hrun : apR J t (pts ps) = apRun { J with se := J.se + 1 } (J.sup.ls + (J.l.length : Nat) + 1) (J.sup.po + sumN J.l) nd (encT (pts ps)) (nd - 0) 0 t := by
  rw [apR, pts_len, hnd2, Int.toNat_natCast, Nat.sub_zero]
 have hT : apT J t (pts ps) = (apR J t (pts ps)).2 := by rw [apT, if_pos hgo]
 have hnd40 : nd ≤ 40 := by omega
 refine dapp_loop (J := { J with se := J.se + 1 }) (N := N) (G := L1 ++ F) (n + 3) n hn hJ2 (need := nd) (lsn := J.sup.ls + (J.l.length : Nat) + 1) (pos := J.sup.po + sumN J.l) hN hN40 hnd40 (by show 1 ≤ J.se + 1; omega) rfl rfl (slG_vw hs1 (fun e he => by simp [he])) hlen1 hlen2 hj2 (n + 3) 0 K t Ls S22 (by omega) (by omega) (by omega) hb hSI h22' (fun hr1 L' S' hb' h' => ?_) (fun hr1 L' S' hb' h' => ?_)
 ·rw [← hrun] at hr1 hb'
  rw [← hT] at hb'
  have hE : apE J t (pts ps) = 0 := by simp [apE, hk3, hgo, hr1]
  have hNn : apN J t (pts ps) = J.sup.ls + (J.l.length : Nat) + 1 := by rw [apN, if_pos hE]
  have hJe : apJ J t (pts ps) = { J with l := J.l ++ [⟨(nd : Int), J.sup.bo, J.se + 1⟩], se := J.se + 1 } := by rw [apJ, if_pos hgo, if_pos hr1, pts_len, hnd2]
  have hll : (J.l ++ [(⟨(nd : Int), J.sup.bo, J.se + 1⟩ : One)]).length = J.l.length + 1 := by simp
  simp only [J50_jZAM, b50_jZAM]
  have h'c : Hp X S' (C bj (drow sb { J with se := J.se + 1 } na nc ta tc J.l.length) :: (Ln ++ (Lt ++ (L' ++ (L1 ++ F))))) := h'.re (by intro p; simp only [List.countP_append, List.countP_cons, List.cons_append, C]; omega)
  refine ok_gO (ok_ldL h'c rfl (ok_newA h'c (fun b51 S52 h52 => ?_)))
  have h52' : Hp X S52 (Ln ++ (C b51 [.int .i64 (nd : Nat)] :: (C bj (drow sb { J with se := J.se + 1 } na nc ta tc J.l.length) :: (Lt ++ (L' ++ (L1 ++ F)))))) := h52.re (by intro p; simp only [List.countP_append, List.countP_cons, List.cons_append, C]; omega)
  refine so_push (sz := 1) (by decide) rfl (by rw [nrows_len]; omega) (by decide) hn1 h52' (fun a3 c3 L3 S54 hs3 h54 => ?_)
  have e3 : (nrows J.l ++ [[AV.int .i64 (nd : Nat)]]) = nrows (J.l ++ [⟨(nd : Int), J.sup.bo, J.se + 1⟩]) := by rw [nrows_append]; rfl
  rw [e3] at hs3 ⊢
  rw [nrows_len, hll] at hs3 ⊢
  have h54c : Hp X S54 (C bj (drow sb { J with se := J.se + 1 } na nc ta tc J.l.length) :: (L3 ++ (Lt ++ (L' ++ (L1 ++ F))))) := h54.re (by intro p; simp only [List.countP_append, List.countP_cons, List.cons_append, C]; omega)
  refine ok_gO (ok_stn h54c (by simp [drow]) (d := [.ptr (some (.rw sb, 0)), .int .i64 J.first, .int .i64 J.count, .int .u64 J.sup.g, .int .u64 J.sup.bo, .int .u64 (J.se + 1), .int .u64 J.sup.po, .int .u64 J.sup.ls, .sl a3 (J.l.length + 1) c3, .sl ta J.l.length tc, .int .u64 J.sup.ab, .int .u64 J.sup.as_, .int .u64 J.sy]) (by simp [splice, drow]) (fun S56 h56 => ?_))
  refine ok_drawA h56 [14] (by simp) (by simp) (fun b57 S58 h58 => ?_)
  have h58' : Hp X S58 ((b57 + 14, none) :: C bj [.ptr (some (.rw sb, 0)), .int .i64 J.first, .int .i64 J.count, .int .u64 J.sup.g, .int .u64 J.sup.bo, .int .u64 (J.se + 1), .int .u64 J.sup.po, .int .u64 J.sup.ls, .sl a3 (J.l.length + 1) c3, .sl ta J.l.length tc, .int .u64 J.sup.ab, .int .u64 J.sup.as_, .int .u64 J.sy] :: (L3 ++ (Lt ++ (L' ++ (L1 ++ F))))) := h58
  refine ok_gO (ok_ldL h58' rfl (ok_gO (ok_ldI h58' rfl (ok_gO (ok_ldI h58' rfl (ok_layA (b := b57 + 14) h58' (fun S65 h65 => ?_)))))))
  have h65' : Hp X S65 (Lt ++ (C (b57 + 14) (strow ⟨(nd : Int), J.sup.bo, J.se + 1⟩) :: (C bj [.ptr (some (.rw sb, 0)), .int .i64 J.first, .int .i64 J.count, .int .u64 J.sup.g, .int .u64 J.sup.bo, .int .u64 (J.se + 1), .int .u64 J.sup.po, .int .u64 J.sup.ls, .sl a3 (J.l.length + 1) c3, .sl ta J.l.length tc, .int .u64 J.sup.ab, .int .u64 J.sup.as_, .int .u64 J.sy] :: (L3 ++ (L' ++ (L1 ++ F)))))) := h65.re (by intro p; simp only [List.countP_append, List.countP_cons, List.cons_append, C, strow]; omega)
  refine so_push (sz := 2) (by decide) rfl (by rw [strows_len]; omega) (by decide) ht1 h65' (fun a4 c4 L4 S67 hs4 h67 => ?_)
  have e4 : (strows J.l ++ [strow (⟨(nd : Int), J.sup.bo, J.se + 1⟩ : One)]) = strows (J.l ++ [⟨(nd : Int), J.sup.bo, J.se + 1⟩]) := by rw [strows_append]; rfl
  rw [e4] at hs4 ⊢
  rw [strows_len, hll] at hs4 ⊢
  have h67c : Hp X S67 (C bj [.ptr (some (.rw sb, 0)), .int .i64 J.first, .int .i64 J.count, .int .u64 J.sup.g, .int .u64 J.sup.bo, .int .u64 (J.se + 1), .int .u64 J.sup.po, .int .u64 J.sup.ls, .sl a3 (J.l.length + 1) c3, .sl ta J.l.length tc, .int .u64 J.sup.ab, .int .u64 J.sup.as_, .int .u64 J.sy] :: (L3 ++ (L4 ++ (L' ++ (L1 ++ F))))) := h67.re (by intro p; simp only [List.countP_append, List.countP_cons, List.cons_append, C]; omega)
  refine ok_gO (ok_stn h67c (by simp) (d := drow sb (apJ J t (pts ps)) a3 c3 a4 c4 (J.l.length + 1)) (by rw [hJe]; simp [splice, drow]) (fun S69 h69 => ?_))
  have hlJ : (apJ J t (pts ps)).l.length = J.l.length + 1 := by rw [hJe]; exact hll
  have hjF : DJ bj sb (apJ J t (pts ps)) (C bj (drow sb (apJ J t (pts ps)) a3 c3 a4 c4 (apJ J t (pts ps)).l.length) :: (L3 ++ L4)) := by
   refine ⟨a3, c3, a4, c4, L3, L4, ?_, ?_, rfl⟩
   ·rw [hlJ, hJe]; exact hs3
   ·rw [hlJ, hJe]; exact hs4
  have h69j : Hp X S69 ((C bj (drow sb (apJ J t (pts ps)) a3 c3 a4 c4 (apJ J t (pts ps)).l.length) :: (L3 ++ L4)) ++ (L' ++ (L1 ++ F))) := by
   rw [hlJ]
   exact h69.re (by intro p; simp only [List.countP_append, List.countP_cons, List.cons_append, C]; omega)
  rw [callI_of (show evF E orcL (n + 3) (.fn 48) [.ptr (some (.rw bj, 0))] S69 = _ from dlast_eq (n + 2) (hJ.ap hk (t := t) (p := pts ps)) h69j hjF)]
  rw [hE, hNn]
  refine ok_ret ⟨L', _, ?_, hb', hjF, (h69j.re (M := L1 ++ (L' ++ ((C bj (drow sb (apJ J t (pts ps)) a3 c3 a4 c4 (apJ J t (pts ps)).l.length) :: (L3 ++ L4)) ++ F))) (by intro p; simp only [List.countP_append, List.countP_cons, List.cons_append, C]; omega)).right⟩
  rw [hlJ]
  have hls : (apJ J t (pts ps)).sup.ls = J.sup.ls := by rw [hJe]
  rw [hls, show J.sup.ls + ((J.l.length + 1 : Nat) : Int) = J.sup.ls + (J.l.length : Nat) + 1 by omega]
 ·rw [← hrun] at hr1 hb'
  rw [← hT] at hb'
  have hE : apE J t (pts ps) = 61 := by simp [apE, hk3, hgo, hr1]
  have hNn : apN J t (pts ps) = 0 := by rw [apN, hE, if_neg (by decide)]
  have hJe : apJ J t (pts ps) = { J with se := J.se + 1 } := by rw [apJ, if_pos hgo, hr1, if_neg (by decide)]
  rw [hE, hNn, hJe]
  exact ok_ret ⟨L', _, rfl, hb', hj2, h'.sub (List.Sublist.append_left (List.Sublist.append_left (List.sublist_append_right L1 F) _) L')⟩
end
end Go.Jn.P
