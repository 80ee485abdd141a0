/- What the functions of packages catalog and octet do with a heap: a catalogue into bytes, and bytes into a catalogue (whatever is told of them). -/
import Derived.Test.YteakdhikjddogaaDoorCtQ
set_option linter.unusedVariables false
set_option linter.unusedSimpArgs false
set_option maxRecDepth 4000
namespace Go.Ct
open Go.Gr

/-- Bytes that are seen through a slice. -/
structure Vw (X : Cx) (L : List Ent) (a : Option Pos) (l : Nat) (c : Cap) (s : List UInt8) : Prop where
  r : RdR X L a (ofBytes s)
  ln : l = s.length
  cp : ∃ N, (c = .ex N ∨ c = .op 1 N) ∧ l ≤ N

theorem Vw.mono {X : Cx} {L M : List Ent} {a : Option Pos} {l : Nat} {c : Cap} {s : List UInt8} (h : Vw X L a l c s) (k : ∀ e ∈ L, e ∈ M) : Vw X M a l c s := ⟨h.r.mono k, h.ln, h.cp⟩

theorem rd_sub {X : Cx} {L : List Ent} {p : Pos} {cs : List AV} (h : RdR X L (some p) cs) {lo k : Nat} (hk : lo + k ≤ cs.length) : RdR X L (some (p.1, p.2 + lo)) ((cs.drop lo).take k) := by
  cases h with
  | rw hm hl hc =>
    rename_i b i c
    refine .rw hm (by simp; omega) ?_
    rw [← hc, List.length_take, List.length_drop, List.length_take, List.length_drop, List.drop_take, List.take_take, List.drop_drop]
    congr 1
    omega
  | ro hm hl hc =>
    rename_i b i c
    refine .ro hm (by simp; omega) ?_
    rw [← hc, List.length_take, List.length_drop, List.length_take, List.length_drop, List.drop_take, List.take_take, List.drop_drop]
    congr 1
    omega
theorem rd_nil {X : Cx} {L : List Ent} {a : Option Pos} {cs : List AV} (h : RdR X L a cs) : RdR X L a [] := by
  cases h with
  | nil => exact .nil
  | rw hm hl hc => exact .rw hm (by simp; omega) rfl
  | ro hm hl hc => exact .ro hm (by simp; omega) rfl

theorem ofBytes_sub (s : List UInt8) (lo k : Nat) : ofBytes ((s.drop lo).take k) = ((ofBytes s).drop lo).take k := by
  simp [ofBytes, List.map_take, List.map_drop]

theorem vw_sl {X : Cx} {L : List Ent} {a : Option Pos} {l : Nat} {c : Cap} {s : List UInt8} (h : Vw X L a l c s) {lo hi : Nat} (h1 : lo ≤ hi) (h2 : hi ≤ l) : ∃ a' c', Vw X L a' (hi - lo) c' ((s.drop lo).take (hi - lo)) ∧
    (∀ {β : Type} (K : Option Pos → Nat → Cap → Option β), slSl 1 a l c (some (lo : Int)) (some (hi : Int)) none K = K a' (hi - lo) c') ∧
    (∀ {β : Type} (K : Option Pos → Nat → Cap → Option β), lo = 0 → slSl 1 a l c none (some (hi : Int)) none K = K a' (hi - lo) c') ∧
    (∀ {β : Type} (K : Option Pos → Nat → Cap → Option β), hi = l → slSl 1 a l c (some (lo : Int)) none none K = K a' (hi - lo) c') := by
  obtain ⟨N, hc, hN⟩ := h.cp
  have hln := h.ln
  have rdd : RdR X L (a.map fun p => (p.1, p.2 + lo * 1)) (ofBytes ((s.drop lo).take (hi - lo))) := by
    rw [ofBytes_sub, Nat.mul_one]
    cases ha : a with
    | none =>
      have hr := h.r
      rw [ha] at hr
      have : s = [] := by
        generalize hs : ofBytes s = cs at hr
        cases hr
        have := congrArg List.length hs
        simpa using this
      rw [this]
      simp [ofBytes]
      exact .nil
    | some p =>
      have hr := h.r
      rw [ha] at hr
      exact rd_sub hr (by simp; omega)
  have hlen : ((s.drop lo).take (hi - lo)).length = hi - lo := by simp; omega
  rcases hc with rfl | rfl
  · by_cases hNl : N = lo
    · have e0 : (s.drop lo).take (hi - lo) = [] := by rw [show hi - lo = 0 by omega]; rfl
      refine ⟨a, .ex (N - lo), ⟨by rw [e0]; exact rd_nil h.r, hlen.symm, N - lo, .inl rfl, by omega⟩, fun K => ?_, fun K hlo => ?_, fun K hhi => ?_⟩
      · simp [slSl, optIx, ix, show hi ≤ N by omega, h1, hNl]
        intro hx; exact absurd h1 (by omega)
      · subst hlo
        simp [slSl, optIx, ix, show hi ≤ N by omega, hNl]
        intro hx; omega
      · subst hhi
        simp [slSl, optIx, ix, show hi ≤ N by omega, h1, hNl]
        intro hx; exact absurd h1 (by omega)
    · refine ⟨a.map fun p => (p.1, p.2 + lo * 1), .ex (N - lo), ⟨rdd, hlen.symm, N - lo, .inl rfl, by omega⟩, fun K => ?_, fun K hlo => ?_, fun K hhi => ?_⟩
      · simp [slSl, optIx, ix, show hi ≤ N by omega, h1, hNl]
      · subst hlo
        simp [slSl, optIx, ix, show hi ≤ N by omega, hNl]
      · subst hhi
        simp [slSl, optIx, ix, show hi ≤ N by omega, h1, hNl]
  · refine ⟨a.map fun p => (p.1, p.2 + lo * 1), .op 1 (N - lo), ⟨rdd, hlen.symm, N - lo, .inr rfl, by omega⟩, fun K => ?_, fun K hlo => ?_, fun K hhi => ?_⟩
    · simp [slSl, optIx, ix, h2, h1]
    · subst hlo
      simp [slSl, optIx, ix, h2]
    · subst hhi
      simp [slSl, optIx, ix, h1]

theorem u8_of (w : Int) : ∃ y : UInt8, IntKind.wrap .u8 w = (y.toNat : Int) := by
  refine ⟨UInt8.ofNat (w % 256).toNat, ?_⟩
  have h1 := Int.emod_nonneg w (show (256 : Int) ≠ 0 by decide)
  have h2 := Int.emod_lt_of_pos w (show (0 : Int) < 256 by decide)
  rw [UInt8.toNat_ofNat', Nat.mod_eq_of_lt (by omega)]
  simp [IntKind.wrap, IntKind.bits, IntKind.signed]
  omega

theorem byte_splice {t : List UInt8} {J : List AV} {i : Nat} (y : UInt8) (h : i < t.length) : splice (ofBytes t ++ J) i [.int .u8 (y.toNat : Int)] = ofBytes (t.set i y) ++ J := by
  have e : ofBytes (t.set i y) = (ofBytes t).set i (.int .u8 (y.toNat : Int)) := by simp [ofBytes, List.map_set]
  rw [e, splice, List.set_eq_take_append_cons_drop, if_pos (by simpa using h), List.take_append_of_le_length (by simp; omega), List.length_singleton, List.drop_append_of_le_length (by simp; omega)]
  simp

section
variable {X : Cx} {S : AS} {L F : List Ent} {b : Nat} {A : CM} {Q : AV → AS → Prop}

theorem ok_convLL {cs : List AV} {i l : Nat} {c : Cap} {U : Option AObj → List Ent} {K : Option Pos → Nat → Cap → AS → Option (AV × AS)} (h : Hp X S L) [Sel b L (some (.cells cs)) U] (hl : l ≠ 0) (ht : ∀ S', Hp X S' (U (some (.cells cs))) → Ok (K (some (.rw b, i)) l c S') Q) : Ok (convLL S (some (.rw b, i)) l c K) Q := by
  simp only [convLL, if_neg hl, h.get b]
  exact ht _ (h.turn (b := b) _)

theorem lay_loop (n0 : Nat) (call : CallA) {bt k : Nat} {s : List UInt8} {J : List AV} {c : Cap} : ∀ (m i : Nat) (w1 : Int) (d : List UInt8) (S : AS), i ≤ k → k ≤ 8 → i < m → d.length = k → Hp X S (C bt (ofBytes (s ++ d) ++ J) :: F) →
    Ok (J60_l1_0 call n0 m (some (.rw bt, s.length)) k c w1 ((i : Int) - 1) S) fun v S' => v = .tup [] ∧ ∃ d' : List UInt8, d'.length = k ∧ Hp X S' (C bt (ofBytes (s ++ d') ++ J) :: F)
  | 0, i, w1, d, S, hi, hk, hm, hd, h => by omega
  | m + 1, i, w1, d, S, hi, hk, hm, hd, h => by
    rw [J60_l1_0_succ]
    simp only [b60_l1_0]
    cases i with
    | zero => exact ok_false (by simp) (ok_ret ⟨rfl, d, hd, h⟩)
    | succ i =>
      have hw : ((i + 1 : Nat) : Int) - 1 = (i : Nat) := by omega
      rw [hw]
      obtain ⟨y, hy⟩ := u8_of w1
      rw [hy]
      refine ok_true (by simp) (ok_ixSl (k := i) rfl (by omega) ?_)
      rw [Nat.mul_one]
      refine ok_stn h (by simp; omega) (d := ofBytes ((s ++ d).set (s.length + i) y) ++ J) (byte_splice y (by simp; omega)) (fun S1 h1 => ?_)
      rw [List.set_append_right _ _ (by omega), Nat.add_sub_cancel_left] at h1
      rw [wz (z := (i : Int) - 1) rfl (by omega) (by omega)]
      exact lay_loop n0 call m i _ (d.set i y) S1 (by omega) hk (by omega) (by simpa using hd) h1

theorem put_ok (n : Nat) (hn : 100 < n) {s : List UInt8} {a : Option Pos} {l : Nat} {c : Cap} (h : Hp X S (L ++ F)) (hs : SlG a l c 1 (bxs s) L) (hsl : s.length ≤ 65536) (x : Int) {k : Nat} (hk0 : 0 < k) (hk : k ≤ 8) {ki : Int} (hki : ki = k) :
    Ok (ev (n + 2) (.fn 48) [.sl a l c, .int .u64 x, .int .i64 ki] S) fun v S' => ∃ (a' : Option Pos) (c' : Cap) (s' : List UInt8) (L' : List Ent), v = .sl a' s'.length c' ∧ s'.length = s.length + k ∧ SlG a' s'.length c' 1 (bxs s') L' ∧ Hp X S' (L' ++ F) := by
  subst hki
  have hl : l = s.length := by have := hs.len; simpa [bxs] using this
  subst hl
  rw [ev, F48 _ _ _ _ _ _ _ (oL rfl)]
  simp only [J48, b48_entry, appendZA]
  refine ok_ix (by omega) ?_
  rw [Int.toNat_natCast]
  have hz : zeros k [AV.int .u8 0] = (bxs (List.replicate k 0)).flatten := by rw [bxs_flat]; simp [zeros, ofBytes]
  refine ok_appendG h hs (ys := bxs (List.replicate k 0)) (bxs_all _) (by simp [bxs]) (fun K => by rw [hz]) (by decide) (by simp [bxs, pow46]; omega) (by simp [bxs, pow46]; omega) (fun a1 l1 c1 S1 L1 hs1 h1 => ?_)
  have hl1 : l1 = s.length + k := by have := hs1.len; simpa [bxs] using this
  subst hl1
  have hbx : bxs s ++ bxs (List.replicate k 0) = bxs (s ++ List.replicate k 0) := by simp [bxs, ofBytes]
  rw [hbx] at hs1
  rcases hs1.dest with ⟨_, h0, _, _, _⟩ | ⟨bt, js, rfl, hln, hcc, rfl, hx, hj⟩
  · omega
  have hbl : (bxs (s ++ List.replicate k 0)).length = s.length + k := by simp [bxs]
  rw [hbl] at hcc
  rw [wz (z := (s.length : Int)) (by omega) (by omega) (by omega)]
  obtain ⟨o, c3, ho, e3⟩ := slG_tail (β := AV × AS) (sz := 1) (b := bt) (l := s.length + k) hcc (by omega) (j := s.length) (by omega) rfl (K := fun v3a v3l v3c => callT (evF E orcL (n + 1)) 60 [.sl v3a v3l v3c, .int .u64 x] S1 fun v5 S4 => some (.sl (some (.rw bt, 0)) (s.length + k) c1, S4))
  rw [e3]
  have ho' : o = s.length := by
    rcases ho with ho | ⟨ho, _⟩
    · omega
    · omega
  subst ho'
  have hcont : (bxs (s ++ List.replicate k 0) ++ js).flatten = ofBytes (s ++ List.replicate k 0) ++ js.flatten := by rw [List.flatten_append, bxs_flat]
  rw [hcont] at h1
  have el : Ok (evF E orcL (n + 1) (.fn 60) [.sl (some (.rw bt, s.length)) (s.length + k - s.length) c3, .int .u64 x] S1) fun v S' => v = .tup [] ∧ ∃ d' : List UInt8, d'.length = k ∧ Hp X S' (C bt (ofBytes (s ++ d') ++ js.flatten) :: F) := by
    rw [F60 _ _ _ _ _ _ (oL rfl)]
    simp only [J60, b60_entry]
    rw [Nat.add_sub_cancel_left, wz (z := (k : Int) - 1) rfl (by omega) (by omega)]
    exact lay_loop n (evF E orcL n) n k x (List.replicate k 0) S1 (by omega) hk (by omega) (by simp) h1
  obtain ⟨v, S2, e, rfl, d', hd, h2⟩ := el
  rw [callT_of e]
  refine ok_ret ⟨some (.rw bt, 0), c1, s ++ d', [C bt (bxs (s ++ d') ++ js).flatten], by simp [hd], by simp [hd], ?_, ?_⟩
  · have hb2 : (bxs (s ++ d')).length = s.length + k := by simp [bxs, hd]
    have := SlG.blk (b := bt) (xs := bxs (s ++ d')) (js := js) (c := c1) (bxs_all _) hj (by rw [hb2]; exact hcc)
    have e4 : (s ++ d').length = (bxs (s ++ d')).length := by simp [bxs]
    rw [e4]
    exact this
  · rw [List.flatten_append, bxs_flat]; exact h2

theorem next_eq (n : Nat) (h : Hp X S (L ++ F)) (hc : Cat b A L) : ∃ x : Int, ev (n + 1) (.fn 29) [.ptr (some (.rw b, 0))] S = some (.int .u32 x, S) := by
  obtain ⟨a, l, c, Ls, hs, rfl⟩ := hc
  have : Ok (ev (n + 1) (.fn 29) [.ptr (some (.rw b, 0))] S) fun v S' => (∃ x : Int, v = .int .u32 x) ∧ S' = S := by
    rw [ev, F29 _ _ _ (oL rfl)]
    simp only [J29, b29_entry]
    exact ok_false rfl (ok_gO (ok_ldI h rfl (ok_cond (fun _ => ok_ret ⟨⟨_, rfl⟩, rfl⟩) (fun _ => ok_gO (ok_ldI h rfl (ok_ret ⟨⟨_, rfl⟩, rfl⟩))))))
  obtain ⟨v, S', e, ⟨x, rfl⟩, rfl⟩ := this
  exact ⟨x, e⟩

/-- Bytes are told; the catalogue is there still. -/
abbrev BytQ (X : Cx) (F : List Ent) : AV → AS → Prop := fun v S' => ∃ (a : Option Pos) (c : Cap) (s : List UInt8) (L' : List Ent), v = .sl a s.length c ∧ s.length ≤ 65536 ∧ SlG a s.length c 1 (bxs s) L' ∧ Hp X S' (L' ++ F)

theorem bytes_loop (n0 n : Nat) (hn : 70000 < n) {l : List Snap} (hl : l.length ≤ 256) (hrl : ∀ s ∈ l, s.r.length = 32) {ra : Option Pos} {rc : Cap} (hra : RdR X F ra (srows l).flatten) :
    ∀ (m i : Nat) (s : List UInt8) (a : Option Pos) (c : Cap) (Lb : List Ent) (S : AS), i ≤ l.length → l.length - i < m → s.length = 20 + 52 * i → SlG a s.length c 1 (bxs s) Lb → Hp X S (Lb ++ F) →
      Ok (J31_l1_1_1_1_0_1_0 (evF E orcL (n + 2)) n0 m a s.length c ra l.length rc l.length i S) (BytQ X F)
  | 0, i, s, a, c, Lb, S, hi, hm, hsl, hs, h => by omega
  | m + 1, i, s, a, c, Lb, S, hi, hm, hsl, hs, h => by
    rw [J31_l1_1_1_1_0_1_0_succ]
    simp only [b31_l1_1_1_1_0_1_0]
    refine ok_cond (fun hc => ?_) (fun hc => ok_ret ⟨a, c, s, Lb, rfl, by omega, hs, h⟩)
    simp only [decide_eq_true_eq] at hc
    have hlt : i < l.length := by omega
    obtain ⟨x, hx⟩ : ∃ x, l[i]? = some x := ⟨_, List.getElem?_eq_getElem hlt⟩
    have hxr := hrl x (List.mem_of_getElem? hx)
    have hrm : RdR X (Lb ++ F) ra (srows l).flatten := hra.mono (fun e he => by simp [he])
    obtain ⟨p, hp⟩ := hrm.some_of (by intro he; have := congrArg List.length he; rw [flat_len (srows_all l), srows_len] at this; simp at this; omega)
    have hrm' : RdR X (Lb ++ F) (some p) (srows l).flatten := by rw [← hp]; exact hrm
    rw [show ixSl 4 ra l.length (i : Int) = ixSl 4 (some p) l.length (i : Int) by rw [hp]]
    rw [ixSl_at rfl hlt, hrm'.elem h (srows_all l) (srows_at hx)]
    refine ok_newA h (fun b22 S1 h1 => ok_ifO rfl ?_)
    refine ok_stn h1 (by simp [srow]) (d := srow x) (by simp [splice, srow]) (fun S2 h2 => ok_ldI h2 rfl ?_)
    have h2' : Hp X S2 (Lb ++ (C b22 (srow x) :: F)) := h2.re (by intro p; simp only [List.countP_append, List.countP_cons, C]; omega)
    obtain ⟨v, S3, e, a3, c3, s3, L3, rfl, hl3, hs3, h3⟩ : Ok (evF E orcL (n + 2) (.fn 48) [.sl a s.length c, .int .u64 (IntKind.wrap .u64 x.n), .int .i64 4] S2) _ := put_ok n (by omega) h2' hs (by omega) _ (k := 4) (by decide) (by decide) rfl
    rw [callL_of e]
    refine ok_ldI h3 rfl (ok_ldI h2 rfl (ok_true (by simp [AV.beq]) ?_))
    obtain ⟨v, S4, e, a4, c4, s4, L4, rfl, hl4, hs4, h4⟩ : Ok (evF E orcL (n + 2) (.fn 48) [.sl a3 s3.length c3, .int .u64 x.t, .int .i64 8] S3) _ := put_ok n (by omega) h3 hs3 (by omega) _ (k := 8) (by decide) (by decide) rfl
    rw [callL_of e]
    refine ok_ldS h4 rfl ?_
    refine ok_appendG h4 hs4 (ys := bxs x.r) (bxs_all _) (by simp [bxs]) (fun K => by simp [firstA]) (by decide) (by simp [bxs, pow46]; omega) (by simp [bxs, pow46]; omega) (fun a5 l5 c5 S5 L5 hs5 h5 => ?_)
    have hb5 : bxs s4 ++ bxs x.r = bxs (s4 ++ x.r) := by simp [bxs, ofBytes]
    rw [hb5] at hs5
    have hl5 : l5 = (s4 ++ x.r).length := by have := hs5.len; simpa [bxs] using this
    subst hl5
    refine ok_ldI h5 rfl (ok_ldI h4 rfl (ok_true (by simp [AV.beq]) ?_))
    obtain ⟨v, S6, e, a6, c6, s6, L6, rfl, hl6, hs6, h6⟩ : Ok (evF E orcL (n + 2) (.fn 48) [.sl a5 (s4 ++ x.r).length c5, .int .u64 x.z, .int .i64 8] S5) _ := put_ok n (by omega) h5 hs5 (by simp; omega) _ (k := 8) (by decide) (by decide) rfl
    rw [callL_of e, wn (x := (i : Int) + 1) (n := i + 1) (by omega) (by omega)]
    rw [List.length_append] at hl6
    exact bytes_loop n0 n hn hl hrl hra m (i + 1) s6 a6 c6 L6 S6 (by omega) (by omega) (by omega) hs6 (h6.re (M := C b22 (srow x) :: (L6 ++ F)) (by intro p; simp only [List.countP_append, List.countP_cons, C]; omega)).drop1

theorem bytes_ok (n : Nat) (hn : 70000 < n) (h : Hp X S (L ++ F)) (hc : Cat b A L) (hI : CInv A) :
    Ok (ev (n + 3) (.fn 31) [.ptr (some (.rw b, 0))] S) (BytQ X (L ++ F)) := by
  have hc0 := hc
  obtain ⟨a, l, c, Ls, hs, rfl⟩ := hc
  have hll : l = A.l.length := by have := hs.len; simpa using this
  subst hll
  rw [ev, F31 _ _ _ (oL rfl)]
  simp only [J31, b31_entry]
  refine ok_false rfl (ok_newA h (fun b1 S1 h1 => ok_convLL h1 (by decide) (fun S2 h2 => ?_)))
  obtain ⟨x, e⟩ := next_eq (n + 1) (L := C b [.sl a A.l.length c, .int .u64 A.past, .int .u64 A.tick] :: Ls) (F := C b1 [.int .u8 67, .int .u8 65, .int .u8 84, .int .u8 49] :: F) (h2.re (by intro p; simp only [List.countP_append, List.countP_cons, List.cons_append, C]; omega)) hc0
  rw [callI_of (show evF E orcL (n + 2) (.fn 29) [.ptr (some (.rw b, 0))] S2 = _ from e)]
  have h2' : Hp X S2 ([C b1 (bxs [67, 65, 84, 49]).flatten] ++ (C b [.sl a A.l.length c, .int .u64 A.past, .int .u64 A.tick] :: Ls ++ F)) := h2
  obtain ⟨v, S3, e, a3, c3, s3, L3, rfl, hl3, hs3, h3⟩ : Ok (evF E orcL (n + 2) (.fn 48) [.sl (some (.rw b1, 0)) 4 (.ex 4), .int .u64 (IntKind.wrap .u64 x), .int .i64 4] S2) _ := put_ok n (by omega) h2' (SlR.of (bxs_all [67, 65, 84, 49]) rfl (.inl rfl)).g (by decide) _ (k := 4) (by decide) (by decide) rfl
  rw [callL_of e]
  refine ok_gO (ok_ldI h3 rfl ?_)
  obtain ⟨v, S4, e, a4, c4, s4, L4, rfl, hl4, hs4, h4⟩ : Ok (evF E orcL (n + 2) (.fn 48) [.sl a3 s3.length c3, .int .u64 A.tick, .int .i64 8] S3) _ := put_ok n (by omega) h3 hs3 (by rw [hl3]; decide) _ (k := 8) (by decide) (by decide) rfl
  rw [callL_of e]
  refine ok_gO (ok_ldL h4 rfl (ok_ldL h3 rfl (ok_true (by simp [AV.beq]) (ok_true (by simp [AV.beq]) ?_))))
  have hl3' : s3.length = 8 := hl3
  obtain ⟨v, S5, e, a5, c5, s5, L5, rfl, hl5, hs5, h5⟩ : Ok (evF E orcL (n + 2) (.fn 48) [.sl a4 s4.length c4, .int .u64 (IntKind.wrap .u64 (A.l.length : Nat)), .int .i64 4] S4) _ := put_ok n (by omega) h4 hs4 (by omega) _ (k := 4) (by decide) (by decide) rfl
  rw [callL_of e]
  refine ok_gO (ok_ldL h5 rfl ?_)
  exact bytes_loop (n + 2) n hn hI.len hI.rl (hs.rd (by intro e he; simp [he])) (n + 2) 0 s5 a5 c5 L5 S5 (by omega) (by have := hI.len; omega) (by omega) hs5 h5

end

end Go.Ct

namespace Go.Ct
open Go.Gr

section
variable {X : Cx} {S : AS} {L F : List Ent} {b : Nat} {A : CM} {Q : AV → AS → Prop}

theorem get_loop (n0 : Nat) (call : CallA) {a : Option Pos} {c : Cap} {s : List UInt8} (hr : RdR X L a (ofBytes s)) (h : Hp X S L) (hl : s.length ≤ 65536) : ∀ (m i : Nat) (w3 : Int), i ≤ s.length → s.length - i < m →
    Ok (J53_l1_1_0_1_0 call n0 m w3 a s.length c s.length i S) fun v S' => (∃ x : Int, v = .int .u64 x) ∧ S' = S
  | 0, i, w3, hi, hm => by omega
  | m + 1, i, w3, hi, hm => by
    rw [J53_l1_1_0_1_0_succ]
    simp only [b53_l1_1_0_1_0]
    refine ok_cond (fun hc => ?_) (fun hc => ok_ret ⟨⟨_, rfl⟩, rfl⟩)
    simp only [decide_eq_true_eq] at hc
    have hlt : i < s.length := by omega
    obtain ⟨p, rfl⟩ := hr.some_of (by intro he; have := congrArg List.length he; simp at this; rw [this] at hlt; simp at hlt)
    obtain ⟨x, hx⟩ : ∃ x, s[i]? = some x := ⟨_, List.getElem?_eq_getElem hlt⟩
    rw [ixSl_at rfl hlt]
    simp only [Nat.mul_one]
    rw [hr.ldI h (k := .u8) (v := (x.toNat : Int)) (by simp [ofBytes, hx])]
    rw [wn (x := (i : Int) + 1) (n := i + 1) (by omega) (by omega)]
    exact get_loop n0 call hr h hl m (i + 1) _ (by omega) (by omega)

theorem get_eq (n : Nat) (hn : 70000 < n) {a : Option Pos} {l : Nat} {c : Cap} {s : List UInt8} (hv : Vw X L a l c s) (h : Hp X S L) (hl : s.length ≤ 65536) : ∃ x : Int, ev (n + 1) (.fn 53) [.sl a l c] S = some (.int .u64 x, S) := by
  have : Ok (ev (n + 1) (.fn 53) [.sl a l c] S) fun v S' => (∃ x : Int, v = .int .u64 x) ∧ S' = S := by
    rw [ev, F53 _ _ _ _ _ (oL rfl)]
    simp only [J53, b53_entry, hv.ln]
    exact get_loop n (evF E orcL n) hv.r h hl n 0 0 (by omega) (by omega)
  obtain ⟨v, S', e, ⟨x, rfl⟩, rfl⟩ := this
  exact ⟨x, e⟩

theorem room_eq (n : Nat) (x0 x1 x2 : Int) (x3 : Bool) (S : AS) : ∃ r : Bool, ev (n + 1) (.fn 62) [.int .u64 x0, .int .u64 x1, .int .u64 x2, .bool x3] S = some (.bool r, S) := by
  have : Ok (ev (n + 1) (.fn 62) [.int .u64 x0, .int .u64 x1, .int .u64 x2, .bool x3] S) fun v S' => (∃ r : Bool, v = .bool r) ∧ S' = S := by
    rw [ev, F62 _ _ _ _ _ _ (oL rfl)]
    simp only [J62, b62_entry]
    exact ok_cond (fun _ => ok_ret ⟨⟨_, rfl⟩, rfl⟩) (fun _ => ok_cond (fun _ => ok_ret ⟨⟨_, rfl⟩, rfl⟩) (fun _ => ok_ret ⟨⟨_, rfl⟩, rfl⟩))
  obtain ⟨v, S', e, ⟨x, rfl⟩, rfl⟩ := this
  exact ⟨x, e⟩

abbrev BoolQ (X : Cx) (F : List Ent) : AV → AS → Prop := fun v S' => (∃ r : Bool, v = .bool r) ∧ Hp X S' F

theorem right_loop (n0 n : Nat) {hd : List AV} {l : List Snap} (hl : l.length ≤ 65536) {a : Option Pos} {c : Cap} {pa ti : Int} (hd1 : hd[1]? = some (.int .u64 pa)) (hd2 : hd[2]? = some (.int .u64 ti)) (hra : RdR X F a (srows l).flatten) :
    ∀ (m i : Nat) (w2 w5 : Bool) (w3 w4 : Int) (M : List Ent) (S : AS), i ≤ l.length → l.length - i < m → Hp X S (M ++ (C b hd :: F)) →
      Ok (J54_l1_1_1_1_0_1_0 (evF E orcL (n + 1)) n0 m (some (.rw b, 0)) w2 w3 w4 w5 a l.length c l.length i S) (BoolQ X (C b hd :: F))
  | 0, i, w2, w5, w3, w4, M, S, hi, hm, h => by omega
  | m + 1, i, w2, w5, w3, w4, M, S, hi, hm, h => by
    rw [J54_l1_1_1_1_0_1_0_succ]
    simp only [b54_l1_1_1_1_0_1_0]
    refine ok_cond (fun hc => ?_) (fun hc => ?_)
    · simp only [decide_eq_true_eq] at hc
      have hlt : i < l.length := by omega
      obtain ⟨x, hx⟩ : ∃ x, l[i]? = some x := ⟨_, List.getElem?_eq_getElem hlt⟩
      have hrm : RdR X (M ++ (C b hd :: F)) a (srows l).flatten := hra.mono (fun e he => by simp [he])
      obtain ⟨p, hp⟩ := hrm.some_of (by intro he; have := congrArg List.length he; rw [flat_len (srows_all l), srows_len] at this; simp at this; omega)
      have hrm' : RdR X (M ++ (C b hd :: F)) (some p) (srows l).flatten := by rw [← hp]; exact hrm
      rw [show ixSl 4 a l.length (i : Int) = ixSl 4 (some p) l.length (i : Int) by rw [hp]]
      rw [ixSl_at rfl hlt, hrm'.elem h (srows_all l) (srows_at hx)]
      refine ok_newA h (fun b15 S1 h1 => ok_ifO rfl ?_)
      refine ok_stn h1 (by simp [srow]) (d := srow x) (by simp [splice, srow]) (fun S2 h2 => ok_ldI h2 rfl ?_)
      have hh : Hp X S2 (M ++ (C b hd :: F)) := h2.drop1
      refine ok_cond (fun _ => ok_ret ⟨⟨_, rfl⟩, hh.right⟩) (fun _ => ok_gO (ok_ldI h2 (by simpa using hd1) (ok_cond (fun _ => ok_ret ⟨⟨_, rfl⟩, hh.right⟩) (fun _ => ok_ldI h2 rfl ?_))))
      obtain ⟨r, e⟩ := room_eq n (IntKind.wrap .u64 (IntKind.wrap .u64 x.n - w3)) w4 x.t w5 S2
      rw [callB_of e]
      refine ok_cond (fun _ => ok_ret ⟨⟨_, rfl⟩, hh.right⟩) (fun _ => ok_ldI h2 rfl ?_)
      rw [wn (x := (i : Int) + 1) (n := i + 1) (by omega) (by omega)]
      exact right_loop n0 n hl hd1 hd2 hra m (i + 1) w2 false _ _ (C b15 (srow x) :: M) S2 (by omega) (by omega) h2
    · simp only [J54_j1_1_1_1_1, b54_j1_1_1_1_1]
      refine ok_gO (ok_ldI h (by simpa using hd1) (ok_cond (fun _ => ok_ret ⟨⟨_, rfl⟩, h.right⟩) (fun _ => ok_gO (ok_ldI h (by simpa using hd1) (ok_cond (fun _ => ok_gO (ok_ldI h (by simpa using hd2) (ok_ret ⟨⟨_, rfl⟩, h.right⟩))) (fun _ => ?_))))))
      refine ok_gO (ok_ldI h (by simpa using hd1) (ok_gO (ok_ldI h (by simpa using hd2) ?_)))
      obtain ⟨r, e⟩ := room_eq n (IntKind.wrap .u64 (pa - w3)) w4 ti w5 S
      rw [callB_of e]
      exact ok_ret ⟨⟨_, rfl⟩, h.right⟩

theorem right_ok (n : Nat) (hn : 70000 < n) {a : Option Pos} {l : Nat} {c : Cap} {pa ti : Int} {ls : List Snap} {Ls : List Ent} (hs : SlG a l c 4 (srows ls) Ls) (hls : ls.length ≤ 65536) (h : Hp X S (C b [.sl a l c, .int .u64 pa, .int .u64 ti] :: (Ls ++ F))) :
    Ok (ev (n + 2) (.fn 54) [.ptr (some (.rw b, 0))] S) (BoolQ X (C b [.sl a l c, .int .u64 pa, .int .u64 ti] :: (Ls ++ F))) := by
  have hll : l = ls.length := by have := hs.len; simpa using this
  subst hll
  rw [ev, F54 _ _ _ (oL rfl)]
  simp only [J54, b54_entry]
  have lp := right_loop (b := b) (n + 1) n (hd := [.sl a ls.length c, .int .u64 pa, .int .u64 ti]) hls rfl rfl (hs.rd (M := Ls ++ F) (X := X) (by intro e he; simp [he])) (n + 1) 0 false true 0 0 [] S (by omega) (by omega) h (c := c)
  refine ok_gO (ok_ldL h rfl (ok_cond (fun _ => ok_ret ⟨⟨_, rfl⟩, h⟩) (fun _ => ok_gO (ok_ldI h rfl (ok_cond (fun _ => ?_) (fun _ => ok_gO (ok_ldL h rfl lp)))))))
  exact ok_gO (ok_ldI h rfl (ok_cond (fun _ => ok_ret ⟨⟨_, rfl⟩, h⟩) (fun _ => ok_gO (ok_ldL h rfl (ok_cond (fun _ => ok_ret ⟨⟨_, rfl⟩, h⟩) (fun _ => ok_gO (ok_ldL h rfl lp)))))))

/-- Something is told; what was there is there still. -/
abbrev LdQ (X : Cx) (F : List Ent) : AV → AS → Prop := fun v S' => ∃ (p : Option Pos) (e : Int), v = .tup [.ptr p, .int .i64 e] ∧ Hp X S' F

theorem load_loop (n0 n : Nat) (hn : 80000 < n) {bc : Nat} {pa ti : Int} {wa : Option Pos} {wl : Nat} {wc : Cap} {w : List UInt8} (hw : Vw X F wa wl wc w) (hwl : w.length ≤ 65536) (hwl2 : 20 ≤ w.length) :
    ∀ (m k : Nat) (ls : List Snap) (q : List UInt8) (qa : Option Pos) (ql : Nat) (qc : Cap) (a : Option Pos) (l : Nat) (c : Cap) (Ls : List Ent) (S : AS), k < m → q.length = 52 * k → ls.length + k ≤ 65536 → Vw X F qa ql qc q → SlG a l c 4 (srows ls) Ls → Hp X S (C bc [.sl a l c, .int .u64 pa, .int .u64 ti] :: (Ls ++ F)) →
      Ok (J42_l1_1_1_1_0_1_0 (evF E orcL (n + 2)) n0 m wa wl wc (some (.rw bc, 0)) qa ql qc S) (LdQ X F)
  | 0, k, ls, q, qa, ql, qc, a, l, c, Ls, S, hm, hq, hls, hv, hs, h => by omega
  | m + 1, k, ls, q, qa, ql, qc, a, l, c, Ls, S, hm, hq, hls, hv, hs, h => by
    have hll : l = ls.length := by have := hs.len; simpa using this
    have hql := hv.ln
    rw [J42_l1_1_1_1_0_1_0_succ]
    simp only [b42_l1_1_1_1_0_1_0]
    refine ok_cond (fun hc => ?_) (fun hc => ?_)
    · simp only [gt_iff_lt, decide_eq_true_eq] at hc
      obtain ⟨k', rfl⟩ : ∃ k', k = k' + 1 := ⟨k - 1, by omega⟩
      refine ok_drawA h [19] (by simp) (by simp) (fun b17 S1 h1 => ?_)
      have h1' : Hp X S1 ((b17 + 19, none) :: (C bc [.sl a l c, .int .u64 pa, .int .u64 ti] :: (Ls ++ F))) := h1
      have sub : ∀ e ∈ F, e ∈ (b17 + 19, none) :: (C bc [.sl a l c, .int .u64 pa, .int .u64 ti] :: (Ls ++ F)) := fun e he => by simp [he]
      obtain ⟨a1, c1, v1, _, e1, _⟩ := vw_sl (hv.mono sub) (lo := 0) (hi := 4) (by decide) (by omega)
      obtain ⟨a2, c2, v2, e2, _, _⟩ := vw_sl (hv.mono sub) (lo := 4) (hi := 12) (by decide) (by omega)
      obtain ⟨a3, c3, v3, e3, _, _⟩ := vw_sl (hv.mono sub) (lo := 12) (hi := 44) (by decide) (by omega)
      obtain ⟨a4, c4, v4, e4, _, _⟩ := vw_sl (hv.mono sub) (lo := 44) (hi := 52) (by decide) (by omega)
      obtain ⟨a5, c5, v5, _, _, e5⟩ := vw_sl hv (lo := 52) (hi := ql) (by omega) (Nat.le_refl _)
      obtain ⟨g1, eg1⟩ := get_eq (n + 1) (by omega) v1 h1' (by simp; omega)
      obtain ⟨g2, eg2⟩ := get_eq (n + 1) (by omega) v2 h1' (by simp; omega)
      obtain ⟨g4, eg4⟩ := get_eq (n + 1) (by omega) v4 h1' (by simp; omega)
      refine ok_gO (ok_ldL h1' rfl ?_)
      rw [show ((4 : Int)) = ((4 : Nat) : Int) by rfl, show ((12 : Int)) = ((12 : Nat) : Int) by rfl, show ((44 : Int)) = ((44 : Nat) : Int) by rfl, show ((52 : Int)) = ((52 : Nat) : Int) by rfl]
      rw [e1 _ rfl, callI_of eg1]
      refine ok_ldL h1' rfl (ok_true (by simp [AV.beq]) ?_)
      rw [e2, callI_of eg2]
      refine ok_ldL h1' rfl (ok_true (by simp [AV.beq]) ?_)
      rw [e3, bytesStr_of v3.r h1' v3.ln, bytesStr_of v3.r h1' v3.ln]
      refine ok_true (by simp [AV.beq]) ?_
      rw [bytesStr_of v3.r h1' v3.ln]
      refine ok_true (by simp [AV.beq]) ?_
      rw [e4, callI_of eg4, bytesStr_of v3.r h1' v3.ln]
      refine ok_true (by simp [AV.beq]) (ok_ldL h1' rfl (ok_true (by simp [AV.beq]) ?_))
      refine ok_layA (b := b17 + 19) h1' (fun S3 h3 => ?_)
      have h3' := h3.re (M := Ls ++ (C (b17 + 19) (srow ⟨IntKind.wrap .u32 g1, g2, (q.drop 12).take (44 - 12), g4⟩) :: C bc [.sl a l c, .int .u64 pa, .int .u64 ti] :: F)) (by intro p; simp only [List.countP_append, List.countP_cons, C, srow]; omega)
      refine ok_appendG h3' hs (ys := srows [⟨IntKind.wrap .u32 g1, g2, (q.drop 12).take (44 - 12), g4⟩]) (srows_all _) rfl (fun K => ?_) (by decide) (by simp [pow46]; omega) (by simp [pow46]; omega) (fun a6 l6 c6 S6 L6 hs6 h6 => ?_)
      · have := RdR.first (.rw (X := X) (b := b17 + 19) (i := 0) (c := srow ⟨IntKind.wrap .u32 g1, g2, (q.drop 12).take (44 - 12), g4⟩) (cs := srow ⟨IntKind.wrap .u32 g1, g2, (q.drop 12).take (44 - 12), g4⟩) (L := _) (List.mem_append_right Ls List.mem_cons_self) (by simp) rfl) h3' (sz := 4) (n := 1) rfl (by decide) (l := 1) (c := .ex 1) K
        simpa [srows] using this
      · rw [← srows_append] at hs6
        refine ok_gO (ok_stn h6 (by simp) (d := [.sl a6 l6 c6, .int .u64 pa, .int .u64 ti]) (by simp [splice]) (fun S7 h7 => ?_))
        rw [e5 _ rfl]
        have hlen5 : ((q.drop 52).take (ql - 52)).length = 52 * k' := by simp; omega
        exact load_loop n0 n hn hw hwl hwl2 m k' _ _ a5 _ c5 a6 l6 c6 L6 S7 (by omega) hlen5 (by simp; omega) v5 hs6 (h7.re (M := C (b17 + 19) (srow ⟨IntKind.wrap .u32 g1, g2, (q.drop 12).take (44 - 12), g4⟩) :: (C bc [.sl a6 l6 c6, .int .u64 pa, .int .u64 ti] :: (L6 ++ F))) (by intro p; simp only [List.countP_append, List.countP_cons, C]; omega)).drop1
    · simp only [J42_j1_1_1_1_1, b42_j1_1_1_1_1]
      have sub : ∀ e ∈ F, e ∈ C bc [.sl a l c, .int .u64 pa, .int .u64 ti] :: (Ls ++ F) := fun e he => by simp [he]
      have hwln := hw.ln
      obtain ⟨a1, c1, v1, e1, _, _⟩ := vw_sl (hw.mono sub) (lo := 16) (hi := 20) (by decide) (by omega)
      obtain ⟨g1, eg1⟩ := get_eq (n + 1) (by omega) v1 h (by simp; omega)
      rw [show ((16 : Int)) = ((16 : Nat) : Int) by rfl, show ((20 : Int)) = ((20 : Nat) : Int) by rfl, e1, callI_of eg1]
      refine ok_gO (ok_ldL h rfl (ok_ldL h rfl (ok_true (by simp [AV.beq]) (ok_true (by simp [AV.beq]) (ok_cond (fun _ => ok_ret ⟨_, _, rfl, h.drop1.right⟩) (fun _ => ?_))))))
      obtain ⟨v, S2, e, ⟨r, rfl⟩, h2⟩ : Ok (evF E orcL (n + 2) (.fn 54) [.ptr (some (.rw bc, 0))] S) _ := right_ok n (by omega) hs (by omega) h
      rw [callB_of e]
      exact ok_cond (fun _ => ok_ret ⟨_, _, rfl, h2.drop1.right⟩) (fun _ => ok_ret ⟨_, _, rfl, h2.drop1.right⟩)

theorem load_ok (n : Nat) (hn : 80000 < n) {wa : Option Pos} {wl : Nat} {wc : Cap} {w : List UInt8} (hw : Vw X F wa wl wc w) (hwl : w.length ≤ 65536) (h : Hp X S F) :
    Ok (ev (n + 3) (.fn 42) [.sl wa wl wc] S) (LdQ X F) := by
  have hln := hw.ln
  rw [ev, F42 _ _ _ _ _ (oL rfl)]
  simp only [J42, b42_entry]
  refine ok_cond (fun _ => ok_ret ⟨_, _, rfl, h⟩) (fun c1 => ok_cond (fun _ => ok_ret ⟨_, _, rfl, h⟩) (fun c2 => ?_))
  simp only [decide_eq_false_iff_not] at c1
  rw [wz (z := ((wl - 20 : Nat) : Int)) (by omega) (by omega) (by omega)] at c2
  have hmod : (wl - 20) % 52 = 0 := by
    rw [Int.tmod_eq_emod_of_nonneg (by omega)] at c2
    simp only [bne_eq_false_iff_eq] at c2
    omega
  obtain ⟨a1, c1', v1, _, e1, _⟩ := vw_sl hw (lo := 0) (hi := 4) (by decide) (by omega)
  rw [show ((4 : Int)) = ((4 : Nat) : Int) by rfl, e1 _ rfl, bytesStr_of v1.r h v1.ln]
  refine ok_cond (fun _ => ok_ret ⟨_, _, rfl, h⟩) (fun _ => ?_)
  refine ok_drawA h [8] (by simp) (by simp) (fun b3 S1 h1 => ?_)
  have h1' : Hp X S1 ((b3 + 8, none) :: F) := h1
  have sub : ∀ e ∈ F, e ∈ ((b3 + 8, none) : Ent) :: F := fun e he => by simp [he]
  obtain ⟨a2, c2', v2, e2, _, _⟩ := vw_sl (hw.mono sub) (lo := 4) (hi := 8) (by decide) (by omega)
  obtain ⟨a3, c3', v3, e3, _, _⟩ := vw_sl (hw.mono sub) (lo := 8) (hi := 16) (by decide) (by omega)
  obtain ⟨g2, eg2⟩ := get_eq (n + 1) (by omega) v2 h1' (by simp; omega)
  obtain ⟨g3, eg3⟩ := get_eq (n + 1) (by omega) v3 h1' (by simp; omega)
  rw [show ((8 : Int)) = ((8 : Nat) : Int) by rfl, e2, callI_of eg2, show ((16 : Int)) = ((16 : Nat) : Int) by rfl, e3, callI_of eg3]
  refine ok_layA (b := b3 + 8) h1' (fun S2 h2 => ?_)
  have sub2 : ∀ e ∈ F, e ∈ C (b3 + 8) [.sl none 0 (.ex 0), .int .u64 (IntKind.wrap .u64 (g2 - 1)), .int .u64 g3] :: F := fun e he => by simp [he]
  obtain ⟨a4, c4', v4, e4, _, _⟩ := vw_sl (hw.mono sub2) (lo := 4) (hi := 8) (by decide) (by omega)
  obtain ⟨g4, eg4⟩ := get_eq (n + 1) (by omega) v4 h2 (by simp; omega)
  rw [e4, callI_of eg4]
  have go : ∀ (pa : Int) (S : AS), Hp X S (C (b3 + 8) [.sl none 0 (.ex 0), .int .u64 pa, .int .u64 g3] :: F) → Ok (J42_j1_1_1_1 (evF E orcL (n + 2)) (n + 2) wa wl wc (some (.rw (b3 + 8), 0)) S) (LdQ X F) := by
    intro pa S h3
    simp only [J42_j1_1_1_1, b42_j1_1_1_1]
    obtain ⟨a5, c5, v5, _, _, e5⟩ := vw_sl hw (lo := 20) (hi := wl) (by omega) (Nat.le_refl _)
    rw [show ((20 : Int)) = ((20 : Nat) : Int) by rfl, e5 _ rfl]
    exact load_loop (n + 2) n hn hw hwl (by omega) (n + 2) ((wl - 20) / 52) [] _ a5 _ c5 none 0 (.ex 0) [] S (by omega) (by simp; omega) (by simp; omega) v5 (by simpa [srows] using SlG.nil) h3
  refine ok_cond (fun _ => ?_) (fun _ => go _ S2 h2)
  exact ok_stn h2 (by simp) (d := [.sl none 0 (.ex 0), .int .u64 4294967295, .int .u64 g3]) (by simp [splice]) (fun S3 h3 => go _ S3 h3)

end

end Go.Ct
