/- What the functions of packages octet and slices do with a heap, exactly: numbers laid into bytes and read out of them; blocks filled up; bytes copied and compared. -/
import Derived.Test.YtcepfilbiahdjaaRF
import Derived.Test.YtcepfilbiahdjaaGrSep3
import Derived.Test.YtcepfilbiahdjaaJnC
set_option linter.unusedVariables false
set_option linter.unusedSimpArgs false
set_option maxRecDepth 4000
namespace Go.Jn
open Go.Gr

def orcL : Orc := fun f args => match args with
  | [] => cond (Nat.beq f 7) (some (.bool true)) none
  | _ => none
theorem oL {f : FuncId} (h : Nat.beq f 7 = false) : ∀ args, orcL f args = none := by
  intro args
  cases args with
  | nil => simp [orcL, h]
  | cons x xs => rfl

noncomputable abbrev ev (n : Nat) : CallA := evF E orcL n

theorem wn {x : Int} {n : Nat} (h : x = n) (hn : n < 4611686018427387904) : IntKind.wrap .i64 x = n := by
  rw [h, wrap64 (by omega) (by omega)]
theorem wz {x z : Int} (h : x = z) (h1 : -4611686018427387904 < z) (h2 : z < 4611686018427387904) : IntKind.wrap .i64 x = z := by
  rw [h, wrap64 (by omega) (by omega)]
theorem wu64 {n : Int} (h0 : 0 ≤ n) (h1 : n < 18446744073709551616) : IntKind.wrap .u64 n = n := by
  simp [IntKind.wrap, IntKind.bits, IntKind.signed]; omega

abbrev TrueQ : AV → AS → Prop := fun v S' => v = .bool true

theorem live_ok (n : Nat) (S : AS) : Ok (callB (evF E orcL (n + 1)) 7 [] S fun v S => some (.bool v, S)) TrueQ := by
  rw [callB_of (S' := S) (v := true) (by simp [evF, orcL])]; exact ok_ret rfl

theorem shr8 (x : Nat) : shrI .u64 (x : Int) 8 = ((x / 256 : Nat) : Int) := by
  simp [shrI, IntKind.bits, Int.fdiv_eq_ediv_of_nonneg]
theorem shrk {x k : Nat} (hk : k < 8) {u : Int} (hu : u = ((8 * k : Nat) : Int)) : shrI .u64 (x : Int) u = ((x / 256 ^ k : Nat) : Int) := by
  subst hu
  have e : min (8 * k) 64 = 8 * k := by omega
  have e2 : (2 : Int) ^ (8 * k) = ((256 ^ k : Nat) : Int) := by rw [Int.pow_mul]; simp
  simp only [shrI, IntKind.bits, Int.toNat_natCast, e, e2]
  rw [Int.fdiv_eq_ediv_of_nonneg _ (Int.natCast_nonneg _)]
  rfl
theorem wu8 (x : Nat) : IntKind.wrap .u8 (x : Int) = ((UInt8.ofNat x).toNat : Int) := by
  simp [IntKind.wrap, IntKind.bits, IntKind.signed]
theorem or8 {w : Nat} (c : UInt8) (h : w < 72057594037927936) : orI .u64 (shlI .u64 (w : Int) 8) (IntKind.wrap .u64 (c.toNat : Int)) = ((w * 256 + c.toNat : Nat) : Int) := by
  have hc : c.toNat < 256 := by simpa using c.toNat_lt
  have e1 : shlI .u64 (w : Int) 8 = ((w * 256 : Nat) : Int) := by
    have : shlI .u64 (w : Int) 8 = IntKind.wrap .u64 ((w : Int) * 256) := by simp [shlI, IntKind.bits]
    rw [this, wu64 (by omega) (by omega)]; omega
  rw [e1, wu64 (by omega) (by omega)]
  have e3 : orI .u64 ((w * 256 : Nat) : Int) (c.toNat : Int) = IntKind.wrap .u64 (((w * 256) % 18446744073709551616 ||| c.toNat % 18446744073709551616 : Nat) : Int) := by
    have : (BitVec.ofInt 64 ((w * 256 : Nat) : Int) ||| BitVec.ofInt 64 (c.toNat : Int)).toNat = ((w * 256) % 18446744073709551616 ||| c.toNat % 18446744073709551616) := by
      rw [BitVec.toNat_or, BitVec.ofInt_natCast, BitVec.ofInt_natCast, BitVec.toNat_ofNat, BitVec.toNat_ofNat]
    rw [← this]; rfl
  rw [e3, Nat.mod_eq_of_lt (by omega), Nat.mod_eq_of_lt (by omega)]
  have e2 : w * 256 ||| c.toNat = w * 256 + c.toNat := by
    have := Nat.shiftLeft_add_eq_or_of_lt (i := 8) (b := c.toNat) (by omega) w
    rw [Nat.shiftLeft_eq] at this
    exact this.symm
  rw [e2, wu64 (by omega) (by omega)]

/-- Bytes that are seen through a slice. -/
structure Vw (X : Cx) (L : List Ent) (a : Option Pos) (l : Nat) (c : Cap) (s : List UInt8) : Prop where
  r : RdR X L a (ofBytes s)
  ln : l = s.length
  cp : ∃ N, (c = .ex N ∨ c = .op 1 N) ∧ l ≤ N

theorem Vw.mono {X : Cx} {L M : List Ent} {a : Option Pos} {l : Nat} {c : Cap} {s : List UInt8} (h : Vw X L a l c s) (k : ∀ e ∈ L, e ∈ M) : Vw X M a l c s := ⟨h.r.mono k, h.ln, h.cp⟩

theorem slG_vw {X : Cx} {M L : List Ent} {a : Option Pos} {l : Nat} {c : Cap} {s : List UInt8} (h : SlG a l c 1 (bxs s) L) (hm : ∀ e ∈ L, e ∈ M) : Vw X M a l c s := by
  have hr := h.rd (X := X) hm
  rw [bxs_flat] at hr
  have hl := h.len
  rw [bxs_len] at hl
  refine ⟨hr, hl, ?_⟩
  rcases h.dest with ⟨_, h0, hc, _, _⟩ | ⟨b, js, _, _, hc, _⟩
  · exact ⟨0, .inl hc, by omega⟩
  · rw [bxs_len] at hc
    exact ⟨_, hc, by omega⟩

theorem rd_sub {X : Cx} {L : List Ent} {p : Pos} {cs : List AV} (h : RdR X L (some p) cs) {lo k : Nat} (hk : lo + k ≤ cs.length) : RdR X L (some (p.1, p.2 + lo)) ((cs.drop lo).take k) := by
  cases h with
  | rw hm hl hc =>
    rename_i b i c
    refine .rw hm (by simp; omega) ?_
    rw [← hc, List.length_take, List.length_drop, List.length_take, List.length_drop, List.drop_take, List.take_take, List.drop_drop]
    congr 1
    omega
  | ro hm hl hc =>
    rename_i b i c
    refine .ro hm (by simp; omega) ?_
    rw [← hc, List.length_take, List.length_drop, List.length_take, List.length_drop, List.drop_take, List.take_take, List.drop_drop]
    congr 1
    omega
theorem rd_nil {X : Cx} {L : List Ent} {a : Option Pos} {cs : List AV} (h : RdR X L a cs) : RdR X L a [] := by
  cases h with
  | nil => exact .nil
  | rw hm hl hc => exact .rw hm (by simp; omega) rfl
  | ro hm hl hc => exact .ro hm (by simp; omega) rfl

theorem ofBytes_sub (s : List UInt8) (lo k : Nat) : ofBytes ((s.drop lo).take k) = ((ofBytes s).drop lo).take k := by
  simp [ofBytes, List.map_take, List.map_drop]

theorem vw_sl {X : Cx} {L : List Ent} {a : Option Pos} {l : Nat} {c : Cap} {s : List UInt8} (h : Vw X L a l c s) {lo hi : Nat} (h1 : lo ≤ hi) (h2 : hi ≤ l) : ∃ a' c', Vw X L a' (hi - lo) c' (win8 s lo (hi - lo)) ∧
    (∀ {β : Type} (K : Option Pos → Nat → Cap → Option β), slSl 1 a l c (some (lo : Int)) (some (hi : Int)) none K = K a' (hi - lo) c') ∧
    (∀ {β : Type} (K : Option Pos → Nat → Cap → Option β), lo = 0 → slSl 1 a l c none (some (hi : Int)) none K = K a' (hi - lo) c') ∧
    (∀ {β : Type} (K : Option Pos → Nat → Cap → Option β), hi = l → slSl 1 a l c (some (lo : Int)) none none K = K a' (hi - lo) c') := by
  unfold win8
  obtain ⟨N, hc, hN⟩ := h.cp
  have hln := h.ln
  have rdd : RdR X L (a.map fun p => (p.1, p.2 + lo * 1)) (ofBytes ((s.drop lo).take (hi - lo))) := by
    rw [ofBytes_sub, Nat.mul_one]
    cases ha : a with
    | none =>
      have hr := h.r
      rw [ha] at hr
      have : s = [] := by
        generalize hs : ofBytes s = cs at hr
        cases hr
        have := congrArg List.length hs
        simpa using this
      rw [this]
      simp [ofBytes]
      exact .nil
    | some p =>
      have hr := h.r
      rw [ha] at hr
      exact rd_sub hr (by simp; omega)
  have hlen : ((s.drop lo).take (hi - lo)).length = hi - lo := by simp; omega
  rcases hc with rfl | rfl
  · by_cases hNl : N = lo
    · have e0 : (s.drop lo).take (hi - lo) = [] := by rw [show hi - lo = 0 by omega]; rfl
      refine ⟨a, .ex (N - lo), ⟨by rw [e0]; exact rd_nil h.r, hlen.symm, N - lo, .inl rfl, by omega⟩, fun K => ?_, fun K hlo => ?_, fun K hhi => ?_⟩
      · simp [slSl, optIx, ix, show hi ≤ N by omega, h1, hNl]
        intro hx; exact absurd h1 (by omega)
      · subst hlo
        simp [slSl, optIx, ix, show hi ≤ N by omega, hNl]
        intro hx; omega
      · subst hhi
        simp [slSl, optIx, ix, show hi ≤ N by omega, h1, hNl]
        intro hx; exact absurd h1 (by omega)
    · refine ⟨a.map fun p => (p.1, p.2 + lo * 1), .ex (N - lo), ⟨rdd, hlen.symm, N - lo, .inl rfl, by omega⟩, fun K => ?_, fun K hlo => ?_, fun K hhi => ?_⟩
      · simp [slSl, optIx, ix, show hi ≤ N by omega, h1, hNl]
      · subst hlo
        simp [slSl, optIx, ix, show hi ≤ N by omega, hNl]
      · subst hhi
        simp [slSl, optIx, ix, show hi ≤ N by omega, h1, hNl]
  · refine ⟨a.map fun p => (p.1, p.2 + lo * 1), .op 1 (N - lo), ⟨rdd, hlen.symm, N - lo, .inr rfl, by omega⟩, fun K => ?_, fun K hlo => ?_, fun K hhi => ?_⟩
    · simp [slSl, optIx, ix, h2, h1]
    · subst hlo
      simp [slSl, optIx, ix, h2]
    · subst hhi
      simp [slSl, optIx, ix, h1]

theorem byte_splice {t : List UInt8} {J : List AV} {i : Nat} (y : UInt8) (h : i < t.length) : splice (ofBytes t ++ J) i [.int .u8 (y.toNat : Int)] = ofBytes (t.set i y) ++ J := by
  have e : ofBytes (t.set i y) = (ofBytes t).set i (.int .u8 (y.toNat : Int)) := by simp [ofBytes, List.map_set]
  rw [e, splice, List.set_eq_take_append_cons_drop, if_pos (by simpa using h), List.take_append_of_le_length (by simp; omega), List.length_singleton, List.drop_append_of_le_length (by simp; omega)]
  simp

theorem ok_eq {q : Option (AV × AS)} {v : AV} {S : AS} (h : Ok q (fun w S' => w = v ∧ S' = S)) : q = some (v, S) := by
  obtain ⟨w, S', e, rfl, rfl⟩ := h
  exact e
theorem ok_atI {k : IntKind} {l : List AV} {i : Nat} {v : Int} {K : Int → Option (AV × AS)} {Q : AV → AS → Prop} (h : l[i]? = some (.int k v)) (ht : Ok (K v) Q) : Ok (atI k l i K) Q := by simp only [atI, h, gIk, if_true]; exact ht
theorem ok_atL {l : List AV} {i : Nat} {a : Option Pos} {m : Nat} {c : Cap} {K : Option Pos → Nat → Cap → Option (AV × AS)} {Q : AV → AS → Prop} (h : l[i]? = some (.sl a m c)) (ht : Ok (K a m c) Q) : Ok (atL l i K) Q := by simp only [atL, h, gL]; exact ht
theorem bxs_app (s t : List UInt8) : bxs s ++ bxs t = bxs (s ++ t) := by simp [bxs, ofBytes]
theorem zeros_bxs (k : Nat) : zeros k [AV.int .u8 0] = (bxs (zz k)).flatten := by rw [bxs_flat]; simp [zeros, ofBytes, zz]

section
variable {X : Cx} {S : AS} {L F : List Ent} {b : Nat} {Q : AV → AS → Prop}

theorem num_eq (n : Nat) (x : Int) (S : AS) : ev (n + 1) (.fn 13) [.int .i64 x] S = some (.int .i64 x, S) := by
  rw [ev, F13 _ _ _ (oL rfl)]; rfl

theorem ok_convLL {cs : List AV} {i l : Nat} {c : Cap} {U : Option AObj → List Ent} {K : Option Pos → Nat → Cap → AS → Option (AV × AS)} (h : Hp X S L) [Sel b L (some (.cells cs)) U] (hl : l ≠ 0) (ht : ∀ S', Hp X S' (U (some (.cells cs))) → Ok (K (some (.rw b, i)) l c S') Q) : Ok (convLL S (some (.rw b, i)) l c K) Q := by
  simp only [convLL, if_neg hl, h.get b]
  exact ht _ (h.turn (b := b) _)

/-- Zeros are appended. -/
theorem ok_zeros {s : List UInt8} {a : Option Pos} {l : Nat} {c : Cap} {k : Nat} {ki : Int} {K : Option Pos → Nat → Cap → AS → Option (AV × AS)} (h : Hp X S (L ++ F)) (hs : SlG a l c 1 (bxs s) L) (hki : ki = k) (hsl : s.length + k ≤ 1048576)
    (ht : ∀ a' c' L' S', SlG a' (s ++ zz k).length c' 1 (bxs (s ++ zz k)) L' → Hp X S' (L' ++ F) → Ok (K a' (s ++ zz k).length c' S') Q) : Ok (appendZA 1 1 [(.int .u8 0)] S a l c ki K) Q := by
  subst hki
  unfold appendZA
  refine ok_ix (by omega) ?_
  rw [Int.toNat_natCast]
  refine ok_appendG h hs (ys := bxs (zz k)) (bxs_all _) (by simp) (fun K => by rw [zeros_bxs]) (by decide) (by simp [pow46]; omega) (by simp [pow46]; omega) (fun a1 l1 c1 S1 L1 hs1 h1 => ?_)
  rw [bxs_app] at hs1
  obtain rfl : l1 = (s ++ zz k).length := by have := hs1.len; rw [bxs_len] at this; exact this
  exact ht _ _ _ _ hs1 h1

/-- Bytes that are seen are appended. -/
theorem ok_bytes {s t : List UInt8} {a a2 : Option Pos} {l l2 : Nat} {c c2 : Cap} {K : Option Pos → Nat → Cap → AS → Option (AV × AS)} (h : Hp X S (L ++ F)) (hs : SlG a l c 1 (bxs s) L) (hv : Vw X F a2 l2 c2 t) (hsl : s.length + t.length ≤ 1048576)
    (ht : ∀ a' c' L' S', SlG a' (s ++ t).length c' 1 (bxs (s ++ t)) L' → Hp X S' (L' ++ F) → Ok (K a' (s ++ t).length c' S') Q) : Ok (appendA 1 1 S a l c l2 (firstA S 1 l2 (.sl a2 l2 c2)) K) Q := by
  have hl2 := hv.ln
  refine ok_appendG h hs (ys := bxs t) (bxs_all _) (by simp [hl2]) (fun K => ?_) (by decide) (by simp [pow46]; omega) (by simp [pow46]; omega) (fun a1 l1 c1 S1 L1 hs1 h1 => ?_)
  · rw [bxs_flat]
    exact (hv.r.mono (fun e he => by simp [he])).first h (sz := 1) (n := l2) (by simp [hl2]) (by decide) K
  · rw [bxs_app] at hs1
    obtain rfl : l1 = (s ++ t).length := by have := hs1.len; rw [bxs_len] at this; exact this
    exact ht _ _ _ _ hs1 h1

theorem lay_loop (n0 : Nat) (call : CallA) {bt k x : Nat} {s : List UInt8} {J : List AV} {c : Cap} : ∀ (m i : Nat) (d : List UInt8) (S : AS), i ≤ k → k ≤ 8 → i < m → d.length = k → d.drop i = be (k - i) x → Hp X S (C bt (ofBytes (s ++ d) ++ J) :: F) →
    Ok (J72_l1_0 call n0 m (some (.rw bt, s.length)) k c ((x / 256 ^ (k - i) : Nat) : Int) ((i : Int) - 1) S) fun v S' => v = .tup [] ∧ Hp X S' (C bt (ofBytes (s ++ be k x) ++ J) :: F)
  | 0, i, d, S, hi, hk, hm, hd, hb, h => by omega
  | m + 1, i, d, S, hi, hk, hm, hd, hb, h => by
    rw [J72_l1_0_succ]
    simp only [b72_l1_0]
    cases i with
    | zero =>
      rw [List.drop_zero, Nat.sub_zero] at hb
      exact ok_false (by simp) (ok_ret ⟨rfl, by rw [← hb]; exact h⟩)
    | succ i =>
      have hw : ((i + 1 : Nat) : Int) - 1 = (i : Nat) := by omega
      rw [hw, wu8]
      refine ok_true (by simp) (ok_ixSl (k := i) rfl (by omega) ?_)
      rw [Nat.mul_one]
      refine ok_stn h (by simp; omega) (d := ofBytes ((s ++ d).set (s.length + i) (UInt8.ofNat (x / 256 ^ (k - (i + 1))))) ++ J) (byte_splice _ (by simp; omega)) (fun S1 h1 => ?_)
      rw [List.set_append_right _ _ (by omega), Nat.add_sub_cancel_left] at h1
      rw [wz (z := (i : Int) - 1) rfl (by omega) (by omega), shr8, Nat.div_div_eq_div_mul, ← Nat.pow_succ, show (k - (i + 1)).succ = k - i by omega]
      refine lay_loop n0 call m i _ S1 (by omega) hk (by omega) (by simpa using hd) ?_ h1
      rw [← be_top (show i < k by omega), ← hb, List.drop_set, if_neg (by omega), Nat.sub_self, List.drop_eq_getElem_cons (show i < d.length by omega), List.set_cons_zero]

theorem put_ok (n : Nat) (hn : 100 < n) {s : List UInt8} {a : Option Pos} {l : Nat} {c : Cap} (h : Hp X S (L ++ F)) (hs : SlG a l c 1 (bxs s) L) (hsl : s.length ≤ 65536) {x : Nat} {xi : Int} (hxi : xi = x) {k : Nat} (hk0 : 0 < k) (hk : k ≤ 8) (hx : x < 256 ^ k) {ki : Int} (hki : ki = k) :
    Ok (ev (n + 2) (.fn 56) [.sl a l c, .int .u64 xi, .int .i64 ki] S) fun v S' => ∃ (a' : Option Pos) (c' : Cap) (L' : List Ent), v = .sl a' (s ++ be k x).length c' ∧ SlG a' (s ++ be k x).length c' 1 (bxs (s ++ be k x)) L' ∧ Hp X S' (L' ++ F) := by
  subst hki
  subst hxi
  rw [ev, F56 _ _ _ _ _ _ _ (oL rfl)]
  simp only [J56, b56_entry]
  refine ok_zeros h hs rfl (by omega) (fun a1 c1 L1 S1 hs1 h1 => ?_)
  rcases hs1.dest with ⟨_, h0, _, _, _⟩ | ⟨bt, js, rfl, hln, hcc, rfl, hx', hj⟩
  · simp at h0; omega
  rw [bxs_len] at hcc
  have hl : (s ++ zz k).length = s.length + k := by simp
  rw [hl] at hcc ⊢
  rw [wz (z := (s.length : Int)) (by omega) (by omega) (by omega)]
  obtain ⟨o, c3, ho, e3⟩ := slG_tail (β := AV × AS) (sz := 1) (b := bt) (l := s.length + k) hcc (by omega) (j := s.length) (by omega) rfl (K := fun v3a v3l v3c => callT (evF E orcL (n + 1)) 72 [.sl v3a v3l v3c, .int .u64 (x : Int)] S1 fun v5 S4 => some (.sl (some (.rw bt, 0)) (s.length + k) c1, S4))
  rw [e3]
  have ho' : o = s.length := by
    rcases ho with ho | ⟨ho, _⟩
    · omega
    · omega
  subst ho'
  have hcont : (bxs (s ++ zz k) ++ js).flatten = ofBytes (s ++ zz k) ++ js.flatten := by rw [List.flatten_append, bxs_flat]
  rw [hcont] at h1
  have el : Ok (evF E orcL (n + 1) (.fn 72) [.sl (some (.rw bt, s.length)) (s.length + k - s.length) c3, .int .u64 (x : Int)] S1) fun v S' => v = .tup [] ∧ Hp X S' (C bt (ofBytes (s ++ be k x) ++ js.flatten) :: F) := by
    rw [F72 _ _ _ _ _ _ (oL rfl)]
    simp only [J72, b72_entry]
    rw [Nat.add_sub_cancel_left, wz (z := (k : Int) - 1) rfl (by omega) (by omega)]
    have := lay_loop (x := x) (X := X) (F := F) (bt := bt) (J := js.flatten) (s := s) (c := c3) n (evF E orcL n) n k (zz k) S1 (by omega) hk (by omega) (by simp) (by simp [be, zz]) h1
    rwa [Nat.sub_self, Nat.pow_zero, Nat.div_one] at this
  obtain ⟨v, S2, e, rfl, h2⟩ := el
  rw [callT_of e]
  have hb2 : (bxs (s ++ be k x)).length = s.length + k := by simp
  refine ok_ret ⟨some (.rw bt, 0), c1, [C bt (bxs (s ++ be k x) ++ js).flatten], by simp, ?_, ?_⟩
  · have := SlG.blk (b := bt) (xs := bxs (s ++ be k x)) (js := js) (c := c1) (bxs_all _) hj (by rw [hb2]; exact hcc)
    rw [bxs_len] at this
    exact this
  · rw [List.flatten_append, bxs_flat]; exact h2

theorem get_loop (n0 : Nat) (call : CallA) {a : Option Pos} {c : Cap} {s : List UInt8} (hr : RdR X L a (ofBytes s)) (h : Hp X S L) (hl : s.length ≤ 8) : ∀ (m i : Nat), i ≤ s.length → s.length - i < m →
    Ok (J77_l1_1_0_1_0 call n0 m ((vl (s.take i) : Nat) : Int) a s.length c s.length i S) fun v S' => v = .int .u64 ((vl s : Nat) : Int) ∧ S' = S
  | 0, i, hi, hm => by omega
  | m + 1, i, hi, hm => by
    rw [J77_l1_1_0_1_0_succ]
    simp only [b77_l1_1_0_1_0]
    refine ok_cond (fun hc => ?_) (fun hc => ok_ret ⟨?_, rfl⟩)
    · simp only [decide_eq_true_eq] at hc
      have hlt : i < s.length := by omega
      obtain ⟨p, rfl⟩ := hr.some_of (by intro he; have := congrArg List.length he; simp at this; rw [this] at hlt; simp at hlt)
      obtain ⟨x, hx⟩ : ∃ x, s[i]? = some x := ⟨_, List.getElem?_eq_getElem hlt⟩
      rw [ixSl_at rfl hlt]
      simp only [Nat.mul_one]
      rw [hr.ldI h (k := .u8) (v := (x.toNat : Int)) (by simp [ofBytes, hx])]
      have hv : vl (s.take i) < 72057594037927936 := by
        refine Nat.lt_of_lt_of_le (vl_lt _) (Nat.le_trans (Nat.pow_le_pow_right (by decide) (?_ : _ ≤ 7)) (by decide))
        simp; omega
      rw [wn (x := (i : Int) + 1) (n := i + 1) (by omega) (by omega), or8 x hv, ← vl_snoc]
      have := get_loop n0 call hr h hl m (i + 1) (by omega) (by omega) (c := c)
      rwa [List.take_add_one, hx] at this
    · simp only [decide_eq_false_iff_not] at hc
      rw [List.take_of_length_le (by omega)]

theorem get_eq (n : Nat) (hn : 100 < n) {a : Option Pos} {l : Nat} {c : Cap} {s : List UInt8} (hv : Vw X L a l c s) (h : Hp X S L) (hl : s.length ≤ 8) : ev (n + 1) (.fn 77) [.sl a l c] S = some (.int .u64 ((vl s : Nat) : Int), S) := by
  apply ok_eq
  rw [ev, F77 _ _ _ _ _ (oL rfl)]
  simp only [J77, b77_entry, hv.ln]
  exact get_loop n (evF E orcL n) hv.r h hl n 0 (by omega) (by omega)

theorem filled_ok (n : Nat) {s : List UInt8} {a : Option Pos} {l : Nat} {c : Cap} (h : Hp X S (L ++ F)) (hs : SlG a l c 1 (bxs s) L) (hsl : s.length ≤ 384) :
    Ok (ev (n + 1) (.fn 57) [.sl a l c] S) fun v S' => ∃ (a' : Option Pos) (c' : Cap) (L' : List Ent), v = .sl a' (s ++ zz (384 - s.length)).length c' ∧ SlG a' (s ++ zz (384 - s.length)).length c' 1 (bxs (s ++ zz (384 - s.length))) L' ∧ Hp X S' (L' ++ F) := by
  have hl := hs.len
  rw [bxs_len] at hl
  subst hl
  rw [ev, F57 _ _ _ _ _ (oL rfl)]
  simp only [J57, b57_entry]
  exact ok_zeros h hs (k := 384 - s.length) (wz (by omega) (by omega) (by omega)) (by omega) (fun a1 c1 L1 S1 hs1 h1 => ok_ret ⟨a1, c1, L1, rfl, hs1, h1⟩)

theorem clone_ok (n : Nat) (h : Hp X S F) {s : List UInt8} {a : Option Pos} {l : Nat} {c : Cap} (hv : Vw X F a l c s) (hl : s.length ≤ 65536) :
    Ok (ev (n + 1) (.fn 79) [.sl a l c] S) fun v S' => ∃ (a' : Option Pos) (c' : Cap) (L' : List Ent), v = .sl a' s.length c' ∧ SlG a' s.length c' 1 (bxs s) L' ∧ Hp X S' (L' ++ F) := by
  rw [ev, F79 _ _ _ _ _ (oL rfl)]
  simp only [J79, b79_entry]
  have hln := hv.ln
  cases a with
  | none =>
    have ht : s = [] := by
      by_cases hn : ofBytes s = []
      · have := congrArg List.length hn
        exact List.length_eq_zero_iff.1 (by simpa using this)
      · obtain ⟨p, hp⟩ := hv.r.some_of hn; cases hp
    subst ht
    exact ok_true rfl (ok_ret ⟨none, .ex 0, [], rfl, .nil, h⟩)
  | some p =>
    refine ok_false rfl (ok_newA h (fun b1 S1 h1 => ?_))
    have hs : SlG (some (.rw b1, 0)) 0 (.ex 0) 1 (bxs []) [C b1 []] := (SlR.of (xs := []) (by simp) rfl (.inl rfl)).g
    have h1' : Hp X S1 ([C b1 []] ++ F) := h1
    exact ok_bytes h1' hs hv (by simp; omega) (fun a3 c3 L3 S3 ht' h3 => ok_ret ⟨a3, c3, L3, rfl, ht', h3⟩)

theorem eq_loop2 (n0 : Nat) (call : CallA) {a a2 : Option Pos} {c c2 : Cap} {s t : List UInt8} (hr : RdR X L a (ofBytes s)) (hr2 : RdR X L a2 (ofBytes t)) (h : Hp X S L) (hlt : s.length = t.length) (hl : s.length ≤ 65536) : ∀ (m i : Nat) (w : Bool), i ≤ s.length → s.length - i < m →
    Ok (J78_l1_1_0_1_0 call n0 m a s.length c a2 t.length c2 w s.length i S) fun v S' => v = .bool (s.drop i == t.drop i) ∧ S' = S
  | 0, i, w, hi, hm => by omega
  | m + 1, i, w, hi, hm => by
    rw [J78_l1_1_0_1_0_succ]
    simp only [b78_l1_1_0_1_0]
    refine ok_cond (fun hc => ?_) (fun hc => ok_ret ⟨?_, rfl⟩)
    · simp only [decide_eq_true_eq] at hc
      have hi1 : i < s.length := by omega
      have hi2 : i < t.length := by omega
      obtain ⟨p, rfl⟩ := hr.some_of (by intro he; have := congrArg List.length he; simp at this; rw [this] at hi1; simp at hi1)
      obtain ⟨q, rfl⟩ := hr2.some_of (by intro he; have := congrArg List.length he; simp at this; rw [this] at hi2; simp at hi2)
      obtain ⟨x, hx⟩ : ∃ x, s[i]? = some x := ⟨_, List.getElem?_eq_getElem hi1⟩
      obtain ⟨y, hy⟩ : ∃ y, t[i]? = some y := ⟨_, List.getElem?_eq_getElem hi2⟩
      rw [ixSl_at rfl hi1]
      simp only [Nat.mul_one]
      rw [hr.ldI h (k := .u8) (v := (x.toNat : Int)) (by simp [ofBytes, hx]), ixSl_at rfl hi2]
      simp only [Nat.mul_one]
      rw [hr2.ldI h (k := .u8) (v := (y.toNat : Int)) (by simp [ofBytes, hy])]
      have hd1 : s.drop i = x :: s.drop (i + 1) := by
        obtain ⟨hlt', he⟩ := List.getElem?_eq_some_iff.1 hx
        rw [List.drop_eq_getElem_cons hlt', he]
      have hd2 : t.drop i = y :: t.drop (i + 1) := by
        obtain ⟨hlt', he⟩ := List.getElem?_eq_some_iff.1 hy
        rw [List.drop_eq_getElem_cons hlt', he]
      refine ok_cond (fun hx => ok_ret ⟨?_, rfl⟩) (fun hx => ?_)
      · simp only [bne_iff_ne, ne_eq] at hx
        have hxy : x ≠ y := fun he => hx (by rw [he])
        rw [hd1, hd2, List.cons_beq_cons]
        simp [hxy]
      · simp only [bne_eq_false_iff_eq] at hx
        have hxy : x = y := UInt8.toNat.inj (by omega)
        rw [hd1, hd2, hxy, List.cons_beq_cons, beq_self_eq_true, Bool.true_and]
        rw [wn (x := (i : Int) + 1) (n := i + 1) (by omega) (by omega)]
        exact eq_loop2 n0 call hr hr2 h hlt hl m (i + 1) w (by omega) (by omega)
    · simp only [decide_eq_false_iff_not] at hc
      rw [List.drop_of_length_le (by omega), List.drop_of_length_le (by omega)]
      rfl

theorem equal_eq (n : Nat) (hn : 70000 < n) {a a2 : Option Pos} {l l2 : Nat} {c c2 : Cap} {s t : List UInt8} (hv : Vw X L a l c s) (hv2 : Vw X L a2 l2 c2 t) (h : Hp X S L) (hl : s.length ≤ 65536) : ev (n + 1) (.fn 78) [.sl a l c, .sl a2 l2 c2] S = some (.bool (s == t), S) := by
  apply ok_eq
  rw [ev, F78 _ _ _ _ _ _ _ _ (oL rfl)]
  simp only [J78, b78_entry, hv.ln, hv2.ln]
  refine ok_cond (fun hc => ok_ret ⟨?_, rfl⟩) (fun hc => ?_)
  · simp only [bne_iff_ne, ne_eq] at hc
    have : s ≠ t := fun he => hc (by rw [he])
    simp [this]
  · simp only [bne_eq_false_iff_eq] at hc
    have := eq_loop2 n (evF E orcL n) hv.r hv2.r h (by omega) hl n 0 false (by omega) (by omega) (c := c) (c2 := c2)
    rwa [List.drop_zero, List.drop_zero] at this

theorem below_loop (n0 : Nat) (call : CallA) {a : Option Pos} {c : Cap} {ns : List Int} (hr : RdR X L a (ns.map (AV.int .u64))) (h : Hp X S L) (hl : ns.length ≤ 10) : ∀ (m i : Nat) (w : Bool), i ≤ ns.length → ns.length - i < m →
    Ok (J35_l1_0_1_0 call n0 m w a ns.length c ns.length i S) fun v S' => v = .bool ((ns.drop i).all mxB) ∧ S' = S
  | 0, i, w, hi, hm => by omega
  | m + 1, i, w, hi, hm => by
    rw [J35_l1_0_1_0_succ]
    simp only [b35_l1_0_1_0]
    refine ok_cond (fun hc => ?_) (fun hc => ok_ret ⟨?_, rfl⟩)
    · simp only [decide_eq_true_eq] at hc
      have hlt : i < ns.length := by omega
      obtain ⟨p, rfl⟩ := hr.some_of (by intro he; have := congrArg List.length he; simp at this; rw [this] at hlt; simp at hlt)
      obtain ⟨x, hx⟩ : ∃ x, ns[i]? = some x := ⟨_, List.getElem?_eq_getElem hlt⟩
      rw [ixSl_at rfl hlt]
      simp only [Nat.mul_one]
      rw [hr.ldI h (k := .u64) (v := x) (by rw [List.getElem?_map, hx]; rfl)]
      have hd : ns.drop i = x :: ns.drop (i + 1) := by
        obtain ⟨hlt', he⟩ := List.getElem?_eq_some_iff.1 hx
        rw [List.drop_eq_getElem_cons hlt', he]
      rw [hd, List.all_cons]
      refine ok_cond (fun hx => ok_ret ⟨?_, rfl⟩) (fun hx => ?_)
      · simp only [gt_iff_lt, decide_eq_true_eq] at hx
        rw [show mxB x = false by simp [mxB]; omega]; rfl
      · simp only [gt_iff_lt, decide_eq_false_iff_not] at hx
        rw [show mxB x = true by simp [mxB]; omega, Bool.true_and]
        rw [wn (x := (i : Int) + 1) (n := i + 1) (by omega) (by omega)]
        exact below_loop n0 call hr h hl m (i + 1) w (by omega) (by omega)
    · simp only [decide_eq_false_iff_not] at hc
      rw [List.drop_of_length_le (by omega)]
      rfl

theorem below_eq (n : Nat) (hn : 100 < n) {a : Option Pos} {c : Cap} {ns : List Int} (hr : RdR X L a (ns.map (AV.int .u64))) (h : Hp X S L) (hl : ns.length ≤ 10) {l : Nat} (hll : l = ns.length) : ev (n + 1) (.fn 35) [.sl a l c] S = some (.bool (ns.all mxB), S) := by
  subst hll
  apply ok_eq
  rw [ev, F35 _ _ _ _ _ (oL rfl)]
  simp only [J35, b35_entry]
  have := below_loop n (evF E orcL n) hr h hl n 0 false (by omega) (by omega) (c := c)
  rwa [List.drop_zero] at this

end

end Go.Jn
