/- What the document's codec of a journal does with a heap: the same as the program's. -/
import Derived.Test.YtefpcbcbjnfhnaaJnU
set_option linter.unusedVariables false
set_option linter.unusedSimpArgs false
set_option maxRecDepth 4000
namespace Go.Jn
open Go.Gr

section
variable {X : Cx} {S : AS} {L F : List Ent} {b : Nat} {Q : AV → AS → Prop}

theorem be_succ (m x : Nat) : be (m + 1) x = UInt8.ofNat (x / 256 ^ m) :: be m x := rfl

theorem rput_loop (n0 : Nat) (call : CallA) {x : Nat} : ∀ (m i : Nat) (s : List UInt8) (a : Option Pos) (l : Nat) (c : Cap) (L : List Ent) (S : AS), i ≤ 8 → i < m → s.length + i ≤ 1048576 → SlG a l c 1 (bxs s) L → Hp X S (L ++ F) →
    Ok (J42_l1_0_1_0 call n0 m a l c (x : Int) ((i : Int) - 1) S) fun v S' => ∃ (a' : Option Pos) (c' : Cap) (L' : List Ent), v = .sl a' (s ++ be i x).length c' ∧ SlG a' (s ++ be i x).length c' 1 (bxs (s ++ be i x)) L' ∧ Hp X S' (L' ++ F)
  | 0, i, s, a, l, c, L, S, hi, hm, hl, hs, h => by omega
  | m + 1, i, s, a, l, c, L, S, hi, hm, hl, hs, h => by
    have hln := hs.len
    rw [bxs_len] at hln
    rw [J42_l1_0_1_0_succ]
    simp only [b42_l1_0_1_0]
    cases i with
    | zero =>
      refine ok_false (by simp) (ok_ret ⟨a, c, L, ?_, ?_, h⟩)
      · simp [be, hln]
      · simpa [be, hln] using hs
    | succ i =>
      have hw : ((i + 1 : Nat) : Int) - 1 = (i : Nat) := by omega
      rw [hw, wn (x := (8 : Int) * ((i : Nat) : Int)) (n := 8 * i) (by omega) (by omega), wu64 (n := ((8 * i : Nat) : Int)) (by omega) (by omega)]
      rw [shrk (show i < 8 by omega) rfl, wu8]
      refine ok_true (by simp) (ok_nneg (by omega) (ok_newA h (fun b1 S1 h1 => ?_)))
      have h1' : Hp X S1 (L ++ (C b1 (ofBytes [UInt8.ofNat (x / 256 ^ i)]) :: F)) := h1.re (by intro p; simp only [List.countP_append, List.countP_cons, C, ofBytes, List.map_cons, List.map_nil]; omega)
      have hv : Vw X (C b1 (ofBytes [UInt8.ofNat (x / 256 ^ i)]) :: F) (some (.rw b1, 0)) 1 (.ex 1) [UInt8.ofNat (x / 256 ^ i)] := ⟨.rw (c := ofBytes [UInt8.ofNat (x / 256 ^ i)]) List.mem_cons_self (by simp) rfl, rfl, 1, .inl rfl, Nat.le_refl _⟩
      refine ok_bytes h1' hs hv (by simp; omega) (fun a3 c3 L3 S3 hs3 h3 => ?_)
      rw [wz (z := (i : Int) - 1) rfl (by omega) (by omega)]
      have := rput_loop (x := x) n0 call m i (s ++ [UInt8.ofNat (x / 256 ^ i)]) a3 _ c3 L3 S3 (by omega) (by omega) (by simp; omega) hs3 (h3.re (M := C b1 (ofBytes [UInt8.ofNat (x / 256 ^ i)]) :: (L3 ++ F)) (by intro p; simp only [List.countP_append, List.countP_cons, C]; omega)).drop1
      rw [List.append_assoc, List.singleton_append, ← be_succ] at this
      exact this

theorem rput_ok (n : Nat) (hn : 100 < n) {s : List UInt8} {a : Option Pos} {l : Nat} {c : Cap} (h : Hp X S (L ++ F)) (hs : SlG a l c 1 (bxs s) L) (hsl : s.length ≤ 65536) {x : Nat} {xi : Int} (hxi : xi = x) {k : Nat} (hk : k ≤ 8) {ki : Int} (hki : ki = k) :
    Ok (ev (n + 1) (.fn 42) [.sl a l c, .int .u64 xi, .int .i64 ki] S) fun v S' => ∃ (a' : Option Pos) (c' : Cap) (L' : List Ent), v = .sl a' (s ++ be k x).length c' ∧ SlG a' (s ++ be k x).length c' 1 (bxs (s ++ be k x)) L' ∧ Hp X S' (L' ++ F) := by
  subst hki
  subst hxi
  rw [ev, F42 _ _ _ _ _ _ _ (oL rfl)]
  simp only [J42, b42_entry]
  rw [wz (z := (k : Int) - 1) rfl (by omega) (by omega)]
  exact rput_loop n (evF E orcL n) n k s a l c L S hk (by omega) (by omega) hs h

theorem rfilled_ok (n : Nat) {s : List UInt8} {a : Option Pos} {l : Nat} {c : Cap} (h : Hp X S (L ++ F)) (hs : SlG a l c 1 (bxs s) L) (hsl : s.length ≤ 384) :
    Ok (ev (n + 1) (.fn 43) [.sl a l c] S) fun v S' => ∃ (a' : Option Pos) (c' : Cap) (L' : List Ent), v = .sl a' (s ++ zz (384 - s.length)).length c' ∧ SlG a' (s ++ zz (384 - s.length)).length c' 1 (bxs (s ++ zz (384 - s.length))) L' ∧ Hp X S' (L' ++ F) := by
  have hl := hs.len
  rw [bxs_len] at hl
  subst hl
  rw [ev, F43 _ _ _ _ _ (oL rfl)]
  simp only [J43, b43_entry]
  exact ok_zeros h hs (k := 384 - s.length) (wz (by omega) (by omega) (by omega)) (by omega) (fun a1 c1 L1 S1 hs1 h1 => ok_ret ⟨a1, c1, L1, rfl, hs1, h1⟩)

theorem number_loop (n0 : Nat) (call : CallA) {a : Option Pos} {c : Cap} {s : List UInt8} {at_ k : Nat} (hr : RdR X L a (ofBytes s)) (h : Hp X S L) (hl : s.length ≤ 1048576) (hk : k ≤ 8) (hat : at_ + k ≤ s.length) : ∀ (m i : Nat), i ≤ k → k - i < m →
    Ok (J47_l1_1_0_1_0 call n0 m a s.length c at_ k ((vl (win8 s at_ i) : Nat) : Int) i S) fun v S' => v = .int .u64 ((vl (win8 s at_ k) : Nat) : Int) ∧ S' = S
  | 0, i, hi, hm => by omega
  | m + 1, i, hi, hm => by
    rw [J47_l1_1_0_1_0_succ]
    simp only [b47_l1_1_0_1_0]
    refine ok_cond (fun hc => ?_) (fun hc => ok_ret ⟨?_, rfl⟩)
    · simp only [decide_eq_true_eq] at hc
      have hlt : at_ + i < s.length := by omega
      obtain ⟨p, rfl⟩ := hr.some_of (by intro he; have := congrArg List.length he; simp at this; rw [this] at hlt; simp at hlt)
      obtain ⟨x, hx⟩ : ∃ x, s[at_ + i]? = some x := ⟨_, List.getElem?_eq_getElem hlt⟩
      rw [wn (x := ((at_ : Nat) : Int) + ((i : Nat) : Int)) (n := at_ + i) (by omega) (by omega), ixSl_at rfl hlt]
      simp only [Nat.mul_one]
      rw [hr.ldI h (k := .u8) (v := (x.toNat : Int)) (by simp [ofBytes, hx])]
      have hv : vl (win8 s at_ i) < 72057594037927936 := by
        refine Nat.lt_of_lt_of_le (vl_lt _) (Nat.le_trans (Nat.pow_le_pow_right (by decide) (?_ : _ ≤ 7)) (by decide))
        simp [win8]; omega
      rw [wn (x := (i : Int) + 1) (n := i + 1) (by omega) (by omega), or8 x hv, ← vl_snoc]
      have e : win8 s at_ i ++ [x] = win8 s at_ (i + 1) := by
        rw [win8, win8, List.take_add_one, List.getElem?_drop, hx]; rfl
      rw [e]
      exact number_loop n0 call hr h hl hk hat m (i + 1) (by omega) (by omega)
    · simp only [decide_eq_false_iff_not] at hc
      have : i = k := by omega
      subst this; rfl

theorem number_eq (n : Nat) (hn : 100 < n) {a : Option Pos} {l : Nat} {c : Cap} {s : List UInt8} {at_ k : Nat} {xi ki : Int} (hx : xi = at_) (hki : ki = k) (hv : Vw X L a l c s) (h : Hp X S L) (hl : s.length ≤ 1048576) (hk : k ≤ 8) (hat : at_ + k ≤ s.length) : ev (n + 1) (.fn 47) [.sl a l c, .int .i64 xi, .int .i64 ki] S = some (.int .u64 ((vl (win8 s at_ k) : Nat) : Int), S) := by
  subst hx; subst hki
  apply ok_eq
  rw [ev, F47 _ _ _ _ _ _ _ (oL rfl)]
  simp only [J47, b47_entry, hv.ln]
  have := number_loop (at_ := at_) (k := k) (c := c) n (evF E orcL n) hv.r h hl hk hat n 0 (by omega) (by omega)
  simpa [win8, vl, vlF] using this

end

end Go.Jn
