/- What the functions of package alloc do with a heap: an allocator out of a bitmap. -/
import Derived.Test.YtjninokocidaaaaAlJ
import Derived.Test.YtjninokocidaaaaAlL
set_option linter.unusedVariables false
set_option linter.unusedSimpArgs false
set_option maxRecDepth 4000
namespace Go.Al
open Go.Gr

/-- The first bits of a bitmap, as states. -/
def ldTo (bm : List Nat) (k : Nat) : Nat → List Nat
  | 0 => List.replicate k 0
  | i + 1 => if bitAt bm i = true then (ldTo bm k i).set i 1 else ldTo bm k i
@[simp] theorem ldTo_len (bm : List Nat) (k : Nat) : ∀ i, (ldTo bm k i).length = k
  | 0 => by simp [ldTo]
  | i + 1 => by
    rw [ldTo]
    split <;> simp [ldTo_len bm k i]
theorem ldTo_get (bm : List Nat) (k : Nat) : ∀ i j, j < k → (ldTo bm k i)[j]? = some (if j < i ∧ bitAt bm j = true then 1 else 0)
  | 0, j, hj => by simp [ldTo, hj]
  | i + 1, j, hj => by
    have ih := ldTo_get bm k i j hj
    rw [ldTo]
    split
    · rename_i hb
      rw [List.getElem?_set, ldTo_len]
      by_cases h : i = j
      · subst h; simp [hj, hb]
      · rw [if_neg h, ih]
        by_cases h2 : j < i
        · simp [h2, show j < i + 1 by omega]
        · simp [h2, show ¬ j < i + 1 by omega]
    · rename_i hb
      rw [ih]
      by_cases h : i = j
      · subst h; simp [hb]
      · by_cases h2 : j < i
        · simp [h2, show j < i + 1 by omega]
        · simp [h2, show ¬ j < i + 1 by omega]

def ld (bm : List Nat) (k : Nat) : List Nat := ldTo bm k (8 * bm.length)
@[simp] theorem ld_len (bm : List Nat) (k : Nat) : (ld bm k).length = k := ldTo_len bm k _

theorem bit0 : ∀ (a : Fin 256) (k : Fin 8), (andI .u8 (shrI .u8 (a.val : Int) (k.val : Int)) 1 == 0) = !a.val.testBit k.val := by decide +kernel

/-- A bitmap that fits so many blocks. -/
def fits (bm : List Nat) (k : Nat) : Prop := bm.length = (k + 7) / 8 ∧ ∀ i, k ≤ i → i < 8 * bm.length → bitAt bm i = false

section
variable {X : Cx} {S : AS} {L F : List Ent} {b : Nat} {A : AM} {Q : AV → AS → Prop}

abbrev LoadQ (X : Cx) (F : List Ent) (x : Int) (bm : List Nat) : AV → AS → Prop := fun v S' =>
    (¬ right x ∧ v = .tup [.ptr none, .int .i64 2] ∧ Hp X S' F) ∨
    (right x ∧ ¬ fits bm x.toNat ∧ v = .tup [.ptr none, .int .i64 102] ∧ Hp X S' F) ∨
    (right x ∧ fits bm x.toNat ∧ ∃ b L, v = .tup [.ptr (some (.rw b, 0)), .int .i64 0] ∧ Alloc b ⟨ld bm x.toNat, [], [], 0, 0⟩ L ∧ Hp X S' (L ++ F))

theorem load_loop (n0 n : Nat) {k : Nat} (hk : right (k : Int)) {bm : List Nat} (hb : ∀ y ∈ bm, y < 256) (hl : bm.length = (k + 7) / 8) {a : Option Pos} {c : Cap} (hr : RdR X F a (row .u8 bm)) {b : Nat} :
    ∀ (m i : Nat) (w4 w5 : AV) (L : List Ent) (S : AS), i ≤ 8 * bm.length → 8 * bm.length - i < m → (∀ j, k ≤ j → j < i → bitAt bm j = false) → Alloc b ⟨ldTo bm k i, [], [], 0, 0⟩ L → Hp X S (L ++ F) →
      Ok (J24_l1_1_1_1_0_1_0 (evF E orcL (n + 1)) n0 m k a bm.length c w4 w5 (some (.rw b, 0)) (8 * bm.length : Nat) i S) (LoadQ X F k bm)
  | 0, i, w4, w5, L, S, hi, hm, hz, ha, h => by omega
  | m + 1, i, w4, w5, L, S, hi, hm, hz, ha, h => by
    have hk2 := hk
    unfold right at hk2
    rw [J24_l1_1_1_1_0_1_0_succ]
    simp only [b24_l1_1_1_1_0_1_0]
    refine ok_cond (fun hc => ?_) (fun hc => ?_)
    · simp only [decide_eq_true_eq] at hc
      have hlt : i / 8 < bm.length := by omega
      have hw : IntKind.wrap .i64 (Int.tdiv (i : Int) 8) = ((i / 8 : Nat) : Int) := by rw [tdiv8, wrap64 (by omega) (by omega)]
      obtain ⟨y, hy⟩ : ∃ y, bm[i / 8]? = some y := ⟨_, List.getElem?_eq_getElem hlt⟩
      have hy2 := hb y (List.mem_of_getElem? hy)
      have hrm : RdR X (L ++ F) a (row .u8 bm) := hr.mono (fun e he => by simp [he])
      obtain ⟨p, hp⟩ := hrm.some_of (by intro he; rw [← row_len .u8 bm, he] at hlt; simp at hlt)
      rw [hp] at hrm ⊢
      rw [hw, ixSl_at rfl hlt]
      simp only [Nat.mul_one]
      rw [hrm.ldI h (row_at hy)]
      refine ok_nneg (by rw [tmod8]; omega) ?_
      have e2 := bit0 ⟨y, hy2⟩ ⟨i % 8, Nat.mod_lt _ (by decide)⟩
      simp only at e2
      rw [tmod8, e2]
      have hbit : y.testBit (i % 8) = bitAt bm i := by simp [bitAt, List.getD_eq_getElem?_getD, hy]
      rw [hbit]
      have next : ∀ (L : List Ent) (S : AS), (∀ j, k ≤ j → j < i + 1 → bitAt bm j = false) → Alloc b ⟨ldTo bm k (i + 1), [], [], 0, 0⟩ L → Hp X S (L ++ F) →
          Ok (J24_j1_1_1_1_0_1_0_0_1_1_1 (evF E orcL (n + 1)) n0 (J24_l1_1_1_1_0_1_0 (evF E orcL (n + 1)) n0 m) k (some p) bm.length c (some (.rw b, 0)) (8 * bm.length : Nat) i S) (LoadQ X F k bm) := by
        intro L S e1 e2 e3
        simp only [J24_j1_1_1_1_0_1_0_0_1_1_1, b24_j1_1_1_1_0_1_0_0_1_1_1]
        rw [wn (x := (i : Int) + 1) (n := i + 1) (by omega) (by omega)]
        rw [← hp]
        exact load_loop n0 n hk hb hl hr m (i + 1) .undef .undef L S (by omega) (by omega) e1 e2 e3
      refine ok_cond (fun hbt => ?_) (fun hbt => ?_)
      · simp only [Bool.not_eq_true'] at hbt
        refine next L S (fun j h1 h2 => ?_) (by rw [ldTo, if_neg (by simp [hbt])]; exact ha) h
        by_cases e : j = i
        · rw [e]; exact hbt
        · exact hz j h1 (by omega)
      · simp only [Bool.not_eq_false'] at hbt
        refine ok_cond (fun hge => ?_) (fun hge => ?_)
        · simp only [ge_iff_le, decide_eq_true_eq] at hge
          refine ok_ret (.inr (.inl ⟨hk, fun hf => ?_, rfl, h.sub (List.sublist_append_right _ _)⟩))
          have := hf.2 i (by simp; omega) (by omega)
          rw [hbt] at this
          cases this
        · simp only [ge_iff_le, decide_eq_false_iff_not] at hge
          obtain ⟨v, S1, e, rfl, L1, ha1, h1, _⟩ := set_ok n h ha (i := i) (x := 1) (by simp; omega) (by omega) (ii := i) (xi := 1) rfl rfl
          rw [callT_of e]
          refine next L1 S1 (fun j h1 h2 => ?_) (by rw [ldTo, if_pos hbt]; exact ha1) h1
          by_cases e : j = i
          · omega
          · exact hz j h1 (by omega)
    · simp only [decide_eq_false_iff_not] at hc
      obtain rfl : i = 8 * bm.length := by omega
      simp only [J24_j1_1_1_1_1, b24_j1_1_1_1_1]
      exact ok_ret (.inr (.inr ⟨hk, ⟨by simpa using hl, fun j h1 h2 => hz j (by simpa using h1) h2⟩, b, L, rfl, by simpa [ld] using ha, h⟩))

theorem load_ok (n : Nat) (hn : 1000000 < n) (h : Hp X S F) {bm : List Nat} (hb : ∀ y ∈ bm, y < 256) (hbl : bm.length ≤ 65536) {a : Option Pos} {c : Cap} (hr : RdR X F a (row .u8 bm)) (x : Int) :
    Ok (ev (n + 3) (.fn 24) [.int .i64 x, .sl a bm.length c] S) (LoadQ X F x bm) := by
  rw [ev, F24 _ _ _ _ _ _ (oL rfl)]
  simp only [J24, b24_entry]
  obtain ⟨v, S1, e, hA⟩ : Ok (evF E orcL (n + 2) (.fn 10) [.int .i64 x] S) _ := new_ok (n + 1) h x
  rcases hA with ⟨hx, rfl, rfl⟩ | ⟨hx, b, L, rfl, ha, h1⟩
  · rw [callT_of e]
    exact ok_atP rfl (ok_atI rfl (ok_true rfl (ok_ret (.inl ⟨hx, rfl, h⟩))))
  · rw [callT_of e]
    refine ok_atP rfl (ok_atI rfl (ok_false rfl ?_))
    have hx2 := hx
    unfold right at hx2
    obtain ⟨k, rfl⟩ : ∃ k : Nat, x = (k : Int) := ⟨x.toNat, by omega⟩
    rw [wrap64 (n := ((k : Nat) : Int) + 7) (by omega) (by omega), show ((k : Nat) : Int) + 7 = ((k + 7 : Nat) : Int) by omega, tdiv8, wrap64 (by omega) (by omega)]
    refine ok_cond (fun hc => ?_) (fun hc => ?_)
    · simp only [bne_iff_ne, ne_eq] at hc
      exact ok_ret (.inr (.inl ⟨hx, fun hf => hc (by have := hf.1; simp at this; omega), rfl, h1.sub (List.sublist_append_right _ _)⟩))
    · simp only [bne_eq_false_iff_eq] at hc
      rw [wn (x := 8 * ((bm.length : Nat) : Int)) (n := 8 * bm.length) (by omega) (by omega)]
      exact load_loop (n + 2) (n + 1) hx hb (by omega) hr (n + 2) 0 _ _ L S1 (by omega) (by omega) (by omega) ha h1

end

/-- The bitmap tells just which blocks are used. -/
theorem bits_used {s s' : List Nat} (hl : s.length = s'.length) (h : ∀ i : Nat, (s[i]? = some 1 ∨ s[i]? = some 3) ↔ (s'[i]? = some 1 ∨ s'[i]? = some 3)) : bits s = bits s' := by
  have : ∀ i, bitsTo s i = bitsTo s' i := by
    intro i
    induction i with
    | zero => simp [bitsTo, hl]
    | succ i ih =>
      simp only [bitsTo, ih]
      simp only [h i]
  rw [bits, bits, hl, this]

theorem fits_bits (s : List Nat) : fits (bits s) s.length := by
  refine ⟨bits_len s, fun i hi _ => ?_⟩
  rw [bits, bitAt_bitsTo s _ (Nat.le_refl _)]
  simp only [decide_eq_false_iff_not]
  omega

theorem ld_bits {s : List Nat} {i : Nat} (hi : i < s.length) : (ld (bits s) s.length)[i]? = some (if s[i]? = some 1 ∨ s[i]? = some 3 then 1 else 0) := by
  rw [ld, ldTo_get _ _ _ _ hi, bits, bitAt_bitsTo s _ (Nat.le_refl _)]
  have h8 : i < 8 * (bitsTo s s.length).length := by rw [bitsTo_len]; omega
  simp [hi, h8]

end Go.Al

namespace Go.Al
open Go.Gr

section
variable {X : Cx} {S : AS} {L F : List Ent} {b : Nat} {A : AM} {Q : AV → AS → Prop}

theorem state_at {A : AM} {i y : Nat} (hy : A.s[i]? = some y) : A.state i = (y : Int) := by
  have hlt := (List.getElem?_eq_some_iff.1 hy).1
  unfold AM.state
  rw [if_pos ⟨by omega, by omega⟩]
  simp [List.getD_eq_getElem?_getD, hy]

theorem abort_at (hw : A.WF) {i y : Nat} (hy : A.s[i]? = some y) : A.abort.s[i]? = some (if y = 3 then 1 else if y = 2 then 0 else y) := by
  have hlt := (List.getElem?_eq_some_iff.1 hy).1
  rw [AM.abort_get A i hlt]
  have ht := hw.ti i
  have hg := hw.gi i
  rw [hy] at ht hg
  simp only [Option.some.injEq] at ht hg
  by_cases h3 : y = 3
  · rw [if_pos (hg.2 h3), if_pos h3]
  · rw [if_neg (fun e => h3 (hg.1 e)), if_neg h3]
    by_cases h2 : y = 2
    · rw [if_pos (ht.2 h2), if_pos h2]
    · rw [if_neg (fun e => h2 (ht.1 e)), if_neg h2, hy]

theorem back_bits (hw : A.WF) : bits A.abort.s = bits (ld (bits A.s) A.s.length) := by
  refine bits_used (by simp) (fun i => ?_)
  by_cases hi : i < A.s.length
  · obtain ⟨y, hy⟩ : ∃ y, A.s[i]? = some y := ⟨_, List.getElem?_eq_getElem hi⟩
    rw [abort_at hw hy, ld_bits hi, hy]
    by_cases h3 : y = 3
    · simp [h3]
    · by_cases h2 : y = 2
      · simp [h2]
      · by_cases h1 : y = 1
        · simp [h1]
        · simp [h1, h2, h3]
  · rw [List.getElem?_eq_none (by simpa using Nat.le_of_not_lt hi), List.getElem?_eq_none (by simpa using Nat.le_of_not_lt hi)]

theorem back_end (n0 n : Nat) (hn : 70000 < n) {b1 b2 : Nat} {A B : AM} {L1 L2 : List Ent} (hl : A.s.length ≤ 200) (hll : B.s.length = A.s.length) (ht : A.t = []) (hg : A.g = []) (hbb : bits A.s = bits B.s) (ha : Alloc b1 A L1) (hb : Alloc b2 B L2) (h : Hp X S (L1 ++ (L2 ++ F))) :
    Ok (J6_j1_1_1_1_1_1_1_1_1 (evF E orcL (n + 2)) n0 (some (.rw b1, 0)) (some (.rw b2, 0)) S) TrueQ := by
  simp only [J6_j1_1_1_1_1_1_1_1_1, b6_j1_1_1_1_1_1_1_1_1]
  obtain ⟨v, S1, e, c1, rfl, h1⟩ : Ok (evF E orcL (n + 2) (.fn 16) [.ptr (some (.rw b1, 0))] S) _ := bitmap_ok (n + 1) (by omega) h ha
  rw [callL_of e]
  have h1' : Hp X S1 (L2 ++ (C c1 (row .u8 (bits A.s)) :: (L1 ++ F))) := h1.re (by intro p; simp only [List.countP_append, List.countP_cons, C]; omega)
  obtain ⟨v, S2, e, c2, rfl, h2⟩ : Ok (evF E orcL (n + 2) (.fn 16) [.ptr (some (.rw b2, 0))] S1) _ := bitmap_ok (n + 1) (by omega) h1' hb
  have hA := toB_of (l := bits A.s) (fun z hz => bitsTo_lt A.s _ z hz)
  have hlA : ((A.s.length + 7) / 8) = (toB (bits A.s)).length := by simp [toB, bits_len]
  rw [hll] at e
  rw [← hbb] at h2
  have r1 : RdR X (C c1 (row .u8 (bits A.s)) :: (L1 ++ (L2 ++ F))) (some (.rw c1, 0)) (ofBytes (toB (bits A.s))) := .rw (c := row .u8 (bits A.s)) (by simp) (by simp [toB]) (by rw [hA, List.drop_zero, row_len]; exact List.take_of_length_le (by simp))
  have r2 : RdR X (C c2 (row .u8 (bits A.s)) :: (L2 ++ (C c1 (row .u8 (bits A.s)) :: (L1 ++ F)))) (some (.rw c1, 0)) (ofBytes (toB (bits A.s))) := .rw (c := row .u8 (bits A.s)) (by simp) (by simp [toB]) (by rw [hA, List.drop_zero, row_len]; exact List.take_of_length_le (by simp))
  have r3 : RdR X (C c2 (row .u8 (bits A.s)) :: (L2 ++ (C c1 (row .u8 (bits A.s)) :: (L1 ++ F)))) (some (.rw c2, 0)) (ofBytes (toB (bits A.s))) := .rw (c := row .u8 (bits A.s)) (by simp) (by simp [toB]) (by rw [hA, List.drop_zero, row_len]; exact List.take_of_length_le (by simp))
  rw [bytesStr_of r1 h1 hlA, callL_of e, bytesStr_of r2 h2 hlA, bytesStr_of r3 h2 hlA]
  refine ok_true (by simp [AV.beq]) (ok_true (by simp) ?_)
  have h3 : Hp X S2 (L1 ++ (C c2 (row .u8 (bits A.s)) :: (L2 ++ (C c1 (row .u8 (bits A.s)) :: F)))) := h2.re (by intro p; simp only [List.countP_append, List.countP_cons, C]; omega)
  obtain ⟨v, S4, e, at_, ct, Ld, rfl, hs4, h4⟩ := taken_ok n h3 ha (by simp [ht])
  rw [callL_of e, ht]
  refine ok_true (by simp) ?_
  have h4' : Hp X S4 (L1 ++ (Ld ++ (C c2 (row .u8 (bits A.s)) :: (L2 ++ (C c1 (row .u8 (bits A.s)) :: F))))) := h4.re (by intro p; simp only [List.countP_append, List.countP_cons, C]; omega)
  obtain ⟨v, S5, e, ag, cg, Lg, rfl, hs5, h5⟩ := given_ok n h4' ha (by simp [hg])
  rw [callL_of e, hg]
  exact ok_true (by simp) (live_ok (n + 1) S5)

theorem back_loop2 (n0 n : Nat) (hn : 70000 < n) {b1 b2 : Nat} {A : AM} {L1 L2 : List Ent} (hw : A.WF) {x : Nat} (hx : A.s.length = x) (hl : x ≤ 200) (ha : Alloc b1 A.abort L1) (hb : Alloc b2 ⟨ld (bits A.s) A.s.length, [], [], 0, 0⟩ L2) (h : Hp X S (L1 ++ (L2 ++ F))) :
    ∀ (m i : Nat) (w : AV), i ≤ x → x - i < m → Ok (J6_l1_1_1_1_1_1_1_1_0_1_0 (evF E orcL (n + 2)) n0 m x w (some (.rw b1, 0)) (some (.rw b2, 0)) i S) TrueQ
  | 0, i, w, hi, hm => by omega
  | m + 1, i, w, hi, hm => by
    rw [J6_l1_1_1_1_1_1_1_1_0_1_0_succ]
    simp only [b6_l1_1_1_1_1_1_1_1_0_1_0]
    refine ok_cond (fun hc => ?_) (fun hc => ?_)
    · simp only [decide_eq_true_eq] at hc
      have hlt : i < A.s.length := by omega
      obtain ⟨y, hy⟩ : ∃ y, A.s[i]? = some y := ⟨_, List.getElem?_eq_getElem hlt⟩
      have h' : Hp X S (L2 ++ (L1 ++ F)) := h.re (by intro p; simp only [List.countP_append]; omega)
      have e1 := state_eq n h ha i
      have e2 := state_eq n h' hb i
      rw [state_at (abort_at hw hy)] at e1
      rw [state_at (ld_bits hlt), hy] at e2
      rw [callI_of e1, callI_of e2, callI_of e1, callI_of e2, wn (x := (i : Int) + 1) (n := i + 1) (by omega) (by omega)]
      have ih := fun w => back_loop2 n0 n hn hw hx hl ha hb h m (i + 1) w (by omega) (by omega)
      simp only [Option.some.injEq]
      by_cases h3 : y = 3
      · subst h3; exact ok_false (by simp) (ih _)
      by_cases h2 : y = 2
      · subst h2; exact ok_false (by simp) (ih _)
      by_cases h1 : y = 1
      · subst h1; exact ok_false (by simp) (ih _)
      by_cases h0 : y = 0
      · subst h0; exact ok_false (by simp) (ih _)
      have h4 : y = 4 := by have := hw.st y (List.mem_of_getElem? hy); omega
      subst h4
      exact ok_true (by simp) (ok_false (by simp) (ok_false (by simp) (ih _)))
    · simp only [decide_eq_false_iff_not] at hc
      exact back_end n0 n hn (by simp; omega) (by simp) rfl rfl (back_bits hw) ha hb h

theorem back_loop1 (n0 n : Nat) {b1 b2 : Nat} {A : AM} {L1 L2 : List Ent} (hw : A.WF) {x : Nat} (hx : A.s.length = x) (hl : x ≤ 200) (ha : Alloc b1 A L1) (hb : Alloc b2 ⟨ld (bits A.s) A.s.length, [], [], 0, 0⟩ L2) (h : Hp X S (L1 ++ (L2 ++ F)))
    (ht : Ok (J6_j1_1_1_1_1_1_1 (evF E orcL (n + 2)) n0 x (some (.rw b1, 0)) (some (.rw b2, 0)) S) Q) :
    ∀ (m i : Nat) (w : Bool), i ≤ x → x - i < m → Ok (J6_l1_1_1_1_1_1_0_1_0 (evF E orcL (n + 2)) n0 m x w (some (.rw b1, 0)) (some (.rw b2, 0)) i S) Q
  | 0, i, w, hi, hm => by omega
  | m + 1, i, w, hi, hm => by
    rw [J6_l1_1_1_1_1_1_0_1_0_succ]
    simp only [b6_l1_1_1_1_1_1_0_1_0]
    refine ok_cond (fun hc => ?_) (fun hc => ht)
    simp only [decide_eq_true_eq] at hc
    have hlt : i < A.s.length := by omega
    obtain ⟨y, hy⟩ : ∃ y, A.s[i]? = some y := ⟨_, List.getElem?_eq_getElem hlt⟩
    have h' : Hp X S (L2 ++ (L1 ++ F)) := h.re (by intro p; simp only [List.countP_append]; omega)
    have e1 := state_eq n h ha i
    have e2 := state_eq n h' hb i
    rw [state_at hy] at e1
    rw [state_at (ld_bits hlt), hy] at e2
    rw [callI_of e1, callI_of e2, callI_of e2, callI_of e2, callI_of e2, wn (x := (i : Int) + 1) (n := i + 1) (by omega) (by omega)]
    have ih := fun w => back_loop1 n0 n hw hx hl ha hb h ht m (i + 1) w (by omega) (by omega)
    simp only [Option.some.injEq]
    by_cases h1 : y = 1
    · subst h1; exact ok_true (by simp) (ok_false (by simp) (ok_false (by simp) (ih _)))
    refine ok_false (by simp; omega) ?_
    by_cases h3 : y = 3
    · subst h3; exact ok_false (by simp) (ok_false (by simp) (ih _))
    · have h3' : ((y : Int) == 3) = false := by simp; omega
      simp only [h1, h3, or_false, if_false, h3']
      exact ok_false (by simp) (ok_false (by simp) (ih _))

theorem back_run (n : Nat) (hn : 1000000 < n) (h : Hp X S F) {a : Option Pos} {c : Cap} {acts : List (Int × Int)} (hac : ActsR X a acts) (x : Int) :
    Ok (ev (n + 304) (.fn 6) [.int .i64 x, .sl a acts.length c] S) TrueQ := by
  rw [ev, F6 _ _ _ _ _ _ (oL rfl)]
  simp only [J6, b6_entry]
  refine ok_cond (fun _ => live_ok (n + 302) S) (fun c1 => ok_cond (fun _ => live_ok (n + 302) S) (fun c2 => ?_))
  simp only [gt_iff_lt, decide_eq_false_iff_not] at c1 c2
  obtain ⟨v, S3, e, hB⟩ := begun_ok n hn h (x := x) (by omega) (c := c) hac (by omega)
  rcases hB with ⟨hx, rfl, h3⟩ | ⟨hx, b, A, L, M, rfl, hal, hw, hl, hh, hpl, h3⟩
  · rw [callP_of e]
    refine ok_true rfl (ok_true ?_ (live_ok (n + 302) S3))
    unfold right at hx
    simp only [decide_eq_true_eq]; omega
  · rw [callP_of e]
    refine ok_false rfl ?_
    have hx2 := hx
    unfold right at hx2
    obtain ⟨k, rfl⟩ : ∃ k : Nat, x = (k : Int) := ⟨x.toNat, by omega⟩
    rw [Int.toNat_natCast] at hl
    obtain ⟨v, S4, e, bm, rfl, h4⟩ : Ok (evF E orcL (n + 303) (.fn 16) [.ptr (some (.rw b, 0))] S3) _ := bitmap_ok (n + 302) (by omega) h3 hal
    rw [callL_of e]
    have hlen : (A.s.length + 7) / 8 = (bits A.s).length := by rw [bits_len]
    rw [hlen]
    have rd : RdR X (C bm (row .u8 (bits A.s)) :: (L ++ (M ++ F))) (some (.rw bm, 0)) (row .u8 (bits A.s)) := .rw (c := row .u8 (bits A.s)) (by simp) (by simp) (by rw [List.drop_zero, List.take_length])
    obtain ⟨v, S5, e, hLd⟩ : Ok (evF E orcL (n + 303) (.fn 24) [.int .i64 (k : Nat), .sl (some (.rw bm, 0)) (bits A.s).length (.ex (bits A.s).length)] S4) _ := load_ok (n + 300) (by omega) h4 (bm := bits A.s) (fun z hz => bitsTo_lt A.s _ z hz) (by rw [bits_len]; omega) rd (k : Nat)
    rcases hLd with ⟨hx, _, _⟩ | ⟨_, hf, _⟩ | ⟨_, _, b2, L2, rfl, hb, h5⟩
    · exact absurd ‹right _› ‹¬ right _›
    · exact absurd (by have := fits_bits A.s; rw [hl] at this; simpa using this) hf
    · rw [callT_of e]
      refine ok_atP rfl (ok_atI rfl ?_)
      rw [callI_of (num_eq (n + 302) 0 S5)]
      refine ok_false rfl (ok_false rfl ?_)
      rw [callI_of (show evF E orcL (n + 303) (.fn 23) [.ptr (some (.rw b2, 0))] S5 = _ from reserved_eq (n + 302) h5 hb)]
      refine ok_false rfl ?_
      have hkl : (k : Int).toNat = A.s.length := by rw [Int.toNat_natCast, hl]
      rw [hkl] at hb
      have h6 : Hp X S5 (L ++ (L2 ++ (C bm (row .u8 (bits A.s)) :: (M ++ F)))) := h5.re (by intro p; simp only [List.countP_append, List.countP_cons, C]; omega)
      refine back_loop1 (n + 303) (n + 301) hw hl (by omega) hal hb h6 ?_ (n + 303) 0 false (by omega) (by omega)
      simp only [J6_j1_1_1_1_1_1_1, b6_j1_1_1_1_1_1_1]
      obtain ⟨v, S7, e, rfl, L1, M1, ha1, h7⟩ : Ok (evF E orcL (n + 303) (.fn 25) [.ptr (some (.rw b, 0))] S5) _ := abort_ok (n + 300) (by omega) h6 hal hw
      rw [callT_of e]
      exact back_loop2 (n + 303) (n + 301) (by omega) hw hl (by omega) ha1 hb (h7.re (M := L1 ++ (L2 ++ (M1 ++ (C bm (row .u8 (bits A.s)) :: (M ++ F))))) (by intro p; simp only [List.countP_append, List.countP_cons, C]; omega)) (n + 303) 0 .undef (by omega) (by omega)

end

end Go.Al
