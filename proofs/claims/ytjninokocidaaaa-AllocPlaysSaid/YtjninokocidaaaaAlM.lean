/- What the functions of package alloc do with a heap: an allocator out of a bitmap. -/
import Derived.Test.YtjninokocidaaaaAlJ
import Derived.Test.YtjninokocidaaaaAlL
set_option linter.unusedVariables false
set_option linter.unusedSimpArgs false
set_option maxRecDepth 4000
namespace Go.Al
open Go.Gr

/-- The first bits of a bitmap, as states. -/
def ldTo (bm : List Nat) (k : Nat) : Nat → List Nat
  | 0 => List.replicate k 0
  | i + 1 => if bitAt bm i = true then (ldTo bm k i).set i 1 else ldTo bm k i
@[simp] theorem ldTo_len (bm : List Nat) (k : Nat) : ∀ i, (ldTo bm k i).length = k
  | 0 => by simp [ldTo]
  | i + 1 => by
    rw [ldTo]
    split <;> simp [ldTo_len bm k i]
theorem ldTo_get (bm : List Nat) (k : Nat) : ∀ i j, j < k → (ldTo bm k i)[j]? = some (if j < i ∧ bitAt bm j = true then 1 else 0)
  | 0, j, hj => by simp [ldTo, hj]
  | i + 1, j, hj => by
    have ih := ldTo_get bm k i j hj
    rw [ldTo]
    split
    · rename_i hb
      rw [List.getElem?_set, ldTo_len]
      by_cases h : i = j
      · subst h; simp [hj, hb]
      · rw [if_neg h, ih]
        by_cases h2 : j < i
        · simp [h2, show j < i + 1 by omega]
        · simp [h2, show ¬ j < i + 1 by omega]
    · rename_i hb
      rw [ih]
      by_cases h : i = j
      · subst h; simp [hb]
      · by_cases h2 : j < i
        · simp [h2, show j < i + 1 by omega]
        · simp [h2, show ¬ j < i + 1 by omega]

def ld (bm : List Nat) (k : Nat) : List Nat := ldTo bm k (8 * bm.length)
@[simp] theorem ld_len (bm : List Nat) (k : Nat) : (ld bm k).length = k := ldTo_len bm k _

theorem bit0 : ∀ (a : Fin 256) (k : Fin 8), (andI .u8 (shrI .u8 (a.val : Int) (k.val : Int)) 1 == 0) = !a.val.testBit k.val := by decide +kernel

/-- A bitmap that fits so many blocks. -/
def fits (bm : List Nat) (k : Nat) : Prop := bm.length = (k + 7) / 8 ∧ ∀ i, k ≤ i → i < 8 * bm.length → bitAt bm i = false

section
variable {X : Cx} {S : AS} {L F : List Ent} {b : Nat} {A : AM} {Q : AV → AS → Prop}

abbrev LoadQ (X : Cx) (F : List Ent) (x : Int) (bm : List Nat) : AV → AS → Prop := fun v S' =>
    (¬ right x ∧ v = .tup [.ptr none, .int .i64 2] ∧ Hp X S' F) ∨
    (right x ∧ ¬ fits bm x.toNat ∧ v = .tup [.ptr none, .int .i64 102] ∧ Hp X S' F) ∨
    (right x ∧ fits bm x.toNat ∧ ∃ b L, v = .tup [.ptr (some (.rw b, 0)), .int .i64 0] ∧ Alloc b ⟨ld bm x.toNat, [], [], 0, 0⟩ L ∧ Hp X S' (L ++ F))

theorem load_loop (n0 n : Nat) {k : Nat} (hk : right (k : Int)) {bm : List Nat} (hb : ∀ y ∈ bm, y < 256) (hl : bm.length = (k + 7) / 8) {a : Option Pos} {c : Cap} (hr : RdR X F a (row .u8 bm)) {b : Nat} :
    ∀ (m i : Nat) (w4 w5 : AV) (L : List Ent) (S : AS), i ≤ 8 * bm.length → 8 * bm.length - i < m → (∀ j, k ≤ j → j < i → bitAt bm j = false) → Alloc b ⟨ldTo bm k i, [], [], 0, 0⟩ L → Hp X S (L ++ F) →
      Ok (J24_l1_1_1_1_0_1_0 (evF E orcL (n + 1)) n0 m k a bm.length c w4 w5 (some (.rw b, 0)) (8 * bm.length : Nat) i S) (LoadQ X F k bm)
  | 0, i, w4, w5, L, S, hi, hm, hz, ha, h => by omega
  | m + 1, i, w4, w5, L, S, hi, hm, hz, ha, h => by
    have hk2 := hk
    unfold right at hk2
    rw [J24_l1_1_1_1_0_1_0_succ]
    simp only [b24_l1_1_1_1_0_1_0]
    refine ok_cond (fun hc => ?_) (fun hc => ?_)
    · simp only [decide_eq_true_eq] at hc
      have hlt : i / 8 < bm.length := by omega
      have hw : IntKind.wrap .i64 (Int.tdiv (i : Int) 8) = ((i / 8 : Nat) : Int) := by rw [tdiv8, wrap64 (by omega) (by omega)]
      obtain ⟨y, hy⟩ : ∃ y, bm[i / 8]? = some y := ⟨_, List.getElem?_eq_getElem hlt⟩
      have hy2 := hb y (List.mem_of_getElem? hy)
      have hrm : RdR X (L ++ F) a (row .u8 bm) := hr.mono (fun e he => by simp [he])
      obtain ⟨p, hp⟩ := hrm.some_of (by intro he; rw [← row_len .u8 bm, he] at hlt; simp at hlt)
      rw [hp] at hrm ⊢
      rw [hw, ixSl_at rfl hlt]
      simp only [Nat.mul_one]
      rw [hrm.ldI h (row_at hy)]
      refine ok_nneg (by rw [tmod8]; omega) ?_
      have e2 := bit0 ⟨y, hy2⟩ ⟨i % 8, Nat.mod_lt _ (by decide)⟩
      simp only at e2
      rw [tmod8, e2]
      have hbit : y.testBit (i % 8) = bitAt bm i := by simp [bitAt, List.getD_eq_getElem?_getD, hy]
      rw [hbit]
      have next : ∀ (L : List Ent) (S : AS), (∀ j, k ≤ j → j < i + 1 → bitAt bm j = false) → Alloc b ⟨ldTo bm k (i + 1), [], [], 0, 0⟩ L → Hp X S (L ++ F) →
          Ok (J24_j1_1_1_1_0_1_0_0_1_1_1 (evF E orcL (n + 1)) n0 (J24_l1_1_1_1_0_1_0 (evF E orcL (n + 1)) n0 m) k (some p) bm.length c (some (.rw b, 0)) (8 * bm.length : Nat) i S) (LoadQ X F k bm) := by
        intro L S e1 e2 e3
        simp only [J24_j1_1_1_1_0_1_0_0_1_1_1, b24_j1_1_1_1_0_1_0_0_1_1_1]
        rw [wn (x := (i : Int) + 1) (n := i + 1) (by omega) (by omega)]
        rw [← hp]
        exact load_loop n0 n hk hb hl hr m (i + 1) .undef .undef L S (by omega) (by omega) e1 e2 e3
      refine ok_cond (fun hbt => ?_) (fun hbt => ?_)
      · simp only [Bool.not_eq_true'] at hbt
        refine next L S (fun j h1 h2 => ?_) (by rw [ldTo, if_neg (by simp [hbt])]; exact ha) h
        by_cases e : j = i
        · rw [e]; exact hbt
        · exact hz j h1 (by omega)
      · simp only [Bool.not_eq_false'] at hbt
        refine ok_cond (fun hge => ?_) (fun hge => ?_)
        · simp only [ge_iff_le, decide_eq_true_eq] at hge
          refine ok_ret (.inr (.inl ⟨hk, fun hf => ?_, rfl, h.sub (List.sublist_append_right _ _)⟩))
          have := hf.2 i (by simp; omega) (by omega)
          rw [hbt] at this
          cases this
        · simp only [ge_iff_le, decide_eq_false_iff_not] at hge
          obtain ⟨v, S1, e, rfl, L1, ha1, h1, _⟩ := set_ok n h ha (i := i) (x := 1) (by simp; omega) (by omega) (ii := i) (xi := 1) rfl rfl
          rw [callT_of e]
          refine next L1 S1 (fun j h1 h2 => ?_) (by rw [ldTo, if_pos hbt]; exact ha1) h1
          by_cases e : j = i
          · omega
          · exact hz j h1 (by omega)
    · simp only [decide_eq_false_iff_not] at hc
      obtain rfl : i = 8 * bm.length := by omega
      simp only [J24_j1_1_1_1_1, b24_j1_1_1_1_1]
      exact ok_ret (.inr (.inr ⟨hk, ⟨by simpa using hl, fun j h1 h2 => hz j (by simpa using h1) h2⟩, b, L, rfl, by simpa [ld] using ha, h⟩))

theorem load_ok (n : Nat) (hn : 1000000 < n) (h : Hp X S F) {bm : List Nat} (hb : ∀ y ∈ bm, y < 256) (hbl : bm.length ≤ 65536) {a : Option Pos} {c : Cap} (hr : RdR X F a (row .u8 bm)) (x : Int) :
    Ok (ev (n + 3) (.fn 24) [.int .i64 x, .sl a bm.length c] S) (LoadQ X F x bm) := by
  rw [ev, F24 _ _ _ _ _ _ (oL rfl)]
  simp only [J24, b24_entry]
  obtain ⟨v, S1, e, hA⟩ : Ok (evF E orcL (n + 2) (.fn 10) [.int .i64 x] S) _ := new_ok (n + 1) h x
  rcases hA with ⟨hx, rfl, rfl⟩ | ⟨hx, b, L, rfl, ha, h1⟩
  · rw [callT_of e]
    exact ok_atP rfl (ok_atI rfl (ok_true rfl (ok_ret (.inl ⟨hx, rfl, h⟩))))
  · rw [callT_of e]
    refine ok_atP rfl (ok_atI rfl (ok_false rfl ?_))
    have hx2 := hx
    unfold right at hx2
    obtain ⟨k, rfl⟩ : ∃ k : Nat, x = (k : Int) := ⟨x.toNat, by omega⟩
    rw [wrap64 (n := ((k : Nat) : Int) + 7) (by omega) (by omega), show ((k : Nat) : Int) + 7 = ((k + 7 : Nat) : Int) by omega, tdiv8, wrap64 (by omega) (by omega)]
    refine ok_cond (fun hc => ?_) (fun hc => ?_)
    · simp only [bne_iff_ne, ne_eq] at hc
      exact ok_ret (.inr (.inl ⟨hx, fun hf => hc (by have := hf.1; simp at this; omega), rfl, h1.sub (List.sublist_append_right _ _)⟩))
    · simp only [bne_eq_false_iff_eq] at hc
      rw [wn (x := 8 * ((bm.length : Nat) : Int)) (n := 8 * bm.length) (by omega) (by omega)]
      exact load_loop (n + 2) (n + 1) hx hb (by omega) hr (n + 2) 0 _ _ L S1 (by omega) (by omega) (by omega) ha h1

end

end Go.Al

namespace Go.Al
open Go.Gr

section
variable {X : Cx} {S : AS} {L F : List Ent} {b : Nat} {A : AM} {Q : AV → AS → Prop}

end

end Go.Al
