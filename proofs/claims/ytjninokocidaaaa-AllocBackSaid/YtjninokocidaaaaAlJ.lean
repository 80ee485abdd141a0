/- The law AllocOld: its run. -/
import Derived.Test.YtjninokocidaaaaAlH
set_option linter.unusedVariables false
set_option linter.unusedSimpArgs false
set_option maxRecDepth 4000
namespace Go.Al
open Go.Gr

/-- A bit of a bitmap. -/
def bitAt (m : List Nat) (i : Nat) : Bool := (m.getD (i / 8) 0).testBit (i % 8)

theorem bitAt_put {m : List Nat} {i : Nat} (hi : i / 8 < m.length) (j : Nat) : bitAt (putBit m i) j = (decide (i = j) || bitAt m j) := by
  unfold bitAt putBit
  simp only [List.getD_eq_getElem?_getD, List.getElem?_set]
  by_cases h : i / 8 = j / 8
  · rw [if_pos h, if_pos hi, h]
    simp only [Option.getD_some, Nat.testBit_or, Nat.one_shiftLeft, Nat.testBit_two_pow]
    by_cases h2 : i % 8 = j % 8
    · have : i = j := by omega
      simp [h2, this]
    · have : i ≠ j := fun e => h2 (by rw [e])
      simp [h2, this]
  · rw [if_neg h]
    have : i ≠ j := fun e => h (by rw [e])
    simp [this]

theorem bitAt_bitsTo (s : List Nat) : ∀ i, i ≤ s.length → ∀ j, bitAt (bitsTo s i) j = decide (j < i ∧ (s[j]? = some 1 ∨ s[j]? = some 3))
  | 0, hi, j => by
    simp only [bitAt, bitsTo, List.getD_eq_getElem?_getD, List.getElem?_replicate]
    split <;> simp
  | i + 1, hi, j => by
    rw [bitsTo]
    have ih := bitAt_bitsTo s i (by omega) j
    split
    · rename_i h
      rw [bitAt_put (by rw [bitsTo_len]; omega), ih]
      by_cases hij : i = j
      · subst hij; simp [h]
      · by_cases h2 : j < i
        · simp [hij, h2, show j < i + 1 by omega]
        · simp [hij, h2, show ¬ j < i + 1 by omega]
    · rename_i h
      rw [ih]
      by_cases hij : i = j
      · subst hij; simp [h]
      · by_cases h2 : j < i
        · simp [h2, show j < i + 1 by omega]
        · simp [h2, show ¬ j < i + 1 by omega]

/-- The bitmap with the blocks that are held. -/
def usedTo (s : List Nat) : Nat → List Nat
  | 0 => bits s
  | i + 1 => if s[i]? = some 4 then putBit (usedTo s i) i else usedTo s i
theorem usedTo_len (s : List Nat) : ∀ i, (usedTo s i).length = (s.length + 7) / 8
  | 0 => bits_len s
  | i + 1 => by
    rw [usedTo]
    split
    · rw [putBit_len, usedTo_len s i]
    · exact usedTo_len s i
theorem usedTo_lt (s : List Nat) : ∀ i, ∀ x ∈ usedTo s i, x < 256
  | 0, x, h => bitsTo_lt s _ x h
  | i + 1, x, h => by
    rw [usedTo] at h
    split at h
    · rcases List.mem_or_eq_of_mem_set h with h | rfl
      · exact usedTo_lt s i x h
      · refine or_lt ?_ (Nat.mod_lt _ (by decide))
        cases hg : (usedTo s i)[i / 8]? with
        | none => simp [List.getD, hg]
        | some y => simpa [List.getD, hg] using usedTo_lt s i y (List.mem_of_getElem? hg)
    · exact usedTo_lt s i x h
theorem bitAt_usedTo (s : List Nat) : ∀ i, i ≤ s.length → ∀ j, bitAt (usedTo s i) j = true → s[j]? = some 1 ∨ s[j]? = some 3 ∨ s[j]? = some 4
  | 0, hi, j, h => by
    rw [usedTo, bits, bitAt_bitsTo s _ (Nat.le_refl _)] at h
    simp only [decide_eq_true_eq] at h
    rcases h.2 with h | h <;> simp [h]
  | i + 1, hi, j, h => by
    rw [usedTo] at h
    split at h
    · rename_i h4
      rw [bitAt_put (by rw [usedTo_len]; omega)] at h
      simp only [Bool.or_eq_true, decide_eq_true_eq] at h
      rcases h with rfl | h
      · exact .inr (.inr h4)
      · exact bitAt_usedTo s i (by omega) j h
    · exact bitAt_usedTo s i (by omega) j h

/-- What a crash would leave of a state. -/
def cls (x : Nat) : Nat := if x = 1 ∨ x = 3 then 1 else if x = 4 then 2 else 0

theorem cls_get {s s' : List Nat} (h : s.map cls = s'.map cls) (i : Nat) : (s[i]?).map cls = (s'[i]?).map cls := by
  rw [← List.getElem?_map, ← List.getElem?_map, h]
theorem cls_one {o : Option Nat} : (o = some 1 ∨ o = some 3) ↔ o.map cls = some 1 := by
  cases o with
  | none => simp
  | some x =>
    simp only [Option.some.injEq, Option.map_some, cls]
    by_cases h : x = 1 ∨ x = 3
    · simp [h]
    · rw [if_neg h]
      by_cases h4 : x = 4
      · simp [h4]
      · simp [h4, h]

theorem bits_cls {s s' : List Nat} (h : s.map cls = s'.map cls) : bits s = bits s' := by
  have hl : s.length = s'.length := by have := congrArg List.length h; simpa using this
  have : ∀ i, bitsTo s i = bitsTo s' i := by
    intro i
    induction i with
    | zero => simp [bitsTo, hl]
    | succ i ih =>
      simp only [bitsTo, ih]
      have : (s[i]? = some 1 ∨ s[i]? = some 3) ↔ (s'[i]? = some 1 ∨ s'[i]? = some 3) := by rw [cls_one, cls_one, cls_get h i]
      simp only [this]
  rw [bits, bits, hl, this]

theorem cls_set {s : List Nat} {i x y : Nat} (hi : s[i]? = some y) (h : cls x = cls y) : (s.set i x).map cls = s.map cls := by
  obtain ⟨hlt, rfl⟩ := List.getElem?_eq_some_iff.1 hi
  rw [List.map_set, h]
  have : cls s[i] = (s.map cls)[i]'(by simpa using hlt) := by simp
  rw [this, List.set_getElem_self]

namespace AM
variable {A : AM}
theorem take_spec (x : Int) : (A.take x).s.map cls = A.s.map cls ∧ (A.takeE x = 0 → ∃ i : Nat, A.takeV x = i ∧ A.s[i]? = some 0) := by
  by_cases he : A.takeE x = 0
  · have hc : A.r < A.s.count 0 := by
      have he' := he
      unfold AM.takeE at he'
      split at he'
      · simp at he'
      split at he'
      · simp at he'
      omega
    have hnx := AM.next_spec (A := A) (from_ := x.toNat) (List.count_pos_iff.1 (by omega))
    constructor
    · rw [AM.take, if_pos he]; exact cls_set hnx rfl
    · intro _; exact ⟨_, by rw [AM.takeV, if_pos he], hnx⟩
  · exact ⟨by rw [AM.take, if_neg he], fun h => absurd h he⟩
theorem res_spec (hw : A.WF) (x : Int) : (A.res x).s.map cls = A.s.map cls ∧ (A.resE x = 0 → ∃ i : Nat, A.resV x = i ∧ A.s[i]? = some 0) := by
  by_cases he : A.resE x = 0
  · have hc : A.r ≠ 0 := by
      have he' := he
      unfold AM.resE at he'
      split at he'
      · simp at he'
      split at he'
      · simp at he'
      assumption
    have hrf := hw.rf
    have hnx := AM.next_spec (A := A) (from_ := x.toNat) (List.count_pos_iff.1 (by omega))
    constructor
    · rw [AM.res, if_pos he]; exact cls_set hnx rfl
    · intro _; exact ⟨_, by rw [AM.resV, if_pos he], hnx⟩
  · exact ⟨by rw [AM.res, if_neg he], fun h => absurd h he⟩
theorem give_spec (x : Int) : (A.give x).s.map cls = A.s.map cls := by
  unfold AM.give
  split
  · rfl
  split
  · rename_i h; exact cls_set h rfl
  split
  · rename_i h; exact cls_set h rfl
  · rfl
theorem reserve_s (x : Int) : (A.reserve x).s = A.s := by unfold AM.reserve; split <;> rfl
end AM

theorem test_bit : ∀ (a : Fin 256) (k : Fin 8), (andI .u8 (shrI .u8 (a.val : Int) (IntKind.wrap .u64 (k.val : Int))) 1 == 1) = a.val.testBit k.val := by decide +kernel
theorem wrapU8 : ∀ k : Fin 8, IntKind.wrap .u64 (k.val : Int) = (k.val : Int) := by decide

/-- Bytes. -/
def toB (l : List Nat) : List UInt8 := l.map UInt8.ofNat
theorem toB_of {l : List Nat} (h : ∀ x ∈ l, x < 256) : ofBytes (toB l) = row .u8 l := by
  simp only [ofBytes, toB, row, List.map_map]
  apply List.map_congr_left
  intro x hx
  have := h x hx
  simp only [Function.comp]
  rw [UInt8.toNat_ofNat', Nat.mod_eq_of_lt this]

end Go.Al
