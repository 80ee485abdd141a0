/- What the functions of package alloc do: what they keep. -/
import Derived.Test.YtjninokocidaaaaAlE
set_option linter.unusedVariables false
set_option linter.unusedSimpArgs false
set_option maxRecDepth 4000
namespace Go.Al
open Go.Gr

theorem count0_le : ∀ {s s' : List Nat}, s.length = s'.length → (∀ i : Nat, s[i]? = some 0 → s'[i]? = some 0) → s.count 0 ≤ s'.count 0
  | [], s', hl, h => by simp
  | x :: s, [], hl, h => by simp at hl
  | x :: s, y :: s', hl, h => by
    have ih := count0_le (s := s) (s' := s') (by simpa using hl) (fun i hi => by simpa using h (i + 1) (by simpa using hi))
    have h0 := h 0
    simp only [List.getElem?_cons_zero, Option.some.injEq] at h0
    simp only [List.count_cons, beq_iff_eq]
    by_cases hx : x = 0
    · rw [if_pos hx, if_pos (h0 hx)]; omega
    · rw [if_neg hx]; omega

theorem set_get {s : List Nat} {i j x : Nat} (hi : i < s.length) : (s.set i x)[j]? = if i = j then some x else s[j]? := by
  rw [List.getElem?_set]
  by_cases h : i = j
  · subst h; simp [hi]
  · simp [h]

theorem count_set0 {s : List Nat} {i x : Nat} (hi : s[i]? = some 0) (hx : x ≠ 0) : (s.set i x).count 0 = s.count 0 - 1 := by
  obtain ⟨hlt, he⟩ := List.getElem?_eq_some_iff.1 hi
  rw [List.count_set hlt]
  simp [he, hx]

namespace AM
variable {A : AM}

theorem WF.withR (h : A.WF) {r : Nat} (hr : r ≤ A.s.count 0) : AM.WF { A with r := r } := ⟨h.td, h.ti, h.gd, h.gi, hr, h.n2, h.st⟩
theorem WF.withH (h : A.WF) (x : Nat) : AM.WF { A with h := x } := ⟨h.td, h.ti, h.gd, h.gi, h.rf, h.n2, h.st⟩

theorem WF.to2 (h : A.WF) {x : Nat} (hx : A.s[x]? = some 0) (hr : A.r + 1 ≤ A.s.count 0) : AM.WF { A with s := A.s.set x 2, t := A.t ++ [x] } := by
  obtain ⟨hlt, he⟩ := List.getElem?_eq_some_iff.1 hx
  have hn : x ∉ A.t := fun hm => by have := (h.ti x).1 hm; rw [hx] at this; simp at this
  refine ⟨?_, fun b => ?_, h.gd, fun b => ?_, ?_, by simpa using h.n2, fun y hy => ?_⟩
  · rw [List.nodup_append]
    exact ⟨h.td, by simp, fun a ha c hc => by simp at hc; subst hc; rintro rfl; exact hn ha⟩
  · show b ∈ A.t ++ [x] ↔ (A.s.set x 2)[b]? = some 2
    rw [set_get hlt, List.mem_append, h.ti b]
    by_cases hb : x = b
    · simp [hb]
    · simp [hb, Ne.symm hb]
  · show b ∈ A.g ↔ (A.s.set x 2)[b]? = some 3
    rw [set_get hlt, h.gi b]
    by_cases hb : x = b
    · subst hb; simp [hx]
    · simp [hb]
  · show A.r ≤ (A.s.set x 2).count 0
    rw [count_set0 hx (by decide)]; omega
  · rcases List.mem_or_eq_of_mem_set hy with hy | rfl
    · exact h.st y hy
    · decide

theorem WF.to3 (h : A.WF) {x : Nat} (hx : A.s[x]? = some 1) : AM.WF { A with s := A.s.set x 3, g := A.g ++ [x] } := by
  obtain ⟨hlt, he⟩ := List.getElem?_eq_some_iff.1 hx
  have hn : x ∉ A.g := fun hm => by have := (h.gi x).1 hm; rw [hx] at this; simp at this
  refine ⟨h.td, fun b => ?_, ?_, fun b => ?_, ?_, by simpa using h.n2, fun y hy => ?_⟩
  · show b ∈ A.t ↔ (A.s.set x 3)[b]? = some 2
    rw [set_get hlt, h.ti b]
    by_cases hb : x = b
    · subst hb; simp [hx]
    · simp [hb]
  · rw [List.nodup_append]
    exact ⟨h.gd, by simp, fun a ha c hc => by simp at hc; subst hc; rintro rfl; exact hn ha⟩
  · show b ∈ A.g ++ [x] ↔ (A.s.set x 3)[b]? = some 3
    rw [set_get hlt, List.mem_append, h.gi b]
    by_cases hb : x = b
    · simp [hb]
    · simp [hb, Ne.symm hb]
  · refine Nat.le_trans h.rf (count0_le (by simp) (fun i hi => ?_))
    rw [set_get hlt]
    by_cases hb : x = i
    · subst hb; rw [hx] at hi; simp at hi
    · simpa [hb] using hi
  · rcases List.mem_or_eq_of_mem_set hy with hy | rfl
    · exact h.st y hy
    · decide

theorem WF.to0 (h : A.WF) {x : Nat} (hx : A.s[x]? = some 2) : AM.WF { A with s := A.s.set x 0, t := A.t.erase x } := by
  obtain ⟨hlt, he⟩ := List.getElem?_eq_some_iff.1 hx
  refine ⟨h.td.erase x, fun b => ?_, h.gd, fun b => ?_, ?_, by simpa using h.n2, fun y hy => ?_⟩
  · show b ∈ A.t.erase x ↔ (A.s.set x 0)[b]? = some 2
    rw [set_get hlt, h.td.mem_erase_iff, h.ti b]
    by_cases hb : x = b
    · simp [hb]
    · simp [hb, Ne.symm hb]
  · show b ∈ A.g ↔ (A.s.set x 0)[b]? = some 3
    rw [set_get hlt, h.gi b]
    by_cases hb : x = b
    · subst hb; simp [hx]
    · simp [hb]
  · refine Nat.le_trans h.rf (count0_le (by simp) (fun i hi => ?_))
    rw [set_get hlt]
    by_cases hb : x = i
    · simp [hb]
    · simpa [hb] using hi
  · rcases List.mem_or_eq_of_mem_set hy with hy | rfl
    · exact h.st y hy
    · decide

/-- No transaction is open. -/
theorem WF.calm (h : A.WF) {s : List Nat} (hl : s.length = A.s.length) (h23 : ∀ i : Nat, s[i]? ≠ some 2 ∧ s[i]? ≠ some 3) (h0 : ∀ i : Nat, A.s[i]? = some 0 → s[i]? = some 0) (hs : ∀ x ∈ s, x ≤ 4) : AM.WF { A with s := s, t := [], g := [] } :=
  ⟨by simp, fun b => by simpa using (h23 b).1, by simp, fun b => by simpa using (h23 b).2, Nat.le_trans h.rf (count0_le hl.symm h0), by show s.length ≤ _; rw [hl]; exact h.n2, hs⟩

theorem commit_get (A : AM) (i : Nat) (hi : i < A.s.length) : A.commit.s[i]? = if i ∈ A.g then some (if 0 < A.h then 4 else 0) else if i ∈ A.t then some 1 else A.s[i]? := by
  show (setAll (if 0 < A.h then 4 else 0) A.g (setAll 1 A.t A.s))[i]? = _
  rw [setAll_get _ _ _ _ (by simpa using hi), setAll_get _ _ _ _ hi]
theorem abort_get (A : AM) (i : Nat) (hi : i < A.s.length) : A.abort.s[i]? = if i ∈ A.g then some 1 else if i ∈ A.t then some 0 else A.s[i]? := by
  show (setAll 1 A.g (setAll 0 A.t A.s))[i]? = _
  rw [setAll_get _ _ _ _ (by simpa using hi), setAll_get _ _ _ _ hi]
@[simp] theorem commit_len (A : AM) : A.commit.s.length = A.s.length := by simp [AM.commit]
@[simp] theorem abort_len (A : AM) : A.abort.s.length = A.s.length := by simp [AM.abort]

theorem WF.commit (h : A.WF) : A.commit.WF := by
  have key : ∀ i : Nat, i < A.s.length → A.commit.s[i]? ≠ some 2 ∧ A.commit.s[i]? ≠ some 3 ∧ (A.s[i]? = some 0 → A.commit.s[i]? = some 0) ∧ ∀ x, A.commit.s[i]? = some x → x ≤ 4 := by
    intro i hi
    have ht := h.ti i
    have hg := h.gi i
    rw [commit_get A i hi]
    by_cases h1 : i ∈ A.g
    · have h3 := hg.1 h1
      rw [if_pos h1, h3]
      refine ⟨?_, ?_, by simp, ?_⟩ <;> split <;> simp <;> omega
    · rw [if_neg h1]
      by_cases h2 : i ∈ A.t
      · have h3 := ht.1 h2
        rw [if_pos h2, h3]
        exact ⟨by simp, by simp, by simp, by simp⟩
      · rw [if_neg h2]
        exact ⟨fun e => h2 (ht.2 e), fun e => h1 (hg.2 e), id, fun x e => h.st x (List.mem_of_getElem? e)⟩
  have out : ∀ i : Nat, ¬ i < A.s.length → A.commit.s[i]? = none := fun i hi => List.getElem?_eq_none (by simp; omega)
  refine h.calm (s := A.commit.s) (by simp) (fun i => ?_) (fun i hi => ?_) (fun x hx => ?_)
  · by_cases hi : i < A.s.length
    · exact ⟨(key i hi).1, (key i hi).2.1⟩
    · rw [out i hi]; simp
  · exact (key i (List.getElem?_eq_some_iff.1 hi).1).2.2.1 hi
  · obtain ⟨i, hi⟩ := List.mem_iff_getElem?.1 hx
    have := (List.getElem?_eq_some_iff.1 hi).1
    exact (key i (by simpa using this)).2.2.2 x hi

theorem WF.abort (h : A.WF) : A.abort.WF := by
  have key : ∀ i : Nat, i < A.s.length → A.abort.s[i]? ≠ some 2 ∧ A.abort.s[i]? ≠ some 3 ∧ (A.s[i]? = some 0 → A.abort.s[i]? = some 0) ∧ ∀ x, A.abort.s[i]? = some x → x ≤ 4 := by
    intro i hi
    have ht := h.ti i
    have hg := h.gi i
    rw [abort_get A i hi]
    by_cases h1 : i ∈ A.g
    · have h3 := hg.1 h1
      rw [if_pos h1, h3]
      exact ⟨by simp, by simp, by simp, by simp⟩
    · rw [if_neg h1]
      by_cases h2 : i ∈ A.t
      · have h3 := ht.1 h2
        rw [if_pos h2, h3]
        exact ⟨by simp, by simp, by simp, by simp⟩
      · rw [if_neg h2]
        exact ⟨fun e => h2 (ht.2 e), fun e => h1 (hg.2 e), id, fun x e => h.st x (List.mem_of_getElem? e)⟩
  have out : ∀ i : Nat, ¬ i < A.s.length → A.abort.s[i]? = none := fun i hi => List.getElem?_eq_none (by simp; omega)
  refine h.calm (s := A.abort.s) (by simp) (fun i => ?_) (fun i hi => ?_) (fun x hx => ?_)
  · by_cases hi : i < A.s.length
    · exact ⟨(key i hi).1, (key i hi).2.1⟩
    · rw [out i hi]; simp
  · exact (key i (List.getElem?_eq_some_iff.1 hi).1).2.2.1 hi
  · obtain ⟨i, hi⟩ := List.mem_iff_getElem?.1 hx
    have := (List.getElem?_eq_some_iff.1 hi).1
    exact (key i (by simpa using this)).2.2.2 x hi

/-- What was held is let go. -/
def lg (x : Nat) : Nat := if x = 4 then 0 else x
def letgo (A : AM) : AM := if A.h = 0 then A else if 1 < A.h then { A with h := A.h - 1 } else { A with h := 0, s := A.s.map lg }

theorem WF.letgo (h : A.WF) : A.letgo.WF := by
  unfold AM.letgo
  split
  · exact h
  split
  · exact h.withH _
  refine ⟨h.td, fun b => ?_, h.gd, fun b => ?_, ?_, by simpa using h.n2, fun y hy => ?_⟩
  · show b ∈ A.t ↔ (A.s.map lg)[b]? = some 2
    rw [h.ti b, List.getElem?_map]
    cases A.s[b]? with
    | none => simp
    | some v => simp only [Option.map_some, lg, Option.some.injEq]; split <;> omega
  · show b ∈ A.g ↔ (A.s.map lg)[b]? = some 3
    rw [h.gi b, List.getElem?_map]
    cases A.s[b]? with
    | none => simp
    | some v => simp only [Option.map_some, lg, Option.some.injEq]; split <;> omega
  · refine Nat.le_trans h.rf (count0_le (by simp) (fun i hi => ?_))
    rw [List.getElem?_map, hi]; rfl
  · obtain ⟨z, hz, rfl⟩ := List.mem_map.1 hy
    have := h.st z hz
    unfold lg; split <;> omega

theorem WF.take (h : A.WF) (x : Int) : (A.take x).WF := by
  unfold AM.take
  split
  · rename_i he
    have hc : A.r < A.s.count 0 := by
      unfold AM.takeE at he
      split at he
      · simp at he
      split at he
      · simp at he
      omega
    exact h.to2 (AM.next_spec (List.count_pos_iff.1 (by omega))) (by omega)
  · exact h
theorem WF.res (h : A.WF) (x : Int) : (A.res x).WF := by
  unfold AM.res
  split
  · rename_i he
    have hc : A.r ≠ 0 := by
      unfold AM.resE at he
      split at he
      · simp at he
      split at he
      · simp at he
      assumption
    have hrf := h.rf
    exact (h.withR (r := A.r - 1) (by omega)).to2 (AM.next_spec (List.count_pos_iff.1 (show 0 < A.s.count 0 by omega))) (show A.r - 1 + 1 ≤ A.s.count 0 by omega)
  · exact h
theorem WF.mark (h : A.WF) (x : Int) : (A.mark x).WF := by
  unfold AM.mark
  split
  · rename_i he
    unfold AM.markE at he
    split at he
    · simp at he
    split at he
    · simp at he
    rename_i hc
    simp only [not_or, ne_eq, Classical.not_not, Nat.not_le] at hc
    exact h.to2 hc.1 (by omega)
  · exact h
theorem WF.give (h : A.WF) (x : Int) : (A.give x).WF := by
  unfold AM.give
  split
  · exact h
  split
  · rename_i he; exact h.to3 he
  split
  · rename_i he; exact h.to0 he
  · exact h
theorem WF.reserve (h : A.WF) (x : Int) : (A.reserve x).WF := by
  unfold AM.reserve
  split
  · rename_i he
    unfold AM.reserveE at he
    split at he
    · simp at he
    split at he
    · simp at he
    have := h.rf
    exact h.withR (by omega)
  · exact h
theorem WF.release (h : A.WF) (x : Int) : (A.release x).WF := by
  unfold AM.release
  have := h.rf
  split
  · exact h.withR (by omega)
  · exact h
@[simp] theorem take_len (A : AM) (x : Int) : (A.take x).s.length = A.s.length := by unfold AM.take AM.takes; split <;> simp
@[simp] theorem res_len (A : AM) (x : Int) : (A.res x).s.length = A.s.length := by unfold AM.res AM.takes; split <;> simp
@[simp] theorem mark_len (A : AM) (x : Int) : (A.mark x).s.length = A.s.length := by unfold AM.mark; split <;> simp
@[simp] theorem give_len (A : AM) (x : Int) : (A.give x).s.length = A.s.length := by unfold AM.give; (repeat' split) <;> simp
@[simp] theorem reserve_len (A : AM) (x : Int) : (A.reserve x).s.length = A.s.length := by unfold AM.reserve; split <;> simp
@[simp] theorem release_len (A : AM) (x : Int) : (A.release x).s.length = A.s.length := by unfold AM.release; split <;> simp
@[simp] theorem letgo_len (A : AM) : A.letgo.s.length = A.s.length := by unfold AM.letgo; (repeat' split) <;> simp
@[simp] theorem take_h (A : AM) (x : Int) : (A.take x).h = A.h := by unfold AM.take AM.takes; split <;> simp
@[simp] theorem res_h (A : AM) (x : Int) : (A.res x).h = A.h := by unfold AM.res AM.takes; split <;> simp
@[simp] theorem mark_h (A : AM) (x : Int) : (A.mark x).h = A.h := by unfold AM.mark; split <;> simp
@[simp] theorem give_h (A : AM) (x : Int) : (A.give x).h = A.h := by unfold AM.give; (repeat' split) <;> simp
@[simp] theorem reserve_h (A : AM) (x : Int) : (A.reserve x).h = A.h := by unfold AM.reserve; split <;> simp
@[simp] theorem release_h (A : AM) (x : Int) : (A.release x).h = A.h := by unfold AM.release; split <;> simp
@[simp] theorem commit_h (A : AM) : A.commit.h = A.h := rfl
@[simp] theorem abort_h (A : AM) : A.abort.h = A.h := rfl
theorem letgo_h (A : AM) : A.letgo.h = A.h - 1 := by
  unfold AM.letgo
  split
  · omega
  split
  · rfl
  · show 0 = A.h - 1
    omega

/-- An act, by its kind and its number. -/
def act (A : AM) (k x : Int) : AM := if k = 1 then A.take x else if k = 2 then A.res x else if k = 3 then A.give x else if k = 4 then A.mark x else if k = 5 then A.reserve x else if k = 6 then A.release x else if k = 7 then A.commit else if k = 8 then A.abort else if k = 10 then { A with h := A.h + 1 } else if k = 11 then A.letgo else A
def plays (A : AM) (acts : List (Int × Int)) : AM := acts.foldl (fun A y => if y.1 = 9 then A else A.act y.1 y.2) A

/-- What is held is held by some. -/
def Hd (A : AM) : Prop := ∀ i : Nat, A.s[i]? = some 4 → 0 < A.h
theorem Hd.set (h : A.Hd) {i x : Nat} (hx : x ≠ 4) (t g : List Nat) (r : Nat) : AM.Hd ⟨A.s.set i x, t, g, r, A.h⟩ := fun j hj => by
  simp only [List.getElem?_set] at hj
  split at hj
  · split at hj
    · simp at hj; exact absurd hj hx
    · cases hj
  · exact h j hj
theorem Hd.take (h : A.Hd) (x : Int) : (A.take x).Hd := by unfold AM.take AM.takes; split; exact h.set (by decide) _ _ _; exact h
theorem Hd.res (h : A.Hd) (x : Int) : (A.res x).Hd := by unfold AM.res AM.takes; split; exact h.set (by decide) _ _ _; exact h
theorem Hd.mark (h : A.Hd) (x : Int) : (A.mark x).Hd := by unfold AM.mark; split; exact h.set (by decide) _ _ _; exact h
theorem Hd.give (h : A.Hd) (x : Int) : (A.give x).Hd := by
  unfold AM.give
  split
  · exact h
  split
  · exact h.set (by decide) _ _ _
  split
  · exact h.set (by decide) _ _ _
  · exact h
theorem Hd.reserve (h : A.Hd) (x : Int) : (A.reserve x).Hd := by unfold AM.reserve; split <;> exact h
theorem Hd.release (h : A.Hd) (x : Int) : (A.release x).Hd := by unfold AM.release; split <;> exact h
theorem Hd.commit (h : A.Hd) : A.commit.Hd := fun i hi => by
  have hlt : i < A.s.length := by have := (List.getElem?_eq_some_iff.1 hi).1; simpa using this
  rw [commit_get A i hlt] at hi
  show 0 < A.h
  split at hi
  · simp only [Option.some.injEq] at hi
    split at hi
    · assumption
    · cases hi
  · split at hi
    · simp at hi
    · exact h i hi
theorem Hd.abort (h : A.Hd) : A.abort.Hd := fun i hi => by
  have hlt : i < A.s.length := by have := (List.getElem?_eq_some_iff.1 hi).1; simpa using this
  rw [abort_get A i hlt] at hi
  show 0 < A.h
  split at hi
  · simp at hi
  · split at hi
    · simp at hi
    · exact h i hi
theorem Hd.letgo (h : A.Hd) : A.letgo.Hd := by
  unfold AM.letgo
  split
  · exact h
  split
  · intro i hi; show 0 < A.h - 1; omega
  · intro i hi
    simp only [List.getElem?_map, Option.map_eq_some_iff] at hi
    obtain ⟨y, _, hy⟩ := hi
    unfold lg at hy
    split at hy <;> omega
theorem Hd.act (h : A.Hd) (k x : Int) : (A.act k x).Hd := by
  unfold AM.act
  split; exact h.take x
  split; exact h.res x
  split; exact h.give x
  split; exact h.mark x
  split; exact h.reserve x
  split; exact h.release x
  split; exact h.commit
  split; exact h.abort
  split; exact fun i hi => Nat.succ_pos _
  split; exact h.letgo
  exact h
theorem Hd.plays (acts : List (Int × Int)) : ∀ {A : AM}, A.Hd → (A.plays acts).Hd := by
  induction acts with
  | nil => exact fun h => h
  | cons y l ih =>
    intro A h
    show (AM.plays (if y.1 = 9 then A else A.act y.1 y.2) l).Hd
    refine ih ?_
    split
    · exact h
    · exact h.act _ _
end AM

end Go.Al
