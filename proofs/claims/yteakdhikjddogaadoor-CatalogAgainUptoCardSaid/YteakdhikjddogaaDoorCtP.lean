/- Which ticks a policy's rule keeps: from the last tick on, as the program finds them; and place by place, as the document says it. -/
import Derived.Test.YteakdhikjddogaaDoorGrSep3
set_option linter.unusedVariables false
set_option linter.unusedSimpArgs false
namespace Go.Ct

/-- How often neighbours are not the same. -/
def chg : List Int → Nat
  | [] => 0
  | [_] => 0
  | a :: b :: l => (if a ≠ b then 1 else 0) + chg (b :: l)
/-- How many stretches of the same there are. -/
def strs : List Int → Nat
  | [] => 0
  | a :: l => chg (a :: l) + 1

theorem chg_cons_of {a : Int} {l : List Int} (h : ∀ b, l.head? = some b → a ≠ b) : chg (a :: l) = strs l := by
  cases l with
  | nil => rfl
  | cons b l =>
    have := h b rfl
    simp [chg, strs, this]; omega
theorem chg_cons_le (a : Int) (l : List Int) : strs l ≤ strs (a :: l) := by
  cases l with
  | nil => simp [strs, chg]
  | cons b l => simp only [strs, chg]; omega
theorem strs_drop (qs : List Int) : ∀ (j i : Nat), j ≤ i → strs (qs.drop i) ≤ strs (qs.drop j) := by
  intro j i hji
  induction i with
  | zero => have : j = 0 := by omega
            subst this; exact Nat.le_refl _
  | succ i ih =>
    by_cases h : j = i + 1
    · subst h; exact Nat.le_refl _
    · refine Nat.le_trans ?_ (ih (by omega))
      by_cases hi : i < qs.length
      · rw [List.drop_eq_getElem_cons hi]; exact chg_cons_le _ _
      · rw [List.drop_of_length_le (by omega)]; exact Nat.zero_le _

/-- Is the tick at a place kept by a rule? -/
def ruleAt (qs : List Int) (cnt : Int) (j : Nat) : Bool := decide (∀ b, qs[j + 1]? = some b → qs[j]? ≠ some b) && decide ((chg (qs.drop j) : Int) < cnt)

/-- From a place down: the boxes that were met, and what is kept. -/
def kst (cnt : Int) (qs : List Int) : Nat → List Int → List Bool → List Bool
  | 0, bx, o => o
  | i + 1, bx, o => if cnt ≤ (bx.length : Int) then o else if qs.getD i 0 ∈ bx then kst cnt qs i bx o else kst cnt qs i (bx ++ [qs.getD i 0]) (o.set i true)

theorem kst_len (cnt : Int) (qs : List Int) : ∀ (i : Nat) (bx : List Int) (o : List Bool), (kst cnt qs i bx o).length = o.length
  | 0, bx, o => rfl
  | i + 1, bx, o => by
    rw [kst]
    split
    · rfl
    split
    · exact kst_len cnt qs i bx o
    · rw [kst_len cnt qs i]; simp

/-- What was met is what stands behind. -/
def Met (cnt : Int) (qs : List Int) (i : Nat) (bx : List Int) : Prop := ((bx.length : Int) < cnt → (∀ q, q ∈ bx ↔ q ∈ qs.drop i) ∧ bx.length = strs (qs.drop i)) ∧ (cnt ≤ (bx.length : Int) → cnt ≤ (strs (qs.drop i) : Int))

theorem ruleAt_full {cnt : Int} {qs : List Int} {i j : Nat} (h : cnt ≤ (strs (qs.drop i) : Int)) (hj : j < i) (hjl : j < qs.length) : ruleAt qs cnt j = false := by
  cases hr : ruleAt qs cnt j with
  | false => rfl
  | true =>
    simp only [ruleAt, Bool.and_eq_true, decide_eq_true_eq] at hr
    obtain ⟨h1, h2⟩ := hr
    have hd : qs.drop j = qs[j] :: qs.drop (j + 1) := List.drop_eq_getElem_cons hjl
    rw [hd] at h2
    rw [chg_cons_of (fun b hb => ?_)] at h2
    · have := strs_drop qs (j + 1) i (by omega)
      omega
    · intro e
      have h3 := h1 b (by rw [List.head?_drop] at hb; exact hb)
      exact h3 (by rw [List.getElem?_eq_getElem hjl, e])

theorem kst_spec {cnt : Int} {qs : List Int} (hm : ∀ (i j : Nat) (a b : Int), i ≤ j → qs[i]? = some a → qs[j]? = some b → a ≤ b) :
    ∀ (i : Nat) (bx : List Int) (o : List Bool), i ≤ qs.length → o.length = qs.length → Met cnt qs i bx → ∀ j, (kst cnt qs i bx o)[j]? = if j < i then o[j]?.map fun v => v || ruleAt qs cnt j else o[j]?
  | 0, bx, o, hi, ho, h, j => by simp [kst]
  | i + 1, bx, o, hi, ho, h, j => by
    have hlt : i < qs.length := by omega
    obtain ⟨q, hq⟩ : ∃ q, qs[i]? = some q := ⟨_, List.getElem?_eq_getElem hlt⟩
    have hqe : qs[i] = q := by simpa [hlt] using hq
    have hgd : qs.getD i 0 = q := by simp [List.getD_eq_getElem?_getD, hq]
    have hd : qs.drop i = q :: qs.drop (i + 1) := by rw [List.drop_eq_getElem_cons hlt, hqe]
    rw [kst, hgd]
    have idm : ∀ {k : Nat}, ruleAt qs cnt k = false → o[k]? = o[k]?.map fun v => v || ruleAt qs cnt k := fun hk => by simp [hk]
    split
    · rename_i hc
      have hs := h.2 hc
      split
      · exact idm (ruleAt_full hs (by omega) (by omega))
      · rfl
    · rename_i hc
      obtain ⟨hset, hlen⟩ := h.1 (by omega)
      split
      · rename_i hin
        -- the box was met: its next one is the same
        have hmem := (hset q).1 hin
        obtain ⟨q2, hq2⟩ : ∃ q2, qs[i + 1]? = some q2 := by
          cases hd2 : qs[i + 1]? with
          | some z => exact ⟨z, rfl⟩
          | none =>
            have := List.getElem?_eq_none_iff.1 hd2
            rw [List.drop_of_length_le this] at hmem; cases hmem
        have hsame : q2 = q := by
          obtain ⟨k, hk⟩ := List.mem_iff_getElem?.1 hmem
          rw [List.getElem?_drop] at hk
          have h1 := hm i (i + 1) q q2 (by omega) hq hq2
          have h2 := hm (i + 1) (i + 1 + k) q2 q (by omega) hq2 hk
          omega
        subst hsame
        have hhead : (qs.drop (i + 1)).head? = some q2 := by rw [List.head?_drop]; exact hq2
        have hfr : ruleAt qs cnt i = false := by
          simp only [ruleAt, Bool.and_eq_false_iff, decide_eq_false_iff_not]
          left
          intro h1
          exact h1 q2 hq2 hq
        have hst : strs (qs.drop i) = strs (qs.drop (i + 1)) := by
          rw [hd]
          cases he : qs.drop (i + 1) with
          | nil => rw [he] at hhead; cases hhead
          | cons z l =>
            rw [he] at hhead
            simp only [List.head?_cons, Option.some.injEq] at hhead
            subst hhead
            simp [strs, chg]
        have hM : Met cnt qs i bx := by
          refine ⟨fun _ => ⟨fun z => ?_, by rw [hst]; exact hlen⟩, fun hcc => absurd hcc hc⟩
          rw [hset z, hd, List.mem_cons]
          exact ⟨Or.inr, fun hz => hz.elim (fun e => by rw [e]; exact hmem) id⟩
        rw [kst_spec hm i bx o (by omega) ho hM j]
        by_cases hji : j < i
        · rw [if_pos hji, if_pos (by omega)]
        · rw [if_neg hji]
          by_cases hje : j = i
          · subst hje
            rw [if_pos (by omega)]; exact idm hfr
          · rw [if_neg (by omega)]
      · rename_i hin
        have hnm : q ∉ qs.drop (i + 1) := fun hz => hin ((hset q).2 hz)
        have hnext : ∀ b, (qs.drop (i + 1)).head? = some b → q ≠ b := fun b hb e => hnm (by rw [e]; exact List.mem_of_mem_head? hb)
        have hch : chg (qs.drop i) = strs (qs.drop (i + 1)) := by rw [hd]; exact chg_cons_of hnext
        have hst : strs (qs.drop i) = strs (qs.drop (i + 1)) + 1 := by
          rw [← hch, hd]; rfl
        have htr : ruleAt qs cnt i = true := by
          simp only [ruleAt, Bool.and_eq_true, decide_eq_true_eq]
          refine ⟨fun b hb e => ?_, by rw [hch, ← hlen]; omega⟩
          rw [hq] at e
          exact hnext b (by rw [List.head?_drop]; exact hb) (Option.some.inj e)
        have hM : Met cnt qs i (bx ++ [q]) := by
          have hl2 : (bx ++ [q]).length = strs (qs.drop i) := by rw [List.length_append, hst, ← hlen]; rfl
          refine ⟨fun _ => ⟨fun z => ?_, hl2⟩, fun hcc => by rw [← hl2]; exact hcc⟩
          simp only [List.mem_append, hset z, hd, List.mem_cons, List.not_mem_nil, or_false]
          exact Or.comm
        rw [kst_spec hm i (bx ++ [q]) (o.set i true) (by omega) (by simpa using ho) hM j]
        by_cases hji : j < i
        · rw [if_pos hji, if_pos (by omega), List.getElem?_set, if_neg (by omega)]
        · rw [if_neg hji]
          by_cases hje : j = i
          · subst hje
            rw [if_pos (by omega), List.getElem?_set, if_pos rfl, if_pos (by omega), htr, List.getElem?_eq_getElem (by omega)]
            simp
          · rw [if_neg (by omega), List.getElem?_set, if_neg (by omega)]

/-- A rule over all ticks, from the last one down: place by place. -/
theorem kst_all {cnt : Int} {qs : List Int} (hm : ∀ (i j : Nat) (a b : Int), i ≤ j → qs[i]? = some a → qs[j]? = some b → a ≤ b) {o : List Bool} (ho : o.length = qs.length) (j : Nat) :
    (kst cnt qs qs.length [] o)[j]? = o[j]?.map fun v => v || ruleAt qs cnt j := by
  rw [kst_spec hm qs.length [] o (Nat.le_refl _) ho ⟨fun _ => ⟨by simp, by simp [strs]⟩, fun h => by simpa [strs] using h⟩ j]
  split
  · rfl
  · rw [List.getElem?_eq_none (by omega)]; rfl

/-- More boxes, more ticks. -/
theorem ruleAt_mono {cnt cnt' : Int} (h : cnt ≤ cnt') {qs : List Int} {j : Nat} (hr : ruleAt qs cnt j = true) : ruleAt qs cnt' j = true := by
  simp only [ruleAt, Bool.and_eq_true, decide_eq_true_eq] at hr ⊢
  exact ⟨hr.1, by omega⟩

end Go.Ct
