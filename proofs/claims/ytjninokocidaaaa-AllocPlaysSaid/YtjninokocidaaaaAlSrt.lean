/- The library's sort of integers: what it leaves is sorted. First part: places that change, sorted stretches, insertion, the heap. -/
import Derived.Test.YtjninokocidaaaaAlSort
set_option linter.unusedVariables false
set_option linter.unusedSimpArgs false
set_option maxRecDepth 4000
namespace Go.Al
open Go.Gr

/-- Two elements changed places. -/
def sw (d : List Int) (i j : Nat) : List Int := (d.set j (d.getD i 0)).set i (d.getD j 0)
@[simp] theorem sw_len (d : List Int) (i j : Nat) : (sw d i j).length = d.length := by simp [sw]
theorem sw_get {d : List Int} {i j : Nat} (hi : i < d.length) (hj : j < d.length) (k : Nat) : (sw d i j)[k]? = if k = i then d[j]? else if k = j then d[i]? else d[k]? := by
  unfold sw
  rw [List.getElem?_set]
  by_cases h1 : i = k
  · subst h1
    rw [if_pos rfl, if_pos (by simpa using hi), if_pos rfl, List.getD_eq_getElem?_getD, List.getElem?_eq_getElem hj]; rfl
  · rw [if_neg h1, if_neg (Ne.symm h1), List.getElem?_set]
    by_cases h2 : j = k
    · subst h2
      rw [if_pos rfl, if_pos hj, if_pos rfl, List.getD_eq_getElem?_getD, List.getElem?_eq_getElem hi]; rfl
    · rw [if_neg h2, if_neg (Ne.symm h2)]
theorem sw_perm {d : List Int} {i j : Nat} (hi : i < d.length) (hj : j < d.length) : (sw d i j).Perm d := by
  unfold sw
  rw [List.getD_eq_getElem?_getD, List.getD_eq_getElem?_getD, List.getElem?_eq_getElem hi, List.getElem?_eq_getElem hj]
  exact List.set_set_perm hj hi

/-- The same elements, and the same ones outside a stretch. -/
structure SR (a b : Nat) (d d0 : List Int) : Prop where
  p : d.Perm d0
  o : ∀ k, (k < a ∨ b ≤ k) → d[k]? = d0[k]?
theorem SR.refl (a b : Nat) (d : List Int) : SR a b d d := ⟨.refl _, fun _ _ => rfl⟩
theorem SR.len {a b : Nat} {d d0 : List Int} (h : SR a b d d0) : d.length = d0.length := h.p.length_eq
theorem SR.trans {a b : Nat} {d d1 d2 : List Int} (h : SR a b d d1) (h2 : SR a b d1 d2) : SR a b d d2 := ⟨h.p.trans h2.p, fun k hk => (h.o k hk).trans (h2.o k hk)⟩
theorem SR.wide {a b a' b' : Nat} {d d0 : List Int} (h : SR a b d d0) (h1 : a' ≤ a) (h2 : b ≤ b') : SR a' b' d d0 := ⟨h.p, fun k hk => h.o k (by omega)⟩
theorem SR.sw {a b i j : Nat} {d d0 : List Int} (h : SR a b d d0) (h1 : a ≤ i) (h2 : i < b) (h3 : a ≤ j) (h4 : j < b) (hi : i < d.length) (hj : j < d.length) : SR a b (sw d i j) d0 :=
  ⟨(sw_perm hi hj).trans h.p, fun k hk => by rw [sw_get hi hj, if_neg (by omega), if_neg (by omega)]; exact h.o k hk⟩
theorem SR.all {a b : Nat} {d d0 : List Int} (h : SR a b d d0) {P : Int → Prop} (hP : ∀ k x, a ≤ k → k < b → d0[k]? = some x → P x) : ∀ k x, a ≤ k → k < b → d[k]? = some x → P x := by
  intro k x h1 h2 hx
  have hab : a ≤ b := by omega
  have ht : d.take a = d0.take a := by
    apply List.ext_getElem?
    intro i
    by_cases hi : i < a
    · rw [List.getElem?_take_of_lt hi, List.getElem?_take_of_lt hi]; exact h.o i (.inl hi)
    · rw [List.getElem?_eq_none (by simp; omega), List.getElem?_eq_none (by simp; omega)]
  have hd : (d.drop a).drop (b - a) = (d0.drop a).drop (b - a) := by
    apply List.ext_getElem?
    intro i
    rw [List.drop_drop, List.drop_drop, List.getElem?_drop, List.getElem?_drop]
    exact h.o _ (.inr (by omega))
  have hp := h.p
  rw [← List.take_append_drop a d, ← List.take_append_drop a d0, ht] at hp
  have hp2 := (List.perm_append_left_iff _).1 hp
  rw [← List.take_append_drop (b - a) (d.drop a), ← List.take_append_drop (b - a) (d0.drop a), hd] at hp2
  have hp3 := (List.perm_append_right_iff _).1 hp2
  have hm : x ∈ (d.drop a).take (b - a) := by
    refine List.mem_iff_getElem?.2 ⟨k - a, ?_⟩
    rw [List.getElem?_take_of_lt (by omega), List.getElem?_drop, show a + (k - a) = k by omega]
    exact hx
  obtain ⟨i, hi⟩ := List.mem_iff_getElem?.1 (hp3.mem_iff.1 hm)
  have hib : i < b - a := by
    have := (List.getElem?_eq_some_iff.1 hi).1
    simp at this; omega
  rw [List.getElem?_take_of_lt hib, List.getElem?_drop] at hi
  exact hP _ x (by omega) (by omega) hi

/-- A sorted stretch. -/
def Srt (a b : Nat) (d : List Int) : Prop := ∀ p q x y, a ≤ p → p < q → q < b → d[p]? = some x → d[q]? = some y → x ≤ y
theorem Srt.one (a b : Nat) (d : List Int) (h : b ≤ a + 1) : Srt a b d := fun p q x y h1 h2 h3 => by omega
theorem Srt.same {a b : Nat} {d d' : List Int} (h : Srt a b d) (e : ∀ k, a ≤ k → k < b → d'[k]? = d[k]?) : Srt a b d' := fun p q x y h1 h2 h3 hx hy => h p q x y h1 h2 h3 (by rw [← e p h1 (by omega)]; exact hx) (by rw [← e q (by omega) h3]; exact hy)
theorem Srt.push {a b : Nat} {d : List Int} (h : Srt a b d) (hn : ∀ x y, a < b → d[b - 1]? = some x → d[b]? = some y → x ≤ y) : Srt a (b + 1) d := by
  intro p q x y h1 h2 h3 hx hy
  by_cases hq : q = b
  · subst hq
    obtain ⟨z, hz⟩ : ∃ z, d[q - 1]? = some z := ⟨_, List.getElem?_eq_getElem (by have := (List.getElem?_eq_some_iff.1 hy).1; omega)⟩
    have h5 := hn z y (by omega) hz hy
    by_cases hp : p = q - 1
    · subst hp; rw [hx] at hz; cases hz; exact h5
    · have := h p (q - 1) x z h1 (by omega) (by omega) hx hz
      omega
  · exact h p q x y h1 h2 (by omega) hx hy

/-- Sorted but for one element, which is not above those behind it. -/
def SrtX (a b j : Nat) (d : List Int) : Prop := (∀ p q x y, a ≤ p → p < q → q < b → p ≠ j → q ≠ j → d[p]? = some x → d[q]? = some y → x ≤ y) ∧ (∀ q x y, j < q → q < b → d[j]? = some x → d[q]? = some y → x ≤ y)
theorem SrtX.of {a i : Nat} {d : List Int} (h : Srt a i d) : SrtX a (i + 1) i d :=
  ⟨fun p q x y h1 h2 h3 h4 h5 => h p q x y h1 h2 (by omega), fun q x y h1 h2 => by omega⟩
theorem SrtX.done {a b j : Nat} {d : List Int} (h : SrtX a b j d) (hj : j = a ∨ ∀ x y, d[j - 1]? = some x → d[j]? = some y → x ≤ y) (haj : a ≤ j) (hjl : j ≤ d.length) : Srt a b d := by
  intro p q x y h1 h2 h3 hx hy
  by_cases hp : p = j
  · subst hp; exact h.2 q x y h2 h3 hx hy
  by_cases hq : q = j
  · subst hq
    rcases hj with hj | hj
    · omega
    obtain ⟨z, hz⟩ : ∃ z, d[q - 1]? = some z := ⟨_, List.getElem?_eq_getElem (by have := (List.getElem?_eq_some_iff.1 hy).1; omega)⟩
    have h5 := hj z y hz hy
    by_cases hpq : p = q - 1
    · subst hpq; rw [hx] at hz; cases hz; exact h5
    · have := h.1 p (q - 1) x z h1 (by omega) (by omega) (by omega) (by omega) hx hz
      omega
  · exact h.1 p q x y h1 h2 h3 hp hq hx hy
theorem SrtX.step {a b j : Nat} {d : List Int} (h : SrtX a b j d) (haj : a < j) (hjb : j < b) (hjl : j < d.length) {u v : Int} (hu : d[j]? = some u) (hv : d[j - 1]? = some v) (huv : u < v) : SrtX a b (j - 1) (sw d (j - 1) j) := by
  have hj1 : j - 1 < d.length := by omega
  refine ⟨fun p q x y h1 h2 h3 h4 h5 hx hy => ?_, fun q x y h1 h2 hx hy => ?_⟩
  · rw [sw_get hj1 hjl] at hx hy
    rw [if_neg h4] at hx
    rw [if_neg h5] at hy
    by_cases hp : p = j
    · rw [if_pos hp] at hx
      rw [if_neg (by omega)] at hy
      exact h.1 (j - 1) q x y (by omega) (by omega) h3 (by omega) (by omega) hx hy
    · rw [if_neg hp] at hx
      by_cases hq : q = j
      · rw [if_pos hq] at hy
        exact h.1 p (j - 1) x y h1 (by omega) (by omega) hp (by omega) hx hy
      · rw [if_neg hq] at hy
        exact h.1 p q x y h1 h2 h3 hp hq hx hy
  · rw [sw_get hj1 hjl] at hx hy
    rw [if_pos rfl, hu] at hx
    cases hx
    rw [if_neg (by omega)] at hy
    by_cases hq : q = j
    · rw [if_pos hq, hv] at hy; cases hy; omega
    · rw [if_neg hq] at hy
      exact h.2 q u y (by omega) h2 hu hy

section
variable {X : Cx} {S : AS} {F : List Ent} {b l : Nat} {c : Cap} {d d0 : List Int} {js : List AV} {Q : AV → AS → Prop}

/-- Two elements change places: which ones. -/
theorem swapS {x y x' y' : Int} {i j : Nat} {K : AS → Option (AV × AS)} (h : Hp X S (D b d js :: F)) (hl : l = d.length) (hx : x = i) (hy : y = j) (hx' : x' = i) (hy' : y' = j) (hi : i < l) (hj : j < l)
    (ht : ∀ S', Hp X S' (D b (sw d i j) js :: F) → Ok (K S') Q) :
    Ok (ixSl 1 (some (.rw b, 0)) l x fun p1 => ldI .i64 S p1.1 p1.2 fun v1 => ixSl 1 (some (.rw b, 0)) l y fun p2 => ldI .i64 S p2.1 p2.2 fun v2 =>
      ixSl 1 (some (.rw b, 0)) l y' fun p3 => S.stn p3.1 p3.2 [.int .i64 v1] fun S1 => ixSl 1 (some (.rw b, 0)) l x' fun p4 => S1.stn p4.1 p4.2 [.int .i64 v2] K) Q := by
  refine at_ok h hl hx hi (fun v1 h1 => at_ok h hl hy hj (fun v2 h2 => put_ok h hl hy' hj (fun S1 hS1 => put_ok hS1 (by simpa using hl) hx' hi (fun S2 hS2 => ht S2 ?_))))
  have e : sw d i j = (d.set j v1).set i v2 := by simp [sw, List.getD_eq_getElem?_getD, h1, h2]
  rw [e]; exact hS2

/-- What a part of the sort leaves: a stretch with the same elements, of which something holds. -/
abbrev SortsS (X : Cx) (F : List Ent) (b : Nat) (d0 : List Int) (js : List AV) (x y : Nat) (P : List Int → Prop) : AV → AS → Prop := fun v S' => v = .tup [] ∧ ∃ d', SR x y d' d0 ∧ P d' ∧ Hp X S' (D b d' js :: F)

theorem insS_in (n0 n : Nat) {O : Option Pos → Nat → Cap → Int → Int → Int → AS → Option (AV × AS)} {A I y : Nat} {B : Int} (hIy : I < y) (hyl : y ≤ l) (hl : l = d0.length) (hl2 : l < 1000000)
    (hO : ∀ S' d', SR A y d' d0 → Srt A (I + 1) d' → Hp X S' (D b d' js :: F) → Ok (O (some (.rw b, 0)) l c A B (IntKind.wrap .i64 (I + 1)) S') Q) : ∀ (m j : Nat) (d : List Int) (S : AS), A ≤ j → j ≤ I → j < m → SR A y d d0 → SrtX A (I + 1) j d → Hp X S (D b d js :: F) →
    Ok (J69_l1_0_0_1_0_0_1_0 (evF E orcL (n + 2)) n0 O m (some (.rw b, 0)) l c A B I j S) Q
  | 0, j, d, S, hAj, hj, hm, hr, hx, h => by omega
  | m + 1, j, d, S, hAj, hj, hm, hr, hx, h => by
    rw [J69_l1_0_0_1_0_0_1_0_succ]
    simp only [b69_l1_0_0_1_0_0_1_0]
    have hld : l = d.length := by rw [hl, hr.len]
    refine ok_cond (fun hc => ?_) (fun hc => hO S d hr (hx.done (.inl ?_) hAj (by omega)) h)
    · simp only [gt_iff_lt, decide_eq_true_eq] at hc
      obtain ⟨k, rfl⟩ : ∃ k, j = k + 1 := ⟨j - 1, by omega⟩
      have e1 : IntKind.wrap .i64 (((k + 1 : Nat) : Int) - 1) = (k : Nat) := wn (by omega) (by omega)
      rw [e1]
      refine at_ok h hld (i := k + 1) rfl (by omega) (fun v1 hv1 => at_ok h hld (i := k) rfl (by omega) (fun v2 hv2 => ?_))
      rw [callB_of (less_eq n v1 v2 S)]
      refine ok_cond (fun hlt => ?_) (fun hlt => hO S d hr (hx.done (.inr fun x y h1 h2 => ?_) hAj (by omega)) h)
      · simp only [decide_eq_true_eq] at hlt
        refine swapS h hld (i := k) (j := k + 1) rfl rfl rfl rfl (by omega) (by omega) (fun S' h' => ?_)
        exact insS_in n0 n hIy hyl hl hl2 hO m k _ S' (by omega) (by omega) (by omega) (hr.sw (by omega) (by omega) (by omega) (by omega) (by omega) (by omega)) (hx.step (by omega) (by omega) (by omega) hv1 hv2 hlt) h'
      · simp only [decide_eq_false_iff_not] at hlt
        rw [Nat.add_sub_cancel, hv2] at h1
        rw [hv1] at h2
        cases h1; cases h2; omega
    · simp only [gt_iff_lt, decide_eq_false_iff_not] at hc
      omega

theorem insS_out (n0 n : Nat) (hn : 1000000 < n0) {A y : Nat} (hyl : y ≤ l) (hl : l = d0.length) (hl2 : l < 1000000) : ∀ (m i : Nat) (d : List Int) (S : AS), A + 1 ≤ i → l + 1 - i < m → SR A y d d0 → Srt A i d → Hp X S (D b d js :: F) →
    Ok (J69_l1_0 (evF E orcL (n + 2)) n0 m (some (.rw b, 0)) l c A y i S) (SortsS X F b d0 js A y (Srt A y))
  | 0, i, d, S, hi, hm, hr, hs, h => by omega
  | m + 1, i, d, S, hi, hm, hr, hs, h => by
    rw [J69_l1_0_succ]
    simp only [b69_l1_0]
    refine ok_cond (fun hc => ?_) (fun hc => ok_ret ⟨rfl, d, hr, fun p q x z h1 h2 h3 => hs p q x z h1 h2 ?_, h⟩)
    · simp only [decide_eq_true_eq] at hc
      refine insS_in n0 n (by omega) hyl hl hl2 (fun S' d' hr' hs' h' => ?_) n0 i d S (by omega) (by omega) (by omega) hr (.of hs) h
      rw [wn (n := i + 1) (by omega) (by omega)]
      exact insS_out n0 n hn hyl hl hl2 m (i + 1) d' S' (by omega) (by omega) hr' hs' h'
    · simp only [decide_eq_false_iff_not] at hc
      omega

theorem insS (n : Nat) (hn : 1000000 < n) {x y : Nat} (hy : y ≤ l) (hx : x ≤ l) (hl : l = d.length) (hl2 : l < 1000000) (h : Hp X S (D b d js :: F)) {xi yi : Int} (hxi : xi = x) (hyi : yi = y) :
    Ok (evF E orcL (n + 3) (.fn 69) [.sl (some (.rw b, 0)) l c, .int .i64 xi, .int .i64 yi] S) (SortsS X F b d js x y (Srt x y)) := by
  subst hxi hyi
  rw [F69 _ _ _ _ _ _ _ (oL rfl)]
  simp only [J69, b69_entry]
  rw [wn (n := x + 1) (by omega) (by omega)]
  exact insS_out (n + 2) n (by omega) hy hl hl2 (n + 2) (x + 1) d S (by omega) (by omega) (.refl _ _ _) (.one _ _ _ (by omega)) h

/-- A heap from a place on; and one but for a place. -/
def Heap (f hi lo : Nat) (d : List Int) : Prop := ∀ i k x y, lo ≤ i → (k = 2 * i + 1 ∨ k = 2 * i + 2) → k < hi → d[f + i]? = some x → d[f + k]? = some y → y ≤ x
def HeapX (f hi lo r : Nat) (d : List Int) : Prop := (∀ i k x y, lo ≤ i → i ≠ r → (k = 2 * i + 1 ∨ k = 2 * i + 2) → k < hi → d[f + i]? = some x → d[f + k]? = some y → y ≤ x) ∧
  (∀ i k x y, lo ≤ i → (r = 2 * i + 1 ∨ r = 2 * i + 2) → (k = 2 * r + 1 ∨ k = 2 * r + 2) → k < hi → d[f + i]? = some x → d[f + k]? = some y → y ≤ x)

theorem HeapX.step {f hi lo r k : Nat} {d : List Int} (h : HeapX f hi lo r d) (hk : k = 2 * r + 1 ∨ k = 2 * r + 2) (hkh : k < hi) (hb : f + hi ≤ d.length) (hlo : lo ≤ r) {u v : Int} (hu : d[f + r]? = some u) (hv : d[f + k]? = some v) (huv : u < v)
    (hmax : ∀ k' y, (k' = 2 * r + 1 ∨ k' = 2 * r + 2) → k' < hi → d[f + k']? = some y → y ≤ v) : HeapX f hi lo k (sw d (f + k) (f + r)) := by
  have h1 : f + k < d.length := by omega
  have h2 : f + r < d.length := by omega
  refine ⟨fun i q x y hi1 hi2 hq hqh hx hy => ?_, fun i q x y hi1 hr hq hqh hx hy => ?_⟩
  · rw [sw_get h1 h2] at hx hy
    rw [if_neg (by omega)] at hx
    by_cases hir : i = r
    · rw [if_pos (by omega), hv] at hx
      cases hx
      by_cases hqk : q = k
      · rw [if_pos (by omega), hu] at hy; cases hy; omega
      · rw [if_neg (by omega), if_neg (by omega)] at hy
        exact hmax q y (by omega) hqh hy
    · rw [if_neg (by omega)] at hx
      rw [if_neg (by omega)] at hy
      by_cases hqr : q = r
      · rw [if_pos (by omega)] at hy
        exact h.2 i k x y hi1 (by omega) hk hkh hx hy
      · rw [if_neg (by omega)] at hy
        exact h.1 i q x y hi1 hir hq hqh hx hy
  · have hir : i = r := by omega
    subst hir
    rw [sw_get h1 h2] at hx hy
    rw [if_neg (by omega), if_pos rfl] at hx
    rw [if_neg (by omega), if_neg (by omega)] at hy
    exact h.1 k q x y (by omega) (by omega) hq hqh hx hy

theorem HeapX.done {f hi lo r : Nat} {d : List Int} (h : HeapX f hi lo r d) (hr : ∀ k x y, (k = 2 * r + 1 ∨ k = 2 * r + 2) → k < hi → d[f + r]? = some x → d[f + k]? = some y → y ≤ x) : Heap f hi lo d := by
  intro i k x y h1 h2 h3 hx hy
  by_cases hir : i = r
  · subst hir; exact hr k x y h2 h3 hx hy
  · exact h.1 i k x y h1 hir h2 h3 hx hy

theorem Heap.top {f hi : Nat} {d : List Int} (h : Heap f hi 0 d) (hb : f + hi ≤ d.length) {t : Int} (ht : d[f]? = some t) : ∀ k, k < hi → ∀ y, d[f + k]? = some y → y ≤ t := by
  intro k
  induction k using Nat.strongRecOn with
  | _ k ih =>
    intro hk y hy
    by_cases h0 : k = 0
    · subst h0; rw [Nat.add_zero, ht] at hy; cases hy; omega
    · obtain ⟨z, hz⟩ : ∃ z, d[f + (k - 1) / 2]? = some z := ⟨_, List.getElem?_eq_getElem (by omega)⟩
      have h1 := h ((k - 1) / 2) k z y (Nat.zero_le _) (by omega) hk hz hy
      have h2 := ih ((k - 1) / 2) (by omega) (by omega) z hz
      omega

theorem siftS_loop (n0 n : Nat) {hi fi lo y : Nat} (hb : fi + hi ≤ l) (hby : fi + hi ≤ y) (hl : l = d0.length) (hl2 : l < 1000000) : ∀ (m r : Nat) (d : List Int) (S : AS), lo ≤ r → hi - r < m → r ≤ 2000000 → SR fi y d d0 → HeapX fi hi lo r d → Hp X S (D b d js :: F) →
    Ok (J80_l1_0 (evF E orcL (n + 2)) n0 m (some (.rw b, 0)) l c hi fi r S) (SortsS X F b d0 js fi y (Heap fi hi lo))
  | 0, r, d, S, hlo, hm, hr, hp, hx, h => by omega
  | m + 1, r, d, S, hlo, hm, hr, hp, hx, h => by
    rw [J80_l1_0_succ]
    simp only [b80_l1_0]
    have hld : l = d.length := by rw [hl, hp.len]
    have e1 : IntKind.wrap .i64 (2 * (r : Int)) = (2 * r : Nat) := wn (by omega) (by omega)
    have e2 : IntKind.wrap .i64 (((2 * r : Nat) : Int) + 1) = (2 * r + 1 : Nat) := wn (by omega) (by omega)
    have e3 : IntKind.wrap .i64 (((2 * r + 1 : Nat) : Int) + 1) = (2 * r + 2 : Nat) := wn (by omega) (by omega)
    simp only [e1, e2, e3]
    refine ok_cond (fun hc => ok_ret ⟨rfl, d, hp, hx.done (fun k x y h1 h2 => ?_), h⟩) (fun hc => ?_)
    · simp only [ge_iff_le, decide_eq_true_eq] at hc
      omega
    simp only [ge_iff_le, decide_eq_false_iff_not] at hc
    have e4 : IntKind.wrap .i64 ((fi : Int) + ((2 * r + 1 : Nat) : Int)) = (fi + (2 * r + 1) : Nat) := wn (by omega) (by omega)
    have e5 : IntKind.wrap .i64 (((fi + (2 * r + 1) : Nat) : Int) + 1) = (fi + (2 * r + 2) : Nat) := wn (by omega) (by omega)
    have e6 : IntKind.wrap .i64 ((fi : Int) + (r : Int)) = (fi + r : Nat) := wn (by omega) (by omega)
    have e7 : IntKind.wrap .i64 ((fi : Int) + ((2 * r + 2 : Nat) : Int)) = (fi + (2 * r + 2) : Nat) := wn (by omega) (by omega)
    simp only [e4, e5, e6, e7]
    have step : ∀ (k : Nat) (v : Int), (k = 2 * r + 1 ∨ k = 2 * r + 2) → k < hi → d[fi + k]? = some v → (∀ k' y, (k' = 2 * r + 1 ∨ k' = 2 * r + 2) → k' < hi → d[fi + k']? = some y → y ≤ v) → ∀ u, d[fi + r]? = some u → u < v → ∀ S', Hp X S' (D b (sw d (fi + k) (fi + r)) js :: F) → Ok (J80_l1_0 (evF E orcL (n + 2)) n0 m (some (.rw b, 0)) l c hi fi k S') (SortsS X F b d0 js fi y (Heap fi hi lo)) :=
      fun k v hk hkh hv hmax u hu huv S' h' => siftS_loop n0 n hb hby hl hl2 m k _ S' (by omega) (by omega) (by omega) (hp.sw (by omega) (by omega) (by omega) (by omega) (by omega) (by omega)) (hx.step hk hkh (by omega) hlo hu hv huv hmax) h'
    have stop : ∀ (v u : Int), d[fi + r]? = some u → ¬ u < v → (∀ k' y, (k' = 2 * r + 1 ∨ k' = 2 * r + 2) → k' < hi → d[fi + k']? = some y → y ≤ v) → Ok (some (AV.tup [], S)) (SortsS X F b d0 js fi y (Heap fi hi lo)) :=
      fun v u hu huv hmax => ok_ret ⟨rfl, d, hp, hx.done (fun k x z h1 h2 h3 h4 => by
        rw [hu] at h3; cases h3
        have := hmax k z h1 h2 h4
        omega), h⟩
    have one : ¬ (2 * r + 2 < hi) → ∀ v, d[fi + (2 * r + 1)]? = some v → ∀ k' y, (k' = 2 * r + 1 ∨ k' = 2 * r + 2) → k' < hi → d[fi + k']? = some y → y ≤ v := by
      intro h2 v hv k' y hk' hkh hy
      have : k' = 2 * r + 1 := by omega
      subst this
      rw [hv] at hy; cases hy; omega
    refine ok_cond (fun hc2 => ?_) (fun hc2 => ?_)
    · simp only [decide_eq_true_eq] at hc2
      refine at_ok h hld (i := fi + (2 * r + 1)) rfl (by omega) (fun v1 hv1 => at_ok h hld (i := fi + (2 * r + 2)) rfl (by omega) (fun v2 hv2 => ?_))
      rw [callB_of (less_eq n v1 v2 S)]
      refine ok_cond (fun hlt => ?_) (fun hlt => ?_)
      · simp only [decide_eq_true_eq] at hlt
        have hmax : ∀ k' y, (k' = 2 * r + 1 ∨ k' = 2 * r + 2) → k' < hi → d[fi + k']? = some y → y ≤ v2 := by
          intro k' y hk' hkh hy
          rcases hk' with rfl | rfl
          · rw [hv1] at hy; cases hy; omega
          · rw [hv2] at hy; cases hy; omega
        refine at_ok h hld (i := fi + r) rfl (by omega) (fun v3 hv3 => at_ok h hld (i := fi + (2 * r + 2)) rfl (by omega) (fun v4 hv4 => ?_))
        rw [callB_of (less_eq n v3 v4 S)]
        rw [hv2] at hv4
        cases hv4
        refine ok_cond (fun hlt2 => stop v2 v3 hv3 (by simpa using hlt2) hmax) (fun hlt2 => ?_)
        exact swapS h hld (i := fi + (2 * r + 2)) (j := fi + r) rfl rfl rfl rfl (by omega) (by omega) (fun S' h' => step _ v2 (.inr rfl) (by omega) hv2 hmax v3 hv3 (by simpa using hlt2) S' h')
      · simp only [decide_eq_false_iff_not] at hlt
        have hmax : ∀ k' y, (k' = 2 * r + 1 ∨ k' = 2 * r + 2) → k' < hi → d[fi + k']? = some y → y ≤ v1 := by
          intro k' y hk' hkh hy
          rcases hk' with rfl | rfl
          · rw [hv1] at hy; cases hy; omega
          · rw [hv2] at hy; cases hy; omega
        refine at_ok h hld (i := fi + r) rfl (by omega) (fun v3 hv3 => at_ok h hld (i := fi + (2 * r + 1)) rfl (by omega) (fun v4 hv4 => ?_))
        rw [callB_of (less_eq n v3 v4 S)]
        rw [hv1] at hv4
        cases hv4
        refine ok_cond (fun hlt2 => stop v1 v3 hv3 (by simpa using hlt2) hmax) (fun hlt2 => ?_)
        exact swapS h hld (i := fi + (2 * r + 1)) (j := fi + r) rfl rfl rfl rfl (by omega) (by omega) (fun S' h' => step _ v1 (.inl rfl) (by omega) hv1 hmax v3 hv3 (by simpa using hlt2) S' h')
    · simp only [decide_eq_false_iff_not] at hc2
      refine at_ok h hld (i := fi + r) rfl (by omega) (fun v3 hv3 => at_ok h hld (i := fi + (2 * r + 1)) rfl (by omega) (fun v4 hv4 => ?_))
      rw [callB_of (less_eq n v3 v4 S)]
      refine ok_cond (fun hlt2 => stop v4 v3 hv3 (by simpa using hlt2) (one (by omega) v4 hv4)) (fun hlt2 => ?_)
      exact swapS h hld (i := fi + (2 * r + 1)) (j := fi + r) rfl rfl rfl rfl (by omega) (by omega) (fun S' h' => step _ v4 (.inl rfl) (by omega) hv4 (one (by omega) v4 hv4) v3 hv3 (by simpa using hlt2) S' h')

theorem siftS (n : Nat) (hn : 1000000 < n) {lo hi fi y : Nat} (hb : fi + hi ≤ l) (hby : fi + hi ≤ y) (hlo : lo ≤ l) (hl : l = d.length) (hl2 : l < 1000000) (hx : HeapX fi hi lo lo d) (h : Hp X S (D b d js :: F)) {a1 a2 a3 : Int} (h1 : a1 = lo) (h2 : a2 = hi) (h3 : a3 = fi) :
    Ok (evF E orcL (n + 3) (.fn 80) [.sl (some (.rw b, 0)) l c, .int .i64 a1, .int .i64 a2, .int .i64 a3] S) (SortsS X F b d js fi y (Heap fi hi lo)) := by
  subst h1 h2 h3
  rw [F80 _ _ _ _ _ _ _ _ (oL rfl)]
  simp only [J80, b80_entry]
  exact siftS_loop (n + 2) n hb hby hl hl2 (n + 2) lo d S (Nat.le_refl _) (by omega) (by omega) (.refl _ _ _) hx h

theorem popS (n : Nat) (hn : 1000000 < n) (n0 : Nat) {fi hi : Nat} (hb : fi + hi ≤ l) (hl : l = d0.length) (hl2 : l < 1000000) : ∀ (m : Nat) (i : Nat) (d : List Int) (S : AS), i < m → i ≤ hi → SR fi (fi + hi) d d0 → Heap fi i 0 d → Srt (fi + i) (fi + hi) d → (∀ p q x y, fi ≤ p → p < fi + i → fi + i ≤ q → q < fi + hi → d[p]? = some x → d[q]? = some y → x ≤ y) → Hp X S (D b d js :: F) →
    Ok (J70_l1_1_1_1_1_0 (evF E orcL (n + 3)) n0 m (some (.rw b, 0)) l c fi 0 ((i : Int) - 1) S) (SortsS X F b d0 js fi (fi + hi) (Srt fi (fi + hi)))
  | 0, i, d, S, hm, hi', hp, hh, hs, hq, h => by omega
  | m + 1, i, d, S, hm, hi', hp, hh, hs, hq, h => by
    rw [J70_l1_1_1_1_1_0_succ]
    simp only [b70_l1_1_1_1_1_0]
    have hld : l = d.length := by rw [hl, hp.len]
    refine ok_cond (fun hc => ?_) (fun hc => ok_ret ⟨rfl, d, hp, ?_, h⟩)
    · simp only [ge_iff_le, decide_eq_true_eq] at hc
      obtain ⟨k, rfl⟩ : ∃ k, i = k + 1 := ⟨i - 1, by omega⟩
      have e0 : (((k + 1 : Nat) : Int) - 1) = (k : Nat) := by omega
      rw [e0]
      have e1 : IntKind.wrap .i64 ((fi : Int) + (k : Int)) = (fi + k : Nat) := wn (by omega) (by omega)
      rw [e1]
      have hfk : fi + k < d.length := by omega
      have hff : fi < d.length := by omega
      obtain ⟨t, ht⟩ : ∃ t, d[fi]? = some t := ⟨_, List.getElem?_eq_getElem hff⟩
      have top := hh.top (by omega) ht
      refine swapS h hld (i := fi + k) (j := fi) rfl rfl rfl rfl (by omega) (by omega) (fun S' h' => ?_)
      have hr1 : SR fi (fi + hi) (sw d (fi + k) fi) d0 := hp.sw (by omega) (by omega) (by omega) (by omega) (by omega) (by omega)
      have hx1 : HeapX fi k 0 0 (sw d (fi + k) fi) := by
        refine ⟨fun i' q x y g1 g2 g3 g4 hx hy => ?_, fun i' q x y g1 g2 => by omega⟩
        rw [sw_get hfk hff] at hx hy
        rw [if_neg (by omega), if_neg (by omega)] at hx hy
        exact hh i' q x y g1 g3 (by omega) hx hy
      obtain ⟨v, S2, e, rfl, d2, hr2, hh2, h2⟩ := siftS n hn (lo := 0) (hi := k) (fi := fi) (y := fi + k) (by omega) (Nat.le_refl _) (Nat.zero_le _) (by simpa using hld) hl2 hx1 h' (c := c) (a1 := 0) (a2 := k) (a3 := fi) rfl rfl rfl
      rw [callT_of e]
      rw [wz (z := (k : Int) - 1) rfl (by omega) (by omega)]
      -- what stands from the place on
      have big : ∀ q y, fi + k ≤ q → q < fi + hi → d2[q]? = some y → (q = fi + k ∧ y = t) ∨ (fi + k + 1 ≤ q ∧ d[q]? = some y) := by
        intro q y g1 g2 hy
        rw [hr2.o q (.inr g1), sw_get hfk hff] at hy
        by_cases hqk : q = fi + k
        · rw [if_pos hqk, ht] at hy; cases hy; exact .inl ⟨hqk, rfl⟩
        · rw [if_neg hqk, if_neg (by omega)] at hy
          exact .inr ⟨by omega, hy⟩
      -- what stands ahead of it
      have small : ∀ p x, fi ≤ p → p < fi + k → d2[p]? = some x → x ≤ t ∧ ∀ q y, fi + k + 1 ≤ q → q < fi + hi → d[q]? = some y → x ≤ y := by
        refine hr2.all (P := fun x => x ≤ t ∧ ∀ q y, fi + k + 1 ≤ q → q < fi + hi → d[q]? = some y → x ≤ y) (fun p x g1 g2 hx => ?_)
        rw [sw_get hfk hff, if_neg (by omega)] at hx
        have : ∃ p', fi ≤ p' ∧ p' < fi + (k + 1) ∧ d[p']? = some x := by
          by_cases hpf : p = fi
          · rw [if_pos hpf] at hx; exact ⟨fi + k, by omega, by omega, hx⟩
          · rw [if_neg hpf] at hx; exact ⟨p, by omega, by omega, hx⟩
        obtain ⟨p', g3, g4, hx'⟩ := this
        refine ⟨?_, fun q y g5 g6 hy => hq p' q x y g3 g4 (by omega) g6 hx' hy⟩
        have := top (p' - fi) (by omega) x (by rw [show fi + (p' - fi) = p' by omega]; exact hx')
        exact this
      refine popS n hn n0 hb hl hl2 m k d2 S2 (by omega) (by omega) ((hr2.wide (Nat.le_refl _) (by omega)).trans hr1) hh2 ?_ ?_ h2
      · intro p q x y g1 g2 g3 hx hy
        rcases big p x g1 (by omega) hx with ⟨rfl, rfl⟩ | ⟨g4, hx'⟩
        · rcases big q y (by omega) g3 hy with ⟨g5, _⟩ | ⟨g5, hy'⟩
          · omega
          · exact hq fi q x y (Nat.le_refl _) (by omega) (by omega) g3 ht hy'
        · rcases big q y (by omega) g3 hy with ⟨g5, _⟩ | ⟨g5, hy'⟩
          · omega
          · exact hs p q x y (by omega) g2 g3 hx' hy'
      · intro p q x y g1 g2 g3 g4 hx hy
        obtain ⟨s1, s2⟩ := small p x g1 g2 hx
        rcases big q y g3 g4 hy with ⟨_, rfl⟩ | ⟨g5, hy'⟩
        · exact s1
        · exact s2 q y g5 g4 hy'
    · simp only [ge_iff_le, decide_eq_false_iff_not] at hc
      have hi0 : i = 0 := by omega
      subst hi0
      exact hs

theorem makeS (n : Nat) (hn : 1000000 < n) (n0 : Nat) (hn0 : 1000000 < n0) {fi hi : Nat} (hb : fi + hi ≤ l) (hl : l = d0.length) (hl2 : l < 1000000) : ∀ (m : Nat) (i : Nat) (d : List Int) (S : AS), i < m → i ≤ hi + 1 → SR fi (fi + hi) d d0 → Heap fi hi i d → Hp X S (D b d js :: F) →
    Ok (J70_l1_1_1_0_1_0 (evF E orcL (n + 3)) n0 m (some (.rw b, 0)) l c fi 0 hi ((i : Int) - 1) S) (SortsS X F b d0 js fi (fi + hi) (Srt fi (fi + hi)))
  | 0, i, d, S, hm, hi, hp, hh, h => by omega
  | m + 1, i, d, S, hm, hi', hp, hh, h => by
    rw [J70_l1_1_1_0_1_0_succ]
    simp only [b70_l1_1_1_0_1_0]
    have hld : l = d.length := by rw [hl, hp.len]
    refine ok_cond (fun hc => ?_) (fun hc => ?_)
    · simp only [ge_iff_le, decide_eq_true_eq] at hc
      obtain ⟨k, rfl⟩ : ∃ k, i = k + 1 := ⟨i - 1, by omega⟩
      have e0 : (((k + 1 : Nat) : Int) - 1) = (k : Nat) := by omega
      rw [e0]
      have hx1 : HeapX fi hi k k d := ⟨fun i' q x y g1 g2 g3 g4 hx hy => hh i' q x y (by omega) g3 g4 hx hy, fun i' q x y g1 g2 => by omega⟩
      obtain ⟨v, S2, e, rfl, d2, hr2, hh2, h2⟩ := siftS n hn (lo := k) (hi := hi) (fi := fi) (y := fi + hi) hb (Nat.le_refl _) (by omega) hld hl2 hx1 h (c := c) (a1 := k) (a2 := hi) (a3 := fi) rfl rfl rfl
      rw [callT_of e]
      rw [wz (z := (k : Int) - 1) rfl (by omega) (by omega)]
      exact makeS n hn n0 hn0 hb hl hl2 m k d2 S2 (by omega) (by omega) (hr2.trans hp) hh2 h2
    · simp only [ge_iff_le, decide_eq_false_iff_not] at hc
      have hi0 : i = 0 := by omega
      subst hi0
      simp only [J70_j1_1_1_1, b70_j1_1_1_1]
      rw [wz (z := (hi : Int) - 1) rfl (by omega) (by omega)]
      exact popS n hn n0 hb hl hl2 n0 hi d S (by omega) (Nat.le_refl _) hp hh (.one _ _ _ (by omega)) (fun p q x y g1 g2 g3 g4 => by omega) h

theorem heapS (n : Nat) (hn : 1000000 < n) {x y : Nat} (hxy : x ≤ y) (hy : y ≤ l) (hl : l = d.length) (hl2 : l < 1000000) (h : Hp X S (D b d js :: F)) {xi yi : Int} (hxi : xi = x) (hyi : yi = y) :
    Ok (evF E orcL (n + 4) (.fn 70) [.sl (some (.rw b, 0)) l c, .int .i64 xi, .int .i64 yi] S) (SortsS X F b d js x y (Srt x y)) := by
  subst hxi hyi
  rw [F70 _ _ _ _ _ _ _ (oL rfl)]
  simp only [J70, b70_entry]
  rw [wn (x := (y : Int) - (x : Int)) (n := y - x) (by omega) (by omega)]
  rw [wz (x := ((y - x : Nat) : Int) - 1) rfl (by omega) (by omega)]
  have e : Int.tdiv (((y - x : Nat) : Int) - 1) 2 = ((((y - x - 1) / 2 : Nat) + 1 : Nat) : Int) - 1 ∨ (y - x = 0 ∧ Int.tdiv (((y - x : Nat) : Int) - 1) 2 = 0) := by
    by_cases h0 : y - x = 0
    · right; rw [h0]; exact ⟨rfl, rfl⟩
    · left
      rw [Int.tdiv_eq_ediv_of_nonneg (by omega)]; omega
  have key := fun (i : Nat) (hi1 : i ≤ y - x + 1) (hi2 : Heap x (y - x) i d) => makeS (n := n) hn (n + 3) (by omega) (fi := x) (hi := y - x) (by omega) hl hl2 (n + 3) i d S (by omega) hi1 (.refl _ _ _) hi2 h (c := c)
  rw [show x + (y - x) = y by omega] at key
  rcases e with e | ⟨h0, e⟩
  · rw [e, wz rfl (by omega) (by omega)]
    exact key _ (by omega) (fun i k u v g1 g2 g3 => by omega)
  · rw [e, show IntKind.wrap .i64 0 = ((1 : Nat) : Int) - 1 from wz (by omega) (by omega) (by omega)]
    exact key 1 (by omega) (fun i k u v g1 g2 g3 => by omega)

end

end Go.Al

namespace Go.Al
open Go.Gr

section
variable {X : Cx} {S : AS} {F : List Ent} {b l q : Nat} {c : Cap} {d d0 : List Int} {js : List AV} {Q : AV → AS → Prop} {s : Int}

/-- A scan upwards, with what was passed, and why it stops. -/
theorem upS {L : Nat → Int → Option (AV × AS)} {K : Int → Option (AV × AS)} {lo J : Nat} {P R : Nat → Prop}
    (hs : ∀ m i, lo ≤ i → i ≤ J → P i → (i < J → P (i + 1) → Ok (L m ((i + 1 : Nat) : Int)) Q) → (R i → Ok (K i) Q) → Ok (L (m + 1) i) Q) (hK : ∀ i : Nat, lo ≤ i → i ≤ J → P i → R i → Ok (K i) Q) : ∀ (m i : Nat), J - i < m → lo ≤ i → i ≤ J → P i → Ok (L m i) Q
  | 0, i, hm, h1, h2, hp => by omega
  | m + 1, i, hm, h1, h2, hp => hs m i h1 h2 hp (fun hlt hp' => upS hs hK m (i + 1) (by omega) (by omega) (by omega) hp') (hK i h1 h2 hp)
/-- A scan downwards, with what was passed, and why it stops. -/
theorem downS {L : Nat → Int → Option (AV × AS)} {K : Int → Option (AV × AS)} {lo J0 : Nat} {P R : Nat → Prop}
    (hs : ∀ m J, lo ≤ J → J ≤ J0 → P J → (lo < J → P (J - 1) → Ok (L m (((J - 1 : Nat) : Int) - 1)) Q) → (R J → Ok (K ((J : Int) - 1)) Q) → Ok (L (m + 1) ((J : Int) - 1)) Q) (hK : ∀ J : Nat, lo ≤ J → J ≤ J0 → P J → R J → Ok (K ((J : Int) - 1)) Q) : ∀ (m J : Nat), J < m → lo ≤ J → J ≤ J0 → P J → Ok (L m ((J : Int) - 1)) Q
  | 0, J, hm, h1, h2, hp => by omega
  | m + 1, J, hm, h1, h2, hp => hs m J h1 h2 hp (fun hlt hp' => downS hs hK m (J - 1) (by omega) (by omega) (by omega) hp') (hK J h1 h2 hp)

theorem revS_loop (n0 : Nat) (call : CallA) {x y : Nat} (hyl : y ≤ l) (hl : l = d0.length) (hl2 : l < 1000000) : ∀ (m i J : Nat) (d : List Int) (S : AS), J < m → J ≤ y → x ≤ i → i ≤ l → SR x y d d0 → Hp X S (D b d js :: F) →
    Ok (J73_l1_1_0 call n0 m (some (.rw b, 0)) l c i ((J : Int) - 1) S) (SortsS X F b d0 js x y fun _ => True)
  | 0, i, J, d, S, hm, hJ, hxi, hi, hp, h => by omega
  | m + 1, i, J, d, S, hm, hJ, hxi, hi, hp, h => by
    rw [J73_l1_1_0_succ]
    simp only [b73_l1_1_0]
    refine ok_cond (fun hc => ?_) (fun _ => ok_ret ⟨rfl, d, hp, trivial, h⟩)
    simp only [decide_eq_true_eq] at hc
    obtain ⟨k, rfl⟩ : ∃ k, J = k + 1 := ⟨J - 1, by omega⟩
    have e0 : (((k + 1 : Nat) : Int) - 1) = (k : Nat) := by omega
    rw [e0]
    have hld : l = d.length := by rw [hl, hp.len]
    refine swapS h hld (i := k) (j := i) rfl rfl rfl rfl (by omega) (by omega) (fun S' h' => ?_)
    rw [wn (n := i + 1) (by omega) (by omega), wz (z := (k : Int) - 1) rfl (by omega) (by omega)]
    exact revS_loop n0 call hyl hl hl2 m (i + 1) k _ S' (by omega) (by omega) (by omega) (by omega) (hp.sw (by omega) (by omega) (by omega) (by omega) (by omega) (by omega)) h'

theorem revS (n : Nat) (hn : 1000000 < n) {x y : Nat} (hx : x ≤ l) (hy : y ≤ l) (hl : l = d.length) (hl2 : l < 1000000) (h : Hp X S (D b d js :: F)) {xi yi : Int} (hxi : xi = x) (hyi : yi = y) :
    Ok (evF E orcL (n + 1) (.fn 73) [.sl (some (.rw b, 0)) l c, .int .i64 xi, .int .i64 yi] S) (SortsS X F b d js x y fun _ => True) := by
  subst hxi hyi
  rw [F73 _ _ _ _ _ _ _ (oL rfl)]
  simp only [J73, b73_entry]
  rw [wz (z := (y : Int) - 1) rfl (by omega) (by omega)]
  exact revS_loop n _ hy hl hl2 n x y d S (by omega) (Nat.le_refl _) (Nat.le_refl _) hx (.refl _ _ _) h

theorem breakS_loop (n n0 : Nat) {x L M : Nat} (hL : 8 ≤ L) (hxl : x + L ≤ l) (hM : 1 ≤ M) (hM2 : M ≤ 2 * L) (hL2 : L < 256) (hl : l = d0.length) (hl2 : l < 1000000) : ∀ (m i : Nat) (d : List Int) (S : AS) (s : Int), x + L / 4 * 2 + 2 - i < m → x ≤ i → SR x (x + L) d d0 → Hp X S (D b d js :: C q [.int .u64 s] :: F) →
    Ok (J71_l1_1_0_1_1_1_0 (evF E orcL (n + 1)) n0 m (some (.rw b, 0)) l c x L (some (.rw q, 0)) M i S) (SortsS X F b d0 js x (x + L) fun _ => True)
  | 0, i, d, S, s, hm, hi, hp, h => by omega
  | m + 1, i, d, S, s, hm, hi, hp, h => by
    rw [J71_l1_1_0_1_1_1_0_succ]
    simp only [b71_l1_1_0_1_1_1_0]
    have e2 : IntKind.wrap .i64 (Int.tdiv (L : Int) 4) = (L / 4 : Nat) := by rw [tdiv4]; exact wn rfl (by omega)
    have f2 : IntKind.wrap .i64 (((L / 4 : Nat) : Int) * 2) = (L / 4 * 2 : Nat) := wn (by omega) (by omega)
    have g2 : IntKind.wrap .i64 ((x : Int) + ((L / 4 * 2 : Nat) : Int)) = (x + L / 4 * 2 : Nat) := wn (by omega) (by omega)
    have g3 : IntKind.wrap .i64 (((x + L / 4 * 2 : Nat) : Int) + 1) = (x + L / 4 * 2 + 1 : Nat) := wn (by omega) (by omega)
    simp only [e2, f2, g2, g3]
    refine ok_cond (fun hc => ?_) (fun _ => ok_ret ⟨rfl, d, hp, trivial, (h.re (M := C q [.int .u64 s] :: D b d js :: F) (by intro p; simp only [List.countP_cons, C]; omega)).drop1⟩)
    simp only [decide_eq_true_eq] at hc
    obtain ⟨v, S1, e, r, rfl, h1⟩ := next_ok n h
    rw [callI_of e]
    have hm1 : IntKind.wrap .u64 ((M : Int) - 1) = ((M - 1 : Nat) : Int) := by rw [wu (by omega) (by omega)]; omega
    obtain ⟨k, hk1, hk2⟩ := andI_le r (M := M - 1) (by omega)
    have hw : IntKind.wrap .i64 (k : Int) = (k : Nat) := wn rfl (by omega)
    simp only [hm1, hk1, hw]
    have hld : l = d.length := by rw [hl, hp.len]
    have go : ∀ (o : Nat), o < L → ∀ (w w' : Int), w = ((x + o : Nat) : Int) → w' = ((x + o : Nat) : Int) → Ok (ixSl 1 (some (.rw b, 0)) l w fun p8 => ldI .i64 S1 p8.1 p8.2 fun v9 => ixSl 1 (some (.rw b, 0)) l (i : Int) fun p10 => ldI .i64 S1 p10.1 p10.2 fun v11 => ixSl 1 (some (.rw b, 0)) l (i : Int) fun p12 => S1.stn p12.1 p12.2 [(.int .i64 v9)] fun S13 => ixSl 1 (some (.rw b, 0)) l w' fun p14 => S13.stn p14.1 p14.2 [(.int .i64 v11)] fun S15 => J71_l1_1_0_1_1_1_0 (evF E orcL (n + 1)) n0 m (some (.rw b, 0)) l c x L (some (.rw q, 0)) M (IntKind.wrap .i64 (i + 1)) S15) (SortsS X F b d0 js x (x + L) fun _ => True) := by
      intro o ho w w' hw hw'
      refine swapS h1 hld (i := x + o) (j := i) hw rfl hw' rfl (by omega) (by omega) (fun S' h' => ?_)
      rw [wn (n := i + 1) (by omega) (by omega)]
      exact breakS_loop n n0 hL hxl hM hM2 hL2 hl hl2 m (i + 1) _ S' r (by omega) (by omega) (hp.sw (by omega) (by omega) (by omega) (by omega) (by omega) (by omega)) h'
    refine ok_cond (fun hc2 => ?_) (fun hc2 => ?_)
    · simp only [ge_iff_le, decide_eq_true_eq] at hc2
      have e5 : IntKind.wrap .i64 ((k : Int) - (L : Int)) = (k - L : Nat) := wn (by omega) (by omega)
      have e6 : IntKind.wrap .i64 ((x : Int) + ((k - L : Nat) : Int)) = (x + (k - L) : Nat) := wn (by omega) (by omega)
      simp only [e5, e6]
      exact go (k - L) (by omega) _ _ rfl rfl
    · simp only [ge_iff_le, decide_eq_false_iff_not] at hc2
      have e6 : IntKind.wrap .i64 ((x : Int) + (k : Int)) = (x + k : Nat) := wn (by omega) (by omega)
      simp only [e6]
      exact go k (by omega) _ _ rfl rfl

theorem breakS (n : Nat) (hn : 1000000 < n) {x y : Nat} (hxy : x + 12 < y) (hy : y ≤ l) (hl : l = d.length) (hl2 : l < 256) (h : Hp X S (D b d js :: F)) {xi yi : Int} (hxi : xi = x) (hyi : yi = y) :
    Ok (evF E orcL (n + 4) (.fn 71) [.sl (some (.rw b, 0)) l c, .int .i64 xi, .int .i64 yi] S) (SortsS X F b d js x y fun _ => True) := by
  subst hxi hyi
  rw [F71 _ _ _ _ _ _ _ (oL rfl)]
  simp only [J71, b71_entry]
  have e1 : IntKind.wrap .i64 ((y : Int) - (x : Int)) = (y - x : Nat) := wn (by omega) (by omega)
  have e2 : IntKind.wrap .i64 (Int.tdiv ((y - x : Nat) : Int) 4) = ((y - x) / 4 : Nat) := by rw [tdiv4]; exact wn rfl (by omega)
  have f2 : IntKind.wrap .i64 ((((y - x) / 4 : Nat) : Int) * 2) = ((y - x) / 4 * 2 : Nat) := wn (by omega) (by omega)
  have g2 : IntKind.wrap .i64 ((x : Int) + (((y - x) / 4 * 2 : Nat) : Int)) = (x + (y - x) / 4 * 2 : Nat) := wn (by omega) (by omega)
  have g3 : IntKind.wrap .i64 (((x + (y - x) / 4 * 2 : Nat) : Int) - 1) = (x + (y - x) / 4 * 2 - 1 : Nat) := wn (by omega) (by omega)
  simp only [e1, e2, f2, g2, g3]
  refine ok_true (by simp; omega) (ok_newA h (fun q S1 h1 => ?_))
  refine ok_stn h1 (by simp) (d := [_]) (by simp [splice]; rfl) (fun S2 h2 => ?_)
  obtain ⟨M, e, hM1, hM2⟩ := pow2_ok (S := S2) n (L := y - x) (by omega) (by omega)
  rw [callI_of e]
  have := breakS_loop (n + 2) (n + 3) (x := x) (L := y - x) (M := M) (by omega) (by omega) hM1 hM2 (by omega) hl (by omega) (n + 3) (x + (y - x) / 4 * 2 - 1) d S2 (IntKind.wrap .u64 ((y - x : Nat) : Int)) (by omega) (by omega) (.refl _ _ _) (h2.re (M := D b d js :: C q [.int .u64 (IntKind.wrap .u64 ((y - x : Nat) : Int))] :: F) (by intro p; simp only [List.countP_cons, C]; omega)) (c := c)
  rw [show x + (y - x) = y by omega] at this
  exact this

/-- What lies below a place, and what from another place on. -/
abbrev Lows (a i : Nat) (p : Int) (d : List Int) : Prop := ∀ k x, a + 1 ≤ k → k < i → d[k]? = some x → x < p
abbrev Tops (J y : Nat) (p : Int) (d : List Int) : Prop := ∀ k x, J ≤ k → k < y → d[k]? = some x → p ≤ x

/-- A stretch parted at a place. -/
abbrev Parted (x y r : Nat) (d : List Int) : Prop := ∀ p, d[r]? = some p → (∀ k v, x ≤ k → k < r → d[k]? = some v → v ≤ p) ∧ (∀ k v, r < k → k < y → d[k]? = some v → p ≤ v)
abbrev PartsS (X : Cx) (F : List Ent) (b : Nat) (d0 : List Int) (js : List AV) (x y : Nat) : AV → AS → Prop := fun v S' => ∃ (r : Nat) (t : Bool), v = .tup [.int .i64 r, .bool t] ∧ x ≤ r ∧ r < y ∧ ∃ d', SR x y d' d0 ∧ Parted x y r d' ∧ Hp X S' (D b d' js :: F)

theorem parted_of {a i y : Nat} {d : List Int} (hai : a + 1 ≤ i) (hiy : i ≤ y) (hy : y ≤ d.length) {p : Int} (hp : d[a]? = some p) (h1 : Lows a i p d) (h2 : Tops i y p d) : Parted a y (i - 1) (sw d a (i - 1)) := by
  have g1 : a < d.length := by omega
  have g2 : i - 1 < d.length := by omega
  intro v hv
  have hvp : v = p := by
    rw [sw_get g1 g2] at hv
    by_cases h : i - 1 = a
    · rw [if_pos h] at hv
      rw [h, hp] at hv; cases hv; rfl
    · rw [if_neg h, if_pos rfl, hp] at hv; cases hv; rfl
  subst hvp
  refine ⟨fun k w g3 g4 hw => ?_, fun k w g3 g4 hw => ?_⟩
  · rw [sw_get g1 g2] at hw
    by_cases h : k = a
    · rw [if_pos h] at hw
      have := h1 (i - 1) w (by omega) (by omega) hw
      omega
    · rw [if_neg h, if_neg (by omega)] at hw
      have := h1 k w (by omega) (by omega) hw
      omega
  · rw [sw_get g1 g2, if_neg (by omega), if_neg (by omega)] at hw
    exact h2 k w (by omega) g4 hw

theorem swap_parts {a i J y : Nat} {d : List Int} {p : Int} (hai : a + 1 ≤ i) (hiJ : i + 1 < J) (hJy : J ≤ y) (hy : y ≤ d.length) (h1 : Lows a i p d) (h2 : Tops J y p d) (h3 : ∀ v, d[i]? = some v → p ≤ v) (h4 : ∀ v, d[J - 1]? = some v → v < p) : Lows a (i + 1) p (sw d (J - 1) i) ∧ Tops (J - 1) y p (sw d (J - 1) i) := by
  have g1 : J - 1 < d.length := by omega
  have g2 : i < d.length := by omega
  refine ⟨fun k x g3 g4 hx => ?_, fun k x g3 g4 hx => ?_⟩
  · rw [sw_get g1 g2, if_neg (by omega)] at hx
    by_cases hk : k = i
    · rw [if_pos hk] at hx; exact h4 x hx
    · rw [if_neg hk] at hx; exact h1 k x g3 (by omega) hx
  · rw [sw_get g1 g2] at hx
    by_cases hk : k = J - 1
    · rw [if_pos hk] at hx; exact h3 x hx
    · rw [if_neg hk, if_neg (by omega)] at hx; exact h2 k x (by omega) g4 hx

theorem partS_rest (n n0 : Nat) (hn0 : 1000000 < n0) {a y : Nat} (hay : a < y) (hy : y ≤ l) (hl : l = d0.length) (hl2 : l < 1000000) {p : Int} : ∀ (m i J : Nat) (d : List Int) (S : AS), J - i < m → a + 1 ≤ i → i ≤ J → J ≤ y → SR a y d d0 → d[a]? = some p → Lows a i p d → Tops J y p d → Hp X S (D b d js :: F) →
    Ok (J77_l1_1_1_1_1_1_1_1_1_0_0 (evF E orcL (n + 2)) n0 m (some (.rw b, 0)) l c a i ((J : Int) - 1) S) (PartsS X F b d0 js a y)
  | 0, i, J, d, S, hm, ha, hi, hJ, hp, hpa, hlo, hto, h => by omega
  | m + 1, i, J, d, S, hm, ha, hi, hJ, hp, hpa, hlo, hto, h => by
    have hld : l = d.length := by rw [hl, hp.len]
    rw [J77_l1_1_1_1_1_1_1_1_1_0_0_succ]
    simp only [b77_l1_1_1_1_1_1_1_1_1_0_0]
    refine upS (lo := i) (J := J) (P := fun i => Lows a i p d) (R := fun i => i < J → ∀ v, d[i]? = some v → p ≤ v) (L := fun k i => J77_l1_1_1_1_1_1_1_1_1_0_0_0_0_0_0 (evF E orcL (n + 2)) n0 (J77_l1_1_1_1_1_1_1_1_1_0_0 (evF E orcL (n + 2)) n0 m) k (some (.rw b, 0)) l c a i ((J : Int) - 1) S) (K := fun i => J77_l1_1_1_1_1_1_1_1_1_0_0_0_0_1_0_0 (evF E orcL (n + 2)) n0 (J77_l1_1_1_1_1_1_1_1_1_0_0 (evF E orcL (n + 2)) n0 m) n0 (some (.rw b, 0)) l c a i ((J : Int) - 1) S) (fun k i h1 h2 hP hL hK => ?_) (fun i h1 h2 hP hR => ?_) n0 i (by omega) (Nat.le_refl _) hi hlo
    · rw [J77_l1_1_1_1_1_1_1_1_1_0_0_0_0_0_0_succ]
      simp only [b77_l1_1_1_1_1_1_1_1_1_0_0_0_0_0_0]
      refine ok_cond (fun hc => ?_) (fun hc => hK (fun hlt => by simp only [decide_eq_false_iff_not] at hc; omega))
      simp only [decide_eq_true_eq] at hc
      refine at_ok h hld (i := i) rfl (by omega) (fun v1 hv1 => at_ok h hld (i := a) rfl (by omega) (fun v2 hv2 => ?_))
      rw [callB_of (less_eq n v1 v2 S)]
      rw [hpa] at hv2
      cases hv2
      refine ok_cond (fun hlt => ?_) (fun hlt => hK (fun _ v hv => by rw [hv1] at hv; cases hv; simpa using hlt))
      simp only [decide_eq_true_eq] at hlt
      rw [wn (n := i + 1) (by omega) (by omega)]
      refine hL (by omega) (fun k x g1 g2 hx => ?_)
      by_cases hki : k = i
      · subst hki
        rw [hv1] at hx; cases hx; exact hlt
      · exact hP k x g1 (by omega) hx
    · refine downS (lo := i) (J0 := J) (P := fun J => Tops J y p d) (R := fun J' => i < J' → ∀ v, d[J' - 1]? = some v → v < p) (L := fun k w => J77_l1_1_1_1_1_1_1_1_1_0_0_0_0_1_0_0 (evF E orcL (n + 2)) n0 (J77_l1_1_1_1_1_1_1_1_1_0_0 (evF E orcL (n + 2)) n0 m) k (some (.rw b, 0)) l c a i w S) (K := fun w => J77_j1_1_1_1_1_1_1_1_1_0_0_0_0_1_1 (evF E orcL (n + 2)) n0 (J77_l1_1_1_1_1_1_1_1_1_0_0 (evF E orcL (n + 2)) n0 m) (some (.rw b, 0)) l c a i w S) (fun k J' h3 h4 hP2 hL hK => ?_) (fun J' h3 h4 hP2 hR2 => ?_) n0 J (by omega) h2 (Nat.le_refl _) hto
      · rw [J77_l1_1_1_1_1_1_1_1_1_0_0_0_0_1_0_0_succ]
        simp only [b77_l1_1_1_1_1_1_1_1_1_0_0_0_0_1_0_0]
        refine ok_cond (fun hc => ?_) (fun hc => hK (fun hlt => by simp only [decide_eq_false_iff_not] at hc; omega))
        simp only [decide_eq_true_eq] at hc
        refine at_ok h hld (i := J' - 1) (by omega) (by omega) (fun v1 hv1 => at_ok h hld (i := a) rfl (by omega) (fun v2 hv2 => ?_))
        rw [callB_of (less_eq n v1 v2 S)]
        rw [hpa] at hv2
        cases hv2
        refine ok_cond (fun hlt => ?_) (fun hlt => hK (fun _ v hv => by rw [hv1] at hv; cases hv; simpa using hlt))
        simp only [Bool.not_eq_true', decide_eq_false_iff_not] at hlt
        rw [wz (z := ((J' - 1 : Nat) : Int) - 1) (by omega) (by omega) (by omega)]
        refine hL (by omega) (fun k x g1 g2 hx => ?_)
        by_cases hki : k = J' - 1
        · subst hki
          rw [hv1] at hx; cases hx; omega
        · exact hP2 k x (by omega) g2 hx
      · simp only [J77_j1_1_1_1_1_1_1_1_1_0_0_0_0_1_1, b77_j1_1_1_1_1_1_1_1_1_0_0_0_0_1_1]
        refine ok_cond (fun hc => ?_) (fun hc => ?_)
        · simp only [gt_iff_lt, decide_eq_true_eq] at hc
          have hJi : J' = i := by omega
          subst hJi
          simp only [J77_j1_1_1_1_1_1_1_1_1_1, b77_j1_1_1_1_1_1_1_1_1_1]
          refine swapS h hld (i := a) (j := J' - 1) rfl (by omega) rfl (by omega) (by omega) (by omega) (fun S' h' => ok_ret ⟨J' - 1, false, ?_, by omega, by omega, _, hp.sw (by omega) (by omega) (by omega) (by omega) (by omega) (by omega), parted_of (by omega) (by omega) (by omega) hpa hP hP2, h'⟩)
          rw [show ((J' : Int) - 1) = ((J' - 1 : Nat) : Int) by omega]
        simp only [gt_iff_lt, decide_eq_false_iff_not] at hc
        have hlt2 : i + 1 < J' := by
          by_cases hij : i + 1 = J'
          · obtain ⟨v, hv⟩ : ∃ v, d[i]? = some v := ⟨_, List.getElem?_eq_getElem (by omega)⟩
            have q1 := hR (by omega) v hv
            have q2 := hR2 (by omega) v (by rw [show J' - 1 = i by omega]; exact hv)
            omega
          · omega
        obtain ⟨s1, s2⟩ := swap_parts (by omega) hlt2 (by omega) (by omega) hP hP2 (hR (by omega)) (hR2 (by omega))
        refine swapS h hld (i := J' - 1) (j := i) (by omega) rfl (by omega) rfl (by omega) (by omega) (fun S' h' => ?_)
        rw [wn (n := i + 1) (by omega) (by omega), wz (z := ((J' - 1 : Nat) : Int) - 1) (by omega) (by omega) (by omega)]
        exact partS_rest n n0 hn0 hay hy hl hl2 m (i + 1) (J' - 1) _ S' (by omega) (by omega) (by omega) (by omega) (hp.sw (by omega) (by omega) (by omega) (by omega) (by omega) (by omega)) (by rw [sw_get (by omega) (by omega), if_neg (by omega), if_neg (by omega)]; exact hpa) s1 s2 h'

theorem partS (n : Nat) (hn : 1000000 < n) {x y p : Nat} (hxy : x < y) (hy : y ≤ l) (hpx : x ≤ p) (hpy : p < y) (hl : l = d.length) (hl2 : l < 1000000) (h : Hp X S (D b d js :: F)) {xi yi pi : Int} (hxi : xi = x) (hyi : yi = y) (hpi : pi = p) :
    Ok (evF E orcL (n + 3) (.fn 77) [.sl (some (.rw b, 0)) l c, .int .i64 xi, .int .i64 yi, .int .i64 pi] S) (PartsS X F b d js x y) := by
  subst hxi hyi hpi
  rw [F77 _ _ _ _ _ _ _ _ (oL rfl)]
  simp only [J77, b77_entry]
  refine swapS h hl (i := p) (j := x) rfl rfl rfl rfl (by omega) (by omega) (fun S h => ?_)
  rw [wn (n := x + 1) (by omega) (by omega), wz (z := (y : Int) - 1) rfl (by omega) (by omega)]
  have hsr : SR x y (sw d p x) d := (SR.refl x y d).sw (by omega) (by omega) (by omega) (by omega) (by omega) (by omega)
  have hld : l = (sw d p x).length := by simpa using hl
  obtain ⟨pv, hpa⟩ : ∃ pv, (sw d p x)[x]? = some pv := ⟨_, List.getElem?_eq_getElem (by omega)⟩
  generalize sw d p x = d1 at h hsr hld hpa
  refine upS (lo := x + 1) (J := y) (P := fun i => Lows x i pv d1) (R := fun i => i < y → ∀ v, d1[i]? = some v → pv ≤ v) (L := fun k i => J77_l1_1_1_0_0 (evF E orcL (n + 2)) (n + 2) k (some (.rw b, 0)) l c x i ((y : Int) - 1) S) (K := fun i => J77_l1_1_1_1_0_0 (evF E orcL (n + 2)) (n + 2) (n + 2) (some (.rw b, 0)) l c x i ((y : Int) - 1) S) (fun k i h1 h2 hP hL hK => ?_) (fun i h1 h2 hP hR => ?_) (n + 2) (x + 1) (by omega) (Nat.le_refl _) (by omega) (fun k x g1 g2 => by omega)
  · rw [J77_l1_1_1_0_0_succ]
    simp only [b77_l1_1_1_0_0]
    refine ok_cond (fun hc => ?_) (fun hc => hK (fun hlt => by simp only [decide_eq_false_iff_not] at hc; omega))
    simp only [decide_eq_true_eq] at hc
    refine at_ok h hld (i := i) rfl (by omega) (fun v1 hv1 => at_ok h hld (i := x) rfl (by omega) (fun v2 hv2 => ?_))
    rw [callB_of (less_eq n v1 v2 S)]
    rw [hpa] at hv2
    cases hv2
    refine ok_cond (fun hlt => ?_) (fun hlt => hK (fun _ v hv => by rw [hv1] at hv; cases hv; simpa using hlt))
    simp only [decide_eq_true_eq] at hlt
    rw [wn (n := i + 1) (by omega) (by omega)]
    refine hL (by omega) (fun k x g1 g2 hx => ?_)
    by_cases hki : k = i
    · subst hki
      rw [hv1] at hx; cases hx; exact hlt
    · exact hP k x g1 (by omega) hx
  · refine downS (lo := i) (J0 := y) (P := fun J => Tops J y pv d1) (R := fun J' => i < J' → ∀ v, d1[J' - 1]? = some v → v < pv) (L := fun k w => J77_l1_1_1_1_0_0 (evF E orcL (n + 2)) (n + 2) k (some (.rw b, 0)) l c x i w S) (K := fun w => J77_j1_1_1_1_1 (evF E orcL (n + 2)) (n + 2) (some (.rw b, 0)) l c x i w S) (fun k J' h3 h4 hP2 hL hK => ?_) (fun J' h3 h4 hP2 hR2 => ?_) (n + 2) y (by omega) h2 (Nat.le_refl _) (fun k x g1 g2 => by omega)
    · rw [J77_l1_1_1_1_0_0_succ]
      simp only [b77_l1_1_1_1_0_0]
      refine ok_cond (fun hc => ?_) (fun hc => hK (fun hlt => by simp only [decide_eq_false_iff_not] at hc; omega))
      simp only [decide_eq_true_eq] at hc
      refine at_ok h hld (i := J' - 1) (by omega) (by omega) (fun v1 hv1 => at_ok h hld (i := x) rfl (by omega) (fun v2 hv2 => ?_))
      rw [callB_of (less_eq n v1 v2 S)]
      rw [hpa] at hv2
      cases hv2
      refine ok_cond (fun hlt => ?_) (fun hlt => hK (fun _ v hv => by rw [hv1] at hv; cases hv; simpa using hlt))
      simp only [Bool.not_eq_true', decide_eq_false_iff_not] at hlt
      rw [wz (z := ((J' - 1 : Nat) : Int) - 1) (by omega) (by omega) (by omega)]
      refine hL (by omega) (fun k x g1 g2 hx => ?_)
      by_cases hki : k = J' - 1
      · subst hki
        rw [hv1] at hx; cases hx; omega
      · exact hP2 k x (by omega) g2 hx
    · simp only [J77_j1_1_1_1_1, b77_j1_1_1_1_1]
      refine ok_cond (fun hc => ?_) (fun hc => ?_)
      · simp only [gt_iff_lt, decide_eq_true_eq] at hc
        have hJi : J' = i := by omega
        subst hJi
        have e := parted_of (a := x) (i := J') (y := y) (by omega) (by omega) (by omega) hpa hP hP2
        refine swapS h hld (i := x) (j := J' - 1) rfl (by omega) rfl (by omega) (by omega) (by omega) (fun S' h' => ok_ret ⟨J' - 1, true, ?_, by omega, by omega, _, hsr.sw (by omega) (by omega) (by omega) (by omega) (by omega) (by omega), e, h'⟩)
        rw [show ((J' : Int) - 1) = ((J' - 1 : Nat) : Int) by omega]
      simp only [gt_iff_lt, decide_eq_false_iff_not] at hc
      have hlt2 : i + 1 < J' := by
        by_cases hij : i + 1 = J'
        · obtain ⟨v, hv⟩ : ∃ v, d1[i]? = some v := ⟨_, List.getElem?_eq_getElem (by omega)⟩
          have q1 := hR (by omega) v hv
          have q2 := hR2 (by omega) v (by rw [show J' - 1 = i by omega]; exact hv)
          omega
        · omega
      obtain ⟨s1, s2⟩ := swap_parts (by omega) hlt2 (by omega) (by omega) hP hP2 (hR (by omega)) (hR2 (by omega))
      refine swapS h hld (i := J' - 1) (j := i) (by omega) rfl (by omega) rfl (by omega) (by omega) (fun S' h' => ?_)
      rw [wn (n := i + 1) (by omega) (by omega), wz (z := ((J' - 1 : Nat) : Int) - 1) (by omega) (by omega) (by omega)]
      exact partS_rest n (n + 2) (by omega) hxy hy hl hl2 (n + 2) (i + 1) (J' - 1) _ S' (by omega) (by omega) (by omega) (by omega) (hsr.sw (by omega) (by omega) (by omega) (by omega) (by omega) (by omega)) (by rw [sw_get (by omega) (by omega), if_neg (by omega), if_neg (by omega)]; exact hpa) s1 s2 h'

end

end Go.Al

namespace Go.Al
open Go.Gr

section
variable {X : Cx} {S : AS} {F : List Ent} {b l q : Nat} {c : Cap} {d d0 : List Int} {js : List AV} {Q : AV → AS → Prop} {s : Int}

abbrev LowE (a i : Nat) (p : Int) (d : List Int) : Prop := ∀ k x, a + 1 ≤ k → k < i → d[k]? = some x → x ≤ p
abbrev TopE (J y : Nat) (p : Int) (d : List Int) : Prop := ∀ k x, J ≤ k → k < y → d[k]? = some x → p < x
abbrev EquS (X : Cx) (F : List Ent) (b : Nat) (d0 : List Int) (js : List AV) (x y : Nat) (p : Int) : AV → AS → Prop := fun v S' => ∃ (r : Nat), v = .int .i64 r ∧ x < r ∧ r ≤ y ∧ ∃ d', SR x y d' d0 ∧ (∀ k v, x ≤ k → k < r → d'[k]? = some v → v ≤ p) ∧ (∀ k v, r ≤ k → k < y → d'[k]? = some v → p < v) ∧ Hp X S' (D b d' js :: F)

theorem swap_partE {a i J y : Nat} {d : List Int} {p : Int} (hai : a + 1 ≤ i) (hiJ : i + 1 < J) (hJy : J ≤ y) (hy : y ≤ d.length) (h1 : LowE a i p d) (h2 : TopE J y p d) (h3 : ∀ v, d[i]? = some v → p < v) (h4 : ∀ v, d[J - 1]? = some v → v ≤ p) : LowE a (i + 1) p (sw d (J - 1) i) ∧ TopE (J - 1) y p (sw d (J - 1) i) := by
  have g1 : J - 1 < d.length := by omega
  have g2 : i < d.length := by omega
  refine ⟨fun k x g3 g4 hx => ?_, fun k x g3 g4 hx => ?_⟩
  · rw [sw_get g1 g2, if_neg (by omega)] at hx
    by_cases hk : k = i
    · rw [if_pos hk] at hx; exact h4 x hx
    · rw [if_neg hk] at hx; exact h1 k x g3 (by omega) hx
  · rw [sw_get g1 g2] at hx
    by_cases hk : k = J - 1
    · rw [if_pos hk] at hx; exact h3 x hx
    · rw [if_neg hk, if_neg (by omega)] at hx; exact h2 k x (by omega) g4 hx

theorem peqS_loop (n n0 : Nat) (hn0 : 1000000 < n0) {a y : Nat} (hay : a < y) (hy : y ≤ l) (hl : l = d0.length) (hl2 : l < 1000000) {p : Int} : ∀ (m i J : Nat) (d : List Int) (S : AS), J - i < m → a + 1 ≤ i → i ≤ J → J ≤ y → SR a y d d0 → d[a]? = some p → LowE a i p d → TopE J y p d → Hp X S (D b d js :: F) →
    Ok (J76_l1_1_1_0_0 (evF E orcL (n + 2)) n0 m (some (.rw b, 0)) l c a i ((J : Int) - 1) S) (EquS X F b d0 js a y p)
  | 0, i, J, d, S, hm, ha, hi, hJ, hp, hpa, hlo, hto, h => by omega
  | m + 1, i, J, d, S, hm, ha, hi, hJ, hp, hpa, hlo, hto, h => by
    have hld : l = d.length := by rw [hl, hp.len]
    rw [J76_l1_1_1_0_0_succ]
    simp only [b76_l1_1_1_0_0]
    refine upS (lo := i) (J := J) (P := fun i => LowE a i p d) (R := fun i => i < J → ∀ v, d[i]? = some v → p < v) (L := fun k i => J76_l1_1_1_0_0_0_0_0_0 (evF E orcL (n + 2)) n0 (J76_l1_1_1_0_0 (evF E orcL (n + 2)) n0 m) k (some (.rw b, 0)) l c a i ((J : Int) - 1) S) (K := fun i => J76_l1_1_1_0_0_0_0_1_0_0 (evF E orcL (n + 2)) n0 (J76_l1_1_1_0_0 (evF E orcL (n + 2)) n0 m) n0 (some (.rw b, 0)) l c a i ((J : Int) - 1) S) (fun k i h1 h2 hP hL hK => ?_) (fun i h1 h2 hP hR => ?_) n0 i (by omega) (Nat.le_refl _) hi hlo
    · rw [J76_l1_1_1_0_0_0_0_0_0_succ]
      simp only [b76_l1_1_1_0_0_0_0_0_0]
      refine ok_cond (fun hc => ?_) (fun hc => hK (fun hlt => by simp only [decide_eq_false_iff_not] at hc; omega))
      simp only [decide_eq_true_eq] at hc
      refine at_ok h hld (i := a) rfl (by omega) (fun v1 hv1 => at_ok h hld (i := i) rfl (by omega) (fun v2 hv2 => ?_))
      rw [callB_of (less_eq n v1 v2 S)]
      rw [hpa] at hv1
      cases hv1
      refine ok_cond (fun hlt => ?_) (fun hlt => hK (fun _ v hv => by rw [hv2] at hv; cases hv; simpa using hlt))
      simp only [Bool.not_eq_true', decide_eq_false_iff_not] at hlt
      rw [wn (n := i + 1) (by omega) (by omega)]
      refine hL (by omega) (fun k x g1 g2 hx => ?_)
      by_cases hki : k = i
      · subst hki
        rw [hv2] at hx; cases hx; omega
      · exact hP k x g1 (by omega) hx
    · refine downS (lo := i) (J0 := J) (P := fun J => TopE J y p d) (R := fun J' => i < J' → ∀ v, d[J' - 1]? = some v → v ≤ p) (L := fun k w => J76_l1_1_1_0_0_0_0_1_0_0 (evF E orcL (n + 2)) n0 (J76_l1_1_1_0_0 (evF E orcL (n + 2)) n0 m) k (some (.rw b, 0)) l c a i w S) (K := fun w => J76_j1_1_1_0_0_0_0_1_1 (evF E orcL (n + 2)) n0 (J76_l1_1_1_0_0 (evF E orcL (n + 2)) n0 m) (some (.rw b, 0)) l c a i w S) (fun k J' h3 h4 hP2 hL hK => ?_) (fun J' h3 h4 hP2 hR2 => ?_) n0 J (by omega) h2 (Nat.le_refl _) hto
      · rw [J76_l1_1_1_0_0_0_0_1_0_0_succ]
        simp only [b76_l1_1_1_0_0_0_0_1_0_0]
        refine ok_cond (fun hc => ?_) (fun hc => hK (fun hlt => by simp only [decide_eq_false_iff_not] at hc; omega))
        simp only [decide_eq_true_eq] at hc
        refine at_ok h hld (i := a) rfl (by omega) (fun v1 hv1 => at_ok h hld (i := J' - 1) (by omega) (by omega) (fun v2 hv2 => ?_))
        rw [callB_of (less_eq n v1 v2 S)]
        rw [hpa] at hv1
        cases hv1
        refine ok_cond (fun hlt => ?_) (fun hlt => hK (fun _ v hv => by rw [hv2] at hv; cases hv; simpa using hlt))
        simp only [decide_eq_true_eq] at hlt
        rw [wz (z := ((J' - 1 : Nat) : Int) - 1) (by omega) (by omega) (by omega)]
        refine hL (by omega) (fun k x g1 g2 hx => ?_)
        by_cases hki : k = J' - 1
        · subst hki
          rw [hv2] at hx; cases hx; exact hlt
        · exact hP2 k x (by omega) g2 hx
      · simp only [J76_j1_1_1_0_0_0_0_1_1, b76_j1_1_1_0_0_0_0_1_1]
        refine ok_cond (fun hc => ?_) (fun hc => ?_)
        · simp only [gt_iff_lt, decide_eq_true_eq] at hc
          have hJi : J' = i := by omega
          subst hJi
          refine ok_ret ⟨J', rfl, by omega, by omega, d, hp, fun k v g1 g2 hv => ?_, fun k v g1 g2 hv => hP2 k v g1 g2 hv, h⟩
          by_cases hka : k = a
          · subst hka; rw [hpa] at hv; cases hv; exact Int.le_refl _
          · exact hP k v (by omega) g2 hv
        simp only [gt_iff_lt, decide_eq_false_iff_not] at hc
        have hlt2 : i + 1 < J' := by
          by_cases hij : i + 1 = J'
          · obtain ⟨v, hv⟩ : ∃ v, d[i]? = some v := ⟨_, List.getElem?_eq_getElem (by omega)⟩
            have q1 := hR (by omega) v hv
            have q2 := hR2 (by omega) v (by rw [show J' - 1 = i by omega]; exact hv)
            omega
          · omega
        obtain ⟨s1, s2⟩ := swap_partE (by omega) hlt2 (by omega) (by omega) hP hP2 (hR (by omega)) (hR2 (by omega))
        refine swapS h hld (i := J' - 1) (j := i) (by omega) rfl (by omega) rfl (by omega) (by omega) (fun S' h' => ?_)
        rw [wn (n := i + 1) (by omega) (by omega), wz (z := ((J' - 1 : Nat) : Int) - 1) (by omega) (by omega) (by omega)]
        exact peqS_loop n n0 hn0 hay hy hl hl2 m (i + 1) (J' - 1) _ S' (by omega) (by omega) (by omega) (by omega) (hp.sw (by omega) (by omega) (by omega) (by omega) (by omega) (by omega)) (by rw [sw_get (by omega) (by omega), if_neg (by omega), if_neg (by omega)]; exact hpa) s1 s2 h'

theorem peqS (n : Nat) (hn : 1000000 < n) {x y p : Nat} (hxy : x < y) (hy : y ≤ l) (hpx : x ≤ p) (hpy : p < y) (hl : l = d.length) (hl2 : l < 1000000) (h : Hp X S (D b d js :: F)) {xi yi pi : Int} (hxi : xi = x) (hyi : yi = y) (hpi : pi = p) {pv : Int} (hpv : d[p]? = some pv) :
    Ok (evF E orcL (n + 3) (.fn 76) [.sl (some (.rw b, 0)) l c, .int .i64 xi, .int .i64 yi, .int .i64 pi] S) (EquS X F b d js x y pv) := by
  subst hxi hyi hpi
  rw [F76 _ _ _ _ _ _ _ _ (oL rfl)]
  simp only [J76, b76_entry]
  refine swapS h hl (i := p) (j := x) rfl rfl rfl rfl (by omega) (by omega) (fun S' h' => ?_)
  rw [wn (n := x + 1) (by omega) (by omega), wz (z := (y : Int) - 1) rfl (by omega) (by omega)]
  refine peqS_loop n (n + 2) (by omega) hxy hy hl hl2 (n + 2) (x + 1) y _ S' (by omega) (by omega) (by omega) (Nat.le_refl _) ((SR.refl x y d).sw (by omega) (by omega) (by omega) (by omega) (by omega) (by omega)) ?_ (fun k x g1 g2 => by omega) (fun k x g1 g2 => by omega) h'
  rw [sw_get (by omega) (by omega)]
  by_cases hxp : x = p
  · rw [if_pos hxp, hxp, hpv]
  · rw [if_neg hxp, if_pos rfl, hpv]

/-- What stands ahead of a stretch is not above what stands in it. -/
def Pre (x y : Nat) (d : List Int) : Prop := ∀ k u v, 1 ≤ x → x ≤ k → k < y → d[x - 1]? = some u → d[k]? = some v → u ≤ v
theorem Pre.sr {x y : Nat} {d d0 : List Int} (h : Pre x y d0) (hs : SR x y d d0) : Pre x y d := by
  intro k u v h1 h2 h3 hu hv
  rw [hs.o _ (.inl (by omega))] at hu
  exact hs.all (P := fun v => u ≤ v) (fun k v h2 h3 hv => h k u v h1 h2 h3 hu hv) k v h2 h3 hv

abbrev SortsP (X : Cx) (F : List Ent) (b : Nat) (d0 : List Int) (js : List AV) (x y : Nat) : AV → AS → Prop := fun v S' => ∃ r : Bool, v = .bool r ∧ ∃ d', SR x y d' d0 ∧ (r = true → Srt x y d') ∧ Hp X S' (D b d' js :: F)

section
variable {n n0 x y i t : Nat} {O : Option Pos → Nat → Cap → Int → Int → AV → Int → Int → AS → Option (AV × AS)}

theorem piS_next (hl2 : l < 1000000) (ht : t < 1000)
    (hO : ∀ S' d', SR x y d' d0 → Srt x i d' → Hp X S' (D b d' js :: F) → Ok (O (some (.rw b, 0)) l c x y .undef i ((t + 1 : Nat) : Int) S') Q) (hp : SR x y d d0) (hs : Srt x i d) (h : Hp X S (D b d js :: F)) :
    Ok (J74_j1_1_0_1_0_0_1_1 (evF E orcL (n + 2)) n0 O (some (.rw b, 0)) l c x y i t S) Q := by
  simp only [J74_j1_1_0_1_0_0_1_1, b74_j1_1_0_1_0_0_1_1]
  rw [wn (n := t + 1) (by omega) (by omega)]
  exact hO S d hp hs h

theorem piS_right (hi : x ≤ i) (hy : y ≤ l) (hl : l = d0.length) (hl2 : l < 1000000) (ht : t < 1000)
    (hO : ∀ S' d', SR x y d' d0 → Srt x i d' → Hp X S' (D b d' js :: F) → Ok (O (some (.rw b, 0)) l c x y .undef i ((t + 1 : Nat) : Int) S') Q) : ∀ (m j : Nat) (d : List Int) (S : AS), y - j < m → i + 1 ≤ j → SR x y d d0 → Srt x i d → Hp X S (D b d js :: F) →
    Ok (J74_l1_1_0_1_0_0_1_0_0_1_1_1_1_1_1_0_1_0 (evF E orcL (n + 2)) n0 O m (some (.rw b, 0)) l c x y i t j S) Q
  | 0, j, d, S, hm, hj, hp, hs, h => by omega
  | m + 1, j, d, S, hm, hj, hp, hs, h => by
    have hld : l = d.length := by rw [hl, hp.len]
    rw [J74_l1_1_0_1_0_0_1_0_0_1_1_1_1_1_1_0_1_0_succ]
    simp only [b74_l1_1_0_1_0_0_1_0_0_1_1_1_1_1_1_0_1_0]
    refine ok_cond (fun hc => ?_) (fun _ => piS_next hl2 ht hO hp hs h)
    simp only [decide_eq_true_eq] at hc
    have e1 : IntKind.wrap .i64 ((j : Int) - 1) = (j - 1 : Nat) := wn (by omega) (by omega)
    rw [e1]
    refine at_ok h hld (i := j) rfl (by omega) (fun v1 _ => at_ok h hld (i := j - 1) rfl (by omega) (fun v2 _ => ?_))
    rw [callB_of (less_eq n v1 v2 S)]
    refine ok_cond (fun _ => piS_next hl2 ht hO hp hs h) (fun _ => ?_)
    refine swapS h hld (i := j - 1) (j := j) rfl rfl rfl rfl (by omega) (by omega) (fun S' h' => ?_)
    rw [wn (n := j + 1) (by omega) (by omega)]
    exact piS_right hi hy hl hl2 ht hO m (j + 1) _ S' (by omega) (by omega) (hp.sw (by omega) (by omega) (by omega) (by omega) (by omega) (by omega)) (hs.same (fun k g1 g2 => by rw [sw_get (by omega) (by omega), if_neg (by omega), if_neg (by omega)])) h'

theorem piS_mid (hn0 : 1000000 < n0) (hi : 1 ≤ i) (hxi : x ≤ i) (hiy : i ≤ y) (hy : y ≤ l) (hl : l = d0.length) (hl2 : l < 1000000) (ht : t < 1000)
    (hO : ∀ S' d', SR x y d' d0 → Srt x i d' → Hp X S' (D b d' js :: F) → Ok (O (some (.rw b, 0)) l c x y .undef i ((t + 1 : Nat) : Int) S') Q) (hp : SR x y d d0) (hs : Srt x i d) (h : Hp X S (D b d js :: F)) :
    Ok (J74_j1_1_0_1_0_0_1_0_0_1_1_1_1_1 (evF E orcL (n + 2)) n0 O (some (.rw b, 0)) l c x y i t S) Q := by
  simp only [J74_j1_1_0_1_0_0_1_0_0_1_1_1_1_1, b74_j1_1_0_1_0_0_1_0_0_1_1_1_1_1]
  refine ok_cond (fun _ => ?_) (fun _ => piS_next hl2 ht hO hp hs h)
  rw [wn (x := (i : Int) + 1) (n := i + 1) (by omega) (by omega)]
  exact piS_right hxi hy hl hl2 ht hO n0 (i + 1) d S (by omega) (by omega) hp hs h

theorem piS_left (hpre : Pre x y d0) (hn0 : 1000000 < n0) (hi : 1 ≤ i) (hiy : i ≤ y) (hy : y ≤ l) (hl : l = d0.length) (hl2 : l < 1000000) (ht : t < 1000)
    (hO : ∀ S' d', SR x y d' d0 → Srt x i d' → Hp X S' (D b d' js :: F) → Ok (O (some (.rw b, 0)) l c x y .undef i ((t + 1 : Nat) : Int) S') Q) : ∀ (m j : Nat) (d : List Int) (S : AS), j < m → x ≤ j → j < i → SR x y d d0 → SrtX x i j d → Hp X S (D b d js :: F) →
    Ok (J74_l1_1_0_1_0_0_1_0_0_1_1_1_1_0_1_0_1_0 (evF E orcL (n + 2)) n0 O m (some (.rw b, 0)) l c x y i t j S) Q
  | 0, j, d, S, hm, hxj, hj, hp, hx, h => by omega
  | m + 1, j, d, S, hm, hxj, hj, hp, hx, h => by
    have hld : l = d.length := by rw [hl, hp.len]
    rw [J74_l1_1_0_1_0_0_1_0_0_1_1_1_1_0_1_0_1_0_succ]
    simp only [b74_l1_1_0_1_0_0_1_0_0_1_1_1_1_0_1_0_1_0]
    refine ok_cond (fun hc => ?_) (fun hc => piS_mid hn0 hi (by omega) hiy hy hl hl2 ht hO hp (hx.done (.inl ?_) hxj (by omega)) h)
    · simp only [ge_iff_le, decide_eq_true_eq] at hc
      have e1 : IntKind.wrap .i64 ((j : Int) - 1) = (j - 1 : Nat) := wn (by omega) (by omega)
      rw [e1]
      refine at_ok h hld (i := j) rfl (by omega) (fun v1 hv1 => at_ok h hld (i := j - 1) rfl (by omega) (fun v2 hv2 => ?_))
      rw [callB_of (less_eq n v1 v2 S)]
      refine ok_cond (fun hlt => piS_mid hn0 hi (by omega) hiy hy hl hl2 ht hO hp (hx.done (.inr fun a b ha hb => ?_) hxj (by omega)) h) (fun hlt => ?_)
      · rw [hv2] at ha; rw [hv1] at hb
        cases ha; cases hb
        simp only [Bool.not_eq_true', decide_eq_false_iff_not] at hlt
        omega
      · simp only [Bool.not_eq_false', decide_eq_true_eq] at hlt
        have hjx : x < j := by
          by_cases hjx : j = x
          · subst hjx
            have := (hpre.sr hp) j v2 v1 (by omega) (Nat.le_refl _) (by omega) hv2 hv1
            omega
          · omega
        refine swapS h hld (i := j - 1) (j := j) rfl rfl rfl rfl (by omega) (by omega) (fun S' h' => ?_)
        exact piS_left hpre hn0 hi hiy hy hl hl2 ht hO m (j - 1) _ S' (by omega) (by omega) (by omega) (hp.sw (by omega) (by omega) (by omega) (by omega) (by omega) (by omega)) (hx.step hjx hj (by omega) hv1 hv2 hlt) h'
    · simp only [ge_iff_le, decide_eq_false_iff_not] at hc
      omega
end

theorem piS_scan (n n0 : Nat) (hn0 : 1000000 < n0) {x y t : Nat} {O : Option Pos → Nat → Cap → Int → Int → AV → Int → Int → AS → Option (AV × AS)} (hpre : Pre x y d0) (hy : y ≤ l) (hl : l = d0.length) (hl2 : l < 1000000) (ht : t < 1000)
    (hO : ∀ i S' d', x + 1 ≤ i → i ≤ y → SR x y d' d0 → Srt x i d' → Hp X S' (D b d' js :: F) → Ok (O (some (.rw b, 0)) l c x y .undef (i : Nat) ((t + 1 : Nat) : Int) S') (SortsP X F b d0 js x y)) (hp : SR x y d d0) (h : Hp X S (D b d js :: F)) : ∀ (m i : Nat), y - i < m → x + 1 ≤ i → i ≤ y → Srt x i d →
    Ok (J74_l1_1_0_1_0_0_1_0_0_0_0 (evF E orcL (n + 2)) n0 O m (some (.rw b, 0)) l c x y i t S) (SortsP X F b d0 js x y)
  | 0, i, hm, hi, hiy, hs => by omega
  | m + 1, i, hm, hi, hiy, hs => by
    have hld : l = d.length := by rw [hl, hp.len]
    have next : (i < y → ∀ u v, d[i]? = some u → d[i - 1]? = some v → u < v) → Ok (J74_j1_1_0_1_0_0_1_0_0_1 (evF E orcL (n + 2)) n0 O (some (.rw b, 0)) l c x y i t S) (SortsP X F b d0 js x y) := by
      intro hstop
      simp only [J74_j1_1_0_1_0_0_1_0_0_1, b74_j1_1_0_1_0_0_1_0_0_1]
      refine ok_cond (fun hc => ok_ret ⟨true, rfl, d, hp, fun _ => ?_, h⟩) (fun hc => ok_cond (fun _ => ok_ret ⟨false, rfl, d, hp, (fun e => nomatch e), h⟩) (fun _ => ?_))
      · simp only [beq_iff_eq] at hc
        have : i = y := by omega
        subst this; exact hs
      simp only [beq_eq_false_iff_ne, ne_eq] at hc
      have e1 : IntKind.wrap .i64 ((i : Int) - 1) = (i - 1 : Nat) := wn (by omega) (by omega)
      rw [e1]
      refine swapS h hld (i := i - 1) (j := i) rfl rfl rfl rfl (by omega) (by omega) (fun S' h' => ?_)
      have hp' : SR x y (sw d (i - 1) i) d0 := hp.sw (by omega) (by omega) (by omega) (by omega) (by omega) (by omega)
      have hs1 : Srt x (i - 1) (sw d (i - 1) i) := Srt.same (d := d) (fun p q u v g1 g2 g3 => hs p q u v g1 g2 (by omega)) (fun k g1 g2 => by rw [sw_get (by omega) (by omega), if_neg (by omega), if_neg (by omega)])
      have hx1 : SrtX x i (i - 1) (sw d (i - 1) i) := by
        have := SrtX.of hs1
        rwa [show i - 1 + 1 = i by omega] at this
      refine ok_cond (fun _ => ?_) (fun hc2 => ?_)
      · exact piS_left hpre hn0 (by omega) hiy hy hl hl2 ht (fun S' d' hp' hs' h' => hO i S' d' hi hiy hp' hs' h') n0 (i - 1) _ S' (by omega) (by omega) (by omega) hp' hx1 h'
      · refine piS_mid hn0 (by omega) (by omega) hiy hy hl hl2 ht (fun S' d' hp' hs' h' => hO i S' d' hi hiy hp' hs' h') hp' ?_ h'
        rw [wn (n := i - x) (by omega) (by omega)] at hc2
        simp only [ge_iff_le, decide_eq_false_iff_not] at hc2
        exact .one _ _ _ (by omega)
    rw [J74_l1_1_0_1_0_0_1_0_0_0_0_succ]
    simp only [b74_l1_1_0_1_0_0_1_0_0_0_0]
    refine ok_cond (fun hc => ?_) (fun hc => next (fun hlt => by simp only [decide_eq_false_iff_not] at hc; omega))
    simp only [decide_eq_true_eq] at hc
    have e1 : IntKind.wrap .i64 ((i : Int) - 1) = (i - 1 : Nat) := wn (by omega) (by omega)
    rw [e1]
    refine at_ok h hld (i := i) rfl (by omega) (fun v1 hv1 => at_ok h hld (i := i - 1) rfl (by omega) (fun v2 hv2 => ?_))
    rw [callB_of (less_eq n v1 v2 S)]
    refine ok_cond (fun hlt => ?_) (fun hlt => next (fun _ u v hu hv => ?_))
    · rw [wn (n := i + 1) (by omega) (by omega)]
      simp only [Bool.not_eq_true', decide_eq_false_iff_not] at hlt
      refine piS_scan n n0 hn0 hpre hy hl hl2 ht hO hp h m (i + 1) (by omega) (by omega) (by omega) (hs.push (fun u v _ hu hv => ?_))
      rw [hv2] at hu; rw [hv1] at hv
      cases hu; cases hv; omega
    · rw [hv1] at hu; rw [hv2] at hv
      cases hu; cases hv
      simpa using hlt

theorem piS_loop (n n0 : Nat) (hn0 : 1000000 < n0) {x y : Nat} (hpre : Pre x y d0) (hy : y ≤ l) (hl : l = d0.length) (hl2 : l < 1000000) : ∀ (m t i : Nat) (w : AV) (d : List Int) (S : AS), 5 < m + t → t ≤ 5 → x + 1 ≤ i → i ≤ y → SR x y d d0 → Srt x i d → Hp X S (D b d js :: F) →
    Ok (J74_l1_1_0_1_0 (evF E orcL (n + 2)) n0 m (some (.rw b, 0)) l c x y w i t S) (SortsP X F b d0 js x y)
  | 0, t, i, w, d, S, hm, ht, hi, hiy, hp, hs, h => by omega
  | m + 1, t, i, w, d, S, hm, ht, hi, hiy, hp, hs, h => by
    rw [J74_l1_1_0_1_0_succ]
    simp only [b74_l1_1_0_1_0]
    refine ok_cond (fun hc => ?_) (fun _ => ok_ret ⟨false, rfl, d, hp, (fun e => nomatch e), h⟩)
    simp only [decide_eq_true_eq] at hc
    exact piS_scan n n0 hn0 hpre hy hl hl2 (by omega) (fun i' S' d' hi' hiy' hp' hs' h' => piS_loop n n0 hn0 hpre hy hl hl2 m (t + 1) i' .undef d' S' (by omega) (by omega) hi' hiy' hp' hs' h') hp h n0 i (by omega) hi hiy hs

theorem piS (n : Nat) (hn : 1000000 < n) {x y : Nat} (hxy : x < y) (hy : y ≤ l) (hpre : Pre x y d) (hl : l = d.length) (hl2 : l < 1000000) (h : Hp X S (D b d js :: F)) {xi yi : Int} (hxi : xi = x) (hyi : yi = y) :
    Ok (evF E orcL (n + 3) (.fn 74) [.sl (some (.rw b, 0)) l c, .int .i64 xi, .int .i64 yi] S) (SortsP X F b d js x y) := by
  subst hxi hyi
  rw [F74 _ _ _ _ _ _ _ (oL rfl)]
  simp only [J74, b74_entry]
  rw [wn (n := x + 1) (by omega) (by omega)]
  exact piS_loop n (n + 2) (by omega) hpre hy hl hl2 (n + 2) 0 (x + 1) (.bool false) d S (by omega) (by omega) (by omega) (by omega) (.refl _ _ _) (.one _ _ _ (by omega)) h

end

end Go.Al

namespace Go.Al
open Go.Gr

section
variable {X : Cx} {S : AS} {F : List Ent} {b l q : Nat} {c : Cap} {d d0 d1 : List Int} {js : List AV} {Q : AV → AS → Prop} {s : Int}

theorem Parted.left {x y r : Nat} (h : Parted x y r d0) (hs : SR x r d d0) : Parted x y r d := by
  intro p hp
  rw [hs.o r (.inr (Nat.le_refl _))] at hp
  obtain ⟨h1, h2⟩ := h p hp
  exact ⟨hs.all (P := fun v => v ≤ p) (fun k v g1 g2 hv => h1 k v g1 g2 hv), fun k v g1 g2 hv => h2 k v g1 g2 (by rw [← hs.o k (.inr (by omega))]; exact hv)⟩
theorem Parted.right {x y r : Nat} (h : Parted x y r d0) (hs : SR (r + 1) y d d0) : Parted x y r d := by
  intro p hp
  rw [hs.o r (.inl (by omega))] at hp
  obtain ⟨h1, h2⟩ := h p hp
  exact ⟨fun k v g1 g2 hv => h1 k v g1 g2 (by rw [← hs.o k (.inl (by omega))]; exact hv), fun k v g1 g2 hv => hs.all (P := fun v => p ≤ v) (fun k v g1 g2 hv => h2 k v (by omega) g2 hv) k v g1 g2 hv⟩
theorem Parted.srt {x y r : Nat} (h : Parted x y r d) (hr : r < d.length) (h1 : Srt x r d) (h2 : Srt (r + 1) y d) : Srt x y d := by
  obtain ⟨p, hp⟩ : ∃ p, d[r]? = some p := ⟨_, List.getElem?_eq_getElem hr⟩
  obtain ⟨g1, g2⟩ := h p hp
  intro i j u v k1 k2 k3 hu hv
  by_cases hj : j < r
  · exact h1 i j u v k1 k2 hj hu hv
  · by_cases hi : r < i
    · exact h2 i j u v hi k2 k3 hu hv
    · have hup : u ≤ p := by
        by_cases hir : i = r
        · subst hir; rw [hp] at hu; cases hu; exact Int.le_refl _
        · exact g1 i u k1 (by omega) hu
      have hpv : p ≤ v := by
        by_cases hjr : j = r
        · subst hjr; rw [hp] at hv; cases hv; exact Int.le_refl _
        · exact g2 j v (by omega) k3 hv
      omega
theorem Pre.left {x y r : Nat} (h : Pre x y d) (hr : r ≤ y) : Pre x r d := fun k u v h1 h2 h3 => h k u v h1 h2 (by omega)
theorem Parted.pre {x y r : Nat} (h : Parted x y r d) : Pre (r + 1) y d := by
  intro k u v h1 h2 h3 hu hv
  exact (h u hu).2 k v (by omega) h3 hv
theorem Pre.same {x y : Nat} (h : Pre x y d0) (hs : ∀ k, k < y → d[k]? = d0[k]?) : Pre x y d := by
  intro k u v h1 h2 h3 hu hv
  exact h k u v h1 h2 h3 (by rw [← hs _ (by omega)]; exact hu) (by rw [← hs _ h3]; exact hv)

theorem SortsS_mono {x y x' y' : Nat} {P P' : List Int → Prop} {q : Option (AV × AS)} (h : Ok q (SortsS X F b d1 js x y P)) (hs : ∀ d', SR x y d' d1 → P d' → SR x' y' d' d0 ∧ P' d') : Ok q (SortsS X F b d0 js x' y' P') :=
  h.mono (fun v S ⟨e, d', h1, h2, h3⟩ => ⟨e, d', (hs d' h1 h2).1, (hs d' h1 h2).2, h3⟩)

theorem pdqS_loop (k n : Nat) (hn : 1000000 < n) (hl2 : l < 256)
    (IH : ∀ (x y : Nat) (d : List Int) (S : AS) (w3 : Int), l = d.length → x ≤ y → y ≤ l → y - x < k → Pre x y d → Hp X S (D b d js :: F) → ∀ xi yi : Int, xi = x → yi = y → Ok (evF E orcL (n + 8) (.fn 63) [.sl (some (.rw b, 0)) l c, .int .i64 xi, .int .i64 yi, .int .i64 w3] S) (SortsS X F b d js x y (Srt x y))) (n0 : Nat) :
    ∀ (m x y : Nat) (w3 : Int) (w8 w9 : Bool) (d : List Int) (S : AS), l = d.length → y - x < m → x ≤ y → y ≤ l → y - x ≤ k → Pre x y d → Hp X S (D b d js :: F) →
    Ok (J63_l1_1_0 (evF E orcL (n + 8)) n0 m (some (.rw b, 0)) l c x y w3 w8 w9 S) (SortsS X F b d js x y (Srt x y))
  | 0, x, y, w3, w8, w9, d, S, hl, hm, hxy, hy, hk, hp, h => by omega
  | m + 1, x, y, w3, w8, w9, d, S, hl, hm, hxy, hy, hk, hp, h => by
    have rest : 12 < y - x → ∀ (w3 : Int) (d : List Int) (S : AS) (p : Nat) (pv : Int), l = d.length → pv = p → x ≤ p → p < y → Pre x y d → Hp X S (D b d js :: F) → Ok (pdqT (evF E orcL (n + 8)) (J63_l1_1_0 (evF E orcL (n + 8)) n0 m) (some (.rw b, 0)) l c x y w3 w8 w9 pv S) (SortsS X F b d js x y (Srt x y)) := by
      intro hlen w3 d S p pv hl hpv hp1 hp2 hp h
      have part : ∀ (S : AS), Hp X S (D b d js :: F) → Ok (callT (evF E orcL (n + 8)) 77 [(.sl (some (.rw b, 0)) l c), (.int .i64 x), (.int .i64 y), (.int .i64 pv)] S fun v24 S23 =>
          atI .i64 v24 0 fun v25 =>
          atB v24 1 fun v26 =>
          cond (decide ((IntKind.wrap .i64 (v25 - x)) < (IntKind.wrap .i64 (y - v25)))) (
          callT (evF E orcL (n + 8)) 63 [(.sl (some (.rw b, 0)) l c), (.int .i64 x), (.int .i64 v25), (.int .i64 w3)] S23 fun v28 S27 =>
          J63_l1_1_0 (evF E orcL (n + 8)) n0 m (some (.rw b, 0)) l c (IntKind.wrap .i64 (v25 + 1)) y w3 (decide ((IntKind.wrap .i64 (v25 - x)) ≥ (IntKind.wrap .i64 (Int.tdiv (IntKind.wrap .i64 ((y : Int) - x)) 8)))) v26 S27) (
          callT (evF E orcL (n + 8)) 63 [(.sl (some (.rw b, 0)) l c), (.int .i64 (IntKind.wrap .i64 (v25 + 1))), (.int .i64 y), (.int .i64 w3)] S23 fun v30 S29 =>
          J63_l1_1_0 (evF E orcL (n + 8)) n0 m (some (.rw b, 0)) l c x v25 w3 (decide ((IntKind.wrap .i64 (y - v25)) ≥ (IntKind.wrap .i64 (Int.tdiv (IntKind.wrap .i64 ((y : Int) - x)) 8)))) v26 S29)) (SortsS X F b d js x y (Srt x y)) := by
        intro S h
        obtain ⟨v, S1, e, r, t, rfl, hr1, hr2, d1, hs1, hP1, h1⟩ := partS (n + 5) (by omega) (c := c) (show x < y by omega) hy hp1 hp2 hl (by omega) h rfl rfl hpv
        rw [callT_of e]
        simp only [atI, atB, List.getElem?_cons_zero, List.getElem?_cons_succ, gIk, gB, if_true]
        have e1 : IntKind.wrap .i64 ((r : Int) + 1) = (r + 1 : Nat) := wn (by omega) (by omega)
        simp only [e1]
        have hl1 : l = d1.length := by rw [hl, hs1.len]
        have hq1 : Pre x r d1 := (hp.sr hs1).left (by omega)
        refine ok_cond (fun _ => ?_) (fun _ => ?_)
        · obtain ⟨v, S2, e, rfl, d2, hs2, ho2, h2⟩ := IH x r d1 S1 w3 hl1 (by omega) (by omega) (by omega) hq1 h1 _ _ rfl rfl
          rw [callT_of e]
          have hP2 := hP1.left hs2
          have hl2' : l = d2.length := by rw [hl1, hs2.len]
          refine SortsS_mono (pdqS_loop k n hn hl2 IH n0 m (r + 1) y w3 _ t d2 S2 hl2' (by omega) (by omega) hy (by omega) hP2.pre h2) (fun d3 hs3 ho3 => ⟨?_, ?_⟩)
          · exact ((hs3.wide (by omega) (Nat.le_refl _)).trans (hs2.wide (Nat.le_refl _) (by omega))).trans hs1
          · exact (hP2.right hs3).srt (by rw [hs3.len]; omega) (ho2.same (fun k g1 g2 => hs3.o k (.inl (by omega)))) ho3
        · obtain ⟨v, S2, e, rfl, d2, hs2, ho2, h2⟩ := IH (r + 1) y d1 S1 w3 hl1 (by omega) (by omega) (by omega) hP1.pre h1 _ _ rfl rfl
          rw [callT_of e]
          have hP2 := hP1.right hs2
          have hl2' : l = d2.length := by rw [hl1, hs2.len]
          refine SortsS_mono (pdqS_loop k n hn hl2 IH n0 m x r w3 _ t d2 S2 hl2' (by omega) (by omega) (by omega) (by omega) (hq1.same (fun k g => hs2.o k (.inl (by omega)))) h2) (fun d3 hs3 ho3 => ⟨?_, ?_⟩)
          · exact ((hs3.wide (Nat.le_refl _) (by omega)).trans (hs2.wide (by omega) (Nat.le_refl _))).trans hs1
          · exact (hP2.left hs3).srt (by rw [hs3.len]; omega) ho3 (ho2.same (fun k g1 g2 => hs3.o k (.inr (by omega))))
      unfold pdqT
      refine ok_cond (fun hc => ?_) (fun _ => part S h)
      simp only [gt_iff_lt, decide_eq_true_eq] at hc
      refine at_ok h hl (i := x - 1) (wn (by omega) (by omega)) (by omega) (fun v1 hv1 => at_ok h hl (i := p) hpv (by omega) (fun v2 hv2 => ?_))
      rw [callB_of (less_eq (n + 6) v1 v2 S)]
      refine ok_cond (fun hlt => ?_) (fun _ => part S h)
      simp only [Bool.not_eq_true', decide_eq_false_iff_not] at hlt
      obtain ⟨v, S1, e, r, rfl, hr1, hr2, d1, hs1, ha1, hb1, h1⟩ := peqS (n + 5) (by omega) (c := c) (show x < y by omega) hy hp1 hp2 hl (by omega) h rfl rfl hpv hv2
      rw [callI_of e]
      have hl1 : l = d1.length := by rw [hl, hs1.len]
      have lowv : ∀ k u, x ≤ k → k < y → d1[k]? = some u → v1 ≤ u := hs1.all (P := fun u => v1 ≤ u) (fun k u g1 g2 hu => hp k v1 u (by omega) g1 g2 hv1 hu)
      refine SortsS_mono (pdqS_loop k n hn hl2 IH n0 m r y w3 w8 w9 d1 S1 hl1 (by omega) (by omega) hy (by omega) ?_ h1) (fun d3 hs3 ho3 => ⟨(hs3.wide (by omega) (Nat.le_refl _)).trans hs1, ?_⟩)
      · intro i u v g1 g2 g3 hu hv
        have := ha1 (r - 1) u (by omega) (by omega) hu
        have := lowv i v (by omega) g3 hv
        omega
      · intro i j u v g1 g2 g3 hu hv
        by_cases hi : r ≤ i
        · exact ho3 i j u v hi g2 g3 hu hv
        · rw [hs3.o i (.inl (by omega))] at hu
          have q1 := ha1 i u g1 (by omega) hu
          have q2 : v1 ≤ v := ((hs3.wide (show x ≤ r by omega) (Nat.le_refl _)).all (P := fun v => v1 ≤ v) lowv) j v (by omega) g3 hv
          omega
    rw [J63_l1_1_0_succ]
    simp only [b63_l1_1_0]
    refine ok_cond (fun _ => ?_) (fun hc => ?_)
    · obtain ⟨v, S1, e, rfl, hd⟩ := insS (n + 5) (by omega) (c := c) hy (show x ≤ l by omega) hl (by omega) h (xi := x) (yi := y) rfl rfl
      rw [callT_of e]
      exact ok_ret ⟨rfl, hd⟩
    rw [wn (n := y - x) (by omega) (by omega)] at hc
    simp only [decide_eq_false_iff_not] at hc
    have hlen : 12 < y - x := by omega
    refine ok_cond (fun _ => ?_) (fun _ => ?_)
    · obtain ⟨v, S1, e, rfl, hd⟩ := heapS (n + 4) (by omega) (c := c) hxy hy hl (by omega) h (xi := x) (yi := y) rfl rfl
      rw [callT_of e]
      exact ok_ret ⟨rfl, hd⟩
    have pvn : ∀ r : Nat, x ≤ r → r < y → IntKind.wrap .i64 ((IntKind.wrap .i64 ((y : Int) - 1)) - (IntKind.wrap .i64 ((r : Int) - x))) = ((y - 1 - (r - x) : Nat) : Int) := by
      intro r h1 h2
      rw [wn (x := (y : Int) - 1) (n := y - 1) (by omega) (by omega), wn (x := (r : Int) - x) (n := r - x) (by omega) (by omega), wn (n := y - 1 - (r - x)) (by omega) (by omega)]
    -- the rest behind a change within the stretch
    have rst : ∀ (w3 : Int) (d1 : List Int) (S : AS) (p : Nat) (pv : Int), SR x y d1 d → pv = p → x ≤ p → p < y → Hp X S (D b d1 js :: F) → Ok (pdqT (evF E orcL (n + 8)) (J63_l1_1_0 (evF E orcL (n + 8)) n0 m) (some (.rw b, 0)) l c x y w3 w8 w9 pv S) (SortsS X F b d js x y (Srt x y)) :=
      fun w3 d1 S p pv hs g1 g2 g3 h => SortsS_mono (rest hlen w3 d1 S p pv (by rw [hl, hs.len]) g1 g2 g3 (hp.sr hs) h) (fun d' hs' ho' => ⟨hs'.trans hs, ho'⟩)
    have pis : ∀ (d1 : List Int) (S : AS) (G : Bool → AS → Option (AV × AS)), SR x y d1 d → Hp X S (D b d1 js :: F) → (∀ d2 S', SR x y d2 d → Hp X S' (D b d2 js :: F) → Ok (G false S') (SortsS X F b d js x y (Srt x y))) → (∀ d2 S', SR x y d2 d → Srt x y d2 → Hp X S' (D b d2 js :: F) → Ok (G true S') (SortsS X F b d js x y (Srt x y))) →
        Ok (callB (evF E orcL (n + 8)) 74 [(.sl (some (.rw b, 0)) l c), (.int .i64 x), (.int .i64 y)] S G) (SortsS X F b d js x y (Srt x y)) := by
      intro d1 S G hs h g1 g2
      obtain ⟨v, S4, e, q, rfl, d4, hs4, ho4, h4⟩ := piS (n + 5) (by omega) (c := c) (x := x) (y := y) (by omega) hy (hp.sr hs) (by rw [hl, hs.len]) (by omega) h rfl rfl
      rw [callB_of e]
      cases q
      · exact g1 d4 S4 (hs4.trans hs) h4
      · exact g2 d4 S4 (hs4.trans hs) (ho4 rfl) h4
    have fin : ∀ (w3 : Int) (d1 : List Int) (S : AS) (p : Nat) (pv : Int) (t1 t2 t3 : Bool), SR x y d1 d → pv = p → x ≤ p → p < y → Hp X S (D b d1 js :: F) →
        Ok (cond t1 (cond t2 (cond t3 (callB (evF E orcL (n + 8)) 74 [(.sl (some (.rw b, 0)) l c), (.int .i64 x), (.int .i64 y)] S fun v S' => cond v (some (AV.tup [], S')) (pdqT (evF E orcL (n + 8)) (J63_l1_1_0 (evF E orcL (n + 8)) n0 m) (some (.rw b, 0)) l c x y w3 w8 w9 pv S')) (pdqT (evF E orcL (n + 8)) (J63_l1_1_0 (evF E orcL (n + 8)) n0 m) (some (.rw b, 0)) l c x y w3 w8 w9 pv S)) (pdqT (evF E orcL (n + 8)) (J63_l1_1_0 (evF E orcL (n + 8)) n0 m) (some (.rw b, 0)) l c x y w3 w8 w9 pv S)) (pdqT (evF E orcL (n + 8)) (J63_l1_1_0 (evF E orcL (n + 8)) n0 m) (some (.rw b, 0)) l c x y w3 w8 w9 pv S)) (SortsS X F b d js x y (Srt x y)) := by
      intro w3 d1 S p pv t1 t2 t3 hs g1 g2 g3 h
      refine ok_cond (fun _ => ok_cond (fun _ => ok_cond (fun _ => ?_) (fun _ => rst w3 d1 S p pv hs g1 g2 g3 h)) (fun _ => rst w3 d1 S p pv hs g1 g2 g3 h)) (fun _ => rst w3 d1 S p pv hs g1 g2 g3 h)
      exact pis d1 S _ hs h (fun d2 S' hs2 h2 => rst w3 d2 S' p pv hs2 g1 g2 g3 h2) (fun d2 S' hs2 ho2 h2 => ok_ret ⟨rfl, d2, hs2, ho2, h2⟩)
    refine ok_cond (fun _ => ?_) (fun _ => ?_)
    · obtain ⟨v, S1, e, rfl, d1, hs1, _, h1⟩ := breakS (n + 4) (by omega) (c := c) (x := x) (y := y) (by omega) hy hl hl2 h (xi := x) (yi := y) rfl rfl
      rw [callT_of e]
      have hld1 : l = d1.length := by rw [hl, hs1.len]
      obtain ⟨v, S2, e, r, t, rfl, hr1, hr2, h2⟩ := pivot_ok (n + 2) (c := c) (x := x) (y := y) (by omega) hy (by omega) hld1 h1 rfl rfl
      rw [callT_of e]
      simp only [atI, List.getElem?_cons_zero, List.getElem?_cons_succ, gIk, if_true]
      refine ok_cond (fun _ => ?_) (fun _ => ?_)
      · obtain ⟨v, S3, e, rfl, d3, hs3, _, h3⟩ := revS (n + 7) (by omega) (c := c) (x := x) (y := y) (by omega) hy hld1 (by omega) h2 rfl rfl
        rw [callT_of e]
        exact fin _ d3 S3 _ _ _ _ _ (hs3.trans hs1) (pvn r hr1 hr2) (by omega) (by omega) h3
      · exact fin _ d1 S2 _ _ _ _ _ hs1 rfl (by omega) (by omega) h2
    · obtain ⟨v, S2, e, r, t, rfl, hr1, hr2, h2⟩ := pivot_ok (n + 2) (c := c) (x := x) (y := y) (by omega) hy (by omega) hl h rfl rfl
      rw [callT_of e]
      simp only [atI, List.getElem?_cons_zero, List.getElem?_cons_succ, gIk, if_true]
      refine ok_cond (fun _ => ?_) (fun _ => ?_)
      · obtain ⟨v, S3, e, rfl, d3, hs3, _, h3⟩ := revS (n + 7) (by omega) (c := c) (x := x) (y := y) (by omega) hy hl (by omega) h2 rfl rfl
        rw [callT_of e]
        exact fin _ d3 S3 _ _ _ _ _ hs3 (pvn r hr1 hr2) (by omega) (by omega) h3
      · exact fin _ d S2 _ _ _ _ _ (.refl _ _ _) rfl (by omega) (by omega) h2

theorem pdqS (n : Nat) (hn : 1000000 < n) (hl2 : l < 256) : ∀ (k x y : Nat) (d : List Int) (S : AS) (w3 : Int), l = d.length → x ≤ y → y ≤ l → y - x ≤ k → Pre x y d → Hp X S (D b d js :: F) → ∀ xi yi : Int, xi = x → yi = y →
    Ok (evF E orcL (n + k + 9) (.fn 63) [.sl (some (.rw b, 0)) l c, .int .i64 xi, .int .i64 yi, .int .i64 w3] S) (SortsS X F b d js x y (Srt x y))
  | k, x, y, d, S, w3, hl, hxy, hy, hk, hp, h, xi, yi, hxi, hyi => by
    subst hxi hyi
    rw [F63 _ _ _ _ _ _ _ _ (oL rfl)]
    simp only [J63, b63_entry]
    refine pdqS_loop k (n + k) (by omega) hl2 (fun x y d S w3 h0 h1 h2 h3 h4 h5 xi yi h6 h7 => ?_) (n + k + 8) (n + k + 8) x y w3 true true d S hl (by omega) hxy hy hk hp h
    cases k with
    | zero => omega
    | succ k => exact pdqS n hn hl2 k x y d S w3 h0 h1 h2 (by omega) h4 h5 xi yi h6 h7

/-- THE SORT: what it leaves are the same elements, sorted. -/
theorem sortS (n : Nat) (hn : 1000000 < n) (hl : l = d.length) (hl2 : l < 256) (h : Hp X S (D b d js :: F)) :
    Ok (evF E orcL (n + 300) (.fn 43) [.sl (some (.rw b, 0)) l c] S) (SortsS X F b d js 0 l (Srt 0 l)) := by
  rw [F43 _ _ _ _ _ (oL rfl)]
  simp only [J43, b43_entry]
  obtain ⟨k, e, _, _⟩ := len_ok (S := S) (n + 297) hl2
  rw [wu (n := (l : Int)) (by omega) (by omega), callI_of e]
  obtain ⟨v, S1, e, rfl, hd⟩ := pdqS (n + 290 - l) (by omega) hl2 l 0 l d S k hl (by omega) (by omega) (by omega) (fun k u v g1 => by omega) h (c := c) 0 l rfl rfl
  have e2 : n + 290 - l + l + 9 = n + 299 := by omega
  rw [e2] at e
  rw [callT_of e]
  exact ok_ret ⟨rfl, hd⟩

end

end Go.Al
