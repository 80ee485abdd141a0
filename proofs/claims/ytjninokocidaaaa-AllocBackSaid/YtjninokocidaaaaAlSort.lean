/- The library's sort of integers: whatever its comparisons say it stays within its bounds and leaves the same elements. -/
import Derived.Test.YtjninokocidaaaaAlA
set_option linter.unusedVariables false
set_option linter.unusedSimpArgs false
set_option maxRecDepth 4000
namespace Go.Al
open Go.Gr

/-- A block whose first cells are integers. -/
abbrev D (b : Nat) (d : List Int) (js : List AV) : Ent := C b (d.map (AV.int .i64) ++ js)

section
variable {X : Cx} {S : AS} {F : List Ent} {b l : Nat} {c : Cap} {d d0 : List Int} {js : List AV} {Q : AV → AS → Prop}

theorem at_ok {x : Int} {i : Nat} {K : Int → Option (AV × AS)} (h : Hp X S (D b d js :: F)) (hl : l = d.length) (hx : x = i) (hi : i < l) (ht : ∀ v, d[i]? = some v → Ok (K v) Q) :
    Ok (ixSl 1 (some (.rw b, 0)) l x fun p => ldI .i64 S p.1 p.2 K) Q := by
  subst hl
  refine ok_ixSl (k := i) hx hi ?_
  simp only [Nat.zero_add, Nat.mul_one]
  have hv : d[i]? = some (d[i]'hi) := List.getElem?_eq_getElem hi
  refine ok_ldI (n := d[i]'hi) h ?_ (ht _ hv)
  rw [List.getElem?_append_left (by simpa using hi), List.getElem?_map, hv]
  rfl

theorem put_ok {x v : Int} {i : Nat} {K : AS → Option (AV × AS)} (h : Hp X S (D b d js :: F)) (hl : l = d.length) (hx : x = i) (hi : i < l) (ht : ∀ S', Hp X S' (D b (d.set i v) js :: F) → Ok (K S') Q) :
    Ok (ixSl 1 (some (.rw b, 0)) l x fun p => S.stn p.1 p.2 [.int .i64 v] K) Q := by
  subst hl
  refine ok_ixSl (k := i) hx hi ?_
  simp only [Nat.zero_add, Nat.mul_one]
  refine ok_stn h (by simp; omega) (d := (d.set i v).map (AV.int .i64) ++ js) ?_ ht
  have e : (d.map (AV.int .i64)).set i (AV.int .i64 v) = (d.set i v).map (AV.int .i64) := by rw [List.map_set]
  rw [← e, splice, List.take_append_of_le_length (by simp; omega), List.length_singleton, List.drop_append_of_le_length (by simp; omega), List.set_eq_take_append_cons_drop, if_pos (by simpa using hi)]
  simp

/-- Two elements change places. -/
theorem swap_ok {x y x' y' : Int} {i j : Nat} {K : AS → Option (AV × AS)} (h : Hp X S (D b d js :: F)) (hp : d.Perm d0) (hl : l = d0.length) (hx : x = i) (hy : y = j) (hx' : x' = i) (hy' : y' = j) (hi : i < l) (hj : j < l)
    (ht : ∀ S' d', d'.Perm d0 → Hp X S' (D b d' js :: F) → Ok (K S') Q) :
    Ok (ixSl 1 (some (.rw b, 0)) l x fun p1 => ldI .i64 S p1.1 p1.2 fun v1 => ixSl 1 (some (.rw b, 0)) l y fun p2 => ldI .i64 S p2.1 p2.2 fun v2 =>
      ixSl 1 (some (.rw b, 0)) l y' fun p3 => S.stn p3.1 p3.2 [.int .i64 v1] fun S1 => ixSl 1 (some (.rw b, 0)) l x' fun p4 => S1.stn p4.1 p4.2 [.int .i64 v2] K) Q := by
  have hld : l = d.length := by rw [hl, hp.length_eq]
  refine at_ok h hld hx hi (fun v1 h1 => at_ok h hld hy hj (fun v2 h2 => put_ok h hld hy' hj (fun S1 hS1 => put_ok hS1 (by simpa using hld) hx' hi (fun S2 hS2 => ht S2 _ ?_ hS2))))
  obtain ⟨q1, q2⟩ := List.getElem?_eq_some_iff.1 h1
  obtain ⟨q3, q4⟩ := List.getElem?_eq_some_iff.1 h2
  have := @List.set_set_perm _ d j i q3 q1
  rw [q2, q4] at this
  exact this.trans hp

theorem less_eq (n : Nat) (x y : Int) (S : AS) : evF E orcL (n + 2) (.fn 75) [.int .i64 x, .int .i64 y] S = some (.bool (decide (x < y)), S) := by
  have e : ∀ z : Int, evF E orcL (n + 1) (.fn 85) [.int .i64 z] S = some (.bool false, S) := fun z => by
    rw [F85 _ _ _ (oL rfl)]
    simp [J85, b85_entry]
  rw [F75 _ _ _ _ (oL rfl)]
  simp only [J75, b75_entry]
  rw [callB_of (e x)]
  rfl

/-- What a part of the sort leaves: the same elements. -/
abbrev Sorts (X : Cx) (F : List Ent) (b : Nat) (d0 : List Int) (js : List AV) : AV → AS → Prop := fun v S' => v = .tup [] ∧ ∃ d', d'.Perm d0 ∧ Hp X S' (D b d' js :: F)

theorem ins_in (n0 n : Nat) {O : Option Pos → Nat → Cap → Int → Int → Int → AS → Option (AV × AS)} {A B I : Int} (hA : 0 ≤ A) (hl : l = d0.length) (hl2 : l < 1000000)
    (hO : ∀ S' d', d'.Perm d0 → Hp X S' (D b d' js :: F) → Ok (O (some (.rw b, 0)) l c A B (IntKind.wrap .i64 (I + 1)) S') Q) : ∀ (m j : Nat) (d : List Int) (S : AS), j < l → j < m → d.Perm d0 → Hp X S (D b d js :: F) →
    Ok (J69_l1_0_0_1_0_0_1_0 (evF E orcL (n + 2)) n0 O m (some (.rw b, 0)) l c A B I j S) Q
  | 0, j, d, S, hj, hm, hp, h => by omega
  | m + 1, j, d, S, hj, hm, hp, h => by
    rw [J69_l1_0_0_1_0_0_1_0_succ]
    simp only [b69_l1_0_0_1_0_0_1_0]
    have hld : l = d.length := by rw [hl, hp.length_eq]
    refine ok_cond (fun hc => ?_) (fun _ => hO S d hp h)
    simp only [gt_iff_lt, decide_eq_true_eq] at hc
    obtain ⟨k, rfl⟩ : ∃ k, j = k + 1 := ⟨j - 1, by omega⟩
    have e1 : IntKind.wrap .i64 (((k + 1 : Nat) : Int) - 1) = (k : Nat) := wn (by omega) (by omega)
    rw [e1]
    refine at_ok h hld (i := k + 1) rfl hj (fun v1 _ => at_ok h hld (i := k) rfl (by omega) (fun v2 _ => ?_))
    rw [callB_of (less_eq n v1 v2 S)]
    refine ok_cond (fun _ => ?_) (fun _ => hO S d hp h)
    refine swap_ok h hp hl (i := k) (j := k + 1) rfl rfl rfl rfl (by omega) hj (fun S' d' hp' h' => ?_)
    exact ins_in n0 n hA hl hl2 hO m k d' S' (by omega) (by omega) hp' h'

theorem ins_out (n0 n : Nat) (hn : 1000000 < n0) {A B : Int} (hA : 0 ≤ A) (hB : B ≤ l) (hl : l = d0.length) (hl2 : l < 1000000) : ∀ (m i : Nat) (d : List Int) (S : AS), l - i < m → i ≤ l + 1 → d.Perm d0 → Hp X S (D b d js :: F) →
    Ok (J69_l1_0 (evF E orcL (n + 2)) n0 m (some (.rw b, 0)) l c A B i S) (Sorts X F b d0 js)
  | 0, i, d, S, hm, hi, hp, h => by omega
  | m + 1, i, d, S, hm, hi, hp, h => by
    rw [J69_l1_0_succ]
    simp only [b69_l1_0]
    refine ok_cond (fun hc => ?_) (fun _ => ok_ret ⟨rfl, d, hp, h⟩)
    simp only [decide_eq_true_eq] at hc
    refine ins_in n0 n hA hl hl2 (fun S' d' hp' h' => ?_) n0 i d S (by omega) (by omega) hp h
    rw [wn (n := i + 1) (by omega) (by omega)]
    exact ins_out n0 n hn hA hB hl hl2 m (i + 1) d' S' (by omega) (by omega) hp' h'

theorem ins_ok (n : Nat) (hn : 1000000 < n) {x y : Nat} (hy : y ≤ l) (hx : x ≤ l) (hp : d.Perm d0) (hl : l = d0.length) (hl2 : l < 1000000) (h : Hp X S (D b d js :: F)) {xi yi : Int} (hxi : xi = x) (hyi : yi = y) :
    Ok (evF E orcL (n + 3) (.fn 69) [.sl (some (.rw b, 0)) l c, .int .i64 xi, .int .i64 yi] S) (Sorts X F b d0 js) := by
  subst hxi hyi
  rw [F69 _ _ _ _ _ _ _ (oL rfl)]
  simp only [J69, b69_entry]
  rw [wn (n := x + 1) (by omega) (by omega)]
  exact ins_out (n + 2) n (by omega) (by omega) (by omega) hl hl2 (n + 2) (x + 1) d S (by omega) (by omega) hp h

theorem sift_loop (n0 n : Nat) {hi fi : Nat} (hb : fi + hi ≤ l) (hl : l = d0.length) (hl2 : l < 1000000) : ∀ (m r : Nat) (d : List Int) (S : AS), hi - r < m → r ≤ 2000000 → d.Perm d0 → Hp X S (D b d js :: F) →
    Ok (J80_l1_0 (evF E orcL (n + 2)) n0 m (some (.rw b, 0)) l c hi fi r S) (Sorts X F b d0 js)
  | 0, r, d, S, hm, hr, hp, h => by omega
  | m + 1, r, d, S, hm, hr, hp, h => by
    rw [J80_l1_0_succ]
    simp only [b80_l1_0]
    have hld : l = d.length := by rw [hl, hp.length_eq]
    have e1 : IntKind.wrap .i64 (2 * (r : Int)) = (2 * r : Nat) := wn (by omega) (by omega)
    have e2 : IntKind.wrap .i64 (((2 * r : Nat) : Int) + 1) = (2 * r + 1 : Nat) := wn (by omega) (by omega)
    have e3 : IntKind.wrap .i64 (((2 * r + 1 : Nat) : Int) + 1) = (2 * r + 2 : Nat) := wn (by omega) (by omega)
    simp only [e1, e2, e3]
    refine ok_cond (fun _ => ok_ret ⟨rfl, d, hp, h⟩) (fun hc => ?_)
    simp only [ge_iff_le, decide_eq_false_iff_not] at hc
    have e4 : IntKind.wrap .i64 ((fi : Int) + ((2 * r + 1 : Nat) : Int)) = (fi + (2 * r + 1) : Nat) := wn (by omega) (by omega)
    have e5 : IntKind.wrap .i64 (((fi + (2 * r + 1) : Nat) : Int) + 1) = (fi + (2 * r + 2) : Nat) := wn (by omega) (by omega)
    have e6 : IntKind.wrap .i64 ((fi : Int) + (r : Int)) = (fi + r : Nat) := wn (by omega) (by omega)
    have e7 : IntKind.wrap .i64 ((fi : Int) + ((2 * r + 2 : Nat) : Int)) = (fi + (2 * r + 2) : Nat) := wn (by omega) (by omega)
    simp only [e4, e5, e6, e7]
    have step : ∀ k, (k = 2 * r + 1 ∨ k = 2 * r + 2) → k < hi → ∀ S' d', d'.Perm d0 → Hp X S' (D b d' js :: F) → Ok (J80_l1_0 (evF E orcL (n + 2)) n0 m (some (.rw b, 0)) l c hi fi k S') (Sorts X F b d0 js) :=
      fun k hk hkh S' d' hp' h' => sift_loop n0 n hb hl hl2 m k d' S' (by omega) (by omega) hp' h'
    refine ok_cond (fun hc2 => ?_) (fun hc2 => ?_)
    · simp only [decide_eq_true_eq] at hc2
      refine at_ok h hld (i := fi + (2 * r + 1)) rfl (by omega) (fun v1 _ => at_ok h hld (i := fi + (2 * r + 2)) rfl (by omega) (fun v2 _ => ?_))
      rw [callB_of (less_eq n v1 v2 S)]
      refine ok_cond (fun _ => ?_) (fun _ => ?_)
      · refine at_ok h hld (i := fi + r) rfl (by omega) (fun v3 _ => at_ok h hld (i := fi + (2 * r + 2)) rfl (by omega) (fun v4 _ => ?_))
        rw [callB_of (less_eq n v3 v4 S)]
        refine ok_cond (fun _ => ok_ret ⟨rfl, d, hp, h⟩) (fun _ => ?_)
        exact swap_ok h hp hl (i := fi + (2 * r + 2)) (j := fi + r) rfl rfl rfl rfl (by omega) (by omega) (fun S' d' hp' h' => step _ (.inr rfl) (by omega) S' d' hp' h')
      · refine at_ok h hld (i := fi + r) rfl (by omega) (fun v3 _ => at_ok h hld (i := fi + (2 * r + 1)) rfl (by omega) (fun v4 _ => ?_))
        rw [callB_of (less_eq n v3 v4 S)]
        refine ok_cond (fun _ => ok_ret ⟨rfl, d, hp, h⟩) (fun _ => ?_)
        exact swap_ok h hp hl (i := fi + (2 * r + 1)) (j := fi + r) rfl rfl rfl rfl (by omega) (by omega) (fun S' d' hp' h' => step _ (.inl rfl) (by omega) S' d' hp' h')
    · refine at_ok h hld (i := fi + r) rfl (by omega) (fun v3 _ => at_ok h hld (i := fi + (2 * r + 1)) rfl (by omega) (fun v4 _ => ?_))
      rw [callB_of (less_eq n v3 v4 S)]
      refine ok_cond (fun _ => ok_ret ⟨rfl, d, hp, h⟩) (fun _ => ?_)
      exact swap_ok h hp hl (i := fi + (2 * r + 1)) (j := fi + r) rfl rfl rfl rfl (by omega) (by omega) (fun S' d' hp' h' => step _ (.inl rfl) (by omega) S' d' hp' h')

theorem sift_ok (n : Nat) (hn : 1000000 < n) {lo hi fi : Nat} (hb : fi + hi ≤ l) (hlo : lo ≤ l) (hp : d.Perm d0) (hl : l = d0.length) (hl2 : l < 1000000) (h : Hp X S (D b d js :: F)) {a1 a2 a3 : Int} (h1 : a1 = lo) (h2 : a2 = hi) (h3 : a3 = fi) :
    Ok (evF E orcL (n + 3) (.fn 80) [.sl (some (.rw b, 0)) l c, .int .i64 a1, .int .i64 a2, .int .i64 a3] S) (Sorts X F b d0 js) := by
  subst h1 h2 h3
  rw [F80 _ _ _ _ _ _ _ _ (oL rfl)]
  simp only [J80, b80_entry]
  exact sift_loop (n + 2) n hb hl hl2 (n + 2) lo d S (by omega) (by omega) hp h

theorem heap_pop (n : Nat) (hn : 1000000 < n) (n0 : Nat) {fi : Nat} (hl : l = d0.length) (hl2 : l < 1000000) : ∀ (m : Nat) (i : Nat) (d : List Int) (S : AS), i < m → fi + i ≤ l → d.Perm d0 → Hp X S (D b d js :: F) →
    Ok (J70_l1_1_1_1_1_0 (evF E orcL (n + 3)) n0 m (some (.rw b, 0)) l c fi 0 ((i : Int) - 1) S) (Sorts X F b d0 js)
  | 0, i, d, S, hm, hi, hp, h => by omega
  | m + 1, i, d, S, hm, hi, hp, h => by
    rw [J70_l1_1_1_1_1_0_succ]
    simp only [b70_l1_1_1_1_1_0]
    refine ok_cond (fun hc => ?_) (fun _ => ok_ret ⟨rfl, d, hp, h⟩)
    simp only [ge_iff_le, decide_eq_true_eq] at hc
    obtain ⟨k, rfl⟩ : ∃ k, i = k + 1 := ⟨i - 1, by omega⟩
    have e0 : (((k + 1 : Nat) : Int) - 1) = (k : Nat) := by omega
    rw [e0]
    have e1 : IntKind.wrap .i64 ((fi : Int) + (k : Int)) = (fi + k : Nat) := wn (by omega) (by omega)
    rw [e1]
    refine swap_ok h hp hl (i := fi + k) (j := fi) rfl rfl rfl rfl (by omega) (by omega) (fun S' d' hp' h' => ?_)
    obtain ⟨v, S2, e, rfl, d2, hp2, h2⟩ := sift_ok n hn (lo := 0) (hi := k) (fi := fi) (by omega) (by omega) hp' hl hl2 h' (c := c) (a1 := 0) (a2 := k) (a3 := fi) rfl rfl rfl
    rw [callT_of e]
    rw [wz (z := (k : Int) - 1) rfl (by omega) (by omega)]
    exact heap_pop n hn n0 hl hl2 m k d2 S2 (by omega) (by omega) hp2 h2

theorem heap_make (n : Nat) (hn : 1000000 < n) (n0 : Nat) (hn0 : 1000000 < n0) {fi hi : Nat} (hb : fi + hi ≤ l) (hl : l = d0.length) (hl2 : l < 1000000) : ∀ (m : Nat) (i : Nat) (d : List Int) (S : AS), i < m → i ≤ hi + 1 → d.Perm d0 → Hp X S (D b d js :: F) →
    Ok (J70_l1_1_1_0_1_0 (evF E orcL (n + 3)) n0 m (some (.rw b, 0)) l c fi 0 hi ((i : Int) - 1) S) (Sorts X F b d0 js)
  | 0, i, d, S, hm, hi, hp, h => by omega
  | m + 1, i, d, S, hm, hi', hp, h => by
    rw [J70_l1_1_1_0_1_0_succ]
    simp only [b70_l1_1_1_0_1_0]
    refine ok_cond (fun hc => ?_) (fun _ => ?_)
    · simp only [ge_iff_le, decide_eq_true_eq] at hc
      obtain ⟨k, rfl⟩ : ∃ k, i = k + 1 := ⟨i - 1, by omega⟩
      have e0 : (((k + 1 : Nat) : Int) - 1) = (k : Nat) := by omega
      rw [e0]
      by_cases hkl : k ≤ l
      · obtain ⟨v, S2, e, rfl, d2, hp2, h2⟩ := sift_ok n hn (lo := k) (hi := hi) (fi := fi) hb hkl hp hl hl2 h (c := c) (a1 := k) (a2 := hi) (a3 := fi) rfl rfl rfl
        rw [callT_of e]
        rw [wz (z := (k : Int) - 1) rfl (by omega) (by omega)]
        exact heap_make n hn n0 hn0 hb hl hl2 m k d2 S2 (by omega) (by omega) hp2 h2
      · omega
    · simp only [J70_j1_1_1_1, b70_j1_1_1_1]
      rw [wz (z := (hi : Int) - 1) rfl (by omega) (by omega)]
      exact heap_pop n hn n0 hl hl2 n0 hi d S (by omega) hb hp h

theorem heap_ok (n : Nat) (hn : 1000000 < n) {x y : Nat} (hxy : x ≤ y) (hy : y ≤ l) (hp : d.Perm d0) (hl : l = d0.length) (hl2 : l < 1000000) (h : Hp X S (D b d js :: F)) {xi yi : Int} (hxi : xi = x) (hyi : yi = y) :
    Ok (evF E orcL (n + 4) (.fn 70) [.sl (some (.rw b, 0)) l c, .int .i64 xi, .int .i64 yi] S) (Sorts X F b d0 js) := by
  subst hxi hyi
  rw [F70 _ _ _ _ _ _ _ (oL rfl)]
  simp only [J70, b70_entry]
  rw [wn (x := (y : Int) - (x : Int)) (n := y - x) (by omega) (by omega)]
  rw [wz (x := ((y - x : Nat) : Int) - 1) rfl (by omega) (by omega)]
  have e : Int.tdiv (((y - x : Nat) : Int) - 1) 2 = ((((y - x - 1) / 2 : Nat) + 1 : Nat) : Int) - 1 ∨ (y - x = 0 ∧ Int.tdiv (((y - x : Nat) : Int) - 1) 2 = 0) := by
    by_cases h0 : y - x = 0
    · right; rw [h0]; exact ⟨rfl, rfl⟩
    · left
      rw [Int.tdiv_eq_ediv_of_nonneg (by omega)]; omega
  rcases e with e | ⟨h0, e⟩
  · rw [e, wz rfl (by omega) (by omega)]
    exact heap_make n hn (n + 3) (by omega) (hi := y - x) (by omega) hl hl2 (n + 3) _ d S (by omega) (by omega) hp h
  · rw [e, show IntKind.wrap .i64 0 = ((1 : Nat) : Int) - 1 from wz (by omega) (by omega) (by omega)]
    exact heap_make n hn (n + 3) (by omega) (hi := y - x) (by omega) hl hl2 (n + 3) 1 d S (by omega) (by omega) hp h

end

end Go.Al

namespace Go.Al
open Go.Gr

section
variable {X : Cx} {S : AS} {F : List Ent} {b l : Nat} {c : Cap} {d d0 : List Int} {js : List AV} {Q : AV → AS → Prop}

theorem rev_loop (n0 : Nat) (call : CallA) (hl : l = d0.length) (hl2 : l < 1000000) : ∀ (m i J : Nat) (d : List Int) (S : AS), J < m → J ≤ l → i ≤ l → d.Perm d0 → Hp X S (D b d js :: F) →
    Ok (J73_l1_1_0 call n0 m (some (.rw b, 0)) l c i ((J : Int) - 1) S) (Sorts X F b d0 js)
  | 0, i, J, d, S, hm, hJ, hi, hp, h => by omega
  | m + 1, i, J, d, S, hm, hJ, hi, hp, h => by
    rw [J73_l1_1_0_succ]
    simp only [b73_l1_1_0]
    refine ok_cond (fun hc => ?_) (fun _ => ok_ret ⟨rfl, d, hp, h⟩)
    simp only [decide_eq_true_eq] at hc
    obtain ⟨k, rfl⟩ : ∃ k, J = k + 1 := ⟨J - 1, by omega⟩
    have e0 : (((k + 1 : Nat) : Int) - 1) = (k : Nat) := by omega
    rw [e0]
    refine swap_ok h hp hl (i := k) (j := i) rfl rfl rfl rfl (by omega) (by omega) (fun S' d' hp' h' => ?_)
    rw [wn (n := i + 1) (by omega) (by omega), wz (z := (k : Int) - 1) rfl (by omega) (by omega)]
    exact rev_loop n0 call hl hl2 m (i + 1) k d' S' (by omega) (by omega) (by omega) hp' h'

theorem rev_ok (n : Nat) (hn : 1000000 < n) {x y : Nat} (hx : x ≤ l) (hy : y ≤ l) (hp : d.Perm d0) (hl : l = d0.length) (hl2 : l < 1000000) (h : Hp X S (D b d js :: F)) {xi yi : Int} (hxi : xi = x) (hyi : yi = y) :
    Ok (evF E orcL (n + 1) (.fn 73) [.sl (some (.rw b, 0)) l c, .int .i64 xi, .int .i64 yi] S) (Sorts X F b d0 js) := by
  subst hxi hyi
  rw [F73 _ _ _ _ _ _ _ (oL rfl)]
  simp only [J73, b73_entry]
  rw [wz (z := (y : Int) - 1) rfl (by omega) (by omega)]
  exact rev_loop n _ hl hl2 n x y d S (by omega) hy hx hp h

/-- A scan upwards. -/
theorem scan_up {L : Nat → Int → Option (AV × AS)} {K : Int → Option (AV × AS)} {lo J : Nat}
    (hs : ∀ m i, lo ≤ i → i ≤ J → (i < J → Ok (L m ((i + 1 : Nat) : Int)) Q) → Ok (K i) Q → Ok (L (m + 1) i) Q) (hK : ∀ i : Nat, lo ≤ i → i ≤ J → Ok (K i) Q) : ∀ (m i : Nat), J - i < m → lo ≤ i → i ≤ J → Ok (L m i) Q
  | 0, i, hm, h1, h2 => by omega
  | m + 1, i, hm, h1, h2 => hs m i h1 h2 (fun hlt => scan_up hs hK m (i + 1) (by omega) (by omega) (by omega)) (hK i h1 h2)

/-- A scan downwards: what is told is one more. -/
theorem scan_down {L : Nat → Int → Option (AV × AS)} {K : Int → Option (AV × AS)} {lo J0 : Nat}
    (hs : ∀ m J, lo ≤ J → J ≤ J0 → (lo < J → Ok (L m (((J - 1 : Nat) : Int) - 1)) Q) → Ok (K ((J : Int) - 1)) Q → Ok (L (m + 1) ((J : Int) - 1)) Q) (hK : ∀ J : Nat, lo ≤ J → J ≤ J0 → Ok (K ((J : Int) - 1)) Q) : ∀ (m J : Nat), J < m → lo ≤ J → J ≤ J0 → Ok (L m ((J : Int) - 1)) Q
  | 0, J, hm, h1, h2 => by omega
  | m + 1, J, hm, h1, h2 => hs m J h1 h2 (fun hlt => scan_down hs hK m (J - 1) (by omega) (by omega) (by omega)) (hK J h1 h2)

theorem peq_loop (n n0 : Nat) (hn0 : 1000000 < n0) {a y : Nat} (hy : y ≤ l) (hl : l = d0.length) (hl2 : l < 1000000) : ∀ (m i J : Nat) (d : List Int) (S : AS), J - i < m → a + 1 ≤ i → i ≤ y → a + 1 ≤ J → J ≤ y → d.Perm d0 → Hp X S (D b d js :: F) →
    Ok (J76_l1_1_1_0_0 (evF E orcL (n + 2)) n0 m (some (.rw b, 0)) l c a i ((J : Int) - 1) S) fun v S' => ∃ r : Nat, v = .int .i64 r ∧ a < r ∧ r ≤ y ∧ ∃ d', d'.Perm d0 ∧ Hp X S' (D b d' js :: F)
  | 0, i, J, d, S, hm, ha, hi, hj, hJ, hp, h => by omega
  | m + 1, i, J, d, S, hm, ha, hi, hj, hJ, hp, h => by
    have hld : l = d.length := by rw [hl, hp.length_eq]
    rw [J76_l1_1_1_0_0_succ]
    simp only [b76_l1_1_1_0_0]
    refine scan_up (lo := i) (J := y) (L := fun k i => J76_l1_1_1_0_0_0_0_0_0 (evF E orcL (n + 2)) n0 (J76_l1_1_1_0_0 (evF E orcL (n + 2)) n0 m) k (some (.rw b, 0)) l c a i ((J : Int) - 1) S) (K := fun i => J76_l1_1_1_0_0_0_0_1_0_0 (evF E orcL (n + 2)) n0 (J76_l1_1_1_0_0 (evF E orcL (n + 2)) n0 m) n0 (some (.rw b, 0)) l c a i ((J : Int) - 1) S) (fun k i h1 h2 hL hK => ?_) (fun i h1 h2 => ?_) n0 i (by omega) (Nat.le_refl _) hi
    · rw [J76_l1_1_1_0_0_0_0_0_0_succ]
      simp only [b76_l1_1_1_0_0_0_0_0_0]
      refine ok_cond (fun hc => ?_) (fun _ => hK)
      simp only [decide_eq_true_eq] at hc
      refine at_ok h hld (i := a) rfl (by omega) (fun v1 _ => at_ok h hld (i := i) rfl (by omega) (fun v2 _ => ?_))
      rw [callB_of (less_eq n v1 v2 S)]
      refine ok_cond (fun _ => ?_) (fun _ => hK)
      rw [wn (n := i + 1) (by omega) (by omega)]
      exact hL (by omega)
    · refine scan_down (lo := a + 1) (J0 := J) (L := fun k w => J76_l1_1_1_0_0_0_0_1_0_0 (evF E orcL (n + 2)) n0 (J76_l1_1_1_0_0 (evF E orcL (n + 2)) n0 m) k (some (.rw b, 0)) l c a i w S) (K := fun w => J76_j1_1_1_0_0_0_0_1_1 (evF E orcL (n + 2)) n0 (J76_l1_1_1_0_0 (evF E orcL (n + 2)) n0 m) (some (.rw b, 0)) l c a i w S) (fun k J' h3 h4 hL hK => ?_) (fun J' h3 h4 => ?_) n0 J (by omega) hj (Nat.le_refl _)
      · rw [J76_l1_1_1_0_0_0_0_1_0_0_succ]
        simp only [b76_l1_1_1_0_0_0_0_1_0_0]
        refine ok_cond (fun hc => ?_) (fun _ => hK)
        simp only [decide_eq_true_eq] at hc
        refine at_ok h hld (i := a) rfl (by omega) (fun v1 _ => at_ok h hld (i := J' - 1) (by omega) (by omega) (fun v2 _ => ?_))
        rw [callB_of (less_eq n v1 v2 S)]
        refine ok_cond (fun _ => ?_) (fun _ => hK)
        rw [wz (z := ((J' - 1 : Nat) : Int) - 1) (by omega) (by omega) (by omega)]
        exact hL (by omega)
      · simp only [J76_j1_1_1_0_0_0_0_1_1, b76_j1_1_1_0_0_0_0_1_1]
        refine ok_cond (fun hc => ok_ret ⟨i, rfl, by omega, by omega, d, hp, h⟩) (fun hc => ?_)
        simp only [gt_iff_lt, decide_eq_false_iff_not] at hc
        refine swap_ok h hp hl (i := J' - 1) (j := i) (by omega) rfl (by omega) rfl (by omega) (by omega) (fun S' d' hp' h' => ?_)
        rw [wn (n := i + 1) (by omega) (by omega), wz (z := ((J' - 1 : Nat) : Int) - 1) (by omega) (by omega) (by omega)]
        exact peq_loop n n0 hn0 hy hl hl2 m (i + 1) (J' - 1) d' S' (by omega) (by omega) (by omega) (by omega) (by omega) hp' h'

theorem peq_ok (n : Nat) (hn : 1000000 < n) {x y p : Nat} (hxy : x < y) (hy : y ≤ l) (hpx : x ≤ p) (hpy : p < y) (hp : d.Perm d0) (hl : l = d0.length) (hl2 : l < 1000000) (h : Hp X S (D b d js :: F)) {xi yi pi : Int} (hxi : xi = x) (hyi : yi = y) (hpi : pi = p) :
    Ok (evF E orcL (n + 3) (.fn 76) [.sl (some (.rw b, 0)) l c, .int .i64 xi, .int .i64 yi, .int .i64 pi] S) fun v S' => ∃ r : Nat, v = .int .i64 r ∧ x < r ∧ r ≤ y ∧ ∃ d', d'.Perm d0 ∧ Hp X S' (D b d' js :: F) := by
  subst hxi hyi hpi
  rw [F76 _ _ _ _ _ _ _ _ (oL rfl)]
  simp only [J76, b76_entry]
  refine swap_ok h hp hl (i := p) (j := x) rfl rfl rfl rfl (by omega) (by omega) (fun S' d' hp' h' => ?_)
  rw [wn (n := x + 1) (by omega) (by omega), wz (z := (y : Int) - 1) rfl (by omega) (by omega)]
  exact peq_loop n (n + 2) (by omega) hy hl hl2 (n + 2) (x + 1) y d' S' (by omega) (by omega) (by omega) (by omega) (Nat.le_refl _) hp' h'

abbrev Parts (X : Cx) (F : List Ent) (b : Nat) (d0 : List Int) (js : List AV) (x y : Nat) : AV → AS → Prop := fun v S' => ∃ (r : Nat) (t : Bool), v = .tup [.int .i64 r, .bool t] ∧ x ≤ r ∧ r < y ∧ ∃ d', d'.Perm d0 ∧ Hp X S' (D b d' js :: F)

theorem part_rest (n n0 : Nat) (hn0 : 1000000 < n0) {a y : Nat} (hay : a < y) (hy : y ≤ l) (hl : l = d0.length) (hl2 : l < 1000000) : ∀ (m i J : Nat) (d : List Int) (S : AS), J - i < m → a + 1 ≤ i → i ≤ y → a + 1 ≤ J → J ≤ y → d.Perm d0 → Hp X S (D b d js :: F) →
    Ok (J77_l1_1_1_1_1_1_1_1_1_0_0 (evF E orcL (n + 2)) n0 m (some (.rw b, 0)) l c a i ((J : Int) - 1) S) (Parts X F b d0 js a y)
  | 0, i, J, d, S, hm, ha, hi, hj, hJ, hp, h => by omega
  | m + 1, i, J, d, S, hm, ha, hi, hj, hJ, hp, h => by
    have hld : l = d.length := by rw [hl, hp.length_eq]
    rw [J77_l1_1_1_1_1_1_1_1_1_0_0_succ]
    simp only [b77_l1_1_1_1_1_1_1_1_1_0_0]
    refine scan_up (lo := i) (J := y) (L := fun k i => J77_l1_1_1_1_1_1_1_1_1_0_0_0_0_0_0 (evF E orcL (n + 2)) n0 (J77_l1_1_1_1_1_1_1_1_1_0_0 (evF E orcL (n + 2)) n0 m) k (some (.rw b, 0)) l c a i ((J : Int) - 1) S) (K := fun i => J77_l1_1_1_1_1_1_1_1_1_0_0_0_0_1_0_0 (evF E orcL (n + 2)) n0 (J77_l1_1_1_1_1_1_1_1_1_0_0 (evF E orcL (n + 2)) n0 m) n0 (some (.rw b, 0)) l c a i ((J : Int) - 1) S) (fun k i h1 h2 hL hK => ?_) (fun i h1 h2 => ?_) n0 i (by omega) (Nat.le_refl _) hi
    · rw [J77_l1_1_1_1_1_1_1_1_1_0_0_0_0_0_0_succ]
      simp only [b77_l1_1_1_1_1_1_1_1_1_0_0_0_0_0_0]
      refine ok_cond (fun hc => ?_) (fun _ => hK)
      simp only [decide_eq_true_eq] at hc
      refine at_ok h hld (i := i) rfl (by omega) (fun v1 _ => at_ok h hld (i := a) rfl (by omega) (fun v2 _ => ?_))
      rw [callB_of (less_eq n v1 v2 S)]
      refine ok_cond (fun _ => ?_) (fun _ => hK)
      rw [wn (n := i + 1) (by omega) (by omega)]
      exact hL (by omega)
    · refine scan_down (lo := a + 1) (J0 := J) (L := fun k w => J77_l1_1_1_1_1_1_1_1_1_0_0_0_0_1_0_0 (evF E orcL (n + 2)) n0 (J77_l1_1_1_1_1_1_1_1_1_0_0 (evF E orcL (n + 2)) n0 m) k (some (.rw b, 0)) l c a i w S) (K := fun w => J77_j1_1_1_1_1_1_1_1_1_0_0_0_0_1_1 (evF E orcL (n + 2)) n0 (J77_l1_1_1_1_1_1_1_1_1_0_0 (evF E orcL (n + 2)) n0 m) (some (.rw b, 0)) l c a i w S) (fun k J' h3 h4 hL hK => ?_) (fun J' h3 h4 => ?_) n0 J (by omega) hj (Nat.le_refl _)
      · rw [J77_l1_1_1_1_1_1_1_1_1_0_0_0_0_1_0_0_succ]
        simp only [b77_l1_1_1_1_1_1_1_1_1_0_0_0_0_1_0_0]
        refine ok_cond (fun hc => ?_) (fun _ => hK)
        simp only [decide_eq_true_eq] at hc
        refine at_ok h hld (i := J' - 1) (by omega) (by omega) (fun v1 _ => at_ok h hld (i := a) rfl (by omega) (fun v2 _ => ?_))
        rw [callB_of (less_eq n v1 v2 S)]
        refine ok_cond (fun _ => ?_) (fun _ => hK)
        rw [wz (z := ((J' - 1 : Nat) : Int) - 1) (by omega) (by omega) (by omega)]
        exact hL (by omega)
      · simp only [J77_j1_1_1_1_1_1_1_1_1_0_0_0_0_1_1, b77_j1_1_1_1_1_1_1_1_1_0_0_0_0_1_1]
        refine ok_cond (fun hc => ?_) (fun hc => ?_)
        · simp only [J77_j1_1_1_1_1_1_1_1_1_1, b77_j1_1_1_1_1_1_1_1_1_1]
          refine swap_ok h hp hl (i := a) (j := J' - 1) rfl (by omega) rfl (by omega) (by omega) (by omega) (fun S' d' hp' h' => ok_ret ⟨J' - 1, false, ?_, by omega, by omega, d', hp', h'⟩)
          rw [show ((J' : Int) - 1) = ((J' - 1 : Nat) : Int) by omega]
        simp only [gt_iff_lt, decide_eq_false_iff_not] at hc
        refine swap_ok h hp hl (i := J' - 1) (j := i) (by omega) rfl (by omega) rfl (by omega) (by omega) (fun S' d' hp' h' => ?_)
        rw [wn (n := i + 1) (by omega) (by omega), wz (z := ((J' - 1 : Nat) : Int) - 1) (by omega) (by omega) (by omega)]
        exact part_rest n n0 hn0 hay hy hl hl2 m (i + 1) (J' - 1) d' S' (by omega) (by omega) (by omega) (by omega) (by omega) hp' h'

theorem part_ok (n : Nat) (hn : 1000000 < n) {x y p : Nat} (hxy : x < y) (hy : y ≤ l) (hpx : x ≤ p) (hpy : p < y) (hp : d.Perm d0) (hl : l = d0.length) (hl2 : l < 1000000) (h : Hp X S (D b d js :: F)) {xi yi pi : Int} (hxi : xi = x) (hyi : yi = y) (hpi : pi = p) :
    Ok (evF E orcL (n + 3) (.fn 77) [.sl (some (.rw b, 0)) l c, .int .i64 xi, .int .i64 yi, .int .i64 pi] S) (Parts X F b d0 js x y) := by
  subst hxi hyi hpi
  rw [F77 _ _ _ _ _ _ _ _ (oL rfl)]
  simp only [J77, b77_entry]
  refine swap_ok h hp hl (i := p) (j := x) rfl rfl rfl rfl (by omega) (by omega) (fun S d hp h => ?_)
  rw [wn (n := x + 1) (by omega) (by omega), wz (z := (y : Int) - 1) rfl (by omega) (by omega)]
  have hld : l = d.length := by rw [hl, hp.length_eq]
  refine scan_up (lo := x + 1) (J := y) (L := fun k i => J77_l1_1_1_0_0 (evF E orcL (n + 2)) (n + 2) k (some (.rw b, 0)) l c x i ((y : Int) - 1) S) (K := fun i => J77_l1_1_1_1_0_0 (evF E orcL (n + 2)) (n + 2) (n + 2) (some (.rw b, 0)) l c x i ((y : Int) - 1) S) (fun k i h1 h2 hL hK => ?_) (fun i h1 h2 => ?_) (n + 2) (x + 1) (by omega) (by omega) (by omega)
  · rw [J77_l1_1_1_0_0_succ]
    simp only [b77_l1_1_1_0_0]
    refine ok_cond (fun hc => ?_) (fun _ => hK)
    simp only [decide_eq_true_eq] at hc
    refine at_ok h hld (i := i) rfl (by omega) (fun v1 _ => at_ok h hld (i := x) rfl (by omega) (fun v2 _ => ?_))
    rw [callB_of (less_eq n v1 v2 S)]
    refine ok_cond (fun _ => ?_) (fun _ => hK)
    rw [wn (n := i + 1) (by omega) (by omega)]
    exact hL (by omega)
  · refine scan_down (lo := x + 1) (J0 := y) (L := fun k w => J77_l1_1_1_1_0_0 (evF E orcL (n + 2)) (n + 2) k (some (.rw b, 0)) l c x i w S) (K := fun w => J77_j1_1_1_1_1 (evF E orcL (n + 2)) (n + 2) (some (.rw b, 0)) l c x i w S) (fun k J' h3 h4 hL hK => ?_) (fun J' h3 h4 => ?_) (n + 2) y (by omega) (by omega) (Nat.le_refl _)
    · rw [J77_l1_1_1_1_0_0_succ]
      simp only [b77_l1_1_1_1_0_0]
      refine ok_cond (fun hc => ?_) (fun _ => hK)
      simp only [decide_eq_true_eq] at hc
      refine at_ok h hld (i := J' - 1) (by omega) (by omega) (fun v1 _ => at_ok h hld (i := x) rfl (by omega) (fun v2 _ => ?_))
      rw [callB_of (less_eq n v1 v2 S)]
      refine ok_cond (fun _ => ?_) (fun _ => hK)
      rw [wz (z := ((J' - 1 : Nat) : Int) - 1) (by omega) (by omega) (by omega)]
      exact hL (by omega)
    · simp only [J77_j1_1_1_1_1, b77_j1_1_1_1_1]
      refine ok_cond (fun hc => ?_) (fun hc => ?_)
      · refine swap_ok h hp hl (i := x) (j := J' - 1) rfl (by omega) rfl (by omega) (by omega) (by omega) (fun S' d' hp' h' => ok_ret ⟨J' - 1, true, ?_, by omega, by omega, d', hp', h'⟩)
        rw [show ((J' : Int) - 1) = ((J' - 1 : Nat) : Int) by omega]
      simp only [gt_iff_lt, decide_eq_false_iff_not] at hc
      refine swap_ok h hp hl (i := J' - 1) (j := i) (by omega) rfl (by omega) rfl (by omega) (by omega) (fun S' d' hp' h' => ?_)
      rw [wn (n := i + 1) (by omega) (by omega), wz (z := ((J' - 1 : Nat) : Int) - 1) (by omega) (by omega) (by omega)]
      exact part_rest n (n + 2) (by omega) hxy hy hl hl2 (n + 2) (i + 1) (J' - 1) d' S' (by omega) (by omega) (by omega) (by omega) (by omega) hp' h'

end

end Go.Al

namespace Go.Al
open Go.Gr

section
variable {X : Cx} {S : AS} {F : List Ent} {b l q : Nat} {c : Cap} {d d0 : List Int} {js : List AV} {Q : AV → AS → Prop} {s : Int}

theorem ord_ok (n : Nat) {x y : Nat} (hx : x < l) (hy : y < l) (hld : l = d.length) (h : Hp X S (D b d js :: C q [.int .i64 s] :: F)) :
    Ok (evF E orcL (n + 3) (.fn 86) [.sl (some (.rw b, 0)) l c, .int .i64 x, .int .i64 y, .ptr (some (.rw q, 0))] S) fun v S' => ∃ x' y' : Nat, v = .tup [.int .i64 x', .int .i64 y'] ∧ ((x' = x ∧ y' = y) ∨ (x' = y ∧ y' = x)) ∧ ∃ s', Hp X S' (D b d js :: C q [.int .i64 s'] :: F) := by
  rw [F86 _ _ _ _ _ _ _ _ (oL rfl)]
  simp only [J86, b86_entry]
  refine at_ok h hld (i := y) rfl hy (fun v1 _ => at_ok h hld (i := x) rfl hx (fun v2 _ => ?_))
  rw [callB_of (less_eq n v1 v2 S)]
  refine ok_cond (fun _ => ?_) (fun _ => ok_ret ⟨x, y, rfl, .inl ⟨rfl, rfl⟩, s, h⟩)
  refine ok_gO (ok_ldI h rfl (ok_gO ?_))
  exact ok_stn h (by simp) (d := [.int .i64 (IntKind.wrap .i64 (s + 1))]) (by simp [splice]) (fun S2 h2 => ok_ret ⟨y, x, rfl, .inr ⟨rfl, rfl⟩, _, h2⟩)

theorem med_ok (n : Nat) {x y z lo hi : Nat} (hx : lo ≤ x ∧ x < hi) (hy : lo ≤ y ∧ y < hi) (hz : lo ≤ z ∧ z < hi) (hhi : hi ≤ l) (hld : l = d.length) (h : Hp X S (D b d js :: C q [.int .i64 s] :: F)) {xi yi zi : Int} (hxi : xi = x) (hyi : yi = y) (hzi : zi = z) :
    Ok (evF E orcL (n + 4) (.fn 84) [.sl (some (.rw b, 0)) l c, .int .i64 xi, .int .i64 yi, .int .i64 zi, .ptr (some (.rw q, 0))] S) fun v S' => ∃ r : Nat, v = .int .i64 r ∧ lo ≤ r ∧ r < hi ∧ ∃ s', Hp X S' (D b d js :: C q [.int .i64 s'] :: F) := by
  subst hxi hyi hzi
  rw [F84 _ _ _ _ _ _ _ _ _ (oL rfl)]
  simp only [J84, b84_entry]
  obtain ⟨v, S1, e, x1, y1, rfl, hr1, s1, h1⟩ := ord_ok n (c := c) (show x < l by omega) (show y < l by omega) hld h
  rw [callT_of e]
  simp only [atI, List.getElem?_cons_zero, List.getElem?_cons_succ, gIk, if_true]
  obtain ⟨v, S2, e, x2, y2, rfl, hr2, s2, h2⟩ := ord_ok n (c := c) (show y1 < l by omega) (show z < l by omega) hld h1
  rw [callT_of e]
  simp only [List.getElem?_cons_zero, List.getElem?_cons_succ]
  obtain ⟨v, S3, e, x3, y3, rfl, hr3, s3, h3⟩ := ord_ok n (c := c) (show x1 < l by omega) (show x2 < l by omega) hld h2
  rw [callT_of e]
  simp only [List.getElem?_cons_zero, List.getElem?_cons_succ]
  exact ok_ret ⟨y3, rfl, by omega, by omega, s3, h3⟩

theorem adj_ok (n : Nat) {x lo hi : Nat} (hx : lo + 1 ≤ x ∧ x + 1 < hi) (hhi : hi ≤ l) (hl2 : l < 1000000) (hld : l = d.length) (h : Hp X S (D b d js :: C q [.int .i64 s] :: F)) {xi : Int} (hxi : xi = x) :
    Ok (evF E orcL (n + 5) (.fn 83) [.sl (some (.rw b, 0)) l c, .int .i64 xi, .ptr (some (.rw q, 0))] S) fun v S' => ∃ r : Nat, v = .int .i64 r ∧ lo ≤ r ∧ r < hi ∧ ∃ s', Hp X S' (D b d js :: C q [.int .i64 s'] :: F) := by
  subst hxi
  rw [F83 _ _ _ _ _ _ _ (oL rfl)]
  simp only [J83, b83_entry]
  rw [wn (x := (x : Int) + 1) (n := x + 1) (by omega) (by omega), wn (x := (x : Int) - 1) (n := x - 1) (by omega) (by omega)]
  obtain ⟨v, S1, e, r, rfl, hr1, hr2, s1, h1⟩ := med_ok n (c := c) (x := x - 1) (y := x) (z := x + 1) (lo := lo) (hi := hi) ⟨by omega, by omega⟩ ⟨by omega, by omega⟩ ⟨by omega, by omega⟩ hhi hld h rfl rfl rfl
  rw [callI_of e]
  exact ok_ret ⟨r, rfl, hr1, hr2, s1, h1⟩

theorem tdiv4 (i : Nat) : Int.tdiv (i : Int) 4 = ((i / 4 : Nat) : Int) := by
  rw [Int.tdiv_eq_ediv_of_nonneg (by omega)]; rfl

theorem pivot_ok (n : Nat) {x y : Nat} (hxy : x + 12 < y) (hy : y ≤ l) (hl2 : l < 1000000) (hld : l = d.length) (h : Hp X S (D b d js :: F)) {xi yi : Int} (hxi : xi = x) (hyi : yi = y) :
    Ok (evF E orcL (n + 6) (.fn 72) [.sl (some (.rw b, 0)) l c, .int .i64 xi, .int .i64 yi] S) fun v S' => ∃ (r : Nat) (t : Int), v = .tup [.int .i64 r, .int .i64 t] ∧ x ≤ r ∧ r < y ∧ Hp X S' (D b d js :: F) := by
  subst hxi hyi
  rw [F72 _ _ _ _ _ _ _ (oL rfl)]
  simp only [J72, b72_entry]
  have e1 : IntKind.wrap .i64 ((y : Int) - (x : Int)) = (y - x : Nat) := wn (by omega) (by omega)
  have e2 : IntKind.wrap .i64 (Int.tdiv ((y - x : Nat) : Int) 4) = ((y - x) / 4 : Nat) := by rw [tdiv4]; exact wn rfl (by omega)
  have f1 : IntKind.wrap .i64 ((((y - x) / 4 : Nat) : Int) * 1) = ((y - x) / 4 : Nat) := wn (by omega) (by omega)
  have f2 : IntKind.wrap .i64 ((((y - x) / 4 : Nat) : Int) * 2) = ((y - x) / 4 * 2 : Nat) := wn (by omega) (by omega)
  have f3 : IntKind.wrap .i64 ((((y - x) / 4 : Nat) : Int) * 3) = ((y - x) / 4 * 3 : Nat) := wn (by omega) (by omega)
  have g1 : IntKind.wrap .i64 ((x : Int) + (((y - x) / 4 : Nat) : Int)) = (x + (y - x) / 4 : Nat) := wn (by omega) (by omega)
  have g2 : IntKind.wrap .i64 ((x : Int) + (((y - x) / 4 * 2 : Nat) : Int)) = (x + (y - x) / 4 * 2 : Nat) := wn (by omega) (by omega)
  have g3 : IntKind.wrap .i64 ((x : Int) + (((y - x) / 4 * 3 : Nat) : Int)) = (x + (y - x) / 4 * 3 : Nat) := wn (by omega) (by omega)
  simp only [e1, e2, f1, f2, f3, g1, g2, g3]
  refine ok_newA h (fun q S1 h1 => ?_)
  have h1 : Hp X S1 (D b d js :: C q [.int .i64 0] :: F) := h1.re (by intro p; simp only [List.countP_cons, C]; omega)
  have fin : ∀ (S : AS) (r : Nat) (s : Int), x ≤ r → r < y → Hp X S (D b d js :: C q [.int .i64 s] :: F) → Ok (J72_j1_1_1_1_1_1_1 (evF E orcL (n + 5)) (n + 5) (some (.rw q, 0)) r S) fun v S' => ∃ (r : Nat) (t : Int), v = .tup [.int .i64 r, .int .i64 t] ∧ x ≤ r ∧ r < y ∧ Hp X S' (D b d js :: F) := by
    intro S r s hr1 hr2 h
    simp only [J72_j1_1_1_1_1_1_1, b72_j1_1_1_1_1_1_1]
    have hf : Hp X S (D b d js :: F) := (h.re (M := C q [.int .i64 s] :: D b d js :: F) (by intro p; simp only [List.countP_cons, C]; omega)).drop1
    refine ok_gO (ok_ldI h rfl ?_)
    exact ok_cond (fun _ => ok_ret ⟨r, 1, rfl, hr1, hr2, hf⟩) (fun _ => ok_cond (fun _ => ok_ret ⟨r, 2, rfl, hr1, hr2, hf⟩) (fun _ => ok_ret ⟨r, 0, rfl, hr1, hr2, hf⟩))
  have mid : ∀ (S : AS) (i j k : Nat) (s : Int), (x ≤ i ∧ i < y) → (x ≤ j ∧ j < y) → (x ≤ k ∧ k < y) → Hp X S (D b d js :: C q [.int .i64 s] :: F) → Ok (J72_j1_1_1_1_1_1_0_1_0_1 (evF E orcL (n + 5)) (n + 5) (some (.rw b, 0)) l c (some (.rw q, 0)) i j k S) fun v S' => ∃ (r : Nat) (t : Int), v = .tup [.int .i64 r, .int .i64 t] ∧ x ≤ r ∧ r < y ∧ Hp X S' (D b d js :: F) := by
    intro S i j k s hi hj hk h
    simp only [J72_j1_1_1_1_1_1_0_1_0_1, b72_j1_1_1_1_1_1_0_1_0_1]
    obtain ⟨v, S1, e, r, rfl, hr1, hr2, s1, h1⟩ := med_ok (n + 1) (c := c) (lo := x) (hi := y) hi hj hk hy hld h rfl rfl rfl
    rw [callI_of e]
    exact fin S1 r s1 hr1 hr2 h1
  refine ok_true (by simp; omega) ?_
  refine ok_cond (fun hc => ?_) (fun _ => mid S1 _ _ _ 0 ⟨by omega, by omega⟩ ⟨by omega, by omega⟩ ⟨by omega, by omega⟩ h1)
  simp only [ge_iff_le, decide_eq_true_eq] at hc
  obtain ⟨v, S2, e, i, rfl, hi1, hi2, s2, h2⟩ := adj_ok n (c := c) (x := x + (y - x) / 4) (lo := x) (hi := y) ⟨by omega, by omega⟩ hy hl2 hld h1 rfl
  rw [callI_of e]
  obtain ⟨v, S3, e, j, rfl, hj1, hj2, s3, h3⟩ := adj_ok n (c := c) (x := x + (y - x) / 4 * 2) (lo := x) (hi := y) ⟨by omega, by omega⟩ hy hl2 hld h2 rfl
  rw [callI_of e]
  obtain ⟨v, S4, e, k, rfl, hk1, hk2, s4, h4⟩ := adj_ok n (c := c) (x := x + (y - x) / 4 * 3) (lo := x) (hi := y) ⟨by omega, by omega⟩ hy hl2 hld h3 rfl
  rw [callI_of e]
  exact mid S4 i j k s4 ⟨hi1, hi2⟩ ⟨hj1, hj2⟩ ⟨hk1, hk2⟩ h4

theorem ixStr_of {t : List UInt8} {L : Nat} {v : UInt8} {β : Type} {K : Int → Option β} (h : t[L]? = some v) : ixStr t L K = K (v.toNat : Nat) := by
  simp only [ixStr, Int.natCast_nonneg, if_true, Int.toNat_natCast, h]

theorem len64_ok (n : Nat) {L : Nat} (hL : L < 256) : ∃ k : Nat, evF E orcL (n + 1) (.fn 79) [.int .u64 L] S = some (.int .i64 k, S) ∧ k ≤ 8 ∧ (1 ≤ L → 2 ^ k ≤ 2 * L) := by
  rw [F79 _ _ _ (oL rfl)]
  simp only [J79, b79_entry]
  have e1 : decide ((L : Int) ≥ 4294967296) = false := by simp; omega
  have e2 : decide ((L : Int) ≥ 65536) = false := by simp; omega
  have e3 : decide ((L : Int) ≥ 256) = false := by simp; omega
  have e8 : IntKind.wrap .u8 (L : Int) = (L : Int) := by simp [IntKind.wrap, IntKind.bits, IntKind.signed]; omega
  simp only [e1, e2, e3, e8, cond_false]
  have key : ∀ (t : List UInt8), (∀ i : Fin 256, ∃ v, t[i.val]? = some v ∧ v.toNat ≤ 8 ∧ (1 ≤ i.val → 2 ^ v.toNat ≤ 2 * i.val)) → ∃ k : Nat, (ixStr t (L : Int) fun v => some (AV.int .i64 (IntKind.wrap .i64 (0 + IntKind.wrap .i64 v)), S)) = some (.int .i64 k, S) ∧ k ≤ 8 ∧ (1 ≤ L → 2 ^ k ≤ 2 * L) := by
    intro t ht
    obtain ⟨v, h1, h2, h3⟩ := ht ⟨L, hL⟩
    rw [ixStr_of h1]
    refine ⟨v.toNat, ?_, h2, h3⟩
    rw [wn (n := v.toNat) rfl (by omega), wn (n := v.toNat) (by omega) (by omega)]
  refine key _ ?_
  have dec : ∀ (t : List UInt8), ((List.range 256).all fun i => match t[i]? with | some v => Nat.ble v.toNat 8 && (Nat.beq i 0 || Nat.ble (2 ^ v.toNat) (2 * i)) | none => false) = true → ∀ i : Fin 256, ∃ v, t[i.val]? = some v ∧ v.toNat ≤ 8 ∧ (1 ≤ i.val → 2 ^ v.toNat ≤ 2 * i.val) := by
    intro t ht i
    have h1 := List.all_eq_true.1 ht i.val (List.mem_range.2 i.isLt)
    cases hv : t[i.val]? with
    | none => rw [hv] at h1; cases h1
    | some v =>
      rw [hv] at h1
      simp only [Bool.and_eq_true, Bool.or_eq_true] at h1
      refine ⟨v, rfl, Nat.le_of_ble_eq_true h1.1, fun h0 => ?_⟩
      rcases h1.2 with h2 | h2
      · have := Nat.eq_of_beq_eq_true h2; omega
      · exact Nat.le_of_ble_eq_true h2
  exact dec _ (by decide +kernel)

theorem len_ok (n : Nat) {L : Nat} (hL : L < 256) : ∃ k : Nat, evF E orcL (n + 2) (.fn 64) [.int .u64 L] S = some (.int .i64 k, S) ∧ k ≤ 8 ∧ (1 ≤ L → 2 ^ k ≤ 2 * L) := by
  obtain ⟨k, e, h1, h2⟩ := len64_ok (S := S) n hL
  refine ⟨k, ?_, h1, h2⟩
  rw [F64 _ _ _ (oL rfl)]
  simp only [J64, b64_entry]
  rw [callI_of e]

theorem wu {n : Int} (h0 : 0 ≤ n) (h1 : n < 18446744073709551616) : IntKind.wrap .u64 n = n := by
  simp only [IntKind.wrap, IntKind.bits, IntKind.signed]
  simp
  omega

theorem pow2_ok (n : Nat) {L : Nat} (h1 : 1 ≤ L) (hL : L < 256) : ∃ M : Nat, evF E orcL (n + 3) (.fn 81) [.int .i64 L] S = some (.int .u64 M, S) ∧ 1 ≤ M ∧ M ≤ 2 * L := by
  obtain ⟨k, e, h2, h3⟩ := len_ok (S := S) n hL
  refine ⟨2 ^ k, ?_, Nat.one_le_two_pow, h3 h1⟩
  rw [F81 _ _ _ (oL rfl)]
  simp only [J81, b81_entry]
  rw [wu (n := (L : Int)) (by omega) (by omega), callI_of e]
  have hk : 2 ^ k ≤ 2 * L := h3 h1
  have hs : shlI .u64 1 (k : Int) = ((2 ^ k : Nat) : Int) := by
    simp only [shlI, IntKind.bits, Int.toNat_natCast]
    rw [Nat.min_eq_left (by omega), Int.one_mul]
    have : ((2 : Int) ^ k) = ((2 ^ k : Nat) : Int) := by simp
    rw [this]
    exact wu (Int.natCast_nonneg _) (Int.ofNat_lt.2 (show 2 ^ k < 18446744073709551616 by omega))
  rw [hs, nneg, if_neg (by omega)]

theorem next_ok (n : Nat) (h : Hp X S (D b d js :: C q [.int .u64 s] :: F)) :
    Ok (evF E orcL (n + 1) (.fn 82) [.ptr (some (.rw q, 0))] S) fun v S' => ∃ r : Int, v = .int .u64 r ∧ Hp X S' (D b d js :: C q [.int .u64 r] :: F) := by
  rw [F82 _ _ _ (oL rfl)]
  simp only [J82, b82_entry]
  refine ok_gO (ok_ldI h rfl (ok_gO (ok_ldI h rfl (ok_gO ?_))))
  refine ok_stn h (by simp) (d := [_]) (by simp [splice]; rfl) (fun S1 h1 => ?_)
  refine ok_gO (ok_ldI h1 rfl (ok_gO (ok_ldI h1 rfl (ok_gO ?_))))
  refine ok_stn h1 (by simp) (d := [_]) (by simp [splice]; rfl) (fun S2 h2 => ?_)
  refine ok_gO (ok_ldI h2 rfl (ok_gO (ok_ldI h2 rfl (ok_gO ?_))))
  refine ok_stn h2 (by simp) (d := [_]) (by simp [splice]; rfl) (fun S3 h3 => ?_)
  exact ok_gO (ok_ldI h3 rfl (ok_ret ⟨_, rfl, h3⟩))

theorem andI_le (r : Int) {M : Nat} (hM : M < 1000000) : ∃ k : Nat, andI .u64 r (M : Int) = k ∧ k ≤ M := by
  refine ⟨(BitVec.ofInt 64 r &&& BitVec.ofInt 64 (M : Int)).toNat, ?_, ?_⟩
  · simp only [andI, IntKind.bits]
    have := (BitVec.ofInt 64 r &&& BitVec.ofInt 64 (M : Int)).isLt
    rw [wu (by omega) (by omega)]
    rfl
  · rw [BitVec.toNat_and]
    have e : (BitVec.ofInt 64 (M : Int)).toNat = M := by
      simp only [BitVec.toNat_ofInt]
      omega
    rw [e]
    exact Nat.and_le_right

theorem break_loop (n n0 : Nat) {x L M : Nat} (hL : 8 ≤ L) (hxl : x + L ≤ l) (hM : 1 ≤ M) (hM2 : M ≤ 2 * L) (hL2 : L < 256) (hl : l = d0.length) (hl2 : l < 1000000) : ∀ (m i : Nat) (d : List Int) (S : AS) (s : Int), x + L / 4 * 2 + 2 - i < m → x ≤ i → d.Perm d0 → Hp X S (D b d js :: C q [.int .u64 s] :: F) →
    Ok (J71_l1_1_0_1_1_1_0 (evF E orcL (n + 1)) n0 m (some (.rw b, 0)) l c x L (some (.rw q, 0)) M i S) (Sorts X F b d0 js)
  | 0, i, d, S, s, hm, hi, hp, h => by omega
  | m + 1, i, d, S, s, hm, hi, hp, h => by
    rw [J71_l1_1_0_1_1_1_0_succ]
    simp only [b71_l1_1_0_1_1_1_0]
    have e2 : IntKind.wrap .i64 (Int.tdiv (L : Int) 4) = (L / 4 : Nat) := by rw [tdiv4]; exact wn rfl (by omega)
    have f2 : IntKind.wrap .i64 (((L / 4 : Nat) : Int) * 2) = (L / 4 * 2 : Nat) := wn (by omega) (by omega)
    have g2 : IntKind.wrap .i64 ((x : Int) + ((L / 4 * 2 : Nat) : Int)) = (x + L / 4 * 2 : Nat) := wn (by omega) (by omega)
    have g3 : IntKind.wrap .i64 (((x + L / 4 * 2 : Nat) : Int) + 1) = (x + L / 4 * 2 + 1 : Nat) := wn (by omega) (by omega)
    simp only [e2, f2, g2, g3]
    refine ok_cond (fun hc => ?_) (fun _ => ok_ret ⟨rfl, d, hp, (h.re (M := C q [.int .u64 s] :: D b d js :: F) (by intro p; simp only [List.countP_cons, C]; omega)).drop1⟩)
    simp only [decide_eq_true_eq] at hc
    obtain ⟨v, S1, e, r, rfl, h1⟩ := next_ok n h
    rw [callI_of e]
    have hm1 : IntKind.wrap .u64 ((M : Int) - 1) = ((M - 1 : Nat) : Int) := by rw [wu (by omega) (by omega)]; omega
    obtain ⟨k, hk1, hk2⟩ := andI_le r (M := M - 1) (by omega)
    have hw : IntKind.wrap .i64 (k : Int) = (k : Nat) := wn rfl (by omega)
    simp only [hm1, hk1, hw]
    have go : ∀ (o : Nat), o < L → ∀ (w w' : Int), w = ((x + o : Nat) : Int) → w' = ((x + o : Nat) : Int) → Ok (ixSl 1 (some (.rw b, 0)) l w fun p8 => ldI .i64 S1 p8.1 p8.2 fun v9 => ixSl 1 (some (.rw b, 0)) l (i : Int) fun p10 => ldI .i64 S1 p10.1 p10.2 fun v11 => ixSl 1 (some (.rw b, 0)) l (i : Int) fun p12 => S1.stn p12.1 p12.2 [(.int .i64 v9)] fun S13 => ixSl 1 (some (.rw b, 0)) l w' fun p14 => S13.stn p14.1 p14.2 [(.int .i64 v11)] fun S15 => J71_l1_1_0_1_1_1_0 (evF E orcL (n + 1)) n0 m (some (.rw b, 0)) l c x L (some (.rw q, 0)) M (IntKind.wrap .i64 ((i : Int) + 1)) S15) (Sorts X F b d0 js) := by
      intro o ho w w' hw hw'
      refine swap_ok h1 hp hl (i := x + o) (j := i) hw rfl hw' rfl (by omega) (by omega) (fun S' d' hp' h' => ?_)
      rw [wn (n := i + 1) (by omega) (by omega)]
      exact break_loop n n0 hL hxl hM hM2 hL2 hl hl2 m (i + 1) d' S' r (by omega) (by omega) hp' h'
    refine ok_cond (fun hc2 => ?_) (fun hc2 => ?_)
    · simp only [ge_iff_le, decide_eq_true_eq] at hc2
      have e5 : IntKind.wrap .i64 ((k : Int) - (L : Int)) = (k - L : Nat) := wn (by omega) (by omega)
      have e6 : IntKind.wrap .i64 ((x : Int) + ((k - L : Nat) : Int)) = (x + (k - L) : Nat) := wn (by omega) (by omega)
      simp only [e5, e6]
      exact go (k - L) (by omega) _ _ rfl rfl
    · simp only [ge_iff_le, decide_eq_false_iff_not] at hc2
      have e6 : IntKind.wrap .i64 ((x : Int) + (k : Int)) = (x + k : Nat) := wn (by omega) (by omega)
      simp only [e6]
      exact go k (by omega) _ _ rfl rfl

theorem break_ok (n : Nat) (hn : 1000000 < n) {x y : Nat} (hxy : x + 12 < y) (hy : y ≤ l) (hp : d.Perm d0) (hl : l = d0.length) (hl2 : l < 256) (h : Hp X S (D b d js :: F)) {xi yi : Int} (hxi : xi = x) (hyi : yi = y) :
    Ok (evF E orcL (n + 4) (.fn 71) [.sl (some (.rw b, 0)) l c, .int .i64 xi, .int .i64 yi] S) (Sorts X F b d0 js) := by
  subst hxi hyi
  rw [F71 _ _ _ _ _ _ _ (oL rfl)]
  simp only [J71, b71_entry]
  have e1 : IntKind.wrap .i64 ((y : Int) - (x : Int)) = (y - x : Nat) := wn (by omega) (by omega)
  have e2 : IntKind.wrap .i64 (Int.tdiv ((y - x : Nat) : Int) 4) = ((y - x) / 4 : Nat) := by rw [tdiv4]; exact wn rfl (by omega)
  have f2 : IntKind.wrap .i64 ((((y - x) / 4 : Nat) : Int) * 2) = ((y - x) / 4 * 2 : Nat) := wn (by omega) (by omega)
  have g2 : IntKind.wrap .i64 ((x : Int) + (((y - x) / 4 * 2 : Nat) : Int)) = (x + (y - x) / 4 * 2 : Nat) := wn (by omega) (by omega)
  have g3 : IntKind.wrap .i64 (((x + (y - x) / 4 * 2 : Nat) : Int) - 1) = (x + (y - x) / 4 * 2 - 1 : Nat) := wn (by omega) (by omega)
  simp only [e1, e2, f2, g2, g3]
  refine ok_true (by simp; omega) (ok_newA h (fun q S1 h1 => ?_))
  refine ok_stn h1 (by simp) (d := [_]) (by simp [splice]; rfl) (fun S2 h2 => ?_)
  obtain ⟨M, e, hM1, hM2⟩ := pow2_ok (S := S2) n (L := y - x) (by omega) (by omega)
  rw [callI_of e]
  exact break_loop (n + 2) (n + 3) (x := x) (L := y - x) (M := M) (by omega) (by omega) hM1 hM2 (by omega) hl (by omega) (n + 3) (x + (y - x) / 4 * 2 - 1) d S2 (IntKind.wrap .u64 ((y - x : Nat) : Int)) (by omega) (by omega) hp (h2.re (by intro p; simp only [List.countP_cons, C]; omega))

end

end Go.Al

namespace Go.Al
open Go.Gr

section
variable {X : Cx} {S : AS} {F : List Ent} {b l q : Nat} {c : Cap} {d d0 : List Int} {js : List AV} {Q : AV → AS → Prop} {s : Int}

abbrev SortsB (X : Cx) (F : List Ent) (b : Nat) (d0 : List Int) (js : List AV) : AV → AS → Prop := fun v S' => ∃ r : Bool, v = .bool r ∧ ∃ d', d'.Perm d0 ∧ Hp X S' (D b d' js :: F)

section
variable {n n0 x y i t : Nat} {O : Option Pos → Nat → Cap → Int → Int → AV → Int → Int → AS → Option (AV × AS)}

theorem pi_next (hl2 : l < 1000000) (ht : t < 1000)
    (hO : ∀ S' d', d'.Perm d0 → Hp X S' (D b d' js :: F) → Ok (O (some (.rw b, 0)) l c x y .undef i ((t + 1 : Nat) : Int) S') Q) (hp : d.Perm d0) (h : Hp X S (D b d js :: F)) :
    Ok (J74_j1_1_0_1_0_0_1_1 (evF E orcL (n + 2)) n0 O (some (.rw b, 0)) l c x y i t S) Q := by
  simp only [J74_j1_1_0_1_0_0_1_1, b74_j1_1_0_1_0_0_1_1]
  rw [wn (n := t + 1) (by omega) (by omega)]
  exact hO S d hp h

theorem pi_right (hy : y ≤ l) (hl : l = d0.length) (hl2 : l < 1000000) (ht : t < 1000)
    (hO : ∀ S' d', d'.Perm d0 → Hp X S' (D b d' js :: F) → Ok (O (some (.rw b, 0)) l c x y .undef i ((t + 1 : Nat) : Int) S') Q) : ∀ (m j : Nat) (d : List Int) (S : AS), y - j < m → 1 ≤ j → d.Perm d0 → Hp X S (D b d js :: F) →
    Ok (J74_l1_1_0_1_0_0_1_0_0_1_1_1_1_1_1_0_1_0 (evF E orcL (n + 2)) n0 O m (some (.rw b, 0)) l c x y i t j S) Q
  | 0, j, d, S, hm, hj, hp, h => by omega
  | m + 1, j, d, S, hm, hj, hp, h => by
    have hld : l = d.length := by rw [hl, hp.length_eq]
    rw [J74_l1_1_0_1_0_0_1_0_0_1_1_1_1_1_1_0_1_0_succ]
    simp only [b74_l1_1_0_1_0_0_1_0_0_1_1_1_1_1_1_0_1_0]
    refine ok_cond (fun hc => ?_) (fun _ => pi_next hl2 ht hO hp h)
    simp only [decide_eq_true_eq] at hc
    have e1 : IntKind.wrap .i64 ((j : Int) - 1) = (j - 1 : Nat) := wn (by omega) (by omega)
    rw [e1]
    refine at_ok h hld (i := j) rfl (by omega) (fun v1 _ => at_ok h hld (i := j - 1) rfl (by omega) (fun v2 _ => ?_))
    rw [callB_of (less_eq n v1 v2 S)]
    refine ok_cond (fun _ => pi_next hl2 ht hO hp h) (fun _ => ?_)
    refine swap_ok h hp hl (i := j - 1) (j := j) rfl rfl rfl rfl (by omega) (by omega) (fun S' d' hp' h' => ?_)
    rw [wn (n := j + 1) (by omega) (by omega)]
    exact pi_right hy hl hl2 ht hO m (j + 1) d' S' (by omega) (by omega) hp' h'

theorem pi_mid (hn0 : 1000000 < n0) (hi : 1 ≤ i) (hiy : i ≤ y) (hy : y ≤ l) (hl : l = d0.length) (hl2 : l < 1000000) (ht : t < 1000)
    (hO : ∀ S' d', d'.Perm d0 → Hp X S' (D b d' js :: F) → Ok (O (some (.rw b, 0)) l c x y .undef i ((t + 1 : Nat) : Int) S') Q) (hp : d.Perm d0) (h : Hp X S (D b d js :: F)) :
    Ok (J74_j1_1_0_1_0_0_1_0_0_1_1_1_1_1 (evF E orcL (n + 2)) n0 O (some (.rw b, 0)) l c x y i t S) Q := by
  simp only [J74_j1_1_0_1_0_0_1_0_0_1_1_1_1_1, b74_j1_1_0_1_0_0_1_0_0_1_1_1_1_1]
  refine ok_cond (fun _ => ?_) (fun _ => pi_next hl2 ht hO hp h)
  rw [wn (x := (i : Int) + 1) (n := i + 1) (by omega) (by omega)]
  exact pi_right hy hl hl2 ht hO n0 (i + 1) d S (by omega) (by omega) hp h

theorem pi_left (hn0 : 1000000 < n0) (hi : 1 ≤ i) (hiy : i ≤ y) (hy : y ≤ l) (hl : l = d0.length) (hl2 : l < 1000000) (ht : t < 1000)
    (hO : ∀ S' d', d'.Perm d0 → Hp X S' (D b d' js :: F) → Ok (O (some (.rw b, 0)) l c x y .undef i ((t + 1 : Nat) : Int) S') Q) : ∀ (m j : Nat) (d : List Int) (S : AS), j < m → j < l → d.Perm d0 → Hp X S (D b d js :: F) →
    Ok (J74_l1_1_0_1_0_0_1_0_0_1_1_1_1_0_1_0_1_0 (evF E orcL (n + 2)) n0 O m (some (.rw b, 0)) l c x y i t j S) Q
  | 0, j, d, S, hm, hj, hp, h => by omega
  | m + 1, j, d, S, hm, hj, hp, h => by
    have hld : l = d.length := by rw [hl, hp.length_eq]
    rw [J74_l1_1_0_1_0_0_1_0_0_1_1_1_1_0_1_0_1_0_succ]
    simp only [b74_l1_1_0_1_0_0_1_0_0_1_1_1_1_0_1_0_1_0]
    refine ok_cond (fun hc => ?_) (fun _ => pi_mid hn0 hi hiy hy hl hl2 ht hO hp h)
    simp only [ge_iff_le, decide_eq_true_eq] at hc
    have e1 : IntKind.wrap .i64 ((j : Int) - 1) = (j - 1 : Nat) := wn (by omega) (by omega)
    rw [e1]
    refine at_ok h hld (i := j) rfl (by omega) (fun v1 _ => at_ok h hld (i := j - 1) rfl (by omega) (fun v2 _ => ?_))
    rw [callB_of (less_eq n v1 v2 S)]
    refine ok_cond (fun _ => pi_mid hn0 hi hiy hy hl hl2 ht hO hp h) (fun _ => ?_)
    refine swap_ok h hp hl (i := j - 1) (j := j) rfl rfl rfl rfl (by omega) (by omega) (fun S' d' hp' h' => ?_)
    exact pi_left hn0 hi hiy hy hl hl2 ht hO m (j - 1) d' S' (by omega) (by omega) hp' h'
end

theorem pi_scan (n n0 : Nat) (hn0 : 1000000 < n0) {x y t : Nat} {O : Option Pos → Nat → Cap → Int → Int → AV → Int → Int → AS → Option (AV × AS)} (hy : y ≤ l) (hl : l = d0.length) (hl2 : l < 1000000) (ht : t < 1000)
    (hO : ∀ i S' d', 1 ≤ i → i ≤ y → d'.Perm d0 → Hp X S' (D b d' js :: F) → Ok (O (some (.rw b, 0)) l c x y .undef (i : Nat) ((t + 1 : Nat) : Int) S') (SortsB X F b d0 js)) (hp : d.Perm d0) (h : Hp X S (D b d js :: F)) : ∀ (m i : Nat), y - i < m → 1 ≤ i → i ≤ y →
    Ok (J74_l1_1_0_1_0_0_1_0_0_0_0 (evF E orcL (n + 2)) n0 O m (some (.rw b, 0)) l c x y i t S) (SortsB X F b d0 js)
  | 0, i, hm, hi, hiy => by omega
  | m + 1, i, hm, hi, hiy => by
    have hld : l = d.length := by rw [hl, hp.length_eq]
    have next : Ok (J74_j1_1_0_1_0_0_1_0_0_1 (evF E orcL (n + 2)) n0 O (some (.rw b, 0)) l c x y i t S) (SortsB X F b d0 js) := by
      simp only [J74_j1_1_0_1_0_0_1_0_0_1, b74_j1_1_0_1_0_0_1_0_0_1]
      refine ok_cond (fun _ => ok_ret ⟨true, rfl, d, hp, h⟩) (fun hc => ok_cond (fun _ => ok_ret ⟨false, rfl, d, hp, h⟩) (fun _ => ?_))
      simp only [beq_eq_false_iff_ne, ne_eq] at hc
      have e1 : IntKind.wrap .i64 ((i : Int) - 1) = (i - 1 : Nat) := wn (by omega) (by omega)
      rw [e1]
      refine swap_ok h hp hl (i := i - 1) (j := i) rfl rfl rfl rfl (by omega) (by omega) (fun S' d' hp' h' => ?_)
      refine ok_cond (fun _ => ?_) (fun _ => ?_)
      · exact pi_left hn0 hi hiy hy hl hl2 ht (fun S' d' hp' h' => hO i S' d' hi hiy hp' h') n0 (i - 1) d' S' (by omega) (by omega) hp' h'
      · exact pi_mid hn0 hi hiy hy hl hl2 ht (fun S' d' hp' h' => hO i S' d' hi hiy hp' h') hp' h'
    rw [J74_l1_1_0_1_0_0_1_0_0_0_0_succ]
    simp only [b74_l1_1_0_1_0_0_1_0_0_0_0]
    refine ok_cond (fun hc => ?_) (fun _ => next)
    simp only [decide_eq_true_eq] at hc
    have e1 : IntKind.wrap .i64 ((i : Int) - 1) = (i - 1 : Nat) := wn (by omega) (by omega)
    rw [e1]
    refine at_ok h hld (i := i) rfl (by omega) (fun v1 _ => at_ok h hld (i := i - 1) rfl (by omega) (fun v2 _ => ?_))
    rw [callB_of (less_eq n v1 v2 S)]
    refine ok_cond (fun _ => ?_) (fun _ => next)
    rw [wn (n := i + 1) (by omega) (by omega)]
    exact pi_scan n n0 hn0 hy hl hl2 ht hO hp h m (i + 1) (by omega) (by omega) (by omega)

theorem pi_loop (n n0 : Nat) (hn0 : 1000000 < n0) {x y : Nat} (hy : y ≤ l) (hl : l = d0.length) (hl2 : l < 1000000) : ∀ (m t i : Nat) (w : AV) (d : List Int) (S : AS), 5 < m + t → t ≤ 5 → 1 ≤ i → i ≤ y → d.Perm d0 → Hp X S (D b d js :: F) →
    Ok (J74_l1_1_0_1_0 (evF E orcL (n + 2)) n0 m (some (.rw b, 0)) l c x y w i t S) (SortsB X F b d0 js)
  | 0, t, i, w, d, S, hm, ht, hi, hiy, hp, h => by omega
  | m + 1, t, i, w, d, S, hm, ht, hi, hiy, hp, h => by
    rw [J74_l1_1_0_1_0_succ]
    simp only [b74_l1_1_0_1_0]
    refine ok_cond (fun hc => ?_) (fun _ => ok_ret ⟨false, rfl, d, hp, h⟩)
    simp only [decide_eq_true_eq] at hc
    exact pi_scan n n0 hn0 hy hl hl2 (by omega) (fun i' S' d' hi' hiy' hp' h' => pi_loop n n0 hn0 hy hl hl2 m (t + 1) i' .undef d' S' (by omega) (by omega) hi' hiy' hp' h') hp h n0 i (by omega) hi hiy

theorem pi_ok (n : Nat) (hn : 1000000 < n) {x y : Nat} (hxy : x < y) (hy : y ≤ l) (hp : d.Perm d0) (hl : l = d0.length) (hl2 : l < 1000000) (h : Hp X S (D b d js :: F)) {xi yi : Int} (hxi : xi = x) (hyi : yi = y) :
    Ok (evF E orcL (n + 3) (.fn 74) [.sl (some (.rw b, 0)) l c, .int .i64 xi, .int .i64 yi] S) (SortsB X F b d0 js) := by
  subst hxi hyi
  rw [F74 _ _ _ _ _ _ _ (oL rfl)]
  simp only [J74, b74_entry]
  rw [wn (n := x + 1) (by omega) (by omega)]
  exact pi_loop n (n + 2) (by omega) hy hl hl2 (n + 2) 0 (x + 1) (.bool false) d S (by omega) (by omega) (by omega) (by omega) hp h

/-- What the sort does behind its choice of a pivot. -/
def pdqT (call : CallA) (L : Option Pos → Nat → Cap → Int → Int → Int → Bool → Bool → AS → Option (AV × AS)) (a : Option Pos) (l : Nat) (c : Cap) (w1 w2 w3 : Int) (w8 w9 : Bool) (pv : Int) (S : AS) : Option (AV × AS) :=
  cond (decide (w1 > 0)) (
  ixSl 1 a l (IntKind.wrap .i64 (w1 - 1)) fun p15 =>
  ldI .i64 S p15.1 p15.2 fun v16 =>
  ixSl 1 a l pv fun p17 =>
  ldI .i64 S p17.1 p17.2 fun v18 =>
  callB call 75 [(.int .i64 v16), (.int .i64 v18)] S fun v20 S19 =>
  cond (!v20) (
  callI .i64 call 76 [(.sl a l c), (.int .i64 w1), (.int .i64 w2), (.int .i64 pv)] S19 fun v22 S21 =>
  L a l c v22 w2 w3 w8 w9 S21) (
  callT call 77 [(.sl a l c), (.int .i64 w1), (.int .i64 w2), (.int .i64 pv)] S19 fun v24 S23 =>
  atI .i64 v24 0 fun v25 =>
  atB v24 1 fun v26 =>
  cond (decide ((IntKind.wrap .i64 (v25 - w1)) < (IntKind.wrap .i64 (w2 - v25)))) (
  callT call 63 [(.sl a l c), (.int .i64 w1), (.int .i64 v25), (.int .i64 w3)] S23 fun v28 S27 =>
  L a l c (IntKind.wrap .i64 (v25 + 1)) w2 w3 (decide ((IntKind.wrap .i64 (v25 - w1)) ≥ (IntKind.wrap .i64 (Int.tdiv (IntKind.wrap .i64 (w2 - w1)) 8)))) v26 S27) (
  callT call 63 [(.sl a l c), (.int .i64 (IntKind.wrap .i64 (v25 + 1))), (.int .i64 w2), (.int .i64 w3)] S23 fun v30 S29 =>
  L a l c w1 v25 w3 (decide ((IntKind.wrap .i64 (w2 - v25)) ≥ (IntKind.wrap .i64 (Int.tdiv (IntKind.wrap .i64 (w2 - w1)) 8)))) v26 S29))) (
  callT call 77 [(.sl a l c), (.int .i64 w1), (.int .i64 w2), (.int .i64 pv)] S fun v32 S31 =>
  atI .i64 v32 0 fun v33 =>
  atB v32 1 fun v34 =>
  cond (decide ((IntKind.wrap .i64 (v33 - w1)) < (IntKind.wrap .i64 (w2 - v33)))) (
  callT call 63 [(.sl a l c), (.int .i64 w1), (.int .i64 v33), (.int .i64 w3)] S31 fun v36 S35 =>
  L a l c (IntKind.wrap .i64 (v33 + 1)) w2 w3 (decide ((IntKind.wrap .i64 (v33 - w1)) ≥ (IntKind.wrap .i64 (Int.tdiv (IntKind.wrap .i64 (w2 - w1)) 8)))) v34 S35) (
  callT call 63 [(.sl a l c), (.int .i64 (IntKind.wrap .i64 (v33 + 1))), (.int .i64 w2), (.int .i64 w3)] S31 fun v38 S37 =>
  L a l c w1 v33 w3 (decide ((IntKind.wrap .i64 (w2 - v33)) ≥ (IntKind.wrap .i64 (Int.tdiv (IntKind.wrap .i64 (w2 - w1)) 8)))) v34 S37))

theorem pdq_loop (k n : Nat) (hn : 1000000 < n) (hl : l = d0.length) (hl2 : l < 256)
    (IH : ∀ (x y : Nat) (d : List Int) (S : AS) (w3 : Int), x ≤ y → y ≤ l → y - x < k → d.Perm d0 → Hp X S (D b d js :: F) → ∀ xi yi : Int, xi = x → yi = y → Ok (evF E orcL (n + 8) (.fn 63) [.sl (some (.rw b, 0)) l c, .int .i64 xi, .int .i64 yi, .int .i64 w3] S) (Sorts X F b d0 js)) (n0 : Nat) :
    ∀ (m x y : Nat) (w3 : Int) (w8 w9 : Bool) (d : List Int) (S : AS), y - x < m → x ≤ y → y ≤ l → y - x ≤ k → d.Perm d0 → Hp X S (D b d js :: F) →
    Ok (J63_l1_1_0 (evF E orcL (n + 8)) n0 m (some (.rw b, 0)) l c x y w3 w8 w9 S) (Sorts X F b d0 js)
  | 0, x, y, w3, w8, w9, d, S, hm, hxy, hy, hk, hp, h => by omega
  | m + 1, x, y, w3, w8, w9, d, S, hm, hxy, hy, hk, hp, h => by
    have rest : 12 < y - x → ∀ (w3 : Int) (d : List Int) (S : AS) (p : Nat) (pv : Int), pv = p → x ≤ p → p < y → d.Perm d0 → Hp X S (D b d js :: F) → Ok (pdqT (evF E orcL (n + 8)) (J63_l1_1_0 (evF E orcL (n + 8)) n0 m) (some (.rw b, 0)) l c x y w3 w8 w9 pv S) (Sorts X F b d0 js) := by
      intro hlen w3 d S p pv hpv hp1 hp2 hp h
      have hld : l = d.length := by rw [hl, hp.length_eq]
      have part : ∀ (S : AS), Hp X S (D b d js :: F) → Ok (callT (evF E orcL (n + 8)) 77 [(.sl (some (.rw b, 0)) l c), (.int .i64 x), (.int .i64 y), (.int .i64 pv)] S fun v24 S23 =>
          atI .i64 v24 0 fun v25 =>
          atB v24 1 fun v26 =>
          cond (decide ((IntKind.wrap .i64 (v25 - x)) < (IntKind.wrap .i64 (y - v25)))) (
          callT (evF E orcL (n + 8)) 63 [(.sl (some (.rw b, 0)) l c), (.int .i64 x), (.int .i64 v25), (.int .i64 w3)] S23 fun v28 S27 =>
          J63_l1_1_0 (evF E orcL (n + 8)) n0 m (some (.rw b, 0)) l c (IntKind.wrap .i64 (v25 + 1)) y w3 (decide ((IntKind.wrap .i64 (v25 - x)) ≥ (IntKind.wrap .i64 (Int.tdiv (IntKind.wrap .i64 ((y : Int) - x)) 8)))) v26 S27) (
          callT (evF E orcL (n + 8)) 63 [(.sl (some (.rw b, 0)) l c), (.int .i64 (IntKind.wrap .i64 (v25 + 1))), (.int .i64 y), (.int .i64 w3)] S23 fun v30 S29 =>
          J63_l1_1_0 (evF E orcL (n + 8)) n0 m (some (.rw b, 0)) l c x v25 w3 (decide ((IntKind.wrap .i64 (y - v25)) ≥ (IntKind.wrap .i64 (Int.tdiv (IntKind.wrap .i64 ((y : Int) - x)) 8)))) v26 S29)) (Sorts X F b d0 js) := by
        intro S h
        obtain ⟨v, S1, e, r, t, rfl, hr1, hr2, d1, hp1', h1⟩ := part_ok (n + 5) (by omega) (c := c) (show x < y by omega) hy hp1 hp2 hp hl (by omega) h rfl rfl hpv
        rw [callT_of e]
        simp only [atI, atB, List.getElem?_cons_zero, List.getElem?_cons_succ, gIk, gB, if_true]
        have e1 : IntKind.wrap .i64 ((r : Int) + 1) = (r + 1 : Nat) := wn (by omega) (by omega)
        simp only [e1]
        refine ok_cond (fun _ => ?_) (fun _ => ?_)
        · obtain ⟨v, S2, e, rfl, d2, hp2', h2⟩ := IH x r d1 S1 w3 (by omega) (by omega) (by omega) hp1' h1 _ _ rfl rfl
          rw [callT_of e]
          exact pdq_loop k n hn hl hl2 IH n0 m (r + 1) y w3 _ t d2 S2 (by omega) (by omega) hy (by omega) hp2' h2
        · obtain ⟨v, S2, e, rfl, d2, hp2', h2⟩ := IH (r + 1) y d1 S1 w3 (by omega) (by omega) (by omega) hp1' h1 _ _ rfl rfl
          rw [callT_of e]
          exact pdq_loop k n hn hl hl2 IH n0 m x r w3 _ t d2 S2 (by omega) (by omega) (by omega) (by omega) hp2' h2
      unfold pdqT
      refine ok_cond (fun hc => ?_) (fun _ => part S h)
      simp only [gt_iff_lt, decide_eq_true_eq] at hc
      refine at_ok h hld (i := x - 1) (wn (by omega) (by omega)) (by omega) (fun v1 _ => at_ok h hld (i := p) hpv (by omega) (fun v2 _ => ?_))
      rw [callB_of (less_eq (n + 6) v1 v2 S)]
      refine ok_cond (fun _ => ?_) (fun _ => part S h)
      obtain ⟨v, S1, e, r, rfl, hr1, hr2, d1, hp1', h1⟩ := peq_ok (n + 5) (by omega) (c := c) (show x < y by omega) hy hp1 hp2 hp hl (by omega) h rfl rfl hpv
      rw [callI_of e]
      exact pdq_loop k n hn hl hl2 IH n0 m r y w3 w8 w9 d1 S1 (by omega) (by omega) hy (by omega) hp1' h1
    rw [J63_l1_1_0_succ]
    simp only [b63_l1_1_0]
    refine ok_cond (fun _ => ?_) (fun hc => ?_)
    · obtain ⟨v, S1, e, rfl, d1, hp1, h1⟩ := ins_ok (n + 5) (by omega) (c := c) hy (show x ≤ l by omega) hp hl (by omega) h (xi := x) (yi := y) rfl rfl
      rw [callT_of e]
      exact ok_ret ⟨rfl, d1, hp1, h1⟩
    rw [wn (n := y - x) (by omega) (by omega)] at hc
    simp only [decide_eq_false_iff_not] at hc
    have hlen : 12 < y - x := by omega
    refine ok_cond (fun _ => ?_) (fun _ => ?_)
    · obtain ⟨v, S1, e, rfl, d1, hp1, h1⟩ := heap_ok (n + 4) (by omega) (c := c) hxy hy hp hl (by omega) h (xi := x) (yi := y) rfl rfl
      rw [callT_of e]
      exact ok_ret ⟨rfl, d1, hp1, h1⟩
    have tail : ∀ (w3 : Int) (d : List Int) (S : AS), d.Perm d0 → Hp X S (D b d js :: F) → ∀ G : AV → AS → Option (AV × AS),
        (∀ (r : Nat) (t : Int) S', x ≤ r → r < y → Hp X S' (D b d js :: F) → Ok (G (.tup [.int .i64 r, .int .i64 t]) S') (Sorts X F b d0 js)) → Ok (callT (evF E orcL (n + 8)) 72 [(.sl (some (.rw b, 0)) l c), (.int .i64 x), (.int .i64 y)] S fun v S => G (.tup v) S) (Sorts X F b d0 js) := by
      intro w3 d S hp h G hG
      have hld : l = d.length := by rw [hl, hp.length_eq]
      obtain ⟨v, S1, e, r, t, rfl, hr1, hr2, h1⟩ := pivot_ok (n + 2) (c := c) (x := x) (y := y) (by omega) hy (by omega) hld h rfl rfl
      rw [callT_of e]
      exact hG r t S1 hr1 hr2 h1
    have pvn : ∀ r : Nat, x ≤ r → r < y → IntKind.wrap .i64 ((IntKind.wrap .i64 ((y : Int) - 1)) - (IntKind.wrap .i64 ((r : Int) - x))) = ((y - 1 - (r - x) : Nat) : Int) := by
      intro r h1 h2
      rw [wn (x := (y : Int) - 1) (n := y - 1) (by omega) (by omega), wn (x := (r : Int) - x) (n := r - x) (by omega) (by omega), wn (n := y - 1 - (r - x)) (by omega) (by omega)]
    refine ok_cond (fun _ => ?_) (fun _ => ?_)
    · obtain ⟨v, S1, e, rfl, d1, hp1, h1⟩ := break_ok (n + 4) (by omega) (c := c) (x := x) (y := y) (by omega) hy hp hl hl2 h (xi := x) (yi := y) rfl rfl
      rw [callT_of e]
      have hld1 : l = d1.length := by rw [hl, hp1.length_eq]
      obtain ⟨v, S2, e, r, t, rfl, hr1, hr2, h2⟩ := pivot_ok (n + 2) (c := c) (x := x) (y := y) (by omega) hy (by omega) hld1 h1 rfl rfl
      rw [callT_of e]
      simp only [atI, List.getElem?_cons_zero, List.getElem?_cons_succ, gIk, if_true]
      refine ok_cond (fun _ => ?_) (fun _ => ?_)
      · obtain ⟨v, S3, e, rfl, d3, hp3, h3⟩ := rev_ok (n + 7) (by omega) (c := c) (x := x) (y := y) (by omega) hy hp1 hl (by omega) h2 rfl rfl
        rw [callT_of e]
        refine ok_cond (fun _ => ok_cond (fun _ => ok_cond (fun _ => ?_) (fun _ => rest hlen _ d3 S3 _ _ (pvn r hr1 hr2) (by omega) (by omega) hp3 h3)) (fun _ => rest hlen _ d3 S3 _ _ (pvn r hr1 hr2) (by omega) (by omega) hp3 h3)) (fun _ => rest hlen _ d3 S3 _ _ (pvn r hr1 hr2) (by omega) (by omega) hp3 h3)
        obtain ⟨v, S4, e, q, rfl, d4, hp4, h4⟩ := pi_ok (n + 5) (by omega) (c := c) (x := x) (y := y) (by omega) hy hp3 hl (by omega) h3 rfl rfl
        rw [callB_of e]
        exact ok_cond (fun _ => ok_ret ⟨rfl, d4, hp4, h4⟩) (fun _ => rest hlen _ d4 S4 _ _ (pvn r hr1 hr2) (by omega) (by omega) hp4 h4)
      · refine ok_cond (fun _ => ok_cond (fun _ => ok_cond (fun _ => ?_) (fun _ => rest hlen _ d1 S2 _ _ rfl (by omega) (by omega) hp1 h2)) (fun _ => rest hlen _ d1 S2 _ _ rfl (by omega) (by omega) hp1 h2)) (fun _ => rest hlen _ d1 S2 _ _ rfl (by omega) (by omega) hp1 h2)
        obtain ⟨v, S4, e, q, rfl, d4, hp4, h4⟩ := pi_ok (n + 5) (by omega) (c := c) (x := x) (y := y) (by omega) hy hp1 hl (by omega) h2 rfl rfl
        rw [callB_of e]
        exact ok_cond (fun _ => ok_ret ⟨rfl, d4, hp4, h4⟩) (fun _ => rest hlen _ d4 S4 _ _ rfl (by omega) (by omega) hp4 h4)
    · have hld1 : l = d.length := by rw [hl, hp.length_eq]
      obtain ⟨v, S2, e, r, t, rfl, hr1, hr2, h2⟩ := pivot_ok (n + 2) (c := c) (x := x) (y := y) (by omega) hy (by omega) hld1 h rfl rfl
      rw [callT_of e]
      simp only [atI, List.getElem?_cons_zero, List.getElem?_cons_succ, gIk, if_true]
      refine ok_cond (fun _ => ?_) (fun _ => ?_)
      · obtain ⟨v, S3, e, rfl, d3, hp3, h3⟩ := rev_ok (n + 7) (by omega) (c := c) (x := x) (y := y) (by omega) hy hp hl (by omega) h2 rfl rfl
        rw [callT_of e]
        refine ok_cond (fun _ => ok_cond (fun _ => ok_cond (fun _ => ?_) (fun _ => rest hlen _ d3 S3 _ _ (pvn r hr1 hr2) (by omega) (by omega) hp3 h3)) (fun _ => rest hlen _ d3 S3 _ _ (pvn r hr1 hr2) (by omega) (by omega) hp3 h3)) (fun _ => rest hlen _ d3 S3 _ _ (pvn r hr1 hr2) (by omega) (by omega) hp3 h3)
        obtain ⟨v, S4, e, q, rfl, d4, hp4, h4⟩ := pi_ok (n + 5) (by omega) (c := c) (x := x) (y := y) (by omega) hy hp3 hl (by omega) h3 rfl rfl
        rw [callB_of e]
        exact ok_cond (fun _ => ok_ret ⟨rfl, d4, hp4, h4⟩) (fun _ => rest hlen _ d4 S4 _ _ (pvn r hr1 hr2) (by omega) (by omega) hp4 h4)
      · refine ok_cond (fun _ => ok_cond (fun _ => ok_cond (fun _ => ?_) (fun _ => rest hlen _ d S2 _ _ rfl (by omega) (by omega) hp h2)) (fun _ => rest hlen _ d S2 _ _ rfl (by omega) (by omega) hp h2)) (fun _ => rest hlen _ d S2 _ _ rfl (by omega) (by omega) hp h2)
        obtain ⟨v, S4, e, q, rfl, d4, hp4, h4⟩ := pi_ok (n + 5) (by omega) (c := c) (x := x) (y := y) (by omega) hy hp hl (by omega) h2 rfl rfl
        rw [callB_of e]
        exact ok_cond (fun _ => ok_ret ⟨rfl, d4, hp4, h4⟩) (fun _ => rest hlen _ d4 S4 _ _ rfl (by omega) (by omega) hp4 h4)

theorem pdq_ok (n : Nat) (hn : 1000000 < n) (hl : l = d0.length) (hl2 : l < 256) : ∀ (k x y : Nat) (d : List Int) (S : AS) (w3 : Int), x ≤ y → y ≤ l → y - x ≤ k → d.Perm d0 → Hp X S (D b d js :: F) → ∀ xi yi : Int, xi = x → yi = y →
    Ok (evF E orcL (n + k + 9) (.fn 63) [.sl (some (.rw b, 0)) l c, .int .i64 xi, .int .i64 yi, .int .i64 w3] S) (Sorts X F b d0 js)
  | k, x, y, d, S, w3, hxy, hy, hk, hp, h, xi, yi, hxi, hyi => by
    subst hxi hyi
    rw [F63 _ _ _ _ _ _ _ _ (oL rfl)]
    simp only [J63, b63_entry]
    refine pdq_loop k (n + k) (by omega) hl hl2 (fun x y d S w3 h1 h2 h3 h4 h5 xi yi h6 h7 => ?_) (n + k + 8) (n + k + 8) x y w3 true true d S (by omega) hxy hy hk hp h
    cases k with
    | zero => omega
    | succ k => exact pdq_ok n hn hl hl2 k x y d S w3 h1 h2 (by omega) h4 h5 xi yi h6 h7

/-- THE SORT: what it leaves are the same elements. -/
theorem sort_ok (n : Nat) (hn : 1000000 < n) (hl : l = d.length) (hl2 : l < 256) (h : Hp X S (D b d js :: F)) :
    Ok (evF E orcL (n + 300) (.fn 43) [.sl (some (.rw b, 0)) l c] S) (Sorts X F b d js) := by
  rw [F43 _ _ _ _ _ (oL rfl)]
  simp only [J43, b43_entry]
  obtain ⟨k, e, _, _⟩ := len_ok (S := S) (n + 297) hl2
  rw [wu (n := (l : Int)) (by omega) (by omega), callI_of e]
  obtain ⟨v, S1, e, rfl, d1, hp1, h1⟩ := pdq_ok (n + 290 - l) (by omega) hl hl2 l 0 l d S k (by omega) (by omega) (by omega) (.refl _) h (c := c) 0 l rfl rfl
  have e2 : n + 290 - l + l + 9 = n + 299 := by omega
  rw [e2] at e
  rw [callT_of e]
  exact ok_ret ⟨rfl, d1, hp1, h1⟩

end

end Go.Al
