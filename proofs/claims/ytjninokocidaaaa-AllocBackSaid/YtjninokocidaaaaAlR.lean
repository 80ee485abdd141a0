/- The document's allocator in a heap: that its functions run, whatever its states are. -/
import Derived.Test.YtjninokocidaaaaAlE
set_option linter.unusedVariables false
set_option linter.unusedSimpArgs false
set_option maxRecDepth 4000
namespace Go.Al
open Go.Gr

/-- The document's allocator as it lies in the heap: its states, lists and numbers. -/
structure RM where
  s : List Int
  t : List Int
  g : List Int
  r : Int
  h : Int

def rhdr (w : RM) (bs : Nat) (ta : Option Pos) (tl : Nat) (tc : Cap) (ga : Option Pos) (gl : Nat) (gc : Cap) : List AV :=
  [.sl (some (.rw bs, 0)) w.s.length (.ex w.s.length), .sl ta tl tc, .sl ga gl gc, .int .i64 w.r, .int .i64 w.h]

structure RefR (w : RM) (N M : Nat) (ta : Option Pos) (tl : Nat) (tc : Cap) (ga : Option Pos) (gl : Nat) (gc : Cap) (Lt Lg : List Ent) : Prop where
  n : w.s.length = N
  n2 : N ≤ 65536
  tM : w.t.length ≤ M
  gM : w.g.length ≤ M
  ht : SlR ta tl tc 1 (ixs .i64 w.t) Lt
  hg : SlR ga gl gc 1 (ixs .i64 w.g) Lg

abbrev rblks (b : Nat) (w : RM) (bs : Nat) (ta : Option Pos) (tl : Nat) (tc : Cap) (ga : Option Pos) (gl : Nat) (gc : Cap) (Lt Lg : List Ent) : List Ent :=
  C b (rhdr w bs ta tl tc ga gl gc) :: C bs (w.s.map (AV.int .i64)) :: (Lt ++ Lg)

/-- The document's allocator of so many blocks, whose lists have so many elements at most. -/
def RefB (b : Nat) (N M : Nat) (L : List Ent) : Prop := ∃ w bs ta tl tc ga gl gc Lt Lg, RefR w N M ta tl tc ga gl gc Lt Lg ∧ L = rblks b w bs ta tl tc ga gl gc Lt Lg

theorem map_at {l : List Int} {i : Nat} {v : Int} (h : l[i]? = some v) : (l.map (AV.int .i64))[i]? = some (.int .i64 v) := by rw [List.getElem?_map, h]; rfl
theorem map_splice {l : List Int} {i : Nat} (v : Int) (h : i < l.length) : splice (l.map (AV.int .i64)) i [.int .i64 v] = (l.set i v).map (AV.int .i64) := by
  rw [splice, List.set_eq_take_append_cons_drop, if_pos h]
  simp [List.map_take, List.map_drop]

section
variable {X : Cx} {S : AS} {L F : List Ent} {b N M : Nat} {Q : AV → AS → Prop}

theorem RefB.more (h : RefB b N M L) {M' : Nat} (hm : M ≤ M') : RefB b N M' L := by
  obtain ⟨w, bs, ta, tl, tc, ga, gl, gc, Lt, Lg, hr, rfl⟩ := h
  exact ⟨w, bs, ta, tl, tc, ga, gl, gc, Lt, Lg, ⟨hr.n, hr.n2, Nat.le_trans hr.tM hm, Nat.le_trans hr.gM hm, hr.ht, hr.hg⟩, rfl⟩

theorem rnew_ok (n : Nat) (h : Hp X S F) (x : Int) : Ok (ev (n + 1) (.fn 41) [.int .i64 x] S) fun v S' =>
    (¬ right x ∧ v = .tup [.ptr none, .int .i64 2] ∧ S' = S) ∨ (right x ∧ ∃ b L, v = .tup [.ptr (some (.rw b, 0)), .int .i64 0] ∧ RefB b x.toNat 0 L ∧ Hp X S' (L ++ F)) := by
  rw [ev, F41 _ _ _ (oL rfl)]
  simp only [J41, b41_entry]
  refine ok_cond (fun hc => ok_ret (.inl ⟨?_, rfl, rfl⟩)) (fun hc => ok_cond (fun hc2 => ok_ret (.inl ⟨?_, rfl, rfl⟩)) (fun hc2 => ?_))
  · simp only [decide_eq_true_eq] at hc
    unfold right; omega
  · simp only [gt_iff_lt, decide_eq_true_eq] at hc2
    unfold right; omega
  simp only [gt_iff_lt, decide_eq_false_iff_not] at hc hc2
  obtain ⟨k, rfl⟩ : ∃ k : Nat, x = (k : Int) := ⟨x.toNat, by omega⟩
  refine ok_mkSl (l := k) (c := k) rfl rfl (Nat.le_refl _) (by simp [pow46]; omega) (by simp [pow46]; omega) ?_
  refine ok_newA h (fun b1 S1 h => ok_newA h (fun b2 S2 h => ok_ret (.inr ⟨by unfold right; omega, b2, _, rfl, ⟨⟨List.replicate k 0, [], [], 0, 0⟩, b1, none, 0, .ex 0, none, 0, .ex 0, [], [], ⟨by simp, by simp; omega, by simp, by simp, .nil, .nil⟩, rfl⟩, ?_⟩)))
  have e : zeros k [AV.int .i64 0] = (List.replicate k (0 : Int)).map (AV.int .i64) := by simp [zeros]
  rw [e] at h
  simpa [rblks, rhdr] using h

theorem rin_eq (n : Nat) (h : Hp X S (L ++ F)) (hr : RefB b N M L) (x : Int) : ev (n + 1) (.fn 65) [.ptr (some (.rw b, 0)), .int .i64 x] S = some (.bool (decide (0 ≤ x) && decide (x < N)), S) := by
  obtain ⟨w, bs, ta, tl, tc, ga, gl, gc, Lt, Lg, hr, rfl⟩ := hr
  have hn := hr.n
  apply ok_eq
  rw [ev, F65 _ _ _ _ (oL rfl)]
  simp only [J65, b65_entry]
  refine ok_cond (fun hc => ok_gO (ok_ldL h rfl (ok_ret ⟨?_, rfl⟩))) (fun hc => ok_ret ⟨?_, rfl⟩)
  · simp only [ge_iff_le, decide_eq_true_eq] at hc
    simp [hc, hn]
  · simp only [ge_iff_le, decide_eq_false_iff_not] at hc
    simp [hc]

theorem count_loop (n0 : Nat) (call : CallA) {w : RM} {bs : Nat} {ta : Option Pos} {tl : Nat} {tc : Cap} {ga : Option Pos} {gl : Nat} {gc : Cap} {Lt Lg : List Ent} (hr : RefR w N M ta tl tc ga gl gc Lt Lg) (h : Hp X S (rblks b w bs ta tl tc ga gl gc Lt Lg ++ F)) (x : Int) : ∀ (m i : Nat) (w5 : Int), i ≤ N → N - i < m → ∃ k : Int, J56_l1_1_0_1_0 call n0 m (some (.rw b, 0)) x w5 i S = some (.int .i64 k, S)
  | 0, i, w5, hi, hm => by omega
  | m + 1, i, w5, hi, hm => by
    have hn := hr.n
    have hn2 := hr.n2
    rw [J56_l1_1_0_1_0_succ]
    simp only [b56_l1_1_0_1_0]
    have key : Ok (gO (some (Bid.rw b, 0)) fun p1 => ldL S p1.1 p1.2 fun v2a v2l v2c => cond (decide ((i : Int) < ((v2l : Nat) : Int))) (gO (some (Bid.rw b, 0)) fun p3 => ldL S p3.1 p3.2 fun v4a v4l v4c => ixSl 1 v4a v4l i fun p5 => ldI .i64 S p5.1 p5.2 fun v6 => cond (v6 == x) (J56_l1_1_0_1_0 call n0 m (some (.rw b, 0)) x (IntKind.wrap .i64 (w5 + 1)) (IntKind.wrap .i64 ((i : Int) + 1)) S) (J56_l1_1_0_1_0 call n0 m (some (.rw b, 0)) x w5 (IntKind.wrap .i64 ((i : Int) + 1)) S)) (some (.int .i64 w5, S))) fun v S' => S' = S ∧ ∃ k : Int, v = .int .i64 k := by
      refine ok_gO (ok_ldL h rfl (ok_cond (fun hc => ?_) (fun _ => ok_ret ⟨rfl, w5, rfl⟩)))
      simp only [decide_eq_true_eq] at hc
      have hlt : i < w.s.length := by omega
      refine ok_gO (ok_ldL h rfl (ok_ixSl (k := i) rfl hlt ?_))
      simp only [Nat.zero_add, Nat.mul_one]
      refine ok_ldI h (map_at (List.getElem?_eq_getElem hlt)) ?_
      rw [wn (x := (i : Int) + 1) (n := i + 1) (by omega) (by omega)]
      refine ok_cond (fun _ => ?_) (fun _ => ?_)
      · obtain ⟨k, e⟩ := count_loop n0 call hr h x m (i + 1) (IntKind.wrap .i64 (w5 + 1)) (by omega) (by omega)
        rw [e]; exact ok_ret ⟨rfl, k, rfl⟩
      · obtain ⟨k, e⟩ := count_loop n0 call hr h x m (i + 1) w5 (by omega) (by omega)
        rw [e]; exact ok_ret ⟨rfl, k, rfl⟩
    obtain ⟨v, S', e, rfl, k, rfl⟩ := key
    exact ⟨k, e⟩

theorem count_eq (n : Nat) (hn : 70000 < n) (h : Hp X S (L ++ F)) (hr : RefB b N M L) (x : Int) : ∃ k : Int, ev (n + 1) (.fn 56) [.ptr (some (.rw b, 0)), .int .i64 x] S = some (.int .i64 k, S) := by
  have hn2 : N ≤ 65536 := by obtain ⟨w, bs, ta, tl, tc, ga, gl, gc, Lt, Lg, hr, rfl⟩ := hr; exact hr.n2
  obtain ⟨w, bs, ta, tl, tc, ga, gl, gc, Lt, Lg, hr, rfl⟩ := hr
  obtain ⟨k, e⟩ := count_loop n (evF E orcL n) hr h x n 0 0 (by omega) (by omega)
  refine ⟨k, ?_⟩
  rw [ev, F56 _ _ _ _ (oL rfl)]
  simp only [J56, b56_entry]
  exact e

/-- A state turned. -/
theorem rput_ok {w : RM} {bs : Nat} {ta : Option Pos} {tl : Nat} {tc : Cap} {ga : Option Pos} {gl : Nat} {gc : Cap} {Lt Lg : List Ent} {i : Nat} {xi v : Int} {K : AS → Option (AV × AS)} (hx : xi = i) (hi : i < N)
    (hr : RefR w N M ta tl tc ga gl gc Lt Lg) (h : Hp X S (rblks b w bs ta tl tc ga gl gc Lt Lg ++ F))
    (ht : ∀ S', RefR { w with s := w.s.set i v } N M ta tl tc ga gl gc Lt Lg → Hp X S' (rblks b { w with s := w.s.set i v } bs ta tl tc ga gl gc Lt Lg ++ F) → Ok (K S') Q) :
    Ok (gO (some (.rw b, 0)) fun p => ldL S p.1 p.2 fun va vl vc => ixSl 1 va vl xi fun p => S.stn p.1 p.2 [.int .i64 v] K) Q := by
  have hn := hr.n
  refine ok_gO (ok_ldL h rfl (ok_ixSl (k := i) hx (by omega) ?_))
  simp only [Nat.zero_add, Nat.mul_one]
  refine ok_stn h (by simp; omega) (d := (w.s.set i v).map (AV.int .i64)) (map_splice v (by omega)) (fun S1 h1 => ht S1 ⟨by simpa using hn, hr.n2, hr.tM, hr.gM, hr.ht, hr.hg⟩ ?_)
  simpa [rblks, rhdr] using h1

/-- A number appended to the first list. -/
theorem rpushT_ok {w : RM} {bs : Nat} {ta : Option Pos} {tl : Nat} {tc : Cap} {ga : Option Pos} {gl : Nat} {gc : Cap} {Lt Lg : List Ent} {v : Int} {K : AS → Option (AV × AS)} (hM : M ≤ 65000)
    (hr : RefR w N M ta tl tc ga gl gc Lt Lg) (h : Hp X S (rblks b w bs ta tl tc ga gl gc Lt Lg ++ F))
    (ht : ∀ S' L', RefB b N (M + 1) L' → Hp X S' (L' ++ F) → Ok (K S') Q) :
    Ok (newA S (.cells [.int .i64 v]) fun b2 S2 => appendA 1 8 S2 ta tl tc 1 (firstA S2 1 1 (.sl (some (.rw b2, 0)) 1 (.ex 1))) fun a l c S3 => gO (some (.rw b, 0)) fun p => S3.stn p.1 (p.2 + 1) [.sl a l c] K) Q := by
  have htl := hr.tM
  have hgl := hr.gM
  refine ok_newA h (fun b2 S2 h2 => ?_)
  have h2' := h2.re (M := Lt ++ (C b2 [.int .i64 v] :: C b (rhdr w bs ta tl tc ga gl gc) :: C bs (w.s.map (AV.int .i64)) :: (Lg ++ F))) (by intro p; simp only [rblks, List.countP_append, List.countP_cons, List.cons_append, C]; omega)
  refine ok_append h2' hr.ht (ys := ixs .i64 [v]) (ixs_all _ _) rfl (fun K => ?_) (by decide) (by simp [pow46]; omega) (by simp [pow46]; omega) (fun a l c S3 Lt' ht' h3 => ?_)
  · have := RdR.first (.rw (X := X) (b := b2) (i := 0) (c := [.int .i64 v]) (cs := [.int .i64 v]) (L := _) (List.mem_append_right Lt List.mem_cons_self) (by simp) rfl) h2' (sz := 1) (n := 1) rfl (by decide) (l := 1) (c := .ex 1) K
    simpa using this
  · rw [← ixs_append] at ht'
    refine ok_gO (ok_stn h3 (by simp [rhdr]) (d := rhdr { w with t := w.t ++ [v] } bs a l c ga gl gc) (by simp [rhdr, splice]) (fun S4 h4 => ht S4 _ ⟨{ w with t := w.t ++ [v] }, bs, a, l, c, ga, gl, gc, Lt', Lg, ⟨hr.n, hr.n2, by simp; omega, by show w.g.length ≤ _; omega, ht', hr.hg⟩, rfl⟩ ?_))
    exact (h4.re (M := C b2 [.int .i64 v] :: (rblks b { w with t := w.t ++ [v] } bs a l c ga gl gc Lt' Lg ++ F)) (by intro p; simp only [rblks, List.countP_append, List.countP_cons, List.cons_append, C]; omega)).drop1
theorem rpushG_ok {w : RM} {bs : Nat} {ta : Option Pos} {tl : Nat} {tc : Cap} {ga : Option Pos} {gl : Nat} {gc : Cap} {Lt Lg : List Ent} {v : Int} {K : AS → Option (AV × AS)} (hM : M ≤ 65000)
    (hr : RefR w N M ta tl tc ga gl gc Lt Lg) (h : Hp X S (rblks b w bs ta tl tc ga gl gc Lt Lg ++ F))
    (ht : ∀ S' L', RefB b N (M + 1) L' → Hp X S' (L' ++ F) → Ok (K S') Q) :
    Ok (newA S (.cells [.int .i64 v]) fun b2 S2 => appendA 1 8 S2 ga gl gc 1 (firstA S2 1 1 (.sl (some (.rw b2, 0)) 1 (.ex 1))) fun a l c S3 => gO (some (.rw b, 0)) fun p => S3.stn p.1 (p.2 + 2) [.sl a l c] K) Q := by
  have htl := hr.tM
  have hgl := hr.gM
  refine ok_newA h (fun b2 S2 h2 => ?_)
  have h2' := h2.re (M := Lg ++ (C b2 [.int .i64 v] :: C b (rhdr w bs ta tl tc ga gl gc) :: C bs (w.s.map (AV.int .i64)) :: (Lt ++ F))) (by intro p; simp only [rblks, List.countP_append, List.countP_cons, List.cons_append, C]; omega)
  refine ok_append h2' hr.hg (ys := ixs .i64 [v]) (ixs_all _ _) rfl (fun K => ?_) (by decide) (by simp [pow46]; omega) (by simp [pow46]; omega) (fun a l c S3 Lg' ht' h3 => ?_)
  · have := RdR.first (.rw (X := X) (b := b2) (i := 0) (c := [.int .i64 v]) (cs := [.int .i64 v]) (L := _) (List.mem_append_right Lg List.mem_cons_self) (by simp) rfl) h2' (sz := 1) (n := 1) rfl (by decide) (l := 1) (c := .ex 1) K
    simpa using this
  · rw [← ixs_append] at ht'
    refine ok_gO (ok_stn h3 (by simp [rhdr]) (d := rhdr { w with g := w.g ++ [v] } bs ta tl tc a l c) (by simp [rhdr, splice]) (fun S4 h4 => ht S4 _ ⟨{ w with g := w.g ++ [v] }, bs, ta, tl, tc, a, l, c, Lt, Lg', ⟨hr.n, hr.n2, by show w.t.length ≤ _; omega, by simp; omega, hr.ht, ht'⟩, rfl⟩ ?_))
    exact (h4.re (M := C b2 [.int .i64 v] :: (rblks b { w with g := w.g ++ [v] } bs ta tl tc a l c Lt Lg' ++ F)) (by intro p; simp only [rblks, List.countP_append, List.countP_cons, List.cons_append, C]; omega)).drop1

theorem rsetR_ok (hr : RefB b N M L) (h : Hp X S (L ++ F)) {v : Int} {K : AS → Option (AV × AS)} (ht : ∀ S' L', RefB b N M L' → Hp X S' (L' ++ F) → Ok (K S') Q) :
    Ok (gO (some (.rw b, 0)) fun p => S.stn p.1 (p.2 + 3) [.int .i64 v] K) Q := by
  obtain ⟨w, bs, ta, tl, tc, ga, gl, gc, Lt, Lg, hr, rfl⟩ := hr
  exact ok_gO (ok_stn h (by simp [rhdr]) (d := rhdr { w with r := v } bs ta tl tc ga gl gc) (by simp [rhdr, splice]) (fun S1 h1 => ht S1 _ ⟨{ w with r := v }, bs, ta, tl, tc, ga, gl, gc, Lt, Lg, ⟨hr.n, hr.n2, hr.tM, hr.gM, hr.ht, hr.hg⟩, rfl⟩ h1))
theorem rsetH_ok (hr : RefB b N M L) (h : Hp X S (L ++ F)) {v : Int} {K : AS → Option (AV × AS)} (ht : ∀ S' L', RefB b N M L' → Hp X S' (L' ++ F) → Ok (K S') Q) :
    Ok (gO (some (.rw b, 0)) fun p => S.stn p.1 (p.2 + 4) [.int .i64 v] K) Q := by
  obtain ⟨w, bs, ta, tl, tc, ga, gl, gc, Lt, Lg, hr, rfl⟩ := hr
  exact ok_gO (ok_stn h (by simp [rhdr]) (d := rhdr { w with h := v } bs ta tl tc ga gl gc) (by simp [rhdr, splice]) (fun S1 h1 => ht S1 _ ⟨{ w with h := v }, bs, ta, tl, tc, ga, gl, gc, Lt, Lg, ⟨hr.n, hr.n2, hr.tM, hr.gM, hr.ht, hr.hg⟩, rfl⟩ h1))
theorem rldR_ok (hr : RefB b N M L) (h : Hp X S (L ++ F)) {K : Int → Option (AV × AS)} (ht : ∀ v, Ok (K v) Q) : Ok (gO (some (.rw b, 0)) fun p => ldI .i64 S p.1 (p.2 + 3) K) Q := by
  obtain ⟨w, bs, ta, tl, tc, ga, gl, gc, Lt, Lg, hr, rfl⟩ := hr
  exact ok_gO (ok_ldI h rfl (ht _))
theorem rldH_ok (hr : RefB b N M L) (h : Hp X S (L ++ F)) {K : Int → Option (AV × AS)} (ht : ∀ v, Ok (K v) Q) : Ok (gO (some (.rw b, 0)) fun p => ldI .i64 S p.1 (p.2 + 4) K) Q := by
  obtain ⟨w, bs, ta, tl, tc, ga, gl, gc, Lt, Lg, hr, rfl⟩ := hr
  exact ok_gO (ok_ldI h rfl (ht _))

abbrev Ref1 (X : Cx) (F : List Ent) (b N M : Nat) : AV → AS → Prop := fun v S' => ∃ (k : Int) (L' : List Ent), v = .int .i64 k ∧ RefB b N M L' ∧ Hp X S' (L' ++ F)
abbrev Ref2 (X : Cx) (F : List Ent) (b N M : Nat) : AV → AS → Prop := fun v S' => ∃ (k j : Int) (L' : List Ent), v = .tup [.int .i64 k, .int .i64 j] ∧ RefB b N M L' ∧ Hp X S' (L' ++ F)

theorem rtake_loop (n0 n : Nat) {w : RM} {bs : Nat} {ta : Option Pos} {tl : Nat} {tc : Cap} {ga : Option Pos} {gl : Nat} {gc : Cap} {Lt Lg : List Ent} {x : Nat} (hx : x < N) (hM : M ≤ 65000) (hr : RefR w N M ta tl tc ga gl gc Lt Lg) (h : Hp X S (rblks b w bs ta tl tc ga gl gc Lt Lg ++ F)) : ∀ (m i : Nat) (w4 : AV), i ≤ N → N - i < m → Ok (J66_l1_0_1_0 (evF E orcL n) n0 m (some (.rw b, 0)) x w4 i S) (Ref1 X F b N (M + 1))
  | 0, i, w4, hi, hm => by omega
  | m + 1, i, w4, hi, hm => by
    have hr0 : RefB b N M (rblks b w bs ta tl tc ga gl gc Lt Lg) := ⟨w, bs, ta, tl, tc, ga, gl, gc, Lt, Lg, hr, rfl⟩
    have hn := hr.n
    have hn2 := hr.n2
    rw [J66_l1_0_1_0_succ]
    simp only [b66_l1_0_1_0]
    refine ok_gO (ok_ldL h rfl (ok_cond (fun hc => ?_) (fun _ => ok_ret ⟨0, _, rfl, hr0.more (Nat.le_succ _), h⟩)))
    simp only [decide_eq_true_eq] at hc
    refine ok_gO (ok_ldL h rfl (ok_nz (by omega) (ok_gO (ok_ldL h rfl ?_))))
    have e1 : IntKind.wrap .i64 ((x : Int) + (i : Int)) = (x + i : Nat) := wn (by omega) (by omega)
    rw [e1]
    have body : ∀ (k : Nat) (ki : Int), ki = k → k < N → Ok (J66_j1_0_1_0_0_1_0_0_1_1 (evF E orcL n) n0 (J66_l1_0_1_0 (evF E orcL n) n0 m) (some (.rw b, 0)) x i ki S) (Ref1 X F b N (M + 1)) := by
      intro k ki hki hk
      simp only [J66_j1_0_1_0_0_1_0_0_1_1, b66_j1_0_1_0_0_1_0_0_1_1]
      refine ok_gO (ok_ldL h rfl (ok_ixSl (k := k) hki (by omega) ?_))
      simp only [Nat.zero_add, Nat.mul_one]
      refine ok_ldI h (map_at (List.getElem?_eq_getElem (show k < w.s.length by omega))) ?_
      refine ok_cond (fun _ => ?_) (fun _ => ?_)
      · refine rput_ok hki hk hr h (fun S1 hr1 h1 => ok_gO (ok_ldL h1 rfl ?_))
        exact rpushT_ok hM hr1 h1 (fun S2 L2 hr2 h2 => ok_ret ⟨ki, L2, rfl, hr2, h2⟩)
      · rw [wn (n := i + 1) (by omega) (by omega)]
        exact rtake_loop n0 n hx hM hr h m (i + 1) .undef (by omega) (by omega)
    refine ok_cond (fun hc2 => ok_gO (ok_ldL h rfl ?_)) (fun hc2 => ?_)
    · simp only [ge_iff_le, decide_eq_true_eq] at hc2
      exact body (x + i - N) _ (wn (by omega) (by omega)) (by omega)
    · simp only [ge_iff_le, decide_eq_false_iff_not] at hc2
      refine body (x + i) _ ?_ (by omega)
      rw [Int.tmod_eq_emod_of_nonneg (by omega), Int.emod_eq_of_lt (by omega) (by omega)]

theorem rtk_ok (n : Nat) (hn : 70000 < n) (hM : M ≤ 65000) (hr : RefB b N M L) (h : Hp X S (L ++ F)) {x : Int} (h0 : 0 ≤ x) (h1 : x < N) : Ok (ev (n + 1) (.fn 66) [.ptr (some (.rw b, 0)), .int .i64 x] S) (Ref1 X F b N (M + 1)) := by
  have hn2 : N ≤ 65536 := by obtain ⟨w, bs, ta, tl, tc, ga, gl, gc, Lt, Lg, hr, rfl⟩ := hr; exact hr.n2
  obtain ⟨k, rfl⟩ : ∃ k : Nat, x = (k : Int) := ⟨x.toNat, by omega⟩
  rw [ev, F66 _ _ _ _ (oL rfl)]
  simp only [J66, b66_entry]
  obtain ⟨w, bs, ta, tl, tc, ga, gl, gc, Lt, Lg, hr, rfl⟩ := hr
  exact rtake_loop n n (by omega) hM hr h n 0 _ (by omega) (by omega)

theorem rTake_ok (n : Nat) (hn : 70000 < n) (hM : M ≤ 65000) (hr : RefB b N M L) (h : Hp X S (L ++ F)) (x : Int) : Ok (ev (n + 2) (.fn 47) [.ptr (some (.rw b, 0)), .int .i64 x] S) (Ref2 X F b N (M + 1)) := by
  have hin := rin_eq n h hr x
  obtain ⟨k, hc⟩ := count_eq n hn h hr 0
  rw [ev, F47 _ _ _ _ (oL rfl)]
  simp only [J47, b47_entry]
  rw [callB_of hin]
  refine ok_cond (fun _ => ok_ret ⟨0, 2, L, rfl, hr.more (Nat.le_succ _), h⟩) (fun hb => ?_)
  simp only [Bool.not_eq_false', Bool.and_eq_true, decide_eq_true_eq] at hb
  rw [callI_of hc]
  have hr0 := hr
  obtain ⟨w, bs, ta, tl, tc, ga, gl, gc, Lt, Lg, hr, rfl⟩ := hr
  refine ok_gO (ok_ldI h rfl (ok_ldI h rfl (ok_true (by simp [AV.beq]) ?_)))
  refine ok_cond (fun _ => ok_ret ⟨0, 100, _, rfl, hr0.more (Nat.le_succ _), h⟩) (fun _ => ?_)
  obtain ⟨v, S1, e, k1, L1, rfl, hr1, h1⟩ := rtk_ok n hn hM hr0 h hb.1 hb.2
  rw [callI_of e]
  exact ok_ret ⟨k1, 0, L1, rfl, hr1, h1⟩

theorem rRes_ok (n : Nat) (hn : 70000 < n) (hM : M ≤ 65000) (hr : RefB b N M L) (h : Hp X S (L ++ F)) (x : Int) : Ok (ev (n + 2) (.fn 48) [.ptr (some (.rw b, 0)), .int .i64 x] S) (Ref2 X F b N (M + 1)) := by
  have hin := rin_eq n h hr x
  rw [ev, F48 _ _ _ _ (oL rfl)]
  simp only [J48, b48_entry]
  rw [callB_of hin]
  refine ok_cond (fun _ => ok_ret ⟨0, 2, L, rfl, hr.more (Nat.le_succ _), h⟩) (fun hb => ?_)
  simp only [Bool.not_eq_false', Bool.and_eq_true, decide_eq_true_eq] at hb
  refine rldR_ok hr h (fun v4 => ok_cond (fun _ => ok_ret ⟨0, 100, _, rfl, hr.more (Nat.le_succ _), h⟩) (fun _ => rldR_ok hr h (fun v6 => ?_)))
  refine rsetR_ok hr h (fun S1 L1 hr1 h1 => ?_)
  obtain ⟨v, S2, e, k1, L2, rfl, hr2, h2⟩ := rtk_ok n hn hM hr1 h1 hb.1 hb.2
  rw [callI_of e]
  exact ok_ret ⟨k1, 0, L2, rfl, hr2, h2⟩

theorem without_loop (n0 n : Nat) {t : List Int} {a : Option Pos} {c : Cap} (hM : M ≤ 65000) (hl : t.length ≤ M) (x : Int) : ∀ (m i : Nat) (d : List Int) (a' : Option Pos) (l' : Nat) (c' : Cap) (L' : List Ent) (S : AS), i ≤ t.length → t.length - i < m → d.length ≤ i → SlR a' l' c' 1 (ixs .i64 d) L' → RdR X F a (t.map (AV.int .i64)) → Hp X S (L' ++ F) →
    Ok (J67_l1_1_0_1_0 (evF E orcL n) n0 m a t.length c x a' l' c' i S) fun v S' => ∃ a' l' c' d L', v = .sl a' l' c' ∧ d.length ≤ t.length ∧ SlR a' l' c' 1 (ixs .i64 d) L' ∧ Hp X S' (L' ++ F)
  | 0, i, d, a', l', c', L', S, hi, hm, hd, hs, hrd, h => by omega
  | m + 1, i, d, a', l', c', L', S, hi, hm, hd, hs, hrd, h => by
    rw [J67_l1_1_0_1_0_succ]
    simp only [b67_l1_1_0_1_0]
    refine ok_cond (fun hc => ?_) (fun _ => ok_ret ⟨a', l', c', d, L', rfl, by omega, hs, h⟩)
    simp only [decide_eq_true_eq] at hc
    have hlt : i < t.length := by omega
    have hv : t[i]? = some t[i] := List.getElem?_eq_getElem hlt
    obtain ⟨p, rfl⟩ := hrd.some_of (by intro he; have := congrArg List.length he; simp at this; rw [this] at hlt; simp at hlt)
    have hrd2 : RdR X (L' ++ F) (some p) (t.map (AV.int .i64)) := hrd.mono (fun e he => List.mem_append_right _ he)
    have next : ∀ (d2 : List Int) (a2 : Option Pos) (l2 : Nat) (c2 : Cap) (L2 : List Ent) (S2 : AS), d2.length ≤ i + 1 → SlR a2 l2 c2 1 (ixs .i64 d2) L2 → Hp X S2 (L2 ++ F) → Ok (J67_j1_1_0_1_0_0_1_1 (evF E orcL n) n0 (J67_l1_1_0_1_0 (evF E orcL n) n0 m) (some p) t.length c x a2 l2 c2 i S2) fun v S' => ∃ a' l' c' d L', v = .sl a' l' c' ∧ d.length ≤ t.length ∧ SlR a' l' c' 1 (ixs .i64 d) L' ∧ Hp X S' (L' ++ F) := by
      intro d2 a2 l2 c2 L2 S2 hd2 hs2 h2
      simp only [J67_j1_1_0_1_0_0_1_1, b67_j1_1_0_1_0_0_1_1]
      rw [wn (n := i + 1) (by omega) (by omega)]
      exact without_loop n0 n hM hl x m (i + 1) d2 a2 l2 c2 L2 S2 (by omega) (by omega) hd2 hs2 hrd h2
    rw [ixSl_at rfl hlt]
    simp only [Nat.mul_one]
    rw [hrd2.ldI h (map_at hv)]
    refine ok_cond (fun _ => ?_) (fun _ => next d a' l' c' L' S (by omega) hs h)
    rw [ixSl_at rfl hlt]
    simp only [Nat.mul_one]
    rw [hrd2.ldI h (map_at hv)]
    refine ok_newA h (fun b5 S6 h6 => ?_)
    have h6' := h6.re (M := L' ++ (C b5 [.int .i64 t[i]] :: F)) (by intro p; simp only [List.countP_append, List.countP_cons, C]; omega)
    refine ok_append h6' hs (ys := ixs .i64 [t[i]]) (ixs_all _ _) rfl (fun K => ?_) (by decide) (by simp [pow46]; omega) (by simp [pow46]; omega) (fun a l c S3 L3 ht' h3 => ?_)
    · have := RdR.first (.rw (X := X) (b := b5) (i := 0) (c := [.int .i64 t[i]]) (cs := [.int .i64 t[i]]) (L := _) (List.mem_append_right L' List.mem_cons_self) (by simp) rfl) h6' (sz := 1) (n := 1) rfl (by decide) (l := 1) (c := .ex 1) K
      simpa using this
    · rw [← ixs_append] at ht'
      exact next _ a l c L3 S3 (by simp; omega) ht' (h3.re (M := C b5 [.int .i64 t[i]] :: (L3 ++ F)) (by intro p; simp only [List.countP_append, List.countP_cons, C]; omega)).drop1

theorem rGive_ok (n : Nat) (hn : 70000 < n) (hM : M ≤ 65000) (hr : RefB b N M L) (h : Hp X S (L ++ F)) (x : Int) : Ok (ev (n + 2) (.fn 49) [.ptr (some (.rw b, 0)), .int .i64 x] S) (Ref1 X F b N (M + 1)) := by
  have hin := rin_eq n h hr x
  rw [ev, F49 _ _ _ _ (oL rfl)]
  simp only [J49, b49_entry]
  rw [callB_of hin]
  refine ok_cond (fun _ => ok_ret ⟨2, L, rfl, hr.more (Nat.le_succ _), h⟩) (fun hb => ?_)
  simp only [Bool.not_eq_false', Bool.and_eq_true, decide_eq_true_eq] at hb
  have hr0 := hr
  obtain ⟨w, bs, ta, tl, tc, ga, gl, gc, Lt, Lg, hr, rfl⟩ := hr
  have hn' := hr.n
  have hlt : x.toNat < w.s.length := by omega
  refine ok_gO (ok_ldL h rfl (ok_ixSl (k := x.toNat) (by omega) hlt ?_))
  simp only [Nat.zero_add, Nat.mul_one]
  refine ok_ldI h (map_at (List.getElem?_eq_getElem hlt)) ?_
  refine ok_cond (fun _ => ?_) (fun _ => ok_cond (fun _ => ?_) (fun _ => ok_ret ⟨101, _, rfl, hr0.more (Nat.le_succ _), h⟩))
  · refine rput_ok (i := x.toNat) (by omega) (by omega) hr h (fun S1 hr1 h1 => ok_gO (ok_ldL h1 rfl ?_))
    exact rpushG_ok hM hr1 h1 (fun S2 L2 hr2 h2 => ok_ret ⟨0, L2, rfl, hr2, h2⟩)
  · refine rput_ok (i := x.toNat) (by omega) (by omega) hr h (fun S1 hr1 h1 => ok_gO (ok_ldL h1 rfl ?_))
    have htl : tl = w.t.length := by have := hr.ht.len; simpa using this
    subst htl
    have htM := hr.tM
    have h1' := h1.re (M := [] ++ (Lt ++ (C b (rhdr { w with s := w.s.set x.toNat 0 } bs ta w.t.length tc ga gl gc) :: C bs ((w.s.set x.toNat 0).map (AV.int .i64)) :: (Lg ++ F)))) (by intro p; simp only [rblks, List.countP_append, List.countP_cons, List.cons_append, List.nil_append, C]; omega)
    have rdt := hr.ht.rd (X := X) (M := Lt ++ (C b (rhdr { w with s := w.s.set x.toNat 0 } bs ta w.t.length tc ga gl gc) :: C bs ((w.s.set x.toNat 0).map (AV.int .i64)) :: (Lg ++ F))) (by intro e he; simp [he])
    rw [ixs_flat] at rdt
    have e0 : Ok (evF E orcL (n + 1) (.fn 67) [.sl ta w.t.length tc, .int .i64 x] S1) fun v S' => ∃ a' l' c' d L', v = .sl a' l' c' ∧ d.length ≤ w.t.length ∧ SlR a' l' c' 1 (ixs .i64 d) L' ∧ Hp X S' (L' ++ (Lt ++ (C b (rhdr { w with s := w.s.set x.toNat 0 } bs ta w.t.length tc ga gl gc) :: C bs ((w.s.set x.toNat 0).map (AV.int .i64)) :: (Lg ++ F)))) := by
      rw [F67 _ _ _ _ _ _ (oL rfl)]
      simp only [J67, b67_entry]
      exact without_loop n n hM htM x n 0 [] none 0 (.ex 0) [] S1 (by omega) (by omega) (by simp) .nil rdt h1'
    obtain ⟨v, S2, e, a', l', c', d, L', rfl, hd, hs', h2⟩ := e0
    rw [callL_of e]
    refine ok_gO (ok_stn h2 (by simp [rhdr]) (d := rhdr { w with s := w.s.set x.toNat 0, t := d } bs a' l' c' ga gl gc) (by simp [rhdr, splice]) (fun S4 h4 => ok_ret ⟨0, rblks b { w with s := w.s.set x.toNat 0, t := d } bs a' l' c' ga gl gc L' Lg, rfl, ⟨{ w with s := w.s.set x.toNat 0, t := d }, bs, a', l', c', ga, gl, gc, L', Lg, ⟨by simpa using hr.n, hr.n2, by show d.length ≤ _; omega, by have := hr.gM; show w.g.length ≤ _; omega, hs', hr.hg⟩, rfl⟩, ?_⟩))
    exact (h4.re (M := Lt ++ (rblks b { w with s := w.s.set x.toNat 0, t := d } bs a' l' c' ga gl gc L' Lg ++ F)) (by intro p; simp only [rblks, List.countP_append, List.countP_cons, List.cons_append, C]; omega)).right

theorem rMark_ok (n : Nat) (hn : 70000 < n) (hM : M ≤ 65000) (hr : RefB b N M L) (h : Hp X S (L ++ F)) (x : Int) : Ok (ev (n + 2) (.fn 50) [.ptr (some (.rw b, 0)), .int .i64 x] S) (Ref1 X F b N (M + 1)) := by
  have hin := rin_eq n h hr x
  obtain ⟨k, hcnt⟩ := count_eq n hn h hr 0
  rw [ev, F50 _ _ _ _ (oL rfl)]
  simp only [J50, b50_entry]
  rw [callB_of hin]
  refine ok_cond (fun _ => ok_ret ⟨2, L, rfl, hr.more (Nat.le_succ _), h⟩) (fun hb => ?_)
  simp only [Bool.not_eq_false', Bool.and_eq_true, decide_eq_true_eq] at hb
  have hr0 := hr
  obtain ⟨w, bs, ta, tl, tc, ga, gl, gc, Lt, Lg, hr, rfl⟩ := hr
  have hn' := hr.n
  have hlt : x.toNat < w.s.length := by omega
  refine ok_gO (ok_ldL h rfl (ok_ixSl (k := x.toNat) (by omega) hlt ?_))
  simp only [Nat.zero_add, Nat.mul_one]
  refine ok_ldI h (map_at (List.getElem?_eq_getElem hlt)) ?_
  refine ok_cond (fun _ => ok_ret ⟨101, _, rfl, hr0.more (Nat.le_succ _), h⟩) (fun _ => ?_)
  rw [callI_of hcnt]
  refine ok_gO (ok_ldI h rfl (ok_ldI h rfl (ok_true (by simp [AV.beq]) ?_)))
  refine ok_cond (fun _ => ok_ret ⟨101, _, rfl, hr0.more (Nat.le_succ _), h⟩) (fun _ => ?_)
  refine rput_ok (i := x.toNat) (by omega) (by omega) hr h (fun S1 hr1 h1 => ok_gO (ok_ldL h1 rfl ?_))
  exact rpushT_ok hM hr1 h1 (fun S2 L2 hr2 h2 => ok_ret ⟨0, L2, rfl, hr2, h2⟩)

theorem rReserve_ok (n : Nat) (hn : 70000 < n) (hr : RefB b N M L) (h : Hp X S (L ++ F)) (x : Int) : Ok (ev (n + 2) (.fn 51) [.ptr (some (.rw b, 0)), .int .i64 x] S) (Ref1 X F b N M) := by
  obtain ⟨k, hcnt⟩ := count_eq n hn h hr 0
  rw [ev, F51 _ _ _ _ (oL rfl)]
  simp only [J51, b51_entry]
  refine ok_cond (fun _ => ok_ret ⟨2, L, rfl, hr, h⟩) (fun hb => ?_)
  rw [callI_of hcnt]
  have hr0 := hr
  obtain ⟨w, bs, ta, tl, tc, ga, gl, gc, Lt, Lg, hr, rfl⟩ := hr
  refine ok_gO (ok_ldI h rfl (ok_ldI h rfl (ok_true (by simp [AV.beq]) ?_)))
  refine ok_cond (fun _ => ok_ret ⟨100, _, rfl, hr0, h⟩) (fun _ => rldR_ok hr0 h (fun v7 => ?_))
  exact rsetR_ok hr0 h (fun S1 L1 hr1 h1 => ok_ret ⟨0, L1, rfl, hr1, h1⟩)

theorem rRelease_ok (n : Nat) (hr : RefB b N M L) (h : Hp X S (L ++ F)) (x : Int) : Ok (ev (n + 1) (.fn 52) [.ptr (some (.rw b, 0)), .int .i64 x] S) (Ref1 X F b N M) := by
  rw [ev, F52 _ _ _ _ (oL rfl)]
  simp only [J52, b52_entry]
  refine ok_cond (fun _ => ok_ret ⟨2, L, rfl, hr, h⟩) (fun hb => ?_)
  refine rldR_ok hr h (fun v2 => ok_cond (fun _ => ok_ret ⟨2, L, rfl, hr, h⟩) (fun _ => rldR_ok hr h (fun v4 => ?_)))
  exact rsetR_ok hr h (fun S1 L1 hr1 h1 => ok_ret ⟨0, L1, rfl, hr1, h1⟩)

end

end Go.Al

namespace Go.Al
open Go.Gr

section
variable {X : Cx} {S : AS} {L F : List Ent} {b N M : Nat} {Q : AV → AS → Prop}

/-- A list of blocks is told, and the document's allocator is there still. -/
abbrev TurnQ (X : Cx) (F : List Ent) (b N M : Nat) : AV → AS → Prop := fun v S' => ∃ (a : Option Pos) (c : Cap) (d : List Nat) (Ld L' : List Ent), v = .sl a d.length c ∧ d.length ≤ N ∧ SlR a d.length c 1 (ins .i64 d) Ld ∧ RefB b N M L' ∧ Hp X S' (Ld ++ (L' ++ F))

theorem turn_loop2 (n0 : Nat) (call : CallA) {bs : Nat} {ta : Option Pos} {tl : Nat} {tc : Cap} {ga : Option Pos} {gl : Nat} {gc : Cap} {Lt Lg Ld : List Ent} {d : List Nat} {a : Option Pos} {c : Cap} (x2 : Int) (hs : SlR a d.length c 1 (ins .i64 d) Ld) (hl : d.length ≤ N) (hd : ∀ y ∈ d, y < N) :
    ∀ (m j : Nat) (w : RM) (S : AS), j ≤ d.length → d.length - j < m → RefR w N M ta tl tc ga gl gc Lt Lg → Hp X S (Ld ++ (rblks b w bs ta tl tc ga gl gc Lt Lg ++ F)) →
      Ok (J68_l1_1_1_0_1_0 call n0 m (some (.rw b, 0)) x2 a d.length c j S) (TurnQ X F b N M)
  | 0, j, w, S, hj, hm, hr, h => by omega
  | m + 1, j, w, S, hj, hm, hr, h => by
    have hn := hr.n
    have hn2 := hr.n2
    rw [J68_l1_1_1_0_1_0_succ]
    simp only [b68_l1_1_1_0_1_0]
    refine ok_cond (fun hc => ?_) (fun _ => ok_ret ⟨a, c, d, Ld, _, rfl, hl, hs, ⟨w, bs, ta, tl, tc, ga, gl, gc, Lt, Lg, hr, rfl⟩, h⟩)
    simp only [decide_eq_true_eq] at hc
    have hlt : j < d.length := by omega
    obtain ⟨y, hyi⟩ : ∃ y, d[j]? = some y := ⟨_, List.getElem?_eq_getElem hlt⟩
    have hyl := hd y (List.mem_of_getElem? hyi)
    have hr0 := hs.rd (X := X) (M := Ld ++ (rblks b w bs ta tl tc ga gl gc Lt Lg ++ F)) (by intro e he; simp [he])
    rw [ins_flat] at hr0
    obtain ⟨p, rfl⟩ := hr0.some_of (by intro he; rw [← row_len .i64 d, he] at hlt; simp at hlt)
    refine ok_gO (ok_ldL h rfl ?_)
    rw [ixSl_at rfl hlt]
    simp only [Nat.mul_one]
    rw [hr0.ldI h (row_at hyi)]
    refine ok_ixSl (k := y) rfl (by omega) ?_
    simp only [Nat.zero_add, Nat.mul_one]
    refine ok_stn h (by simp; omega) (d := (w.s.set y x2).map (AV.int .i64)) (map_splice x2 (by omega)) (fun S1 h1 => ?_)
    rw [wn (x := (j : Int) + 1) (n := j + 1) (by omega) (by omega)]
    refine turn_loop2 n0 call (bs := bs) x2 hs hl hd m (j + 1) { w with s := w.s.set y x2 } S1 (by omega) (by omega) ⟨by simpa using hn, hn2, hr.tM, hr.gM, hr.ht, hr.hg⟩ ?_
    simpa [rblks, rhdr] using h1

theorem turn_loop1 (n0 n : Nat) {w : RM} {bs : Nat} {ta : Option Pos} {tl : Nat} {tc : Cap} {ga : Option Pos} {gl : Nat} {gc : Cap} {Lt Lg : List Ent} (x1 x2 : Int) (hN : 70000 < n0) (hr : RefR w N M ta tl tc ga gl gc Lt Lg) :
    ∀ (m i : Nat) (d : List Nat) (a : Option Pos) (c : Cap) (Ld : List Ent) (S : AS), i ≤ N → N - i < m → d.length ≤ i → (∀ y ∈ d, y < N) → SlR a d.length c 1 (ins .i64 d) Ld → Hp X S (Ld ++ (rblks b w bs ta tl tc ga gl gc Lt Lg ++ F)) →
      Ok (J68_l1_1_0_1_0 (evF E orcL n) n0 m (some (.rw b, 0)) x1 x2 a d.length c i S) (TurnQ X F b N M)
  | 0, i, d, a, c, Ld, S, hi, hm, hdl, hd, hs, h => by omega
  | m + 1, i, d, a, c, Ld, S, hi, hm, hdl, hd, hs, h => by
    have hn := hr.n
    have hn2 := hr.n2
    rw [J68_l1_1_0_1_0_succ]
    simp only [b68_l1_1_0_1_0]
    refine ok_gO (ok_ldL h rfl (ok_cond (fun hc => ?_) (fun _ => ?_)))
    · simp only [decide_eq_true_eq] at hc
      have hlt : i < w.s.length := by omega
      refine ok_gO (ok_ldL h rfl (ok_ixSl (k := i) rfl hlt ?_))
      simp only [Nat.zero_add, Nat.mul_one]
      refine ok_ldI h (map_at (List.getElem?_eq_getElem hlt)) ?_
      have next : ∀ (d2 : List Nat) (a2 : Option Pos) (c2 : Cap) (L2 : List Ent) (S2 : AS), d2.length ≤ i + 1 → (∀ y ∈ d2, y < N) → SlR a2 d2.length c2 1 (ins .i64 d2) L2 → Hp X S2 (L2 ++ (rblks b w bs ta tl tc ga gl gc Lt Lg ++ F)) → Ok (J68_j1_1_0_1_0_0_1_1 (evF E orcL n) n0 (J68_l1_1_0_1_0 (evF E orcL n) n0 m) (some (.rw b, 0)) x1 x2 a2 d2.length c2 i S2) (TurnQ X F b N M) := by
        intro d2 a2 c2 L2 S2 hd2 hy2 hs2 h2
        simp only [J68_j1_1_0_1_0_0_1_1, b68_j1_1_0_1_0_0_1_1]
        rw [wn (x := (i : Int) + 1) (n := i + 1) (by omega) (by omega)]
        exact turn_loop1 n0 n x1 x2 hN hr m (i + 1) d2 a2 c2 L2 S2 (by omega) (by omega) hd2 hy2 hs2 h2
      refine ok_cond (fun _ => ?_) (fun _ => next d a c Ld S (by omega) hd hs h)
      refine ok_newA h (fun b5 S6 h6 => ?_)
      have h6' := h6.re (M := Ld ++ (C b5 [.int .i64 i] :: (rblks b w bs ta tl tc ga gl gc Lt Lg ++ F))) (by intro p; simp only [List.countP_append, List.countP_cons, C]; omega)
      refine ok_append h6' hs (ys := ins .i64 [i]) (ins_all _ _) rfl (fun K => ?_) (by decide) (by simp [pow46]; omega) (by simp [pow46]; omega) (fun a3 l3 c3 S3 L3 ht' h3 => ?_)
      · have := RdR.first (.rw (X := X) (b := b5) (i := 0) (c := [.int .i64 i]) (cs := [.int .i64 i]) (L := _) (List.mem_append_right Ld List.mem_cons_self) (by simp) rfl) h6' (sz := 1) (n := 1) rfl (by decide) (l := 1) (c := .ex 1) K
        simpa [row] using this
      · rw [← ins_append] at ht'
        obtain rfl : l3 = (d ++ [i]).length := by have := ht'.len; simpa using this
        exact next (d ++ [i]) a3 c3 L3 S3 (by simp; omega) (by intro y hy; rcases List.mem_append.1 hy with hy | hy; exact hd y hy; simp at hy; omega) ht' (h3.re (M := C b5 [.int .i64 i] :: (L3 ++ (rblks b w bs ta tl tc ga gl gc Lt Lg ++ F))) (by intro p; simp only [List.countP_append, List.countP_cons, C]; omega)).drop1
    · simp only [J68_j1_1_1, b68_j1_1_1]
      exact turn_loop2 n0 (evF E orcL n) x2 hs (by omega) hd n0 0 w S (by omega) (by omega) hr h

theorem turn_ok (n : Nat) (hn : 70000 < n) (hr : RefB b N M L) (h : Hp X S (L ++ F)) (x1 x2 : Int) : Ok (ev (n + 1) (.fn 68) [.ptr (some (.rw b, 0)), .int .i64 x1, .int .i64 x2] S) (TurnQ X F b N M) := by
  have hn2 : N ≤ 65536 := by obtain ⟨w, bs, ta, tl, tc, ga, gl, gc, Lt, Lg, hr, rfl⟩ := hr; exact hr.n2
  rw [ev, F68 _ _ _ _ _ (oL rfl)]
  simp only [J68, b68_entry]
  obtain ⟨w, bs, ta, tl, tc, ga, gl, gc, Lt, Lg, hr, rfl⟩ := hr
  exact turn_loop1 n n x1 x2 hn hr n 0 [] none (.ex 0) [] S (by omega) (by omega) (by simp) (by simp) .nil h

/-- Both lists are emptied. -/
theorem rclear_ok (hr : RefB b N M L) (h : Hp X S (L ++ F)) {K : AS → Option (AV × AS)} (ht : ∀ S' L', RefB b N 0 L' → Hp X S' (L' ++ F) → Ok (K S') Q) :
    Ok (gO (some (.rw b, 0)) fun p => S.stn p.1 (p.2 + 1) [.sl none 0 (.ex 0)] fun S8 => gO (some (.rw b, 0)) fun p => S8.stn p.1 (p.2 + 2) [.sl none 0 (.ex 0)] K) Q := by
  obtain ⟨w, bs, ta, tl, tc, ga, gl, gc, Lt, Lg, hr, rfl⟩ := hr
  refine ok_gO (ok_stn h (by simp [rhdr]) (d := rhdr { w with t := [] } bs none 0 (.ex 0) ga gl gc) (by simp [rhdr, splice]) (fun S1 h1 => ?_))
  refine ok_gO (ok_stn h1 (by simp [rhdr]) (d := rhdr { w with t := [], g := [] } bs none 0 (.ex 0) none 0 (.ex 0)) (by simp [rhdr, splice]) (fun S2 h2 => ht S2 _ ⟨{ w with t := [], g := [] }, bs, none, 0, .ex 0, none, 0, .ex 0, [], [], ⟨hr.n, hr.n2, by simp, by simp, .nil, .nil⟩, rfl⟩ ?_))
  exact (h2.re (M := (Lt ++ Lg) ++ (rblks b { w with t := [], g := [] } bs none 0 (.ex 0) none 0 (.ex 0) [] [] ++ F)) (by intro p; simp only [rblks, List.countP_append, List.countP_cons, List.cons_append, List.countP_nil, List.nil_append, C]; omega)).right

/-- Two lists are told. -/
abbrev ComQ (X : Cx) (F : List Ent) (b N : Nat) : AV → AS → Prop := fun v S' => ∃ (a : Option Pos) (c : Cap) (d : List Nat) (Ld : List Ent) (a2 : Option Pos) (c2 : Cap) (d2 : List Nat) (Ld2 L' : List Ent), v = .tup [.sl a d.length c, .sl a2 d2.length c2] ∧ d.length ≤ N ∧ SlR a d.length c 1 (ins .i64 d) Ld ∧ d2.length ≤ N ∧ SlR a2 d2.length c2 1 (ins .i64 d2) Ld2 ∧ RefB b N 0 L' ∧ Hp X S' (L' ++ (Ld ++ (Ld2 ++ F)))

theorem rcommit_ok (n : Nat) (hn : 70000 < n) (hr : RefB b N M L) (h : Hp X S (L ++ F)) : Ok (ev (n + 2) (.fn 53) [.ptr (some (.rw b, 0))] S) (ComQ X F b N) := by
  rw [ev, F53 _ _ _ (oL rfl)]
  simp only [J53, b53_entry]
  have two : ∀ (x1 x2 y1 y2 : Int), Ok (callL (evF E orcL (n + 1)) 68 [.ptr (some (.rw b, 0)), .int .i64 x1, .int .i64 x2] S fun v4a v4l v4c S3 => callL (evF E orcL (n + 1)) 68 [.ptr (some (.rw b, 0)), .int .i64 y1, .int .i64 y2] S3 fun v6a v6l v6c S5 => gO (some (Bid.rw b, 0)) fun p7 => S5.stn p7.1 (p7.2 + 1) [.sl none 0 (.ex 0)] fun S8 => gO (some (Bid.rw b, 0)) fun p9 => S8.stn p9.1 (p9.2 + 2) [.sl none 0 (.ex 0)] fun S10 => some (.tup [.sl v6a v6l v6c, .sl v4a v4l v4c], S10)) (ComQ X F b N) := by
    intro x1 x2 y1 y2
    obtain ⟨v, S1, e, a, c, d, Ld, L1, rfl, hd, hs, hr1, h1⟩ := turn_ok n hn hr h x1 x2
    rw [callL_of e]
    obtain ⟨v, S2, e, a2, c2, d2, Ld2, L2, rfl, hd2, hs2, hr2, h2⟩ := turn_ok n hn hr1 (h1.re (M := L1 ++ (Ld ++ F)) (by intro p; simp only [List.countP_append]; omega)) y1 y2
    rw [callL_of e]
    refine rclear_ok hr2 (h2.re (M := L2 ++ (Ld2 ++ (Ld ++ F))) (by intro p; simp only [List.countP_append]; omega)) (fun S3 L3 hr3 h3 => ?_)
    exact ok_ret ⟨a2, c2, d2, Ld2, a, c, d, Ld, L3, rfl, hd2, hs2, hd, hs, hr3, h3⟩
  exact rldH_ok hr h (fun v2 => ok_cond (fun _ => two _ _ _ _) (fun _ => two _ _ _ _))

theorem rabort_ok (n : Nat) (hn : 70000 < n) (hr : RefB b N M L) (h : Hp X S (L ++ F)) : Ok (ev (n + 2) (.fn 54) [.ptr (some (.rw b, 0))] S) fun v S' => ∃ L', v = .tup [] ∧ RefB b N 0 L' ∧ Hp X S' (L' ++ F) := by
  rw [ev, F54 _ _ _ (oL rfl)]
  simp only [J54, b54_entry]
  obtain ⟨v, S1, e, a, c, d, Ld, L1, rfl, hd, hs, hr1, h1⟩ := turn_ok n hn hr h 2 0
  rw [callL_of e]
  obtain ⟨v, S2, e, a2, c2, d2, Ld2, L2, rfl, hd2, hs2, hr2, h2⟩ := turn_ok n hn hr1 h1.right 3 1
  rw [callL_of e]
  exact rclear_ok hr2 h2.right (fun S3 L3 hr3 h3 => ok_ret ⟨L3, rfl, hr3, h3⟩)

theorem rletgo_ok (n : Nat) (hn : 70000 < n) (hr : RefB b N M L) (h : Hp X S (L ++ F)) : Ok (ev (n + 2) (.fn 55) [.ptr (some (.rw b, 0))] S) (TurnQ X F b N M) := by
  rw [ev, F55 _ _ _ (oL rfl)]
  simp only [J55, b55_entry]
  have none_ : ∀ {S : AS} {L : List Ent}, RefB b N M L → Hp X S (L ++ F) → Ok (some (AV.sl none 0 (.ex 0), S)) (TurnQ X F b N M) := fun hr h => ok_ret ⟨none, .ex 0, [], [], _, rfl, Nat.zero_le _, .nil, hr, h⟩
  refine rldH_ok hr h (fun v2 => ok_cond (fun _ => none_ hr h) (fun _ => rldH_ok hr h (fun v4 => rsetH_ok hr h (fun S1 L1 hr1 h1 => rldH_ok hr1 h1 (fun v8 => ok_cond (fun _ => none_ hr1 h1) (fun _ => ?_))))))
  obtain ⟨v, S2, e, a, c, d, Ld, L2, rfl, hd, hs, hr2, h2⟩ := turn_ok n hn hr1 h1 4 0
  rw [callL_of e]
  exact ok_ret ⟨a, c, d, Ld, L2, rfl, hd, hs, hr2, h2⟩

/-- Two lists of integers are compared. -/
theorem ints_loop (n0 : Nat) (call : CallA) {a a2 : Option Pos} {c c2 : Cap} {d d2 : List Int} (w4 : Bool) (hl : d2.length = d.length) (hd : d.length ≤ 70000) (h : Hp X S L) (hr : RdR X L a (d.map (AV.int .i64))) (hr2 : RdR X L a2 (d2.map (AV.int .i64))) :
    ∀ (m i : Nat), i ≤ d.length → d.length - i < m → d.take i = d2.take i → J38_l1_1_0_1_0 call n0 m a d.length c a2 d2.length c2 w4 i S = some (.bool (decide (d = d2)), S)
  | 0, i, hi, hm, he => by omega
  | m + 1, i, hi, hm, he => by
    apply ok_eq
    rw [J38_l1_1_0_1_0_succ]
    simp only [b38_l1_1_0_1_0]
    refine ok_cond (fun hc => ?_) (fun hc => ok_ret ⟨?_, rfl⟩)
    · simp only [decide_eq_true_eq] at hc
      have hlt : i < d.length := by omega
      obtain ⟨p, rfl⟩ := hr.some_of (by intro he; have := congrArg List.length he; simp at this; rw [this] at hlt; simp at hlt)
      obtain ⟨p2, rfl⟩ := hr2.some_of (by intro he; have := congrArg List.length he; simp at this; rw [this] at hl; simp at hl; omega)
      rw [ixSl_at rfl hlt]
      simp only [Nat.mul_one]
      rw [hr.ldI h (map_at (List.getElem?_eq_getElem hlt))]
      rw [ixSl_at rfl (show i < d2.length by omega)]
      simp only [Nat.mul_one]
      rw [hr2.ldI h (map_at (List.getElem?_eq_getElem (show i < d2.length by omega)))]
      refine ok_cond (fun hne => ok_ret ⟨?_, rfl⟩) (fun heq => ?_)
      · have : d ≠ d2 := by rintro rfl; simp at hne
        simp [this]
      · rw [wn (x := (i : Int) + 1) (n := i + 1) (by omega) (by omega)]
        have := ints_loop n0 call (c := c) (c2 := c2) w4 hl hd h hr hr2 m (i + 1) (by omega) (by omega) (by
          rw [List.take_add_one, List.take_add_one, he, List.getElem?_eq_getElem hlt, List.getElem?_eq_getElem (show i < d2.length by omega)]
          simp at heq
          rw [heq])
        rw [this]
        exact ok_ret ⟨rfl, rfl⟩
    · simp only [decide_eq_false_iff_not] at hc
      have hi2 : i = d.length := by omega
      subst hi2
      rw [List.take_length, ← hl, List.take_length] at he
      simp [he]

theorem ints_eq (n : Nat) (hn : 70000 < n) {a a2 : Option Pos} {c c2 : Cap} {d d2 : List Int} (hd : d.length ≤ 70000) (h : Hp X S L) (hr : RdR X L a (d.map (AV.int .i64))) (hr2 : RdR X L a2 (d2.map (AV.int .i64))) :
    ev (n + 1) (.fn 38) [.sl a d.length c, .sl a2 d2.length c2] S = some (.bool (decide (d = d2)), S) := by
  apply ok_eq
  rw [ev, F38 _ _ _ _ _ _ _ _ (oL rfl)]
  simp only [J38, b38_entry]
  refine ok_cond (fun hc => ok_ret ⟨?_, rfl⟩) (fun hc => ?_)
  · have : d ≠ d2 := by rintro rfl; simp at hc
    simp [this]
  · have hl : d2.length = d.length := by simp at hc; omega
    have := ints_loop n (evF E orcL n) (c := c) (c2 := c2) false hl hd h hr hr2 n 0 (by omega) (by omega) (by simp)
    rw [show ((0 : Nat) : Int) = 0 from rfl] at this
    rw [this]
    exact ok_ret ⟨rfl, rfl⟩

end

end Go.Al
