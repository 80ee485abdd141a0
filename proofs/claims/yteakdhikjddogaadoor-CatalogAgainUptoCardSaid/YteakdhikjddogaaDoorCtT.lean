/- The law CatalogAgain: acts on a catalogue; its run. -/
import Derived.Test.YteakdhikjddogaaDoorCtR
import Derived.Test.YteakdhikjddogaaDoorCtQ
set_option linter.unusedVariables false
set_option linter.unusedSimpArgs false
set_option maxRecDepth 4000
namespace Go.Ct
open Go.Gr

/-- An act as it is read. -/
structure Act where
  k : Int
  t : Int
  r : List UInt8
  z : Int
  n : Int
  nm : List UInt8
  last : Int
  ra : Option Pos
  rc : Cap
  rs : List (Int × Int)
def arow (y : Act) : List AV := [.int .i64 y.k, .int .u64 y.t, .str y.r, .int .u64 y.z, .int .u32 y.n, .str y.nm, .int .i64 y.last, .sl y.ra y.rs.length y.rc]
def arows (l : List Act) : List (List AV) := l.map arow
@[simp] theorem arows_len (l : List Act) : (arows l).length = l.length := by simp [arows]
theorem arows_all (l : List Act) : ∀ x ∈ arows l, x.length = 8 := fun x hx => by
  obtain ⟨s, _, rfl⟩ := List.mem_map.1 hx; rfl
theorem arows_at {l : List Act} {i : Nat} {s : Act} (h : l[i]? = some s) : (arows l)[i]? = some (arow s) := by
  rw [arows, List.getElem?_map, h]; rfl
structure ActB (X : Cx) (F : List Ent) (y : Act) : Prop where
  t0 : 0 ≤ y.t
  t1 : y.t < 18446744073709551616
  rb : RsB y.last y.rs
  rd : RdR X F y.ra (rrows y.rs).flatten
  lr : y.r.length ≤ 1048576
  ln : y.nm.length ≤ 1048576
  ls : y.rs.length ≤ 1048576

theorem rd_ldS {X : Cx} {S : AS} {L : List Ent} {p : Pos} {cs : List AV} (h : RdR X L (some p) cs) (hp : Hp X S L) {i : Nat} {v : List UInt8} (hi : cs[i]? = some (.str v)) {K : List UInt8 → Option (AV × AS)} : Go.Gr.ldS S p.1 (p.2 + i) K = K v := by
  have hlt : i < cs.length := (List.getElem?_eq_some_iff.1 hi).1
  cases h with
  | rw hm hl hc =>
    rename_i b0 i0 c0
    have e : c0[i0 + i]? = some (.str v) := by rw [← hi, ← hc, List.getElem?_take_of_lt (by omega), List.getElem?_drop]
    simp only [Go.Gr.ldS, AS.ld, AS.blk, hp.got _ _ hm, e, gS]
  | ro hm hl hc =>
    rename_i b0 i0 c0
    have e : c0[i0 + i]? = some (.str v) := by rw [← hi, ← hc, List.getElem?_take_of_lt (by omega), List.getElem?_drop]
    simp only [Go.Gr.ldS, AS.ld, AS.blk, hp.ro, hm, e, gS]
theorem rd_ldL {X : Cx} {S : AS} {L : List Ent} {p : Pos} {cs : List AV} (h : RdR X L (some p) cs) (hp : Hp X S L) {i : Nat} {a : Option Pos} {l : Nat} {c : Cap} (hi : cs[i]? = some (.sl a l c)) {K : Option Pos → Nat → Cap → Option (AV × AS)} : Go.Gr.ldL S p.1 (p.2 + i) K = K a l c := by
  have hlt : i < cs.length := (List.getElem?_eq_some_iff.1 hi).1
  cases h with
  | rw hm hl hc =>
    rename_i b0 i0 c0
    have e : c0[i0 + i]? = some (.sl a l c) := by rw [← hi, ← hc, List.getElem?_take_of_lt (by omega), List.getElem?_drop]
    simp only [Go.Gr.ldL, AS.ld, AS.blk, hp.got _ _ hm, e, gL]
  | ro hm hl hc =>
    rename_i b0 i0 c0
    have e : c0[i0 + i]? = some (.sl a l c) := by rw [← hi, ← hc, List.getElem?_take_of_lt (by omega), List.getElem?_drop]
    simp only [Go.Gr.ldL, AS.ld, AS.blk, hp.ro, hm, e, gL]

section
variable {X : Cx} {S : AS} {L F : List Ent} {b : Nat} {A : CM} {Q : AV → AS → Prop}

theorem af_I {acts : List Act} {i j : Nat} {y : Act} {p : Pos} {k : IntKind} {v : Int} {K : Int → Option (AV × AS)} (h : RdR X L (some p) (arows acts).flatten) (hp : Hp X S L) (hi : acts[i]? = some y) (hj : j < 8) (hv : (arow y)[j]? = some (.int k v)) : ldI k S p.1 (p.2 + i * 8 + j) K = K v := by
  rw [Nat.add_assoc]
  exact h.ldI hp (by rw [flat_get (arows_all acts) (arows_at hi) hj]; exact hv)
theorem af_S {acts : List Act} {i j : Nat} {y : Act} {p : Pos} {v : List UInt8} {K : List UInt8 → Option (AV × AS)} (h : RdR X L (some p) (arows acts).flatten) (hp : Hp X S L) (hi : acts[i]? = some y) (hj : j < 8) (hv : (arow y)[j]? = some (.str v)) : ldS S p.1 (p.2 + i * 8 + j) K = K v := by
  rw [Nat.add_assoc]
  exact rd_ldS h hp (by rw [flat_get (arows_all acts) (arows_at hi) hj]; exact hv)
theorem af_L {acts : List Act} {i j : Nat} {y : Act} {p : Pos} {a : Option Pos} {l : Nat} {c : Cap} {K : Option Pos → Nat → Cap → Option (AV × AS)} (h : RdR X L (some p) (arows acts).flatten) (hp : Hp X S L) (hi : acts[i]? = some y) (hj : j < 8) (hv : (arow y)[j]? = some (.sl a l c)) : ldL S p.1 (p.2 + i * 8 + j) K = K a l c := by
  rw [Nat.add_assoc]
  exact rd_ldL h hp (by rw [flat_get (arows_all acts) (arows_at hi) hj]; exact hv)
theorem as_some {a : Option Pos} {acts : List Act} {i : Nat} (h : RdR X L a (arows acts).flatten) (hi : i < acts.length) : ∃ p, a = some p :=
  h.some_of (by intro he; have := congrArg List.length he; rw [flat_len (arows_all acts), arows_len] at this; simp at this; omega)

def wt (y : Act) : Nat := y.r.length + y.nm.length + y.rs.length
def wts (l : List Act) (i : Nat) : Nat := ((l.take i).map wt).sum
theorem wts_succ {l : List Act} {i : Nat} {y : Act} (h : l[i]? = some y) : wts l (i + 1) = wts l i + wt y := by
  rw [wts, take_succ_at h, List.map_append, List.sum_append]; simp [wts]
theorem wts_mem {l : List Act} {y : Act} (h : y ∈ l) : wt y ≤ wts l l.length := by
  rw [wts, List.take_length]
  induction l with
  | nil => cases h
  | cons x l ih =>
    simp only [List.map_cons, List.sum_cons]
    rcases List.mem_cons.1 h with rfl | h
    · omega
    · have := ih h; omega

theorem long_loop (n0 : Nat) (call : CallA) {a : Option Pos} {c : Cap} {acts : List Act} (hB : ∀ y ∈ acts, y.r.length ≤ 1048576 ∧ y.nm.length ≤ 1048576 ∧ y.rs.length ≤ 1048576) (hl : acts.length ≤ 1048576) (hr : RdR X F a (arows acts).flatten) (h : Hp X S F) :
    ∀ (m i : Nat), i ≤ acts.length → i ≤ 61 → 62 - i ≤ m → wts acts i ≤ i * 3145728 → Ok (J23_l1_1_0_1_0 call n0 m a acts.length c (wts acts i : Nat) i S) fun v S' => ∃ r : Bool, v = .bool r ∧ S' = S ∧ (r = false → acts.length ≤ 60 ∧ wts acts acts.length ≤ 20000)
  | 0, i, hi, h61, hm, hw => by omega
  | m + 1, i, hi, h61, hm, hw => by
    rw [J23_l1_1_0_1_0_succ]
    simp only [b23_l1_1_0_1_0, J23_j1_1_1, b23_j1_1_1]
    have fin : acts.length = i ∨ 61 ≤ i → Ok (cond (decide (((acts.length : Nat) : Int) > 60)) (some (AV.bool true, S)) (some (AV.bool (decide (((wts acts i : Nat) : Int) > 20000)), S))) fun v S' => ∃ r : Bool, v = .bool r ∧ S' = S ∧ (r = false → acts.length ≤ 60 ∧ wts acts acts.length ≤ 20000) := by
      intro hh
      refine ok_cond (fun hc => ok_ret ⟨true, rfl, rfl, by simp⟩) (fun hc => ok_ret ⟨_, rfl, rfl, fun he => ?_⟩)
      simp only [gt_iff_lt, decide_eq_false_iff_not] at hc he
      rcases hh with rfl | hh
      · omega
      · omega
    refine ok_cond (fun hc => ?_) (fun hc => ?_)
    · simp only [decide_eq_true_eq] at hc
      have hlt : i < acts.length := by omega
      refine ok_cond (fun hc2 => ?_) (fun hc2 => ?_)
      · simp only [decide_eq_true_eq] at hc2
        obtain ⟨y, hy⟩ : ∃ y, acts[i]? = some y := ⟨_, List.getElem?_eq_getElem hlt⟩
        have hb := hB y (List.mem_of_getElem? hy)
        obtain ⟨p, rfl⟩ := as_some hr hlt
        rw [ixSl_at rfl hlt, af_S hr h hy (by decide) rfl, ixSl_at rfl hlt, af_S hr h hy (by decide) rfl, ixSl_at rfl hlt]
        rw [show p.2 + i * 8 + 6 + 1 = p.2 + i * 8 + 7 by omega, af_L hr h hy (by decide) rfl]
        have hs := wts_succ hy
        unfold wt at hs
        rw [wn (x := (wts acts i : Int) + (y.r.length : Nat)) (n := wts acts i + y.r.length) (by omega) (by omega), wn (x := ((wts acts i + y.r.length : Nat) : Int) + (y.nm.length : Nat)) (n := wts acts i + y.r.length + y.nm.length) (by omega) (by omega), wn (x := ((wts acts i + y.r.length + y.nm.length : Nat) : Int) + (y.rs.length : Nat)) (n := wts acts (i + 1)) (by omega) (by omega), wn (x := (i : Int) + 1) (n := i + 1) (by omega) (by omega)]
        exact long_loop n0 call hB hl hr h m (i + 1) (by omega) (by omega) (by omega) (by omega)
      · simp only [decide_eq_false_iff_not] at hc2
        exact fin (.inr (by omega))
    · simp only [decide_eq_false_iff_not] at hc
      exact fin (.inl (by omega))

theorem long_ok (n : Nat) (hn : 100 < n) {a : Option Pos} {c : Cap} {acts : List Act} (hB : ∀ y ∈ acts, y.r.length ≤ 1048576 ∧ y.nm.length ≤ 1048576 ∧ y.rs.length ≤ 1048576) (hl : acts.length ≤ 1048576) (hr : RdR X F a (arows acts).flatten) (h : Hp X S F) :
    Ok (ev (n + 1) (.fn 23) [.sl a acts.length c] S) fun v S' => ∃ r : Bool, v = .bool r ∧ S' = S ∧ (r = false → acts.length ≤ 60 ∧ wts acts acts.length ≤ 20000) := by
  rw [ev, F23 _ _ _ _ _ (oL rfl)]
  simp only [J23, b23_entry]
  exact long_loop n (evF E orcL n) hB hl hr h n 0 (by omega) (by omega) (by omega) (by simp [wts])

/-- The document's catalogue, empty. -/
abbrev wE (bw : Nat) : Ent := C bw [.sl none 0 (.ex 0), .int .u64 0, .int .u64 0]

theorem rdrop_ok (n : Nat) (hn : 1 < n) {bw : Nat} (h : Hp X S (L ++ (wE bw :: F))) (x : Int) : ev (n + 1) (.fn 39) [.ptr (some (.rw bw, 0)), .int .u32 x] S = some (.int .i64 7, S) := by
  obtain ⟨m, rfl⟩ : ∃ m, n = m + 1 := ⟨n - 1, by omega⟩
  apply ok_eq
  rw [ev, F39 _ _ _ _ (oL rfl)]
  simp only [J39, b39_entry]
  rw [J39_l1_0_1_0_succ]
  simp only [b39_l1_0_1_0]
  exact ok_gO (ok_ldL h rfl (ok_false (by simp) (ok_ret ⟨rfl, rfl⟩)))

theorem rretire_ok (n : Nat) (hn : 70000 < n) {bw : Nat} (h : Hp X S (L ++ (wE bw :: F))) {last : Int} {ra : Option Pos} {rc : Cap} {rs : List (Int × Int)} (hB : RsB last rs) (hra : RdR X F ra (rrows rs).flatten) :
    Ok (ev (n + 3) (.fn 40) [.ptr (some (.rw bw, 0)), .agg [.int .i64 last, .sl ra rs.length rc]] S) fun v S' => v = .tup [.sl none 0 (.ex 0), .int .i64 (checkE last rs)] ∧ Hp X S' (L ++ (wE bw :: F)) := by
  rw [ev, F40 _ _ _ _ (oL rfl)]
  simp only [J40, b40_entry]
  refine ok_ifO rfl (ok_newA h (fun b1 S1 h1 => ?_))
  refine ok_ldn h1 (by simp) (d := [.int .i64 last, .sl ra rs.length rc]) rfl ?_
  obtain ⟨v, S2, e, rfl, h2⟩ : Ok (evF E orcL (n + 2) (.fn 17) [.agg [.int .i64 last, .sl ra rs.length rc]] S1) _ := rcheck_ok (n + 1) (by omega) h1 last (hra.mono (by intro e he; simp [he]))
  rw [callI_of e]
  refine ok_cond (fun _ => ok_ret ⟨rfl, h2.drop1⟩) (fun hc => ?_)
  simp only [bne_eq_false_iff_eq] at hc
  have hw : wrongB last rs = false := by
    unfold checkE at hc
    cases hwb : wrongB last rs with
    | false => rfl
    | true => rw [hwb] at hc; simp at hc
  rw [J40_l1_1_1_1_0_1_0_succ]
  simp only [b40_l1_1_1_1_0_1_0]
  refine ok_gO (ok_ldL h2 rfl (ok_false (by simp) ?_))
  simp only [J40_j1_1_1_1_1, b40_j1_1_1_1_1]
  refine ok_gO (ok_ldn h2 (by simp) (d := [.int .i64 last, .sl ra rs.length rc]) rfl ?_)
  have hup : Up ([] : List Int) := ⟨by simp, by simp, by simp, by simp⟩
  obtain ⟨v, S3, e, a3, c3, L3, rfl, hs3, h3⟩ : Ok (evF E orcL (n + 2) (.fn 14) [.agg [.int .i64 last, .sl ra rs.length rc], .sl none ([] : List Int).length (.ex 0)] S2) _ := rkeep_ok n (by omega) h2 hB (hra.mono (by intro e he; simp [he])) (by have := (wrong_false hw).2.1; omega) hup (.nil)
  rw [callL_of (show evF E orcL (n + 2) (.fn 14) [.agg [.int .i64 last, .sl ra rs.length rc], .sl none 0 (.ex 0)] S2 = _ from e)]
  rw [J40_l1_1_1_1_1_1_1_1_0_1_0_succ]
  simp only [b40_l1_1_1_1_1_1_1_1_0_1_0]
  refine ok_gO (ok_ldL h3 rfl (ok_false (by simp) ?_))
  simp only [J40_j1_1_1_1_1_1_1_1_1, b40_j1_1_1_1_1_1_1_1_1]
  refine ok_gO (ok_stn h3 (by simp) (d := [.sl none 0 (.ex 0), .int .u64 0, .int .u64 0]) (by simp [splice]) (fun S4 h4 => ok_ret ⟨by rw [hc], ?_⟩))
  exact h4.right.drop1

theorem numbers_ok (n : Nat) (hn : 1 < n) (a a2 : Option Pos) (l : Nat) (c c2 : Cap) (S : AS) : ∃ r : Bool, ev (n + 1) (.fn 41) [.sl a l c, .sl a2 0 c2] S = some (.bool r, S) := by
  obtain ⟨m, rfl⟩ : ∃ m, n = m + 1 := ⟨n - 1, by omega⟩
  have : Ok (ev (m + 1 + 1) (.fn 41) [.sl a l c, .sl a2 0 c2] S) fun v S' => (∃ r : Bool, v = .bool r) ∧ S' = S := by
    rw [ev, F41 _ _ _ _ _ _ _ _ (oL rfl)]
    simp only [J41, b41_entry]
    refine ok_cond (fun _ => ok_ret ⟨⟨_, rfl⟩, rfl⟩) (fun hc => ?_)
    rw [J41_l1_1_0_1_0_succ]
    simp only [b41_l1_1_0_1_0]
    have hl : l = 0 := by simp at hc; omega
    subst hl
    exact ok_false (by simp) (ok_ret ⟨⟨_, rfl⟩, rfl⟩)
  obtain ⟨v, S', e, ⟨x, rfl⟩, rfl⟩ := this
  exact ⟨x, e⟩

theorem drop_past (A : CM) (x : Int) : (A.drop x).past = A.past := by unfold CM.drop; split <;> rfl
theorem retire_past (A : CM) (last : Int) (rs : List (Int × Int)) : (A.retire last rs).past = A.past := by unfold CM.retire; split <;> rfl

/-- An act that adds nothing. -/
abbrev ActQ (X : Cx) (F : List Ent) (b bw : Nat) (A : CM) (k : Int) : AV → AS → Prop := fun v S' => ∃ (p : Option Pos) (r : Bool) (b' : Nat) (A' : CM) (L' : List Ent), v = .tup [.ptr p, .bool r] ∧ Cat b' A' L' ∧ CInv A' ∧ A'.past = A.past ∧ (k = 4 → p = some (.rw b', 0)) ∧ (k ≠ 4 → b' = b) ∧ Hp X S' (L' ++ (wE bw :: F))

theorem act_ok (n : Nat) (hn : 80000 < n) {bw : Nat} (h : Hp X S (L ++ (wE bw :: F))) (hc : Cat b A L) (hI : CInv A) {y : Act} (hy : ActB X F y) (hk1 : y.k ≠ 1) (hyl : y.rs.length ≤ 20000) :
    Ok (ev (n + 5) (.fn 24) [.ptr (some (.rw b, 0)), .ptr (some (.rw bw, 0)), .agg (arow y)] S) (ActQ X F b bw A y.k) := by
  rw [ev, F24 _ _ _ _ _ (oL rfl)]
  simp only [J24, b24_entry]
  have hlen := hI.len
  refine ok_ifO rfl (ok_newA h (fun b1 S1 h1 => ok_ldI h1 rfl (ok_false (by simp [hk1]) ?_)))
  have h1' : Hp X S1 (L ++ (wE bw :: (C b1 (arow y) :: F))) := h1.re (by intro p; simp only [List.countP_append, List.countP_cons, C]; omega)
  refine ok_cond (fun c2 => ?_) (fun c2 => ?_)
  · -- a drop
    simp only [beq_iff_eq] at c2
    refine ok_ldI h1' rfl ?_
    obtain ⟨v, S2, e, rfl, L2, hc2, h2⟩ : Ok (evF E orcL (n + 4) (.fn 21) [.ptr (some (.rw b, 0)), .int .u32 y.n] S1) _ := drop_ok n (by omega) h1' hc (by omega) y.n
    rw [callI_of e, callI_of (num_eq (n + 3) _ S2)]
    refine ok_ldI h2 rfl (ok_ldI h2 rfl (ok_true (by simp [AV.beq]) (ok_ldI h1' rfl (ok_true (by simp [AV.beq]) ?_))))
    rw [callI_of (show evF E orcL (n + 4) (.fn 39) [.ptr (some (.rw bw, 0)), .int .u32 y.n] S2 = _ from rdrop_ok (n + 3) (by omega) h2 y.n)]
    exact ok_ret ⟨_, _, b, A.drop y.n, L2, rfl, hc2, hI.drop _, drop_past _ _, fun e => by omega, fun _ => rfl, h2.sub (List.Sublist.append_left ((List.sublist_cons_self _ _).cons_cons _) L2)⟩
  refine ok_cond (fun c3 => ?_) (fun c3 => ?_)
  · -- retired
    simp only [beq_iff_eq] at c3
    refine ok_ldn h1' (by simp [arow]) (d := [.int .i64 y.last, .sl y.ra y.rs.length y.rc]) rfl ?_
    obtain ⟨v, S2, e, a2, c2', L2, rfl, hs2, h2⟩ : Ok (evF E orcL (n + 4) (.fn 12) [.agg [.int .i64 y.last, .sl y.ra y.rs.length y.rc]] S1) _ := own_ok (n + 3) h1' y.last (hy.rd.mono (by intro e he; simp [he])) (by omega)
    rw [callG_of (n := 2) e rfl]
    have h2' : Hp X S2 (L ++ (L2 ++ (wE bw :: (C b1 (arow y) :: F)))) := h2.re (by intro p; simp only [List.countP_append, List.countP_cons, C]; omega)
    have rd2 := hs2.rd (X := X) (M := L2 ++ (wE bw :: (C b1 (arow y) :: F))) (by intro e he; simp [he])
    obtain ⟨v, S3, e, ga, gc, L3, Lg, rfl, hg, hc3, h3⟩ : Ok (evF E orcL (n + 4) (.fn 26) [.ptr (some (.rw b, 0)), .agg [.int .i64 y.last, .sl a2 y.rs.length c2']] S2) _ := retire_ok n (by omega) h2' hc hI hy.rb rd2
    rw [callT_of e]
    refine ok_atL rfl (ok_atI rfl ?_)
    have h3' : Hp X S3 ((L3 ++ (Lg ++ L2)) ++ (wE bw :: (C b1 (arow y) :: F))) := h3.re (by intro p; simp only [List.countP_append, List.countP_cons, C]; omega)
    refine ok_ldn h3' (by simp [arow]) (d := [.int .i64 y.last, .sl y.ra y.rs.length y.rc]) rfl ?_
    obtain ⟨v, S4, e, rfl, h4⟩ : Ok (evF E orcL (n + 4) (.fn 40) [.ptr (some (.rw bw, 0)), .agg [.int .i64 y.last, .sl y.ra y.rs.length y.rc]] S3) _ := rretire_ok (n + 1) (by omega) h3' hy.rb (hy.rd.mono (by intro e he; simp [he]))
    rw [callT_of e]
    refine ok_atL rfl (ok_atI rfl ?_)
    obtain ⟨r, e⟩ := numbers_ok (n + 3) (by omega) ga none (A.gone y.last y.rs).length gc (.ex 0) S4
    rw [callB_of (show evF E orcL (n + 4) (.fn 41) [.sl ga (A.gone y.last y.rs).length gc, .sl none 0 (.ex 0)] S4 = _ from e)]
    have h5 : Hp X S4 (L3 ++ (wE bw :: F)) := by
      have := h4.re (M := (Lg ++ (L2 ++ [C b1 (arow y)])) ++ (L3 ++ (wE bw :: F))) (by intro p; simp only [List.countP_append, List.countP_cons, List.countP_nil, C]; omega)
      exact this.right
    refine ok_cond (fun _ => ?_) (fun _ => ok_ret ⟨_, _, b, _, L3, rfl, hc3, hI.retire _ _, retire_past _ _ _, fun e => by omega, fun _ => rfl, h5⟩)
    rw [callI_of (num_eq (n + 3) _ S4)]
    exact ok_ret ⟨_, _, b, _, L3, rfl, hc3, hI.retire _ _, retire_past _ _ _, fun e => by omega, fun _ => rfl, h5⟩
  refine ok_cond (fun c4 => ?_) (fun c4 => ?_)
  · -- copied
    simp only [beq_iff_eq] at c4
    obtain ⟨v, S2, e, b2, L2, rfl, hc2, h2⟩ : Ok (evF E orcL (n + 4) (.fn 32) [.ptr (some (.rw b, 0))] S1) _ := copyc_ok (n + 2) h1' hc (by omega)
    rw [callP_of e]
    refine ok_false rfl ?_
    obtain ⟨v, S3, e, rfl, h3⟩ : Ok (evF E orcL (n + 4) (.fn 20) [.int .u8 63] S2) _ := digest_ok (n + 3) (by omega) h2 (x := 63) (by decide) rfl
    rw [callS_of e]
    have h3' : Hp X S3 (L ++ (L2 ++ (wE bw :: (C b1 (arow y) :: F)))) := h3.re (by intro p; simp only [List.countP_append, List.countP_cons, C]; omega)
    obtain ⟨v, S4, e, rfl, L4, hc4, h4⟩ : Ok (evF E orcL (n + 4) (.fn 19) [.ptr (some (.rw b, 0)), .int .u64 4611686018427387904, .str (List.replicate 32 (UInt8.ofNat 63)), .int .u64 0] S3) _ := add_ok (n + 3) h3' hc 4611686018427387904 _ 0
    rw [callT_of e]
    have hI4 := hI.add (t := 4611686018427387904) (by decide) (by decide) (List.replicate 32 (UInt8.ofNat 63)) 0
    have hB0 : RsB 0 [] := ⟨by decide, by decide, by simp, by simp, by simp, by simp⟩
    obtain ⟨v, S5, e, ga, gc, L5, Lg, rfl, hg, hc5, h5⟩ : Ok (evF E orcL (n + 4) (.fn 26) [.ptr (some (.rw b, 0)), .agg [.int .i64 0, .sl none ([] : List (Int × Int)).length (.ex 0)]] S4) _ := retire_ok n (by omega) h4 hc4 hI4 hB0 .nil
    rw [callT_of (show evF E orcL (n + 4) (.fn 26) [.ptr (some (.rw b, 0)), .agg [.int .i64 0, .sl none 0 (.ex 0)]] S4 = _ from e)]
    refine ok_ret ⟨_, _, b2, A, L2, rfl, hc2, hI, rfl, fun _ => rfl, fun hne => absurd c4 hne, ?_⟩
    have := h5.re (M := (L5 ++ (Lg ++ [C b1 (arow y)])) ++ (L2 ++ (wE bw :: F))) (by intro p; simp only [List.countP_append, List.countP_cons, List.countP_nil, C]; omega)
    exact this.right
  refine ok_cond (fun c5 => ?_) (fun c5 => ?_)
  · -- there and back
    simp only [beq_iff_eq] at c5
    obtain ⟨v, S2, e, a2, c2', s2, L2, rfl, hl2, hs2, h2⟩ : Ok (evF E orcL (n + 4) (.fn 31) [.ptr (some (.rw b, 0))] S1) _ := bytes_ok (n + 1) (by omega) h1' hc hI
    rw [callL_of e]
    have hv : Vw X (L2 ++ (L ++ (wE bw :: (C b1 (arow y) :: F)))) a2 s2.length c2' s2 := by
      refine ⟨?_, rfl, ?_⟩
      · have := hs2.rd (X := X) (M := L2 ++ (L ++ (wE bw :: (C b1 (arow y) :: F)))) (by intro e he; simp [he])
        rwa [bxs_flat] at this
      · rcases hs2.dest with ⟨_, h0, h0', _, _⟩ | ⟨bt, js, _, _, hcc, _, _, _⟩
        · exact ⟨0, .inl h0', by omega⟩
        · exact ⟨_, hcc, by simp [bxs]⟩
    obtain ⟨v, S3, e, p3, e3, rfl, h3⟩ : Ok (evF E orcL (n + 4) (.fn 42) [.sl a2 s2.length c2'] S2) _ := load_ok (n + 1) (by omega) hv hl2 h2
    rw [callT_of e]
    refine ok_atP rfl (ok_atI rfl ?_)
    rw [callI_of (num_eq (n + 3) _ S3)]
    have h4 : Hp X S3 (L ++ (wE bw :: F)) := h3.right.sub (List.Sublist.append_left ((List.sublist_cons_self _ _).cons_cons _) L)
    exact ok_cond (fun _ => ok_ret ⟨_, _, b, A, L, rfl, hc, hI, rfl, fun e => by omega, fun _ => rfl, h4⟩) (fun _ => ok_ret ⟨_, _, b, A, L, rfl, hc, hI, rfl, fun e => by omega, fun _ => rfl, h4⟩)
  · simp only [beq_eq_false_iff_ne, ne_eq] at c4
    exact ok_ret ⟨_, _, b, A, L, rfl, hc, hI, rfl, fun e => absurd e c4, fun _ => rfl, h1'.sub (List.Sublist.append_left ((List.sublist_cons_self _ _).cons_cons _) L)⟩

end

end Go.Ct

namespace Go.Ct
open Go.Gr

section
variable {X : Cx} {S : AS} {L F : List Ent} {b : Nat} {A : CM} {Q : AV → AS → Prop}

theorem ok_atB {l : List AV} {i : Nat} {v : Bool} {K : Bool → Option (AV × AS)} {Q : AV → AS → Prop} (h : l[i]? = some (.bool v)) (ht : Ok (K v) Q) : Ok (atB l i K) Q := by simp only [atB, h, gB]; exact ht

abbrev pV (last : Int) (ra : Option Pos) (rl : Nat) (rc : Cap) : List AV := [.int .i64 last, .sl ra rl rc]

theorem sf_I {l : List Snap} {i j : Nat} {y : Snap} {p : Pos} {k : IntKind} {v : Int} {K : Int → Option (AV × AS)} (h : RdR X L (some p) (srows l).flatten) (hp : Hp X S L) (hi : l[i]? = some y) (hj : j < 4) (hv : (srow y)[j]? = some (.int k v)) : ldI k S p.1 (p.2 + i * 4 + j) K = K v := by
  rw [Nat.add_assoc]
  exact h.ldI hp (by rw [flat_get (srows_all l) (srows_at hi) hj]; exact hv)

theorem check_rows (n0 : Nat) (call : CallA) {w0a : Option Pos} {w0l : Nat} {w0c : Cap} {w3 w5 w6 : Option Pos} {w4 : Bool} {w7 w8 : Int} {outer : Option Pos → Nat → Cap → Option Pos → Bool → Option Pos → Option Pos → Int → Int → AS → Option (AV × AS)} {l : List Snap} (hpw : l.Pairwise fun x y => x.n < y.n ∧ x.t < y.t) (hl : l.length ≤ 256) {a : Option Pos} {c : Cap} (hr : RdR X L a (srows l).flatten) (h : Hp X S L)
    (ht : Ok (outer w0a w0l w0c w3 w4 w5 w6 w7 (IntKind.wrap .i64 (w8 + 1)) S) Q) :
    ∀ (m k : Nat), 1 ≤ k → k ≤ l.length + 1 → l.length + 1 - k < m → Ok (J6_l1_1_1_1_1_1_0_1_0_0_1_0_0_1_1_1_1_1_0 call n0 outer m w0a w0l w0c w3 w4 w5 w6 w7 w8 a l.length c k S) Q
  | 0, k, h1, hk, hm => by omega
  | m + 1, k, h1, hk, hm => by
    rw [J6_l1_1_1_1_1_1_0_1_0_0_1_0_0_1_1_1_1_1_0_succ]
    simp only [b6_l1_1_1_1_1_1_0_1_0_0_1_0_0_1_1_1_1_1_0]
    refine ok_cond (fun hc => ?_) (fun hc => ht)
    simp only [decide_eq_true_eq] at hc
    have hlt : k < l.length := by omega
    obtain ⟨x, hx⟩ : ∃ x, l[k - 1]? = some x := ⟨_, List.getElem?_eq_getElem (by omega)⟩
    obtain ⟨y, hy⟩ : ∃ y, l[k]? = some y := ⟨_, List.getElem?_eq_getElem hlt⟩
    obtain ⟨g1, e1⟩ := List.getElem?_eq_some_iff.1 hx
    obtain ⟨g2, e2⟩ := List.getElem?_eq_some_iff.1 hy
    have hp2 := List.pairwise_iff_getElem.1 hpw (k - 1) k g1 g2 (by omega)
    rw [e1, e2] at hp2
    obtain ⟨p, rfl⟩ := hr.some_of (by intro he; have := congrArg List.length he; rw [flat_len (srows_all l), srows_len] at this; simp at this; omega)
    have hw1 : IntKind.wrap .i64 ((k : Int) - 1) = ((k - 1 : Nat) : Int) := by rw [wrap64 (by omega) (by omega)]; omega
    rw [hw1, ixSl_at rfl hlt]
    have f0 : ∀ {i : Nat} {z : Snap} {K : Int → Option (AV × AS)}, l[i]? = some z → ldI .u32 S p.1 (p.2 + i * 4) K = K z.n := fun {i z K} hz => by
      have := sf_I (K := K) hr h hz (j := 0) (by decide) (k := .u32) (v := z.n) rfl
      rwa [Nat.add_zero] at this
    rw [f0 hy, ixSl_at rfl (show k - 1 < l.length by omega), f0 hx]
    refine ok_false (by simp; omega) ?_
    rw [ixSl_at rfl hlt, sf_I hr h hy (j := 1) (by decide) rfl, ixSl_at rfl (show k - 1 < l.length by omega), sf_I hr h hx (j := 1) (by decide) rfl]
    refine ok_false (by simp; omega) ?_
    rw [wn (x := (k : Int) + 1) (n := k + 1) (by omega) (by omega)]
    exact check_rows n0 call hpw hl hr h ht m (k + 1) (by omega) (by omega) (by omega)

theorem again_twice (n : Nat) (hn : 80000 < n) {bw bp : Nat} {last : Int} {ra : Option Pos} {rc : Cap} {rs : List (Int × Int)} (hB : RsB last rs) (hra : RdR X F ra (rrows rs).flatten) (hrl : rs.length ≤ 50) (hw : wrongB last rs = false) (hc : Cat b (A.retire last rs) L) (hI : CInv A) (hp : rs = [] ∨ (rs.length = 1 ∧ last = 0)) (h : Hp X S (L ++ (C bp (pV last ra rs.length rc) :: F))) :
    Ok (callG 2 (evF E orcL (n + 4)) 12 [.agg (pV last ra rs.length rc)] S fun v73 S72 =>
      callT (evF E orcL (n + 4)) 26 [.ptr (some (.rw b, 0)), .agg v73] S72 fun v75 S74 =>
      atL v75 0 fun v76a v76l v76c =>
      atI .i64 v75 1 fun v77 =>
      callI .i64 (evF E orcL (n + 4)) 15 [.int .i64 v77] S74 fun v79 S78 =>
      cond (v79 == 0) (
      cond (((v76l : Nat) : Int) == 0) (
      callB (evF E orcL (n + 4)) 10 [] S78 fun v81 S80 =>
      some ((.bool v81), S80)) (
      some ((.bool false), S78))) (
      some ((.bool false), S78))) TrueQ := by
  obtain ⟨v, S2, e, a2, c2, L2, rfl, hs2, h2⟩ : Ok (evF E orcL (n + 4) (.fn 12) [.agg (pV last ra rs.length rc)] S) _ := own_ok (n + 3) h last (hra.mono (by intro e he; simp [he])) (by omega)
  rw [callG_of (n := 2) e rfl]
  have h2' : Hp X S2 (L ++ (L2 ++ (C bp (pV last ra rs.length rc) :: F))) := h2.re (by intro p; simp only [List.countP_append, List.countP_cons, C]; omega)
  have rd2 := hs2.rd (X := X) (M := L2 ++ (C bp (pV last ra rs.length rc) :: F)) (by intro e he; simp [he])
  obtain ⟨v, S3, e, ga, gc, L3, Lg, rfl, hg, hc3, h3⟩ : Ok (evF E orcL (n + 4) (.fn 26) [.ptr (some (.rw b, 0)), .agg [.int .i64 last, .sl a2 rs.length c2]] S2) _ := retire_ok n (by omega) h2' hc (hI.retire last rs) hB rd2
  rw [callT_of e]
  refine ok_atL rfl (ok_atI rfl ?_)
  rw [callI_of (num_eq (n + 3) _ S3), checkE, hw, again hI hB hw hp]
  exact ok_true rfl (ok_true rfl (live_ok (n + 3) S3))

theorem again_loop (n0 n : Nat) (hn : 80000 < n) (hn0 : 1000 < n0) {bw bp : Nat} {last : Int} {ra : Option Pos} {rc : Cap} {rs : List (Int × Int)} (hB : RsB last rs) (hra : RdR X F ra (rrows rs).flatten) (hrl : rs.length ≤ 50) {aa : Option Pos} {ac : Cap} {acts : List Act} (hac : RdR X F aa (arows acts).flatten) (hall : ∀ y ∈ acts, ActB X F y ∧ y.rs.length ≤ 20000) (hal : acts.length ≤ 60) (w4 : Bool) :
    ∀ (m i : Nat) (b : Nat) (A : CM) (g : Int) (L : List Ent) (S : AS), i ≤ acts.length → acts.length - i < m → Cat b A L → CInv A → g ≤ A.past → Hp X S (L ++ (wE bw :: (C bp (pV last ra rs.length rc) :: F))) →
      Ok (J6_l1_1_1_1_1_1_0_1_0 (evF E orcL (n + 5)) n0 m aa acts.length ac (some (.rw bp, 0)) w4 (some (.rw b, 0)) (some (.rw bw, 0)) g i S) TrueQ
  | 0, i, b, A, g, L, S, hi, hm, hc, hI, hg, h => by omega
  | m + 1, i, b, A, g, L, S, hi, hm, hc, hI, hg, h => by
    have hlen := hI.len
    rw [J6_l1_1_1_1_1_1_0_1_0_succ]
    simp only [b6_l1_1_1_1_1_1_0_1_0]
    refine ok_cond (fun hcc => ?_) (fun hcc => ?_)
    · simp only [decide_eq_true_eq] at hcc
      have hlt : i < acts.length := by omega
      obtain ⟨y, hy⟩ : ∃ y, acts[i]? = some y := ⟨_, List.getElem?_eq_getElem hlt⟩
      obtain ⟨hyB, hyl⟩ := hall y (List.mem_of_getElem? hy)
      obtain ⟨p, hp⟩ := as_some hac hlt
      have hac' : RdR X F (some p) (arows acts).flatten := by rw [← hp]; exact hac
      rw [show ixSl 8 aa acts.length (i : Int) = ixSl 8 (some p) acts.length (i : Int) by rw [hp]]
      have f0 : ∀ {S : AS} {M : List Ent} {K : Int → Option (AV × AS)}, Hp X S (M ++ (wE bw :: (C bp (pV last ra rs.length rc) :: F))) → ldI .i64 S p.1 (p.2 + i * 8) K = K y.k := fun {S M K} hz => by
        have := af_I (K := K) (hac'.mono (by intro e he; simp [he])) hz hy (j := 0) (by decide) (k := .i64) (v := y.k) rfl
        rwa [Nat.add_zero] at this
      have hrd : RdR X (L ++ (wE bw :: (C bp (pV last ra rs.length rc) :: F))) (some p) (arows acts).flatten := hac'.mono (by intro e he; simp [he])
      have hwi := wn (x := (i : Int) + 1) (n := i + 1) (by omega) (by omega)
      rw [ixSl_at rfl hlt, f0 h]
      refine ok_cond (fun c1 => ?_) (fun c1 => ?_)
      · -- added
        rw [ixSl_at rfl hlt, af_I hrd h hy (j := 1) (by decide) rfl, ixSl_at rfl hlt, af_S hrd h hy (j := 2) (by decide) rfl, ixSl_at rfl hlt, af_I hrd h hy (j := 3) (by decide) rfl]
        obtain ⟨v, S2, e, rfl, L2, hc2, h2⟩ : Ok (evF E orcL (n + 5) (.fn 19) [.ptr (some (.rw b, 0)), .int .u64 y.t, .str y.r, .int .u64 y.z] S) _ := add_ok (n + 4) h hc y.t y.r y.z
        rw [callT_of e]
        refine ok_atI rfl (ok_atI rfl ?_)
        rw [hwi, callI_of (num_eq (n + 4) _ S2), callI_of (num_eq (n + 4) _ S2)]
        have hI2 := hI.add hyB.t0 hyB.t1 y.r y.z
        by_cases hE : A.addE y.t y.r = 0
        · have hV : A.addV y.t y.r = ((A.past + 1 : Nat) : Int) := by rw [CM.addV, if_pos hE]
          have hA2 : (A.add y.t y.r y.z).past = A.past + 1 := by rw [CM.add, if_pos hE]
          rw [hE, hV]
          refine ok_true rfl (ok_false (by simp; omega) (ok_true rfl ?_))
          exact again_loop n0 n hn hn0 hB hra hrl hac hall hal w4 m (i + 1) b _ _ L2 S2 (by omega) (by omega) hc2 hI2 (by omega) h2
        · have hA2 : (A.add y.t y.r y.z).past = A.past := by rw [CM.add, if_neg hE]
          have hEb : (A.addE y.t y.r == 0) = false := by simpa using hE
          refine ok_false hEb (ok_false hEb ?_)
          exact again_loop n0 n hn hn0 hB hra hrl hac hall hal w4 m (i + 1) b _ _ L2 S2 (by omega) (by omega) hc2 hI2 (by omega) h2
      · -- another act
        simp only [beq_eq_false_iff_ne, ne_eq] at c1
        rw [ixSl_at rfl hlt, hrd.elem h (arows_all acts) (arows_at hy)]
        have hyB2 : ActB X (C bp (pV last ra rs.length rc) :: F) y := ⟨hyB.t0, hyB.t1, hyB.rb, hyB.rd.mono (by intro e he; simp [he]), hyB.lr, hyB.ln, hyB.ls⟩
        obtain ⟨v, S2, e, pp, rr, b', A', L2, rfl, hc2, hI2, hpast, hk4, hk5, h2⟩ : Ok (evF E orcL (n + 5) (.fn 24) [.ptr (some (.rw b, 0)), .ptr (some (.rw bw, 0)), .agg (arow y)] S) _ := act_ok n hn h hc hI hyB2 c1 hyl
        rw [callT_of e]
        refine ok_atP rfl (ok_atB rfl ?_)
        rw [ixSl_at rfl hlt, f0 h2]
        have hl2 := hI2.len
        have rows := fun (w5 : Option Pos) (hw5 : w5 = some (.rw b', 0)) => show Ok (callL (evF E orcL (n + 5)) 25 [.ptr w5] S2 fun v43a v43l v43c S42 => J6_l1_1_1_1_1_1_0_1_0_0_1_0_0_1_1_1_1_1_0 (evF E orcL (n + 5)) n0 (J6_l1_1_1_1_1_1_0_1_0 (evF E orcL (n + 5)) n0 m) n0 aa acts.length ac (some (.rw bp, 0)) w4 w5 (some (.rw bw, 0)) g i v43a v43l v43c 1 S42) TrueQ by
          subst hw5
          obtain ⟨v, S3, e, a3, c3, L3, rfl, hs3, h3⟩ : Ok (evF E orcL (n + 5) (.fn 25) [.ptr (some (.rw b', 0))] S2) _ := list_ok (n + 3) h2 hc2 (by omega)
          rw [callL_of e]
          have rd3 := hs3.rd (X := X) (M := L3 ++ (L2 ++ (wE bw :: (C bp (pV last ra rs.length rc) :: F)))) (by intro e he; simp [he])
          refine check_rows n0 (evF E orcL (n + 5)) hI2.pw hl2 rd3 h3 ?_ n0 1 (by omega) (by omega) (by omega)
          rw [hwi]
          exact again_loop n0 n hn hn0 hB hra hrl hac hall hal w4 m (i + 1) b' A' g L2 S3 (by omega) (by omega) hc2 hI2 (by omega) h3.right
        refine ok_cond (fun c4 => ?_) (fun c4 => ?_)
        · simp only [beq_iff_eq] at c4
          have hpp := hk4 c4
          subst hpp
          exact ok_true rfl (rows _ rfl)
        · simp only [beq_eq_false_iff_ne, ne_eq] at c4
          exact rows _ (by rw [hk5 c4])
    · -- retired, and retired again
      have h' : Hp X S (L ++ (C bp (pV last ra rs.length rc) :: F)) := h.sub (List.Sublist.append_left (List.sublist_cons_self _ _) L)
      refine ok_gO (ok_ldn h' (by simp) (d := pV last ra rs.length rc) rfl ?_)
      obtain ⟨v, S2, e, a2, c2, L2, rfl, hs2, h2⟩ : Ok (evF E orcL (n + 5) (.fn 12) [.agg (pV last ra rs.length rc)] S) _ := own_ok (n + 4) h' last (hra.mono (by intro e he; simp [he])) (by omega)
      rw [callG_of (n := 2) e rfl]
      have h2' : Hp X S2 (L ++ (L2 ++ (C bp (pV last ra rs.length rc) :: F))) := h2.re (by intro p; simp only [List.countP_append, List.countP_cons, C]; omega)
      have rd2 := hs2.rd (X := X) (M := L2 ++ (C bp (pV last ra rs.length rc) :: F)) (by intro e he; simp [he])
      obtain ⟨v, S3, e, ga, gc, L3, Lg, rfl, hgg, hc3, h3⟩ : Ok (evF E orcL (n + 5) (.fn 26) [.ptr (some (.rw b, 0)), .agg [.int .i64 last, .sl a2 rs.length c2]] S2) _ := retire_ok (n + 1) (by omega) h2' hc hI hB rd2
      rw [callT_of e]
      refine ok_atL rfl (ok_atI rfl ?_)
      rw [callI_of (num_eq (n + 4) _ S3)]
      have hbq : AV.beq (.agg (pV last ra rs.length rc)) (.agg (pV last ra rs.length rc)) = true := by simp [AV.beq, AV.beqs]
      refine ok_gO (ok_ldn h3 (by simp) (d := pV last ra rs.length rc) rfl (ok_gO (ok_ldn h3 (by simp) (d := pV last ra rs.length rc) rfl (ok_true hbq ?_))))
      obtain ⟨v, S4, e, rfl, h4⟩ : Ok (evF E orcL (n + 5) (.fn 17) [.agg [.int .i64 last, .sl ra rs.length rc]] S3) _ := rcheck_ok (n + 4) (by omega) h3 last (hra.mono (by intro e he; simp [he]))
      rw [callI_of e]
      refine ok_false (by simp) ?_
      rw [callI_of (num_eq (n + 4) _ S4)]
      refine ok_cond (fun _ => live_ok (n + 4) S4) (fun c1 => ok_gO (ok_ldL h4 rfl ?_))
      have hw : wrongB last rs = false := by
        simp only [bne_eq_false_iff_eq] at c1
        unfold checkE at c1
        cases hwb : wrongB last rs with
        | false => rfl
        | true => rw [hwb] at c1; simp at c1
      have h5 : Hp X S4 (L3 ++ (C bp (pV last ra rs.length rc) :: F)) := by
        have := h4.re (M := (Lg ++ L2) ++ (L3 ++ (C bp (pV last ra rs.length rc) :: F))) (by intro p; simp only [List.countP_append, List.countP_cons, C]; omega)
        exact this.right
      have two := fun hp => again_twice (n + 1) (by omega) (bw := bw) hB hra hrl hw hc3 hI hp h5
      refine ok_cond (fun c2 => ok_gO (ok_ldn h5 (by simp) (d := pV last ra rs.length rc) rfl (two ?_))) (fun c2 => ok_gO (ok_ldL h4 rfl (ok_cond (fun c3 => ok_gO (ok_ldI h4 rfl (ok_cond (fun _ => live_ok (n + 4) S4) (fun c5 => ok_gO (ok_ldn h5 (by simp) (d := pV last ra rs.length rc) rfl (two ?_)))))) (fun _ => live_ok (n + 4) S4))))
      · left
        exact List.length_eq_zero_iff.1 (by simpa using c2)
      · right
        have c3 : ((rs.length : Nat) : Int) = 1 := by simpa using c3
        have c5 : last = 0 := by simpa using c5
        exact ⟨by omega, c5⟩

theorem again_run (n : Nat) (hn : 80000 < n) (h : Hp X S F) {last : Int} {ra : Option Pos} {rc : Cap} {rs : List (Int × Int)} (hB : RsB last rs) (hra : RdR X F ra (rrows rs).flatten) {aa : Option Pos} {ac : Cap} {acts : List Act} (hac : RdR X F aa (arows acts).flatten) (hall : ∀ y ∈ acts, ActB X F y) (hal : acts.length ≤ 1048576) :
    Ok (ev (n + 6) (.fn 6) [.sl aa acts.length ac, .agg (pV last ra rs.length rc)] S) TrueQ := by
  rw [ev, F6 _ _ _ _ _ _ (oL rfl)]
  simp only [J6, b6_entry]
  refine ok_ifO rfl (ok_newA h (fun b1 S1 h1 => ?_))
  obtain ⟨v, S2, e, r, rfl, rfl, hr⟩ : Ok (evF E orcL (n + 5) (.fn 23) [.sl aa acts.length ac] S1) _ := long_ok (n + 4) (by omega) (fun y hy => ⟨(hall y hy).lr, (hall y hy).ln, (hall y hy).ls⟩) hal (hac.mono (by intro e he; simp [he])) h1
  rw [callB_of e]
  refine ok_cond (fun _ => live_ok (n + 4) S2) (fun c1 => ?_)
  obtain ⟨r1, r2⟩ := hr c1
  refine ok_ldn h1 (by simp) (d := pV last ra rs.length rc) rfl ?_
  obtain ⟨v, S3, e, rfl, h3⟩ : Ok (evF E orcL (n + 5) (.fn 8) [.agg [.int .i64 last, .sl ra rs.length rc]] S2) _ := many_ok (n + 4) h1 last ra rs.length rc
  rw [callB_of e]
  refine ok_cond (fun _ => live_ok (n + 4) S3) (fun c2 => ?_)
  simp only [gt_iff_lt, decide_eq_false_iff_not] at c2
  obtain ⟨v, S4, e, b, L, rfl, hc, h4⟩ : Ok (evF E orcL (n + 5) (.fn 18) [] S3) _ := new_ok (n + 4) h3
  rw [callP_of e]
  refine ok_newA h4 (fun bw S5 h5 => ok_false rfl ?_)
  have h6 : Hp X S5 (L ++ (wE bw :: (C b1 (pV last ra rs.length rc) :: F))) := h5.re (by intro p; simp only [List.countP_append, List.countP_cons, C, wE]; omega)
  exact again_loop (n + 5) n hn (by omega) hB hra (by omega) hac (fun y hy => ⟨hall y hy, by have := wts_mem hy; unfold wt at this; omega⟩) r1 false (n + 5) 0 b _ 0 L S5 (by omega) (by omega) hc CInv.nil (by simp) h6

end

end Go.Ct
