/- What the functions of package catalog do with a heap: a policy checked, ticks kept. -/
import Derived.Test.YteakdhikjddogaaDoorCtA
import Derived.Test.YteakdhikjddogaaDoorCtP
set_option linter.unusedVariables false
set_option linter.unusedSimpArgs false
set_option maxRecDepth 4000
namespace Go.Ct
open Go.Gr

def rrow (r : Int × Int) : List AV := [.int .u64 r.1, .int .i64 r.2]
def rrows (l : List (Int × Int)) : List (List AV) := l.map rrow
@[simp] theorem rrows_len (l : List (Int × Int)) : (rrows l).length = l.length := by simp [rrows]
theorem rrows_all (l : List (Int × Int)) : ∀ x ∈ rrows l, x.length = 2 := fun x hx => by
  obtain ⟨s, _, rfl⟩ := List.mem_map.1 hx; rfl
theorem rrows_at {l : List (Int × Int)} {i : Nat} {s : Int × Int} (h : l[i]? = some s) : (rrows l)[i]? = some (rrow s) := by
  rw [rrows, List.getElem?_map, h]; rfl
def u64s (ts : List Int) : List AV := ts.map (AV.int .u64)
@[simp] theorem u64s_len (l : List Int) : (u64s l).length = l.length := by simp [u64s]
def brows (o : List Bool) : List (List AV) := o.map fun b => [.bool b]
@[simp] theorem brows_len (l : List Bool) : (brows l).length = l.length := by simp [brows]
theorem brows_all (l : List Bool) : ∀ x ∈ brows l, x.length = 1 := fun x hx => by
  obtain ⟨s, _, rfl⟩ := List.mem_map.1 hx; rfl
@[simp] theorem brows_flat (l : List Bool) : (brows l).flatten = l.map AV.bool := by
  induction l with
  | nil => rfl
  | cons x xs ih => simp only [brows, List.map_cons, List.flatten_cons] at ih ⊢; rw [ih]; rfl
theorem brows_append (l m : List Bool) : brows (l ++ m) = brows l ++ brows m := by simp [brows]

/-- A rule that is none; a policy that is none. -/
def bad (r : Int × Int) : Bool := decide (r.1 = 0) || decide (r.2 < 0)
def wrongB (last : Int) (rs : List (Int × Int)) : Bool := decide (last < 0) || (decide (8 < rs.length) || rs.any bad)
def checkE (last : Int) (rs : List (Int × Int)) : Int := if wrongB last rs = true then 180 else 0

/-- Boxes: of each tick, by a rule. -/
def qt (r : Int × Int) (ts : List Int) : List Int := ts.map fun t => Int.tdiv t r.1
@[simp] theorem qt_len (r : Int × Int) (ts : List Int) : (qt r ts).length = ts.length := by simp [qt]
def keepAt (last : Int) (rs : List (Int × Int)) (ts : List Int) (j : Nat) : Bool := wrongB last rs || (decide ((ts.length : Int) - j ≤ last) || rs.any fun r => ruleAt (qt r ts) r.2 j)
def keepL (last : Int) (rs : List (Int × Int)) (ts : List Int) : List Bool := (List.range ts.length).map (keepAt last rs ts)
@[simp] theorem keepL_len (last : Int) (rs : List (Int × Int)) (ts : List Int) : (keepL last rs ts).length = ts.length := by simp [keepL]

/-- Ticks that rise. -/
structure Up (ts : List Int) : Prop where
  lo : ∀ t ∈ ts, 0 ≤ t
  hi : ∀ t ∈ ts, t < 18446744073709551616
  up : ∀ (i : Nat) (a b : Int), ts[i]? = some a → ts[i + 1]? = some b → a < b
  n : ts.length ≤ 300
theorem Up.mono {ts : List Int} (h : Up ts) {i j : Nat} (hij : i ≤ j) {a b : Int} (ha : ts[i]? = some a) (hb : ts[j]? = some b) : a ≤ b := by
  induction j generalizing b with
  | zero =>
    have : i = 0 := by omega
    subst this; rw [ha] at hb; cases hb; omega
  | succ j ih =>
    by_cases h1 : i = j + 1
    · subst h1; rw [ha] at hb; cases hb; omega
    · have hlt : j < ts.length := by have := (List.getElem?_eq_some_iff.1 hb).1; omega
      obtain ⟨c, hc⟩ : ∃ c, ts[j]? = some c := ⟨_, List.getElem?_eq_getElem hlt⟩
      have := ih (by omega) hc
      have := h.up j c b hc hb
      omega
/-- Rules as they may be handed in. -/
structure RsB (last : Int) (rs : List (Int × Int)) : Prop where
  l1 : -9223372036854775808 ≤ last
  l2 : last < 9223372036854775808
  e1 : ∀ r ∈ rs, 0 ≤ r.1
  e2 : ∀ r ∈ rs, r.1 < 18446744073709551616
  c1 : ∀ r ∈ rs, -9223372036854775808 ≤ r.2
  c2 : ∀ r ∈ rs, r.2 < 9223372036854775808
theorem tdiv_lo {t d : Int} (h0 : 0 ≤ t) (hd : 0 ≤ d) : 0 ≤ Int.tdiv t d := Int.tdiv_nonneg h0 hd
theorem tdiv_le {t d : Int} (h0 : 0 ≤ t) (hd : 0 ≤ d) : Int.tdiv t d ≤ t := by
  rw [Int.tdiv_eq_ediv_of_nonneg h0]
  exact Int.ediv_le_self d h0
theorem qt_at {r : Int × Int} {ts : List Int} {i : Nat} {t : Int} (h : ts[i]? = some t) : (qt r ts)[i]? = some (Int.tdiv t r.1) := by rw [qt, List.getElem?_map, h]; rfl
theorem Up.qmono {ts : List Int} (h : Up ts) {r : Int × Int} (hr : 0 < r.1) : ∀ (i j : Nat) (a b : Int), i ≤ j → (qt r ts)[i]? = some a → (qt r ts)[j]? = some b → a ≤ b := by
  intro i j a b hij ha hb
  simp only [qt, List.getElem?_map, Option.map_eq_some_iff] at ha hb
  obtain ⟨x, hx, rfl⟩ := ha
  obtain ⟨y, hy, rfl⟩ := hb
  have hxy := h.mono hij hx hy
  have hx0 := h.lo x (List.mem_of_getElem? hx)
  rw [Int.tdiv_eq_ediv_of_nonneg hx0, Int.tdiv_eq_ediv_of_nonneg (by omega)]
  exact Int.ediv_le_ediv hr hxy

theorem rd_lp {ro : Nat → Option (List AV)} {lp lp' : List ALoop} {L : List Ent} {a : Option Pos} {cs : List AV} (h : RdR ⟨ro, lp⟩ L a cs) : RdR ⟨ro, lp'⟩ L a cs := by
  cases h with
  | nil => exact .nil
  | rw hm hl hc => exact .rw hm hl hc
  | ro hm hl hc => exact .ro hm hl hc

section
variable {X : Cx} {S : AS} {L F : List Ent} {b : Nat} {Q : AV → AS → Prop}

theorem RdR_fld {a : Option Pos} {rs : List (Int × Int)} {i j : Nat} {r : Int × Int} {p : Pos} {k : IntKind} {v : Int} {K : Int → Option (AV × AS)} (h : RdR X L (some p) (rrows rs).flatten) (hp : Hp X S L) (hi : rs[i]? = some r) (hj : j < 2) (hv : (rrow r)[j]? = some (.int k v)) : ldI k S p.1 (p.2 + i * 2 + j) K = K v := by
  rw [Nat.add_assoc]
  exact h.ldI hp (by rw [flat_get (rrows_all rs) (rrows_at hi) hj]; exact hv)

theorem rs_some {a : Option Pos} {rs : List (Int × Int)} {i : Nat} (h : RdR X L a (rrows rs).flatten) (hi : i < rs.length) : ∃ p, a = some p :=
  h.some_of (by intro he; have := congrArg List.length he; rw [flat_len (rrows_all rs), rrows_len] at this; simp at this; omega)
theorem ts_some {a : Option Pos} {ts : List Int} {i : Nat} (h : RdR X L a (u64s ts)) (hi : i < ts.length) : ∃ p, a = some p :=
  h.some_of (by intro he; have := congrArg List.length he; simp at this; rw [this] at hi; simp at hi)
theorem u64s_at {ts : List Int} {i : Nat} {t : Int} (h : ts[i]? = some t) : (u64s ts)[i]? = some (.int .u64 t) := by rw [u64s, List.getElem?_map, h]; rfl

theorem many_ok (n : Nat) (h : Hp X S F) (last : Int) (a : Option Pos) (l : Nat) (c : Cap) : Ok (ev (n + 1) (.fn 8) [.agg [.int .i64 last, .sl a l c]] S) fun v S' => v = .bool (decide ((l : Int) > 50)) ∧ Hp X S' F := by
  rw [ev, F8 _ _ _ (oL rfl)]
  simp only [J8, b8_entry]
  exact ok_ifO rfl (ok_newA h (fun b1 S1 h1 => ok_ldL h1 rfl (ok_ret ⟨rfl, h1.drop1⟩)))

/-- The slice of a policy's rules copied. -/
theorem own_ok (n : Nat) (h : Hp X S F) (last : Int) {a : Option Pos} {c : Cap} {rs : List (Int × Int)} (hr : RdR X F a (rrows rs).flatten) (hl : rs.length ≤ 65536) :
    Ok (ev (n + 1) (.fn 12) [.agg [.int .i64 last, .sl a rs.length c]] S) fun v S' => ∃ (a' : Option Pos) (c' : Cap) (L' : List Ent), v = .agg [.int .i64 last, .sl a' rs.length c'] ∧ SlR a' rs.length c' 2 (rrows rs) L' ∧ Hp X S' (L' ++ F) := by
  rw [ev, F12 _ _ _ (oL rfl)]
  simp only [J12, b12_entry]
  refine ok_ifO rfl (ok_newA h (fun b1 S1 h1 => ok_newA h1 (fun b3 S2 h2 => ok_newA h2 (fun b5 S3 h3 => ok_ldL h3 rfl ?_))))
  have hs : SlR (some (.rw b5, 0)) 0 (.ex 0) 2 [] [C b5 []] := .of (xs := []) (by simp) rfl (.inl rfl)
  have h3' : Hp X S3 ([C b5 []] ++ (C b3 [.int .i64 0, .sl none 0 (.ex 0)] :: C b1 [.int .i64 last, .sl a rs.length c] :: F)) := h3
  have hr3 : RdR X ([C b5 []] ++ (C b3 [.int .i64 0, .sl none 0 (.ex 0)] :: C b1 [.int .i64 last, .sl a rs.length c] :: F)) a (rrows rs).flatten := hr.mono (fun e he => by simp [he])
  refine ok_append h3' hs (ys := rrows rs) (rrows_all _) (by simp) (fun K => ?_) (by decide) (by simp [pow46]; omega) (by simp [pow46]; omega) (fun a4 l4 c4 S4 L4 hs4 h4 => ?_)
  · exact hr3.first h3' (sz := 2) (n := rs.length) (by rw [flat_len (rrows_all rs), rrows_len]) (by decide) (l := rs.length) (c := c) K
  · rw [List.nil_append] at hs4
    obtain rfl : l4 = rs.length := by have := hs4.len; simpa using this
    refine ok_stn h4 (by simp) (d := [.int .i64 last, .sl a4 rs.length c4]) (by simp [splice]) (fun S5 h5 => ?_)
    refine ok_ldn h5 (by simp) (d := [.int .i64 last, .sl a4 rs.length c4]) rfl (ok_ifO rfl ?_)
    refine ok_stn h5 (by simp) (d := [.int .i64 last, .sl a4 rs.length c4]) (by simp [splice]) (fun S6 h6 => ?_)
    refine ok_ldn h6 (by simp) (d := [.int .i64 last, .sl a4 rs.length c4]) rfl (ok_ret ⟨a4, c4, L4, rfl, hs4, ?_⟩)
    exact (h6.re (M := C b3 [.int .i64 last, .sl a4 rs.length c4] :: C b1 [.int .i64 last, .sl a4 rs.length c4] :: (L4 ++ F)) (by intro p; simp only [List.countP_append, List.countP_cons, C]; omega)).drop1.drop1

theorem any_cons_drop {rs : List (Int × Int)} {i : Nat} {r : Int × Int} (h : rs[i]? = some r) (f : Int × Int → Bool) : (rs.drop i).any f = (f r || (rs.drop (i + 1)).any f) := by
  obtain ⟨hlt, he⟩ := List.getElem?_eq_some_iff.1 h
  rw [List.drop_eq_getElem_cons hlt, he, List.any_cons]

theorem check_loop (n0 : Nat) (call : CallA) {a : Option Pos} {c : Cap} {rs : List (Int × Int)} (hl : rs.length ≤ 8) (w2 : Int) : ∀ (m i : Nat) (F : List Ent) (S : AS), i ≤ rs.length → rs.length - i < m → RdR X F a (rrows rs).flatten → Hp X S F →
    Ok (J16_l1_1_0_1_0 call n0 m w2 a rs.length c rs.length i S) fun v S' => v = .int .i64 (if (rs.drop i).any bad = true then 180 else 0) ∧ Hp X S' F
  | 0, i, F, S, hi, hm, hr, h => by omega
  | m + 1, i, F, S, hi, hm, hr, h => by
    rw [J16_l1_1_0_1_0_succ]
    simp only [b16_l1_1_0_1_0]
    refine ok_cond (fun hc => ?_) (fun hc => ?_)
    · simp only [decide_eq_true_eq] at hc
      have hlt : i < rs.length := by omega
      obtain ⟨r, hri⟩ : ∃ r, rs[i]? = some r := ⟨_, List.getElem?_eq_getElem hlt⟩
      obtain ⟨p, rfl⟩ := rs_some hr hlt
      rw [ixSl_at rfl hlt, hr.elem h (rrows_all rs) (rrows_at hri)]
      refine ok_newA h (fun b8 S1 h1 => ok_ifO rfl ?_)
      refine ok_stn h1 (by simp [rrow]) (d := rrow r) (by simp [splice, rrow]) (fun S2 h2 => ok_ldI h2 rfl ?_)
      rw [any_cons_drop hri]
      refine ok_cond (fun hz => ok_ret ⟨?_, h2.drop1⟩) (fun hz => ok_ldI h2 rfl (ok_cond (fun hz2 => ok_ret ⟨?_, h2.drop1⟩) (fun hz2 => ?_)))
      · simp only [beq_iff_eq] at hz
        simp [bad, hz]
      · simp only [decide_eq_true_eq] at hz2
        simp [bad, hz2]
      · simp only [beq_eq_false_iff_ne, ne_eq] at hz
        simp only [decide_eq_false_iff_not] at hz2
        have hbf : bad r = false := by simp [bad, hz]; omega
        rw [wn (x := (i : Int) + 1) (n := i + 1) (by omega) (by omega), hbf, Bool.false_or]
        refine (check_loop n0 call hl w2 m (i + 1) (C b8 (rrow r) :: F) S2 (by omega) (by omega) (hr.mono (fun e he => by simp [he])) h2).mono (fun v S' hv => ⟨hv.1, hv.2.drop1⟩)
    · simp only [decide_eq_false_iff_not] at hc
      rw [List.drop_of_length_le (by omega)]
      exact ok_ret ⟨rfl, h⟩

theorem check_ok (n : Nat) (hn : 100 < n) (h : Hp X S F) (last : Int) {a : Option Pos} {c : Cap} {rs : List (Int × Int)} (hr : RdR X F a (rrows rs).flatten) :
    Ok (ev (n + 1) (.fn 16) [.agg [.int .i64 last, .sl a rs.length c]] S) fun v S' => v = .int .i64 (checkE last rs) ∧ Hp X S' F := by
  rw [ev, F16 _ _ _ (oL rfl)]
  simp only [J16, b16_entry]
  refine ok_ifO rfl (ok_newA h (fun b1 S1 h1 => ok_ldI h1 rfl ?_))
  refine ok_cond (fun hc => ok_ret ⟨?_, h1.drop1⟩) (fun hc => ok_ldL h1 rfl (ok_cond (fun hc2 => ok_ret ⟨?_, h1.drop1⟩) (fun hc2 => ok_ldL h1 rfl ?_)))
  · simp only [decide_eq_true_eq] at hc
    simp [checkE, wrongB, hc]
  · simp only [gt_iff_lt, decide_eq_true_eq] at hc2
    simp [checkE, wrongB, show 8 < rs.length by omega]
  · simp only [gt_iff_lt, decide_eq_false_iff_not] at hc hc2
    refine (check_loop n (evF E orcL n) (by omega) 0 n 0 _ S1 (by omega) (by omega) (hr.mono (fun e he => by simp [he])) h1).mono (fun v S' hv => ⟨?_, hv.2.drop1⟩)
    rw [hv.1, List.drop_zero, checkE, wrongB]
    have e1 : decide (last < 0) = false := by simp; omega
    have e2 : decide (8 < rs.length) = false := by simp; omega
    rw [e1, e2, Bool.false_or, Bool.false_or]

theorem rcheck_loop (n0 : Nat) (call : CallA) {a : Option Pos} {c : Cap} {rs : List (Int × Int)} {last : Int} {b1 : Nat} (hl : rs.length ≤ 8) (w2 : Int) (hr : RdR X F a (rrows rs).flatten) (h : Hp X S (C b1 [.int .i64 last, .sl a rs.length c] :: F)) : ∀ (m i : Nat), i ≤ rs.length → rs.length - i < m →
    Ok (J17_l1_1_0_1_0 call n0 m (some (.rw b1, 0)) w2 i S) fun v S' => v = .int .i64 (if (rs.drop i).any bad = true then 180 else 0) ∧ S' = S
  | 0, i, hi, hm => by omega
  | m + 1, i, hi, hm => by
    rw [J17_l1_1_0_1_0_succ]
    simp only [b17_l1_1_0_1_0]
    refine ok_gO (ok_ldL h rfl (ok_cond (fun hc => ?_) (fun hc => ?_)))
    · simp only [decide_eq_true_eq] at hc
      have hlt : i < rs.length := by omega
      obtain ⟨r, hri⟩ : ∃ r, rs[i]? = some r := ⟨_, List.getElem?_eq_getElem hlt⟩
      obtain ⟨p, hp⟩ := rs_some hr hlt
      have hrm : RdR X (C b1 [.int .i64 last, .sl a rs.length c] :: F) (some p) (rrows rs).flatten := by rw [← hp]; exact hr.mono (fun e he => by simp [he])
      have ih := rcheck_loop n0 call hl w2 hr h m (i + 1) (by omega) (by omega)
      refine ok_gO (ok_ldL h rfl ?_)
      rw [hp, ixSl_at rfl hlt]
      have e0 := RdR_fld (a := a) (K := fun v10 => cond (v10 == 0) (some (AV.int .i64 180, S)) (gO (some (Bid.rw b1, 0)) fun p11 => ldL S p11.1 (p11.2 + 1) fun v12a v12l v12c => ixSl 2 v12a v12l i fun p13 => ldI .i64 S p13.1 (p13.2 + 1) fun v14 => cond (decide (v14 < 0)) (some (AV.int .i64 180, S)) (J17_l1_1_0_1_0 call n0 m (some (.rw b1, 0)) w2 (IntKind.wrap .i64 (i + 1)) S))) hrm h hri (j := 0) (by decide) rfl
      rw [Nat.add_zero] at e0
      rw [e0, any_cons_drop hri]
      refine ok_cond (fun hz => ok_ret ⟨?_, rfl⟩) (fun hz => ok_gO (ok_ldL h rfl ?_))
      · simp only [beq_iff_eq] at hz
        simp [bad, hz]
      · rw [hp, ixSl_at rfl hlt]
        rw [RdR_fld (a := a) hrm h hri (j := 1) (by decide) rfl]
        refine ok_cond (fun hz2 => ok_ret ⟨?_, rfl⟩) (fun hz2 => ?_)
        · simp only [decide_eq_true_eq] at hz2
          simp [bad, hz2]
        · simp only [beq_eq_false_iff_ne, ne_eq] at hz
          simp only [decide_eq_false_iff_not] at hz2
          have hbf : bad r = false := by simp [bad, hz]; omega
          rw [wn (x := (i : Int) + 1) (n := i + 1) (by omega) (by omega), hbf, Bool.false_or]
          exact ih
    · simp only [decide_eq_false_iff_not] at hc
      rw [List.drop_of_length_le (by omega)]
      exact ok_ret ⟨rfl, rfl⟩

theorem rcheck_ok (n : Nat) (hn : 100 < n) (h : Hp X S F) (last : Int) {a : Option Pos} {c : Cap} {rs : List (Int × Int)} (hr : RdR X F a (rrows rs).flatten) :
    Ok (ev (n + 1) (.fn 17) [.agg [.int .i64 last, .sl a rs.length c]] S) fun v S' => v = .int .i64 (checkE last rs) ∧ Hp X S' F := by
  rw [ev, F17 _ _ _ (oL rfl)]
  simp only [J17, b17_entry]
  refine ok_ifO rfl (ok_newA h (fun b1 S1 h1 => ok_ldI h1 rfl ?_))
  refine ok_cond (fun hc => ok_ret ⟨?_, h1.drop1⟩) (fun hc => ok_ldL h1 rfl (ok_cond (fun hc2 => ok_ret ⟨?_, h1.drop1⟩) (fun hc2 => ?_)))
  · simp only [decide_eq_true_eq] at hc
    simp [checkE, wrongB, hc]
  · simp only [gt_iff_lt, decide_eq_true_eq] at hc2
    simp [checkE, wrongB, show 8 < rs.length by omega]
  · simp only [gt_iff_lt, decide_eq_false_iff_not] at hc hc2
    refine (rcheck_loop n (evF E orcL n) (by omega) 0 hr h1 n 0 (by omega) (by omega)).mono (fun v S' hv => ⟨?_, by rw [hv.2]; exact h1.drop1⟩)
    rw [hv.1, List.drop_zero, checkE, wrongB]
    have e1 : decide (last < 0) = false := by simp; omega
    have e2 : decide (8 < rs.length) = false := by simp; omega
    rw [e1, e2, Bool.false_or, Bool.false_or]

theorem rises_loop (n0 : Nat) (call : CallA) {a : Option Pos} {c : Cap} {ts : List Int} (hl : ts.length ≤ 300) (hr : RdR X F a (u64s ts)) (h : Hp X S F) (w2 : Bool) : ∀ (m i : Nat), 1 ≤ i → i ≤ ts.length + 1 → ts.length + 1 - i < m → (∀ (k : Nat) (x y : Int), k + 1 < i → ts[k]? = some x → ts[k + 1]? = some y → x < y) →
    Ok (J9_l1_0_1_0 call n0 m a ts.length c w2 i S) fun v S' => ∃ r : Bool, v = .bool r ∧ S' = S ∧ (r = true → ∀ (k : Nat) (x y : Int), ts[k]? = some x → ts[k + 1]? = some y → x < y)
  | 0, i, h1, hi, hm, hk => by omega
  | m + 1, i, h1, hi, hm, hk => by
    rw [J9_l1_0_1_0_succ]
    simp only [b9_l1_0_1_0]
    refine ok_cond (fun hc => ?_) (fun hc => ?_)
    · simp only [decide_eq_true_eq] at hc
      have hlt : i < ts.length := by omega
      obtain ⟨x, hx⟩ : ∃ x, ts[i]? = some x := ⟨_, List.getElem?_eq_getElem hlt⟩
      obtain ⟨y, hy⟩ : ∃ y, ts[i - 1]? = some y := ⟨_, List.getElem?_eq_getElem (by omega)⟩
      obtain ⟨p, rfl⟩ := ts_some hr hlt
      rw [ixSl_at rfl hlt]
      simp only [Nat.mul_one]
      rw [hr.ldI h (u64s_at hx)]
      rw [ixSl_at (k := i - 1) (by rw [wrap64 (by omega) (by omega)]; omega) (by omega)]
      simp only [Nat.mul_one]
      rw [hr.ldI h (u64s_at hy)]
      refine ok_cond (fun hz => ok_ret ⟨false, rfl, rfl, by simp⟩) (fun hz => ?_)
      simp only [decide_eq_false_iff_not] at hz
      rw [wn (x := (i : Int) + 1) (n := i + 1) (by omega) (by omega)]
      refine rises_loop n0 call hl hr h w2 m (i + 1) (by omega) (by omega) (by omega) (fun k x' y' hk1 e1 e2 => ?_)
      by_cases hki : k + 1 < i
      · exact hk k x' y' hki e1 e2
      · have e3 : k = i - 1 := by omega
        subst e3
        rw [hy] at e1
        rw [show i - 1 + 1 = i by omega, hx] at e2
        cases e1; cases e2; omega
    · simp only [decide_eq_false_iff_not] at hc
      exact ok_ret ⟨true, rfl, rfl, fun _ k x y e1 e2 => hk k x y (by have := (List.getElem?_eq_some_iff.1 e2).1; omega) e1 e2⟩

theorem rises_ok (n : Nat) (hn : 1000 < n) (h : Hp X S F) {a : Option Pos} {c : Cap} {ts : List Int} (hl : ts.length ≤ 300) (hr : RdR X F a (u64s ts)) :
    Ok (ev (n + 1) (.fn 9) [.sl a ts.length c] S) fun v S' => ∃ r : Bool, v = .bool r ∧ S' = S ∧ (r = true → ∀ (k : Nat) (x y : Int), ts[k]? = some x → ts[k + 1]? = some y → x < y) := by
  rw [ev, F9 _ _ _ _ _ (oL rfl)]
  simp only [J9, b9_entry]
  exact rises_loop n (evF E orcL n) hl hr h false n 1 (by omega) (by omega) (by omega) (fun k x y hk => by omega)

end

end Go.Ct
