/- What the document's functions do with a heap: ticks kept, place by place; lists of bools compared. -/
import Derived.Test.YteakdhikjddogaaDoorCtL
set_option linter.unusedVariables false
set_option linter.unusedSimpArgs false
set_option maxRecDepth 4000
namespace Go.Ct
open Go.Gr

theorem rd_ldB {X : Cx} {S : AS} {L : List Ent} {p : Pos} {cs : List AV} (h : RdR X L (some p) cs) (hp : Hp X S L) {i : Nat} {v : Bool} (hi : cs[i]? = some (.bool v)) {K : Bool → Option (AV × AS)} : Go.Gr.ldB S p.1 (p.2 + i) K = K v := by
  have hlt : i < cs.length := (List.getElem?_eq_some_iff.1 hi).1
  cases h with
  | rw hm hl hc =>
    rename_i b0 i0 c0
    have e : c0[i0 + i]? = some (.bool v) := by rw [← hi, ← hc, List.getElem?_take_of_lt (by omega), List.getElem?_drop]
    simp only [Go.Gr.ldB, AS.ld, AS.blk, hp.got _ _ hm, e, gB]
  | ro hm hl hc =>
    rename_i b0 i0 c0
    have e : c0[i0 + i]? = some (.bool v) := by rw [← hi, ← hc, List.getElem?_take_of_lt (by omega), List.getElem?_drop]
    simp only [Go.Gr.ldB, AS.ld, AS.blk, hp.ro, hm, e, gB]

theorem bool_at {l : List Bool} {i : Nat} {v : Bool} (h : l[i]? = some v) : (l.map AV.bool)[i]? = some (.bool v) := by rw [List.getElem?_map, h]; rfl

section
variable {X : Cx} {S : AS} {L F : List Ent} {b : Nat} {Q : AV → AS → Prop}

theorem bl_some {a : Option Pos} {o : List Bool} {i : Nat} (h : RdR X L a (o.map AV.bool)) (hi : i < o.length) : ∃ p, a = some p :=
  h.some_of (by intro he; have := congrArg List.length he; simp at this; rw [this] at hi; simp at hi)

theorem bools_loop (n0 : Nat) (call : CallA) {a a2 : Option Pos} {c c2 : Cap} {o o2 : List Bool} (w4 : Bool) (hl : o2.length = o.length) (ho : o.length ≤ 70000) (h : Hp X S L) (hr : RdR X L a (o.map AV.bool)) (hr2 : RdR X L a2 (o2.map AV.bool)) :
    ∀ (m i : Nat), i ≤ o.length → o.length - i < m → o.take i = o2.take i → J13_l1_1_0_1_0 call n0 m a o.length c a2 o2.length c2 w4 i S = some (.bool (decide (o = o2)), S)
  | 0, i, hi, hm, he => by omega
  | m + 1, i, hi, hm, he => by
    apply ok_eq
    rw [J13_l1_1_0_1_0_succ]
    simp only [b13_l1_1_0_1_0]
    refine ok_cond (fun hc => ?_) (fun hc => ok_ret ⟨?_, rfl⟩)
    · simp only [decide_eq_true_eq] at hc
      have hlt : i < o.length := by omega
      obtain ⟨p, rfl⟩ := bl_some hr hlt
      obtain ⟨p2, rfl⟩ := bl_some hr2 (show i < o2.length by omega)
      rw [ixSl_at rfl hlt]
      simp only [Nat.mul_one]
      rw [rd_ldB hr h (bool_at (List.getElem?_eq_getElem hlt))]
      rw [ixSl_at rfl (show i < o2.length by omega)]
      simp only [Nat.mul_one]
      rw [rd_ldB hr2 h (bool_at (List.getElem?_eq_getElem (show i < o2.length by omega)))]
      refine ok_cond (fun hne => ok_ret ⟨?_, rfl⟩) (fun heq => ?_)
      · have : o ≠ o2 := by rintro rfl; simp at hne
        simp [this]
      · rw [wn (x := (i : Int) + 1) (n := i + 1) (by omega) (by omega)]
        have := bools_loop n0 call (c := c) (c2 := c2) w4 hl ho h hr hr2 m (i + 1) (by omega) (by omega) (by
          rw [List.take_add_one, List.take_add_one, he, List.getElem?_eq_getElem hlt, List.getElem?_eq_getElem (show i < o2.length by omega)]
          simp at heq
          rw [heq])
        rw [this]
        exact ok_ret ⟨rfl, rfl⟩
    · simp only [decide_eq_false_iff_not] at hc
      have hi2 : i = o.length := by omega
      subst hi2
      rw [List.take_length, ← hl, List.take_length] at he
      simp [he]

theorem bools_eq (n : Nat) (hn : 70000 < n) {a a2 : Option Pos} {c c2 : Cap} {o o2 : List Bool} (ho : o.length ≤ 65536) (h : Hp X S L) (hr : RdR X L a (o.map AV.bool)) (hr2 : RdR X L a2 (o2.map AV.bool)) :
    ev (n + 1) (.fn 13) [.sl a o.length c, .sl a2 o2.length c2] S = some (.bool (decide (o = o2)), S) := by
  apply ok_eq
  rw [ev, F13 _ _ _ _ _ _ _ _ (oL rfl)]
  simp only [J13, b13_entry]
  refine ok_cond (fun hc => ok_ret ⟨?_, rfl⟩) (fun hc => ?_)
  · have : o ≠ o2 := by rintro rfl; simp at hc
    simp [this]
  · have hl : o2.length = o.length := by simp at hc; omega
    have := bools_loop n (evF E orcL n) (c := c) (c2 := c2) false hl (by omega) h hr hr2 n 0 (by omega) (by omega) (by simp)
    rw [show ((0 : Nat) : Int) = 0 from rfl] at this
    rw [this]
    exact ok_ret ⟨rfl, rfl⟩

theorem chg_drop {qs : List Int} {k : Nat} {x y : Int} (hk : 1 ≤ k) (hx : qs[k - 1]? = some x) (hy : qs[k]? = some y) : chg (qs.drop (k - 1)) = (if x ≠ y then 1 else 0) + chg (qs.drop k) := by
  obtain ⟨h1, e1⟩ := List.getElem?_eq_some_iff.1 hx
  obtain ⟨h2, e2⟩ := List.getElem?_eq_some_iff.1 hy
  rw [List.drop_eq_getElem_cons h1, e1, show k - 1 + 1 = k by omega, List.drop_eq_getElem_cons h2, e2]
  rfl
theorem chg_last {qs : List Int} {k : Nat} (hk : qs.length ≤ k + 1) : chg (qs.drop k) = 0 := by
  by_cases h : k < qs.length
  · rw [List.drop_eq_getElem_cons h, List.drop_of_length_le (by omega)]; rfl
  · rw [List.drop_of_length_le (by omega)]; rfl

theorem rule_loop (n0 : Nat) (call : CallA) {r : Int × Int} (hr0 : 0 < r.1) {ta : Option Pos} {tc : Cap} {ts : List Int} (hup : Up ts) (hta : RdR X F ta (u64s ts)) {b1 : Nat} (h : Hp X S (C b1 (rrow r) :: F)) :
    ∀ (m k : Nat) (w8 : Nat), 1 ≤ k → k ≤ ts.length → ts.length - k < m → w8 ≤ k →
      Ok (J35_l1_1_1_1_0_1_0 call n0 m ta ts.length tc (some (.rw b1, 0)) w8 k S) fun v S' => v = .bool (decide (((w8 + chg ((qt r ts).drop (k - 1)) : Nat) : Int) < r.2)) ∧ S' = S
  | 0, k, w8, h1, hk, hm, hw => by omega
  | m + 1, k, w8, h1, hk, hm, hw => by
    have hlen := hup.n
    rw [J35_l1_1_1_1_0_1_0_succ]
    simp only [b35_l1_1_1_1_0_1_0]
    refine ok_cond (fun hc => ?_) (fun hc => ?_)
    · simp only [decide_eq_true_eq] at hc
      have hlt : k < ts.length := by omega
      obtain ⟨x, hx⟩ : ∃ x, ts[k - 1]? = some x := ⟨_, List.getElem?_eq_getElem (by omega)⟩
      obtain ⟨y, hy⟩ : ∃ y, ts[k]? = some y := ⟨_, List.getElem?_eq_getElem hlt⟩
      have bx := hup.lo x (List.mem_of_getElem? hx)
      have bx2 := hup.hi x (List.mem_of_getElem? hx)
      have by1 := hup.lo y (List.mem_of_getElem? hy)
      have by2 := hup.hi y (List.mem_of_getElem? hy)
      obtain ⟨p, hp⟩ := ts_some hta hlt
      have hrm : RdR X (C b1 (rrow r) :: F) (some p) (u64s ts) := by rw [← hp]; exact hta.mono (fun e he => by simp [he])
      rw [hp, ixSl_at rfl hlt]
      simp only [Nat.mul_one]
      rw [hrm.ldI h (u64s_at hy)]
      refine ok_gO (ok_ldI h rfl (ok_nz (by omega) ?_))
      rw [ixSl_at (k := k - 1) (by rw [wrap64 (by omega) (by omega)]; omega) (by omega)]
      simp only [Nat.mul_one]
      rw [hrm.ldI h (u64s_at hx)]
      refine ok_gO (ok_ldI h rfl (ok_nz (by omega) ?_))
      have q1 := tdiv_lo (d := r.1) bx (by omega)
      have q2 := tdiv_le (d := r.1) bx (by omega)
      have q3 := tdiv_lo (d := r.1) by1 (by omega)
      have q4 := tdiv_le (d := r.1) by1 (by omega)
      rw [wu64 q1 (by omega), wu64 q3 (by omega), wn (x := (k : Int) + 1) (n := k + 1) (by omega) (by omega), wn (x := (w8 : Int) + 1) (n := w8 + 1) (by omega) (by omega), ← hp]
      have hch := chg_drop (qs := qt r ts) h1 (qt_at hx) (qt_at hy)
      refine ok_cond (fun hne => ?_) (fun heq => ?_)
      · simp only [bne_iff_ne, ne_eq] at hne
        refine (rule_loop n0 call hr0 hup hta h m (k + 1) (w8 + 1) (by omega) (by omega) (by omega) (by omega)).mono (fun v S' hv => ⟨?_, hv.2⟩)
        rw [hv.1, hch, if_pos (fun e => hne e.symm), Nat.add_sub_cancel, ← Nat.add_assoc]
      · simp only [bne_eq_false_iff_eq] at heq
        refine (rule_loop n0 call hr0 hup hta h m (k + 1) w8 (by omega) (by omega) (by omega) (by omega)).mono (fun v S' hv => ⟨?_, hv.2⟩)
        rw [hv.1, hch, if_neg (fun e => e heq.symm), Nat.add_sub_cancel, Nat.zero_add]
    · simp only [decide_eq_false_iff_not] at hc
      refine ok_gO (ok_ldI h rfl (ok_ret ⟨?_, rfl⟩))
      rw [chg_last (by simp; omega), Nat.add_zero]

theorem rule_ok (n : Nat) (hn : 1000 < n) (h : Hp X S F) {r : Int × Int} (hr0 : 0 < r.1) {ta : Option Pos} {tc : Cap} {ts : List Int} (hup : Up ts) (hta : RdR X F ta (u64s ts)) {i : Nat} (hi : i < ts.length) :
    Ok (ev (n + 1) (.fn 35) [.agg (rrow r), .sl ta ts.length tc, .int .i64 i] S) fun v S' => v = .bool (ruleAt (qt r ts) r.2 i) ∧ Hp X S' F := by
  have hlen := hup.n
  rw [ev, F35 _ _ _ _ _ _ _ (oL rfl)]
  simp only [J35, b35_entry]
  refine ok_ifO rfl (ok_newA h (fun b1 S1 h1 => ?_))
  obtain ⟨x, hx⟩ : ∃ x, ts[i]? = some x := ⟨_, List.getElem?_eq_getElem hi⟩
  have bx := hup.lo x (List.mem_of_getElem? hx)
  have bx2 := hup.hi x (List.mem_of_getElem? hx)
  obtain ⟨p, hp⟩ := ts_some hta hi
  have hrm : RdR X (C b1 (rrow r) :: F) (some p) (u64s ts) := by rw [← hp]; exact hta.mono (fun e he => by simp [he])
  have fin : ∀ v : AV, (∀ b, (qt r ts)[i + 1]? = some b → (qt r ts)[i]? ≠ some b) → v = .bool (decide (((0 + chg ((qt r ts).drop (i + 1 - 1)) : Nat) : Int) < r.2)) → v = .bool (ruleAt (qt r ts) r.2 i) := by
    rintro v hd rfl
    have : decide (∀ b, (qt r ts)[i + 1]? = some b → (qt r ts)[i]? ≠ some b) = true := by simpa using hd
    rw [ruleAt, this, Bool.true_and, Nat.zero_add, Nat.add_sub_cancel]
  rw [hp, ixSl_at rfl hi]
  simp only [Nat.mul_one]
  rw [hrm.ldI h1 (u64s_at hx)]
  refine ok_ldI h1 rfl (ok_nz (by omega) ?_)
  rw [wn (x := (i : Int) + 1) (n := i + 1) (by omega) (by omega)]
  refine ok_cond (fun hc => ?_) (fun hc => ?_)
  · simp only [decide_eq_true_eq] at hc
    have hlt : i + 1 < ts.length := by omega
    obtain ⟨y, hy⟩ : ∃ y, ts[i + 1]? = some y := ⟨_, List.getElem?_eq_getElem hlt⟩
    have by1 := hup.lo y (List.mem_of_getElem? hy)
    have by2 := hup.hi y (List.mem_of_getElem? hy)
    rw [ixSl_at rfl hlt]
    simp only [Nat.mul_one]
    rw [hrm.ldI h1 (u64s_at hy)]
    refine ok_ldI h1 rfl (ok_nz (by omega) ?_)
    have q1 := tdiv_lo (d := r.1) bx (by omega)
    have q2 := tdiv_le (d := r.1) bx (by omega)
    have q3 := tdiv_lo (d := r.1) by1 (by omega)
    have q4 := tdiv_le (d := r.1) by1 (by omega)
    rw [wu64 q1 (by omega), wu64 q3 (by omega)]
    refine ok_cond (fun he => ok_ret ⟨?_, h1.drop1⟩) (fun he => ?_)
    · simp only [beq_iff_eq] at he
      have : decide (∀ b, (qt r ts)[i + 1]? = some b → (qt r ts)[i]? ≠ some b) = false := by
        simp only [decide_eq_false_iff_not]
        intro hd
        exact hd _ (qt_at hy) (by rw [qt_at hx, he])
      rw [ruleAt, this, Bool.false_and]
    · simp only [beq_eq_false_iff_ne, ne_eq] at he
      rw [← hp]
      refine (rule_loop n (evF E orcL n) hr0 hup hta h1 n (i + 1) 0 (by omega) (by omega) (by omega) (by omega)).mono (fun v S' hv => ⟨fin v (fun b hb hb2 => ?_) hv.1, by rw [hv.2]; exact h1.drop1⟩)
      rw [qt_at hy] at hb
      rw [qt_at hx] at hb2
      exact he (Option.some.inj (hb.trans hb2.symm))
  · simp only [decide_eq_false_iff_not] at hc
    rw [← hp]
    refine (rule_loop n (evF E orcL n) hr0 hup hta h1 n (i + 1) 0 (by omega) (by omega) (by omega) (by omega)).mono (fun v S' hv => ⟨fin v (fun b hb => ?_) hv.1, by rw [hv.2]; exact h1.drop1⟩)
    rw [List.getElem?_eq_none (by simp; omega)] at hb
    cases hb

abbrev RKeepQ (X : Cx) (F : List Ent) (o : List Bool) : AV → AS → Prop := fun v S' => ∃ (a : Option Pos) (c : Cap) (L' : List Ent), v = .sl a o.length c ∧ SlR a o.length c 1 (brows o) L' ∧ Hp X S' (L' ++ F)

theorem rkeep_inner (n0 n : Nat) (hn : 1000 < n) {last : Int} {ra : Option Pos} {rc : Cap} {rs : List (Int × Int)} (hrs : wrongB last rs = false → ∀ r ∈ rs, 0 < r.1) (hra : RdR X F ra (rrows rs).flatten) (hrl : rs.length ≤ 50) {ta : Option Pos} {tc : Cap} {ts : List Int} (hup : Up ts) (hta : RdR X F ta (u64s ts)) {b1 : Nat} {outer : Option Pos → Nat → Cap → Option Pos → Option Pos → Nat → Cap → Bool → Int → AS → Option (AV × AS)}
    {i : Nat} (hi : i < ts.length) {o : List Bool} (ho : o.length = i) {a : Option Pos} {c : Cap} {Ls : List Ent} (hs : SlR a o.length c 1 (brows o) Ls)
    (ht : ∀ (a' : Option Pos) (c' : Cap) (L' : List Ent) (S' : AS), SlR a' (o.length + 1) c' 1 (brows (o ++ [keepAt last rs ts i])) L' → Hp X S' (L' ++ (C b1 [.int .i64 last, .sl ra rs.length rc] :: F)) → Ok (outer ta ts.length tc (some (.rw b1, 0)) a' (o.length + 1) c' (wrongB last rs) ((i + 1 : Nat) : Int) S') Q) :
    ∀ (m k : Nat) (kept : Bool) (S : AS), k ≤ rs.length → rs.length - k < m → (wrongB last rs = true → kept = true) → keepAt last rs ts i = (kept || (!wrongB last rs && (rs.drop k).any fun r => ruleAt (qt r ts) r.2 i)) → Hp X S (Ls ++ (C b1 [.int .i64 last, .sl ra rs.length rc] :: F)) →
      Ok (J14_l1_1_1_0_1_0_0_1_0_0_1_0_1_0 (evF E orcL (n + 1)) n0 outer m ta ts.length tc (some (.rw b1, 0)) a o.length c (wrongB last rs) i kept k S) Q
  | 0, k, kept, S, hk, hm, hw, hf, h => by omega
  | m + 1, k, kept, S, hk, hm, hw, hf, h => by
    have hlen := hup.n
    rw [J14_l1_1_1_0_1_0_0_1_0_0_1_0_1_0_succ]
    simp only [b14_l1_1_1_0_1_0_0_1_0_0_1_0_1_0]
    have app : keepAt last rs ts i = kept → Ok (newA S (.cells [.bool kept]) fun b16 S17 => appendA 1 1 S17 a o.length c 1 (firstA S17 1 1 (.sl (some (.rw b16, 0)) 1 (.ex 1))) fun v18a v18l v18c S19 => outer ta ts.length tc (some (.rw b1, 0)) v18a v18l v18c (wrongB last rs) (IntKind.wrap .i64 (i + 1)) S19) Q := by
      intro he
      refine ok_newA h (fun b5 S6 h6 => ?_)
      have h7 := h6.re (M := Ls ++ (C b5 [.bool kept] :: (C b1 [.int .i64 last, .sl ra rs.length rc] :: F))) (by intro p; simp only [List.countP_append, List.countP_cons, C]; omega)
      refine ok_append h7 hs (ys := brows [kept]) (brows_all _) rfl (fun K => ?_) (by decide) (by simp [pow46]; omega) (by simp [pow46]; omega) (fun a3 l3 c3 S3 L3 ht' h3 => ?_)
      · have := RdR.first (.rw (X := X) (b := b5) (i := 0) (c := [.bool kept]) (cs := [.bool kept]) (L := _) (List.mem_append_right Ls List.mem_cons_self) (by simp) rfl) h7 (sz := 1) (n := 1) rfl (by decide) (l := 1) (c := .ex 1) K
        simpa using this
      · rw [← brows_append] at ht'
        obtain rfl : l3 = o.length + 1 := by have := ht'.len; simpa using this
        rw [wn (x := (i : Int) + 1) (n := i + 1) (by omega) (by omega)]
        exact ht a3 c3 L3 S3 (by rw [he]; exact ht') (h3.re (M := C b5 [.bool kept] :: (L3 ++ (C b1 [.int .i64 last, .sl ra rs.length rc] :: F))) (by intro p; simp only [List.countP_append, List.countP_cons, C]; omega)).drop1
    refine ok_gO (ok_ldL h rfl (ok_cond (fun hc => ?_) (fun hc => ?_)))
    · simp only [decide_eq_true_eq] at hc
      have hlt : k < rs.length := by omega
      obtain ⟨r, hri⟩ : ∃ r, rs[k]? = some r := ⟨_, List.getElem?_eq_getElem hlt⟩
      refine ok_cond (fun hw2 => ?_) (fun hw2 => app ?_)
      · simp only [Bool.not_eq_true'] at hw2
        have next : ∀ (x : Bool) (S : AS), x = (kept || ruleAt (qt r ts) r.2 i) → Hp X S (Ls ++ (C b1 [.int .i64 last, .sl ra rs.length rc] :: F)) → Ok (J14_l1_1_1_0_1_0_0_1_0_0_1_0_1_0 (evF E orcL (n + 1)) n0 outer m ta ts.length tc (some (.rw b1, 0)) a o.length c (wrongB last rs) i x (IntKind.wrap .i64 (k + 1)) S) Q := by
          intro x S hx h1
          rw [wn (x := (k : Int) + 1) (n := k + 1) (by omega) (by omega)]
          refine rkeep_inner n0 n hn hrs hra hrl hup hta hi ho hs ht m (k + 1) x S (by omega) (by omega) (fun e => by rw [hw2] at e; cases e) ?_ h1
          rw [hf, hw2, hx]
          simp only [Bool.not_false, Bool.true_and]
          exact any_drop_cons hri _ _
        refine ok_cond (fun hk1 => next true S (by rw [hk1]; rfl) h) (fun hk1 => ok_gO (ok_ldL h rfl ?_))
        obtain ⟨p, hp⟩ := rs_some hra hlt
        have hrm : RdR X (Ls ++ (C b1 [.int .i64 last, .sl ra rs.length rc] :: F)) (some p) (rrows rs).flatten := by rw [← hp]; exact hra.mono (fun e he => by simp [he])
        rw [show ixSl 2 ra rs.length (k : Int) = ixSl 2 (some p) rs.length (k : Int) by rw [hp]]
        rw [ixSl_at rfl hlt, hrm.elem h (rrows_all rs) (rrows_at hri)]
        obtain ⟨v, S1, e, rfl, h1⟩ := rule_ok n hn h (hrs hw2 r (List.mem_of_getElem? hri)) hup (hta.mono (fun e he => by simp [he])) (tc := tc) hi
        rw [callB_of e]
        exact next _ S1 (by rw [hk1]; rfl) h1
      · simp only [Bool.not_eq_false'] at hw2
        rw [hf, hw2, hw hw2]; rfl
    · simp only [decide_eq_false_iff_not] at hc
      refine app ?_
      rw [hf, List.drop_of_length_le (by omega)]
      simp

theorem rkeep_outer (n0 n : Nat) (hn : 1000 < n) (hn0 : 1000 < n0) {last : Int} {ra : Option Pos} {rc : Cap} {rs : List (Int × Int)} (hB : RsB last rs) (hra : RdR X F ra (rrows rs).flatten) (hrl : rs.length ≤ 50) {ta : Option Pos} {tc : Cap} {ts : List Int} (hup : Up ts) (hta : RdR X F ta (u64s ts)) {b1 : Nat} :
    ∀ (m i : Nat) (o : List Bool) (a : Option Pos) (c : Cap) (Ls : List Ent) (S : AS), i ≤ ts.length → ts.length - i < m → o = (List.range i).map (keepAt last rs ts) → SlR a o.length c 1 (brows o) Ls → Hp X S (Ls ++ (C b1 [.int .i64 last, .sl ra rs.length rc] :: F)) →
      Ok (J14_l1_1_1_0_1_0 (evF E orcL (n + 1)) n0 m ta ts.length tc (some (.rw b1, 0)) a o.length c (wrongB last rs) i S) (RKeepQ X F (keepL last rs ts))
  | 0, i, o, a, c, Ls, S, hi, hm, ho, hs, h => by omega
  | m + 1, i, o, a, c, Ls, S, hi, hm, ho, hs, h => by
    have hlen := hup.n
    have hol : o.length = i := by rw [ho]; simp
    rw [J14_l1_1_1_0_1_0_succ]
    simp only [b14_l1_1_1_0_1_0]
    refine ok_cond (fun hc => ?_) (fun hc => ?_)
    · simp only [decide_eq_true_eq] at hc
      have hlt : i < ts.length := by omega
      have hpos : wrongB last rs = false → ∀ r ∈ rs, 0 < r.1 := fun hw r hr => by
        have := hB.e1 r hr
        have := ((wrong_false hw).2.2 r hr).1
        omega
      have inner := fun (kept : Bool) (hw : wrongB last rs = true → kept = true) (hf : keepAt last rs ts i = (kept || (!wrongB last rs && (rs.drop 0).any fun r => ruleAt (qt r ts) r.2 i))) =>
        rkeep_inner n0 n hn hpos hra hrl hup hta (tc := tc) (rc := rc) (outer := J14_l1_1_1_0_1_0 (evF E orcL (n + 1)) n0 m) hlt hol hs (Q := RKeepQ X F (keepL last rs ts)) (fun a' c' L' S' hs' h' => by
          have e : o.length + 1 = (o ++ [keepAt last rs ts i]).length := by simp
          rw [e] at hs' ⊢
          exact rkeep_outer n0 n hn hn0 hB hra hrl hup hta m (i + 1) _ a' c' L' S' (by omega) (by omega) (by rw [ho, List.range_succ, List.map_append]; rfl) hs' h') n0 0 kept S (by omega) (by omega) hw hf h
      refine ok_cond (fun hw => ?_) (fun hw => ok_gO (ok_ldI h rfl ?_))
      · exact inner true (fun _ => rfl) (by rw [keepAt, hw]; rfl)
      · have hl0 := (wrong_false hw).1
        have hl2 := hB.l2
        refine inner _ (fun e => by rw [hw] at e; cases e) ?_
        rw [keepAt, hw, wrap64 (by omega) (by omega), List.drop_zero]
        simp
    · simp only [decide_eq_false_iff_not] at hc
      obtain rfl : i = ts.length := by omega
      have : o = keepL last rs ts := ho
      subst this
      exact ok_ret ⟨a, c, Ls, rfl, hs, h.sub (List.Sublist.append_left (List.sublist_cons_self _ _) Ls)⟩

theorem rkeep_ok (n : Nat) (hn : 1000 < n) (h : Hp X S F) {last : Int} {ra : Option Pos} {rc : Cap} {rs : List (Int × Int)} (hB : RsB last rs) (hra : RdR X F ra (rrows rs).flatten) (hrl : rs.length ≤ 50) {ta : Option Pos} {tc : Cap} {ts : List Int} (hup : Up ts) (hta : RdR X F ta (u64s ts)) :
    Ok (ev (n + 2) (.fn 14) [.agg [.int .i64 last, .sl ra rs.length rc], .sl ta ts.length tc] S) (RKeepQ X F (keepL last rs ts)) := by
  rw [ev, F14 _ _ _ _ _ _ (oL rfl)]
  simp only [J14, b14_entry]
  refine ok_ifO rfl (ok_newA h (fun b1 S1 h1 => ?_))
  refine ok_ldn h1 (by simp) (d := [.int .i64 last, .sl ra rs.length rc]) rfl ?_
  obtain ⟨v, S2, e, rfl, h2⟩ : Ok (evF E orcL (n + 1) (.fn 17) [.agg [.int .i64 last, .sl ra rs.length rc]] S1) _ := rcheck_ok n (by omega) h1 last (hra.mono (fun e he => by simp [he]))
  rw [callI_of e]
  have hwr : (checkE last rs != 0) = wrongB last rs := by
    unfold checkE
    cases wrongB last rs <;> rfl
  rw [hwr]
  exact rkeep_outer (n + 1) n hn (by omega) hB hra hrl hup hta (n + 1) 0 [] none (.ex 0) [] S2 (by omega) (by have := hup.n; omega) rfl .nil h2

end

end Go.Ct
