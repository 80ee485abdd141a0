/- What the functions of package alloc do with a heap: the lists of a transaction, cloned. -/
import Derived.Test.YtjninokocidaaaaAlJ
set_option linter.unusedVariables false
set_option linter.unusedSimpArgs false
set_option maxRecDepth 4000
namespace Go.Al
open Go.Gr

section
variable {X : Cx} {S : AS} {L F : List Ent} {b : Nat} {A : AM} {Q : AV → AS → Prop}

abbrev CloneQ (X : Cx) (L : List Ent) (t : List Nat) : AV → AS → Prop := fun v S' => ∃ (a' : Option Pos) (c' : Cap) (Ld : List Ent), v = .sl a' t.length c' ∧ SlR a' t.length c' 1 (ins .i64 t) Ld ∧ Hp X S' (Ld ++ L)

theorem clone_ok (n : Nat) (h : Hp X S L) {t : List Nat} {a : Option Pos} {c : Cap} (hr : RdR X L a (row .i64 t)) (hl : t.length ≤ 65536) : Ok (ev (n + 1) (.fn 46) [.sl a t.length c] S) (CloneQ X L t) := by
  rw [ev, F46 _ _ _ _ _ (oL rfl)]
  simp only [J46, b46_entry]
  cases a with
  | none =>
    have ht : t = [] := by
      by_cases hn : row .i64 t = []
      · exact List.length_eq_zero_iff.1 (by have := congrArg List.length hn; simpa using this)
      · obtain ⟨p, hp⟩ := hr.some_of hn; cases hp
    subst ht
    exact ok_true rfl (ok_ret ⟨none, .ex 0, [], rfl, .nil, h⟩)
  | some p =>
    refine ok_false rfl (ok_newA h (fun b1 S1 h1 => ?_))
    have hs : SlR (some (.rw b1, 0)) 0 (.ex 0) 1 [] [C b1 []] := .of (xs := []) (by simp) rfl (.inl rfl)
    have h1' : Hp X S1 ([C b1 []] ++ L) := h1
    have hr1 : RdR X ([C b1 []] ++ L) (some p) (row .i64 t) := hr.mono (fun e he => by simp [he])
    refine ok_append h1' hs (ys := ins .i64 t) (ins_all _ _) (by simp) (fun K => ?_) (by decide) (by simp [pow46]; omega) (by simp [pow46]; omega) (fun a3 l3 c3 S3 L3 ht' h3 => ?_)
    · have := hr1.first h1' (sz := 1) (n := t.length) (by simp) (by decide) (l := t.length) (c := c) K
      simpa using this
    · rw [List.nil_append] at ht'
      obtain rfl : l3 = t.length := by have := ht'.len; simpa using this
      exact ok_ret ⟨a3, c3, L3, rfl, ht', h3⟩

theorem taken_ok (n : Nat) (h : Hp X S (L ++ F)) (ha : Alloc b A L) (hl : A.t.length ≤ 65536) : Ok (ev (n + 2) (.fn 26) [.ptr (some (.rw b, 0))] S) (CloneQ X (L ++ F) A.t) := by
  obtain ⟨bs, sc, ta, tl, tc, ga, gl, gc, Lt, Lg, hr, rfl⟩ := ha
  have htl : tl = A.t.length := by have := hr.ht.len; simpa using this
  subst htl
  rw [ev, F26 _ _ _ (oL rfl)]
  simp only [J26, b26_entry]
  refine ok_false rfl (ok_gO (ok_ldL h rfl ?_))
  have rdt := hr.ht.rd (X := X) (M := blks b A bs sc ta A.t.length tc ga gl gc Lt Lg ++ F) (by intro e he; simp [he])
  rw [ins_flat] at rdt
  obtain ⟨v, S1, e, a', c', Ld, rfl, h1, h2⟩ := clone_ok n (c := tc) h rdt hl
  rw [callL_of e]
  exact ok_ret ⟨a', c', Ld, rfl, h1, h2⟩

theorem given_ok (n : Nat) (h : Hp X S (L ++ F)) (ha : Alloc b A L) (hl : A.g.length ≤ 65536) : Ok (ev (n + 2) (.fn 27) [.ptr (some (.rw b, 0))] S) (CloneQ X (L ++ F) A.g) := by
  obtain ⟨bs, sc, ta, tl, tc, ga, gl, gc, Lt, Lg, hr, rfl⟩ := ha
  have hgl : gl = A.g.length := by have := hr.hg.len; simpa using this
  subst hgl
  rw [ev, F27 _ _ _ (oL rfl)]
  simp only [J27, b27_entry]
  refine ok_false rfl (ok_gO (ok_ldL h rfl ?_))
  have rdt := hr.hg.rd (X := X) (M := blks b A bs sc ta tl tc ga A.g.length gc Lt Lg ++ F) (by intro e he; simp [he])
  rw [ins_flat] at rdt
  obtain ⟨v, S1, e, a', c', Ld, rfl, h1, h2⟩ := clone_ok n (c := gc) h rdt hl
  rw [callL_of e]
  exact ok_ret ⟨a', c', Ld, rfl, h1, h2⟩

end

end Go.Al

namespace Go.Al
open Go.Gr

theorem arow_all (l : List (Int × Int)) : ∀ r ∈ l.map arow, r.length = 2 := fun r hr => by obtain ⟨z, _, rfl⟩ := List.mem_map.1 hr; rfl

section
variable {X : Cx} {S : AS} {L F : List Ent} {b : Nat} {A : AM} {Q : AV → AS → Prop}

/-- Runs are told: so many blocks in all. -/
abbrev RunsQ (X : Cx) (F : List Ent) (k : Nat) : AV → AS → Prop := fun v S' => ∃ (a : Option Pos) (c : Cap) (rows : List (Int × Int)) (Ld : List Ent), v = .sl a rows.length c ∧ (rows.map (·.2)).sum = (k : Int) ∧ (∀ y ∈ rows, 0 ≤ y.2) ∧ rows.length ≤ 65536 ∧ SlR a rows.length c 2 (rows.map arow) Ld ∧ Hp X S' (Ld ++ F)

theorem runs_loop (n0 : Nat) (call : CallA) {s : List Nat} {b bs : Nat} {sc : Cap} {hd : List AV} (h6 : s.length ≤ 65536) (hd0 : hd[0]? = some (.sl (some (.rw bs, 0)) s.length sc)) :
    ∀ (m i : Nat) (rows : List (Int × Int)) (a : Option Pos) (c : Cap) (Ld : List Ent) (S : AS), i ≤ s.length → s.length - i < m → (rows.map (·.2)).sum = ((s.take i).count 0 : Nat) → (∀ y ∈ rows, 0 ≤ y.2 ∧ y.2 ≤ i) → (0 < i → s[i - 1]? = some 0 → rows ≠ []) → rows.length ≤ i → SlR a rows.length c 2 (rows.map arow) Ld → Hp X S (Ld ++ (C b hd :: C bs (row .u8 s) :: F)) →
      Ok (J28_l1_1_0_1_0 call n0 m (some (.rw b, 0)) a rows.length c (some (.rw bs, 0)) s.length sc s.length i S) (RunsQ X (C b hd :: C bs (row .u8 s) :: F) (s.count 0))
  | 0, i, rows, a, c, Ld, S, hi, hm, hsum, hb, hne, hrl, hs, h => by omega
  | m + 1, i, rows, a, c, Ld, S, hi, hm, hsum, hb, hne, hrl, hs, h => by
    rw [J28_l1_1_0_1_0_succ]
    simp only [b28_l1_1_0_1_0]
    refine ok_cond (fun hc => ?_) (fun hc => ?_)
    · simp only [decide_eq_true_eq] at hc
      have hlt : i < s.length := by omega
      obtain ⟨y, hy⟩ : ∃ y, s[i]? = some y := ⟨_, List.getElem?_eq_getElem hlt⟩
      have htk : s.take (i + 1) = s.take i ++ [y] := by rw [List.take_add_one, hy]; rfl
      have next : ∀ (rows : List (Int × Int)) (a : Option Pos) (c : Cap) (Ld : List Ent) (S : AS), (rows.map (·.2)).sum = ((s.take (i + 1)).count 0 : Nat) → (∀ y ∈ rows, 0 ≤ y.2 ∧ y.2 ≤ i + 1) → (y = 0 → rows ≠ []) → rows.length ≤ i + 1 → SlR a rows.length c 2 (rows.map arow) Ld → Hp X S (Ld ++ (C b hd :: C bs (row .u8 s) :: F)) →
          Ok (J28_j1_1_0_1_0_0_1_1_1 call n0 (J28_l1_1_0_1_0 call n0 m) (some (.rw b, 0)) a rows.length c (some (.rw bs, 0)) s.length sc s.length i S) (RunsQ X (C b hd :: C bs (row .u8 s) :: F) (s.count 0)) := by
        intro rows a c Ld S e1 e2 e3 e4 e5 e6
        simp only [J28_j1_1_0_1_0_0_1_1_1, b28_j1_1_0_1_0_0_1_1_1]
        rw [wn (x := (i : Int) + 1) (n := i + 1) (by omega) (by omega)]
        exact runs_loop n0 call h6 hd0 m (i + 1) rows a c Ld S (by omega) (by omega) e1 (by simpa using e2) (fun _ hz => e3 (by rw [Nat.add_sub_cancel, hy] at hz; simpa using hz)) e4 e5 e6
      refine ok_ixSl (k := i) rfl hlt ?_
      simp only [Nat.zero_add, Nat.mul_one]
      refine ok_ldI h (row_at hy) ?_
      refine ok_cond (fun hy0 => ?_) (fun hy0 => ?_)
      · have hy0 : y ≠ 0 := by simp only [bne_iff_ne, ne_eq] at hy0; omega
        exact next rows a c Ld S (by rw [hsum, htk, List.count_append]; simp [hy0]) (fun z hz => by have := hb z hz; omega) (fun e => absurd e hy0) (by omega) hs h
      have hy0 : y = 0 := by simp only [bne_eq_false_iff_eq] at hy0; omega
      subst hy0
      have hcnt : ((s.take (i + 1)).count 0 : Nat) = (s.take i).count 0 + 1 := by rw [htk, List.count_append]; simp
      have app : Ok (newA S (.cells [.int .i64 i, .int .i64 1]) fun b15 S16 => appendA 2 16 S16 a rows.length c 1 (firstA S16 2 1 (.sl (some (.rw b15, 0)) 1 (.ex 1))) fun v17a v17l v17c S18 => J28_j1_1_0_1_0_0_1_1_1 call n0 (J28_l1_1_0_1_0 call n0 m) (some (.rw b, 0)) v17a v17l v17c (some (.rw bs, 0)) s.length sc s.length i S18) (RunsQ X (C b hd :: C bs (row .u8 s) :: F) (s.count 0)) := by
        refine ok_newA h (fun b5 S6 h6' => ?_)
        have h7 := h6'.re (M := Ld ++ (C b5 [.int .i64 i, .int .i64 1] :: (C b hd :: C bs (row .u8 s) :: F))) (by intro p; simp only [List.countP_append, List.countP_cons, C]; omega)
        refine ok_append h7 hs (ys := [arow ((i : Int), 1)]) (by simp [arow]) rfl (fun K => ?_) (by decide) (by simp [pow46]; omega) (by simp [pow46]; omega) (fun a3 l3 c3 S3 L3 ht' h3 => ?_)
        · have := RdR.first (.rw (X := X) (b := b5) (i := 0) (c := [.int .i64 i, .int .i64 1]) (cs := [.int .i64 i, .int .i64 1]) (L := _) (List.mem_append_right Ld List.mem_cons_self) (by simp) rfl) h7 (sz := 2) (n := 1) rfl (by decide) (l := 1) (c := .ex 1) K
          simpa [arow] using this
        · have e : rows.map arow ++ [arow ((i : Int), 1)] = (rows ++ [((i : Int), 1)]).map arow := by simp
          rw [e] at ht'
          obtain rfl : l3 = (rows ++ [((i : Int), (1 : Int))]).length := by have := ht'.len; simpa using this
          refine next (rows ++ [((i : Int), 1)]) a3 c3 L3 S3 ?_ (fun z hz => ?_) (fun _ => by simp) (by simp; omega) ht' (h3.re (M := C b5 [.int .i64 i, .int .i64 1] :: (L3 ++ (C b hd :: C bs (row .u8 s) :: F))) (by intro p; simp only [List.countP_append, List.countP_cons, C]; omega)).drop1
          · rw [List.map_append, List.sum_append, hsum, hcnt]; simp
          · rcases List.mem_append.1 hz with hz | hz
            · have := hb z hz; omega
            · simp at hz; subst hz; simp; omega
      refine ok_cond (fun hp => ?_) (fun _ => app)
      simp only [gt_iff_lt, decide_eq_true_eq] at hp
      obtain ⟨z, hz⟩ : ∃ z, s[i - 1]? = some z := ⟨_, List.getElem?_eq_getElem (by omega)⟩
      refine ok_gO (ok_ldL h hd0 ?_)
      refine ok_ixSl (k := i - 1) (by rw [wrap64 (by omega) (by omega)]; omega) (by omega) ?_
      simp only [Nat.zero_add, Nat.mul_one]
      refine ok_ldI h (row_at hz) ?_
      refine ok_cond (fun hz0 => ?_) (fun _ => app)
      have hz0 : z = 0 := by simp only [beq_iff_eq] at hz0; omega
      subst hz0
      have hnil := hne (by omega) hz
      obtain ⟨init, w, rfl⟩ : ∃ init w, rows = init ++ [w] := ⟨rows.dropLast, rows.getLast hnil, (List.dropLast_concat_getLast hnil).symm⟩
      have hw := hb w (by simp)
      rcases hs.dest with ⟨_, _, _, h4, _⟩ | ⟨bt, rfl, _, hcc, rfl, _⟩
      · simp at h4
      have hlast : ((init ++ [w]).map arow)[init.length]? = some (arow w) := by simp
      have hlen : ((init ++ [w]).length : Int) - 1 = (init.length : Nat) := by simp
      have hwr : IntKind.wrap .i64 (((init ++ [w]).length : Nat) - 1 : Int) = (init.length : Nat) := by
        rw [hlen]; exact wn rfl (by simp at hrl; omega)
      refine ok_ixSl (k := init.length) hwr (by simp) ?_
      refine ok_ixArr (k := 1) rfl (by omega) ?_
      refine ok_ldI h (by have := flat_get (j := 1) (arow_all _) hlast (by omega); simpa [arow] using this) ?_
      refine ok_ixSl (k := init.length) hwr (by simp) (ok_ixArr (k := 1) rfl (by omega) ?_)
      rw [wrap64 (n := w.2 + 1) (by omega) (by omega)]
      have hfl : ((init ++ [w]).map arow).flatten.length = (init.length + 1) * 2 := by rw [flat_len (arow_all _)]; simp
      refine ok_stn h (by rw [hfl]; simp; omega) (d := ((init ++ [(w.1, w.2 + 1)]).map arow).flatten) ?_ (fun S2 h2 => ?_)
      · have := flat_splice_in (j := 1) (vs := [AV.int .i64 (w.2 + 1)]) (arow_all _) hlast (by simp)
        simp only [Nat.zero_add, Nat.mul_one]
        rw [this]
        congr 1
        simp [arow, splice]
      · have hl2 : (init ++ [w]).length = (init ++ [(w.1, w.2 + 1)]).length := by simp
        rw [hl2]
        refine next (init ++ [(w.1, w.2 + 1)]) _ c [C bt ((init ++ [(w.1, w.2 + 1)]).map arow).flatten] S2 ?_ (fun z hz => ?_) (fun _ => by simp) (by simp at hrl ⊢; omega) (.of (arow_all _) (by simp) (by simpa using hcc)) h2
        · rw [hcnt]; simp at hsum ⊢; omega
        · rcases List.mem_append.1 hz with hz | hz
          · have := hb z (by simp [hz]); omega
          · simp at hz; subst hz; simp; omega
    · simp only [decide_eq_false_iff_not] at hc
      obtain rfl : i = s.length := by omega
      rw [List.take_length] at hsum
      exact ok_ret ⟨a, c, rows, Ld, rfl, hsum, fun z hz => (hb z hz).1, by omega, hs, h⟩

theorem runs_ok (n : Nat) (hn : 70000 < n) (h : Hp X S (L ++ F)) (ha : Alloc b A L) : Ok (ev (n + 1) (.fn 28) [.ptr (some (.rw b, 0))] S) (RunsQ X (L ++ F) (A.s.count 0)) := by
  obtain ⟨bs, sc, ta, tl, tc, ga, gl, gc, Lt, Lg, hr, rfl⟩ := ha
  have hn2 := hr.n2
  rw [ev, F28 _ _ _ (oL rfl)]
  simp only [J28, b28_entry]
  refine ok_false rfl (ok_gO (ok_ldL h rfl ?_))
  exact runs_loop n (evF E orcL n) hn2 rfl n 0 [] none (.ex 0) [] S (by omega) (by omega) (by simp) (by simp) (by omega) (by simp) .nil h

end

end Go.Al

namespace Go.Al
open Go.Gr

theorem filter_len (x : Nat) : ∀ s : List Nat, ((List.range s.length).filter fun i => s[i]? == some x).length = s.count x
  | [] => rfl
  | y :: s => by
    have ih := filter_len x s
    rw [List.length_cons, List.range_succ_eq_map, List.filter_cons, List.count_cons, ← ih, List.filter_map, ]
    simp only [List.getElem?_cons_zero, Function.comp_def, List.getElem?_cons_succ, List.length_map]
    by_cases h : y = x
    · simp [h]
    · simp [h]

theorem len_count {s t : List Nat} {x : Nat} (hd : t.Nodup) (hi : ∀ b, b ∈ t ↔ s[b]? = some x) : t.length = s.count x := by
  rw [← filter_len x s]
  apply List.Perm.length_eq
  rw [List.perm_ext_iff_of_nodup hd (List.Pairwise.filter _ List.nodup_range)]
  intro b
  rw [hi b, List.mem_filter, List.mem_range]
  constructor
  · intro h; exact ⟨(List.getElem?_eq_some_iff.1 h).1, by simp [h]⟩
  · intro h; simpa using h.2

def cnt5 (s : List Nat) (i : Nat) : List Nat := (List.range 5).map fun j => (s.take i).count j
@[simp] theorem cnt5_len (s : List Nat) (i : Nat) : (cnt5 s i).length = 5 := by simp [cnt5]
theorem cnt5_at (s : List Nat) (i : Nat) {v : Nat} (hv : v ≤ 4) : (cnt5 s i)[v]? = some ((s.take i).count v) := by
  simp only [cnt5, List.getElem?_map]
  rw [List.getElem?_range (by omega)]; rfl
theorem cnt5_step {s : List Nat} {i v : Nat} (hy : s[i]? = some v) (hv : v ≤ 4) : (cnt5 s i).set v ((s.take i).count v + 1) = cnt5 s (i + 1) := by
  have htk : s.take (i + 1) = s.take i ++ [v] := by rw [List.take_add_one, hy]; rfl
  apply List.ext_getElem?
  intro j
  by_cases hj : j ≤ 4
  · rw [set_get (by simp; omega), cnt5_at _ _ hj, cnt5_at _ _ hj, htk, List.count_append]
    by_cases h : v = j
    · subst h; simp
    · simp [h]
  · rw [List.getElem?_eq_none (by simp; omega), List.getElem?_eq_none (by simp; omega)]

section
variable {X : Cx} {S : AS} {L F : List Ent} {b : Nat} {A : AM} {Q : AV → AS → Prop}

theorem counts_end (n0 n : Nat) (hn : 70000 < n) (ha : Alloc b A L) (hw : A.WF) (hd : A.Hd) (hl : A.s.length ≤ 200) {bc : Nat} (h : Hp X S (L ++ (C bc (row .i64 (cnt5 A.s A.s.length)) :: F))) {w9 : Int} (h9 : w9 = (A.s.count 0 : Nat)) :
    Ok (J7_j1_1_1_1_1_1_1_1_1 (evF E orcL (n + 3)) n0 (some (.rw b, 0)) (some (.rw bc, 0)) w9 S) TrueQ := by
  have ct : ∀ v, v ≤ 4 → (row .i64 (cnt5 A.s A.s.length))[v]? = some (.int .i64 ((A.s.count v : Nat) : Int)) := fun v hv => row_at (by rw [cnt5_at _ _ hv, List.take_length])
  have htl := len_count hw.td hw.ti
  have hgl := len_count hw.gd hw.gi
  have hwt := hw.tl
  have hwg := hw.gl
  have hrf := hw.rf
  simp only [J7_j1_1_1_1_1_1_1_1_1, b7_j1_1_1_1_1_1_1_1_1]
  have fr : ∀ {S : AS} {F : List Ent}, Hp X S (L ++ F) → evF E orcL (n + 3) (.fn 15) [.ptr (some (.rw b, 0))] S = some (.int .i64 (A.s.count 0 : Nat), S) := fun h => free_eq (n + 2) h ha
  have rs : ∀ {S : AS} {F : List Ent}, Hp X S (L ++ F) → evF E orcL (n + 3) (.fn 23) [.ptr (some (.rw b, 0))] S = some (.int .i64 A.r, S) := fun h => reserved_eq (n + 2) h ha
  refine ok_gO (ok_ixArr (k := 0) rfl (by omega) (ok_ldI h (ct 0 (by omega)) ?_))
  rw [callI_of (fr h)]
  refine ok_ldI h (ct 0 (by omega)) (ok_true (by simp [AV.beq]) (ok_true (by simp) ?_))
  rw [callI_of (fr h)]
  refine ok_true (by simp [h9]) (ok_gO (ok_ixArr (k := 2) rfl (by omega) (ok_ldI h (ct 2 (by omega)) ?_)))
  obtain ⟨v, S1, e, a1, c1, L1, rfl, _, h1⟩ : Ok (evF E orcL (n + 3) (.fn 26) [.ptr (some (.rw b, 0))] S) (CloneQ X _ A.t) := taken_ok (n + 1) h ha (by omega)
  rw [callL_of e]
  refine ok_ldI h1 (ct 2 (by omega)) (ok_true (by simp [AV.beq]) (ok_true (by simp [htl]) (ok_gO (ok_ixArr (k := 3) rfl (by omega) (ok_ldI h1 (ct 3 (by omega)) ?_)))))
  have h1' := h1.re (M := L ++ (L1 ++ (C bc (row .i64 (cnt5 A.s A.s.length)) :: F))) (by intro p; simp only [List.countP_append, List.countP_cons, C]; omega)
  obtain ⟨v, S2, e, a2, c2, L2, rfl, _, h2⟩ : Ok (evF E orcL (n + 3) (.fn 27) [.ptr (some (.rw b, 0))] S1) (CloneQ X _ A.g) := given_ok (n + 1) h1' ha (by omega)
  rw [callL_of e]
  refine ok_ldI h2 (ct 3 (by omega)) (ok_true (by simp [AV.beq]) (ok_true (by simp [hgl]) (ok_gO (ok_ixArr (k := 4) rfl (by omega) (ok_ldI h2 (ct 4 (by omega)) ?_)))))
  have h2' := h2.re (M := L ++ (L2 ++ (L1 ++ (C bc (row .i64 (cnt5 A.s A.s.length)) :: F)))) (by intro p; simp only [List.countP_append, List.countP_cons, C]; omega)
  refine ok_cond (fun _ => ?_) (fun h4 => ?_)
  · rw [callI_of (rs h2')]
    refine ok_true (by simp) ?_
    rw [callI_of (rs h2'), callI_of (fr h2')]
    exact ok_true (by simpa using hrf) (live_ok (n + 2) S2)
  · rw [callI_of (show evF E orcL (n + 3) (.fn 29) [.ptr (some (.rw b, 0))] S2 = _ from holds_eq (n + 2) h2' ha)]
    have hpos : 0 < A.h := by
      simp only [beq_eq_false_iff_ne, ne_eq] at h4
      obtain ⟨i, hi⟩ := List.mem_iff_getElem?.1 (List.count_pos_iff.1 (show 0 < A.s.count 4 by omega))
      exact hd i hi
    refine ok_true (by simpa using hpos) ?_
    rw [callI_of (rs h2')]
    refine ok_true (by simp) ?_
    rw [callI_of (rs h2'), callI_of (fr h2')]
    exact ok_true (by simpa using hrf) (live_ok (n + 2) S2)

theorem sum_nonneg : ∀ {l : List (Int × Int)}, (∀ y ∈ l, 0 ≤ y.2) → 0 ≤ (l.map (·.2)).sum
  | [], h => by simp
  | y :: l, h => by
    have := sum_nonneg (l := l) fun z hz => h z (by simp [hz])
    have := h y (by simp)
    simp only [List.map_cons, List.sum_cons]; omega

theorem sum_loop (n0 : Nat) (call : CallA) {rows : List (Int × Int)} {a : Option Pos} {c : Cap} {Ld M : List Ent} {w5 w6 : Option Pos} (hs : SlR a rows.length c 2 (rows.map arow) Ld) (h : Hp X S (Ld ++ M)) (hnn : ∀ y ∈ rows, 0 ≤ y.2) (hrl : rows.length ≤ 65536) {T : Int} (hT : T ≤ 65536) (hend : Ok (J7_j1_1_1_1_1_1_1_1_1 call n0 w5 w6 T S) TrueQ) :
    ∀ (m i : Nat) (w9 : Int), i ≤ rows.length → rows.length - i < m → 0 ≤ w9 → w9 + ((rows.drop i).map (·.2)).sum = T → Ok (J7_l1_1_1_1_1_1_1_1_0_1_0 call n0 m w5 w6 w9 a rows.length c i S) TrueQ
  | 0, i, w9, hi, hm, h9, hsum => by omega
  | m + 1, i, w9, hi, hm, h9, hsum => by
    rw [J7_l1_1_1_1_1_1_1_1_0_1_0_succ]
    simp only [b7_l1_1_1_1_1_1_1_1_0_1_0]
    refine ok_cond (fun hc => ?_) (fun hc => ?_)
    · simp only [decide_eq_true_eq] at hc
      have hlt : i < rows.length := by omega
      have hx : rows[i]? = some rows[i] := List.getElem?_eq_getElem hlt
      have hdr : rows.drop i = rows[i] :: rows.drop (i + 1) := List.drop_eq_getElem_cons hlt
      have hr : (rows.map arow)[i]? = some (arow rows[i]) := by rw [List.getElem?_map, hx]; rfl
      have hrd := hs.rd (X := X) (M := Ld ++ M) (by intro e he; simp [he])
      obtain ⟨p, rfl⟩ := hrd.some_of (by
        intro he
        have := flat_len (arow_all rows)
        rw [he] at this; simp only [List.length_nil, List.length_map] at this; omega)
      rw [ixSl_at rfl hlt]
      refine ok_ixArr (k := 1) rfl (by omega) ?_
      simp only [Nat.mul_one]
      rw [Nat.add_assoc, hrd.ldI h (by have := flat_get (j := 1) (arow_all rows) hr (by omega); exact this)]
      have h1 := hnn rows[i] (List.getElem_mem hlt)
      have h2 := sum_nonneg (l := rows.drop (i + 1)) fun z hz => hnn z (List.mem_of_mem_drop hz)
      rw [hdr, List.map_cons, List.sum_cons] at hsum
      rw [wrap64 (n := w9 + rows[i].2) (by omega) (by omega), wn (x := (i : Int) + 1) (n := i + 1) (by omega) (by omega)]
      exact sum_loop n0 call hs h hnn hrl hT hend m (i + 1) _ (by omega) (by omega) (by omega) (by omega)
    · simp only [decide_eq_false_iff_not] at hc
      rw [List.drop_of_length_le (by omega)] at hsum
      simp only [List.map_nil, List.sum_nil, Int.add_zero] at hsum
      subst hsum
      exact hend

theorem counts_loop (n0 n : Nat) (hn : 70000 < n) (hn0 : 70000 < n0) (ha : Alloc b A L) (hw : A.WF) (hd : A.Hd) (hl : A.s.length ≤ 200) {bc : Nat} {w4 : Bool} : ∀ (m i : Nat) (S : AS), i ≤ A.s.length → A.s.length - i < m → Hp X S (L ++ (C bc (row .i64 (cnt5 A.s i)) :: F)) →
    Ok (J7_l1_1_1_1_1_0_1_0 (evF E orcL (n + 3)) n0 m A.s.length w4 (some (.rw b, 0)) (some (.rw bc, 0)) i S) TrueQ
  | 0, i, S, hi, hm, h => by omega
  | m + 1, i, S, hi, hm, h => by
    rw [J7_l1_1_1_1_1_0_1_0_succ]
    simp only [b7_l1_1_1_1_1_0_1_0]
    refine ok_cond (fun hc => ?_) (fun hc => ?_)
    · simp only [decide_eq_true_eq] at hc
      have hlt : i < A.s.length := by omega
      obtain ⟨y, hy⟩ : ∃ y, A.s[i]? = some y := ⟨_, List.getElem?_eq_getElem hlt⟩
      have hy4 := hw.st y (List.mem_of_getElem? hy)
      rw [callI_of (show evF E orcL (n + 3) (.fn 19) [.ptr (some (.rw b, 0)), .int .i64 i] S = _ from state_eq (n + 1) h ha i)]
      have hst : A.state i = (y : Int) := by
        unfold AM.state
        rw [if_pos ⟨by omega, by omega⟩]
        simp [List.getD_eq_getElem?_getD, hy]
      rw [hst]
      refine ok_false (by simp) (ok_false (by simp; omega) ?_)
      have hcl : (A.s.take i).count y ≤ i := Nat.le_trans List.count_le_length (by simp; omega)
      refine ok_gO (ok_ixArr (k := y) rfl (by omega) ?_)
      simp only [Nat.zero_add, Nat.mul_one]
      refine ok_ldI h (row_at (cnt5_at _ _ hy4)) (ok_gO (ok_ixArr (k := y) rfl (by omega) ?_))
      simp only [Nat.zero_add, Nat.mul_one]
      rw [wn (x := (((A.s.take i).count y : Nat) : Int) + 1) (n := (A.s.take i).count y + 1) (by omega) (by omega)]
      refine ok_stn h (by simp; omega) (d := row .i64 (cnt5 A.s (i + 1))) ?_ (fun S2 h2 => ?_)
      · rw [row_splice _ (by simp; omega), cnt5_step hy hy4]
      · rw [wn (x := (i : Int) + 1) (n := i + 1) (by omega) (by omega)]
        exact counts_loop n0 n hn hn0 ha hw hd hl m (i + 1) S2 (by omega) (by omega) h2
    · simp only [decide_eq_false_iff_not] at hc
      obtain rfl : i = A.s.length := by omega
      simp only [J7_j1_1_1_1_1_1, b7_j1_1_1_1_1_1]
      obtain ⟨v, S1, e, a, c, rows, Ld, rfl, hsum, hnn, hrl, hs, h1⟩ : Ok (evF E orcL (n + 3) (.fn 28) [.ptr (some (.rw b, 0))] S) (RunsQ X _ (A.s.count 0)) := runs_ok (n + 2) (by omega) h ha
      rw [callL_of e]
      have hcl : A.s.count 0 ≤ A.s.length := List.count_le_length
      refine sum_loop n0 _ hs h1 hnn hrl (T := (A.s.count 0 : Nat)) (by omega) ?_ n0 0 0 (by omega) (by omega) (by omega) (by rw [List.drop_zero, hsum]; omega)
      exact counts_end n0 n hn ha hw hd hl (h1.re (M := L ++ (C bc (row .i64 (cnt5 A.s A.s.length)) :: (Ld ++ F))) (by intro p; simp only [List.countP_append, List.countP_cons, C]; omega)) rfl

theorem counts_run (n : Nat) (hn : 1000000 < n) (h : Hp X S F) {a : Option Pos} {c : Cap} {acts : List (Int × Int)} (hac : ActsR X a acts) (x : Int) :
    Ok (ev (n + 304) (.fn 7) [.int .i64 x, .sl a acts.length c] S) TrueQ := by
  rw [ev, F7 _ _ _ _ _ _ (oL rfl)]
  simp only [J7, b7_entry]
  refine ok_cond (fun _ => live_ok (n + 302) S) (fun c1 => ok_cond (fun _ => live_ok (n + 302) S) (fun c2 => ?_))
  simp only [gt_iff_lt, decide_eq_false_iff_not] at c1 c2
  obtain ⟨v, S3, e, hB⟩ := begun_ok n hn h (x := x) (by omega) (c := c) hac (by omega)
  rcases hB with ⟨hx, rfl, h3⟩ | ⟨hx, b, A, L, M, rfl, hal, hw, hl, hh, hpl, h3⟩
  · rw [callP_of e]
    refine ok_true rfl (ok_true ?_ (live_ok (n + 302) S3))
    unfold right at hx
    simp only [decide_eq_true_eq]; omega
  · rw [callP_of e]
    refine ok_false rfl ?_
    unfold right at hx
    obtain ⟨k, rfl⟩ : ∃ k : Nat, x = (k : Int) := ⟨x.toNat, by omega⟩
    rw [Int.toNat_natCast] at hl
    subst hl
    have hd : A.Hd := by
      rw [hpl]
      refine AM.Hd.plays acts fun i hi => ?_
      simp [List.getElem?_replicate] at hi
    refine ok_newA h3 (fun b9 S10 h10 => ?_)
    exact counts_loop (n + 303) (n + 300) (by omega) (by omega) hal hw hd (by omega) (F := M ++ F) (n + 303) 0 S10 (by omega) (by omega) (h10.re (M := L ++ (C b9 (row .i64 (cnt5 A.s 0)) :: (M ++ F))) (by intro p; simp [cnt5, row, List.countP_append, List.countP_cons, C, List.range_succ]; omega))

end

end Go.Al
