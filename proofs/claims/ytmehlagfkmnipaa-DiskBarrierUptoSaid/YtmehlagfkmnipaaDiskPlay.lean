/- What the law's own functions do with a heap: lists of acts; two disks compared. -/
import Derived.Test.YtmehlagfkmnipaaDiskAct
set_option linter.unusedVariables false
set_option linter.unusedSimpArgs false
set_option maxRecDepth 4000
namespace Go.Dk
open Go.Gr

section
variable {X : Cx} {S : AS} {L F : List Ent} {w : Nat} {D : DM}

theorem hcells_ics (D : DM) : hcells D = ics (D.secs.map (·.h)) := by
  simp only [hcells]
  induction D.secs with
  | nil => rfl
  | cons x l ih => simp only [List.map_cons, List.flatten_cons, ics] at ih ⊢; rw [ih]; rfl

theorem secs_ext {l m : List Sec} (h1 : l.map (·.h) = m.map (·.h)) (h2 : l.map (·.d) = m.map (·.d)) : l = m := by
  induction l generalizing m with
  | nil => cases m <;> simp_all
  | cons x l ih =>
    cases m with
    | nil => simp at h1
    | cons y m =>
      simp only [List.map_cons, List.cons.injEq] at h1 h2
      rw [ih h1.2 h2.2]
      cases x; cases y; simp_all

theorem rsame_eq (n : Nat) (hn : 80000 < n) {w2 : Nat} {D2 : DM} {L1 L2 : List Ent} (h : Hp X S L) (hd : Ref w D L1) (hd2 : Ref w2 D2 L2) (m1 : ∀ e ∈ L1, e ∈ L) (m2 : ∀ e ∈ L2, e ∈ L) :
    ∃ r : Bool, ev (n + 2) (.fn 22) [.ptr (some (.rw w, 0)), .ptr (some (.rw w2, 0))] S = some (.bool r, S) ∧ (r = true ↔ D.sameP D2) := by
  obtain ⟨bs, sc, bh, hk, qa, ql, qc, Lq, hR, rfl⟩ := hd
  obtain ⟨bs2, sc2, bh2, hk2, qa2, ql2, qc2, Lq2, hR2, rfl⟩ := hd2
  have hb := m1 _ List.mem_cons_self
  have hb2 := m2 _ List.mem_cons_self
  have hs1 : C bs (dcells D) ∈ L := m1 _ (by simp)
  have hs2 : C bs2 (dcells D2) ∈ L := m2 _ (by simp)
  have hh1 : C bh (hcells D) ∈ L := m1 _ (by simp)
  have hh2 : C bh2 (hcells D2) ∈ L := m2 _ (by simp)
  have n1 := hR.wf.n2
  have n2 := hR2.wf.n2
  suffices hs : Ok (ev (n + 2) (.fn 22) [.ptr (some (.rw w, 0)), .ptr (some (.rw w2, 0))] S) (fun v S' => ∃ r : Bool, v = .bool r ∧ S' = S ∧ (r = true ↔ D.sameP D2)) by
    obtain ⟨v, S', e, r, rfl, rfl, hr⟩ := hs
    exact ⟨r, e, hr⟩
  rw [ev, F22 _ _ _ _ (oL rfl)]
  simp only [J22, b22_entry]
  have no : ¬ D.sameP D2 → ∃ r : Bool, AV.bool false = .bool r ∧ S = S ∧ (r = true ↔ D.sameP D2) := fun hn => ⟨false, rfl, rfl, by simp [hn]⟩
  refine ok_gO (okM_ldL h hb rfl (ok_gO (okM_ldL h hb2 rfl ?_)))
  refine ok_cond (fun hc => ok_ret (no (fun hh => ?_))) (fun hc => ?_)
  · simp only [bne_iff_ne, ne_eq] at hc; exact hc (by rw [hh.2.2.1])
  simp only [bne_eq_false_iff_eq] at hc
  have hlen : D.secs.length = D2.secs.length := by omega
  refine ok_gO (okM_ldI h hb rfl (ok_gO (okM_ldI h hb2 rfl ?_)))
  refine ok_cond (fun hc1 => ok_ret (no (fun hh => ?_))) (fun hc1 => ?_)
  · simp only [bne_iff_ne, ne_eq] at hc1; exact hc1 (by rw [hh.1])
  simp only [bne_eq_false_iff_eq] at hc1
  refine ok_gO (okM_ldB h hb rfl (ok_gO (okM_ldB h hb2 rfl ?_)))
  refine ok_cond (fun hc2 => ok_ret (no (fun hh => ?_))) (fun hc2 => ?_)
  · simp only [Bool.not_eq_true', beq_eq_false_iff_ne, ne_eq] at hc2; exact hc2 hh.2.1
  simp only [Bool.not_eq_false', beq_iff_eq] at hc2
  refine ok_gO (okM_ldL h hb rfl (ok_gO (okM_ldL h hb2 rfl ?_)))
  obtain ⟨r, e, hr⟩ := rsectors_eq n (by omega) hR.wf.ql h hR.hq hR2.hq (fun e he => m1 e (by simp [he])) (fun e he => m2 e (by simp [he]))
  rw [callB_of e]
  refine ok_cond (fun hc3 => ok_ret (no (fun hh => ?_))) (fun hc3 => ?_)
  · simp only [Bool.not_eq_true'] at hc3; rw [hr.2 hh.2.2.2] at hc3; cases hc3
  simp only [Bool.not_eq_false'] at hc3
  refine ok_gO (okM_ldL h hb rfl (ok_gO (okM_ldL h hb2 rfl ?_)))
  have rd1 : RdR X L (some (.rw bh, 0)) (ics (D.secs.map (·.h))) := .rw (c := hcells D) hh1 (by simp) (by rw [hcells_ics, List.drop_zero, List.take_length])
  have rd2 : RdR X L (some (.rw bh2, 0)) (ics (D2.secs.map (·.h))) := .rw (c := hcells D2) hh2 (by simp) (by rw [hcells_ics, List.drop_zero, List.take_length])
  obtain ⟨r2, e2, hr2⟩ := rints_eq n (P := D.secs.map (·.h)) (Q := D2.secs.map (·.h)) (by simp; omega) (by omega) (pl := D.secs.length) (ql := D2.secs.length) (pc := hk) (qc := hk2) h rd1 rd2 (by simp) (by simp)
  rw [callB_of e2]
  refine ok_cond (fun hc4 => ok_ret (no (fun hh => ?_))) (fun hc4 => ?_)
  · simp only [Bool.not_eq_true'] at hc4; rw [hr2.2 (by rw [hh.2.2.1])] at hc4; cases hc4
  simp only [Bool.not_eq_false'] at hc4
  have hhs := hr2.1 hc4
  have key : ∀ r : Bool, (r = true ↔ D.secs.map (·.d) = D2.secs.map (·.d)) → (r = true ↔ D.sameP D2) := fun r hr' => by
    rw [hr']
    exact ⟨fun hh => ⟨by omega, hc2, secs_ext hhs hh, hr.1 hc3⟩, fun hh => by rw [hh.2.2.1]⟩
  have loop : ∀ (m i : Nat), i ≤ D.secs.length → D.secs.length - i < m → Ok (J22_l1_1_0_1_0 (evF E orcL (n + 1)) (n + 1) m (some (.rw w, 0)) (some (.rw w2, 0)) false i S) (fun v S' => ∃ r : Bool, v = .bool r ∧ S' = S ∧ (r = true ↔ (D.secs.map (·.d)).drop i = (D2.secs.map (·.d)).drop i)) := by
    intro m
    induction m with
    | zero => intro i _ hm; omega
    | succ m ih =>
      intro i hi hm
      rw [J22_l1_1_0_1_0_succ]
      simp only [b22_l1_1_0_1_0]
      refine ok_gO (okM_ldL h hb rfl ?_)
      refine ok_cond (fun hc => ?_) (fun hc => ?_)
      · simp only [decide_eq_true_eq] at hc
        have hlt : i < D.secs.length := by omega
        obtain ⟨x, hx⟩ := sec_at hlt
        obtain ⟨y, hy⟩ := sec_at (show i < D2.secs.length by omega)
        have hd : ∀ {zs : List Sec} {z : Sec}, zs[i]? = some z → (zs.map (·.d)).drop i = z.d :: (zs.map (·.d)).drop (i + 1) := by
          intro zs z h
          obtain ⟨hlt', he⟩ := List.getElem?_eq_some_iff.1 h
          rw [List.drop_eq_getElem_cons (by simpa using hlt')]
          simp [he]
        refine ok_gO (okM_ldL h hb rfl (ok_ixSl (k := i) rfl hlt (okM_ldS h hs1 (dcells_get hx) ?_)))
        refine ok_gO (okM_ldL h hb2 rfl (ok_ixSl (k := i) rfl (by omega) (okM_ldS h hs2 (dcells_get hy) ?_)))
        rw [hd hx, hd hy]
        refine ok_cond (fun hc5 => ok_ret ⟨false, rfl, rfl, ?_⟩) (fun hc5 => ?_)
        · simp only [Bool.not_eq_true', beq_eq_false_iff_ne, ne_eq] at hc5
          simp [hc5]
        · simp only [Bool.not_eq_false', beq_iff_eq] at hc5
          rw [wrap64 (by omega) (by omega)]
          refine (ih (i + 1) (by omega) (by omega)).mono ?_
          rintro v S' ⟨r, rfl, rfl, hr⟩
          exact ⟨r, rfl, rfl, by rw [hr, hc5]; simp⟩
      · simp only [decide_eq_false_iff_not] at hc
        refine ok_ret ⟨true, rfl, rfl, ?_⟩
        rw [List.drop_of_length_le (by simp; omega), List.drop_of_length_le (by simp; omega)]
        simp
  refine (loop (n + 1) 0 (Nat.zero_le _) (by omega)).mono ?_
  rintro v S' ⟨r, rfl, rfl, hr⟩
  exact ⟨r, rfl, rfl, key r (by rw [hr, List.drop_zero, List.drop_zero])⟩

/-- A list of acts as it is read. -/
def ActsR (X : Cx) (a : Option Pos) (l : Nat) (acts : List Act) : Prop := ∃ rows : List (List AV), RdR X [] a rows.flatten ∧ rows.length = acts.length ∧ l = acts.length ∧ (∀ r ∈ rows, r.length = 6) ∧ (∀ x ∈ acts, x.data.length ≤ 281474976710656 ∧ x.keep.length ≤ 281474976710656) ∧ acts.length ≤ 281474976710656 ∧ ∀ (i : Nat) (x : Act) (r : List AV), acts[i]? = some x → rows[i]? = some r → ActR X x r

/-- An act of a list. -/
theorem acts_at {a : Option Pos} {l : Nat} {acts : List Act} (h : ActsR X a l acts) (hp : Hp X S L) {i : Nat} (hi : i < acts.length) : ∃ x r p, acts[i]? = some x ∧ ActR X x r ∧ a = some p ∧ (∀ {β : Type} (K : List AV → Option β), S.ldn p.1 (p.2 + i * 6) 6 K = K r) ∧
    (∀ (j : Nat) (K : Int → Option (AV × AS)) k v, r[j]? = some (.int k v) → ldI k S p.1 (p.2 + i * 6 + j) K = K v) ∧ (∀ (j : Nat) (K : Option Pos → Nat → Cap → Option (AV × AS)) b m c, r[j]? = some (.sl b m c) → ldL S p.1 (p.2 + i * 6 + j) K = K b m c) := by
  obtain ⟨rows, hr, h1, h2, h3, h4, h5, h6⟩ := h
  obtain ⟨x, hx⟩ : ∃ x, acts[i]? = some x := ⟨acts[i], by simp [hi]⟩
  obtain ⟨r, hrr⟩ : ∃ r, rows[i]? = some r := ⟨rows[i]'(by omega), List.getElem?_eq_getElem (by omega)⟩
  have hrm := List.mem_of_getElem? hrr
  have hr6 := h3 r hrm
  obtain ⟨p, rfl⟩ := hr.some_of (by
    intro he
    have := (List.sublist_flatten_of_mem hrm).length_le
    rw [he] at this; simp at this; rw [this] at hr6; simp at hr6)
  have hcell : ∀ j v, r[j]? = some v → rows.flatten[i * 6 + j]? = some v := fun j v hj => by
    rw [flat_get h3 hrr (by have := (List.getElem?_eq_some_iff.1 hj).1; omega), hj]
  refine ⟨x, r, p, hx, h6 i x r hx hrr, rfl, fun K => (hr.mono (M := L) (by intro e he; cases he)).elem hp h3 hrr K, fun j K k v hj => ?_, fun j K b m c hj => ?_⟩
  · rw [Nat.add_assoc]
    exact (hr.mono (M := L) (by intro e he; cases he)).ldI hp (hcell j _ hj)
  · rw [Nat.add_assoc]
    have hr' := hr.mono (M := L) (by intro e he; cases he)
    have hlt : i * 6 + j < rows.flatten.length := (List.getElem?_eq_some_iff.1 (hcell j _ hj)).1
    cases hr' with
    | rw hm hl hc =>
      rename_i b0 i0 c0
      have e : c0[i0 + (i * 6 + j)]? = some (.sl b m c) := by rw [← hcell j _ hj, ← hc, List.getElem?_take_of_lt (by omega), List.getElem?_drop]
      simp only [ldL, AS.ld, AS.blk, hp.got _ _ hm, e, gL]
    | ro hm hl hc =>
      rename_i b0 i0 c0
      have e : c0[i0 + (i * 6 + j)]? = some (.sl b m c) := by rw [← hcell j _ hj, ← hc, List.getElem?_take_of_lt (by omega), List.getElem?_drop]
      simp only [ldL, AS.ld, AS.blk, hp.ro, hm, e, gL]

def sumTo (acts : List Act) : Nat → Nat
  | 0 => 0
  | i + 1 => sumTo acts i + ((acts[i]?).map fun x => x.data.length + x.keep.length).getD 0

theorem sumTo_le (acts : List Act) {x : Act} {k : Nat} (hx : acts[k]? = some x) : ∀ i, k < i → x.data.length + x.keep.length ≤ sumTo acts i
  | 0, h => by omega
  | i + 1, h => by
    simp only [sumTo]
    by_cases hk : k = i
    · subst hk; simp [hx]
    · have := sumTo_le acts hx i (by omega); omega

theorem long_ok (n : Nat) (hn : 100 < n) {a : Option Pos} {l : Nat} {c : Cap} {acts : List Act} (h : Hp X S L) (ha : ActsR X a l acts) :
    ∃ r : Bool, ev (n + 1) (.fn 19) [.sl a l c] S = some (.bool r, S) ∧ (r = false → acts.length ≤ 80 ∧ ∀ x ∈ acts, x.data.length ≤ 20000 ∧ x.keep.length ≤ 20000) := by
  have ha' := ha
  obtain ⟨rows, hr, h1, h2, h3, h4, h5, h6⟩ := ha'
  suffices hs : Ok (ev (n + 1) (.fn 19) [.sl a l c] S) (fun v S' => ∃ r : Bool, v = .bool r ∧ S' = S ∧ (r = false → acts.length ≤ 80 ∧ ∀ x ∈ acts, x.data.length ≤ 20000 ∧ x.keep.length ≤ 20000)) by
    obtain ⟨v, S', e, r, rfl, rfl, hr⟩ := hs
    exact ⟨r, e, hr⟩
  rw [ev, F19 _ _ _ _ _ (oL rfl)]
  simp only [J19, b19_entry]
  have fin : ∀ i, i ≤ acts.length → (acts.length ≤ 80 → i = acts.length) → Ok (J19_j1_1_1 (evF E orcL n) n a l c (sumTo acts i : Nat) S) (fun v S' => ∃ r : Bool, v = .bool r ∧ S' = S ∧ (r = false → acts.length ≤ 80 ∧ ∀ x ∈ acts, x.data.length ≤ 20000 ∧ x.keep.length ≤ 20000)) := by
    intro i hi he
    simp only [J19_j1_1_1, b19_j1_1_1]
    refine ok_cond (fun hc => ok_ret ⟨true, rfl, rfl, by intro h; cases h⟩) (fun hc => ok_ret ⟨_, rfl, rfl, fun hf => ?_⟩)
    simp only [gt_iff_lt, decide_eq_false_iff_not] at hc hf
    have h80 : acts.length ≤ 80 := by omega
    refine ⟨h80, fun x hx => ?_⟩
    obtain ⟨k, hk, hkx⟩ := List.getElem_of_mem hx
    have := sumTo_le acts (x := x) (k := k) (by rw [← hkx]; simp) i (by rw [he h80]; exact hk)
    omega
  have loop : ∀ (m i : Nat), i ≤ acts.length → i ≤ 81 → 81 - i < m → sumTo acts i ≤ i * 562949953421312 → Ok (J19_l1_1_0_1_0 (evF E orcL n) n m a l c (sumTo acts i : Nat) i S) (fun v S' => ∃ r : Bool, v = .bool r ∧ S' = S ∧ (r = false → acts.length ≤ 80 ∧ ∀ x ∈ acts, x.data.length ≤ 20000 ∧ x.keep.length ≤ 20000)) := by
    intro m
    induction m with
    | zero => intro i _ _ hm; omega
    | succ m ih =>
      intro i hi h81 hm hsum
      rw [J19_l1_1_0_1_0_succ]
      simp only [b19_l1_1_0_1_0]
      refine ok_cond (fun hc => ?_) (fun hc => ?_)
      · simp only [decide_eq_true_eq] at hc
        have hlt : i < acts.length := by omega
        refine ok_cond (fun hc2 => ?_) (fun hc2 => ?_)
        · simp only [decide_eq_true_eq] at hc2
          obtain ⟨x, r, p, hx, hxr, rfl, _, _, hld⟩ := acts_at ha h hlt
          obtain ⟨da, dc, ka, kc, rfl, _⟩ := hxr
          have hxb := h4 x (List.mem_of_getElem? hx)
          rw [ixSl_at rfl (by omega)]
          simp only
          rw [hld 4 _ da x.data.length dc rfl, ixSl_at rfl (by omega)]
          simp only
          rw [hld 5 _ ka x.keep.length kc rfl]
          have es : sumTo acts (i + 1) = sumTo acts i + (x.data.length + x.keep.length) := by simp [sumTo, hx]
          have e1 : IntKind.wrap .i64 (((sumTo acts i : Nat) : Int) + ((x.data.length : Nat) : Int)) = ((sumTo acts i + x.data.length : Nat) : Int) := by rw [wrap64 (by omega) (by omega)]; omega
          have e2 : IntKind.wrap .i64 (((sumTo acts i + x.data.length : Nat) : Int) + ((x.keep.length : Nat) : Int)) = ((sumTo acts (i + 1) : Nat) : Int) := by rw [wrap64 (by omega) (by omega), es]; omega
          have e3 : IntKind.wrap .i64 ((i : Int) + 1) = ((i + 1 : Nat) : Int) := by rw [wrap64 (by omega) (by omega)]; rfl
          rw [e1, e2, e3]
          exact ih (i + 1) hlt (by omega) (by omega) (by rw [es]; omega)
        · simp only [decide_eq_false_iff_not] at hc2
          exact fin i hi (by omega)
      · simp only [decide_eq_false_iff_not] at hc
        exact fin i hi (by omega)
  exact loop n 0 (Nat.zero_le _) (by omega) (by omega) (Nat.zero_le _)

def DM.plays (D : DM) (acts : List Act) : DM := acts.foldl (fun D x => if x.kind = 8 then D else D.act x) D

theorem plays_snoc (D : DM) (l : List Act) (x : Act) : D.plays (l ++ [x]) = if x.kind = 8 then D.plays l else (D.plays l).act x := by
  simp [DM.plays]

theorem played_ok (n : Nat) (hn : 80000 < n) {a : Option Pos} {l : Nat} {c : Cap} {acts : List Act} (h : Hp X S L) (ha : ActsR X a l acts) (h80 : acts.length ≤ 80) (hb : ∀ x ∈ acts, x.data.length ≤ 20000 ∧ x.keep.length ≤ 20000) (sectors : Int) :
    Ok (ev (n + 5) (.fn 20) [.int .i64 sectors, .sl a l c] S) fun v S' => ((1 ≤ sectors ∧ sectors ≤ 65536) ∧ ∃ b w Ld Lr, v = .tup [.ptr (some (.rw b, 0)), .ptr (some (.rw w, 0))] ∧ Disk b ((DM.new sectors.toNat 16).plays acts) Ld ∧ Ref w ((DM.new sectors.toNat 16).plays acts) Lr ∧ Hp X S' (Ld ++ (Lr ++ L))) ∨
      (¬ (1 ≤ sectors ∧ sectors ≤ 65536) ∧ v = .tup [.ptr none, .ptr none] ∧ Hp X S' L) := by
  have ha' := ha
  obtain ⟨rows, hr, h1, h2, h3, h4, h5, h6⟩ := ha'
  rw [ev, F20 _ _ _ _ _ _ (oL rfl)]
  simp only [J20, b20_entry]
  by_cases hs : 1 ≤ sectors ∧ sectors ≤ 65536
  · obtain ⟨k, rfl⟩ : ∃ k : Nat, sectors = k := ⟨sectors.toNat, by omega⟩
    obtain ⟨v, S1, e, b, Ld, rfl, hd, hp1⟩ := new_ok (n + 3) h k 16 (by omega) (by omega) (by omega) (by omega)
    rw [callT_of (show ev (n + 4) _ [.int .i64 (k : Int), .int .i64 16] S = _ from e)]
    simp only [atP, atI, List.getElem?_cons_zero, List.getElem?_cons_succ, gP, gIk, if_true]
    obtain ⟨v, S5, e, w, Lr, rfl, hw, hp2⟩ := rnew_ok (n + 2) (by omega) hp1 k 16 (by omega) (by omega) (by omega) (by omega)
    rw [callT_of (show ev (n + 4) _ [.int .i64 (k : Int), .int .i64 16] S1 = _ from e)]
    simp only [List.getElem?_cons_zero, List.getElem?_cons_succ, if_true]
    rw [callI_of (num_eq (n + 3) _ S5)]
    refine ok_false rfl (ok_false rfl (ok_false rfl ?_))
    have loop : ∀ (m i : Nat) (S : AS) (D : DM) (b w : Nat) (Ld Lr : List Ent), i ≤ acts.length → acts.length - i < m → D = (DM.new k 16).plays (acts.take i) → Disk b D Ld → Ref w D Lr → Hp X S (Ld ++ (Lr ++ L)) →
        Ok (J20_l1_1_1_1_0_1_0 (evF E orcL (n + 4)) (n + 4) m a l c (some (.rw b, 0)) (some (.rw w, 0)) i S) fun v S' => ((1 ≤ (k : Int) ∧ (k : Int) ≤ 65536) ∧ ∃ b w Ld Lr, v = .tup [.ptr (some (.rw b, 0)), .ptr (some (.rw w, 0))] ∧ Disk b ((DM.new ((k : Int)).toNat 16).plays acts) Ld ∧ Ref w ((DM.new ((k : Int)).toNat 16).plays acts) Lr ∧ Hp X S' (Ld ++ (Lr ++ L))) ∨
          (¬ (1 ≤ (k : Int) ∧ (k : Int) ≤ 65536) ∧ v = .tup [.ptr none, .ptr none] ∧ Hp X S' L) := by
      intro m
      induction m with
      | zero => intro i S D b w Ld Lr _ hm; omega
      | succ m ih =>
        intro i S D b w Ld Lr hi hm hD hd hw h
        rw [J20_l1_1_1_1_0_1_0_succ]
        simp only [b20_l1_1_1_1_0_1_0, J20_j1_1_1_1_0_1_0_0_1_1, b20_j1_1_1_1_0_1_0_0_1_1, J20_j1_1_1_1_1, b20_j1_1_1_1_1]
        refine ok_cond (fun hc => ?_) (fun hc => ?_)
        · simp only [decide_eq_true_eq] at hc
          have hlt : i < acts.length := by omega
          obtain ⟨x, r, p, hx, hxr, rfl, hldn, hldi, _⟩ := acts_at ha h hlt
          have hxm := List.mem_of_getElem? hx
          have hkind : r[0]? = some (.int .i64 x.kind) := by obtain ⟨da, dc, ka, kc, rfl, _⟩ := hxr; rfl
          have ew : IntKind.wrap .i64 ((i : Int) + 1) = ((i + 1 : Nat) : Int) := by rw [wrap64 (by omega) (by omega)]; rfl
          rw [ew, ixSl_at rfl (by omega)]
          simp only
          have hld0 : ∀ K : Int → Option (AV × AS), ldI .i64 S p.1 (p.2 + i * 6) K = K x.kind := fun K => hldi 0 K .i64 x.kind hkind
          rw [hld0]
          have htake : acts.take (i + 1) = acts.take i ++ [x] := by
            rw [List.take_add_one, hx]; rfl
          refine ok_cond (fun hc2 => ?_) (fun hc2 => ?_)
          · simp only [bne_iff_ne, ne_eq] at hc2
            rw [ixSl_at rfl (by omega)]
            simp only
            rw [hldn]
            obtain ⟨v, S15, e, b', Ld', Lr', rfl, hbb, hd', hw', h'⟩ := act_ok n hn h hd hw hxr (hb x hxm).1 (hb x hxm).2
            rw [callT_of e]
            have hD2 : D.act x = (DM.new k 16).plays (acts.take (i + 1)) := by
              rw [htake, plays_snoc, ← hD]
              simp [hc2]
            have hbb := hbb hc2
            subst hbb
            exact ih (i + 1) S15 (D.act x) b' w Ld' Lr' (by omega) (by omega) hD2 hd' hw' h'
          · simp only [bne_eq_false_iff_eq] at hc2
            have hD2 : D = (DM.new k 16).plays (acts.take (i + 1)) := by
              rw [htake, plays_snoc, ← hD]
              simp [hc2]
            exact ih (i + 1) S D b w Ld Lr (by omega) (by omega) hD2 hd hw h
        · simp only [decide_eq_false_iff_not] at hc
          have hik : i = acts.length := by omega
          subst hik
          rw [List.take_length] at hD
          subst hD
          exact ok_ret (.inl ⟨hs, b, w, Ld, Lr, rfl, by simpa using hd, by simpa using hw, h⟩)
    exact loop (n + 4) 0 S5 (DM.new k 16) b w Ld Lr (Nat.zero_le _) (by omega) (by simp [DM.plays]) hd hw (hp2.re (by intro p; simp only [List.countP_append]; omega))
  · have hbad : ¬ (1 ≤ sectors ∧ sectors ≤ 65536 ∧ (8 : Int) ≤ 16 ∧ (16 : Int) ≤ 512) := by omega
    rw [callT_of (new_err (n + 3) sectors 16 hbad)]
    simp only [atP, atI, List.getElem?_cons_zero, List.getElem?_cons_succ, gP, gIk, if_true]
    rw [callT_of (rnew_err (n + 3) sectors 16 hbad)]
    simp only [List.getElem?_cons_zero, List.getElem?_cons_succ, if_true]
    rw [callI_of (num_eq (n + 3) _ S)]
    exact ok_true rfl (ok_ret (.inr ⟨hs, rfl, h⟩))
end

end Go.Dk
