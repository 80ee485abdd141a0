/- What the functions of the document's answer for the disk do with a heap: crashes, injuries, comparisons. -/
import Derived.Test.YtmehlagfkmnipaaDiskRef3
set_option linter.unusedVariables false
set_option linter.unusedSimpArgs false
set_option maxRecDepth 4000
namespace Go.Dk
open Go.Gr

theorem ixs_flat (l : List Int) : (ixs l).flatten = ics l := by
  induction l with
  | nil => rfl
  | cons x l ih => simp only [ixs, ics, List.map_cons, List.flatten_cons] at ih ⊢; rw [ih]; rfl

section
variable {X : Cx} {S : AS} {L F : List Ent} {w : Nat} {D : DM}

theorem rcrash_loop1 (call : CallA) (n0 : Nat) {N : Nat} {keep : List Int} {ka : Option Pos} {kc cp : Cap} {bk : Nat} {G : List Ent} (hr : RdR X G ka (ics keep)) (hkl : keep.length < 9223372036854775807) {Q : AV → AS → Prop}
    (ht : ∀ S', Hp X S' (C bk (bcs (kept N keep)) :: G) → Ok (J53_j1_1 call n0 (some (.rw w, 0)) (some (.rw bk, 0)) N cp S') Q) : ∀ (m i : Nat) (S : AS), i ≤ keep.length → keep.length - i < m → Hp X S (C bk (bcs (keptTo N keep i)) :: G) →
    Ok (J53_l1_0_1_0 call n0 m (some (.rw w, 0)) ka keep.length kc (some (.rw bk, 0)) N cp i S) Q
  | 0, i, S, hi, hm, h => by omega
  | m + 1, i, S, hi, hm, h => by
    rw [J53_l1_0_1_0_succ]
    simp only [b53_l1_0_1_0, J53_j1_0_1_0_0_1_1, b53_j1_0_1_0_0_1_1]
    refine ok_cond (fun hc => ?_) (fun hc => ?_)
    · simp only [decide_eq_true_eq] at hc
      have hlt : i < keep.length := by omega
      obtain ⟨v, hv⟩ : ∃ v, keep[i]? = some v := ⟨keep[i], by simp [hlt]⟩
      have hne : ics keep ≠ [] := by intro he; have := congrArg List.length he; simp at this; rw [this] at hlt; simp at hlt
      obtain ⟨⟨pb, po⟩, rfl⟩ := hr.some_of hne
      have ew : IntKind.wrap .i64 ((i : Int) + 1) = ((i + 1 : Nat) : Int) := by rw [wrap64 (by omega) (by omega)]; rfl
      rw [ew]
      have hrm := hr.mono (M := C bk (bcs (keptTo N keep i)) :: G) (fun e he => List.mem_cons_of_mem _ he)
      have hi2 : (ics keep)[i]? = some (.int .i64 v) := by simp [ics, hv]
      have ld : ∀ K : Int → Option (AV × AS), (ixSl 1 (some (pb, po)) keep.length (i : Int) fun p => ldI .i64 S p.1 p.2 K) = K v := fun K => by
        rw [ixSl_at rfl hlt, Nat.mul_one]
        exact hrm.ldI h hi2
      rw [ld]
      have next : ∀ S', Hp X S' (C bk (bcs (keptTo N keep (i + 1))) :: G) → Ok (J53_l1_0_1_0 call n0 m (some (.rw w, 0)) (some (pb, po)) keep.length kc (some (.rw bk, 0)) N cp ((i + 1 : Nat) : Int) S') Q := fun S' h' =>
        rcrash_loop1 call n0 hr hkl ht m (i + 1) S' (by omega) (by omega) h'
      have stay : ¬ (0 ≤ v ∧ v < N) → keptTo N keep (i + 1) = keptTo N keep i := fun hn => by simp only [keptTo, hv, if_neg hn]
      refine ok_cond (fun hc1 => ?_) (fun hc1 => ?_)
      · simp only [ge_iff_le, decide_eq_true_eq] at hc1
        rw [ld]
        refine ok_cond (fun hc2 => ?_) (fun hc2 => ?_)
        · simp only [decide_eq_true_eq] at hc2
          rw [ld]
          obtain ⟨u, rfl⟩ : ∃ u : Nat, v = u := ⟨v.toNat, by omega⟩
          refine ok_ixSl (k := u) rfl (by omega) ?_
          refine ok_stn h (by simp; omega) (d := bcs (keptTo N keep (i + 1))) ?_ (fun S10 h => next S10 h)
          rw [Nat.zero_add, Nat.mul_one, bcs_set true (by simp; omega)]
          simp only [keptTo, hv]
          rw [if_pos (by omega)]; rfl
        · simp only [decide_eq_false_iff_not] at hc2
          exact next S (by rw [stay (by omega)]; exact h)
      · simp only [ge_iff_le, decide_eq_false_iff_not] at hc1
        exact next S (by rw [stay (by omega)]; exact h)
    · simp only [decide_eq_false_iff_not] at hc
      have : i = keep.length := by omega
      subst this
      exact ht S h

theorem rcrash_loop2 (n0 n : Nat) (ws : List (Nat × List UInt8)) (ks : List Bool) (hks : ks.length = ws.length) {cp : Cap} : ∀ (m k : Nat) (D : DM) (S : AS) (bs : Nat) (sc : Cap) (bh : Nat) (hk : Cap) (bq bk : Nat) (qc : Cap) (F : List Ent) (Q : AV → AS → Prop),
    D.q = ws → k ≤ ws.length → ws.length - k < m → RefR w D bs sc bh hk (some (.rw bq, 0)) ws.length qc [C bq (ws.map encW).flatten] → Hp X S (C w (rhdr D (some (.rw bs, 0)) sc (some (.rw bh, 0)) hk (some (.rw bq, 0)) ws.length qc) :: C bs (dcells D) :: C bh (hcells D) :: C bq (ws.map encW).flatten :: C bk (bcs ks) :: F) →
    (∀ S', RefR w (D.some_ (ks.drop k) (ws.drop k)) bs sc bh hk (some (.rw bq, 0)) ws.length qc [C bq (ws.map encW).flatten] → Hp X S' (C w (rhdr (D.some_ (ks.drop k) (ws.drop k)) (some (.rw bs, 0)) sc (some (.rw bh, 0)) hk (some (.rw bq, 0)) ws.length qc) :: C bs (dcells (D.some_ (ks.drop k) (ws.drop k))) :: C bh (hcells (D.some_ (ks.drop k) (ws.drop k))) :: C bq (ws.map encW).flatten :: C bk (bcs ks) :: F) → Ok (J53_j1_1_1 (ev (n + 1)) n0 (some (.rw w, 0)) S') Q) →
    Ok (J53_l1_1_0_1_0 (ev (n + 1)) n0 m (some (.rw w, 0)) (some (.rw bk, 0)) ws.length cp (k : Nat) S) Q
  | 0, k, D, S, bs, sc, bh, hk, bq, bk, qc, F, Q, hq, hk2, hm, hd, h, ht => by omega
  | m + 1, k, D, S, bs, sc, bh, hk, bq, bk, qc, F, Q, hq, hk2, hm, hd, h, ht => by
    have hql : ws.length ≤ 4096 := by rw [← hq]; exact hd.wf.ql
    rw [J53_l1_1_0_1_0_succ]
    simp only [b53_l1_1_0_1_0, J53_j1_1_0_1_0_0_1_1, b53_j1_1_0_1_0_0_1_1]
    refine ok_gO (ok_ldL h rfl ?_)
    refine ok_cond (fun hc => ?_) (fun hc => ?_)
    · simp only [decide_eq_true_eq] at hc
      have hlt : k < ws.length := by omega
      obtain ⟨u, hu⟩ : ∃ u, ws[k]? = some u := ⟨ws[k], by simp [hlt]⟩
      obtain ⟨kb, hkb⟩ : ∃ kb, ks[k]? = some kb := ⟨ks[k]'(by omega), by simp [hks, hlt]⟩
      have hmem : u ∈ D.q := by rw [hq]; exact List.mem_of_getElem? hu
      obtain ⟨hu1, hu2⟩ := hd.wf.q u hmem
      have hkm : (ws.map encW)[k]? = some (encW u) := by simp [hu]
      have hfl := flat_len (encW_all ws)
      rw [List.length_map] at hfl
      have ew : IntKind.wrap .i64 ((k : Int) + 1) = ((k + 1 : Nat) : Int) := by rw [wrap64 (by omega) (by omega)]; rfl
      rw [ew]
      have hdrop : ws.drop k = u :: ws.drop (k + 1) := by
        obtain ⟨hlt', he⟩ := List.getElem?_eq_some_iff.1 hu
        rw [List.drop_eq_getElem_cons hlt', he]
      have hdropk : ks.drop k = kb :: ks.drop (k + 1) := by
        obtain ⟨hlt', he⟩ := List.getElem?_eq_some_iff.1 hkb
        rw [List.drop_eq_getElem_cons hlt', he]
      refine ok_ixSl (k := k) rfl hlt ?_
      refine ok_ldB h (x := kb) (by rw [Nat.zero_add, Nat.mul_one]; exact bcs_get hkb) ?_
      refine ok_cond (fun hc2 => ?_) (fun hc2 => ?_)
      · subst hc2
        refine ok_gO (ok_ldL h rfl (ok_ixSl (k := k) rfl hlt ?_))
        refine ok_ldn h (by rw [hfl]; omega) (d := encW u) (by rw [Nat.zero_add]; exact flat_at (encW_all ws) hkm) ?_
        obtain ⟨v, S9, e, rfl, hd', h⟩ := rsettle_ok n hd h u hu1 hu2
        rw [callT_of e]
        refine rcrash_loop2 n0 n ws ks hks m (k + 1) (D.settle u) S9 bs sc bh hk bq bk qc F Q hq (by omega) (by omega) hd' h (fun S' hd'' h'' => ht S' ?_ ?_)
        · rw [hdrop, hdropk]; exact hd''
        · rw [hdrop, hdropk]; exact h''
      · subst hc2
        refine rcrash_loop2 n0 n ws ks hks m (k + 1) D S bs sc bh hk bq bk qc F Q hq (by omega) (by omega) hd h (fun S' hd'' h'' => ht S' ?_ ?_)
        · rw [hdrop, hdropk]; exact hd''
        · rw [hdrop, hdropk]; exact h''
    · simp only [decide_eq_false_iff_not] at hc
      have hk' : k = ws.length := by omega
      subst hk'
      have e1 : ks.drop ws.length = [] := by rw [← hks]; exact List.drop_length
      refine ht S ?_ ?_
      · rw [List.drop_length, e1]; exact hd
      · rw [List.drop_length, e1]; exact h

theorem rcrash_ok (n : Nat) (hn : 70000 < n) (h : Hp X S (L ++ F)) (hd : Ref w D L) {keep : List Int} {ka : Option Pos} {kl : Nat} {kc : Cap} (hr : RdR X F ka (ics keep)) (hl : kl = keep.length) (hk : keep.length < 70000) :
    Ok (ev (n + 2) (.fn 53) [.ptr (some (.rw w, 0)), .sl ka kl kc] S) fun v S' => v = .tup [] ∧ ∃ L', Ref w (D.crash keep) L' ∧ Hp X S' (L' ++ F) := by
  subst hl
  obtain ⟨bs, sc, bh, hk, qa, ql, qc, Lq, hR, rfl⟩ := hd
  have hwf := hR.wf
  have hql4 := hwf.ql
  have := hR.ql_eq
  subst this
  rw [ev, F53 _ _ _ _ _ _ (oL rfl)]
  simp only [J53, b53_entry]
  refine ok_gO (ok_ldL h rfl ?_)
  refine ok_mkSl (l := D.q.length) (c := D.q.length) rfl rfl (Nat.le_refl _) (by simp [pow46]; omega) (by simp [pow46]; omega) ?_
  refine ok_newA h (fun bk S4 h => ?_)
  rw [zeros_oneB] at h
  have tail : ∀ (D' : DM) S' sc hk qa ql qc Lq' F', RefR w D' bs sc bh hk qa ql qc Lq' → Hp X S' (C w (rhdr D' (some (.rw bs, 0)) sc (some (.rw bh, 0)) hk qa ql qc) :: C bs (dcells D') :: C bh (hcells D') :: F') → F.Sublist F' → D.crash keep = { D' with q := [] } →
      Ok (J53_j1_1_1 (ev (n + 1)) (n + 1) (some (.rw w, 0)) S') fun v S' => v = .tup [] ∧ ∃ L', Ref w (D.crash keep) L' ∧ Hp X S' (L' ++ F) := by
    intro D' S' sc hk qa ql qc Lq' F' hd' h' hs hf
    simp only [J53_j1_1_1, b53_j1_1_1]
    refine ok_gO (ok_stn h' (by simp [rhdr]) (d := rhdr { D' with q := [] } (some (.rw bs, 0)) sc (some (.rw bh, 0)) hk none 0 (.ex 0)) (by simp [rhdr, splice]) (fun S2 h2 => ?_))
    refine ok_ret ⟨rfl, ?_⟩
    rw [hf]
    refine ⟨_, ⟨bs, sc, bh, hk, none, 0, .ex 0, [], ⟨⟨hd'.wf.lo, hd'.wf.hi, hd'.wf.n1, hd'.wf.n2, hd'.wf.s, by simp, by simp⟩, hd'.cs, hd'.ch, .nil⟩, rfl⟩, ?_⟩
    exact h2.sub (((hs.cons_cons _).cons_cons _).cons_cons _)
  refine rcrash_loop1 (ev (n + 1)) (n + 1) (G := (C w (rhdr D (some (.rw bs, 0)) sc (some (.rw bh, 0)) hk qa D.q.length qc) :: C bs (dcells D) :: C bh (hcells D) :: Lq) ++ F) (hr.mono (fun e he => by simp [he])) (by omega) (fun S' h => ?_) (n + 1) 0 S4 (Nat.zero_le _) (by omega) h
  simp only [J53_j1_1, b53_j1_1]
  rcases hR.queue with ⟨rfl, hq0, rfl, hq, rfl⟩ | ⟨bq, rfl, _, hqc, rfl⟩
  · rw [J53_l1_1_0_1_0_succ]
    simp only [b53_l1_1_0_1_0]
    refine ok_gO (ok_ldL h rfl (ok_false (by simp [hq]) ?_))
    refine tail D S' sc hk none _ (.ex 0) [] (C bk (bcs (kept D.q.length keep)) :: F) hR ?_ (List.sublist_cons_self _ _) ?_
    · exact h.re (by intro p; simp only [List.countP_append, List.countP_cons, List.countP_nil, List.cons_append, C]; omega)
    · simp [DM.crash, hq, DM.some_]
  · refine rcrash_loop2 (X := X) (n + 1) n D.q (kept D.q.length keep) (by simp [kept]) (n + 1) 0 D S' bs sc bh hk bq bk qc F _ rfl (Nat.zero_le _) (by omega) hR ?_ (fun S2 hd' h' => ?_)
    · exact h.re (by intro p; simp only [List.countP_append, List.countP_cons, List.countP_nil, List.cons_append, C]; omega)
    · rw [List.drop_zero, List.drop_zero] at hd' h'
      exact tail _ S2 sc hk _ _ _ _ (C bq (D.q.map encW).flatten :: C bk (bcs (kept D.q.length keep)) :: F) hd' h' ((List.sublist_cons_self _ _).trans (List.sublist_cons_self _ _)) rfl

theorem rinj_loop (call : CallA) (n0 : Nat) {bs : Nat} {sc : Cap} {bh : Nat} {hk : Cap} {qa : Option Pos} {ql : Nat} {qc : Cap} {Lq : List Ent} (hR : RefR w D bs sc bh hk qa ql qc Lq) : ∀ (m i : Nat) (S : AS) (a : Option Pos) (l : Nat) (c : Cap) (L1 : List Ent), i ≤ D.secs.length → D.secs.length - i < m → SlR a l c 1 (ixs (D.injTo i)) L1 → Hp X S (L1 ++ ((C w (rhdr D (some (.rw bs, 0)) sc (some (.rw bh, 0)) hk qa ql qc) :: C bs (dcells D) :: C bh (hcells D) :: Lq) ++ F)) →
    Ok (J57_l1_1_0_1_0 call n0 m (some (.rw w, 0)) a l c i S) fun v S' => ∃ a l c L', v = .sl a l c ∧ SlR a l c 1 (ixs D.injured) L' ∧ Hp X S' (L' ++ ((C w (rhdr D (some (.rw bs, 0)) sc (some (.rw bh, 0)) hk qa ql qc) :: C bs (dcells D) :: C bh (hcells D) :: Lq) ++ F))
  | 0, i, S, a, l, c, L1, hi, hm, hs, h => by omega
  | m + 1, i, S, a, l, c, L1, hi, hm, hs, h => by
    have hwf := hR.wf
    have hn2 := hwf.n2
    rw [J57_l1_1_0_1_0_succ]
    simp only [b57_l1_1_0_1_0, J57_j1_1_0_1_0_0_1_1, b57_j1_1_0_1_0_0_1_1]
    refine ok_gO (ok_ldL h rfl ?_)
    refine ok_cond (fun hc => ?_) (fun hc => ?_)
    · simp only [decide_eq_true_eq] at hc
      have hlt : i < D.secs.length := by omega
      obtain ⟨x, hx⟩ := sec_at hlt
      refine ok_gO (ok_ldL h rfl (ok_ixSl (k := i) rfl hlt ?_))
      refine ok_ldI h (hcells_get hx) ?_
      have hh : D.hurtAt i = x.h := by simp [DM.hurtAt, hx]
      have ew : IntKind.wrap .i64 ((i : Int) + 1) = ((i + 1 : Nat) : Int) := by rw [wrap64 (by omega) (by omega)]; rfl
      rw [ew]
      refine ok_cond (fun hc2 => ?_) (fun hc2 => ?_)
      · simp only [bne_iff_ne, ne_eq] at hc2
        refine ok_newA h (fun b7 S8 h => ?_)
        have h' := h.re (M := L1 ++ (C b7 [.int .i64 i] :: ((C w (rhdr D (some (.rw bs, 0)) sc (some (.rw bh, 0)) hk qa ql qc) :: C bs (dcells D) :: C bh (hcells D) :: Lq) ++ F))) (by intro p; simp only [List.countP_append, List.countP_cons, List.cons_append, C]; omega)
        have hle := DM.injTo_len D i
        refine ok_append h' hs (ys := [[.int .i64 i]]) (by simp) rfl (fun K => ?_) (by decide) (by simp [pow46]; omega) (by simp [pow46]; omega) (fun a l c S3 L2 hs' h3 => ?_)
        · have := RdR.first (.rw (X := X) (b := b7) (i := 0) (c := [.int .i64 i]) (cs := [.int .i64 i]) List.mem_cons_self (by simp) rfl) h (sz := 1) (n := 1) rfl (by decide) (l := 1) (c := .ex 1) K
          simpa using this
        · have e1 : ixs (D.injTo i) ++ [[.int .i64 (i : Int)]] = ixs (D.injTo (i + 1)) := by
            rw [DM.injTo, if_pos (by rw [hh]; exact hc2)]
            simp [ixs]
          rw [e1] at hs'
          exact rinj_loop call n0 hR m (i + 1) S3 a l c L2 hlt (by omega) hs' (h3.sub (List.Sublist.append (List.Sublist.refl _) (List.sublist_cons_self _ _)))
      · simp only [bne_eq_false_iff_eq] at hc2
        have e1 : ixs (D.injTo i) = ixs (D.injTo (i + 1)) := by rw [DM.injTo, if_neg (by rw [hh, hc2]; simp)]
        rw [e1] at hs
        exact rinj_loop call n0 hR m (i + 1) S a l c L1 hlt (by omega) hs h
    · simp only [decide_eq_false_iff_not] at hc
      have : i = D.secs.length := by omega
      subst this
      exact ok_ret ⟨a, l, c, L1, rfl, hs, h⟩

theorem rinjured_ok (n : Nat) (hn : 65536 < n) (h : Hp X S (L ++ F)) (hd : Ref w D L) :
    Ok (ev (n + 1) (.fn 57) [.ptr (some (.rw w, 0))] S) fun v S' => ∃ a l c L', v = .sl a l c ∧ SlR a l c 1 (ixs D.injured) L' ∧ Hp X S' (L' ++ (L ++ F)) := by
  obtain ⟨bs, sc, bh, hk, qa, ql, qc, Lq, hR, rfl⟩ := hd
  rw [ev, F57 _ _ _ (oL rfl)]
  simp only [J57, b57_entry]
  exact rinj_loop _ n hR n 0 S none 0 (.ex 0) [] (Nat.zero_le _) (by have := hR.wf.n2; omega) .nil h

/-- Two lists of waiting writes compared. -/
theorem rsectors_eq (n : Nat) (hn : 70000 < n) {P Q : List (Nat × List UInt8)} (hp : P.length ≤ 4096) {pa qa : Option Pos} {pl ql : Nat} {pc qc : Cap} {L1 L2 : List Ent} (h : Hp X S L) (h1 : SlR pa pl pc 2 (P.map encW) L1) (h2 : SlR qa ql qc 2 (Q.map encW) L2) (m1 : ∀ e ∈ L1, e ∈ L) (m2 : ∀ e ∈ L2, e ∈ L) :
    ∃ r : Bool, ev (n + 1) (.fn 30) [.sl pa pl pc, .sl qa ql qc] S = some (.bool r, S) ∧ (r = true ↔ P = Q) := by
  have hpl := h1.len
  have hql := h2.len
  rw [List.length_map] at hpl hql
  rw [ev, F30 _ _ _ _ _ _ _ _ (oL rfl)]
  simp only [J30, b30_entry]
  by_cases hl : pl = ql
  · rw [show (((pl : Nat) : Int) != ((ql : Nat) : Int)) = false by simp [hl]]
    simp only [cond_false]
    obtain ⟨r, e, hr⟩ := eq_loop (Lp := fun m i S => J30_l1_1_0_1_0 (evF E orcL n) n m pa pl pc qa ql qc false i S) (sz := 2) (n := pl) (ti := ty52) (xs := P.map encW) (ys := Q.map encW) (S := S)
      (fun m i S => rfl) h (h1.rd m1) (h2.rd m2) (by simpa using hpl) (by simpa using hql) (by simpa using hpl) (by simp; omega) (encW_all _) (encW_all _) (by decide) rfl
      (by intro x hx; obtain ⟨y, hy, rfl⟩ := List.mem_map.1 hx; exact fit_w y)
      (by intro x hx; obtain ⟨y, hy, rfl⟩ := List.mem_map.1 hx; exact fit_w y)
      (by intro x hx; obtain ⟨y, hy, rfl⟩ := List.mem_map.1 hx; exact scal_w y) (by omega) n 0 (Nat.zero_le _) (by omega)
    refine ⟨r, e, ?_⟩
    rw [hr, List.drop_zero, List.drop_zero]
    exact map_inj_on (fun x hx y hy => encW_inj)
  · rw [show (((pl : Nat) : Int) != ((ql : Nat) : Int)) = true by simp; omega]
    refine ⟨false, rfl, ?_⟩
    constructor
    · intro hf; cases hf
    · intro he; rw [he] at hpl; omega

/-- Two lists of numbers compared. -/
theorem rints_eq (n : Nat) {P Q : List Int} (hp : P.length ≤ 70000) (hn : 70000 < n) {pa qa : Option Pos} {pl ql : Nat} {pc qc : Cap} (h : Hp X S L) (h1 : RdR X L pa (ics P)) (h2 : RdR X L qa (ics Q)) (hpl : pl = P.length) (hql : ql = Q.length) :
    ∃ r : Bool, ev (n + 1) (.fn 24) [.sl pa pl pc, .sl qa ql qc] S = some (.bool r, S) ∧ (r = true ↔ P = Q) := by
  rw [ev, F24 _ _ _ _ _ _ _ _ (oL rfl)]
  simp only [J24, b24_entry]
  by_cases hl : pl = ql
  · rw [show (((pl : Nat) : Int) != ((ql : Nat) : Int)) = false by simp [hl]]
    simp only [cond_false]
    have loop : ∀ (m i : Nat), i ≤ pl → pl - i < m → ∃ r : Bool, J24_l1_1_0_1_0 (evF E orcL n) n m pa pl pc qa ql qc false i S = some (.bool r, S) ∧ (r = true ↔ P.drop i = Q.drop i) := by
      intro m
      induction m with
      | zero => intro i _ hm; omega
      | succ m ih =>
        intro i hi hm
        rw [J24_l1_1_0_1_0_succ]
        simp only [b24_l1_1_0_1_0]
        by_cases hlt : i < pl
        · rw [show decide ((i : Int) < ((pl : Nat) : Int)) = true by simpa using hlt]
          simp only [cond_true]
          obtain ⟨x, hx⟩ : ∃ x, P[i]? = some x := ⟨P[i]'(by omega), List.getElem?_eq_getElem (by omega)⟩
          obtain ⟨y, hy⟩ : ∃ y, Q[i]? = some y := ⟨Q[i]'(by omega), List.getElem?_eq_getElem (by omega)⟩
          obtain ⟨p, rfl⟩ := h1.some_of (by intro he; have := congrArg List.length he; simp at this; rw [this] at hx; simp at hx)
          obtain ⟨q, rfl⟩ := h2.some_of (by intro he; have := congrArg List.length he; simp at this; rw [this] at hy; simp at hy)
          rw [ixSl_at rfl hlt, Nat.mul_one, h1.ldI h (k := .i64) (v := x) (by simp [ics, hx]), ixSl_at rfl (by omega), Nat.mul_one, h2.ldI h (k := .i64) (v := y) (by simp [ics, hy])]
          have hd : ∀ {zs : List Int} {z : Int}, zs[i]? = some z → zs.drop i = z :: zs.drop (i + 1) := by
            intro zs z h
            obtain ⟨hlt', he⟩ := List.getElem?_eq_some_iff.1 h
            rw [List.drop_eq_getElem_cons hlt', he]
          rw [hd hx, hd hy]
          by_cases hxy : x = y
          · subst hxy
            rw [show (x != x) = false by simp]
            simp only [cond_false]
            rw [wrap64 (by omega) (by omega)]
            obtain ⟨r, e, hr⟩ := ih (i + 1) (by omega) (by omega)
            exact ⟨r, e, by rw [hr]; simp⟩
          · rw [show (x != y) = true by simpa using hxy]
            exact ⟨false, rfl, by simp [hxy]⟩
        · rw [show decide ((i : Int) < ((pl : Nat) : Int)) = false by simpa using hlt]
          refine ⟨true, rfl, ?_⟩
          rw [List.drop_of_length_le (by omega), List.drop_of_length_le (by omega)]
          simp
    obtain ⟨r, e, hr⟩ := loop n 0 (Nat.zero_le _) (by omega)
    exact ⟨r, e, by rw [hr, List.drop_zero, List.drop_zero]⟩
  · rw [show (((pl : Nat) : Int) != ((ql : Nat) : Int)) = true by simp; omega]
    refine ⟨false, rfl, ?_⟩
    constructor
    · intro hf; cases hf
    · intro he; rw [he] at hpl; omega
end

end Go.Dk
