/- What the functions of package disk do with a heap: crashes, copies, comparisons. -/
import Derived.Test.YtmehlagfkmnipaaDiskE
set_option linter.unusedVariables false
set_option linter.unusedSimpArgs false
set_option maxRecDepth 4000
namespace Go.Dk
open Go.Gr

/- ---- truth values as cells -/
def bcs (l : List Bool) : List AV := l.map fun b => .bool b
@[simp] theorem bcs_len (l : List Bool) : (bcs l).length = l.length := by simp [bcs]
theorem bcs_get {l : List Bool} {i : Nat} {v : Bool} (h : l[i]? = some v) : (bcs l)[i]? = some (.bool v) := by simp [bcs, h]
theorem bcs_set {l : List Bool} {i : Nat} (v : Bool) (h : i < l.length) : splice (bcs l) i [.bool v] = bcs (l.set i v) := by
  simp only [splice, bcs, List.map_set]
  rw [List.set_eq_take_append_cons_drop, if_pos (by simpa using h)]
  simp

theorem zeros_oneB (n : Nat) : zeros n [AV.bool false] = bcs (List.replicate n false) := by
  induction n with
  | zero => rfl
  | succ n ih =>
    have : zeros (n + 1) [AV.bool false] = AV.bool false :: zeros n [AV.bool false] := by simp [zeros, List.replicate_succ]
    rw [this, ih]; simp [bcs, List.replicate_succ]

/-- Which of the writes are kept: of numbers up to a place. -/
def keptTo (n : Nat) (keep : List Int) : Nat → List Bool
  | 0 => List.replicate n false
  | i + 1 => match keep[i]? with
    | some v => if 0 ≤ v ∧ v < n then (keptTo n keep i).set v.toNat true else keptTo n keep i
    | none => keptTo n keep i
@[simp] theorem keptTo_len (n : Nat) (keep : List Int) : ∀ i, (keptTo n keep i).length = n
  | 0 => by simp [keptTo]
  | i + 1 => by
    have := keptTo_len n keep i
    simp only [keptTo]
    split
    · split <;> simp [this]
    · exact this
def kept (n : Nat) (keep : List Int) : List Bool := keptTo n keep keep.length

/-- The writes that are kept, from a place on. -/
def DM.some_ (D : DM) (ks : List Bool) (ws : List (Nat × List UInt8)) : DM := (ks.zip ws).foldl (fun D p => if p.1 then D.settle p.2 else D) D

section
variable {X : Cx} {S : AS} {L F : List Ent} {b : Nat} {D : DM}

/-- Integers that are read somewhere. -/
def ics (l : List Int) : List AV := l.map fun i => .int .i64 i
@[simp] theorem ics_len (l : List Int) : (ics l).length = l.length := by simp [ics]

theorem crash_loop1 (call : CallA) (n0 : Nat) {N : Nat} {keep : List Int} {ka : Option Pos} {kc cp : Cap} {bk : Nat} {G : List Ent} (hr : RdR X G ka (ics keep)) (hkl : keep.length < 9223372036854775807) {Q : AV → AS → Prop}
    (ht : ∀ S', Hp X S' (C bk (bcs (kept N keep)) :: G) → Ok (J32_j1_1_1 call n0 (some (.rw b, 0)) (some (.rw bk, 0)) N cp S') Q) : ∀ (m i : Nat) (S : AS), i ≤ keep.length → keep.length - i < m → Hp X S (C bk (bcs (keptTo N keep i)) :: G) →
    Ok (J32_l1_1_0_1_0 call n0 m (some (.rw b, 0)) (some (.rw bk, 0)) N cp ka keep.length kc (keep.length : Nat) i S) Q
  | 0, i, S, hi, hm, h => by omega
  | m + 1, i, S, hi, hm, h => by
    rw [J32_l1_1_0_1_0_succ]
    simp only [b32_l1_1_0_1_0, J32_j1_1_0_1_0_0_1_1_1, b32_j1_1_0_1_0_0_1_1_1]
    refine ok_cond (fun hc => ?_) (fun hc => ?_)
    · simp only [decide_eq_true_eq] at hc
      have hlt : i < keep.length := by omega
      obtain ⟨v, hv⟩ : ∃ v, keep[i]? = some v := ⟨keep[i], by simp [hlt]⟩
      have hne : ics keep ≠ [] := by intro he; have := congrArg List.length he; simp at this; rw [this] at hlt; simp at hlt
      obtain ⟨⟨pb, po⟩, rfl⟩ := hr.some_of hne
      have ew : IntKind.wrap .i64 ((i : Int) + 1) = ((i + 1 : Nat) : Int) := by rw [wrap64 (by omega) (by omega)]; rfl
      rw [ew]
      refine ok_ixSl (k := i) rfl hlt ?_
      rw [Nat.mul_one]
      rw [(hr.mono (M := C bk (bcs (keptTo N keep i)) :: G) (fun e he => List.mem_cons_of_mem _ he)).ldI h (i := i) (v := v) (by simp [ics, hv])]
      have next : ∀ S', Hp X S' (C bk (bcs (keptTo N keep (i + 1))) :: G) → Ok (J32_l1_1_0_1_0 call n0 m (some (.rw b, 0)) (some (.rw bk, 0)) N cp (some (pb, po)) keep.length kc (keep.length : Nat) ((i + 1 : Nat) : Int) S') Q := fun S' h' =>
        crash_loop1 call n0 hr hkl ht m (i + 1) S' (by omega) (by omega) h'
      have stay : ¬ (0 ≤ v ∧ v < N) → keptTo N keep (i + 1) = keptTo N keep i := fun hn => by simp only [keptTo, hv, if_neg hn]
      refine ok_cond (fun hc1 => ?_) (fun hc1 => ?_)
      · simp only [ge_iff_le, decide_eq_true_eq] at hc1
        refine ok_cond (fun hc2 => ?_) (fun hc2 => ?_)
        · simp only [decide_eq_true_eq] at hc2
          obtain ⟨u, rfl⟩ : ∃ u : Nat, v = u := ⟨v.toNat, by omega⟩
          refine ok_ixSl (k := u) rfl (by omega) ?_
          refine ok_stn h (by simp; omega) (d := bcs (keptTo N keep (i + 1))) ?_ (fun S10 h => next S10 h)
          rw [Nat.zero_add, Nat.mul_one, bcs_set true (by simp; omega)]
          simp only [keptTo, hv]
          rw [if_pos (by omega)]; rfl
        · simp only [decide_eq_false_iff_not] at hc2
          exact next S (by rw [stay (by omega)]; exact h)
      · simp only [ge_iff_le, decide_eq_false_iff_not] at hc1
        exact next S (by rw [stay (by omega)]; exact h)
    · simp only [decide_eq_false_iff_not] at hc
      have : i = keep.length := by omega
      subst this
      exact ht S h

theorem crash_loop2 (n0 n : Nat) (ws : List (Nat × List UInt8)) (ks : List Bool) (hks : ks.length = ws.length) {cp : Cap} : ∀ (m k : Nat) (D : DM) (S : AS) (sa : Option Pos) (sl : Nat) (sc : Cap) (bq bk : Nat) (qc : Cap) (Ls F : List Ent) (Q : AV → AS → Prop),
    D.q = ws → k ≤ ws.length → ws.length - k < m → DiskR b D sa sl sc (some (.rw bq, 0)) ws.length qc Ls [C bq (ws.map encW).flatten] → Hp X S (C b (hdr D sa sl sc (some (.rw bq, 0)) ws.length qc) :: (Ls ++ (C bq (ws.map encW).flatten :: C bk (bcs ks) :: F))) →
    (∀ S' Ls', DiskR b (D.some_ (ks.drop k) (ws.drop k)) sa sl sc (some (.rw bq, 0)) ws.length qc Ls' [C bq (ws.map encW).flatten] → Hp X S' (C b (hdr (D.some_ (ks.drop k) (ws.drop k)) sa sl sc (some (.rw bq, 0)) ws.length qc) :: (Ls' ++ (C bq (ws.map encW).flatten :: C bk (bcs ks) :: F))) → Ok (J32_j1_1_1_1 (ev (n + 1)) n0 (some (.rw b, 0)) S') Q) →
    Ok (J32_l1_1_1_0_1_0 (ev (n + 1)) n0 m (some (.rw b, 0)) (some (.rw bk, 0)) ws.length cp (some (.rw bq, 0)) ws.length qc (ws.length : Nat) (k : Nat) S) Q
  | 0, k, D, S, sa, sl, sc, bq, bk, qc, Ls, F, Q, hq, hk, hm, hd, h, ht => by omega
  | m + 1, k, D, S, sa, sl, sc, bq, bk, qc, Ls, F, Q, hq, hk, hm, hd, h, ht => by
    have hql : ws.length ≤ 4096 := by rw [← hq]; exact hd.wf.ql
    rw [J32_l1_1_1_0_1_0_succ]
    simp only [b32_l1_1_1_0_1_0, J32_j1_1_1_0_1_0_0_1_1_1, b32_j1_1_1_0_1_0_0_1_1_1]
    refine ok_cond (fun hc => ?_) (fun hc => ?_)
    · simp only [decide_eq_true_eq] at hc
      have hlt : k < ws.length := by omega
      obtain ⟨w, hw⟩ : ∃ w, ws[k]? = some w := ⟨ws[k], by simp [hlt]⟩
      obtain ⟨kb, hkb⟩ : ∃ kb, ks[k]? = some kb := ⟨ks[k]'(by omega), by simp [hks, hlt]⟩
      have hmem : w ∈ D.q := by rw [hq]; exact List.mem_of_getElem? hw
      obtain ⟨hw1, hw2⟩ := hd.wf.q w hmem
      have hkm : (ws.map encW)[k]? = some (encW w) := by simp [hw]
      have hfl := flat_len (encW_all ws)
      rw [List.length_map] at hfl
      have hdrop : ws.drop k = w :: ws.drop (k + 1) := by
        obtain ⟨hlt', he⟩ := List.getElem?_eq_some_iff.1 hw
        rw [List.drop_eq_getElem_cons hlt', he]
      have hdropk : ks.drop k = kb :: ks.drop (k + 1) := by
        obtain ⟨hlt', he⟩ := List.getElem?_eq_some_iff.1 hkb
        rw [List.drop_eq_getElem_cons hlt', he]
      have ew : IntKind.wrap .i64 ((k : Int) + 1) = ((k + 1 : Nat) : Int) := by rw [wrap64 (by omega) (by omega)]; rfl
      rw [ew]
      refine ok_ixSl (k := k) rfl hlt ?_
      refine ok_ldn h (by rw [hfl]; omega) (d := encW w) (by rw [Nat.zero_add]; exact flat_at (encW_all ws) hkm) ?_
      refine ok_newA h (fun b7 S8 h => ?_)
      refine ok_ifO rfl ?_
      refine ok_stn h (by simp [encW]) (d := encW w) (by simp [encW, splice]) (fun S9 h => ?_)
      refine ok_ixSl (k := k) rfl hlt ?_
      refine ok_ldB h (x := kb) (by rw [Nat.zero_add, Nat.mul_one]; exact bcs_get hkb) ?_
      refine ok_cond (fun hc2 => ?_) (fun hc2 => ?_)
      · subst hc2
        refine ok_ldn h (by simp [encW]) (d := encW w) (by simp [encW]) ?_
        have h' := h.re (M := C b (hdr D sa sl sc (some (.rw bq, 0)) ws.length qc) :: (Ls ++ (C bq (ws.map encW).flatten :: C bk (bcs ks) :: (C b7 (encW w) :: F)))) (by intro p; simp only [List.countP_append, List.countP_cons, List.cons_append, C]; omega)
        obtain ⟨v, S11, e, rfl, Ls', hd', h⟩ := settle_ok n hd h' w hw1 hw2
        rw [callT_of e]
        refine crash_loop2 n0 n ws ks hks m (k + 1) (D.settle w) S11 sa sl sc bq bk qc Ls' F Q hq (by omega) (by omega) hd' ?_ (fun S' Ls'' hd'' h'' => ht S' Ls'' ?_ ?_)
        · exact (h.re (M := C b7 (encW w) :: C b (hdr (D.settle w) sa sl sc (some (.rw bq, 0)) ws.length qc) :: (Ls' ++ (C bq (ws.map encW).flatten :: C bk (bcs ks) :: F))) (by intro p; simp only [List.countP_append, List.countP_cons, List.cons_append, C]; omega)).drop1
        · rw [hdrop, hdropk]; exact hd''
        · rw [hdrop, hdropk]; exact h''
      · subst hc2
        refine crash_loop2 n0 n ws ks hks m (k + 1) D S9 sa sl sc bq bk qc Ls F Q hq (by omega) (by omega) hd h.drop1 (fun S' Ls'' hd'' h'' => ht S' Ls'' ?_ ?_)
        · rw [hdrop, hdropk]; exact hd''
        · rw [hdrop, hdropk]; exact h''
    · simp only [decide_eq_false_iff_not] at hc
      have hk' : k = ws.length := by omega
      subst hk'
      have e1 : ks.drop ws.length = [] := by rw [← hks]; exact List.drop_length
      refine ht S Ls ?_ ?_
      · rw [List.drop_length, e1]; exact hd
      · rw [List.drop_length, e1]; exact h

def DM.crash (D : DM) (keep : List Int) : DM := { D.some_ (kept D.q.length keep) D.q with q := [] }

theorem crash_ok (n : Nat) (hn : 70000 < n) (h : Hp X S (L ++ F)) (hd : Disk b D L) {keep : List Int} {ka : Option Pos} {kl : Nat} {kc : Cap} (hr : RdR X F ka (ics keep)) (hl : kl = keep.length) (hk : keep.length < 70000) :
    Ok (ev (n + 2) (.fn 32) [.ptr (some (.rw b, 0)), .sl ka kl kc] S) fun v S' => v = .tup [] ∧ ∃ L', Disk b (D.crash keep) L' ∧ Hp X S' (L' ++ F) := by
  subst hl
  obtain ⟨sa, sl, sc, qa, ql, qc, Ls, Lq, hR, rfl⟩ := hd
  have hwf := hR.wf
  have hql := hwf.ql
  have := hR.ql_eq
  subst this
  rw [ev, F32 _ _ _ _ _ _ (oL rfl)]
  simp only [J32, b32_entry]
  refine ok_false rfl (ok_gO (ok_ldL h rfl ?_))
  refine ok_mkSl (l := D.q.length) (c := D.q.length) rfl rfl (Nat.le_refl _) (by simp [pow46]; omega) (by simp [pow46]; omega) ?_
  refine ok_newA h (fun bk S4 h => ?_)
  rw [zeros_oneB] at h
  have tail : ∀ (D' : DM) S' sa sl sc qa ql qc Ls' Lq' F', DiskR b D' sa sl sc qa ql qc Ls' Lq' → Hp X S' (C b (hdr D' sa sl sc qa ql qc) :: (Ls' ++ F')) → F.Sublist F' → D.crash keep = { D' with q := [] } →
      Ok (J32_j1_1_1_1 (ev (n + 1)) (n + 1) (some (.rw b, 0)) S') fun v S' => v = .tup [] ∧ ∃ L', Disk b (D.crash keep) L' ∧ Hp X S' (L' ++ F) := by
    intro D' S' sa sl sc qa ql qc Ls' Lq' F' hd' h' hs hf
    simp only [J32_j1_1_1_1, b32_j1_1_1_1]
    refine ok_gO (ok_stn h' (by simp [hdr]) (d := hdr { D' with q := [] } sa sl sc none 0 (.ex 0)) (by simp [hdr, splice]) (fun S2 h2 => ?_))
    refine ok_ret ⟨rfl, ?_⟩
    rw [hf]
    refine ⟨C b (hdr { D' with q := [] } sa sl sc none 0 (.ex 0)) :: (Ls' ++ []), ⟨sa, sl, sc, none, 0, .ex 0, Ls', [], ⟨⟨hd'.wf.lo, hd'.wf.hi, hd'.wf.n1, hd'.wf.n2, hd'.wf.s, by simp, by simp⟩, hd'.hs, .nil⟩, rfl⟩, ?_⟩
    refine h2.sub ?_
    simp only [List.append_nil, List.cons_append]
    exact (List.Sublist.append (List.Sublist.refl _) hs).cons_cons _
  refine crash_loop1 (ev (n + 1)) (n + 1) (G := C b (hdr D sa sl sc qa D.q.length qc) :: (Ls ++ Lq) ++ F) (hr.mono (fun e he => by simp [he])) (by omega) (fun S' h => ?_) (n + 1) 0 S4 (Nat.zero_le _) (by omega) h
  simp only [J32_j1_1_1, b32_j1_1_1]
  refine ok_gO (ok_ldL h rfl ?_)
  rcases hR.queue with ⟨rfl, hq0, rfl, hq, rfl⟩ | ⟨bq, rfl, _, hqc, rfl⟩
  · rw [J32_l1_1_1_0_1_0_succ]
    simp only [b32_l1_1_1_0_1_0, hq]
    refine ok_false (by simp) ?_
    refine tail D S' sa sl sc none _ (.ex 0) Ls [] (C bk (bcs (kept D.q.length keep)) :: F) hR ?_ (List.sublist_cons_self _ _) ?_
    · exact h.re (by intro p; simp only [List.countP_append, List.countP_cons, List.countP_nil, List.cons_append, C, hq, List.length_nil]; omega)
    · simp [DM.crash, hq, DM.some_]
  · refine crash_loop2 (X := X) (n + 1) n D.q (kept D.q.length keep) (by simp [kept]) (n + 1) 0 D S' sa sl sc bq bk qc Ls F _ rfl (Nat.zero_le _) (by omega) hR ?_ (fun S2 Ls' hd' h' => ?_)
    · exact h.re (by intro p; simp only [List.countP_append, List.countP_cons, List.countP_nil, List.cons_append, C]; omega)
    · rw [List.drop_zero, List.drop_zero] at hd' h'
      exact tail _ S2 sa sl sc _ _ _ Ls' _ (C bq (D.q.map encW).flatten :: C bk (bcs (kept D.q.length keep)) :: F) hd' h' ((List.sublist_cons_self _ _).trans (List.sublist_cons_self _ _)) rfl
end

end Go.Dk
