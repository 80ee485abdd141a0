/- What the functions of the document's answer for the disk do with a heap. -/
import Derived.Test.YtmehlagfkmnipaaDiskH
set_option linter.unusedVariables false
set_option linter.unusedSimpArgs false
set_option maxRecDepth 4000
namespace Go.Dk
open Go.Gr

def encD (x : Sec) : List AV := [.str x.d]
def encH (x : Sec) : List AV := [.int .i64 x.h]
theorem encD_all (l : List Sec) : ∀ x ∈ l.map encD, x.length = 1 := by
  intro x hx
  obtain ⟨y, _, rfl⟩ := List.mem_map.1 hx
  rfl
theorem encH_all (l : List Sec) : ∀ x ∈ l.map encH, x.length = 1 := by
  intro x hx
  obtain ⟨y, _, rfl⟩ := List.mem_map.1 hx
  rfl

def rhdr (D : DM) (sa : Option Pos) (sc : Cap) (ha : Option Pos) (hc : Cap) (qa : Option Pos) (ql : Nat) (qc : Cap) : List AV :=
  [.sl sa D.secs.length sc, .sl ha D.secs.length hc, .sl qa ql qc, .bool D.off, .int .i64 D.writes, .int .i64 D.size]

structure RefR (w : Nat) (D : DM) (bs : Nat) (sc : Cap) (bh : Nat) (hk : Cap) (qa : Option Pos) (ql : Nat) (qc : Cap) (Lq : List Ent) : Prop where
  wf : D.WF
  cs : sc = .ex D.secs.length ∨ sc = .op 1 D.secs.length
  ch : hk = .ex D.secs.length ∨ hk = .op 1 D.secs.length
  hq : SlR qa ql qc 2 (D.q.map encW) Lq

def dcells (D : DM) : List AV := (D.secs.map encD).flatten
def hcells (D : DM) : List AV := (D.secs.map encH).flatten

/-- The document's disk in the heap, with all that it owns. -/
def Ref (w : Nat) (D : DM) (L : List Ent) : Prop := ∃ bs sc bh hk qa ql qc Lq, RefR w D bs sc bh hk qa ql qc Lq ∧ L = C w (rhdr D (some (.rw bs, 0)) sc (some (.rw bh, 0)) hk qa ql qc) :: C bs (dcells D) :: C bh (hcells D) :: Lq

theorem RefR.queue {w D bs sc bh hk qa ql qc Lq} (h : RefR w D bs sc bh hk qa ql qc Lq) : (qa = none ∧ ql = 0 ∧ qc = .ex 0 ∧ D.q = [] ∧ Lq = []) ∨ ∃ bq, qa = some (.rw bq, 0) ∧ ql = D.q.length ∧ (qc = .ex D.q.length ∨ qc = .op 2 D.q.length) ∧ Lq = [C bq (D.q.map encW).flatten] := by
  rcases h.hq.dest with ⟨h1, h2, h3, h4, h5⟩ | ⟨bs, h1, h2, h3, h4, _⟩
  · exact .inl ⟨h1, h2, h3, by simpa using h4, h5⟩
  · exact .inr ⟨bs, h1, by simpa using h2, by simpa using h3, h4⟩
theorem RefR.ql_eq {w D bs sc bh hk qa ql qc Lq} (h : RefR w D bs sc bh hk qa ql qc Lq) : ql = D.q.length := by have := h.hq.len; simpa using this

section
variable {X : Cx} {S : AS} {L F : List Ent} {w : Nat} {D : DM}

@[simp] theorem dcells_len : (dcells D).length = D.secs.length := by rw [dcells, flat_len (encD_all _)]; simp
@[simp] theorem hcells_len : (hcells D).length = D.secs.length := by rw [hcells, flat_len (encH_all _)]; simp
theorem dcells_get {k : Nat} {x : Sec} (hx : D.secs[k]? = some x) : (dcells D)[0 + k * 1]? = some (.str x.d) := by
  have := flat_get (j := 0) (encD_all D.secs) (k := k) (x := encD x) (by simp [hx]) (by decide)
  rw [Nat.add_zero] at this
  rw [Nat.zero_add, dcells, this]; rfl
theorem hcells_get {k : Nat} {x : Sec} (hx : D.secs[k]? = some x) : (hcells D)[0 + k * 1]? = some (.int .i64 x.h) := by
  have := flat_get (j := 0) (encH_all D.secs) (k := k) (x := encH x) (by simp [hx]) (by decide)
  rw [Nat.add_zero] at this
  rw [Nat.zero_add, hcells, this]; rfl
theorem dcells_set {k : Nat} (hk : k < D.secs.length) (x : Sec) : splice (dcells D) (0 + k * 1) [.str x.d] = dcells (D.setS k x) := by
  rw [Nat.zero_add, dcells, show [AV.str x.d] = encD x from rfl, flat_splice (encD_all _) (by simpa using hk) rfl, dcells, DM.setS, List.map_set]
theorem hcells_set {k : Nat} (hk : k < D.secs.length) (x : Sec) : splice (hcells D) (0 + k * 1) [.int .i64 x.h] = hcells (D.setS k x) := by
  rw [Nat.zero_add, hcells, show [AV.int .i64 x.h] = encH x from rfl, flat_splice (encH_all _) (by simpa using hk) rfl, hcells, DM.setS, List.map_set]

theorem rin_eq (n : Nat) (h : Hp X S (L ++ F)) (hd : Ref w D L) (at_ : Int) : ev (n + 1) (.fn 60) [.ptr (some (.rw w, 0)), .int .i64 at_] S = some (.bool (D.inn at_), S) := by
  obtain ⟨bs, sc, bh, hk, qa, ql, qc, Lq, hr, rfl⟩ := hd
  apply ok_eq
  rw [ev, F60 _ _ _ _ (oL rfl)]
  simp only [J60, b60_entry]
  refine ok_cond (fun hc => ?_) (fun hc => ?_)
  · refine ok_gO (ok_ldL h rfl (ok_ret ⟨?_, rfl⟩))
    simp only [ge_iff_le, decide_eq_true_eq] at hc
    simp [DM.inn, hc]
  · refine ok_ret ⟨?_, rfl⟩
    simp only [ge_iff_le, decide_eq_false_iff_not] at hc
    simp [DM.inn, hc]

theorem write_wf {at_ : Int} {s : List UInt8} (hwf : D.WF) : (D.write at_ s).WF := by
  rw [DM.write]
  split
  · rename_i hE
    rw [DM.writeE] at hE
    split at hE
    · cases hE
    split at hE
    · cases hE
    split at hE
    · cases hE
    split at hE
    · cases hE
    rename_i h1 h2 h3 h4
    simp only [DM.inn, Bool.and_eq_true, decide_eq_true_eq, Bool.not_eq_false] at h1
    refine ⟨hwf.lo, hwf.hi, hwf.n1, hwf.n2, hwf.s, fun u hu => ?_, by simp; omega⟩
    rcases List.mem_append.1 hu with hu | hu
    · exact hwf.q u hu
    · rw [List.mem_singleton.1 hu]; exact ⟨by simp only; omega, by show s.length = D.size; omega⟩
  · exact hwf

theorem rwrite_ok (n : Nat) (h : Hp X S (L ++ F)) (hd : Ref w D L) (at_ : Int) (s : List UInt8) :
    Ok (ev (n + 2) (.fn 51) [.ptr (some (.rw w, 0)), .int .i64 at_, .str s] S) fun v S' => v = .int .i64 (D.writeE at_ s) ∧ ∃ L', Ref w (D.write at_ s) L' ∧ Hp X S' (L' ++ F) := by
  have hin := rin_eq n h hd at_
  have hd0 := hd
  obtain ⟨bs, sc, bh, hk, qa, ql, qc, Lq, hR, rfl⟩ := hd
  have hql := hR.ql_eq
  have hwf := hR.wf
  rw [ev, F51 _ _ _ _ _ (oL rfl)]
  simp only [J51, b51_entry]
  rw [callB_of hin]
  have same : ∀ e, D.writeE at_ s = e → e ≠ 0 → Ok (some (.int .i64 e, S)) fun v S' => v = .int .i64 (D.writeE at_ s) ∧ ∃ L', Ref w (D.write at_ s) L' ∧ Hp X S' (L' ++ F) := fun e he h0 =>
    ok_ret ⟨by rw [he], _, by rw [DM.write, if_neg (by rw [he]; exact h0)]; exact hd0, h⟩
  refine ok_cond (fun hc => same _ ?_ (by decide)) (fun hc => ?_)
  · simp only [Bool.not_eq_true'] at hc
    simp [DM.writeE, hc]
  simp only [Bool.not_eq_false'] at hc
  refine ok_gO (ok_ldI h rfl ?_)
  refine ok_cond (fun hc2 => same _ ?_ (by decide)) (fun hc2 => ?_)
  · simp only [bne_iff_ne, ne_eq] at hc2
    rw [DM.writeE, if_neg (by simp [hc]), if_pos (by omega)]
  simp only [bne_eq_false_iff_eq] at hc2
  refine ok_gO (ok_ldB h rfl ?_)
  refine ok_cond (fun hc3 => same _ ?_ (by decide)) (fun hc3 => ?_)
  · rw [DM.writeE, if_neg (by simp [hc]), if_neg (by omega), if_pos hc3]
  refine ok_gO (ok_ldL h rfl ?_)
  refine ok_cond (fun hc4 => same _ ?_ (by decide)) (fun hc4 => ?_)
  · simp only [ge_iff_le, decide_eq_true_eq] at hc4
    rw [DM.writeE, if_neg (by simp [hc]), if_neg (by omega), if_neg (by simp [hc3]), if_pos (by omega)]
  simp only [ge_iff_le, decide_eq_false_iff_not] at hc4
  have hE : D.writeE at_ s = 0 := by rw [DM.writeE, if_neg (by simp [hc]), if_neg (by omega), if_neg (by simp [hc3]), if_neg (by omega)]
  refine ok_gO (ok_ldL h rfl ?_)
  refine ok_newA h (fun b11 S12 h => ?_)
  have h' := h.re (M := Lq ++ (C b11 [.int .i64 at_, .str s] :: C w (rhdr D (some (.rw bs, 0)) sc (some (.rw bh, 0)) hk qa ql qc) :: C bs (dcells D) :: C bh (hcells D) :: F)) (by intro p; simp only [List.countP_append, List.countP_cons, List.cons_append, C]; omega)
  have hat : ((at_.toNat : Nat) : Int) = at_ := by
    simp only [DM.inn, Bool.and_eq_true, decide_eq_true_eq] at hc
    exact Int.toNat_of_nonneg hc.1
  have hq4 : D.q.length < 4096 := by omega
  refine ok_append h' hR.hq (ys := [encW (at_.toNat, s)]) (by simp [encW]) rfl (fun K => ?_) (by decide) (by simp [pow46]; omega) (by simp [pow46]; omega) (fun a l c S3 Lq' hq' h => ?_)
  · have := RdR.first (.rw (X := X) (b := b11) (i := 0) (c := [.int .i64 at_, .str s]) (cs := [.int .i64 at_, .str s]) List.mem_cons_self (by simp) rfl) h (sz := 2) (n := 1) rfl (by decide) (l := 1) (c := .ex 1) K
    simpa [encW, hat] using this
  refine ok_gO (ok_stn h (by simp [rhdr]) (d := rhdr (D.write at_ s) (some (.rw bs, 0)) sc (some (.rw bh, 0)) hk a l c) ?_ (fun S4 h => ok_ret ⟨by rw [hE], ?_⟩))
  · simp [DM.write, hE, rhdr, splice]
  refine ⟨_, ⟨bs, sc, bh, hk, a, l, c, Lq', ⟨write_wf hwf, ?_, ?_, ?_⟩, rfl⟩, ?_⟩
  · simpa [DM.write, hE] using hR.cs
  · simpa [DM.write, hE] using hR.ch
  · simpa [DM.write, hE] using hq'
  · have e1 : dcells (D.write at_ s) = dcells D := by simp [DM.write, hE, dcells]
    have e2 : hcells (D.write at_ s) = hcells D := by simp [DM.write, hE, hcells]
    rw [e1, e2]
    exact (h.re (M := C b11 [.int .i64 at_, .str s] :: (C w (rhdr (D.write at_ s) (some (.rw bs, 0)) sc (some (.rw bh, 0)) hk a l c) :: C bs (dcells D) :: C bh (hcells D) :: Lq') ++ F) (by intro p; simp only [List.countP_append, List.countP_cons, List.cons_append, C]; omega)).drop1

theorem rread_eq (n : Nat) (hn : 4097 < n) (h : Hp X S (L ++ F)) (hd : Ref w D L) (at_ : Int) : ev (n + 2) (.fn 58) [.ptr (some (.rw w, 0)), .int .i64 at_] S = some (.tup [.str (D.read at_).1, .int .i64 (D.read at_).2], S) := by
  have hin := rin_eq n h hd at_
  obtain ⟨bs, sc, bh, hk, qa, ql, qc, Lq, hR, rfl⟩ := hd
  have hwf := hR.wf
  have hql := hR.ql_eq
  have hq4 := hwf.ql
  subst hql
  apply ok_eq
  rw [ev, F58 _ _ _ _ (oL rfl)]
  simp only [J58, b58_entry]
  rw [callB_of hin]
  refine ok_cond (fun hc => ?_) (fun hc => ?_)
  · simp only [Bool.not_eq_true'] at hc
    exact ok_ret ⟨by simp [DM.read, hc], rfl⟩
  simp only [Bool.not_eq_false'] at hc
  refine ok_gO (ok_ldB h rfl (ok_cond (fun hc2 => ok_ret ⟨by simp [DM.read, hc, hc2], rfl⟩) (fun hc2 => ?_)))
  obtain ⟨k, rfl, hkl⟩ := inn_nat hc
  obtain ⟨x, hx⟩ := sec_at hkl
  refine ok_gO (ok_ldL h rfl ?_)
  rw [wrap64 (by omega) (by omega)]
  have rest : lastOf k D.q D.q.length = none → Ok (J58_j1_1_1_1 (ev (n + 1)) (n + 1) (some (.rw w, 0)) k S) fun v S' => v = .tup [.str (D.read k).1, .int .i64 (D.read k).2] ∧ S' = S := by
    intro hno
    have hrd : D.read k = if x.h = 1 then ([], 42) else (x.d, 0) := by simp [DM.read, hc, hc2, hno, hx]
    simp only [J58_j1_1_1_1, b58_j1_1_1_1]
    refine ok_gO (ok_ldL h rfl (ok_ixSl (k := k) rfl hkl (ok_ldI h (hcells_get hx) ?_)))
    refine ok_cond (fun hc3 => ?_) (fun hc3 => ?_)
    · simp only [beq_iff_eq] at hc3
      exact ok_ret ⟨by rw [hrd, if_pos hc3], rfl⟩
    · simp only [beq_eq_false_iff_ne] at hc3
      exact ok_gO (ok_ldL h rfl (ok_ixSl (k := k) rfl hkl (ok_ldS h (dcells_get hx) (ok_ret ⟨by rw [hrd, if_neg hc3], rfl⟩))))
  have loop : ∀ (m i : Nat), i ≤ D.q.length → i < m → lastOf k D.q D.q.length = lastOf k D.q i → Ok (J58_l1_1_1_0_1_0 (ev (n + 1)) (n + 1) m (some (.rw w, 0)) k [] 0 ((i : Int) - 1) S) fun v S' => v = .tup [.str (D.read k).1, .int .i64 (D.read k).2] ∧ S' = S := by
    intro m
    induction m with
    | zero => intro i _ hm; omega
    | succ m ih =>
      intro i hi hm he
      rw [J58_l1_1_1_0_1_0_succ]
      simp only [b58_l1_1_1_0_1_0]
      cases i with
      | zero => exact ok_false (by simp) (rest (by rw [he]; rfl))
      | succ i =>
        have ek : ((i + 1 : Nat) : Int) - 1 = (i : Nat) := by omega
        rw [ek]
        have hlt : i < D.q.length := by omega
        obtain ⟨u, hu⟩ : ∃ u, D.q[i]? = some u := ⟨D.q[i], by simp [hlt]⟩
        have hum : (D.q.map encW)[i]? = some (encW u) := by simp [hu]
        rcases hR.queue with ⟨rfl, hq0, rfl, hq, rfl⟩ | ⟨bq, rfl, _, hqc, rfl⟩
        · rw [hq] at hlt; simp at hlt
        · refine ok_true (by simp) ?_
          refine ok_gO (ok_ldL h rfl (ok_ixSl (k := i) rfl hlt ?_))
          refine ok_ldI h (n := u.1) (by have := flat_get (j := 0) (encW_all D.q) hum (by decide); rw [Nat.add_zero] at this; rw [Nat.zero_add, this]; rfl) ?_
          refine ok_cond (fun hc4 => ?_) (fun hc4 => ?_)
          · simp only [beq_iff_eq] at hc4
            refine ok_gO (ok_ldL h rfl (ok_ixSl (k := i) rfl hlt ?_))
            refine ok_ldS h (x := u.2) (by have := flat_get (j := 1) (encW_all D.q) hum (by decide); rw [Nat.zero_add, this]; rfl) ?_
            exact ok_ret ⟨by simp [DM.read, hc, hc2, he, lastOf, hu, hc4], rfl⟩
          · simp only [beq_eq_false_iff_ne] at hc4
            rw [wrap64 (by omega) (by omega)]
            exact ih i (by omega) (by omega) (by rw [he]; simp [lastOf, hu, hc4])
  exact loop (n + 1) D.q.length (Nat.le_refl _) (by omega) rfl

theorem settle_setS (D : DM) (u : Nat × List UInt8) : D.settle u = { D.setS u.1 ⟨u.2, 0⟩ with writes := IntKind.wrap .i64 (D.writes + 1) } := rfl

theorem settle_wf {u : Nat × List UInt8} (hwf : D.WF) (hl : u.2.length = D.size) : (D.settle u).WF := by
  have h := setS_wf hwf u.1 ⟨u.2, 0⟩ hl
  exact ⟨h.lo, h.hi, h.n1, h.n2, h.s, h.q, h.ql⟩

theorem rsettle_ok (n : Nat) {bs : Nat} {sc : Cap} {bh : Nat} {hk : Cap} {qa : Option Pos} {ql : Nat} {qc : Cap} {Lq : List Ent} (hd : RefR w D bs sc bh hk qa ql qc Lq) (h : Hp X S (C w (rhdr D (some (.rw bs, 0)) sc (some (.rw bh, 0)) hk qa ql qc) :: C bs (dcells D) :: C bh (hcells D) :: F)) (u : Nat × List UInt8) (hu : u.1 < D.secs.length) (hl : u.2.length = D.size) :
    Ok (ev (n + 1) (.fn 61) [.ptr (some (.rw w, 0)), .agg (encW u)] S) fun v S' => v = .tup [] ∧ RefR w (D.settle u) bs sc bh hk qa ql qc Lq ∧ Hp X S' (C w (rhdr (D.settle u) (some (.rw bs, 0)) sc (some (.rw bh, 0)) hk qa ql qc) :: C bs (dcells (D.settle u)) :: C bh (hcells (D.settle u)) :: F) := by
  rw [ev, F61 _ _ _ _ (oL rfl)]
  simp only [J61, b61_entry]
  refine ok_ifO rfl ?_
  refine ok_newA h (fun b1 S2 h => ?_)
  refine ok_gO (ok_ldL h rfl (ok_ldI h rfl (ok_ldS h rfl (ok_ixSl (k := u.1) rfl hu ?_))))
  refine ok_stn h (by simp; omega) (dcells_set hu ⟨u.2, 0⟩) (fun S8 h => ?_)
  refine ok_gO (ok_ldL h rfl (ok_ldI h rfl (ok_ixSl (k := u.1) rfl hu ?_)))
  refine ok_stn h (by simp; omega) (hcells_set hu ⟨u.2, 0⟩) (fun S13 h => ?_)
  refine ok_gO (ok_ldI h rfl (ok_gO (ok_stn h (by simp [rhdr]) (d := rhdr (D.settle u) (some (.rw bs, 0)) sc (some (.rw bh, 0)) hk qa ql qc) (by simp [rhdr, splice, DM.settle]) (fun S17 h => ?_))))
  refine ok_ret ⟨rfl, ⟨settle_wf hd.wf hl, by simpa [DM.settle] using hd.cs, by simpa [DM.settle] using hd.ch, hd.hq⟩, h.drop1⟩

theorem rflush_loop (n0 n : Nat) (ws : List (Nat × List UInt8)) : ∀ (m k : Nat) (D : DM) (S : AS) (bs : Nat) (sc : Cap) (bh : Nat) (hk : Cap) (bq : Nat) (qc : Cap) (F : List Ent) (Q : AV → AS → Prop),
    D.q = ws → k ≤ ws.length → ws.length - k < m → RefR w D bs sc bh hk (some (.rw bq, 0)) ws.length qc [C bq (ws.map encW).flatten] → Hp X S (C w (rhdr D (some (.rw bs, 0)) sc (some (.rw bh, 0)) hk (some (.rw bq, 0)) ws.length qc) :: C bs (dcells D) :: C bh (hcells D) :: C bq (ws.map encW).flatten :: F) →
    (∀ S', RefR w (D.settles (ws.drop k)) bs sc bh hk (some (.rw bq, 0)) ws.length qc [C bq (ws.map encW).flatten] → Hp X S' (C w (rhdr (D.settles (ws.drop k)) (some (.rw bs, 0)) sc (some (.rw bh, 0)) hk (some (.rw bq, 0)) ws.length qc) :: C bs (dcells (D.settles (ws.drop k))) :: C bh (hcells (D.settles (ws.drop k))) :: C bq (ws.map encW).flatten :: F) → Ok (J52_j1_1_1 (ev (n + 1)) n0 (some (.rw w, 0)) S') Q) →
    Ok (J52_l1_1_0_1_0 (ev (n + 1)) n0 m (some (.rw w, 0)) (k : Nat) S) Q
  | 0, k, D, S, bs, sc, bh, hk, bq, qc, F, Q, hq, hk2, hm, hd, h, ht => by omega
  | m + 1, k, D, S, bs, sc, bh, hk, bq, qc, F, Q, hq, hk2, hm, hd, h, ht => by
    have hql : ws.length ≤ 4096 := by rw [← hq]; exact hd.wf.ql
    rw [J52_l1_1_0_1_0_succ]
    simp only [b52_l1_1_0_1_0]
    refine ok_gO (ok_ldL h rfl ?_)
    refine ok_cond (fun hc => ?_) (fun hc => ?_)
    · simp only [decide_eq_true_eq] at hc
      have hlt : k < ws.length := by omega
      obtain ⟨u, hu⟩ : ∃ u, ws[k]? = some u := ⟨ws[k], by simp [hlt]⟩
      have hmem : u ∈ D.q := by rw [hq]; exact List.mem_of_getElem? hu
      obtain ⟨hu1, hu2⟩ := hd.wf.q u hmem
      have hkm : (ws.map encW)[k]? = some (encW u) := by simp [hu]
      have hfl := flat_len (encW_all ws)
      rw [List.length_map] at hfl
      refine ok_gO (ok_ldL h rfl (ok_ixSl (k := k) rfl hlt ?_))
      refine ok_ldn h (by rw [hfl]; omega) (d := encW u) (by rw [Nat.zero_add]; exact flat_at (encW_all ws) hkm) ?_
      obtain ⟨v, S9, e, rfl, hd', h⟩ := rsettle_ok n hd h u hu1 hu2
      rw [callT_of e]
      have ew : IntKind.wrap .i64 ((k : Int) + 1) = ((k + 1 : Nat) : Int) := by rw [wrap64 (by omega) (by omega)]; rfl
      rw [ew]
      have hdrop : ws.drop k = u :: ws.drop (k + 1) := by
        obtain ⟨hlt', he⟩ := List.getElem?_eq_some_iff.1 hu
        rw [List.drop_eq_getElem_cons hlt', he]
      refine rflush_loop n0 n ws m (k + 1) (D.settle u) S9 bs sc bh hk bq qc F Q hq (by omega) (by omega) hd' h (fun S' hd'' h'' => ht S' ?_ ?_)
      · rw [hdrop]; exact hd''
      · rw [hdrop]; exact h''
    · simp only [decide_eq_false_iff_not] at hc
      have hk' : k = ws.length := by omega
      subst hk'
      refine ht S ?_ ?_
      · rw [List.drop_length]; exact hd
      · rw [List.drop_length]; exact h

theorem rflush_ok (n : Nat) (hn : 4096 < n) (h : Hp X S (L ++ F)) (hd : Ref w D L) :
    Ok (ev (n + 2) (.fn 52) [.ptr (some (.rw w, 0))] S) fun v S' => v = .int .i64 D.flushE ∧ ∃ L', Ref w D.flush L' ∧ Hp X S' (L' ++ F) := by
  have hd0 := hd
  obtain ⟨bs, sc, bh, hk, qa, ql, qc, Lq, hR, rfl⟩ := hd
  have hwf := hR.wf
  have hql := hR.ql_eq
  subst hql
  rw [ev, F52 _ _ _ (oL rfl)]
  simp only [J52, b52_entry]
  refine ok_gO (ok_ldB h rfl ?_)
  refine ok_cond (fun hc => ?_) (fun hc => ?_)
  · exact ok_ret ⟨by simp [DM.flushE, hc], _, by simpa [DM.flush, hc] using hd0, h⟩
  have tail : ∀ (D' : DM) S' sc hk qa ql qc Lq' F', RefR w D' bs sc bh hk qa ql qc Lq' → Hp X S' (C w (rhdr D' (some (.rw bs, 0)) sc (some (.rw bh, 0)) hk qa ql qc) :: C bs (dcells D') :: C bh (hcells D') :: F') → F.Sublist F' → D.flush = { D' with q := [] } →
      Ok (J52_j1_1_1 (ev (n + 1)) (n + 1) (some (.rw w, 0)) S') fun v S' => v = .int .i64 D.flushE ∧ ∃ L', Ref w D.flush L' ∧ Hp X S' (L' ++ F) := by
    intro D' S' sc hk qa ql qc Lq' F' hd' h' hs hf
    simp only [J52_j1_1_1, b52_j1_1_1]
    refine ok_gO (ok_stn h' (by simp [rhdr]) (d := rhdr { D' with q := [] } (some (.rw bs, 0)) sc (some (.rw bh, 0)) hk none 0 (.ex 0)) (by simp [rhdr, splice]) (fun S2 h2 => ?_))
    refine ok_ret ⟨by simp [DM.flushE, hc], ?_⟩
    rw [hf]
    refine ⟨_, ⟨bs, sc, bh, hk, none, 0, .ex 0, [], ⟨⟨hd'.wf.lo, hd'.wf.hi, hd'.wf.n1, hd'.wf.n2, hd'.wf.s, by simp, by simp⟩, hd'.cs, hd'.ch, .nil⟩, rfl⟩, ?_⟩
    exact h2.sub (((hs.cons_cons _).cons_cons _).cons_cons _)
  rcases hR.queue with ⟨rfl, hq0, rfl, hq, rfl⟩ | ⟨bq, rfl, _, hqc, rfl⟩
  · rw [J52_l1_1_0_1_0_succ]
    simp only [b52_l1_1_0_1_0]
    refine ok_gO (ok_ldL h rfl (ok_false (by simp [hq]) ?_))
    exact tail D S sc hk none _ (.ex 0) [] F hR (by simpa using h) (List.Sublist.refl _) (by simp [DM.flush, hc, hq, DM.settles])
  · refine rflush_loop (X := X) (n + 1) n D.q (n + 1) 0 D S bs sc bh hk bq qc F _ rfl (Nat.zero_le _) (by have := hwf.ql; omega) hR (by simpa using h) (fun S' hd' h' => ?_)
    rw [List.drop_zero] at hd' h'
    exact tail _ S' sc hk _ _ _ _ (C bq (D.q.map encW).flatten :: F) hd' h' (List.sublist_cons_self _ _) (by simp [DM.flush, hc])

theorem rfail_ok (n : Nat) (h : Hp X S (L ++ F)) (hd : Ref w D L) :
    Ok (ev (n + 1) (.fn 54) [.ptr (some (.rw w, 0))] S) fun v S' => v = .tup [] ∧ ∃ L', Ref w D.fail L' ∧ Hp X S' (L' ++ F) := by
  obtain ⟨bs, sc, bh, hk, qa, ql, qc, Lq, hR, rfl⟩ := hd
  have hwf := hR.wf
  rw [ev, F54 _ _ _ (oL rfl)]
  simp only [J54, b54_entry]
  refine ok_gO (ok_stn h (by simp [rhdr]) (d := rhdr { D with off := true } (some (.rw bs, 0)) sc (some (.rw bh, 0)) hk qa ql qc) (by simp [rhdr, splice]) (fun S2 h => ?_))
  refine ok_gO (ok_stn h (by simp [rhdr]) (d := rhdr D.fail (some (.rw bs, 0)) sc (some (.rw bh, 0)) hk none 0 (.ex 0)) (by simp [rhdr, splice, DM.fail]) (fun S4 h => ?_))
  refine ok_ret ⟨rfl, _, ⟨bs, sc, bh, hk, none, 0, .ex 0, [], ⟨⟨hwf.lo, hwf.hi, hwf.n1, hwf.n2, hwf.s, by simp [DM.fail], by simp [DM.fail]⟩, hR.cs, hR.ch, .nil⟩, rfl⟩, ?_⟩
  exact h.sub ((((List.sublist_append_right Lq F).cons_cons _).cons_cons _).cons_cons _)

theorem rhurt_eq (n : Nat) (h : Hp X S (L ++ F)) (hd : Ref w D L) (at_ : Int) (right : Bool) : ev (n + 2) (.fn 49) [.ptr (some (.rw w, 0)), .int .i64 at_, .bool right] S = some (.int .i64 (if D.inn at_ = false ∨ right = false then 2 else D.hurts at_.toNat), S) := by
  have hin := rin_eq n h hd at_
  obtain ⟨bs, sc, bh, hk, qa, ql, qc, Lq, hR, rfl⟩ := hd
  apply ok_eq
  rw [ev, F49 _ _ _ _ _ (oL rfl)]
  simp only [J49, b49_entry]
  rw [callB_of hin]
  refine ok_cond (fun hc => ?_) (fun hc => ?_)
  · simp only [Bool.not_eq_true'] at hc
    exact ok_ret ⟨by rw [if_pos (.inl hc)], rfl⟩
  simp only [Bool.not_eq_false'] at hc
  refine ok_cond (fun hc1 => ?_) (fun hc1 => ?_)
  · simp only [Bool.not_eq_true'] at hc1
    exact ok_ret ⟨by rw [if_pos (.inr hc1)], rfl⟩
  simp only [Bool.not_eq_false'] at hc1
  rw [if_neg (by simp [hc, hc1])]
  obtain ⟨k, rfl, hkl⟩ := inn_nat hc
  obtain ⟨x, hx⟩ := sec_at hkl
  refine ok_gO (ok_ldB h rfl (ok_cond (fun hc2 => ok_ret ⟨by simp [DM.hurts, hc2], rfl⟩) (fun hc2 => ?_)))
  refine ok_gO (ok_ldL h rfl (ok_ixSl (k := k) rfl hkl (ok_ldI h (hcells_get hx) ?_)))
  have hh : D.hurtAt k = x.h := by simp [DM.hurtAt, hx]
  refine ok_cond (fun hc3 => ?_) (fun hc3 => ?_)
  · simp only [bne_iff_ne, ne_eq] at hc3
    exact ok_ret ⟨by simp [DM.hurts, hc2, hh, hc3], rfl⟩
  · simp only [bne_eq_false_iff_eq] at hc3
    exact ok_ret ⟨by simp [DM.hurts, hc2, hh, hc3], rfl⟩

theorem setH_setS {k : Nat} {x : Sec} (hx : D.secs[k]? = some x) (v : Int) : D.setH k v = D.setS k ⟨x.d, v⟩ := by
  simp only [DM.setH, DM.setS]
  congr 1
  apply List.ext_getElem?
  intro i
  obtain ⟨hk1, hk2⟩ := List.getElem?_eq_some_iff.1 hx
  by_cases hik : k = i
  · subst hik; simp [List.getElem?_modify, hk1, hk2]
  · simp [List.getElem?_modify, hik]

theorem dcells_setH {k : Nat} {x : Sec} (hx : D.secs[k]? = some x) (v : Int) : dcells (D.setS k ⟨x.d, v⟩) = dcells D := by
  obtain ⟨hk1, hk2⟩ := List.getElem?_eq_some_iff.1 hx
  simp only [dcells, DM.setS, List.map_set]
  congr 1
  apply List.ext_getElem?
  intro i
  by_cases hik : k = i
  · subst hik; simp [hk1, hk2, encD]
  · simp [hik]

theorem rlose_ok (n : Nat) (h : Hp X S (L ++ F)) (hd : Ref w D L) (at_ : Int) :
    Ok (ev (n + 3) (.fn 56) [.ptr (some (.rw w, 0)), .int .i64 at_] S) fun v S' => v = .int .i64 (D.loseE at_) ∧ ∃ L', Ref w (D.lose at_) L' ∧ Hp X S' (L' ++ F) := by
  have hh := rhurt_eq n h hd at_ true
  have hd0 := hd
  have he : (if D.inn at_ = false ∨ true = false then 2 else D.hurts at_.toNat) = D.loseE at_ := by simp [DM.loseE]
  rw [he] at hh
  rw [ev, F56 _ _ _ _ (oL rfl)]
  simp only [J56, b56_entry]
  rw [callI_of hh]
  refine ok_cond (fun hc => ?_) (fun hc => ?_)
  · simp only [beq_iff_eq] at hc
    have hin : D.inn at_ = true := by
      rw [DM.loseE] at hc
      split at hc
      · cases hc
      · simpa using ‹¬ D.inn at_ = false›
    obtain ⟨k, rfl, hkl⟩ := inn_nat hin
    obtain ⟨x, hx⟩ := sec_at hkl
    obtain ⟨bs, sc, bh, hk, qa, ql, qc, Lq, hR, rfl⟩ := hd
    refine ok_gO (ok_ldL h rfl (ok_ixSl (k := k) rfl hkl ?_))
    refine ok_stn h (by simp; omega) (hcells_set hkl ⟨x.d, 1⟩) (fun S6 h => ?_)
    refine ok_ret ⟨rfl, ?_⟩
    rw [DM.lose, if_pos hc, Int.toNat_natCast, setH_setS hx]
    refine ⟨_, ⟨bs, sc, bh, hk, qa, ql, qc, Lq, ⟨setS_wf hR.wf k _ (hR.wf.s x (List.mem_of_getElem? hx)), by simpa [DM.setS] using hR.cs, by simpa [DM.setS] using hR.ch, hR.hq⟩, rfl⟩, ?_⟩
    rw [dcells_setH hx]
    have e : rhdr (D.setS k ⟨x.d, 1⟩) (some (.rw bs, 0)) sc (some (.rw bh, 0)) hk qa ql qc = rhdr D (some (.rw bs, 0)) sc (some (.rw bh, 0)) hk qa ql qc := by simp [rhdr, DM.setS]
    rw [e]; exact h
  · simp only [beq_eq_false_iff_ne] at hc
    exact ok_ret ⟨rfl, L, by rw [DM.lose, if_neg hc]; exact hd0, h⟩
end

end Go.Dk
