/- What the law's own function 'tells' does with two disks. -/
import Derived.Test.YtmehlagfkmnipaaDiskPlay
set_option linter.unusedVariables false
set_option linter.unusedSimpArgs false
set_option maxRecDepth 4000
namespace Go.Dk
open Go.Gr

section
variable {X : Cx} {S : AS} {L F G : List Ent}

theorem slr_ints {M : List Ent} {a l c} {s : List Int} {L : List Ent} (h : SlR a l c 1 (ixs s) L) (hm : ∀ e ∈ L, e ∈ M) : RdR X M a (ics s) ∧ l = s.length := by
  have := h.rd (X := X) hm
  rw [ixs_flat] at this
  exact ⟨this, by rw [h.len]; simp⟩

theorem lastOf_len {D : DM} (h : D.WF) (at_ : Int) {s : List UInt8} : ∀ k, lastOf at_ D.q k = some s → s.length = D.size
  | 0, e => by cases e
  | k + 1, e => by
    simp only [lastOf] at e
    split at e
    · rename_i w hw
      split at e
      · cases e; exact (h.q w (List.mem_of_getElem? hw)).2
      · exact lastOf_len h at_ k e
    · exact lastOf_len h at_ k e

theorem DM.read_len {D : DM} (h : D.WF) (i : Int) : (D.read i).1.length ≤ D.size := by
  unfold DM.read
  split
  · simp
  · split
    · simp
    · split
      · rename_i s hs
        simp [lastOf_len h i _ hs]
      · split
        · rename_i x hx
          split
          · simp
          · simp [h.s x (List.mem_of_getElem? hx)]
        · simp

theorem DM.stab_len {D : DM} (h : D.WF) (i : Int) : (D.stab i).length ≤ D.size := by
  unfold DM.stab
  split
  · simp
  · cases hx : D.secs[i.toNat]? with
    | none => simp
    | some x => simp [h.s x (List.mem_of_getElem? hx)]

theorem tells_spoil (call : CallA) (n0 : Nat) {w0 w1 : Option Pos} {a : Option Pos} {l : Nat} {c : Cap} (hl : l < 9223372036854775807) {Q : AV → AS → Prop} (ht : ∀ S', Hp X S' G → Ok (J35_j1_1_1_1 call n0 w0 w1 S') Q) : ∀ (m i : Nat) (S : AS) (xs : List (List AV)) (L7 : List Ent), i ≤ l → l - i < m → SlR a l c 2 xs L7 → Hp X S (L7 ++ G) →
    Ok (J35_l1_1_1_0_1_0 call n0 m w0 w1 a l c i S) Q
  | 0, i, S, xs, L7, hi, hm, hs, h => by omega
  | m + 1, i, S, xs, L7, hi, hm, hs, h => by
    rw [J35_l1_1_1_0_1_0_succ]
    simp only [b35_l1_1_1_0_1_0]
    refine ok_cond (fun hc => ?_) (fun hc => ht S h.right)
    simp only [decide_eq_true_eq] at hc
    have hlt : i < l := by omega
    have ew : IntKind.wrap .i64 ((i : Int) + 1) = ((i + 1 : Nat) : Int) := by rw [wrap64 (by omega) (by omega)]; rfl
    rw [ew]
    rcases hs.dest with ⟨_, h2, _⟩ | ⟨b, rfl, h2, h3, rfl, hx⟩
    · omega
    · have hfl := flat_len hx
      refine ok_ixSl (k := i) rfl hlt ?_
      refine ok_stn h (by simp only [List.length_cons, List.length_nil]; rw [hfl]; omega) (d := (xs.set i [.int .i64 (-1), .str []]).flatten) (by rw [Nat.zero_add]; exact flat_splice hx (by omega) rfl) (fun S94 h => ?_)
      refine tells_spoil call n0 hl ht m (i + 1) S94 (xs.set i [.int .i64 (-1), .str []]) [C b (xs.set i [.int .i64 (-1), .str []]).flatten] (by omega) (by omega) (.of ?_ (by simpa using h2) (by rw [h2]; exact h3)) h
      intro y hy
      rcases List.mem_or_eq_of_mem_set hy with hy | rfl
      · exact hx y hy
      · rfl

theorem tells_sp1 (call : CallA) (n0 : Nat) (k : Option Pos → Option Pos → AV → Int → AS → Option (AV × AS)) {w7 : Int} {w10 : List UInt8} {ya : Option Pos} {yl : Nat} {yc : Cap} {w0 w1 : Option Pos} {a : Option Pos} {l : Nat} {c : Cap} (hl : l < 9223372036854775807) {Q : AV → AS → Prop} (ht : ∀ S', Hp X S' G → Ok (J35_j1_1_1_1_0_1_0_0_1_0_0_1_1_1_1_1_1 call n0 k w0 w1 w7 w10 ya yl yc S') Q) : ∀ (m i : Nat) (S : AS) (xs : List (List AV)) (L7 : List Ent), i ≤ l → l - i < m → SlR a l c 1 xs L7 → Hp X S (L7 ++ G) →
    Ok (J35_l1_1_1_1_0_1_0_0_1_0_0_1_1_1_1_1_0_1_0 call n0 k m w0 w1 w7 a l c w10 ya yl yc i S) Q
  | 0, i, S, xs, L7, hi, hm, hs, h => by omega
  | m + 1, i, S, xs, L7, hi, hm, hs, h => by
    rw [J35_l1_1_1_1_0_1_0_0_1_0_0_1_1_1_1_1_0_1_0_succ]
    simp only [b35_l1_1_1_1_0_1_0_0_1_0_0_1_1_1_1_1_0_1_0]
    refine ok_cond (fun hc => ?_) (fun hc => ht S h.right)
    simp only [decide_eq_true_eq] at hc
    have hlt : i < l := by omega
    have ew : IntKind.wrap .i64 ((i : Int) + 1) = ((i + 1 : Nat) : Int) := by rw [wrap64 (by omega) (by omega)]; rfl
    rw [ew]
    rcases hs.dest with ⟨_, h2, _⟩ | ⟨b, rfl, h2, h3, rfl, hx⟩
    · omega
    · have hfl := flat_len hx
      refine ok_ixSl (k := i) rfl hlt ?_
      refine ok_stn h (by simp only [List.length_cons, List.length_nil]; rw [hfl]; omega) (d := (xs.set i [.int .u8 122]).flatten) (by rw [Nat.zero_add]; exact flat_splice hx (by omega) rfl) (fun S94 h => ?_)
      refine tells_sp1 call n0 k hl ht m (i + 1) S94 (xs.set i [.int .u8 122]) [C b (xs.set i [.int .u8 122]).flatten] (by omega) (by omega) (.of ?_ (by simpa using h2) (by rw [h2]; exact h3)) h
      intro y hy
      rcases List.mem_or_eq_of_mem_set hy with hy | rfl
      · exact hx y hy
      · rfl

theorem tells_sp2 (call : CallA) (n0 : Nat) (k : Option Pos → Option Pos → AV → Int → AS → Option (AV × AS)) {w7 : Int} {w10 : List UInt8} {w0 w1 : Option Pos} {a : Option Pos} {l : Nat} {c : Cap} (hl : l < 9223372036854775807) {Q : AV → AS → Prop} (ht : ∀ S', Hp X S' G → Ok (J35_j1_1_1_1_0_1_0_0_1_0_0_1_1_1_1_1_1_1 call n0 k w0 w1 w7 w10 S') Q) : ∀ (m i : Nat) (S : AS) (xs : List (List AV)) (L7 : List Ent), i ≤ l → l - i < m → SlR a l c 1 xs L7 → Hp X S (L7 ++ G) →
    Ok (J35_l1_1_1_1_0_1_0_0_1_0_0_1_1_1_1_1_1_0_1_0 call n0 k m w0 w1 w7 w10 a l c i S) Q
  | 0, i, S, xs, L7, hi, hm, hs, h => by omega
  | m + 1, i, S, xs, L7, hi, hm, hs, h => by
    rw [J35_l1_1_1_1_0_1_0_0_1_0_0_1_1_1_1_1_1_0_1_0_succ]
    simp only [b35_l1_1_1_1_0_1_0_0_1_0_0_1_1_1_1_1_1_0_1_0]
    refine ok_cond (fun hc => ?_) (fun hc => ht S h.right)
    simp only [decide_eq_true_eq] at hc
    have hlt : i < l := by omega
    have ew : IntKind.wrap .i64 ((i : Int) + 1) = ((i + 1 : Nat) : Int) := by rw [wrap64 (by omega) (by omega)]; rfl
    rw [ew]
    rcases hs.dest with ⟨_, h2, _⟩ | ⟨b, rfl, h2, h3, rfl, hx⟩
    · omega
    · have hfl := flat_len hx
      refine ok_ixSl (k := i) rfl hlt ?_
      refine ok_stn h (by simp only [List.length_cons, List.length_nil]; rw [hfl]; omega) (d := (xs.set i [.int .u8 121]).flatten) (by rw [Nat.zero_add]; exact flat_splice hx (by omega) rfl) (fun S94 h => ?_)
      refine tells_sp2 call n0 k hl ht m (i + 1) S94 (xs.set i [.int .u8 121]) [C b (xs.set i [.int .u8 121]).flatten] (by omega) (by omega) (.of ?_ (by simpa using h2) (by rw [h2]; exact h3)) h
      intro y hy
      rcases List.mem_or_eq_of_mem_set hy with hy | rfl
      · exact hx y hy
      · rfl

theorem tells_ok (n : Nat) (hn : 80000 < n) {b w : Nat} {D : DM} {Ld Lr : List Ent} (h : Hp X S (Ld ++ (Lr ++ F))) (hd : Disk b D Ld) (hw : Ref w D Lr) :
    Ok (ev (n + 4) (.fn 35) [.ptr (some (.rw b, 0)), .ptr (some (.rw w, 0))] S) fun v S' => v = .bool true ∧ Hp X S' (Ld ++ (Lr ++ F)) := by
  have hwf : D.WF := by obtain ⟨_, _, _, _, _, _, _, _, hR, _⟩ := hd; exact hR.wf
  have n2 := hwf.n2
  rw [ev, F35 _ _ _ _ (oL rfl)]
  simp only [J35, b35_entry]
  have hw' := hw
  obtain ⟨bs, sc, bh, hk, qa, ql, qc, Lq, hR, hLr⟩ := hw'
  have mw : ∀ {M : List Ent}, (∀ e ∈ Lr, e ∈ M) → C w (rhdr D (some (.rw bs, 0)) sc (some (.rw bh, 0)) hk qa ql qc) ∈ M := fun k => k _ (by rw [hLr]; exact List.mem_cons_self)
  have ms : ∀ {M : List Ent}, (∀ e ∈ Lr, e ∈ M) → C bs (dcells D) ∈ M := fun k => k _ (by rw [hLr]; simp)
  have mq : ∀ {M : List Ent}, (∀ e ∈ Lr, e ∈ M) → ∀ e ∈ Lq, e ∈ M := fun k e he => k _ (by rw [hLr]; simp [he])
  obtain ⟨v, S1, e, qa2, ql2, qc2, L2, rfl, hs2, h1⟩ := queue_ok (n + 1) h hd
  rw [callL_of e]
  have m1 : ∀ e ∈ Lr, e ∈ L2 ++ (Ld ++ (Lr ++ F)) := fun e he => by simp [he]
  have h1d : Hp X S1 (Ld ++ (L2 ++ (Lr ++ F))) := h1.re (by intro p; simp only [List.countP_append]; omega)
  rw [callI_of (sectors_eq (n + 2) h1d hd)]
  refine ok_gO (okM_ldL h1 (mw m1) rfl (okM_ldL h1 (mw m1) rfl (ok_true (by simp [AV.beq]) (ok_true (by simp [AV.beq]) (ok_false (by simp) ?_)))))
  rw [callI_of (size_eq (n + 2) h1d hd)]
  refine ok_gO (okM_ldI h1 (mw m1) rfl (okM_ldI h1 (mw m1) rfl (ok_true (by simp [AV.beq]) (ok_false (by simp) ?_))))
  rw [callB_of (failed_eq (n + 2) h1d hd)]
  refine ok_gO (okM_ldB h1 (mw m1) rfl (okM_ldB h1 (mw m1) rfl (ok_true (by simp [AV.beq]) (ok_false (by simp) ?_))))
  rw [callI_of (writes_eq (n + 2) h1d hd)]
  refine ok_gO (okM_ldI h1 (mw m1) rfl (okM_ldI h1 (mw m1) rfl (ok_true (by simp [AV.beq]) (ok_false (by simp) ?_))))
  refine ok_gO (okM_ldL h1 (mw m1) rfl ?_)
  obtain ⟨r, e, hr⟩ := rsectors_eq (n + 2) (by omega) hwf.ql h1 hs2 hR.hq (fun e he => by simp [he]) (mq m1)
  have : r = true := hr.2 rfl
  subst this
  rw [callB_of e]
  refine ok_false rfl ?_
  obtain ⟨v, S3, e, ia, il, ic, L3, rfl, hs3, h3⟩ := injured_ok (n + 2) (by omega) h1d hd
  rw [callL_of e]
  have h3r : Hp X S3 (Lr ++ (L3 ++ (Ld ++ (L2 ++ F)))) := h3.re (by intro p; simp only [List.countP_append]; omega)
  obtain ⟨v, S4, e, ja, jl, jc, L4, rfl, hs4, h4⟩ := rinjured_ok (n + 2) (by omega) h3r hw
  rw [callL_of e]
  obtain ⟨i3, k3⟩ := slr_ints (X := X) hs3 (M := L4 ++ (Lr ++ (L3 ++ (Ld ++ (L2 ++ F))))) (fun e he => by simp [he])
  obtain ⟨i4, k4⟩ := slr_ints (X := X) hs4 (M := L4 ++ (Lr ++ (L3 ++ (Ld ++ (L2 ++ F))))) (fun e he => by simp [he])
  have hil := DM.injTo_len D D.secs.length
  obtain ⟨r, e, hr⟩ := rints_eq (n + 2) (P := D.injured) (Q := D.injured) (by simp only [DM.injured]; omega) (by omega) h4 i3 i4 k3 k4
  have : r = true := hr.2 rfl
  subst this
  rw [callB_of e]
  refine ok_false rfl ?_
  have h5 : Hp X S4 (L2 ++ (Ld ++ (Lr ++ F))) := (h4.re (M := (L4 ++ L3) ++ (L2 ++ (Ld ++ (Lr ++ F)))) (by intro p; simp only [List.countP_append]; omega)).right
  have q2 := hs2.len
  have hql := hwf.ql
  rw [List.length_map] at q2
  have mm : ∀ e ∈ Lr, e ∈ Ld ++ (Lr ++ F) := fun e he => by simp [he]
  have loop : ∀ (m : Nat) (i : Int) (S : AS), -1 ≤ i → i ≤ (D.secs.length : Int) + 1 → (D.secs.length : Int) + 1 - i < m → Hp X S (Ld ++ (Lr ++ F)) → Ok (J35_l1_1_1_1_0_1_0 (evF E orcL (n + 3)) (n + 3) m (some (.rw b, 0)) (some (.rw w, 0)) .undef i S) (fun v S' => v = .bool true ∧ Hp X S' (Ld ++ (Lr ++ F))) := by
    intro m
    induction m with
    | zero => intro i S _ _ hm; omega
    | succ m ih =>
      intro i S hi0 hi1 hm h
      rw [J35_l1_1_1_1_0_1_0_succ]
      simp only [b35_l1_1_1_1_0_1_0]
      refine ok_gO (okM_ldL h (mw mm) rfl ?_)
      refine ok_cond (fun hc => ?_) (fun hc => ?_)
      · simp only [decide_eq_true_eq] at hc
        obtain ⟨v, S2, e, ra, rl, rc, L5, rfl, hs5, h6⟩ := read_ok n (by omega) h hd i
        rw [callT_of e]
        simp only [atL, atI, atS, atB, List.getElem?_cons_zero, List.getElem?_cons_succ, gL, gIk, gS, gB, if_true]
        have h6r : Hp X S2 (Lr ++ (L5 ++ (Ld ++ F))) := h6.re (by intro p; simp only [List.countP_append]; omega)
        rw [callT_of (rread_eq (n + 1) (by omega) h6r hw i)]
        simp only [List.getElem?_cons_zero, List.getElem?_cons_succ, if_true]
        have h6d : Hp X S2 (Ld ++ (L5 ++ (Lr ++ F))) := h6.re (by intro p; simp only [List.countP_append]; omega)
        obtain ⟨v, S3, e, sa, sl, sc', L6, rfl, hs6, h7⟩ := stable_ok (n + 1) h6d hd i
        rw [callT_of e]
        simp only [List.getElem?_cons_zero, List.getElem?_cons_succ]
        obtain ⟨r5, k5⟩ := hs5.bytes (X := X) (M := L6 ++ (Ld ++ (L5 ++ (Lr ++ F)))) (fun e he => by simp [he])
        obtain ⟨r6, k6⟩ := hs6.bytes (X := X) (M := L6 ++ (Ld ++ (L5 ++ (Lr ++ F)))) (fun e he => by simp [he])
        have hrl : rl < 9223372036854775807 := by
          rw [k5]
          have := DM.read_len hwf i
          have := hwf.hi
          omega
        have hsl : sl < 9223372036854775807 := by
          rw [k6]
          have := DM.stab_len hwf i
          have := hwf.hi
          omega
        have mm7 : ∀ e ∈ Lr, e ∈ L6 ++ (Ld ++ (L5 ++ (Lr ++ F))) := fun e he => by simp [he]
        have cont : Ok (J35_l1_1_1_1_0_1_0_0_1_0_0_1_1_1_1_1_0_1_0 (evF E orcL (n + 3)) (n + 3) (J35_l1_1_1_1_0_1_0 (evF E orcL (n + 3)) (n + 3) m) (n + 3) (some (.rw b, 0)) (some (.rw w, 0)) i ra rl rc (D.read i).1 sa sl sc' 0 S3) (fun v S' => v = .bool true ∧ Hp X S' (Ld ++ (Lr ++ F))) := by
          refine tells_sp1 (G := L6 ++ (Ld ++ (Lr ++ F))) _ _ _ hrl (fun S7 h8 => ?_) (n + 3) 0 S3 (bxs (D.read i).1) L5 (Nat.zero_le _) ?_ hs5 (h7.re (by intro p; simp only [List.countP_append]; omega))
          · simp only [J35_j1_1_1_1_0_1_0_0_1_0_0_1_1_1_1_1_1, b35_j1_1_1_1_0_1_0_0_1_0_0_1_1_1_1_1_1]
            refine tells_sp2 (G := Ld ++ (Lr ++ F)) _ _ _ hsl (fun S8 h9 => ?_) (n + 3) 0 S7 (bxs (D.stab i)) L6 (Nat.zero_le _) ?_ hs6 h8
            · simp only [J35_j1_1_1_1_0_1_0_0_1_0_0_1_1_1_1_1_1_1, b35_j1_1_1_1_0_1_0_0_1_0_0_1_1_1_1_1_1_1]
              obtain ⟨v, S9, e, ta, tl, tc, L7, rfl, hs7, h10⟩ := read_ok n (by omega) h9 hd i
              rw [callT_of e]
              simp only [atL, atI, List.getElem?_cons_zero, List.getElem?_cons_succ, gL, gIk, if_true]
              obtain ⟨r7, k7⟩ := hs7.bytes (X := X) (M := L7 ++ (Ld ++ (Lr ++ F))) (fun e he => by simp [he])
              rw [bytesStr_of r7 h10 k7]
              refine ok_false (by simp) ?_
              rw [wrap64 (by omega) (by omega)]
              exact ih (i + 1) S9 (by omega) (by omega) (by omega) h10.right
            · rw [k6]
              have := DM.stab_len hwf i
              have := hwf.hi
              omega
          · rw [k5]
            have := DM.read_len hwf i
            have := hwf.hi
            omega
        have hinn : D.inn i = (decide (0 ≤ i) && decide (i < (D.secs.length : Int))) := rfl
        by_cases hge : 0 ≤ i
        · refine ok_true (by simpa using hge) ?_
          refine ok_gO (okM_ldL h7 (mw mm7) rfl ?_)
          rw [bytesStr_of r5 h7 k5]
          refine ok_false (by simp) ?_
          rw [callI_of (num_eq (n + 2) _ S3)]
          refine ok_false (by simp) (ok_false (by rw [hinn, decide_eq_true hge]; simp) ?_)
          refine ok_cond (fun hc2 => ?_) (fun hc2 => ?_)
          · simp only [decide_eq_true_eq] at hc2
            obtain ⟨k, rfl⟩ : ∃ k : Nat, i = k := ⟨i.toNat, by omega⟩
            have hk : k < D.secs.length := by omega
            obtain ⟨x, hx⟩ := sec_at hk
            rw [bytesStr_of r6 h7 k6]
            refine ok_gO (okM_ldL h7 (mw mm7) rfl (ok_ixSl (k := k) rfl hk (okM_ldS h7 (ms mm7) (dcells_get hx) ?_)))
            have hst : D.stab k = x.d := by
              rw [DM.stab, if_neg (by rw [hinn, decide_eq_true hge, decide_eq_true hc2]; decide), Int.toNat_natCast, hx]; rfl
            exact ok_false (by simp [hst]) (ok_false (by simp [hk]) cont)
          · refine ok_true (by simpa using hc2) (ok_false ?_ cont)
            simp only [decide_eq_false_iff_not] at hc2
            have : D.stab i = [] := by simp [DM.stab, hinn, hc2]
            rw [k6, this]; simp
        · refine ok_false (by simpa using hge) ?_
          rw [bytesStr_of r5 h7 k5]
          refine ok_false (by simp) ?_
          rw [callI_of (num_eq (n + 2) _ S3)]
          refine ok_false (by simp) (ok_false (by rw [hinn, decide_eq_false hge]; rfl) (ok_false ?_ cont))
          have : D.stab i = [] := by simp [DM.stab, hinn, hge]
          rw [k6, this]; simp
      · simp only [J35_j1_1_1_1_1, b35_j1_1_1_1_1]
        obtain ⟨v, S2, e, qa3, ql3, qc3, L5, rfl, hs5, h6⟩ := queue_ok (n + 1) h hd
        rw [callL_of e]
        have mm6 : ∀ e ∈ Lr, e ∈ L5 ++ (Ld ++ (Lr ++ F)) := fun e he => by simp [he]
        refine ok_gO (okM_ldL h6 (mw mm6) rfl (okM_ldL h (mw mm) rfl (ok_true (by simp [AV.beq]) ?_)))
        obtain ⟨r, e, hr⟩ := rsectors_eq (n + 2) (by omega) hwf.ql h6 hs5 hR.hq (fun e he => by simp [he]) (mq mm6)
        have : r = true := hr.2 rfl
        subst this
        rw [callB_of e]
        exact ok_ret ⟨rfl, h6.right⟩
  refine tells_spoil (G := Ld ++ (Lr ++ F)) _ _ (by omega) (fun S5 h6 => ?_) (n + 3) 0 S4 (D.q.map encW) L2 (Nat.zero_le _) (by omega) hs2 h5
  simp only [J35_j1_1_1_1, b35_j1_1_1_1]
  exact loop (n + 3) (-1) S5 (by omega) (by omega) (by omega) h6
end

end Go.Dk
