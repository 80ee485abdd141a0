/- The law DiskOwn, as the evaluator runs it. -/
import Derived.Test.YtmehlagfkmnipaaDiskPlay
set_option linter.unusedVariables false
set_option linter.unusedSimpArgs false
set_option maxRecDepth 4000
namespace Go.Dk
open Go.Gr

/-- Is a sector among those that wait? -/
def waits (q : List (Nat × List UInt8)) (i : Int) : Bool := q.any fun w => decide ((w.1 : Int) = i)
def leftOf (q : List (Nat × List UInt8)) (l : List Int) : List Int := l.filter fun i => !(waits q i)

theorem write_facts {D : DM} {at_ : Int} {s : List UInt8} (h0 : D.writeE at_ s = 0) : ∃ k : Nat, at_ = k ∧ k < D.secs.length ∧ D.off = false ∧ D.write at_ s = { D with q := D.q ++ [(k, s)] } := by
  have hw : D.write at_ s = { D with q := D.q ++ [(at_.toNat, s)] } := by rw [DM.write, if_pos h0]
  unfold DM.writeE at h0
  split at h0
  · cases h0
  rename_i hin
  split at h0
  · cases h0
  split at h0
  · cases h0
  rename_i hoff
  simp only [DM.inn, Bool.not_eq_false, Bool.and_eq_true, decide_eq_true_eq] at hin
  refine ⟨at_.toNat, by omega, by omega, by simpa using hoff, hw⟩

theorem injTo_same {D D' : DM} (h : D'.secs = D.secs) : ∀ n, D'.injTo n = D.injTo n
  | 0 => rfl
  | n + 1 => by
    have e : D'.hurtAt n = D.hurtAt n := by simp [DM.hurtAt, h]
    simp only [DM.injTo, e, injTo_same h n]

theorem settles_hurt : ∀ (ws : List (Nat × List UInt8)) (D : DM) (i : Nat), (D.settles ws).hurtAt i = if waits ws i = true then 0 else D.hurtAt i
  | [], D, i => by simp [DM.settles, waits]
  | w :: ws, D, i => by
    have e : D.settles (w :: ws) = (D.settle w).settles ws := rfl
    rw [e, settles_hurt ws]
    have hw : waits (w :: ws) i = (decide ((w.1 : Int) = i) || waits ws i) := by simp [waits]
    rw [hw]
    by_cases h2 : waits ws i = true
    · simp [h2]
    · simp only [Bool.not_eq_true] at h2
      simp only [h2, Bool.or_false, Bool.false_eq_true, if_false, decide_eq_true_eq]
      by_cases h1 : (w.1 : Int) = i
      · have : w.1 = i := by omega
        subst this
        rw [if_pos rfl]
        by_cases hl : w.1 < D.secs.length <;> simp [DM.hurtAt, DM.settle, hl]
      · rw [if_neg h1]
        simp only [DM.hurtAt, DM.settle, List.getElem?_set]
        rw [if_neg (by omega)]

theorem inj_left {D D' : DM} {q : List (Nat × List UInt8)} (h : ∀ i : Nat, D'.hurtAt i = if waits q i = true then 0 else D.hurtAt i) : ∀ n, D'.injTo n = leftOf q (D.injTo n)
  | 0 => rfl
  | n + 1 => by
    simp only [DM.injTo, h n]
    by_cases hw : waits q n = true
    · rw [if_pos hw]
      simp only [ne_eq, not_true_eq_false, if_false]
      split
      · simp only [leftOf, List.filter_append]
        simp [hw, inj_left h n, leftOf]
      · exact inj_left h n
    · rw [if_neg hw]
      split
      · simp only [leftOf, List.filter_append]
        simp [hw, inj_left h n, leftOf]
      · exact inj_left h n

theorem settles_append (D : DM) (q : List (Nat × List UInt8)) (w : Nat × List UInt8) : D.settles (q ++ [w]) = (D.settles q).settle w := by
  simp [DM.settles]

theorem own_facts {D : DM} (hwf : D.WF) {at_ : Int} {s : List UInt8} (h0 : D.writeE at_ s = 0) :
    (D.write at_ s).read at_ = (s, 0) ∧ (D.write at_ s).injured = D.injured ∧ (D.write at_ s).flushE = 0 ∧ ((D.write at_ s).flush).read at_ = (s, 0) ∧ ((D.write at_ s).flush).stab at_ = s ∧ ((D.write at_ s).flush).inn at_ = true ∧
      ((D.write at_ s).flush).injured = leftOf (D.write at_ s).q D.injured := by
  obtain ⟨k, rfl, hk, hoff, hw⟩ := write_facts h0
  rw [hw]
  have hlen : ∀ (ws : List (Nat × List UInt8)) (D : DM), (D.settles ws).secs.length = D.secs.length ∧ (D.settles ws).off = D.off := by
    intro ws
    induction ws with
    | nil => intro D; exact ⟨rfl, rfl⟩
    | cons w ws ih =>
      intro D
      have e : D.settles (w :: ws) = (D.settle w).settles ws := rfl
      rw [e, (ih _).1, (ih _).2]
      simp [DM.settle]
  let D1 : DM := { D with q := D.q ++ [(k, s)] }
  have hf : D1.flush = { (D1.settles D.q).settle (k, s) with q := [] } := by
    rw [DM.flush, if_neg (by show ¬ D.off = true; rw [hoff]; decide)]
    show ({ D1.settles (D.q ++ [(k, s)]) with q := [] } : DM) = _
    rw [settles_append]
  have hl1 := (hlen D.q D1).1
  have ho1 := (hlen D.q D1).2
  have hin1 : D1.inn k = true := by simp [DM.inn, D1, hk]
  have hinf : D1.flush.inn k = true := by
    rw [hf]; simp only [DM.inn, DM.settle, List.length_set, hl1]; simp [D1, hk]
  have hoff2 : D1.flush.off = false := by rw [hf]; show (D1.settles D.q).off = false; rw [ho1]; exact hoff
  have hsec : D1.flush.secs[k]? = some ⟨s, 0⟩ := by
    rw [hf]; simp [DM.settle, hl1, D1, hk]
  have hq2 : D1.flush.q = [] := by rw [hf]
  refine ⟨?_, injTo_same (D := D) (D' := D1) rfl _, by rw [DM.flushE, if_neg (by rw [hoff]; decide)], ?_, ?_, hinf, ?_⟩
  · show D1.read k = _
    rw [DM.read, if_neg (by rw [hin1]; decide), if_neg (by show ¬ D.off = true; rw [hoff]; decide)]
    simp [D1, lastOf]
  · show D1.flush.read k = _
    rw [DM.read, if_neg (by rw [hinf]; decide), if_neg (by rw [hoff2]; decide), hq2]
    simp [lastOf, hsec]
  · show D1.flush.stab k = _
    rw [DM.stab, if_neg (by rw [hinf]; decide)]
    simp [hsec]
  · show D1.flush.injured = leftOf D1.q D.injured
    have hlf : D1.flush.secs.length = D.secs.length := by rw [hf]; simp [DM.settle, hl1, D1]
    rw [DM.injured, hlf]
    refine inj_left (fun i => ?_) _
    have : D1.flush.hurtAt i = (D1.settles (D.q ++ [(k, s)])).hurtAt i := by rw [hf, settles_append]; rfl
    rw [this, settles_hurt]; rfl

section
variable {X : Cx} {S : AS} {L F M G : List Ent}

theorem own_inner (call : CallA) (n0 : Nat) (kk : Int → Int → Option Pos → Option Pos → Nat → Cap → Option Pos → Nat → Cap → Option Pos → Nat → Cap → Int → AS → Option (AV × AS)) {w5 w6 : Int} {w7 : Option Pos} {ha : Option Pos} {hl : Nat} {hc : Cap} {wa : Option Pos} {wl : Nat} {wc : Cap} {la : Option Pos} {ll : Nat} {lc : Cap} {q : List (Nat × List UInt8)} {H : List Int} {i : Nat} {z : Int} (hz : H[i]? = some z) (hS : Hp X S M) (hr : RdR X M ha (ics H)) (hhl : hl = H.length) (hw : RdR X M wa (q.map encW).flatten) (hwl : wl = q.length) (hql : q.length ≤ 4096) {Q : AV → AS → Prop} (b : Bool)
    (ht : Ok (J5_j1_1_1_1_1_1_1_1_1_1_1_1_1_0_1_0_0_1_0_0_1_1 call n0 kk w5 w6 w7 ha hl hc wa wl wc la ll lc i b S) Q) :
    ∀ (m k : Nat) (acc : Bool), k ≤ q.length → q.length - k < m → (acc || waits (q.drop k) z) = b → Ok (J5_l1_1_1_1_1_1_1_1_1_1_1_1_1_0_1_0_0_1_0_0_1_0_1_0 call n0 kk m w5 w6 w7 ha hl hc wa wl wc la ll lc i acc k S) Q
  | 0, k, acc, hk, hm, he => by omega
  | m + 1, k, acc, hk, hm, he => by
    rw [J5_l1_1_1_1_1_1_1_1_1_1_1_1_1_0_1_0_0_1_0_0_1_0_1_0_succ]
    simp only [b5_l1_1_1_1_1_1_1_1_1_1_1_1_1_0_1_0_0_1_0_0_1_0_1_0]
    refine ok_cond (fun hc1 => ?_) (fun hc1 => ?_)
    · simp only [decide_eq_true_eq] at hc1
      have hlt : k < q.length := by omega
      obtain ⟨u, hu⟩ : ∃ u, q[k]? = some u := ⟨q[k], by simp [hlt]⟩
      have hd : q.drop k = u :: q.drop (k + 1) := by
        obtain ⟨h1, h2⟩ := List.getElem?_eq_some_iff.1 hu
        rw [List.drop_eq_getElem_cons h1, h2]
      have ew : IntKind.wrap .i64 ((k : Int) + 1) = ((k + 1 : Nat) : Int) := by rw [wrap64 (by omega) (by omega)]; rfl
      have hww : waits (q.drop k) z = (decide ((u.1 : Int) = z) || waits (q.drop (k + 1)) z) := by rw [hd]; simp [waits]
      rw [ew]
      refine ok_cond (fun hacc => ?_) (fun hacc => ?_)
      · subst hacc
        exact own_inner call n0 kk hz hS hr hhl hw hwl hql b ht m (k + 1) true (by omega) (by omega) (by rw [← he]; simp)
      · subst hacc
        have hcell : (q.map encW).flatten[k * 2 + 0]? = some (.int .i64 u.1) := by
          rw [flat_get (x := encW u) (encW_all q) (by simp [hu]) (by decide)]; rfl
        have hne : (q.map encW).flatten ≠ [] := by intro e; rw [e] at hcell; cases hcell
        obtain ⟨pw, rfl⟩ := hw.some_of hne
        have hzc : (ics H)[i]? = some (.int .i64 z) := by simp [ics, hz]
        obtain ⟨ph, rfl⟩ := hr.some_of (by intro e; rw [e] at hzc; cases hzc)
        have hi : i < H.length := (List.getElem?_eq_some_iff.1 hz).1
        rw [ixSl_at (k := k) rfl (by omega)]
        simp only
        rw [show pw.2 + k * 2 = pw.2 + (k * 2 + 0) by omega, hw.ldI hS hcell, ixSl_at (k := i) rfl (by omega)]
        simp only
        rw [show ph.2 + i * 1 = ph.2 + i by omega, hr.ldI hS hzc]
        refine own_inner call n0 kk hz hS hr hhl hw hwl hql b ht m (k + 1) _ (by omega) (by omega) ?_
        rw [← he, hww]
        simp only [Bool.false_or]
        congr 1
    · simp only [decide_eq_false_iff_not] at hc1
      have : k = q.length := by omega
      subst this
      rw [List.drop_length] at he
      have : acc = b := by rw [← he]; simp [waits]
      subst this
      exact ht

/-- The loop over the injuries. -/
theorem own_outer (call : CallA) (n0 : Nat) (hn0 : 4096 < n0) {w5 w6 : Int} {w7 : Option Pos} {ha : Option Pos} {hl : Nat} {hc : Cap} {wa : Option Pos} {wl : Nat} {wc : Cap} {q : List (Nat × List UInt8)} {H : List Int} (hH : H.length ≤ 65536) (hhl : hl = H.length) (hwl : wl = q.length) (hql : q.length ≤ 4096) {Lh Lw : List Ent} (hr : SlR ha hl hc 1 (ixs H) Lh) (hw : SlR wa wl wc 2 (q.map encW) Lw) {Q : AV → AS → Prop}
    (ht : ∀ la ll lc Ll S, SlR la ll lc 1 (ixs (leftOf q H)) Ll → Hp X S (Ll ++ (Lh ++ (Lw ++ F))) → Ok (J5_j1_1_1_1_1_1_1_1_1_1_1_1_1_1 call n0 w5 w6 w7 la ll lc S) Q) :
    ∀ (m i : Nat) (S : AS) (la : Option Pos) (ll : Nat) (lc : Cap) (Ll : List Ent), i ≤ H.length → H.length - i < m → SlR la ll lc 1 (ixs (leftOf q (H.take i))) Ll → Hp X S (Ll ++ (Lh ++ (Lw ++ F))) →
      Ok (J5_l1_1_1_1_1_1_1_1_1_1_1_1_1_0_1_0 call n0 m w5 w6 w7 ha hl hc wa wl wc la ll lc i S) Q
  | 0, i, S, la, ll, lc, Ll, hi, hm, hs, h => by omega
  | m + 1, i, S, la, ll, lc, Ll, hi, hm, hs, h => by
    rw [J5_l1_1_1_1_1_1_1_1_1_1_1_1_1_0_1_0_succ]
    simp only [b5_l1_1_1_1_1_1_1_1_1_1_1_1_1_0_1_0]
    refine ok_cond (fun hc1 => ?_) (fun hc1 => ?_)
    · simp only [decide_eq_true_eq] at hc1
      have hlt : i < H.length := by omega
      obtain ⟨z, hz⟩ : ∃ z, H[i]? = some z := ⟨H[i], by simp [hlt]⟩
      have hrd : RdR X (Ll ++ (Lh ++ (Lw ++ F))) ha (ics H) := by
        have := hr.rd (X := X) (M := Ll ++ (Lh ++ (Lw ++ F))) (fun e he => by simp [he])
        rwa [ixs_flat] at this
      have hwd := hw.rd (X := X) (M := Ll ++ (Lh ++ (Lw ++ F))) (fun e he => by simp [he])
      have ew : IntKind.wrap .i64 ((i : Int) + 1) = ((i + 1 : Nat) : Int) := by rw [wrap64 (by omega) (by omega)]; rfl
      have htk : leftOf q (H.take (i + 1)) = leftOf q (H.take i) ++ (if waits q z = true then [] else [z]) := by
        rw [List.take_add_one, hz]
        simp only [leftOf, List.filter_append, Option.toList_some]
        congr 1
        by_cases hwz : waits q z = true <;> simp [hwz]
      refine own_inner (X := X) (M := Ll ++ (Lh ++ (Lw ++ F))) call n0 _ hz h hrd hhl hwd hwl hql (waits q z) ?_ n0 0 false (Nat.zero_le _) (by omega) (by simp)
      simp only [J5_j1_1_1_1_1_1_1_1_1_1_1_1_1_0_1_0_0_1_0_0_1_1, b5_j1_1_1_1_1_1_1_1_1_1_1_1_1_0_1_0_0_1_0_0_1_1, J5_j1_1_1_1_1_1_1_1_1_1_1_1_1_0_1_0_0_1_1, b5_j1_1_1_1_1_1_1_1_1_1_1_1_1_0_1_0_0_1_1]
      rw [ew]
      refine ok_cond (fun hw1 => ?_) (fun hw1 => ?_)
      · simp only [Bool.not_eq_true'] at hw1
        have hzc : (ics H)[i]? = some (.int .i64 z) := by simp [ics, hz]
        obtain ⟨ph, rfl⟩ := hrd.some_of (by intro e; rw [e] at hzc; cases hzc)
        rw [ixSl_at (k := i) rfl (by omega)]
        simp only
        rw [show ph.2 + i * 1 = ph.2 + i by omega, hrd.ldI h hzc]
        refine ok_newA h (fun b7 S8 h => ?_)
        have h' := h.re (M := Ll ++ (C b7 [.int .i64 z] :: (Lh ++ (Lw ++ F)))) (by intro p; simp only [List.countP_append, List.countP_cons, C]; omega)
        have hle : (leftOf q (H.take i)).length ≤ H.length := by
          refine Nat.le_trans (List.length_filter_le _ _) ?_
          simp; omega
        refine ok_append h' hs (ys := [[.int .i64 z]]) (by simp) rfl (fun K => ?_) (by decide) (by simp [pow46]; omega) (by simp [pow46]; omega) (fun a l c S3 L2 hs' h3 => ?_)
        · have := RdR.first (.rw (X := X) (b := b7) (i := 0) (c := [.int .i64 z]) (cs := [.int .i64 z]) (L := (b7, some (AObj.cells [AV.int IntKind.i64 z])) :: (Ll ++ (Lh ++ (Lw ++ F)))) List.mem_cons_self (by simp) rfl) h (sz := 1) (n := 1) rfl (by decide) (l := 1) (c := .ex 1) K
          simpa using this
        · have e1 : ixs (leftOf q (H.take i)) ++ [[.int .i64 z]] = ixs (leftOf q (H.take (i + 1))) := by
            rw [htk, hw1]; simp [ixs]
          rw [e1] at hs'
          exact own_outer call n0 hn0 hH hhl hwl hql hr hw ht m (i + 1) S3 a l c L2 hlt (by omega) hs' (h3.sub (List.Sublist.append (List.Sublist.refl _) (List.sublist_cons_self _ _)))
      · simp only [Bool.not_eq_false'] at hw1
        have e1 : leftOf q (H.take (i + 1)) = leftOf q (H.take i) := by rw [htk, hw1]; simp
        exact own_outer call n0 hn0 hH hhl hwl hql hr hw ht m (i + 1) S la ll lc Ll hlt (by omega) (by rw [e1]; exact hs) h
    · simp only [decide_eq_false_iff_not] at hc1
      have : i = H.length := by omega
      subst this
      rw [List.take_length] at hs
      exact ht la ll lc Ll S hs h

theorem disk_own (n : Nat) (hn : 80000 < n) (h : Hp X S L) (s at_ : Int) (c8 : UInt8) {a : Option Pos} {l : Nat} {c : Cap} {acts : List Act} (ha : ActsR X a l acts) :
    Ok (ev (n + 6) (.fn 5) [.agg [.int .i64 s, .sl a l c, .int .i64 at_, .int .u8 (c8.toNat : Nat)]] S) fun v S' => v = .bool true := by
  rw [ev, F5 _ _ _ (oL rfl)]
  simp only [J5, b5_entry]
  have live : ∀ S, Ok (callB (evF E orcL (n + 5)) 10 [] S fun v S => some (.bool v, S)) fun v S' => v = .bool true := fun S => by
    rw [callB_of (live_eq (n + 4) S)]; exact ok_ret rfl
  refine ok_ifO rfl ?_
  refine ok_newA h (fun b1 S2 h => ?_)
  refine ok_ldI h rfl (ok_ldL h rfl (ok_ldI h rfl (ok_ldI h rfl ?_)))
  replace h := h.drop1
  obtain ⟨r1, e1, h1⟩ := long_ok (n + 4) (by omega) h ha (c := c)
  rw [callB_of e1]
  refine ok_cond (fun _ => live _) (fun hr1 => ?_)
  refine ok_cond (fun _ => live _) (fun hs => ?_)
  obtain ⟨v, S1, e, hp⟩ := played_ok n hn h ha (h1 hr1).1 (h1 hr1).2 s (c := c)
  rcases hp with ⟨hrng, b, w, Ld, Lr, rfl, hd, hw, hp1⟩ | ⟨hrng, rfl, hp1⟩
  · rw [callT_of e]
    simp only [atP, List.getElem?_cons_zero, List.getElem?_cons_succ, gP]
    refine ok_false rfl ?_
    generalize (DM.new s.toNat 16).plays acts = D at hd hw
    have hwf : D.WF := by obtain ⟨_, _, _, _, _, _, _, _, hR, _⟩ := hd; exact hR.wf
    have n2 := hwf.n2
    obtain ⟨v, S2, e, ia, il, ic, Lh, rfl, hsh, h2⟩ := injured_ok (n + 4) (by omega) hp1 hd
    rw [callL_of e]
    obtain ⟨v, S3, e, fa, fl, fc, Lf, rfl, hsf, h3⟩ := full_ok (n + 4) h2 16 (by omega) (by omega) c8
    rw [callL_of (show ev (n + 5) (.fn 14) [.int .i64 16, .int .u8 (c8.toNat : Nat)] S2 = _ from e)]
    have h3d : Hp X S3 (Ld ++ (Lf ++ (Lh ++ (Lr ++ L)))) := h3.re (by intro p; simp only [List.countP_append]; omega)
    obtain ⟨rf, kf⟩ := hsf.bytes (X := X) (M := Ld ++ (Lf ++ (Lh ++ (Lr ++ L)))) (fun e he => by simp [he])
    obtain ⟨v, S4, e, rfl, Ld2, hd2, h4⟩ := write_ok (n + 3) h3d hd at_ rf kf
    rw [callI_of e, callI_of (num_eq (n + 4) _ S4)]
    refine ok_cond (fun _ => live _) (fun hwr => ?_)
    simp only [bne_eq_false_iff_eq] at hwr
    obtain ⟨f1, f2, f3, f4, f5, f6, f7⟩ := own_facts hwf hwr
    generalize hD1 : D.write at_ (List.replicate 16 c8) = D1 at hd2 f1 f2 f3 f4 f5 f6 f7
    have hwf1 : D1.WF := by obtain ⟨_, _, _, _, _, _, _, _, hR, _⟩ := hd2; exact hR.wf
    have hF : Hp X S4 (Ld2 ++ (Lh ++ (Lf ++ (Lr ++ L)))) := h4.re (by intro p; simp only [List.countP_append]; omega)
    generalize Lf ++ (Lr ++ L) = G at hF
    obtain ⟨v, S5, e, xa, xl, xc, Lx, rfl, hsx, h5⟩ := read_ok (n + 2) (by omega) hF hd2 at_
    rw [callT_of e]
    simp only [atL, atI, List.getElem?_cons_zero, List.getElem?_cons_succ, gL, gIk, if_true]
    rw [callI_of (num_eq (n + 4) _ S5), f1] at *
    refine ok_false rfl ?_
    obtain ⟨rx, kx⟩ := hsx.bytes (X := X) (M := Lx ++ (Ld2 ++ (Lh ++ G))) (fun e he => by simp [he])
    rw [bytesStr_of rx h5 kx]
    obtain ⟨v, S6, e, ga, gl, gc, Lg, rfl, hsg, h6⟩ := full_ok (n + 4) h5 16 (by omega) (by omega) c8
    rw [callL_of (show ev (n + 5) (.fn 14) [.int .i64 16, .int .u8 (c8.toNat : Nat)] S5 = _ from e)]
    obtain ⟨rg, kg⟩ := hsg.bytes (X := X) (M := Lg ++ (Lx ++ (Ld2 ++ (Lh ++ G)))) (fun e he => by simp [he])
    rw [bytesStr_of (rx.mono (fun e he => List.mem_append_right _ he)) h6 kx]
    refine ok_true (by simp [AV.beq]) ?_
    rw [bytesStr_of rg h6 kg]
    refine ok_false (by simp) ?_
    have h6d : Hp X S6 (Ld2 ++ (Lh ++ G)) := h6.right.right
    obtain ⟨v, S7, e, ja, jl, jc, Lj, rfl, hsj, h7⟩ := injured_ok (n + 4) (by omega) h6d hd2
    rw [callL_of e]
    obtain ⟨i3, k3⟩ : RdR X (Lj ++ (Ld2 ++ (Lh ++ G))) ja (ics D.injured) ∧ jl = D.injured.length := by
      have := hsj.rd (X := X) (M := Lj ++ (Ld2 ++ (Lh ++ G))) (fun e he => by simp [he])
      rw [ixs_flat, f2] at this
      exact ⟨this, by rw [hsj.len, f2]; simp⟩
    obtain ⟨i4, k4⟩ : RdR X (Lj ++ (Ld2 ++ (Lh ++ G))) ia (ics D.injured) ∧ il = D.injured.length := by
      have := hsh.rd (X := X) (M := Lj ++ (Ld2 ++ (Lh ++ G))) (fun e he => by simp [he])
      rw [ixs_flat] at this
      exact ⟨this, by rw [hsh.len]; simp⟩
    have hil := DM.injTo_len D D.secs.length
    obtain ⟨r, e, hr⟩ := rints_eq (n + 4) (P := D.injured) (Q := D.injured) (by simp only [DM.injured]; omega) (by omega) h7 i3 i4 k3 k4
    have : r = true := hr.2 rfl
    subst this
    rw [callB_of e]
    refine ok_false rfl ?_
    obtain ⟨v, S8, e, qa, ql, qc, Lq, rfl, hsq, h8⟩ := queue_ok (n + 3) h7.right hd2
    rw [callL_of e]
    have h8d : Hp X S8 (Ld2 ++ (Lh ++ (Lq ++ G))) := h8.re (by intro p; simp only [List.countP_append]; omega)
    obtain ⟨v, S9, e, rfl, Ld3, hd3, h9⟩ := flush_ok (n + 3) (by omega) h8d hd2
    rw [callI_of e, callI_of (num_eq (n + 4) _ S9)]
    refine ok_false (by rw [f3]; rfl) ?_
    have hq := hsq.len
    rw [List.length_map] at hq
    refine own_outer (X := X) (F := Ld3 ++ G) (q := D1.q) (H := D.injured) _ _ (by omega) (by simp only [DM.injured]; omega) k4 hq hwf1.ql hsh hsq (fun la ll lc Ll S h1l h10 => ?_) (n + 5) 0 S9 none 0 (.ex 0) [] (Nat.zero_le _) (by simp only [DM.injured]; omega) (by simpa [leftOf, ixs] using SlR.nil) (h9.re (by intro p; simp only [List.countP_append, List.countP_nil]; omega))
    simp only [J5_j1_1_1_1_1_1_1_1_1_1_1_1_1_1, b5_j1_1_1_1_1_1_1_1_1_1_1_1_1_1]
    have h10d : Hp X S (Ld3 ++ (Ll ++ (Lh ++ (Lq ++ G)))) := h10.re (by intro p; simp only [List.countP_append]; omega)
    generalize Lh ++ (Lq ++ G) = G2 at h10d
    obtain ⟨v, S11, e, ya, yl, yc, Ly, rfl, hsy, h11⟩ := read_ok (n + 2) (by omega) h10d hd3 at_
    rw [callT_of e]
    simp only [atL, atI, atB, List.getElem?_cons_zero, List.getElem?_cons_succ, gL, gIk, gB, if_true]
    have h11d : Hp X S11 (Ld3 ++ (Ly ++ (Ll ++ G2))) := h11.re (by intro p; simp only [List.countP_append]; omega)
    obtain ⟨v, S12, e, ta, tl, tc, Lt, rfl, hst, h12⟩ := stable_ok (n + 3) h11d hd3 at_
    rw [callT_of e]
    simp only [List.getElem?_cons_zero, List.getElem?_cons_succ]
    rw [callI_of (num_eq (n + 4) _ S12)]
    rw [f4] at hsy ⊢
    rw [f5] at hst
    rw [f6]
    refine ok_true rfl ?_
    obtain ⟨ry, ky⟩ := hsy.bytes (X := X) (M := Lt ++ (Ld3 ++ (Ly ++ (Ll ++ G2)))) (fun e he => by simp [he])
    obtain ⟨rt, kt⟩ := hst.bytes (X := X) (M := Lt ++ (Ld3 ++ (Ly ++ (Ll ++ G2)))) (fun e he => by simp [he])
    rw [bytesStr_of ry h12 ky]
    obtain ⟨v, S13, e, ga, gl, gc, Lg, rfl, hsg, h13⟩ := full_ok (n + 4) h12 16 (by omega) (by omega) c8
    rw [callL_of (show ev (n + 5) (.fn 14) [.int .i64 16, .int .u8 (c8.toNat : Nat)] S12 = _ from e)]
    obtain ⟨rg, kg⟩ := hsg.bytes (X := X) (M := Lg ++ (Lt ++ (Ld3 ++ (Ly ++ (Ll ++ G2))))) (fun e he => by simp [he])
    have ry' := ry.mono (M := Lg ++ (Lt ++ (Ld3 ++ (Ly ++ (Ll ++ G2))))) (fun e he => List.mem_append_right _ he)
    have rt' := rt.mono (M := Lg ++ (Lt ++ (Ld3 ++ (Ly ++ (Ll ++ G2))))) (fun e he => List.mem_append_right _ he)
    rw [bytesStr_of ry' h13 ky]
    refine ok_true (by simp [AV.beq]) ?_
    rw [bytesStr_of rg h13 kg]
    refine ok_true (by simp) (ok_true rfl ?_)
    rw [bytesStr_of rt' h13 kt, bytesStr_of ry' h13 ky]
    refine ok_true (by simp) ?_
    have h13d : Hp X S13 (Ld3 ++ (Lg ++ (Lt ++ (Ly ++ (Ll ++ G2))))) := h13.re (by intro p; simp only [List.countP_append]; omega)
    obtain ⟨v, S14, e, ka, kl, kc, Lk, rfl, hsk, h14⟩ := injured_ok (n + 4) (by omega) h13d hd3
    rw [callL_of e]
    rw [f7] at hsk
    obtain ⟨i5, k5⟩ : RdR X (Lk ++ (Ld3 ++ (Lg ++ (Lt ++ (Ly ++ (Ll ++ G2)))))) ka (ics (leftOf D1.q D.injured)) ∧ kl = (leftOf D1.q D.injured).length := by
      have := hsk.rd (X := X) (M := Lk ++ (Ld3 ++ (Lg ++ (Lt ++ (Ly ++ (Ll ++ G2)))))) (fun e he => by simp [he])
      rw [ixs_flat] at this
      exact ⟨this, by rw [hsk.len]; simp⟩
    obtain ⟨i6, k6⟩ : RdR X (Lk ++ (Ld3 ++ (Lg ++ (Lt ++ (Ly ++ (Ll ++ G2)))))) la (ics (leftOf D1.q D.injured)) ∧ ll = (leftOf D1.q D.injured).length := by
      have := h1l.rd (X := X) (M := Lk ++ (Ld3 ++ (Lg ++ (Lt ++ (Ly ++ (Ll ++ G2)))))) (fun e he => by simp [he])
      rw [ixs_flat] at this
      exact ⟨this, by rw [h1l.len]; simp⟩
    have hll : (leftOf D1.q D.injured).length ≤ 65536 := by
      refine Nat.le_trans (List.length_filter_le _ _) ?_
      simp only [DM.injured]; omega
    obtain ⟨r, e, hr⟩ := rints_eq (n + 4) (P := leftOf D1.q D.injured) (Q := leftOf D1.q D.injured) (by omega) (by omega) h14 i5 i6 k5 k6
    have : r = true := hr.2 rfl
    subst this
    rw [callB_of e]
    exact ok_true rfl (live _)
  · rw [callT_of e]
    simp only [atP, List.getElem?_cons_zero, List.getElem?_cons_succ, gP]
    exact ok_true rfl (live _)
end

end Go.Dk
