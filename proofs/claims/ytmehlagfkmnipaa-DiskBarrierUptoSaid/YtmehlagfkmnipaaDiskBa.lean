/- The law DiskBarrier, as the evaluator runs it. -/
import Derived.Test.YtmehlagfkmnipaaDiskPlay
set_option linter.unusedVariables false
set_option linter.unusedSimpArgs false
set_option maxRecDepth 4000
namespace Go.Dk
open Go.Gr

/-- The numbers up to one. -/
def nums (n : Nat) : List Int := (List.range n).map fun (i : Nat) => (i : Int)
@[simp] theorem nums_len (n : Nat) : (nums n).length = n := by simp [nums]
theorem nums_succ (n : Nat) : nums (n + 1) = nums n ++ [(n : Int)] := by simp [nums, List.range_succ]
theorem nums_get {n i : Nat} (h : i < n) : (nums n)[i]? = some (i : Int) := by simp [nums, h]

theorem keptTo_nums (n : Nat) : ∀ i, i ≤ n → keptTo n (nums n) i = List.replicate i true ++ List.replicate (n - i) false
  | 0, _ => by simp [keptTo]
  | i + 1, h => by
    simp only [keptTo, nums_get (show i < n by omega)]
    rw [if_pos (by omega), keptTo_nums n i (by omega), Int.toNat_natCast]
    rw [List.set_append, if_neg (by simp)]
    obtain ⟨m, hm⟩ : ∃ m, n - i = m + 1 := ⟨n - i - 1, by omega⟩
    rw [hm, show n - (i + 1) = m by omega]
    rw [List.length_replicate, Nat.sub_self, List.replicate_succ, List.set_cons_zero, List.replicate_succ']
    simp

theorem kept_nums (n : Nat) : kept n (nums n) = List.replicate n true := by
  rw [kept, nums_len, keptTo_nums n n (Nat.le_refl _)]; simp
theorem kept_nil (n : Nat) : kept n [] = List.replicate n false := rfl

theorem some_all : ∀ (ws : List (Nat × List UInt8)) (D : DM), D.some_ (List.replicate ws.length true) ws = D.settles ws
  | [], D => rfl
  | w :: ws, D => by
    simp only [List.length_cons, List.replicate_succ]
    exact some_all ws (D.settle w)
theorem some_none : ∀ (ws : List (Nat × List UInt8)) (D : DM), D.some_ (List.replicate ws.length false) ws = D
  | [], D => rfl
  | w :: ws, D => by
    simp only [List.length_cons, List.replicate_succ]
    exact some_none ws D

theorem settle_stab (D : DM) (w : Nat × List UInt8) (i : Int) : (D.settle w).stab i = D.stab i ∨ ((w.1 : Int) = i ∧ (D.settle w).stab i = w.2) := by
  have hin : (D.settle w).inn i = D.inn i := by simp [DM.inn, DM.settle]
  by_cases hv : D.inn i = false
  · left
    rw [DM.stab, DM.stab, hin, if_pos hv, if_pos hv]
  · by_cases hi : (w.1 : Int) = i
    · right
      refine ⟨hi, ?_⟩
      rw [DM.stab, hin, if_neg hv]
      simp only [DM.inn, Bool.not_eq_false, Bool.and_eq_true, decide_eq_true_eq] at hv
      have : i.toNat = w.1 := by omega
      rw [this]
      have hl : w.1 < D.secs.length := by omega
      simp [DM.settle, hl]
    · left
      rw [DM.stab, DM.stab, hin, if_neg hv, if_neg hv]
      simp only [DM.inn, Bool.not_eq_false, Bool.and_eq_true, decide_eq_true_eq] at hv
      simp only [DM.settle, List.getElem?_set]
      rw [if_neg (by omega)]

theorem some_stab : ∀ (ks : List Bool) (ws : List (Nat × List UInt8)) (D : DM) (i : Int), (D.some_ ks ws).stab i = D.stab i ∨ ∃ w ∈ ws, (w.1 : Int) = i ∧ w.2 = (D.some_ ks ws).stab i
  | [], ws, D, i => .inl rfl
  | k :: ks, [], D, i => .inl rfl
  | k :: ks, w :: ws, D, i => by
    have e : D.some_ (k :: ks) (w :: ws) = (if k then D.settle w else D).some_ ks ws := rfl
    rw [e]
    rcases some_stab ks ws (if k then D.settle w else D) i with h | ⟨u, hu, h1, h2⟩
    · cases k with
      | false => exact .inl h
      | true =>
        rcases settle_stab D w i with h3 | ⟨h3, h4⟩
        · left; rw [h]; exact h3
        · right; exact ⟨w, by simp, h3, by rw [h]; exact h4.symm⟩
    · exact .inr ⟨u, by simp [hu], h1, h2⟩

theorem crash_all {D : DM} (hoff : D.off = false) : (D.crash (nums D.q.length)).sameP D.flush := by
  have e : D.crash (nums D.q.length) = { D.settles D.q with q := [] } := by rw [DM.crash, kept_nums, some_all]
  have e2 : D.flush = { D.settles D.q with q := [] } := by rw [DM.flush, if_neg (by rw [hoff]; decide)]
  rw [e, e2]
  exact ⟨rfl, rfl, rfl, rfl⟩

theorem crash_none {D : DM} (i : Int) : (D.crash []).stab i = D.stab i := by
  have e : D.crash [] = { D with q := [] } := by rw [DM.crash, kept_nil, some_none]
  rw [e]; rfl

theorem crash_again {D : DM} (l : List Int) (hq : D.q = []) : (D.crash l).sameP D := by
  have e : D.crash l = { D with q := [] } := by
    rw [DM.crash, hq]
    have : ∀ ks : List Bool, D.some_ ks [] = D := fun ks => by simp [DM.some_]
    rw [this]
  rw [e]
  exact ⟨rfl, rfl, rfl, hq.symm⟩

theorem crash_stab (D : DM) (keep : List Int) (i : Int) : (D.crash keep).stab i = D.stab i ∨ ∃ w ∈ D.q, (w.1 : Int) = i ∧ w.2 = (D.crash keep).stab i := by
  rcases some_stab (kept D.q.length keep) D.q D i with h | ⟨w, h1, h2, h3⟩
  · exact .inl h
  · exact .inr ⟨w, h1, h2, h3⟩
def mayq (q : List (Nat × List UInt8)) (i : Int) (s : List UInt8) : Bool := q.any fun w => decide ((w.1 : Int) = i) && decide (w.2 = s)

section
variable {X : Cx} {S : AS} {L F M G : List Ent}

theorem ba_nums (call : CallA) (n0 : Nat) {w0 : Int} {ka : Option Pos} {kl : Nat} {kc : Cap} {w7 w10 w11 w12 w13 : Option Pos} {qa : Option Pos} {ql : Nat} {qc : Cap} (hq : ql ≤ 4096) {Q : AV → AS → Prop}
    (ht : ∀ la ll lc Ll S, SlR la ll lc 1 (ixs (nums ql)) Ll → Hp X S (Ll ++ G) → Ok (J7_j1_1_1_1_1_1_1_1_1 call n0 w0 ka kl kc w7 qa ql qc w10 w11 w12 w13 la ll lc S) Q) :
    ∀ (m i : Nat) (S : AS) (la : Option Pos) (ll : Nat) (lc : Cap) (Ll : List Ent), i ≤ ql → ql - i < m → SlR la ll lc 1 (ixs (nums i)) Ll → Hp X S (Ll ++ G) →
      Ok (J7_l1_1_1_1_1_1_1_1_0_1_0 call n0 m w0 ka kl kc w7 qa ql qc w10 w11 w12 w13 la ll lc i S) Q
  | 0, i, S, la, ll, lc, Ll, hi, hm, hs, h => by omega
  | m + 1, i, S, la, ll, lc, Ll, hi, hm, hs, h => by
    rw [J7_l1_1_1_1_1_1_1_1_0_1_0_succ]
    simp only [b7_l1_1_1_1_1_1_1_1_0_1_0]
    refine ok_cond (fun hc1 => ?_) (fun hc1 => ?_)
    · simp only [decide_eq_true_eq] at hc1
      have ew : IntKind.wrap .i64 ((i : Int) + 1) = ((i + 1 : Nat) : Int) := by rw [wrap64 (by omega) (by omega)]; rfl
      rw [ew]
      refine ok_newA h (fun b7 S8 h => ?_)
      have h' := h.re (M := Ll ++ (C b7 [.int .i64 i] :: G)) (by intro p; simp only [List.countP_append, List.countP_cons, C]; omega)
      refine ok_append h' hs (ys := [[.int .i64 i]]) (by simp) rfl (fun K => ?_) (by decide) (by simp [pow46]; omega) (by simp [pow46]; omega) (fun a l c S3 L2 hs' h3 => ?_)
      · have := RdR.first (.rw (X := X) (b := b7) (i := 0) (c := [.int .i64 i]) (cs := [.int .i64 i]) (L := (b7, some (AObj.cells [AV.int IntKind.i64 (i : Int)])) :: (Ll ++ G)) List.mem_cons_self (by simp) rfl) h (sz := 1) (n := 1) rfl (by decide) (l := 1) (c := .ex 1) K
        simpa using this
      · have e1 : ixs (nums i) ++ [[.int .i64 (i : Int)]] = ixs (nums (i + 1)) := by rw [nums_succ]; simp [ixs]
        rw [e1] at hs'
        exact ba_nums call n0 hq ht m (i + 1) S3 a l c L2 (by omega) (by omega) hs' (h3.sub (List.Sublist.append (List.Sublist.refl _) (List.sublist_cons_self _ _)))
    · simp only [decide_eq_false_iff_not] at hc1
      have : i = ql := by omega
      subst this
      exact ht la ll lc Ll S hs h

theorem ba_inner (call : CallA) (n0 : Nat) (kk : Int → AV → Option Pos → Option Pos → Nat → Cap → Option Pos → Option Pos → Option Pos → Nat → Cap → Int → AS → Option (AV × AS)) {w0 : Int} {w7 w11 w13 : Option Pos} {qa : Option Pos} {ql : Nat} {qc : Cap} {la : Option Pos} {ll : Nat} {lc : Cap} {i : Int} {ra : Option Pos} {rl : Nat} {rc : Cap} {na : Option Pos} {nl : Nat} {nc : Cap} {sa : Option Pos} {sl : Nat} {sc : Cap} {q : List (Nat × List UInt8)} {Lq : List Ent} {bs : List UInt8}
    (hS : Hp X S M) (hsq : SlR qa ql qc 2 (q.map encW) Lq) (hm : ∀ e ∈ Lq, e ∈ M) (hql : q.length ≤ 4096) (hb : RdR X M sa (ofBytes bs)) (hbl : sl = bs.length) {Q : AV → AS → Prop} (b : Bool)
    (ht : Ok (J7_j1_1_1_1_1_1_1_1_1_1_1_1_1_0_1_0_0_1_0_0_1_1_1_1_1 call n0 kk w0 w7 qa ql qc w11 w13 la ll lc i ra rl rc na nl nc b S) Q) :
    ∀ (m k : Nat) (acc : Bool), k ≤ q.length → q.length - k < m → (acc || mayq (q.drop k) i bs) = b → Ok (J7_l1_1_1_1_1_1_1_1_1_1_1_1_1_0_1_0_0_1_0_0_1_1_1_1_0_1_0 call n0 kk m w0 w7 qa ql qc w11 w13 la ll lc i ra rl rc na nl nc sa sl sc acc k S) Q
  | 0, k, acc, hk, hm, he => by omega
  | m + 1, k, acc, hk, hm', he => by
    have hlen := hsq.len
    rw [List.length_map] at hlen
    rw [J7_l1_1_1_1_1_1_1_1_1_1_1_1_1_0_1_0_0_1_0_0_1_1_1_1_0_1_0_succ]
    simp only [b7_l1_1_1_1_1_1_1_1_1_1_1_1_1_0_1_0_0_1_0_0_1_1_1_1_0_1_0]
    refine ok_cond (fun hc1 => ?_) (fun hc1 => ?_)
    · simp only [decide_eq_true_eq] at hc1
      have hlt : k < q.length := by omega
      obtain ⟨u, hu⟩ : ∃ u, q[k]? = some u := ⟨q[k], by simp [hlt]⟩
      have hd : q.drop k = u :: q.drop (k + 1) := by
        obtain ⟨h1, h2⟩ := List.getElem?_eq_some_iff.1 hu
        rw [List.drop_eq_getElem_cons h1, h2]
      have ew : IntKind.wrap .i64 ((k : Int) + 1) = ((k + 1 : Nat) : Int) := by rw [wrap64 (by omega) (by omega)]; rfl
      have hww : mayq (q.drop k) i bs = ((decide ((u.1 : Int) = i) && decide (u.2 = bs)) || mayq (q.drop (k + 1)) i bs) := by rw [hd]; simp [mayq]
      rw [ew]
      refine ok_cond (fun hacc => ?_) (fun hacc => ?_)
      · subst hacc
        exact ba_inner call n0 kk hS hsq hm hql hb hbl b ht m (k + 1) true (by omega) (by omega) (by rw [← he]; simp)
      · subst hacc
        rcases hsq.dest with ⟨_, h2, _⟩ | ⟨bq, rfl, h2, h3, rfl, hx⟩
        · omega
        · have hmq := hm _ List.mem_cons_self
          have c0 : (q.map encW).flatten[0 + k * 2]? = some (.int .i64 u.1) := by
            rw [Nat.zero_add, ← Nat.add_zero (k * 2), flat_get (x := encW u) (encW_all q) (by simp [hu]) (by decide)]; rfl
          have c1 : (q.map encW).flatten[0 + k * 2 + 1]? = some (.str u.2) := by
            rw [Nat.zero_add, flat_get (x := encW u) (encW_all q) (by simp [hu]) (by decide)]; rfl
          refine ok_ixSl (k := k) rfl (by omega) (okM_ldI hS hmq c0 ?_)
          refine ok_cond (fun hc2 => ?_) (fun hc2 => ?_)
          · simp only [beq_iff_eq] at hc2
            refine ok_ixSl (k := k) rfl (by omega) (okM_ldS hS hmq c1 ?_)
            rw [bytesStr_of hb hS hbl]
            refine ba_inner call n0 kk hS hsq hm hql hb hbl b ht m (k + 1) _ (by omega) (by omega) ?_
            rw [← he, hww, decide_eq_true hc2]
            simp only [Bool.false_or, Bool.true_and]
            congr 1
            by_cases hh : u.2 = bs <;> simp [hh]
          · simp only [beq_eq_false_iff_ne, ne_eq] at hc2
            refine ba_inner call n0 kk hS hsq hm hql hb hbl b ht m (k + 1) false (by omega) (by omega) ?_
            rw [← he, hww, decide_eq_false hc2]
            simp
    · simp only [decide_eq_false_iff_not] at hc1
      have : k = q.length := by omega
      subst this
      rw [List.drop_length] at he
      have : acc = b := by rw [← he]; simp [mayq]
      subst this
      exact ht

theorem may_true (D : DM) (keep : List Int) (i : Int) : ((D.crash keep).stab i == D.stab i || mayq D.q i ((D.crash keep).stab i)) = true := by
  rcases crash_stab D keep i with h | ⟨w, h1, h2, h3⟩
  · rw [h]; simp
  · have : mayq D.q i ((D.crash keep).stab i) = true := by
      simp only [mayq, List.any_eq_true]
      exact ⟨w, h1, by simp [h2, h3]⟩
    rw [this]; simp

theorem ba_main (n : Nat) (hn : 80000 < n) {D : DM} {keep : List Int} {b b11 b13 : Nat} {Ld L11 L13 Lq Ll : List Ent} {s : Int} (hs : s ≤ 40) {qa : Option Pos} {ql : Nat} {qc : Cap} {la : Option Pos} {ll : Nat} {lc : Cap}
    (hd : Disk b D Ld) (hd11 : Disk b11 (D.crash []) L11) (hd13 : Disk b13 (D.crash keep) L13) (hsq : SlR qa ql qc 2 (D.q.map encW) Lq) (hsl : SlR la ll lc 1 (ixs (nums D.q.length)) Ll) :
    ∀ (m i : Nat) (S : AS) (G : List Ent), i ≤ 41 → 41 - i < m → Hp X S (Ld ++ (L11 ++ (L13 ++ (Lq ++ (Ll ++ G))))) →
      Ok (J7_l1_1_1_1_1_1_1_1_1_1_1_1_1_0_1_0 (evF E orcL (n + 5)) (n + 5) m s .undef (some (.rw b, 0)) qa ql qc (some (.rw b11, 0)) (some (.rw b13, 0)) la ll lc i S) fun v S' => v = .bool true := by
  have hwf : D.WF := by obtain ⟨_, _, _, _, _, _, _, _, hR, _⟩ := hd; exact hR.wf
  have hql := hwf.ql
  intro m
  induction m with
  | zero => intro i S G _ hm; omega
  | succ m ih =>
    intro i S G hi hm h
    rw [J7_l1_1_1_1_1_1_1_1_1_1_1_1_1_0_1_0_succ]
    simp only [b7_l1_1_1_1_1_1_1_1_1_1_1_1_1_0_1_0]
    refine ok_cond (fun hc1 => ?_) (fun hc1 => ?_)
    · simp only [decide_eq_true_eq] at hc1
      obtain ⟨v, S1, e, ra, rl, rc, La, rfl, hsa, h1⟩ := stable_ok (n + 3) h hd i
      rw [callT_of e]
      simp only [atL, atB, List.getElem?_cons_zero, List.getElem?_cons_succ, gL, gB]
      have h1d : Hp X S1 (L11 ++ (La ++ (Ld ++ (L13 ++ (Lq ++ (Ll ++ G)))))) := h1.re (by intro p; simp only [List.countP_append]; omega)
      obtain ⟨v, S2, e, na, nl, nc, Lb, rfl, hsb, h2⟩ := stable_ok (n + 3) h1d hd11 i
      rw [callT_of e]
      simp only [List.getElem?_cons_zero, List.getElem?_cons_succ]
      have h2d : Hp X S2 (L13 ++ (Lb ++ (L11 ++ (La ++ (Ld ++ (Lq ++ (Ll ++ G))))))) := h2.re (by intro p; simp only [List.countP_append]; omega)
      obtain ⟨v, S3, e, sa, sl, sc, Lc, rfl, hsc, h3⟩ := stable_ok (n + 3) h2d hd13 i
      rw [callT_of e]
      simp only [List.getElem?_cons_zero, List.getElem?_cons_succ]
      obtain ⟨rr, kr⟩ := hsa.bytes (X := X) (M := Lc ++ (L13 ++ (Lb ++ (L11 ++ (La ++ (Ld ++ (Lq ++ (Ll ++ G)))))))) (fun e he => by simp [he])
      obtain ⟨rn, kn⟩ := hsb.bytes (X := X) (M := Lc ++ (L13 ++ (Lb ++ (L11 ++ (La ++ (Ld ++ (Lq ++ (Ll ++ G)))))))) (fun e he => by simp [he])
      obtain ⟨rs, ks⟩ := hsc.bytes (X := X) (M := Lc ++ (L13 ++ (Lb ++ (L11 ++ (La ++ (Ld ++ (Lq ++ (Ll ++ G)))))))) (fun e he => by simp [he])
      rw [bytesStr_of rs h3 ks, bytesStr_of rr h3 kr]
      refine ba_inner (X := X) (q := D.q) _ _ _ h3 hsq (fun e he => by simp [he]) hql rs ks true ?_ (n + 5) 0 _ (Nat.zero_le _) (by omega) (by rw [List.drop_zero]; exact may_true D keep i)
      simp only [J7_j1_1_1_1_1_1_1_1_1_1_1_1_1_0_1_0_0_1_0_0_1_1_1_1_1, b7_j1_1_1_1_1_1_1_1_1_1_1_1_1_0_1_0_0_1_0_0_1_1_1_1_1]
      rw [bytesStr_of rn h3 kn, bytesStr_of rr h3 kr]
      refine ok_false (by rw [crash_none]; simp) (ok_false rfl ?_)
      have ew : IntKind.wrap .i64 ((i : Int) + 1) = ((i + 1 : Nat) : Int) := by rw [wrap64 (by omega) (by omega)]; rfl
      rw [ew]
      exact ih (i + 1) S3 (Lc ++ (Lb ++ (La ++ G))) (by omega) (by omega) (h3.re (by intro p; simp only [List.countP_append]; omega))
    · simp only [J7_j1_1_1_1_1_1_1_1_1_1_1_1_1_1, b7_j1_1_1_1_1_1_1_1_1_1_1_1_1_1]
      have h0 : Hp X S (L13 ++ (Ld ++ (L11 ++ (Lq ++ (Ll ++ G))))) := h.re (by intro p; simp only [List.countP_append]; omega)
      obtain ⟨v, S1, e, b', Lk, rfl, hdk, h1⟩ := copy_ok (n + 3) h0 hd13
      rw [callP_of e]
      refine ok_false rfl ?_
      have hrd := hsl.rd (X := X) (M := L13 ++ (Ld ++ (L11 ++ (Lq ++ (Ll ++ G))))) (fun e he => by simp [he])
      rw [ixs_flat] at hrd
      have kll : ll = (nums D.q.length).length := by rw [hsl.len]; simp
      obtain ⟨v, S2, e, rfl, Lk2, hdk2, h2⟩ := crash_ok (n + 3) (by omega) h1 hdk hrd kll (by simp; omega)
      rw [callT_of e]
      obtain ⟨r, e, hr⟩ := same_eq (n + 3) (by omega) h2 hdk2 hd13 (fun e he => by simp [he]) (fun e he => by simp [he])
      rw [callB_of e]
      have : r = true := hr.2 (crash_again _ rfl)
      subst this
      refine ok_true rfl ?_
      rw [callB_of (live_eq (n + 4) S2)]
      exact ok_ret rfl

theorem disk_barrier (n : Nat) (hn : 80000 < n) (h : Hp X S L) (s : Int) {a ka : Option Pos} {l kl : Nat} {c kc : Cap} {acts : List Act} {keep : List Int} (ha : ActsR X a l acts) (hk : RdR X [] ka (ics keep)) (hkl : kl = keep.length) :
    Ok (ev (n + 6) (.fn 7) [.int .i64 s, .sl a l c, .sl ka kl kc] S) fun v S' => v = .bool true := by
  rw [ev, F7 _ _ _ _ _ _ _ _ _ (oL rfl)]
  simp only [J7, b7_entry]
  have live : ∀ S, Ok (callB (evF E orcL (n + 5)) 10 [] S fun v S => some (.bool v, S)) fun v S' => v = .bool true := fun S => by
    rw [callB_of (live_eq (n + 4) S)]; exact ok_ret rfl
  obtain ⟨r1, e1, h1⟩ := long_ok (n + 4) (by omega) h ha (c := c)
  rw [callB_of e1]
  refine ok_cond (fun _ => live _) (fun hr1 => ?_)
  refine ok_cond (fun _ => live _) (fun hk2 => ?_)
  simp only [gt_iff_lt, decide_eq_false_iff_not] at hk2
  refine ok_cond (fun _ => live _) (fun hs => ?_)
  simp only [gt_iff_lt, decide_eq_false_iff_not] at hs
  obtain ⟨v, S1, e, hp⟩ := played_ok n hn h ha (h1 hr1).1 (h1 hr1).2 s (c := c)
  rcases hp with ⟨hrng, b, w, Ld, Lr, rfl, hd, hw, hp1⟩ | ⟨hrng, rfl, hp1⟩
  · rw [callT_of e]
    simp only [atP, List.getElem?_cons_zero, List.getElem?_cons_succ, gP]
    refine ok_false rfl ?_
    generalize (DM.new s.toNat 16).plays acts = D at hd hw
    have hwf : D.WF := by obtain ⟨_, _, _, _, _, _, _, _, hR, _⟩ := hd; exact hR.wf
    have hql := hwf.ql
    rw [callB_of (failed_eq (n + 4) hp1 hd)]
    refine ok_cond (fun _ => live _) (fun hoff => ?_)
    generalize Lr ++ L = G at hp1
    obtain ⟨v, S2, e, qa, ql, qc, Lq, rfl, hsq, h2⟩ := queue_ok (n + 3) hp1 hd
    rw [callL_of e]
    have hq := hsq.len
    rw [List.length_map] at hq
    subst hq
    obtain ⟨v, S3, e, b10, L10, rfl, hd10, h3⟩ := copy_ok (n + 3) (F := Lq ++ G) (h2.re (by intro p; simp only [List.countP_append]; omega)) hd
    rw [callP_of e]
    obtain ⟨v, S4, e, b11, L11, rfl, hd11, h4⟩ := copy_ok (n + 3) (F := L10 ++ (Lq ++ G)) (h3.re (by intro p; simp only [List.countP_append]; omega)) hd
    rw [callP_of e]
    obtain ⟨v, S5, e, b12, L12, rfl, hd12, h5⟩ := copy_ok (n + 3) (F := L11 ++ (L10 ++ (Lq ++ G))) (h4.re (by intro p; simp only [List.countP_append]; omega)) hd
    rw [callP_of e]
    obtain ⟨v, S6, e, b13, L13, rfl, hd13, h6⟩ := copy_ok (n + 3) (F := L12 ++ (L11 ++ (L10 ++ (Lq ++ G)))) (h5.re (by intro p; simp only [List.countP_append]; omega)) hd
    rw [callP_of e]
    refine ok_false rfl (ok_false rfl (ok_false rfl (ok_false rfl ?_)))
    refine ba_nums (X := X) (G := L13 ++ (Ld ++ (L12 ++ (L11 ++ (L10 ++ (Lq ++ G)))))) _ _ hql (fun la ll lc Ll S7 hsl h7 => ?_) (n + 5) 0 S6 none 0 (.ex 0) [] (Nat.zero_le _) (by omega) (by simpa [nums, ixs] using SlR.nil) h6
    simp only [J7_j1_1_1_1_1_1_1_1_1, b7_j1_1_1_1_1_1_1_1_1]
    have rl : ∀ {M : List Ent}, (∀ e ∈ Ll, e ∈ M) → RdR X M la (ics (nums D.q.length)) := fun k => by
      have := hsl.rd (X := X) k
      rwa [ixs_flat] at this
    have kll : ll = (nums D.q.length).length := by rw [hsl.len]; simp
    obtain ⟨v, S8, e, rfl, L10', hd10', h8⟩ := crash_ok (n + 3) (L := L10) (F := L13 ++ (Ld ++ (L12 ++ (L11 ++ (Lq ++ (Ll ++ G)))))) (by omega) (h7.re (by intro p; simp only [List.countP_append]; omega)) hd10 (rl (fun e he => by simp [he])) kll (by simp; omega)
    rw [callT_of e]
    obtain ⟨v, S9, e, rfl, L11', hd11', h9⟩ := crash_ok (n + 3) (L := L11) (F := L13 ++ (Ld ++ (L12 ++ (L10' ++ (Lq ++ (Ll ++ G)))))) (by omega) (h8.re (by intro p; simp only [List.countP_append]; omega)) hd11 (keep := []) .nil rfl (by simp) (kc := .ex 0)
    rw [callT_of (show ev (n + 5) _ [.ptr (some (.rw b11, 0)), .sl none 0 (.ex 0)] S8 = _ from e)]
    refine ok_newA h9 (fun b37 S10 h10 => ?_)
    have hkf : (ixs keep).flatten = ics keep := ixs_flat keep
    refine ok_spread (ys := ixs keep) h10 (by rw [hkf]; exact hk) (ixs_all _) (by simp [hkl]) (by simp [pow46]; omega) (by simp [pow46]; omega) (fun a' l' c' S11 L14 hs14 h11 => ?_)
    have r14 : RdR X (Ld ++ (L12 ++ (L11' ++ (L10' ++ (L14 ++ (Lq ++ (Ll ++ G))))))) a' (ics keep) := by
      have := hs14.rd (X := X) (M := Ld ++ (L12 ++ (L11' ++ (L10' ++ (L14 ++ (Lq ++ (Ll ++ G))))))) (fun e he => by simp [he])
      rwa [ixs_flat] at this
    have k14 : l' = keep.length := by rw [hs14.len]; simp
    obtain ⟨v, S12, e, rfl, L13', hd13', h12⟩ := crash_ok (n + 3) (L := L13) (F := Ld ++ (L12 ++ (L11' ++ (L10' ++ (L14 ++ (Lq ++ (Ll ++ G))))))) (by omega) (h11.re (by intro p; simp only [List.countP_append]; omega)) hd13 r14 k14 (by omega)
    rw [callT_of e]
    obtain ⟨v, S13, e, rfl, L12', hd12', h13⟩ := flush_ok (n + 3) (by omega) (L := L12) (F := L13' ++ (Ld ++ (L11' ++ (L10' ++ (L14 ++ (Lq ++ (Ll ++ G))))))) (h12.re (by intro p; simp only [List.countP_append]; omega)) hd12
    rw [callI_of e, callI_of (num_eq (n + 4) _ S13)]
    refine ok_false (by rw [DM.flushE, if_neg (by rw [hoff]; decide)]; rfl) ?_
    obtain ⟨r, e, hr⟩ := same_eq (n + 3) (by omega) h13 hd10' hd12' (fun e he => by simp [he]) (fun e he => by simp [he])
    rw [callB_of e]
    have : r = true := hr.2 (crash_all hoff)
    subst this
    refine ok_false rfl ?_
    obtain ⟨v, S14, e, ya, yl, yc, Ly, rfl, hsy, h14⟩ := queue_ok (n + 3) (L := L13') (F := L12' ++ (Ld ++ (L11' ++ (L10' ++ (L14 ++ (Lq ++ (Ll ++ G))))))) (h13.re (by intro p; simp only [List.countP_append]; omega)) hd13'
    rw [callL_of e]
    have hy := hsy.len
    have : yl = 0 := by rw [hy]; simp [DM.crash]
    subst this
    refine ok_false rfl ?_
    exact ba_main n hn (by omega) hd hd11' hd13' hsq hsl (n + 5) 0 S14 (Ly ++ (L12' ++ (L10' ++ (L14 ++ G)))) (by omega) (by omega) (h14.re (by intro p; simp only [List.countP_append]; omega))
  · rw [callT_of e]
    simp only [atP, List.getElem?_cons_zero, List.getElem?_cons_succ, gP]
    exact ok_true rfl (live _)
end

end Go.Dk
