/- The law AllocOld: its run, joined. -/
import Derived.Test.YtjninokocidaaaaAlJ
set_option linter.unusedVariables false
set_option linter.unusedSimpArgs false
set_option maxRecDepth 4000
namespace Go.Al
open Go.Gr

section
variable {X : Cx} {S : AS} {L F : List Ent} {b : Nat} {A : AM} {Q : AV → AS → Prop}

theorem old_loop1 (n0 n : Nat) (ha : Alloc b A L) {x : Nat} (hl : A.s.length = x) (hx : x ≤ 200) {a2 : Option Pos} {l2 : Nat} {c2 c8 : Cap} {bm : Nat} : ∀ (m i : Nat) (S : AS), i ≤ x → x - i < m → Hp X S (L ++ (C bm (row .u8 (usedTo A.s i)) :: F)) →
    (∀ S', Hp X S' (L ++ (C bm (row .u8 (usedTo A.s x)) :: F)) → Ok (J4_j1_1_1_1_1_1_1_1 (evF E orcL (n + 2)) n0 x a2 l2 c2 (some (.rw b, 0)) (some (.rw bm, 0)) ((x + 7) / 8) c8 S') Q) →
    Ok (J4_l1_1_1_1_1_1_1_0_1_0 (evF E orcL (n + 2)) n0 m x a2 l2 c2 (some (.rw b, 0)) (some (.rw bm, 0)) ((x + 7) / 8) c8 i S) Q
  | 0, i, S, hi, hm, h, ht => by omega
  | m + 1, i, S, hi, hm, h, ht => by
    rw [J4_l1_1_1_1_1_1_1_0_1_0_succ]
    simp only [b4_l1_1_1_1_1_1_1_0_1_0]
    refine ok_cond (fun hc => ?_) (fun hc => ?_)
    · simp only [decide_eq_true_eq] at hc
      have hlt : i < A.s.length := by omega
      obtain ⟨y, hy⟩ : ∃ y, A.s[i]? = some y := ⟨_, List.getElem?_eq_getElem hlt⟩
      rw [callI_of (state_eq n h ha i)]
      have hst : A.state i = (y : Int) := by
        unfold AM.state
        rw [if_pos ⟨by omega, by omega⟩]
        simp [List.getD_eq_getElem?_getD, hy]
      rw [hst]
      have next : ∀ S1, Hp X S1 (L ++ (C bm (row .u8 (usedTo A.s (i + 1))) :: F)) → Ok (J4_j1_1_1_1_1_1_1_0_1_0_0_1_1 (evF E orcL (n + 2)) n0 (J4_l1_1_1_1_1_1_1_0_1_0 (evF E orcL (n + 2)) n0 m) x a2 l2 c2 (some (.rw b, 0)) (some (.rw bm, 0)) ((x + 7) / 8) c8 i S1) Q := by
        intro S1 h1
        simp only [J4_j1_1_1_1_1_1_1_0_1_0_0_1_1, b4_j1_1_1_1_1_1_1_0_1_0_0_1_1]
        rw [wn (x := (i : Int) + 1) (n := i + 1) (by omega) (by omega)]
        exact old_loop1 n0 n ha hl hx m (i + 1) S1 (by omega) (by omega) h1 ht
      have hw : IntKind.wrap .i64 (Int.tdiv (i : Int) 8) = ((i / 8 : Nat) : Int) := by rw [tdiv8, wrap64 (by omega) (by omega)]
      have hw8 : IntKind.wrap .u64 (Int.tmod (i : Int) 8) = ((i % 8 : Nat) : Int) := by rw [tmod8]; exact wrapU8 ⟨i % 8, Nat.mod_lt _ (by decide)⟩
      have hb8 : i / 8 < (x + 7) / 8 := by omega
      have hlen : (usedTo A.s i).length = (x + 7) / 8 := by rw [usedTo_len, hl]
      refine ok_cond (fun hy4 => ?_) (fun hy4 => ?_)
      · have hy4 : y = 4 := by simp only [beq_iff_eq] at hy4; omega
        subst hy4
        obtain ⟨z, hz⟩ : ∃ z, (usedTo A.s i)[i / 8]? = some z := ⟨_, List.getElem?_eq_getElem (by omega)⟩
        have hz2 := usedTo_lt A.s i z (List.mem_of_getElem? hz)
        refine ok_ixSl (k := i / 8) hw hb8 ?_
        simp only [Nat.zero_add, Nat.mul_one]
        refine ok_ldI h (row_at hz) ?_
        rw [hw8]
        refine ok_nneg (by omega) ?_
        refine ok_ixSl (k := i / 8) hw hb8 ?_
        simp only [Nat.zero_add, Nat.mul_one]
        have e := orI_bit ⟨z, hz2⟩ ⟨i % 8, Nat.mod_lt _ (by decide)⟩
        simp only at e
        rw [e]
        refine ok_stn h (by rw [row_len, hlen]; simp; omega) (d := row .u8 (usedTo A.s (i + 1))) ?_ (fun S2 h2 => next S2 h2)
        rw [row_splice _ (by rw [hlen]; exact hb8), usedTo, if_pos hy, putBit]
        simp [List.getD, hz]
      · have hy4 : y ≠ 4 := by simp only [beq_eq_false_iff_ne, ne_eq] at hy4; omega
        refine next S ?_
        rw [usedTo, if_neg (by rw [hy]; simpa using hy4)]
        exact h
    · simp only [decide_eq_false_iff_not] at hc
      obtain rfl : i = x := by omega
      exact ht S h

theorem old_end (n0 n : Nat) (hn : 70000 < n) {s0 : List Nat} {x : Nat} (h0 : s0.length = x) (hx : x ≤ 200) {bh : Nat} {ch : Cap} (ha : Alloc b A L) (hcl : A.s.map cls = s0.map cls) (h : Hp X S (L ++ (C bh (row .u8 (bits s0)) :: F))) :
    Ok (J4_j1_1_1_1_1_1_1_1_1_1 (evF E orcL (n + 1)) n0 (some (.rw b, 0)) (some (.rw bh, 0)) ((x + 7) / 8) ch S) TrueQ := by
  have hl : A.s.length = x := by have := congrArg List.length hcl; simp at this; omega
  simp only [J4_j1_1_1_1_1_1_1_1_1_1, b4_j1_1_1_1_1_1_1_1_1_1]
  obtain ⟨v, S1, e, bz, rfl, h1⟩ := bitmap_ok n hn h ha
  rw [callL_of e, hl]
  have hb := toB_of (l := bits s0) (fun z hz => bitsTo_lt s0 _ z hz)
  have hb2 := toB_of (l := bits A.s) (fun z hz => bitsTo_lt A.s _ z hz)
  have hlb : ((x + 7) / 8) = (toB (bits s0)).length := by simp [toB, bits_len, h0]
  have hlb2 : ((x + 7) / 8) = (toB (bits A.s)).length := by simp [toB, bits_len, hl]
  have r1 : RdR X (C bz (row .u8 (bits A.s)) :: (L ++ (C bh (row .u8 (bits s0)) :: F))) (some (.rw bz, 0)) (ofBytes (toB (bits A.s))) := .rw (c := row .u8 (bits A.s)) (by simp) (by simp [toB]) (by rw [hb2, List.drop_zero, row_len]; exact List.take_of_length_le (by simp))
  have r2 : RdR X (C bz (row .u8 (bits A.s)) :: (L ++ (C bh (row .u8 (bits s0)) :: F))) (some (.rw bh, 0)) (ofBytes (toB (bits s0))) := .rw (c := row .u8 (bits s0)) (by simp) (by simp [toB]) (by rw [hb, List.drop_zero, row_len]; exact List.take_of_length_le (by simp))
  have r3 : RdR X (L ++ (C bh (row .u8 (bits s0)) :: F)) (some (.rw bh, 0)) (ofBytes (toB (bits s0))) := .rw (c := row .u8 (bits s0)) (by simp) (by simp [toB]) (by rw [hb, List.drop_zero, row_len]; exact List.take_of_length_le (by simp))
  rw [bytesStr_of r1 h1 hlb2, bytesStr_of r2 h1 hlb, bytesStr_of r3 h hlb]
  refine ok_true (by simp [AV.beq]) (ok_true (by rw [bits_cls hcl]; simp) (live_ok n S1))

theorem old_acts (n0 n : Nat) (hn : 1000000 < n) {s0 : List Nat} {x : Nat} (h0 : s0.length = x) (hx : x ≤ 200) {a : Option Pos} {c c8 ch : Cap} {acts : List (Int × Int)} (hac : ActsR X a acts) (h80 : acts.length ≤ 80) {b bm bh : Nat} :
    ∀ (m i : Nat) (w6 : AV) (A : AM) (L : List Ent) (S : AS), i ≤ acts.length → acts.length - i < m → Alloc b A L → A.WF → A.s.map cls = s0.map cls → Hp X S (L ++ (C bm (row .u8 (usedTo s0 x)) :: C bh (row .u8 (bits s0)) :: F)) →
      Ok (J4_l1_1_1_1_1_1_1_1_1_0_1_0 (evF E orcL (n + 303)) n0 m x a acts.length c w6 (some (.rw b, 0)) (some (.rw bm, 0)) ((x + 7) / 8) c8 (some (.rw bh, 0)) ((x + 7) / 8) ch i S) TrueQ
  | 0, i, w6, A, L, S, hi, hm, ha, hw, hcl, h => by omega
  | m + 1, i, w6, A, L, S, hi, hm, ha, hw, hcl, h => by
    rw [J4_l1_1_1_1_1_1_1_1_1_0_1_0_succ]
    simp only [b4_l1_1_1_1_1_1_1_1_1_0_1_0]
    have hwt := hw.tl
    have hl : A.s.length = x := by have := congrArg List.length hcl; simp at this; omega
    refine ok_cond (fun hc => ?_) (fun _ => old_end n0 (n + 302) (by omega) h0 hx ha hcl (h.sub (List.Sublist.append_left (List.sublist_cons_self _ _) L)))
    simp only [decide_eq_true_eq] at hc
    have hlt : i < acts.length := by omega
    obtain ⟨y, p, hy, rfl, hld, hk, hv⟩ := acts_at hac h hlt
    have next : ∀ (A : AM) (L : List Ent) (S : AS), Alloc b A L → A.WF → A.s.map cls = s0.map cls → Hp X S (L ++ (C bm (row .u8 (usedTo s0 x)) :: C bh (row .u8 (bits s0)) :: F)) →
        Ok (J4_j1_1_1_1_1_1_1_1_1_0_1_0_0_1_1 (evF E orcL (n + 303)) n0 (J4_l1_1_1_1_1_1_1_1_1_0_1_0 (evF E orcL (n + 303)) n0 m) x (some p) acts.length c (some (.rw b, 0)) (some (.rw bm, 0)) ((x + 7) / 8) c8 (some (.rw bh, 0)) ((x + 7) / 8) ch i S) TrueQ := by
      intro A L S h1 h2 h3 h4
      simp only [J4_j1_1_1_1_1_1_1_1_1_0_1_0_0_1_1, b4_j1_1_1_1_1_1_1_1_1_0_1_0_0_1_1]
      rw [wn (x := (i : Int) + 1) (n := i + 1) (by omega) (by omega)]
      exact old_acts n0 n hn h0 hx hac h80 m (i + 1) .undef A L S (by omega) (by omega) h1 h2 h3 h4
    have mid : ∀ (A : AM) (L : List Ent) (S : AS) (v e : Int), Alloc b A L → A.WF → A.s.map cls = s0.map cls → Hp X S (L ++ (C bm (row .u8 (usedTo s0 x)) :: C bh (row .u8 (bits s0)) :: F)) → (e = 0 → ∃ k : Nat, v = k ∧ (s0[k]?).map cls = some 0) →
        Ok (J4_j1_1_1_1_1_1_1_1_1_0_1_0_0_1_0_0_1_1 (evF E orcL (n + 303)) n0 (J4_l1_1_1_1_1_1_1_1_1_0_1_0 (evF E orcL (n + 303)) n0 m) x (some p) acts.length c (some (.rw b, 0)) (some (.rw bm, 0)) ((x + 7) / 8) c8 (some (.rw bh, 0)) ((x + 7) / 8) ch i v e S) TrueQ := by
      intro A L S v e h1 h2 h3 h4 hk0
      simp only [J4_j1_1_1_1_1_1_1_1_1_0_1_0_0_1_0_0_1_1, b4_j1_1_1_1_1_1_1_1_1_0_1_0_0_1_0_0_1_1]
      rw [callI_of (num_eq (n + 302) e S)]
      refine ok_cond (fun he => ?_) (fun _ => next A L S h1 h2 h3 h4)
      simp only [beq_iff_eq] at he
      obtain ⟨k, rfl, hk1⟩ := hk0 he
      have hkl : k < x := by
        cases hg : s0[k]? with
        | none => rw [hg] at hk1; simp at hk1
        | some z => have := (List.getElem?_eq_some_iff.1 hg).1; omega
      refine ok_false (by simp) (ok_false (by simp; omega) ?_)
      have hw' : IntKind.wrap .i64 (Int.tdiv (k : Int) 8) = ((k / 8 : Nat) : Int) := by rw [tdiv8, wrap64 (by omega) (by omega)]
      have hlen : (usedTo s0 x).length = (x + 7) / 8 := by rw [usedTo_len, h0]
      obtain ⟨z, hz⟩ : ∃ z, (usedTo s0 x)[k / 8]? = some z := ⟨_, List.getElem?_eq_getElem (by omega)⟩
      have hz2 := usedTo_lt s0 x z (List.mem_of_getElem? hz)
      refine ok_ixSl (k := k / 8) hw' (by omega) ?_
      simp only [Nat.zero_add, Nat.mul_one]
      refine ok_ldI h4 (row_at hz) ?_
      have e2 := test_bit ⟨z, hz2⟩ ⟨k % 8, Nat.mod_lt _ (by decide)⟩
      simp only at e2
      refine ok_nneg (by rw [tmod8, wrapU8 ⟨k % 8, Nat.mod_lt _ (by decide)⟩]; omega) ?_
      rw [tmod8, e2]
      have hb : z.testBit (k % 8) = bitAt (usedTo s0 x) k := by simp [bitAt, List.getD_eq_getElem?_getD, hz]
      refine ok_false ?_ (next A L S h1 h2 h3 h4)
      rw [hb]
      cases hbt : bitAt (usedTo s0 x) k with
      | false => rfl
      | true =>
        have := bitAt_usedTo s0 x (by omega) k hbt
        rcases this with e | e | e <;> (rw [e] at hk1; simp [cls] at hk1)
    have zero : ∀ k : Nat, A.s[k]? = some 0 → (s0[k]?).map cls = some 0 := fun k hk => by rw [← cls_get hcl k, hk]; rfl
    rw [ixSl_at rfl hlt, hk]
    refine ok_cond (fun _ => ?_) (fun _ => ?_)
    · rw [ixSl_at rfl hlt, hv]
      obtain ⟨v, S1, e, rfl, L1, ha1, h1⟩ : Ok (evF E orcL (n + 303) (.fn 13) [.ptr (some (.rw b, 0)), .int .i64 y.2] S) _ := take_ok (n + 300) (by omega) h ha (by have := hw.n2; omega) y.2
      rw [callT_of e]
      refine ok_atI rfl (ok_atI rfl ?_)
      have sp := AM.take_spec (A := A) y.2
      exact mid _ L1 S1 _ _ ha1 (hw.take _) (sp.1.trans hcl) h1 (fun he => by obtain ⟨k, e1, e2⟩ := sp.2 he; exact ⟨k, e1, zero k e2⟩)
    refine ok_cond (fun _ => ?_) (fun _ => ?_)
    · rw [ixSl_at rfl hlt, hv]
      obtain ⟨v, S1, e, rfl, L1, ha1, h1⟩ : Ok (evF E orcL (n + 303) (.fn 20) [.ptr (some (.rw b, 0)), .int .i64 y.2] S) _ := res_ok (n + 300) (by omega) h ha hw y.2
      rw [callT_of e]
      refine ok_atI rfl (ok_atI rfl ?_)
      have sp := AM.res_spec hw y.2
      exact mid _ L1 S1 _ _ ha1 (hw.res _) (sp.1.trans hcl) h1 (fun he => by obtain ⟨k, e1, e2⟩ := sp.2 he; exact ⟨k, e1, zero k e2⟩)
    refine ok_cond (fun _ => ?_) (fun _ => ?_)
    · rw [ixSl_at rfl hlt, hv]
      obtain ⟨v, S1, e, rfl, L1, ha1, h1⟩ : Ok (evF E orcL (n + 303) (.fn 21) [.ptr (some (.rw b, 0)), .int .i64 y.2] S) _ := give_ok (n + 300) (by omega) h ha hw y.2
      rw [callI_of e]
      exact next _ L1 S1 ha1 (hw.give _) ((AM.give_spec y.2).trans hcl) h1
    refine ok_cond (fun _ => ?_) (fun _ => next A L S ha hw hcl h)
    · rw [ixSl_at rfl hlt, hv]
      obtain ⟨v, S1, e, rfl, L1, ha1, h1⟩ : Ok (evF E orcL (n + 303) (.fn 22) [.ptr (some (.rw b, 0)), .int .i64 y.2] S) _ := reserve_ok (n + 302) h ha hw y.2
      rw [callI_of e]
      exact next _ L1 S1 ha1 (hw.reserve _) (by rw [AM.reserve_s]; exact hcl) h1

theorem old_run (n : Nat) (hn : 1000000 < n) (h : Hp X S F) {a a2 : Option Pos} {c c2 : Cap} {acts acts2 : List (Int × Int)} (hac : ActsR X a acts) (hac2 : ActsR X a2 acts2) (x : Int) :
    Ok (ev (n + 304) (.fn 4) [.int .i64 x, .sl a acts.length c, .sl a2 acts2.length c2] S) TrueQ := by
  rw [ev, F4 _ _ _ _ _ _ _ _ _ (oL rfl)]
  simp only [J4, b4_entry]
  refine ok_cond (fun _ => live_ok (n + 302) S) (fun c1 => ok_cond (fun _ => live_ok (n + 302) S) (fun c2 => ok_cond (fun _ => live_ok (n + 302) S) (fun c3 => ?_)))
  simp only [gt_iff_lt, decide_eq_false_iff_not] at c1 c2 c3
  obtain ⟨v, S3, e, hB⟩ := begun_ok n hn h (x := x) (by omega) (c := c) hac (by omega)
  rcases hB with ⟨hx, rfl, h3⟩ | ⟨hx, b, A, L, M, rfl, hal, hw, hl, hh, h3⟩
  · rw [callP_of e]
    refine ok_true rfl (ok_true ?_ (live_ok (n + 302) S3))
    unfold right at hx
    simp only [decide_eq_true_eq]; omega
  · rw [callP_of e]
    refine ok_false rfl ?_
    unfold right at hx
    obtain ⟨k, rfl⟩ : ∃ k : Nat, x = (k : Int) := ⟨x.toNat, by omega⟩
    rw [Int.toNat_natCast] at hl
    obtain ⟨v, S4, e, ta, tc, ga, gc, t', g', L4, Mt, Mg, rfl, _, _, _, _, ha4, h4⟩ : Ok (evF E orcL (n + 303) (.fn 18) [.ptr (some (.rw b, 0))] S3) (Committed X (M ++ F) b A) := commit_ok (n + 2) (by omega) h3 hal hw (by omega)
    rw [callT_of e]
    have hl4 : A.commit.s.length = k := by rw [AM.commit_len]; exact hl
    obtain ⟨v, S5, e, bm, rfl, h5⟩ : Ok (evF E orcL (n + 303) (.fn 16) [.ptr (some (.rw b, 0))] S4) _ := bitmap_ok (n + 302) (by omega) h4 ha4
    rw [callL_of e, hl4]
    refine ok_false ?_ ?_
    · rw [wrap64 (n := ((k : Nat) : Int) + 7) (by omega) (by omega), show ((k : Nat) : Int) + 7 = ((k + 7 : Nat) : Int) by omega, tdiv8, wrap64 (by omega) (by omega)]
      simp
    refine old_loop1 (n + 303) (n + 301) ha4 hl4 (by omega) (n + 303) 0 S5 (by omega) (by omega) (F := Mt ++ (Mg ++ (M ++ F))) (h5.re (by intro p; simp only [usedTo, List.countP_append, List.countP_cons, C]; omega)) (fun S6 h6 => ?_)
    simp only [J4_j1_1_1_1_1_1_1_1, b4_j1_1_1_1_1_1_1_1]
    obtain ⟨v, S7, e, bh, rfl, h7⟩ : Ok (evF E orcL (n + 303) (.fn 16) [.ptr (some (.rw b, 0))] S6) _ := bitmap_ok (n + 302) (by omega) h6 ha4
    rw [callL_of e, hl4]
    exact old_acts (n + 303) n hn hl4 (by omega) hac2 (by omega) (n + 303) 0 .undef A.commit L4 S7 (by omega) (by omega) ha4 hw.commit rfl (h7.re (M := L4 ++ (C bm (row .u8 (usedTo A.commit.s k)) :: C bh (row .u8 (bits A.commit.s)) :: (Mt ++ (Mg ++ (M ++ F))))) (by intro p; simp only [List.countP_append, List.countP_cons, C]; omega))

end

end Go.Al
