/- JournalPlays: the document's journal: what stands on a device is read. -/
import Derived.Test.YtcepfilbiahdjaaJmE
set_option linter.unusedVariables false
set_option linter.unusedSimpArgs false
set_option maxRecDepth 4000
namespace Go.Jn.P
open Go.Gr Go.Jn
section
variable {X : Cx} {S : AS} {L F G Lj Ls : List Ent} {b bj sb : Nat} {Q : AV → AS → Prop} {J : JM} {k : Nat} {t : St}
end
end Go.Jn.P
namespace Go.Jn.P
open Go.Gr Go.Jn
section
variable {X : Cx} {S : AS} {L F G Lj Ls : List Ent} {b bj sb : Nat} {Q : AV → AS → Prop} {J : JM} {k : Nat} {t : St}
end
end Go.Jn.P
namespace Go.Jn.P
open Go.Gr Go.Jn
def fmW (first : Nat) : Nat → Nat → St → St
 | 0, _, t => t
 | r + 1, i, t => fmW first r (i + 1) (wS t ((first + i : Nat) : Int) (zz 384))
def fmT (first count : Nat) (t : St) : St := (wS (wS (fmW first (count - 2) 2 t).fl ((first : Nat) : Int) (encS (su 1))) ((first + 1 : Nat) : Int) (encS (su 2))).fl
def fmG (t : St) (first count : Int) : St := if fitE t.s.length first count = 0 then fmT first.toNat count.toNat t else t
theorem wS_go {t : St} {x : Int} {p : List UInt8} (h : t.f = -1) : wS t x p = ⟨t.s, t.q ++ [(x, p)], -1⟩ := by
 rw [wS, if_neg (by omega), if_neg (by omega), h]
theorem wE_go {t : St} (h : t.f = -1) : wE t = 0 := by rw [wE, if_neg (by omega)]
theorem SI.wS {t : St} {N K : Nat} (h : SI t N K) {x : Int} {p : List UInt8} (h0 : 0 ≤ x) (h1 : x < N) : SI (P.wS t x p) N (K + 1) :=
 ⟨by rw [wS_len]; exact h.len, wS_f h.f, Nat.le_trans (wS_q _ _ _) (by have := h.q; omega), wS_inr h.r h0 (by rw [h.len]; exact h1)⟩
theorem SI.fl {t : St} {N K : Nat} (h : SI t N K) : SI t.fl N 0 :=
 ⟨by rw [St.fl]; simp only [flS_len]; exact h.len, h.f, by simp [St.fl], fun e he => by cases he⟩
theorem fmW_facts {k N first : Nat} : ∀ (r i K : Nat) (t : St), t.f = -1 → SI t N K → SK k t → first + i + r ≤ N → (fmW first r i t).f = -1 ∧ SI (fmW first r i t) N (K + r) ∧ SK k (fmW first r i t)
 | 0, i, K, t, hf, hSI, hSK, hN => ⟨hf, hSI, hSK⟩
 | r + 1, i, K, t, hf, hSI, hSK, hN => by
   have := fmW_facts (first := first) r (i + 1) (K + 1) (wS t ((first + i : Nat) : Int) (zz 384)) (by rw [wS_go hf]) (hSI.wS (by omega) (by omega)) (hSK.wS CK.zz) (by omega)
   rw [show K + 1 + r = K + (r + 1) by omega] at this
   exact this
theorem CK_su {g : Int} (h1 : 1 ≤ g) (h2 : g ≤ 2) : CK 10 (encS (su g)) := by
 refine CK.encS ?_ ⟨h1, by show g ≤ 10; omega⟩ ⟨by show (1 : Int) ≤ 1; omega, by show (1 : Int) ≤ 10; omega⟩ ?_ ?_ ?_ ?_
 ·intro y hy
  simp [Su.l, su] at hy
  rcases hy with rfl | rfl | rfl
  all_goals omega
 all_goals (show (0 : Int) ≤ _; omega)
theorem fmT_facts {N first count : Nat} {t : St} {K : Nat} (hf : t.f = -1) (hSI : SI t N K) (hSK : SK 10 t) (hc : 6 ≤ count) (hN : first + count ≤ N) : SI (fmT first count t) N 0 ∧ SK 10 (fmT first count t) ∧ (fmT first count t).f = -1 := by
 obtain ⟨h1, h2, h3⟩ := fmW_facts (first := first) (count - 2) 2 K t hf hSI hSK (by omega)
 have a1 := h2.fl
 have a2 := (a1.wS (x := ((first : Nat) : Int)) (p := encS (su 1)) (by omega) (by omega)).wS (x := ((first + 1 : Nat) : Int)) (p := encS (su 2)) (by omega) (by omega)
 refine ⟨a2.fl, ((h3.fl.wS (CK_su (by omega) (by omega))).wS (CK_su (by omega) (by omega))).fl, ?_⟩
 have hfl : (fmW first (count - 2) 2 t).fl.f = -1 := h1
 show (wS (wS (fmW first (count - 2) 2 t).fl ((first : Nat) : Int) (encS (su 1))) ((first + 1 : Nat) : Int) (encS (su 2))).f = -1
 rw [wS_go (by rw [wS_go hfl])]
section
variable {X : Cx} {S : AS} {L F G Lj Ls : List Ent} {b bj sb : Nat} {Q : AV → AS → Prop} {J : JM} {k : Nat} {t : St}
theorem fP_loop (n0 n : Nat) {first count N : Nat} (hN : first + count ≤ N) (hN40 : N ≤ 40) {w6 : Int} : ∀ (m i K : Nat) (t : St) (L : List Ent) (S : AS), 2 ≤ i → i ≤ count → count - i < m → t.f = -1 → K ≤ 1000 → SI t N (K + i) → StB b t L → Hp X S (L ++ F) →
 (∀ (L' : List Ent) (S' : AS), StB b (fmW first (count - i) i t) L' → Hp X S' (L' ++ F) → Ok (J19_jZAF (evF E orcL (n + 1)) n0 (dev b) first S') Q) →
 Ok (J19_lZAS (evF E orcL (n + 1)) n0 m (dev b) first count w6 ((first + i : Nat) : Int) S) Q
 | 0, i, K, t, L, S, h2i, hi, hm, hf, hK, hSI, hb, h, fin => by omega
 | m + 1, i, K, t, L, S, h2i, hi, hm, hf, hK, hSI, hb, h, fin => by
   rw [J19_lZAS_succ]
   simp only [b19_lZAS]
   rw [wn (x := ((first : Nat) : Int) + (count : Nat)) (n := first + count) (by omega) (by omega)]
   refine ok_cond (fun hc => ?_) (fun hc => ?_)
   ·simp only [decide_eq_true_eq] at hc
    refine ok_drawA h [2] (by simp) (by simp) (fun b3 S1 h1 => ok_mkSl (l := 384) (c := 384) rfl rfl (Nat.le_refl _) (by simp [pow46]) (by simp [pow46]) ?_)
    have h1' : Hp X S1 ((b3 + 2, none) :: (L ++ F)) := h1
    rw [mthV_dev, nilV_write]
    refine ok_layA (b := b3 + 2) h1' (fun S2 h2 => ?_)
    have e : zeros 384 [AV.int .u8 0] = ofBytes (zz 384) := by rw [zeros_bxs, bxs_flat]
    rw [e] at h2
    have h2' : Hp X S2 (L ++ (C (b3 + 2) (ofBytes (zz 384)) :: F)) := h2.re (by intro p; simp only [List.countP_append, List.countP_cons, C]; omega)
    have hv : Vw X (C (b3 + 2) (ofBytes (zz 384)) :: F) (some (.rw (b3 + 2), 0)) 384 (.ex 384) (zz 384) := ⟨.rw (c := ofBytes (zz 384)) List.mem_cons_self (by simp) (by rw [List.drop_zero, List.take_length]), by simp, 384, .inl rfl, Nat.le_refl _⟩
    refine ok_invWriteG n (by omega) (by rw [hSI.len]; omega) (by simp) hSI.f (by have := hSI.q; omega) hb h2' hv (fun L3 S3 hb3 h3 => ok_gIk (ok_false (by rw [wE_go hf]; rfl) ?_))
    rw [wn (x := ((first + i : Nat) : Int) + 1) (n := first + (i + 1)) (by omega) (by omega)]
    have hr : count - i = (count - (i + 1)) + 1 := by omega
    rw [hr] at fin
    exact fP_loop n0 n hN hN40 m (i + 1) K _ L3 S3 (by omega) (by omega) (by omega) (by rw [wS_go hf]) hK (hSI.wS (by omega) (by omega)) hb3 (h3.re (M := C (b3 + 2) (ofBytes (zz 384)) :: (L3 ++ F)) (by intro p; simp only [List.countP_append, List.countP_cons, C]; omega)).drop1 fin
   ·simp only [decide_eq_false_iff_not] at hc
    have : i = count := by omega
    subst this
    rw [Nat.sub_self] at fin
    exact fin L S hb h
theorem formatP_ok (n : Nat) (hn : 1000010 < n) {N : Nat} (hN40 : N ≤ 40) (hf : t.f = -1) (hSI : SI t N 0) (hSK : SK 10 t) {first count : Int} (hb : StB b t L) (h : Hp X S (L ++ F)) :
 Ok (ev (n + 4) (.fn 19) [dev b, .int .i64 first, .int .i64 count] S) fun v S' => v = .int .i64 (fitE t.s.length first count) ∧ ∃ L', StB b (fmG t first count) L' ∧ Hp X S' (L' ++ F) := by
 have hlen := hSI.len
 rw [ev, F19 _ _ _ _ _ (oL rfl)]
 simp only [J19, b19_entry]
 rw [callI_of (show evF E orcL (n + 3) (.fn 40) [dev b, .int .i64 first, .int .i64 count] S = _ from fitsG_eq (n + 1) (by omega) hb h)]
 refine ok_cond (fun c1 => ?_) (fun c1 => ?_)
 ·simp only [bne_iff_ne, ne_eq] at c1
  exact ok_ret ⟨rfl, L, by rw [fmG, if_neg c1]; exact hb, h⟩
 simp only [bne_eq_false_iff_eq] at c1
 obtain ⟨g1, g2, g3⟩ := fitE_iff.1 c1
 obtain ⟨f, hff⟩ : ∃ f : Nat, first = f := ⟨first.toNat, by omega⟩
 obtain ⟨c, hcc⟩ : ∃ c : Nat, count = c := ⟨count.toNat, by omega⟩
 subst hff; subst hcc
 have hfc : f + c ≤ N := by omega
 have hG : fmG t f c = fmT f c t := by rw [fmG, if_pos c1]; rfl
 obtain ⟨w1, w2, w3⟩ := fmW_facts (first := f) (c - 2) 2 0 t hf hSI hSK (by omega)
 rw [wn (x := ((f : Nat) : Int) + 2) (n := f + 2) (by omega) (by omega)]
 refine fP_loop (n + 3) (n + 2) hfc hN40 (n + 3) 2 0 t L S (by omega) (by omega) (by omega) hf (by omega) ⟨hSI.len, hSI.f, by have := hSI.q; omega, hSI.r⟩ hb h (fun L1 S1 hb1 h1 => ?_)
 simp only [J19_jZAF, b19_jZAF]
 refine ok_invFlush (n + 2) (by omega) w2.r (by have := w2.q; omega) hb1 h1 (fun L2 S2 hb2 h2 => ok_gIk (ok_false rfl ?_))
 have w4 := w2.fl
 have hf2 : (fmW f (c - 2) 2 t).fl.f = -1 := w1
 rw [J19_lZAZ_succ]
 simp only [b19_lZAZ]
 refine ok_true (by decide) ?_
 rw [show IntKind.wrap .u64 (IntKind.wrap .i64 ((0 : Int) + 1)) = 1 by decide]
 obtain ⟨v, S3, e3, a3, c3, L3, rfl, hs3, h3⟩ : Ok (evF E orcL (n + 3) (.fn 41) [.agg (srowS (su 1))] S2) _ := putS_ok n (by omega) (su_B (by omega) (by omega)) h2
 rw [callT_of (show evF E orcL (n + 3) (.fn 41) [.agg [.int .u64 1, .int .u64 1, .int .u64 0, .int .u64 0, .int .u64 0, .int .u64 0]] S2 = _ from e3)]
 rw [show putS (su 1) = encS (su 1) by simp [putS, su_ok]] at hs3 ⊢
 refine ok_atL rfl (ok_atI rfl ?_)
 rw [wn (x := ((f : Nat) : Int) + 0) (n := f) (by omega) (by omega)]
 refine ok_invWriteG (n + 2) (by omega) (by rw [w4.len]; omega) (encS_len _) w4.f (by have := w4.q; omega) hb2 (h3.re (M := L2 ++ (L3 ++ F)) (by intro p; simp only [List.countP_append]; omega)) (slG_vw hs3 (fun e he => by simp [he])) (fun L4 S4 hb4 h4 => ok_gIk (ok_false (by rw [wE_go hf2]; rfl) ?_))
 rw [show IntKind.wrap .i64 ((0 : Int) + 1) = 1 by decide]
 have w5 := w4.wS (x := ((f : Nat) : Int)) (p := encS (su 1)) (by omega) (by omega)
 have hf3 : (wS (fmW f (c - 2) 2 t).fl ((f : Nat) : Int) (encS (su 1))).f = -1 := by rw [wS_go hf2]
 rw [show J19_lZAZ (evF E orcL (n + 3)) (n + 3) (n + 2) = J19_lZAZ (evF E orcL (n + 3)) (n + 3) ((n + 1) + 1) from rfl, J19_lZAZ_succ]
 simp only [b19_lZAZ]
 refine ok_true (by decide) ?_
 rw [show IntKind.wrap .u64 (IntKind.wrap .i64 ((1 : Int) + 1)) = 2 by decide]
 obtain ⟨v, S5, e5, a5, c5, L5, rfl, hs5, h5⟩ : Ok (evF E orcL (n + 3) (.fn 41) [.agg (srowS (su 2))] S4) _ := putS_ok n (by omega) (su_B (by omega) (by omega)) h4
 rw [callT_of (show evF E orcL (n + 3) (.fn 41) [.agg [.int .u64 2, .int .u64 1, .int .u64 0, .int .u64 0, .int .u64 0, .int .u64 0]] S4 = _ from e5)]
 rw [show putS (su 2) = encS (su 2) by simp [putS, su_ok]] at hs5 ⊢
 refine ok_atL rfl (ok_atI rfl ?_)
 rw [wn (x := ((f : Nat) : Int) + 1) (n := f + 1) (by omega) (by omega)]
 refine ok_invWriteG (n + 2) (by omega) (by rw [w5.len]; omega) (encS_len _) w5.f (by have := w5.q; omega) hb4 (h5.re (M := L4 ++ (L5 ++ (L3 ++ F))) (by intro p; simp only [List.countP_append]; omega)) (slG_vw hs5 (fun e he => by simp [he])) (fun L6 S6 hb6 h6 => ok_gIk (ok_false (by rw [wE_go hf3]; rfl) ?_))
 rw [show IntKind.wrap .i64 ((1 : Int) + 1) = 2 by decide]
 rw [show J19_lZAZ (evF E orcL (n + 3)) (n + 3) (n + 1) = J19_lZAZ (evF E orcL (n + 3)) (n + 3) (n + 1) from rfl, J19_lZAZ_succ]
 simp only [b19_lZAZ]
 refine ok_false (by decide) ?_
 simp only [J19_jZAK, b19_jZAK]
 have w6 := w5.wS (x := ((f + 1 : Nat) : Int)) (p := encS (su 2)) (by omega) (by omega)
 refine ok_invFlush (n + 2) (by omega) w6.r (by have := w6.q; omega) hb6 h6 (fun L7 S7 hb7 h7 => ok_gIk (ok_ret ⟨by rw [c1], L7, by rw [hG]; exact hb7, h7.sub (List.Sublist.append_left ((List.sublist_append_right L3 F).trans (List.sublist_append_right L5 _)) L7)⟩))
end
end Go.Jn.P
namespace Go.Jn.P
open Go.Gr Go.Jn
def inK (ks : List Int) (i : Nat) : Bool := ks.any fun x => x == (i : Int)
def crS (ks : List Int) (q : List (Int × List UInt8)) (s : List (List UInt8)) : Nat → List (List UInt8)
 | 0 => s
 | i + 1 => match q[i]? with
   | some e => if inK ks i = true then (crS ks q s i).set e.1.toNat e.2 else crS ks q s i
   | none => crS ks q s i
def crT (t : St) (ks : List Int) : St := ⟨crS ks t.q t.s t.q.length, [], t.f⟩
theorem crS_len (ks : List Int) (q : List (Int × List UInt8)) (s : List (List UInt8)) : ∀ i, (crS ks q s i).length = s.length
 | 0 => rfl
 | i + 1 => by
   simp only [crS]
   split
   ·split
    ·rw [List.length_set]; exact crS_len ks q s i
    ·exact crS_len ks q s i
   ·exact crS_len ks q s i
theorem crS_mem (ks : List Int) (q : List (Int × List UInt8)) (s : List (List UInt8)) : ∀ (i : Nat) (x : List UInt8), x ∈ crS ks q s i → x ∈ s ∨ ∃ y, (y, x) ∈ q
 | 0, x, h => .inl h
 | i + 1, x, h => by
   simp only [crS] at h
   split at h
   ·rename_i e he
    split at h
    ·rcases List.mem_or_eq_of_mem_set h with h | h
     ·exact crS_mem ks q s i x h
     ·subst h; exact .inr ⟨e.1, List.mem_of_getElem? he⟩
    ·exact crS_mem ks q s i x h
   ·exact crS_mem ks q s i x h
theorem SI.cr {t : St} {N K : Nat} (h : SI t N K) (ks : List Int) : SI (crT t ks) N 0 :=
 ⟨by rw [crT]; simp only [crS_len]; exact h.len, h.f, by simp [crT], fun e he => by cases he⟩
theorem SK.cr {t : St} {k : Nat} (h : SK k t) (ks : List Int) : SK k (crT t ks) := by
 refine ⟨fun x hx => ?_, fun e he => by cases he⟩
 rcases crS_mem _ _ _ _ _ hx with hx | ⟨y, hx⟩
 ·exact h.1 x hx
 ·exact h.2 _ hx
theorem ixs_at' {k : IntKind} {l : List Int} {i : Nat} {x : Int} (h : l[i]? = some x) : (ixs k l)[i]? = some [.int k x] := by
 rw [ixs, List.getElem?_map, h]; rfl
section
variable {X : Cx} {S : AS} {L F G Lj Ls : List Ent} {b bj sb : Nat} {Q : AV → AS → Prop} {J : JM} {k : Nat} {t : St}
theorem cr_in (n0 : Nat) (call : CallA) {K1 : OP → OP → Nat → Cap → Int → AS → RV} {w0 : OP} {ks : List Int} {ka : OP} {kc : Cap} (hr : RdR X F ka (ixs .i64 ks).flatten) (hkl : ks.length ≤ 1048576) (h : Hp X S (L ++ F)) {i : Nat}
 (fin : Ok (J24_jZAA call n0 K1 w0 ka ks.length kc i (inK ks i) S) Q) : ∀ (m j : Nat), j ≤ ks.length → ks.length - j < m →
  Ok (J24_lZAP call n0 K1 m w0 ka ks.length kc i (inK (ks.take j) i) j S) Q
 | 0, j, h1, h2 => by omega
 | m + 1, j, h1, h2 => by
   rw [J24_lZAP_succ]
   simp only [b24_lZAP]
   refine ok_cond (fun hc => ?_) (fun hc => ?_)
   ·simp only [decide_eq_true_eq] at hc
    have hlt : j < ks.length := by omega
    obtain ⟨x, hx⟩ : ∃ x, ks[j]? = some x := ⟨_, List.getElem?_eq_getElem hlt⟩
    have hin : inK (ks.take (j + 1)) i = (inK (ks.take j) i || (x == (i : Int))) := by
     rw [inK, List.take_add_one, hx, List.any_append]; simp [inK]
    rw [wn (x := (j : Int) + 1) (n := j + 1) (by omega) (by omega)]
    have next := cr_in n0 call hr hkl h fin m (j + 1) (by omega) (by omega)
    rw [hin] at next
    cases hw : inK (ks.take j) i with
    | true =>
      rw [hw] at next
      exact ok_true rfl next
    | false =>
      rw [hw] at next
      refine ok_false rfl ?_
      obtain ⟨p, hp⟩ := hr.some_of (by intro he; have := congrArg List.length he; rw [flat_len (ixs_all .i64 ks), ixs_len] at this; simp only [List.length_nil] at this; omega)
      have hr2 : ∀ {M : List Ent} {cs : List AV}, RdR X M ka cs → RdR X M (some p) cs := fun h => by rw [← hp]; exact h
      have hr' := hr2 (hr.mono (M := L ++ F) (fun e he => by simp [he]))
      rw [show ixSl 1 ka ks.length (j : Int) = ixSl 1 (some p) ks.length (j : Int) by rw [hp]]
      rw [ixSl_at rfl hlt, hr'.ldI h (by have := flat_get (ixs_all .i64 ks) (ixs_at' hx) (j := 0) (by decide); simpa using this)]
      simpa using next
   ·simp only [decide_eq_false_iff_not] at hc
    rw [List.take_of_length_le (by omega)]
    exact fin
theorem cr_loop (n0 : Nat) (call : CallA) {s0 : List (List UInt8)} {q : List (Int × List UInt8)} {f : Int} {qa : OP} {qc : Cap} {Lq : List Ent} (hq0 : ∀ e ∈ q, 0 ≤ e.1 ∧ e.1 < s0.length) (hq : q.length ≤ 1000000) (hs2 : SlG qa q.length qc 2 (qrows q) Lq) {ks : List Int} {ka : OP} {kc : Cap} (hr : RdR X F ka (ixs .i64 ks).flatten) (hkl : ks.length ≤ 1048576) (hn0 : 1048576 < n0) :
 ∀ (m i : Nat) (sa : OP) (sl : Nat) (sc : Cap) (Ls : List Ent) (S : AS), i ≤ q.length → q.length - i < m → SlG sa sl sc 1 (strs (crS ks q s0 i)) Ls → Hp X S (C b [.sl sa sl sc, .sl qa q.length qc, .int .i64 f] :: (Ls ++ (Lq ++ F))) →
   Ok (J24_lZAO call n0 m (some (.rw b, 0)) ka ks.length kc i S) fun v S' => v = .tup [] ∧ ∃ L', StB b ⟨crS ks q s0 q.length, [], f⟩ L' ∧ Hp X S' (L' ++ F)
 | 0, i, sa, sl, sc, Ls, S, hi, hm, hs, h => by omega
 | m + 1, i, sa, sl, sc, Ls, S, hi, hm, hs, h => by
   have hl1 := hs.len
   rw [strs_len, crS_len] at hl1
   rw [J24_lZAO_succ]
   simp only [b24_lZAO]
   refine ok_gO (ok_ldL h rfl (ok_cond (fun hc => ?_) (fun hc => ?_)))
   ·simp only [decide_eq_true_eq] at hc
    have hlt : i < q.length := by omega
    obtain ⟨y, hy⟩ : ∃ y, q[i]? = some y := ⟨_, List.getElem?_eq_getElem hlt⟩
    obtain ⟨hy0, hy1⟩ := hq0 y (List.mem_of_getElem? hy)
    have hL : Hp X S ((C b [.sl sa sl sc, .sl qa q.length qc, .int .i64 f] :: (Ls ++ Lq)) ++ F) := h.re (by intro p; simp only [List.countP_append, List.countP_cons, List.cons_append, C]; omega)
    refine cr_in n0 call hr hkl hL ?_ n0 0 (by omega) (by omega)
    simp only [J24_jZAA, b24_jZAA]
    have next : ∀ (sa' : OP) (Ls' : List Ent) (S' : AS), SlG sa' sl sc 1 (strs (crS ks q s0 (i + 1))) Ls' → Hp X S' (C b [.sl sa' sl sc, .sl qa q.length qc, .int .i64 f] :: (Ls' ++ (Lq ++ F))) → Ok (J24_jZAB call n0 (J24_lZAO call n0 m) (some (.rw b, 0)) ka ks.length kc i S') fun v S' => v = .tup [] ∧ ∃ L', StB b ⟨crS ks q s0 q.length, [], f⟩ L' ∧ Hp X S' (L' ++ F) := by
     intro sa' Ls' S' hs' h'
     simp only [J24_jZAB, b24_jZAB]
     rw [wn (x := (i : Int) + 1) (n := i + 1) (by omega) (by omega)]
     exact cr_loop n0 call hq0 hq hs2 hr hkl hn0 m (i + 1) sa' sl sc Ls' S' (by omega) (by omega) hs' h'
    refine ok_cond (fun hk => ?_) (fun hk => ?_)
    ·have hcr : crS ks q s0 (i + 1) = (crS ks q s0 i).set y.1.toNat y.2 := by simp only [crS, hy, hk, if_true]
     have hrd : RdR X (C b [.sl sa sl sc, .sl qa q.length qc, .int .i64 f] :: (Ls ++ (Lq ++ F))) qa (qrows q).flatten := hs2.rd (fun e he => by simp [he])
     obtain ⟨p, hp⟩ := hrd.some_of (by intro he; have := congrArg List.length he; rw [flat_len (qrows_all q), qrows_len] at this; simp only [List.length_nil] at this; omega)
     have hrd2 : ∀ {M : List Ent} {cs : List AV}, RdR X M qa cs → RdR X M (some p) cs := fun h => by rw [← hp]; exact h
     replace hrd := hrd2 hrd
     have g0 : (qrows q).flatten[i * 2]? = some (.int .i64 y.1) := by have := flat_get (qrows_all q) (qrows_at hy) (j := 0) (by decide); simpa [qrow] using this
     have g1 : (qrows q).flatten[i * 2 + 1]? = some (.str y.2) := by have := flat_get (qrows_all q) (qrows_at hy) (j := 1) (by decide); simpa [qrow] using this
     refine ok_gO (ok_ldL h rfl (ok_gO (ok_ldL h rfl ?_)))
     rw [show ixSl 2 qa q.length (i : Int) = ixSl 2 (some p) q.length (i : Int) by rw [hp]]
     rw [ixSl_at rfl hlt, hrd.ldI h g0]
     refine ok_gO (ok_ldL h rfl ?_)
     rw [show ixSl 2 qa q.length (i : Int) = ixSl 2 (some p) q.length (i : Int) by rw [hp]]
     rw [ixSl_at rfl hlt, Nat.add_assoc, rd_ldS hrd h g1]
     rcases hs.dest with ⟨_, hz, _, _, _⟩ | ⟨bs, js, rfl, hln, hcc, rfl, hx', hj⟩
     ·omega
     have hk0 : y.1 = ((y.1.toNat : Nat) : Int) := by omega
     have hklt : y.1.toNat < sl := by omega
     refine ok_ixSl hk0 hklt ?_
     rw [Nat.zero_add]
     have hsp : splice (strs (crS ks q s0 i) ++ js).flatten (y.1.toNat * 1) [.str y.2] = (strs (crS ks q s0 (i + 1)) ++ js).flatten := by
      have hall : ∀ x ∈ strs (crS ks q s0 i) ++ js, x.length = 1 := fun x hx => by
       rcases List.mem_append.1 hx with hx | hx
       ·exact hx' x hx
       ·exact hj x hx
      rw [flat_splice hall (by rw [List.length_append, strs_len, crS_len]; omega) rfl, List.set_append_left _ _ (by rw [strs_len, crS_len]; omega)]
      have : (strs (crS ks q s0 i)).set y.1.toNat [.str y.2] = strs (crS ks q s0 (i + 1)) := by
       rw [hcr, strs, strs, List.map_set]
      rw [this]
     have h' : Hp X S (C bs (strs (crS ks q s0 i) ++ js).flatten :: (C b [.sl (some (.rw bs, 0)) sl sc, .sl qa q.length qc, .int .i64 f] :: (Lq ++ F))) := h.re (by intro p; simp only [List.countP_append, List.countP_cons, List.countP_nil, C]; omega)
     have hlen : (strs (crS ks q s0 i) ++ js).flatten.length = (s0.length + js.length) * 1 := by
      rw [flat_len (fun x hx => ?_), List.length_append, strs_len, crS_len]
      rcases List.mem_append.1 hx with hx | hx
      ·exact hx' x hx
      ·exact hj x hx
     refine ok_stn h' (by rw [hlen]; simp; omega) (d := (strs (crS ks q s0 (i + 1)) ++ js).flatten) hsp (fun S1 h1 => ?_)
     refine next (some (.rw bs, 0)) [C bs (strs (crS ks q s0 (i + 1)) ++ js).flatten] S1 ?_ (h1.re (by intro p; simp only [List.countP_append, List.countP_cons, List.countP_nil, C]; omega))
     rw [strs_len, crS_len] at hcc
     have := SlG.blk (b := bs) (xs := strs (crS ks q s0 (i + 1))) (js := js) (c := sc) (strs_all _) hj (by rw [strs_len, crS_len]; exact hcc)
     rw [strs_len, crS_len, ← hl1] at this
     exact this
    ·have hcr : crS ks q s0 (i + 1) = crS ks q s0 i := by simp [crS, hy, hk]
     exact next sa Ls S (by rw [hcr]; exact hs) h
   ·simp only [decide_eq_false_iff_not] at hc
    have : i = q.length := by omega
    subst this
    simp only [J24_j1, b24_j1]
    refine ok_gO (ok_stn h (by simp) (d := [.sl sa sl sc, .sl none 0 (.ex 0), .int .i64 f]) (by simp [splice]) (fun S1 h1 => ok_ret ⟨rfl, C b [.sl sa sl sc, .sl none 0 (.ex 0), .int .i64 f] :: (Ls ++ []), ⟨sa, sl, sc, none, 0, .ex 0, Ls, [], hs, .nil, rfl⟩, ?_⟩))
    rw [List.append_nil]
    exact (h1.re (M := Lq ++ (C b [.sl sa sl sc, .sl none 0 (.ex 0), .int .i64 f] :: Ls ++ F)) (by intro p; simp only [List.countP_append, List.countP_cons, List.cons_append, C]; omega)).right
theorem crash_ok (n : Nat) (hn : 1048576 < n) {N K : Nat} (hSI : SI t N K) (hK : K ≤ 1000000) {ks : List Int} {ka : OP} {kc : Cap} (hr : RdR X F ka (ixs .i64 ks).flatten) (hkl : ks.length ≤ 1048576) (hb : StB b t L) (h : Hp X S (L ++ F)) :
 Ok (ev (n + 1) (.fn 24) [.ptr (some (.rw b, 0)), .sl ka ks.length kc] S) fun v S' => v = .tup [] ∧ ∃ L', StB b (crT t ks) L' ∧ Hp X S' (L' ++ F) := by
 obtain ⟨sa, sl, sc, qa, ql, qc, Ls, Lq, hs1, hs2, rfl⟩ := hb
 have hl2 := hs2.len
 rw [qrows_len] at hl2
 subst hl2
 rw [ev, F24 _ _ _ _ _ _ (oL rfl)]
 simp only [J24, b24_entry]
 exact cr_loop (b := b) n (evF E orcL n) (s0 := t.s) (q := t.q) (f := t.f) hSI.r (by have := hSI.q; omega) hs2 hr hkl hn n 0 sa sl sc Ls S (by omega) (by have := hSI.q; omega) hs1 (by simpa using h)
theorem st_loop (n0 n : Nat) (hn : 2000 < n) {xs ys : List Tx} {xa ya : OP} {xc yc : Cap} (hl : xs.length ≤ 1000) (he : ptx xs = ptx ys) (h64 : ∀ x ∈ ptx xs, x.length ≤ 64) (r1 : RdR X F xa (trows xs).flatten) (r2 : RdR X F ya (trows ys).flatten) (v1 : TxV X F xs) (v2 : TxV X F ys) (h : Hp X S F) : ∀ (m i : Nat) (w4 : Bool), i ≤ xs.length → xs.length - i < m →
 Ok (J26_lZAS (evF E orcL (n + 1)) n0 m xa xs.length xc ya ys.length yc w4 i S) fun v S' => v = .bool true ∧ S' = S
 | 0, i, w4, hi, hm => by omega
 | m + 1, i, w4, hi, hm => by
   have hll : xs.length = ys.length := by have := congrArg List.length he; simpa [ptx] using this
   rw [J26_lZAS_succ]
   simp only [b26_lZAS]
   refine ok_cond (fun hc => ?_) (fun hc => ok_ret ⟨rfl, rfl⟩)
   simp only [decide_eq_true_eq] at hc
   have hlt : i < xs.length := by omega
   have hlt2 : i < ys.length := by omega
   obtain ⟨x, hx⟩ : ∃ x, xs[i]? = some x := ⟨_, List.getElem?_eq_getElem hlt⟩
   obtain ⟨y, hy⟩ : ∃ y, ys[i]? = some y := ⟨_, List.getElem?_eq_getElem hlt2⟩
   have hxy : pts x.ps = pts y.ps := by
    have h1 : (ptx xs)[i]? = some (pts x.ps) := by rw [ptx, List.getElem?_map, hx]; rfl
    have h2 : (ptx ys)[i]? = some (pts y.ps) := by rw [ptx, List.getElem?_map, hy]; rfl
    rw [he, h2] at h1
    exact (Option.some.inj h1).symm
   have hpl : x.ps.length ≤ 64 := by
    have := h64 (pts x.ps) (by rw [ptx]; exact List.mem_map_of_mem (f := fun x : Tx => pts x.ps) (List.mem_of_getElem? hx))
    rw [pts_len] at this; exact this
   have nn : ∀ (zs : List Tx), i < zs.length → (trows zs).flatten ≠ [] := fun zs hz => by intro he; have := congrArg List.length he; rw [flat_len (trows_all zs), trows_len] at this; simp only [List.length_nil] at this; omega
   obtain ⟨p1, hp1⟩ := r1.some_of (nn xs hlt)
   obtain ⟨p2, hp2⟩ := r2.some_of (nn ys hlt2)
   subst hp1; subst hp2
   have g1 : (trows xs).flatten[i * 1]? = some (.sl x.a x.ps.length x.c) := by have := flat_get (trows_all xs) (trows_at hx) (j := 0) (by decide); simpa [trow] using this
   have g2 : (trows ys).flatten[i * 1]? = some (.sl y.a y.ps.length y.c) := by have := flat_get (trows_all ys) (trows_at hy) (j := 0) (by decide); simpa [trow] using this
   rw [ixSl_at rfl hlt, rd_ldL r1 h g1, ixSl_at rfl hlt2, rd_ldL r2 h g2]
   have vx := v1 x (List.mem_of_getElem? hx)
   have vy := v2 y (List.mem_of_getElem? hy)
   rw [callB_of (show evF E orcL (n + 1) (.fn 55) [.sl x.a x.ps.length x.c, .sl y.a y.ps.length y.c] S = _ from same_eq n hn (by omega) hxy vx.1 vx.2 vy.1 vy.2 h)]
   refine ok_false rfl ?_
   rw [wn (x := (i : Int) + 1) (n := i + 1) (by omega) (by omega)]
   exact st_loop n0 n hn hl he h64 r1 r2 v1 v2 h m (i + 1) w4 (by omega) (by omega)
theorem sameTx_eq (n : Nat) (hn : 2000 < n) {xs ys : List Tx} {xa ya : OP} {xc yc : Cap} (hl : xs.length ≤ 1000) (he : ptx xs = ptx ys) (h64 : ∀ x ∈ ptx xs, x.length ≤ 64) (r1 : RdR X F xa (trows xs).flatten) (r2 : RdR X F ya (trows ys).flatten) (v1 : TxV X F xs) (v2 : TxV X F ys) (h : Hp X S F) :
 ev (n + 2) (.fn 26) [.sl xa xs.length xc, .sl ya ys.length yc] S = some (.bool true, S) := by
 have hll : xs.length = ys.length := by have := congrArg List.length he; simpa [ptx] using this
 apply ok_eq
 rw [ev, F26 _ _ _ _ _ _ _ _ (oL rfl)]
 simp only [J26, b26_entry]
 exact ok_false (by simp [hll]) (st_loop (n + 1) n hn hl he h64 r1 r2 v1 v2 h (n + 1) 0 false (by omega) (by omega))
end
end Go.Jn.P
namespace Go.Jn.P
open Go.Gr Go.Jn
section
variable {J : JM} {k N K : Nat} {t : St}
theorem rdAll_facts (hSK : SK k t) : ∀ (f : Nat) (J : JM) (p ab as_ : Int) (out : List (List Pt)), 0 ≤ p → J.first + J.count ≤ t.s.length → JI J k → JI (rdAll t f J p ab as_ out).1 k ∧ (rdAll t f J p ab as_ out).1.sup = J.sup ∧ (rdAll t f J p ab as_ out).1.first = J.first ∧ (rdAll t f J p ab as_ out).1.count = J.count
 | 0, J, p, ab, as_, out, hp, hl, hJ => ⟨hJ, rfl, rfl, rfl⟩
 | f + 1, J, p, ab, as_, out, hp, hl, hJ => by
   rw [rdAll_succ]
   cases hr : rdTx t J p (J.sup.ls + (J.l.length : Nat) + 1) ab as_ ((J.count : Int) - 2 - sumN J.l) with
   | none => exact ⟨hJ, rfl, rfl, rfl⟩
   | some to =>
     obtain ⟨tx, o⟩ := to
     have hbl := blkP_lt (J := J) (p := p) hJ.c6 hp
     have ho := rdTx_some hr hSK (by omega)
     exact rdAll_facts hSK f (J.push o) (p + o.need) o.bo o.se _ (by omega) hl (hJ.push ho)
theorem wrAt_lt (h6 : 6 ≤ J.count) (hN : J.first + J.count ≤ N) : 0 ≤ wrAt J ∧ wrAt J < N := by
 unfold wrAt; split <;> omega
theorem SI.wr (h : SI t N K) (h6 : 6 ≤ J.count) (hN : J.first + J.count ≤ N) (x : Su) : SI (wrT J t x) N (K + 1) := by
 have hat := wrAt_lt h6 hN
 have h1 := h.wS (x := wrAt J) (p := encS { x with g := J.sup.g + 1 }) hat.1 hat.2
 unfold wrT
 split
 ·exact h1
 ·have h2 := h1.fl
  exact ⟨h2.len, h2.f, by have := h2.q; omega, h2.r⟩
theorem SK.wr (h : SK k t) {x : Su} (hc : CK k (encS { x with g := J.sup.g + 1 })) : SK k (wrT J t x) := by
 unfold wrT
 split
 ·exact h.wS hc
 ·exact (h.wS hc).fl
theorem op_facts (hSI : SI t N K) (hN40 : N ≤ 40) (hSK : SK k t) (hk : k + 40 ≤ 100000) (first count : Int) : SI (opT t first count) N (K + 1) ∧ SK (k + 40) (opT t first count) ∧ (opE t first count = 0 → JI (opJ t first count) (k + 40) ∧ (opJ t first count).first + (opJ t first count).count ≤ N) := by
 have hlen := hSI.len
 by_cases hc : fitE t.s.length first count = 0 ∧ (supA t first.toNat).isSome = true
 ·obtain ⟨c1, c2⟩ := hc
  obtain ⟨g1, g2, g3⟩ := fitE_iff.1 c1
  cases hx : supA t first.toNat with
  | none => rw [hx] at c2; cases c2
  | some x =>
    have ex : opX t first = x := by rw [opX, hx]; rfl
    have hJz : JI (jz first.toNat count.toNat x) k := jz_JI hSK hx (by omega) (by omega) (by omega) (by omega)
    have hpo0 := hJz.po
    obtain ⟨hJ, e1, e2, e3⟩ := rdAll_facts hSK 60 (jz first.toNat count.toNat x) x.po x.ab x.as_ [] hpo0.1 (by show first.toNat + count.toNat ≤ _; omega) hJz
    have hRd : (rdAll t 60 (jz first.toNat count.toNat x) x.po x.ab x.as_ []).1 = (opR t first count (opX t first)).1 := by rw [ex]; rfl
    rw [hRd] at hJ e1 e2 e3
    generalize hJ' : (opR t first count (opX t first)).1 = J' at hJ e1 e2 e3
    have e1' : J'.sup = x := e1
    have e2' : J'.first = first.toNat := e2
    have e3' : J'.count = count.toNat := e3
    have hT : opT t first count = wrT J' t (opW x) := by rw [opT, if_pos ⟨c1, by rw [hx]; rfl⟩, hJ', ex]
    have q1 := hJ.g
    have q2 := hJ.bo
    have q3 := hJ.po
    have q4 := hJ.ls
    have q5 := hJ.ab
    have q6 := hJ.as_
    have q7 := hJ.c6
    have q8 := hJ.se
    rw [e1'] at q1 q2 q3 q4 q5 q6
    have hCK : CK (k + 40) (encS { opW x with g := J'.sup.g + 1 }) := by
     rw [e1']
     refine CK.encS ?_ ⟨?_, ?_⟩ ⟨?_, ?_⟩ ?_ ?_ ?_ ?_
     ·intro y hy
      simp only [opW, Su.l, List.mem_cons, List.not_mem_nil, or_false] at hy
      omega
     ·show 1 ≤ x.g + 1; omega
     ·show x.g + 1 ≤ ((k + 40 : Nat) : Int); omega
     ·show 1 ≤ x.bo + 1; omega
     ·show x.bo + 1 ≤ ((k + 40 : Nat) : Int); omega
     ·show x.po ≤ 100 * ((k + 40 : Nat) : Int); omega
     ·show x.ls ≤ ((k + 40 : Nat) : Int); omega
     ·show x.ab ≤ ((k + 40 : Nat) : Int); omega
     ·show x.as_ ≤ ((k + 40 : Nat) : Int); omega
    rw [hT]
    refine ⟨hSI.wr (by omega) (by omega) _, (hSK.up (by omega)).wr hCK, fun he => ?_⟩
    have hE : opE t first count = wE t := by rw [opE, if_pos c1, hx]
    rw [hE] at he
    have hnf := wE_iff.1 he
    have hw : wrJ J' t (opW x) = J'.sup! { opW x with g := J'.sup.g + 1 } := by rw [wrJ, if_neg hnf]
    have hJJ : opJ t first count = (J'.sup! { opW x with g := J'.sup.g + 1 }).sync := by rw [opJ, hJ', ex, hw]
    rw [hJJ]
    refine ⟨JI.sync ?_, by show J'.first + J'.count ≤ N; omega⟩
    obtain ⟨a1, a2, a3, a4, a5, a6, a7, a8, a9, a10, a11, a12, a13, a14⟩ := hJ.up (m := k + 40) (by omega) hk
    refine ⟨a1, a2, ?_, ?_, ?_, ?_, ?_, ?_, a9, ?_, a11, a12, a13, a14⟩
    ·show 1 ≤ J'.sup.g + 1 ∧ J'.sup.g + 1 ≤ ((k + 40 : Nat) : Int); rw [e1']; omega
    ·show 1 ≤ x.bo + 1 ∧ x.bo + 1 ≤ ((k + 40 : Nat) : Int); omega
    ·show 0 ≤ x.po ∧ x.po ≤ 100 * ((k + 40 : Nat) : Int); omega
    ·show 0 ≤ x.ls ∧ x.ls ≤ ((k + 40 : Nat) : Int); omega
    ·show 0 ≤ x.ab ∧ x.ab ≤ ((k + 40 : Nat) : Int); omega
    ·show 0 ≤ x.as_ ∧ x.as_ ≤ ((k + 40 : Nat) : Int); omega
    ·show 0 ≤ J'.sy ∧ J'.sy ≤ x.ls + (J'.l.length : Nat); rw [e1'] at a10; exact a10
 ·have hT : opT t first count = t := by rw [opT, if_neg hc]
  rw [hT]
  refine ⟨⟨hSI.len, hSI.f, by have := hSI.q; omega, hSI.r⟩, hSK.up (by omega), fun he => ?_⟩
  exfalso
  unfold opE at he
  by_cases c1 : fitE t.s.length first count = 0
  ·rw [if_pos c1] at he
   cases hx : supA t first.toNat with
   | none => rw [hx] at he; simp at he
   | some x => exact hc ⟨c1, by rw [hx]; rfl⟩
  ·rw [if_neg c1] at he; exact c1 he
theorem apRun_SK {lsn pos : Int} {need : Nat} {s : List UInt8} (hJ : 1 ≤ J.sup.bo ∧ J.sup.bo ≤ k) (hse : 1 ≤ J.se ∧ J.se ≤ k) (hl : 1 ≤ lsn ∧ lsn ≤ k) (hp : 0 ≤ pos ∧ pos + need ≤ 100 * k) (hk : k ≤ 1000000) (hne : need ≤ 40) (hs1 : (need - 1) * 336 < s.length) (hs2 : s.length ≤ need * 336) : ∀ (r i : Nat) (t : St), i + r ≤ need → SK k t → SK k (apRun J lsn pos need s r i t).2
 | 0, i, t, hi, h => h
 | r + 1, i, t, hi, h => by
   have hil : i * 336 < s.length := by
    have : i * 336 ≤ (need - 1) * 336 := Nat.mul_le_mul_right _ (by omega)
    omega
   have hpl : (win8 s (i * 336) (min s.length ((i + 1) * 336) - i * 336)).length = min s.length ((i + 1) * 336) - i * 336 := win8_len (by omega)
   have hCK : CK k (encE (apPart J lsn pos need s i)) := by
    have hb : (apPart J lsn pos need s i).by_.length = min s.length ((i + 1) * 336) - i * 336 := hpl
    refine CK.encE ((okE_iff _).2 ⟨?_, ?_, ?_, ?_, ?_, ?_, ?_, ?_, ?_, ?_, ?_, ?_, ?_⟩) ⟨⟨?_, ?_⟩, ⟨?_, ?_⟩, ⟨?_, ?_⟩, ⟨?_, ?_⟩, ⟨?_, ?_⟩, ⟨?_, ?_⟩⟩ ?_ ?_ ?_ ?_
    all_goals simp only [apPart]
    all_goals omega
   rw [apRun]
   split
   ·exact h.wS hCK
   ·exact apRun_SK hJ hse hl hp hk hne hs1 hs2 r (i + 1) _ (by omega) (h.wS hCK)
theorem ap_SK (hJ : JI J k) (hk : k + 40 ≤ 100000) (hSK : SK k t) (p : List Pt) : SK (k + 40) (apT J t p) := by
 unfold apT
 split
 ·rename_i hgo
  obtain ⟨h1, h2⟩ := apGo_iff.1 hgo
  have hk2 := h1
  simp only [okT, Bool.and_eq_true, decide_eq_true_eq, List.all_eq_true] at hk2
  have hnd := needI_of (n := (p.length : Int)) (by omega) (by omega)
  have hpl : (encT p).length = 4 + 388 * p.length := by rw [encT, List.length_append, be_len, encPs_len hk2.2]
  have hln := hJ.lcount
  have q2 := hJ.bo
  have q3 := hJ.po
  have q4 := hJ.ls
  have q5 := hJ.se
  have q7 := hJ.c40
  have q8 := hJ.rm
  have q9 := sumN_ge fun o ho => (hJ.ol o ho).1
  obtain ⟨nd, hnd2⟩ : ∃ nd : Nat, needI (p.length : Nat) = nd := ⟨(needI (p.length : Nat)).toNat, by omega⟩
  unfold apR
  rw [hnd2, Int.toNat_natCast]
  refine apRun_SK (J := { J with se := J.se + 1 }) ⟨q2.1, ?_⟩ ⟨?_, ?_⟩ ⟨by omega, ?_⟩ ⟨by omega, ?_⟩ (by omega) (by omega) (by rw [hpl]; omega) (by rw [hpl]; omega) nd 0 t (by omega) (hSK.up (by omega))
  ·show J.sup.bo ≤ ((k + 40 : Nat) : Int); omega
  ·show 1 ≤ J.se + 1; omega
  ·show J.se + 1 ≤ ((k + 40 : Nat) : Int); omega
  ·omega
  ·omega
 ·exact hSK.up (by omega)
theorem tr_SK (hJ : JI J k) (hk : k + 40 ≤ 100000) (hSK : SK k t) (lsn : Int) : SK (k + 40) (trT J t lsn) := by
 unfold trT
 split
 ·rename_i hg
  obtain ⟨he, hne⟩ := trG_iff.1 hg
  obtain ⟨hN, hNi⟩ := trN_le hJ he
  have h3 := trE_iff.1 he
  obtain ⟨f1, f2, f3, f4, f5, f6⟩ := supT_facts hJ lsn (J.trN lsn) hN
  have hsum := sumN_le (fun o ho => (hJ.ol o ho).1) (J.trN lsn)
  have hln := hJ.lcount
  have q1 := hJ.g
  have q2 := hJ.bo
  have q3 := hJ.po
  have q4 := hJ.ls
  have q7 := hJ.c40
  have q8 := hJ.rm
  have q9 := hJ.sy
  refine (hSK.up (by omega)).wr (CK.encS ?_ ⟨?_, ?_⟩ ⟨?_, ?_⟩ ?_ ?_ ?_ ?_)
  ·intro y hy
   simp only [Su.l, List.mem_cons, List.not_mem_nil, or_false] at hy
   omega
  ·show 1 ≤ J.sup.g + 1; omega
  ·show J.sup.g + 1 ≤ ((k + 40 : Nat) : Int); omega
  ·show 1 ≤ (supT J lsn (J.trN lsn)).bo; omega
  ·show (supT J lsn (J.trN lsn)).bo ≤ ((k + 40 : Nat) : Int); omega
  ·show (supT J lsn (J.trN lsn)).po ≤ 100 * ((k + 40 : Nat) : Int); omega
  ·show (supT J lsn (J.trN lsn)).ls ≤ ((k + 40 : Nat) : Int); omega
  ·show (supT J lsn (J.trN lsn)).ab ≤ ((k + 40 : Nat) : Int); omega
  ·show (supT J lsn (J.trN lsn)).as_ ≤ ((k + 40 : Nat) : Int); omega
 ·exact hSK.up (by omega)
end
end Go.Jn.P
