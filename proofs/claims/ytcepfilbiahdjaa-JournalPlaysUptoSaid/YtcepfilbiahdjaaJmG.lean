/- The law JournalRoom as the evaluator runs it. -/
import Derived.Test.YtcepfilbiahdjaaJmC
import Derived.Test.YtcepfilbiahdjaaJmF
set_option linter.unusedVariables false
set_option linter.unusedSimpArgs false
set_option maxRecDepth 4000
namespace Go.Jn
open Go.Gr
section
variable {X : Cx} {S : AS} {L F G Lj Ls : List Ent} {b bj sb : Nat} {Q : AV → AS → Prop} {J : JM} {k : Nat} {t : St}
structure Ac where
 k : Int
 ta : OP
 tc : Cap
 tx : List Pr
 lsn : Int
 ka : OP
 kl : Nat
 kc : Cap
 fl : Int
def acrow (y : Ac) : List AV := [.int .i64 y.k, .sl y.ta y.tx.length y.tc, .int .u64 y.lsn, .sl y.ka y.kl y.kc, .int .i64 y.fl]
def acrows (l : List Ac) : List (List AV) := l.map acrow
@[simp] theorem acrows_len (l : List Ac) : (acrows l).length = l.length := by simp [acrows]
theorem acrows_all (l : List Ac) : ∀ x ∈ acrows l, x.length = 5 := fun x hx => by
 obtain ⟨s, _, rfl⟩ := List.mem_map.1 hx; rfl
theorem acrows_at {l : List Ac} {i : Nat} {e : Ac} (h : l[i]? = some e) : (acrows l)[i]? = some (acrow e) := by
 rw [acrows, List.getElem?_map, h]; rfl
structure AcB (X : Cx) (F : List Ent) (y : Ac) : Prop where
 rt : RdR X F y.ta (prows y.tx).flatten
 vt : PsV X F y.tx
 lt : ∀ p ∈ y.tx, p.d.length ≤ 1048576
 ll : u64B y.lsn
 lx : y.tx.length ≤ 1048576
 lk : y.kl ≤ 1048576
theorem af_L {acts : List Ac} {i j : Nat} {y : Ac} {p : Pos} {a : OP} {l : Nat} {c : Cap} {K : OP → Nat → Cap → RV} (h : RdR X L (some p) (acrows acts).flatten) (hp : Hp X S L) (hi : acts[i]? = some y) (hj : j < 5) (hv : (acrow y)[j]? = some (.sl a l c)) : ldL S p.1 (p.2 + i * 5 + j) K = K a l c := by
 rw [Nat.add_assoc]
 exact rd_ldL h hp (by rw [flat_get (acrows_all acts) (acrows_at hi) hj]; exact hv)
theorem ac_some {a : OP} {acts : List Ac} {i : Nat} (h : RdR X L a (acrows acts).flatten) (hi : i < acts.length) : ∃ p, a = some p :=
 h.some_of (by intro he; have := congrArg List.length he; rw [flat_len (acrows_all acts), acrows_len] at this; simp only [List.length_nil] at this; omega)
def wt (y : Ac) : Nat := y.kl + y.tx.length
def wts (l : List Ac) (i : Nat) : Nat := ((l.take i).map wt).sum
theorem wts_succ {l : List Ac} {i : Nat} {y : Ac} (h : l[i]? = some y) : wts l (i + 1) = wts l i + wt y := by
 rw [wts, List.take_add_one, h, List.map_append, List.sum_append]; simp [wts]
theorem wts_mem {l : List Ac} {y : Ac} (h : y ∈ l) : wt y ≤ wts l l.length := by
 rw [wts, List.take_length]
 induction l with
 | nil => cases h
 | cons x l ih =>
   simp only [List.map_cons, List.sum_cons]
   rcases List.mem_cons.1 h with rfl | h
   ·omega
   ·have := ih h; omega
def Bd (w B : Int) (j k : Nat) : Prop := 0 ≤ w ∧ w ≤ B + (j : Int) * (k : Int)
theorem long_in (n0 : Nat) (call : CallA) {nx : OP → Nat → Cap → Int → Int → Int → AS → RV} {a : OP} {c : Cap} {acts : List Ac} {i : Nat} {y : Ac} (hy : acts[i]? = some y) (hB : AcB X F y) (hr : RdR X F a (acrows acts).flatten) (h : Hp X S F) {w3 B0 : Int} (hB0 : 0 ≤ B0 ∧ B0 ≤ 1000000000000)
 (fin : ∀ w4 : Int, 0 ≤ w4 → w4 ≤ B0 + 104857600 → Ok (J6_jZAD call n0 nx a acts.length c w3 w4 i S) Q) :
 ∀ (m j : Nat) (w4 : Int), j ≤ 100 → 100 - j < m → Bd w4 B0 j 1048576 → Ok (J6_lZAT call n0 nx m a acts.length c w3 w4 i j S) Q
 | 0, j, w4, hj, hm, hbd => by omega
 | m + 1, j, w4, hj, hm, hbd => by
   obtain ⟨h0, h1⟩ := hbd
   have hlt : i < acts.length := (List.getElem?_eq_some_iff.1 hy).1
   obtain ⟨p, hp⟩ := ac_some hr hlt
   have hr2 : ∀ {M : List Ent} {cs : List AV}, RdR X M a cs → RdR X M (some p) cs := fun h => by rw [← hp]; exact h
   rw [J6_lZAT_succ]
   simp only [b6_lZAT]
   rw [show ixSl 5 a acts.length (i : Int) = ixSl 5 (some p) acts.length (i : Int) by rw [hp]]
   rw [ixSl_at rfl hlt, af_L (hr2 hr) h hy (j := 1) (by decide) rfl]
   refine ok_cond (fun hc => ok_cond (fun hc2 => ?_) (fun hc2 => fin w4 h0 (by omega))) (fun hc => fin w4 h0 (by omega))
   simp only [decide_eq_true_eq] at hc hc2
   rw [ixSl_at rfl hlt, af_L (hr2 hr) h hy (j := 1) (by decide) rfl]
   have hjt : j < y.tx.length := by omega
   obtain ⟨x, hx⟩ : ∃ x, y.tx[j]? = some x := ⟨_, List.getElem?_eq_getElem hjt⟩
   have hxl := hB.lt x (List.mem_of_getElem? hx)
   obtain ⟨q, hq⟩ := ps_some hB.rt hjt
   have hr3 : ∀ {M : List Ent} {cs : List AV}, RdR X M y.ta cs → RdR X M (some q) cs := fun h => by rw [← hq]; exact h
   rw [show ixSl 2 y.ta y.tx.length (j : Int) = ixSl 2 (some q) y.tx.length (j : Int) by rw [hq]]
   rw [ixSl_at rfl hjt, pf_L (hr3 hB.rt) h hx]
   rw [wz (x := w4 + ((x.d.length : Nat) : Int)) rfl (by omega) (by omega), wn (x := (j : Int) + 1) (n := j + 1) (by omega) (by omega)]
   exact long_in n0 call hy hB hr h hB0 fin m (j + 1) _ (by omega) (by omega) ⟨by omega, by omega⟩
theorem long_loop (n0 : Nat) (hn0 : 1000 < n0) (call : CallA) {a : OP} {c : Cap} {acts : List Ac} (hB : ∀ y ∈ acts, AcB X F y) (hl : acts.length ≤ 1048576) (hr : RdR X F a (acrows acts).flatten) (h : Hp X S F) :
 ∀ (m i : Nat) (w4 : Int), i ≤ acts.length → i ≤ 31 → 32 - i ≤ m → wts acts i ≤ i * 2097152 → Bd w4 0 i 104857600 → Ok (J6_lZAS call n0 m a acts.length c (wts acts i : Nat) w4 i S) fun v S' => ∃ r : Bool, v = .bool r ∧ S' = S ∧ (r = false → acts.length ≤ 30 ∧ wts acts acts.length ≤ 300)
 | 0, i, w4, hi, h61, hm, hw, hbd => by omega
 | m + 1, i, w4, hi, h61, hm, hw, hbd => by
   obtain ⟨h0, h1⟩ := hbd
   rw [J6_lZAS_succ]
   simp only [b6_lZAS]
   have fin : acts.length = i ∨ 31 ≤ i → Ok (J6_jZAF call n0 a acts.length c (wts acts i : Nat) w4 S) fun v S' => ∃ r : Bool, v = .bool r ∧ S' = S ∧ (r = false → acts.length ≤ 30 ∧ wts acts acts.length ≤ 300) := by
    intro hh
    simp only [J6_jZAF, b6_jZAF]
    refine ok_cond (fun hc => ok_ret ⟨true, rfl, rfl, by simp⟩) (fun hc => ok_cond (fun hc2 => ok_ret ⟨true, rfl, rfl, by simp⟩) (fun hc2 => ok_ret ⟨_, rfl, rfl, fun he => ?_⟩))
    simp only [gt_iff_lt, decide_eq_false_iff_not] at hc hc2
    rcases hh with rfl | hh
    ·omega
    ·omega
   refine ok_cond (fun hc => ok_cond (fun hc2 => ?_) (fun hc2 => ?_)) (fun hc => ?_)
   ·simp only [decide_eq_true_eq] at hc hc2
    have hlt : i < acts.length := by omega
    obtain ⟨y, hy⟩ : ∃ y, acts[i]? = some y := ⟨_, List.getElem?_eq_getElem hlt⟩
    have hb := hB y (List.mem_of_getElem? hy)
    have hbx := hb.lx
    have hbk := hb.lk
    obtain ⟨p, hp⟩ := ac_some hr hlt
    have hr2 : ∀ {M : List Ent} {cs : List AV}, RdR X M a cs → RdR X M (some p) cs := fun h => by rw [← hp]; exact h
    rw [show ixSl 5 a acts.length (i : Int) = ixSl 5 (some p) acts.length (i : Int) by rw [hp]]
    rw [ixSl_at rfl hlt, af_L (hr2 hr) h hy (j := 3) (by decide) rfl, ixSl_at rfl hlt, af_L (hr2 hr) h hy (j := 1) (by decide) rfl]
    have hs := wts_succ hy
    unfold wt at hs
    rw [wn (x := (wts acts i : Int) + (y.kl : Nat)) (n := wts acts i + y.kl) (by omega) (by omega), wn (x := ((wts acts i + y.kl : Nat) : Int) + (y.tx.length : Nat)) (n := wts acts (i + 1)) (by omega) (by omega)]
    refine long_in n0 call hy hb hr h (B0 := w4) (by omega) (fun w5 h5 h6 => ?_) n0 0 w4 (by omega) (by omega) ⟨h0, by omega⟩
    simp only [J6_jZAD, b6_jZAD]
    rw [wn (x := (i : Int) + 1) (n := i + 1) (by omega) (by omega)]
    exact long_loop n0 hn0 call hB hl hr h m (i + 1) w5 (by omega) (by omega) (by omega) (by omega) ⟨h5, by omega⟩
   ·simp only [decide_eq_false_iff_not] at hc2
    exact fin (.inr (by omega))
   ·simp only [decide_eq_false_iff_not] at hc
    exact fin (.inl (by omega))
theorem long_ok (n : Nat) (hn : 1000 < n) {a : OP} {c : Cap} {acts : List Ac} (hB : ∀ y ∈ acts, AcB X F y) (hl : acts.length ≤ 1048576) (hr : RdR X F a (acrows acts).flatten) (h : Hp X S F) :
 Ok (ev (n + 1) (.fn 6) [.sl a acts.length c] S) fun v S' => ∃ r : Bool, v = .bool r ∧ S' = S ∧ (r = false → acts.length ≤ 30 ∧ wts acts acts.length ≤ 300) := by
 rw [ev, F6 _ _ _ _ _ (oL rfl)]
 simp only [J6, b6_entry]
 exact long_loop n hn (evF E orcL n) hB hl hr h n 0 0 (by omega) (by omega) (by omega) (by simp [wts]) ⟨by omega, by omega⟩
theorem ok_atP {l : List AV} {i : Nat} {a : OP} {K : OP → RV} (h : l[i]? = some (.ptr a)) (ht : Ok (K a) Q) : Ok (atP l i K) Q := by simp only [atP, h, gP]; exact ht
end
end Go.Jn
namespace Go.Jn.P
open Go.Gr Go.Jn
def wrow (first count : Int) (s1 s2 : Nat) (p1 p2 : OP) : List AV := [.int .i64 first, .int .i64 count, .ptr (some (.rw s1, 0)), .ptr p1, .ptr (some (.rw s2, 0)), .ptr p2]
def JJ (s1 s2 : Nat) : Option JM → OP → OP → List Ent → Prop
 | none, p1, p2, L => p1 = none ∧ p2 = none ∧ L = []
 | some J, p1, p2, L => ∃ j1 j2 L1 L2, p1 = some (.rw j1, 0) ∧ p2 = some (.rw j2, 0) ∧ JB j1 s1 J L1 ∧ DJ j2 s2 J L2 ∧ L = L1 ++ L2
structure Inv (N k K : Nat) (t : St) (o : Option JM) : Prop where
 si : SI t N K
 sk : SK k t
 j : ∀ J, o = some J → JI J k ∧ J.first + J.count ≤ N
def PW (X : Cx) (F : List Ent) (bw : Nat) (first count : Int) (s1 s2 : Nat) (t : St) (o : Option JM) (S : AS) : Prop :=
 ∃ p1 p2 L1 L2 LJ, StB s1 t L1 ∧ StB s2 t L2 ∧ JJ s1 s2 o p1 p2 LJ ∧ Hp X S (C bw (wrow first count s1 s2 p1 p2) :: (L1 ++ (L2 ++ (LJ ++ F))))
def opO (t : St) (first count : Int) : Option JM := if opE t first count = 0 then some (opJ t first count) else none
section
variable {X : Cx} {S : AS} {L F G Lj Ls : List Ent} {b bj sb bw s1 s2 : Nat} {Q : AV → AS → Prop} {J : JM} {k N K : Nat} {t : St} {first count : Int}
theorem synced_eq (n : Nat) (h : Hp X S (Lj ++ F)) (hj : JB bj sb J Lj) : ev (n + 1) (.fn 28) [.ptr (some (.rw bj, 0))] S = some (.int .u64 J.sy, S) := by
 obtain ⟨a, c, Ll, hs, rfl⟩ := hj
 apply ok_eq
 rw [ev, F28 _ _ _ (oL rfl)]
 simp only [J28, b28_entry]
 exact ok_false rfl (ok_gO (ok_ldI h rfl (ok_ret ⟨rfl, rfl⟩)))
theorem boot_eq (n : Nat) (h : Hp X S (Lj ++ F)) (hj : JB bj sb J Lj) : ev (n + 1) (.fn 31) [.ptr (some (.rw bj, 0))] S = some (.int .u64 J.sup.bo, S) := by
 obtain ⟨a, c, Ll, hs, rfl⟩ := hj
 apply ok_eq
 rw [ev, F31 _ _ _ (oL rfl)]
 simp only [J31, b31_entry]
 exact ok_false rfl (ok_gO (ok_ldI h rfl (ok_ret ⟨rfl, rfl⟩)))
theorem opL_len {x : List Pt} (h : x ∈ opL t first count) : x.length ≤ 64 := rdAll_len _ _ _ _ _ _ (fun y hy => by cases hy) x h
theorem opened_ok (n : Nat) (hn : 1000020 < n) {o : Option JM} (hI : Inv N k K t o) (hK : K ≤ 800000) (hN40 : N ≤ 40) (hk : k + 40 ≤ 100000) (h : PW X F bw first count s1 s2 t o S) :
 Ok (ev (n + 8) (.fn 21) [.ptr (some (.rw bw, 0))] S) fun v S' => v = .bool true ∧ PW X F bw first count s1 s2 (opT t first count) (opO t first count) S' := by
 obtain ⟨p1, p2, L1, L2, LJ, hb1, hb2, hJJ, h⟩ := h
 rw [ev, F21 _ _ _ (oL rfl)]
 simp only [J21, b21_entry]
 refine ok_gO (ok_ldP h rfl (ok_gO (ok_ldI h rfl (ok_gO (ok_ldI h rfl ?_)))))
 have h1 : Hp X S (L1 ++ (C bw (wrow first count s1 s2 p1 p2) :: (L2 ++ (LJ ++ F)))) := h.re (by intro p; simp only [List.countP_append, List.countP_cons]; omega)
 obtain ⟨v, S7, e7, L1', hb1', q1, q2⟩ : Ok (evF E orcL (n + 7) (.fn 25) [dev s1, .int .i64 first, .int .i64 count] S) _ := open_ok n (by omega) hI.si hK hN40 hI.sk hk hb1 h1
 obtain ⟨w1, w2, w3⟩ := op_facts hI.si hN40 hI.sk hk first count
 by_cases hE : opE t first count = 0
 ·obtain ⟨j1, xs, xa, xc, Lo, Ld, Lj1, rfl, hxl, hxp, hxs, hxv, hj1, h7⟩ := q2 hE
  rw [callT_of e7]
  have h7' : Hp X S7 (L2 ++ (C bw (wrow first count s1 s2 p1 p2) :: (Lo ++ (Ld ++ (L1' ++ (Lj1 ++ (LJ ++ F))))))) := h7.re (by intro p; simp only [List.countP_append, List.countP_cons]; omega)
  refine ok_atP rfl (ok_atL rfl (ok_atI rfl (ok_gO (ok_ldP h7' rfl (ok_gO (ok_ldI h7' rfl (ok_gO (ok_ldI h7' rfl ?_))))))))
  obtain ⟨v, S18, e18, L2', hb2', r1, r2⟩ : Ok (evF E orcL (n + 7) (.fn 46) [.ptr (some (.rw s2, 0)), .int .i64 first, .int .i64 count] S7) _ := dopen_ok (n + 1) (by omega) hI.si hK hN40 hI.sk hk hb2 h7'
  obtain ⟨j2, ys, ya, yc, Lo2, Ld2, Lj2, rfl, hyl, hyp, hys, hyv, hj2, h18⟩ := r2 hE
  rw [callT_of e18]
  have h18' : Hp X S18 (C bw (wrow first count s1 s2 p1 p2) :: (Lo ++ (Ld ++ (Lo2 ++ (Ld2 ++ (LJ ++ (L1' ++ (L2' ++ (Lj1 ++ (Lj2 ++ F)))))))))) := h18.re (by intro p; simp only [List.countP_append, List.countP_cons]; omega)
  refine ok_atP rfl (ok_atL rfl (ok_atI rfl (ok_gO (ok_stn h18' (by simp [wrow]) (d := wrow first count s1 s2 (some (.rw j1, 0)) p2) (by simp [splice, wrow]) (fun S24 h24 => ok_gO (ok_stn h24 (by simp [wrow]) (d := wrow first count s1 s2 (some (.rw j1, 0)) (some (.rw j2, 0))) (by simp [splice, wrow]) (fun S26 h26 => ?_)))))))
  rw [callI_of (num_eq (n + 6) 0 S26)]
  refine ok_true rfl (ok_true rfl ?_)
  rw [callB_of (show evF E orcL (n + 7) (.fn 26) [.sl xa xs.length xc, .sl ya ys.length yc] S26 = _ from sameTx_eq (n + 5) (by omega) (by omega) (by rw [hxp, hyp]) (fun x hx => opL_len (by rw [← hxp]; exact hx)) (hxs.rd (fun e he => by simp [he])) (hys.rd (fun e he => by simp [he])) (hxv.mono (fun e he => by simp [he])) (hyv.mono (fun e he => by simp [he])) h26)]
  refine ok_ret ⟨rfl, some (.rw j1, 0), some (.rw j2, 0), L1', L2', Lj1 ++ Lj2, hb1', hb2', ?_, ?_⟩
  ·rw [opO, if_pos hE]
   exact ⟨j1, j2, Lj1, Lj2, rfl, rfl, hj1, hj2, rfl⟩
  ·exact (h26.re (M := (Lo ++ (Ld ++ (Lo2 ++ (Ld2 ++ LJ)))) ++ (C bw (wrow first count s1 s2 (some (.rw j1, 0)) (some (.rw j2, 0))) :: (L1' ++ (L2' ++ ((Lj1 ++ Lj2) ++ F))))) (by intro p; simp only [List.countP_append, List.countP_cons, C]; omega)).right
 ·obtain ⟨rfl, h7⟩ := q1 hE
  rw [callT_of e7]
  have h7' : Hp X S7 (L2 ++ (C bw (wrow first count s1 s2 p1 p2) :: (L1' ++ (LJ ++ F)))) := h7.re (by intro p; simp only [List.countP_append, List.countP_cons]; omega)
  refine ok_atP rfl (ok_atL rfl (ok_atI rfl (ok_gO (ok_ldP h7' rfl (ok_gO (ok_ldI h7' rfl (ok_gO (ok_ldI h7' rfl ?_))))))))
  obtain ⟨v, S18, e18, L2', hb2', r1, r2⟩ : Ok (evF E orcL (n + 7) (.fn 46) [.ptr (some (.rw s2, 0)), .int .i64 first, .int .i64 count] S7) _ := dopen_ok (n + 1) (by omega) hI.si hK hN40 hI.sk hk hb2 h7'
  obtain ⟨rfl, h18⟩ := r1 hE
  rw [callT_of e18]
  have h18' : Hp X S18 (C bw (wrow first count s1 s2 p1 p2) :: (LJ ++ (L1' ++ (L2' ++ F)))) := h18.re (by intro p; simp only [List.countP_append, List.countP_cons]; omega)
  refine ok_atP rfl (ok_atL rfl (ok_atI rfl (ok_gO (ok_stn h18' (by simp [wrow]) (d := wrow first count s1 s2 none p2) (by simp [splice, wrow]) (fun S24 h24 => ok_gO (ok_stn h24 (by simp [wrow]) (d := wrow first count s1 s2 none none) (by simp [splice, wrow]) (fun S26 h26 => ?_)))))))
  rw [callI_of (num_eq (n + 6) _ S26)]
  refine ok_true (by simp) (ok_true rfl ?_)
  rw [callB_of (show evF E orcL (n + 7) (.fn 26) [.sl none 0 (.ex 0), .sl none 0 (.ex 0)] S26 = _ from sameTx_eq (xs := []) (ys := []) (n + 5) (by omega) (by simp) rfl (fun x hx => by cases hx) .nil .nil (fun x hx => by cases hx) (fun x hx => by cases hx) h26)]
  refine ok_ret ⟨rfl, none, none, L1', L2', [], hb1', hb2', ?_, ?_⟩
  ·rw [opO, if_neg hE]
   exact ⟨rfl, rfl, rfl⟩
  ·exact (h26.re (M := LJ ++ (C bw (wrow first count s1 s2 none none) :: (L1' ++ (L2' ++ ([] ++ F))))) (by intro p; simp only [List.countP_append, List.countP_cons, List.nil_append, C]; omega)).right
theorem Inv.op {o : Option JM} (hI : Inv N k K t o) (hN40 : N ≤ 40) (hk : k + 40 ≤ 100000) (first count : Int) : Inv N (k + 40) (K + 40) (opT t first count) (opO t first count) := by
 obtain ⟨w1, w2, w3⟩ := op_facts hI.si hN40 hI.sk hk first count
 refine ⟨⟨w1.len, w1.f, by have := w1.q; omega, w1.r⟩, w2, fun J hJ => ?_⟩
 unfold opO at hJ
 split at hJ
 ·rename_i he
  injection hJ with hJ
  subst hJ
  exact w3 he
 ·cases hJ
theorem tells_ok (n : Nat) (hn : 1000020 < n) {o : Option JM} (hI : Inv N k K t o) (hK : K ≤ 800000) (hN40 : N ≤ 40) (h : PW X F bw first count s1 s2 t o S) :
 Ok (ev (n + 3) (.fn 22) [.ptr (some (.rw bw, 0))] S) fun v S' => v = .bool true ∧ PW X F bw first count s1 s2 t o S' := by
 obtain ⟨p1, p2, L1, L2, LJ, hb1, hb2, hJJ, h⟩ := h
 rw [ev, F22 _ _ _ (oL rfl)]
 simp only [J22, b22_entry]
 refine ok_gO (ok_ldP h rfl (ok_gO (ok_ldP h rfl ?_)))
 have hs : Hp X S (L1 ++ (L2 ++ (C bw (wrow first count s1 s2 p1 p2) :: (LJ ++ F)))) := h.re (by intro p; simp only [List.countP_append, List.countP_cons]; omega)
 rw [callB_of (show evF E orcL (n + 2) (.fn 47) [.ptr (some (.rw s1, 0)), .ptr (some (.rw s2, 0))] S = _ from sameStore_eq (n + 1) (by omega) hI.si (by omega) (by omega) hb1 hb2 hs)]
 refine ok_false rfl (ok_gO (ok_ldP h rfl ?_))
 cases o with
 | none =>
   obtain ⟨rfl, rfl, rfl⟩ := hJJ
   exact ok_true rfl (ok_ret ⟨rfl, none, none, L1, L2, [], hb1, hb2, ⟨rfl, rfl, rfl⟩, h⟩)
 | some J =>
   obtain ⟨hJ, hJN⟩ := hI.j J rfl
   obtain ⟨j1, j2, Lj1, Lj2, rfl, rfl, hj1, hj2, rfl⟩ := hJJ
   refine ok_false rfl (ok_gO (ok_ldP h rfl ?_))
   have ha : ∀ {S : AS}, Hp X S (C bw (wrow first count s1 s2 (some (.rw j1, 0)) (some (.rw j2, 0))) :: (L1 ++ (L2 ++ ((Lj1 ++ Lj2) ++ F)))) → Hp X S (Lj1 ++ (C bw (wrow first count s1 s2 (some (.rw j1, 0)) (some (.rw j2, 0))) :: (L1 ++ (L2 ++ (Lj2 ++ F))))) := fun h => h.re (by intro p; simp only [List.countP_append, List.countP_cons]; omega)
   have hd : ∀ {S : AS}, Hp X S (C bw (wrow first count s1 s2 (some (.rw j1, 0)) (some (.rw j2, 0))) :: (L1 ++ (L2 ++ ((Lj1 ++ Lj2) ++ F)))) → Hp X S (Lj2 ++ (C bw (wrow first count s1 s2 (some (.rw j1, 0)) (some (.rw j2, 0))) :: (L1 ++ (L2 ++ (Lj1 ++ F))))) := fun h => h.re (by intro p; simp only [List.countP_append, List.countP_cons]; omega)
   rw [callI_of (show evF E orcL (n + 2) (.fn 29) [.ptr (some (.rw j1, 0))] S = _ from last_eq (n + 1) hJ (ha h) hj1)]
   refine ok_gO (ok_ldP h rfl (ok_ldP h rfl (ok_true (by simp [AV.beq]) ?_)))
   rw [callI_of (show evF E orcL (n + 2) (.fn 48) [.ptr (some (.rw j2, 0))] S = _ from dlast_eq (n + 1) hJ (hd h) hj2)]
   refine ok_true (by simp) (ok_gO (ok_ldP h rfl ?_))
   rw [callI_of (show evF E orcL (n + 2) (.fn 28) [.ptr (some (.rw j1, 0))] S = _ from synced_eq (n + 1) (ha h) hj1)]
   refine ok_gO (ok_ldP h rfl (ok_ldP h rfl (ok_true (by simp [AV.beq]) (ok_gO ?_))))
   obtain ⟨na, nc, ta, tc, Ln, Lt, hn1, ht1, rfl⟩ := hj2
   have hc : ∀ {S : AS}, Hp X S (C bw (wrow first count s1 s2 (some (.rw j1, 0)) (some (.rw j2, 0))) :: (L1 ++ (L2 ++ ((Lj1 ++ (C j2 (drow s2 J na nc ta tc J.l.length) :: (Ln ++ Lt))) ++ F)))) → Hp X S (C j2 (drow s2 J na nc ta tc J.l.length) :: C bw (wrow first count s1 s2 (some (.rw j1, 0)) (some (.rw j2, 0))) :: (L1 ++ (L2 ++ (Lj1 ++ (Ln ++ (Lt ++ F)))))) := fun h => h.re (by intro p; simp only [List.countP_append, List.countP_cons, List.cons_append]; omega)
   have hj2' : DJ j2 s2 J (C j2 (drow s2 J na nc ta tc J.l.length) :: (Ln ++ Lt)) := ⟨na, nc, ta, tc, Ln, Lt, hn1, ht1, rfl⟩
   refine ok_ldI (hc h) rfl (ok_ldI (hc h) rfl (ok_true (by simp [AV.beq]) (ok_true (by simp) (ok_gO (ok_ldP h rfl ?_)))))
   rw [callI_of (show evF E orcL (n + 2) (.fn 15) [.ptr (some (.rw j1, 0))] S = _ from trimmed_eq (n + 1) (ha h) hj1)]
   refine ok_gO (ok_ldP h rfl (ok_ldP h rfl (ok_true (by simp [AV.beq]) (ok_gO (ok_ldI (hc h) rfl (ok_ldI (hc h) rfl (ok_true (by simp [AV.beq]) (ok_true (by simp) (ok_gO (ok_ldP h rfl ?_))))))))))
   obtain ⟨v, S40, e40, rfl, h40⟩ : Ok (evF E orcL (n + 2) (.fn 17) [.ptr (some (.rw j1, 0))] S) _ := room_ok (n + 1) (by omega) hJ (ha h) hj1
   rw [callI_of e40]
   have h40' : Hp X S40 (C bw (wrow first count s1 s2 (some (.rw j1, 0)) (some (.rw j2, 0))) :: (L1 ++ (L2 ++ ((Lj1 ++ (C j2 (drow s2 J na nc ta tc J.l.length) :: (Ln ++ Lt))) ++ F)))) := h40.re (by intro p; simp only [List.countP_append, List.countP_cons, List.cons_append]; omega)
   refine ok_gO (ok_ldP h40' rfl (ok_ldP h rfl (ok_true (by simp [AV.beq]) ?_)))
   rw [callI_of (show evF E orcL (n + 2) (.fn 49) [.ptr (some (.rw j2, 0))] S40 = _ from droom_eq n (by omega) hJ (hd h40') hj2')]
   refine ok_true (by simp) (ok_gO (ok_ldP h40' rfl ?_))
   rw [callI_of (show evF E orcL (n + 2) (.fn 31) [.ptr (some (.rw j1, 0))] S40 = _ from boot_eq (n + 1) (ha h40') hj1)]
   refine ok_gO (ok_ldP h40' rfl (ok_ldP h40' rfl (ok_true (by simp [AV.beq]) (ok_gO (ok_ldI (hc h40') rfl (ok_ldI (hc h40') rfl (ok_true (by simp [AV.beq]) (ok_ret ⟨by simp, some (.rw j1, 0), some (.rw j2, 0), L1, L2, _, hb1, hb2, ⟨j1, j2, Lj1, _, rfl, rfl, hj1, hj2', rfl⟩, h40'⟩))))))))
end
end Go.Jn.P
namespace Go.Jn.P
open Go.Gr Go.Jn
inductive OwnD : List Pr → List Ent → Prop
 | nil : OwnD [] []
 | snoc {qs : List Pr} {L : List Ent} {q : Pr} {Lq : List Ent} : OwnD qs L → SlG q.a q.d.length q.c 1 (bxs q.d) Lq → OwnD (qs ++ [q]) (Lq ++ L)
theorem OwnD.psv {X : Cx} {qs : List Pr} {L : List Ent} (h : OwnD qs L) : PsV X L qs := by
 induction h with
 | nil => intro p hp; cases hp
 | snoc h hs ih =>
   intro p hp
   rcases List.mem_append.1 hp with hp | hp
   ·exact (ih p hp).mono (fun e he => by simp [he])
   ·simp only [List.mem_singleton] at hp
    subst hp
    exact slG_vw hs (fun e he => by simp [he])
theorem OwnD.pick {qs : List Pr} {L : List Ent} (h : OwnD qs L) : ∀ {i : Nat} {q : Pr}, qs[i]? = some q → ∃ (Lq L' : List Ent), SlG q.a q.d.length q.c 1 (bxs q.d) Lq ∧ (∀ p : Ent → Bool, L.countP p = Lq.countP p + L'.countP p) ∧
 ∀ (d : List UInt8) (Lq' : List Ent), SlG q.a d.length q.c 1 (bxs d) Lq' → ∃ (L'' : List Ent), OwnD (qs.set i ⟨q.b, q.a, q.c, d⟩) L'' ∧ ∀ p : Ent → Bool, L''.countP p = Lq'.countP p + L'.countP p := by
 induction h with
 | nil => intro i q hi; simp at hi
 | snoc h hs ih =>
   rename_i qs L q0 Lq0
   intro i q hi
   have hlt : i < (qs ++ [q0]).length := (List.getElem?_eq_some_iff.1 hi).1
   rw [List.length_append, List.length_singleton] at hlt
   by_cases hiq : i < qs.length
   ·rw [List.getElem?_append_left hiq] at hi
    obtain ⟨Lq, L', h1, h2, h3⟩ := ih hi
    refine ⟨Lq, Lq0 ++ L', h1, fun p => by rw [List.countP_append, List.countP_append, h2]; omega, fun d Lq' hs' => ?_⟩
    obtain ⟨L'', h4, h5⟩ := h3 d Lq' hs'
    refine ⟨Lq0 ++ L'', ?_, fun p => by rw [List.countP_append, List.countP_append, h5]; omega⟩
    rw [List.set_append_left _ _ hiq]
    exact .snoc h4 hs
   ·have hie : i = qs.length := by omega
    subst hie
    rw [List.getElem?_append_right (Nat.le_refl _), Nat.sub_self] at hi
    simp only [List.getElem?_cons_zero, Option.some.injEq] at hi
    subst hi
    refine ⟨Lq0, L, hs, fun p => by rw [List.countP_append], fun d Lq' hs' => ⟨Lq' ++ L, ?_, fun p => by rw [List.countP_append]⟩⟩
    rw [List.set_append_right _ _ (Nat.le_refl _), Nat.sub_self]
    exact .snoc h hs'
section
variable {X : Cx} {S : AS} {L F G Lj Ls : List Ent} {b bj sb bw s1 s2 : Nat} {Q : AV → AS → Prop} {J : JM} {k N K : Nat} {t : St} {first count : Int}
abbrev OQ2 (X : Cx) (F : List Ent) (l : List Pt) : AV → AS → Prop := fun v S' => ∃ (qs : List Pr) (a : OP) (c : Cap) (Lr Ld : List Ent), v = .sl a qs.length c ∧ pts qs = l ∧ SlG a qs.length c 2 (prows qs) Lr ∧ OwnD qs Ld ∧ Hp X S' (Lr ++ (Ld ++ F))
theorem own2_loop (n0 : Nat) (call : CallA) {ps : List Pr} {pa : OP} {pc : Cap} (hps : ps.length ≤ 1000) (hr : RdR X F pa (prows ps).flatten) (hv : PsV X F ps) (hB : ∀ p ∈ ps, p.d.length ≤ 1048576) :
 ∀ (m i : Nat) (qs : List Pr) (a : OP) (c : Cap) (Lr Ld : List Ent) (S : AS), i ≤ ps.length → ps.length - i < m → pts qs = (pts ps).take i → SlG a qs.length c 2 (prows qs) Lr → OwnD qs Ld → Hp X S (Lr ++ (Ld ++ F)) →
   Ok (J12_lZAS call n0 m pa ps.length pc a qs.length c i S) (OQ2 X F (pts ps))
 | 0, i, qs, a, c, Lr, Ld, S, hi, hm, hP, hs, hd, h => by omega
 | m + 1, i, qs, a, c, Lr, Ld, S, hi, hm, hP, hs, hd, h => by
   have hql : qs.length = i := by have := congrArg List.length hP; rw [List.length_take, pts_len, pts_len] at this; omega
   rw [J12_lZAS_succ]
   simp only [b12_lZAS]
   refine ok_cond (fun hc => ?_) (fun hc => ?_)
   ·simp only [decide_eq_true_eq] at hc
    have hlt : i < ps.length := by omega
    obtain ⟨x, hx⟩ : ∃ x, ps[i]? = some x := ⟨_, List.getElem?_eq_getElem hlt⟩
    have hxm := List.mem_of_getElem? hx
    obtain ⟨q, hq⟩ := ps_some hr hlt
    have hr0 : RdR X F (some q) (prows ps).flatten := by rw [← hq]; exact hr
    refine ok_drawA h [6, 14] (by decide) (by simp) (fun b1 S1 h1 => ?_)
    have h1' : Hp X S1 ((b1 + 6, none) :: (b1 + 14, none) :: (Lr ++ (Ld ++ F))) := h1
    rw [show ixSl 2 pa ps.length (i : Int) = ixSl 2 (some q) ps.length (i : Int) by rw [hq]]
    rw [ixSl_at rfl hlt, pf_I (hr0.mono (fun e he => by simp [he])) h1' hx, ixSl_at rfl hlt, pf_L (hr0.mono (fun e he => by simp [he])) h1' hx]
    refine ok_layA (b := b1 + 6) h1' (fun S2 h2 => ?_)
    have h2' : Hp X S2 ([C (b1 + 6) []] ++ ((b1 + 14, none) :: (Lr ++ (Ld ++ F)))) := h2
    have hs0 : SlG (some (.rw (b1 + 6), 0)) 0 (.ex 0) 1 (bxs []) [C (b1 + 6) []] := (SlR.of (xs := []) (by simp) rfl (.inl rfl)).g
    refine ok_bytes h2' hs0 ((hv x hxm).mono (fun e he => by simp [he])) (by simp; exact hB x hxm) (fun a3 c3 L3 S3 hs3 h3 => ?_)
    rw [List.nil_append] at hs3 ⊢
    rw [pf_I (hr0.mono (fun e he => by simp [he])) h3 hx]
    refine ok_true (by simp [AV.beq]) (ok_layA (b := b1 + 14) h3 (fun S4 h4 => ?_))
    have h4' : Hp X S4 (Lr ++ (C (b1 + 14) (prow ⟨x.b, a3, c3, x.d⟩) :: ((L3 ++ Ld) ++ F))) := h4.re (by intro p; simp only [List.countP_append, List.countP_cons, C, prow]; omega)
    refine row_push (by omega) hs h4' (fun a5 c5 L5 S5 hs5 h5 => ?_)
    rw [wn (x := (i : Int) + 1) (n := i + 1) (by omega) (by omega)]
    refine own2_loop n0 call hps hr hv hB m (i + 1) _ a5 c5 L5 (L3 ++ Ld) S5 (by omega) (by omega) ?_ hs5 (.snoc hd hs3) h5
    rw [pts_append, hP, List.take_add_one, pts_at hx]; rfl
   ·simp only [decide_eq_false_iff_not] at hc
    rw [List.take_of_length_le (by simp; omega)] at hP
    exact ok_ret ⟨qs, a, c, Lr, Ld, rfl, hP, hs, hd, h⟩
theorem own2_ok (n : Nat) (hn : 2000 < n) {ps : List Pr} {pa : OP} {pc : Cap} (hps : ps.length ≤ 1000) (h : Hp X S F) (hr : RdR X F pa (prows ps).flatten) (hv : PsV X F ps) (hB : ∀ p ∈ ps, p.d.length ≤ 1048576) :
 Ok (ev (n + 1) (.fn 12) [.sl pa ps.length pc] S) (OQ2 X F (pts ps)) := by
 rw [ev, F12 _ _ _ _ _ (oL rfl)]
 simp only [J12, b12_entry]
 exact own2_loop n (evF E orcL n) hps hr hv hB n 0 [] none (.ex 0) [] [] S (by omega) (by omega) rfl (by exact (SlG.nil : SlG none 0 (.ex 0) 2 [] [])) .nil h
theorem xor8 (c : UInt8) : ∃ d : UInt8, xorI .u8 (c.toNat : Int) 85 = (d.toNat : Int) := ⟨_, wu8 _⟩
theorem xor_in (n0 : Nat) (call : CallA) {K1 : OP → Nat → Cap → Int → Int → Int → Int → Int → AS → RV} {qs : List Pr} {qa : OP} {qc : Cap} {i : Nat} {q : Pr} {w6 w7 w8 w9 : Int} (hqi : qs[i]? = some q) (hq1 : q.d.length ≤ 1048576) {Lr L' : List Ent} (hsr : SlG qa qs.length qc 2 (prows qs) Lr)
 (fin : ∀ (d : List UInt8) (Lq : List Ent) (S' : AS), d.length = q.d.length → SlG q.a d.length q.c 1 (bxs d) Lq → Hp X S' (Lq ++ (Lr ++ (L' ++ G))) → Ok (J23_jZAH call n0 K1 qa qs.length qc w6 w7 w8 w9 i S') Q) :
 ∀ (m j : Nat) (d : List UInt8) (Lq : List Ent) (S : AS), j ≤ q.d.length → q.d.length - j < m → d.length = q.d.length → SlG q.a d.length q.c 1 (bxs d) Lq → Hp X S (Lq ++ (Lr ++ (L' ++ G))) →
   Ok (J23_lZAY call n0 K1 m qa qs.length qc w6 w7 w8 w9 i j S) Q
 | 0, j, d, Lq, S, h1, h2, h3, hs, h => by omega
 | m + 1, j, d, Lq, S, h1, h2, h3, hs, h => by
   have hlt : i < qs.length := (List.getElem?_eq_some_iff.1 hqi).1
   have hr : RdR X (Lq ++ (Lr ++ (L' ++ G))) qa (prows qs).flatten := hsr.rd (fun e he => by simp [he])
   obtain ⟨p, hp⟩ := ps_some hr hlt
   have hr2 : ∀ {M : List Ent} {cs : List AV}, RdR X M qa cs → RdR X M (some p) cs := fun h => by rw [← hp]; exact h
   have hr' := hr2 hr
   have ei : ∀ (K : Pos → RV), ixSl 2 qa qs.length (i : Int) K = K (p.1, p.2 + i * 2) := fun K => by
    rw [hp, ixSl_at rfl hlt]
   rw [J23_lZAY_succ]
   simp only [b23_lZAY]
   rw [ei, pf_L hr' h hqi]
   refine ok_cond (fun hc => ?_) (fun hc => ?_)
   ·simp only [decide_eq_true_eq] at hc
    have hjl : j < d.length := by omega
    rw [ei, pf_L hr' h hqi, ei, pf_L hr' h hqi]
    rcases hs.dest with ⟨_, hz, _, _, _⟩ | ⟨bs, js, ha, hln, hcc, rfl, hx', hj⟩
    ·omega
    rw [ha]
    rw [ixSl_at rfl (by omega : j < q.d.length)]
    have h' : Hp X S (C bs (bxs d ++ js).flatten :: (Lr ++ (L' ++ G))) := h
    obtain ⟨x, hx⟩ : ∃ x, d[j]? = some x := ⟨_, List.getElem?_eq_getElem hjl⟩
    have hg : (bxs d ++ js).flatten[0 + j * 1]? = some (.int .u8 (x.toNat : Int)) := by
     rw [List.flatten_append, bxs_flat, List.getElem?_append_left (by simp; omega)]
     simp [ofBytes, hx]
    refine ok_ldI h' hg ?_
    rw [ixSl_at rfl (by omega : j < q.d.length)]
    obtain ⟨x', hx2⟩ := xor8 x
    rw [hx2]
    have hfl : (bxs d ++ js).flatten = ofBytes d ++ js.flatten := by rw [List.flatten_append, bxs_flat]
    have hsp : splice (bxs d ++ js).flatten (0 + j * 1) [.int .u8 (x'.toNat : Int)] = (bxs (d.set j x') ++ js).flatten := by
     have hall : ∀ x ∈ bxs d ++ js, x.length = 1 := fun x hx => by
      rcases List.mem_append.1 hx with hx | hx
      ·exact hx' x hx
      ·exact hj x hx
     rw [Nat.zero_add, flat_splice hall (by rw [List.length_append, bxs_len]; omega) rfl, List.set_append_left _ _ (by rw [bxs_len]; omega)]
     have : (bxs d).set j [.int .u8 (x'.toNat : Int)] = bxs (d.set j x') := by simp [bxs, ofBytes, List.map_set]
     rw [this]
    refine ok_stn h' (by rw [hfl]; simp; omega) (d := (bxs (d.set j x') ++ js).flatten) hsp (fun S1 h1' => ?_)
    rw [wn (x := (j : Int) + 1) (n := j + 1) (by omega) (by omega)]
    refine xor_in n0 call hqi hq1 hsr fin m (j + 1) (d.set j x') [C bs (bxs (d.set j x') ++ js).flatten] S1 (by omega) (by omega) (by simp [h3]) ?_ h1'
    rw [bxs_len] at hcc
    have := SlG.blk (b := bs) (xs := bxs (d.set j x')) (js := js) (c := q.c) (bxs_all _) hj (by rw [bxs_len, List.length_set]; exact hcc)
    rw [bxs_len] at this
    rw [ha]; exact this
   ·exact fin d Lq S h3 hs h
theorem xor_loop (n0 : Nat) (hn0 : 1048576 < n0) (call : CallA) {qa : OP} {qc : Cap} {w6 w7 w8 w9 : Int} {Lr : List Ent}
 (fin : ∀ S', Hp X S' G → Ok (J23_jZAI call n0 w6 w7 w8 w9 S') Q) :
 ∀ (m i : Nat) (qs : List Pr) (Ld : List Ent) (S : AS), i ≤ qs.length → qs.length - i < m → qs.length ≤ 1000 → (∀ q ∈ qs, q.d.length ≤ 1048576) → SlG qa qs.length qc 2 (prows qs) Lr → OwnD qs Ld → Hp X S (Lr ++ (Ld ++ G)) →
   Ok (J23_lZAX call n0 m qa qs.length qc w6 w7 w8 w9 i S) Q
 | 0, i, qs, Ld, S, h1, h2, h3, hB, hs, hd, h => by omega
 | m + 1, i, qs, Ld, S, h1, h2, h3, hB, hs, hd, h => by
   rw [J23_lZAX_succ]
   simp only [b23_lZAX]
   refine ok_cond (fun hc => ?_) (fun hc => fin S h.right.right)
   simp only [decide_eq_true_eq] at hc
   have hlt : i < qs.length := by omega
   obtain ⟨q, hq⟩ : ∃ q, qs[i]? = some q := ⟨_, List.getElem?_eq_getElem hlt⟩
   have hqm := List.mem_of_getElem? hq
   obtain ⟨Lq, L', g1, g2, g3⟩ := hd.pick hq
   have h' : Hp X S (Lq ++ (Lr ++ (L' ++ G))) := h.re (by intro p; simp only [List.countP_append, g2]; omega)
   refine xor_in n0 call hq (hB q hqm) hs (fun d Lq' S' hdl hsd hh => ?_) n0 0 q.d Lq S (by omega) (by have := hB q hqm; omega) rfl g1 h'
   obtain ⟨L'', g4, g5⟩ := g3 d Lq' hsd
   simp only [J23_jZAH, b23_jZAH]
   rw [wn (x := (i : Int) + 1) (n := i + 1) (by omega) (by omega)]
   have hpr : prows (qs.set i ⟨q.b, q.a, q.c, d⟩) = prows qs := by
    rw [prows, List.map_set]
    have e : prow ⟨q.b, q.a, q.c, d⟩ = prow q := by simp [prow, hdl]
    rw [e]
    have e2 : (qs.map prow)[i]? = some (prow q) := by rw [List.getElem?_map, hq]; rfl
    show (qs.map prow).set i (prow q) = qs.map prow
    apply List.ext_getElem?
    intro j
    by_cases hj : i = j
    ·subst hj
     rw [List.getElem?_set_self (by simpa using hlt), e2]
    ·rw [List.getElem?_set_ne hj]
   have hln : (qs.set i ⟨q.b, q.a, q.c, d⟩).length = qs.length := List.length_set
   have := xor_loop n0 hn0 call fin m (i + 1) (qs.set i ⟨q.b, q.a, q.c, d⟩) L'' S' (by rw [hln]; omega) (by rw [hln]; omega) (by rw [hln]; exact h3) (fun z hz => ?_) (by rw [hln, hpr]; exact hs) g4 (hh.re (by intro p; simp only [List.countP_append, g5]; omega))
   ·rw [hln] at this; exact this
   ·rcases List.mem_or_eq_of_mem_set hz with hz | hz
    ·exact hB z hz
    ·subst hz; show d.length ≤ _; rw [hdl]; exact hB q hqm
end
end Go.Jn.P
namespace Go.Jn.P
open Go.Gr Go.Jn
structure AcP (X : Cx) (F : List Ent) (y : Ac) : Prop where
 b : AcB X F y
 rk : ∃ ks : List Int, ks.length = y.kl ∧ RdR X F y.ka (ixs .i64 ks).flatten
 fb : i64B y.fl
section
variable {X : Cx} {S : AS} {L F G Lj Ls : List Ent} {b bj sb bw s1 s2 : Nat} {Q : AV → AS → Prop} {J : JM} {k N K : Nat} {t : St} {first count : Int}
theorem PW.drop {e : Ent} {o : Option JM} (h : PW X (e :: F) bw first count s1 s2 t o S) : PW X F bw first count s1 s2 t o S := by
 obtain ⟨p1, p2, L1, L2, LJ, h1, h2, h3, h⟩ := h
 exact ⟨p1, p2, L1, L2, LJ, h1, h2, h3, (h.re (M := e :: (C bw (wrow first count s1 s2 p1 p2) :: (L1 ++ (L2 ++ (LJ ++ F))))) (by intro p; simp only [List.countP_append, List.countP_cons]; omega)).drop1⟩
abbrev ActQ (X : Cx) (F : List Ent) (bw : Nat) (first count : Int) (s1 s2 N k K : Nat) : AV → AS → Prop := fun v S' => v = .bool true ∧ ∃ t' o', Inv N k K t' o' ∧ PW X F bw first count s1 s2 t' o' S'
theorem act_ok (n : Nat) (hn : 1048600 < n) {o : Option JM} (hI : Inv N k K t o) (hK : K ≤ 700000) (hN40 : N ≤ 40) (hk : k + 40 ≤ 100000) {y : Ac} (hy : AcP X F y) (htx : y.tx.length ≤ 300) (h : PW X F bw first count s1 s2 t o S) :
 Ok (ev (n + 9) (.fn 23) [.ptr (some (.rw bw, 0)), .agg (acrow y)] S) (ActQ X F bw first count s1 s2 N (k + 40) (K + 40)) := by
 have hPW := h
 obtain ⟨p1, p2, L1, L2, LJ, hb1, hb2, hJJ, h⟩ := h
 obtain ⟨hyB, ⟨ks, hkl, hks⟩, hfb⟩ := hy
 rw [ev, F23 _ _ _ _ (oL rfl)]
 simp only [J23, b23_entry]
 refine ok_ifO rfl (ok_newA h (fun b1 S2 h2 => ?_))
 have h2' : Hp X S2 (C b1 (acrow y) :: C bw (wrow first count s1 s2 p1 p2) :: (L1 ++ (L2 ++ (LJ ++ F)))) := h2
 have hPW2 : PW X (C b1 (acrow y) :: F) bw first count s1 s2 t o S2 := ⟨p1, p2, L1, L2, LJ, hb1, hb2, hJJ, h2'.re (by intro p; simp only [List.countP_append, List.countP_cons]; omega)⟩
 clear h h2
 refine ok_ldI h2' rfl (ok_cond (fun c4 => ?_) (fun c4 => ?_))
 · -- a crash
   refine ok_gO (ok_ldP h2' rfl (ok_ldL h2' rfl ?_))
   have e1 : Hp X S2 (L1 ++ (C b1 (acrow y) :: C bw (wrow first count s1 s2 p1 p2) :: (L2 ++ (LJ ++ F)))) := h2'.re (by intro p; simp only [List.countP_append, List.countP_cons]; omega)
   rw [← hkl]
   obtain ⟨v, S7, e7, rfl, L1', hb1', h7⟩ : Ok (evF E orcL (n + 8) (.fn 24) [.ptr (some (.rw s1, 0)), .sl y.ka ks.length y.kc] S2) _ := crash_ok (n + 7) (by omega) hI.si (by omega) (hks.mono (fun e he => by simp [he])) (by have := hyB.lk; omega) hb1 e1
   rw [callT_of e7]
   have h7' : Hp X S7 (C b1 (acrow y) :: C bw (wrow first count s1 s2 p1 p2) :: (L1' ++ (L2 ++ (LJ ++ F)))) := h7.re (by intro p; simp only [List.countP_append, List.countP_cons]; omega)
   refine ok_gO (ok_ldP h7' rfl (ok_ldL h7' rfl ?_))
   have e2 : Hp X S7 (L2 ++ (C b1 (acrow y) :: C bw (wrow first count s1 s2 p1 p2) :: (L1' ++ (LJ ++ F)))) := h7'.re (by intro p; simp only [List.countP_append, List.countP_cons]; omega)
   rw [← hkl]
   obtain ⟨v, S12, e12, rfl, L2', hb2', h12⟩ : Ok (evF E orcL (n + 8) (.fn 24) [.ptr (some (.rw s2, 0)), .sl y.ka ks.length y.kc] S7) _ := crash_ok (n + 7) (by omega) hI.si (by omega) (hks.mono (fun e he => by simp [he])) (by have := hyB.lk; omega) hb2 e2
   rw [callT_of e12]
   have hI' : Inv N k K (crT t ks) o := ⟨⟨(hI.si.cr ks).len, (hI.si.cr ks).f, by have := (hI.si.cr ks).q; omega, (hI.si.cr ks).r⟩, hI.sk.cr ks, hI.j⟩
   have hP' : PW X (C b1 (acrow y) :: F) bw first count s1 s2 (crT t ks) o S12 := ⟨p1, p2, L1', L2', LJ, hb1', hb2', hJJ, h12.re (by intro p; simp only [List.countP_append, List.countP_cons]; omega)⟩
   obtain ⟨v, S14, e14, rfl, hP14⟩ : Ok (evF E orcL (n + 8) (.fn 21) [.ptr (some (.rw bw, 0))] S12) _ := opened_ok n (by omega) hI' (by omega) hN40 hk hP'
   rw [callB_of e14]
   exact ok_ret ⟨rfl, _, _, hI'.op hN40 hk first count, hP14.drop⟩
 refine ok_cond (fun c5 => ?_) (fun c5 => ?_)
 · -- the next failure
   obtain ⟨sa, sl, sc, qa, ql, qc, Ls1, Lq1, hs1, hq1, rfl⟩ := hb1
   obtain ⟨ta, tl, tc, ua, ul, uc, Ls2, Lq2, hs2, hq2, rfl⟩ := hb2
   have h2c : Hp X S2 (C b1 (acrow y) :: C bw (wrow first count s1 s2 p1 p2) :: C s1 [.sl sa sl sc, .sl qa ql qc, .int .i64 t.f] :: C s2 [.sl ta tl tc, .sl ua ul uc, .int .i64 t.f] :: (Ls1 ++ (Lq1 ++ (Ls2 ++ (Lq2 ++ (LJ ++ F)))))) := h2'.re (by intro p; simp only [List.countP_append, List.countP_cons, List.cons_append]; omega)
   refine ok_gO (ok_ldP h2c rfl (ok_ldI h2c rfl (ok_gO (ok_stn h2c (by simp) (d := [.sl sa sl sc, .sl qa ql qc, .int .i64 y.fl]) (by simp [splice]) (fun S20 h20 => ok_gO (ok_ldP h20 rfl (ok_ldI h20 rfl (ok_gO (ok_stn h20 (by simp) (d := [.sl ta tl tc, .sl ua ul uc, .int .i64 y.fl]) (by simp [splice]) (fun S25 h25 => ok_ret ⟨rfl, { t with f := y.fl }, o, ?_, ?_⟩))))))))))
   ·exact ⟨⟨hI.si.len, hfb, by show t.q.length ≤ _; have := hI.si.q; omega, hI.si.r⟩, hI.sk.up (by omega), fun J hJ => ⟨(hI.j J hJ).1.up (by omega) hk, (hI.j J hJ).2⟩⟩
   ·refine ⟨p1, p2, C s1 [.sl sa sl sc, .sl qa ql qc, .int .i64 y.fl] :: (Ls1 ++ Lq1), C s2 [.sl ta tl tc, .sl ua ul uc, .int .i64 y.fl] :: (Ls2 ++ Lq2), LJ, ⟨sa, sl, sc, qa, ql, qc, Ls1, Lq1, hs1, hq1, rfl⟩, ⟨ta, tl, tc, ua, ul, uc, Ls2, Lq2, hs2, hq2, rfl⟩, hJJ, ?_⟩
    exact (h25.re (M := C b1 (acrow y) :: (C bw (wrow first count s1 s2 p1 p2) :: ((C s1 [.sl sa sl sc, .sl qa ql qc, .int .i64 y.fl] :: (Ls1 ++ Lq1)) ++ ((C s2 [.sl ta tl tc, .sl ua ul uc, .int .i64 y.fl] :: (Ls2 ++ Lq2)) ++ (LJ ++ F))))) (by intro p; simp only [List.countP_append, List.countP_cons, List.cons_append, C]; omega)).drop1
 refine ok_cond (fun c6 => ?_) (fun c6 => ?_)
 ·obtain ⟨v, S14, e14, rfl, hP14⟩ : Ok (evF E orcL (n + 8) (.fn 21) [.ptr (some (.rw bw, 0))] S2) _ := opened_ok n (by omega) hI (by omega) hN40 hk hPW2
  rw [callB_of e14]
  exact ok_ret ⟨rfl, _, _, hI.op hN40 hk first count, hP14.drop⟩
 have hIu : Inv N (k + 40) (K + 40) t o := ⟨⟨hI.si.len, hI.si.f, by have := hI.si.q; omega, hI.si.r⟩, hI.sk.up (by omega), fun J hJ => ⟨(hI.j J hJ).1.up (by omega) hk, (hI.j J hJ).2⟩⟩
 refine ok_gO (ok_ldP h2' rfl ?_)
 cases o with
 | none =>
   obtain ⟨rfl, rfl, rfl⟩ := hJJ
   exact ok_true rfl (ok_ret ⟨rfl, _, _, hIu, hPW2.drop⟩)
 | some J =>
   obtain ⟨hJ, hJN⟩ := hI.j J rfl
   obtain ⟨j1, j2, Lj1, Lj2, rfl, rfl, hj1, hj2, rfl⟩ := hJJ
   refine ok_false rfl (ok_ldI h2' rfl (ok_cond (fun d1 => ?_) (fun d1 => ?_)))
   · -- a transaction is appended
     refine ok_ldL h2' rfl ?_
     obtain ⟨v, S32, e32, qs, qa, qc, Lr, Ld, rfl, hqp, hsr, hod, h32⟩ : Ok (evF E orcL (n + 8) (.fn 12) [.sl y.ta y.tx.length y.tc] S2) _ := own2_ok (n + 7) (by omega) (by omega) h2' (hyB.rt.mono (fun e he => by simp [he])) (hyB.vt.mono (fun e he => by simp [he])) hyB.lt
     rw [callL_of e32]
     have hqb : ∀ q ∈ qs, q.d.length ≤ 1048576 := fun q hq => by
      have h1 : q.pt ∈ pts y.tx := by rw [← hqp]; exact List.mem_map_of_mem hq
      obtain ⟨z, hz, hz2⟩ := List.mem_map.1 h1
      have := hyB.lt z hz
      have e : z.d = q.d := congrArg Pt.d hz2
      rw [← e]; exact this
     have hql : qs.length = y.tx.length := by have := congrArg List.length hqp; simpa using this
     have h32c : Hp X S32 (C b1 (acrow y) :: C bw (wrow first count s1 s2 (some (.rw j1, 0)) (some (.rw j2, 0))) :: (L1 ++ (Lj1 ++ (L2 ++ (Lj2 ++ (Lr ++ (Ld ++ F))))))) := h32.re (by intro p; simp only [List.countP_append, List.countP_cons]; omega)
     refine ok_gO (ok_ldP h32c rfl ?_)
     have h32a : Hp X S32 (L1 ++ (Lj1 ++ (C b1 (acrow y) :: C bw (wrow first count s1 s2 (some (.rw j1, 0)) (some (.rw j2, 0))) :: (L2 ++ (Lj2 ++ (Lr ++ (Ld ++ F))))))) := h32c.re (by intro p; simp only [List.countP_append, List.countP_cons]; omega)
     obtain ⟨v, S36, e36, L1', Lj1', rfl, hb1', hSI', hj1', h36⟩ : Ok (evF E orcL (n + 8) (.fn 11) [.ptr (some (.rw j1, 0)), .sl qa qs.length qc] S32) _ := append_ok (n + 4) (by omega) hJ (by omega) hJN hN40 hI.si h32a hj1 hb1 (hsr.rd (fun e he => by simp [he])) (hod.psv.mono (fun e he => by simp [he]))
     rw [callT_of e36]
     rw [hqp] at hb1' hSI' hj1' ⊢
     have h36c : Hp X S36 (C b1 (acrow y) :: C bw (wrow first count s1 s2 (some (.rw j1, 0)) (some (.rw j2, 0))) :: (L1' ++ (Lj1' ++ (L2 ++ (Lj2 ++ (Lr ++ (Ld ++ F))))))) := h36.re (by intro p; simp only [List.countP_append, List.countP_cons]; omega)
     refine ok_atI rfl (ok_atI rfl (ok_gO (ok_ldP h36c rfl (ok_ldL h36c rfl ?_))))
     have h36a : Hp X S36 (L2 ++ (Lj2 ++ (C b1 (acrow y) :: C bw (wrow first count s1 s2 (some (.rw j1, 0)) (some (.rw j2, 0))) :: (L1' ++ (Lj1' ++ (Lr ++ (Ld ++ F))))))) := h36c.re (by intro p; simp only [List.countP_append, List.countP_cons]; omega)
     obtain ⟨v, S43, e43, L2', Lj2', rfl, hb2', hj2', h43⟩ : Ok (evF E orcL (n + 8) (.fn 50) [.ptr (some (.rw j2, 0)), .sl y.ta y.tx.length y.tc] S36) _ := dappend_ok (n + 4) (by omega) hJ hk (by omega) hJN hN40 hI.si h36a hj2 hb2 (hyB.rt.mono (fun e he => by simp [he])) (hyB.vt.mono (fun e he => by simp [he]))
     rw [callT_of e43]
     refine ok_atI rfl (ok_atI rfl ?_)
     have h43' : Hp X S43 (Lr ++ (Ld ++ (C b1 (acrow y) :: C bw (wrow first count s1 s2 (some (.rw j1, 0)) (some (.rw j2, 0))) :: (L1' ++ (L2' ++ ((Lj1' ++ Lj2') ++ F)))))) := h43.re (by intro p; simp only [List.countP_append, List.countP_cons]; omega)
     refine xor_loop (n + 8) (by omega) (evF E orcL (n + 8)) (fun S' hh => ?_) (n + 8) 0 qs Ld S43 (by omega) (by omega) (by omega) hqb hsr hod h43'
     simp only [J23_jZAI, b23_jZAI]
     refine ok_true (by simp) ?_
     rw [callI_of (num_eq (n + 7) _ S')]
     refine ok_ret ⟨by simp, apT J t (pts y.tx), some (apJ J t (pts y.tx)), ⟨hSI', ap_SK hJ hk hI.sk _, fun J' hJ' => ?_⟩, some (.rw j1, 0), some (.rw j2, 0), L1', L2', Lj1' ++ Lj2', hb1', hb2', ⟨j1, j2, Lj1', Lj2', rfl, rfl, hj1', hj2', rfl⟩, hh.drop1⟩
     injection hJ' with hJ'
     subst hJ'
     refine ⟨hJ.ap hk, ?_⟩
     have e1 : (apJ J t (pts y.tx)).first = J.first := by unfold apJ; (repeat' split) <;> rfl
     have e2 : (apJ J t (pts y.tx)).count = J.count := by unfold apJ; (repeat' split) <;> rfl
     rw [e1, e2]; exact hJN
   refine ok_cond (fun d2 => ?_) (fun d2 => ?_)
   · -- synced
     refine ok_gO (ok_ldP h2' rfl ?_)
     have h2a : Hp X S2 (L1 ++ (Lj1 ++ (C b1 (acrow y) :: C bw (wrow first count s1 s2 (some (.rw j1, 0)) (some (.rw j2, 0))) :: (L2 ++ (Lj2 ++ F))))) := h2'.re (by intro p; simp only [List.countP_append, List.countP_cons]; omega)
     obtain ⟨v, S49, e49, rfl, L1', Lj1', hb1', hSI', hj1', h49⟩ : Ok (evF E orcL (n + 8) (.fn 14) [.ptr (some (.rw j1, 0))] S2) _ := sync_ok (n + 6) (by omega) hJ (by omega) hI.si h2a hj1 hb1
     rw [callI_of e49, callI_of (num_eq (n + 7) _ S49)]
     have h49c : Hp X S49 (C b1 (acrow y) :: C bw (wrow first count s1 s2 (some (.rw j1, 0)) (some (.rw j2, 0))) :: (L1' ++ (Lj1' ++ (L2 ++ (Lj2 ++ F))))) := h49.re (by intro p; simp only [List.countP_append, List.countP_cons]; omega)
     refine ok_gO (ok_ldP h49c rfl (ok_ldP h49c rfl (ok_true (by simp [AV.beq]) (ok_ldP h2' rfl (ok_true (by simp [AV.beq]) ?_)))))
     have h49a : Hp X S49 (L2 ++ (Lj2 ++ (C b1 (acrow y) :: C bw (wrow first count s1 s2 (some (.rw j1, 0)) (some (.rw j2, 0))) :: (L1' ++ (Lj1' ++ F))))) := h49c.re (by intro p; simp only [List.countP_append, List.countP_cons]; omega)
     obtain ⟨v, S57, e57, rfl, L2', Lj2', hb2', hj2', h57⟩ : Ok (evF E orcL (n + 8) (.fn 51) [.ptr (some (.rw j2, 0))] S49) _ := dsync_ok (n + 6) (by omega) hJ (by omega) hI.si h49a hj2 hb2
     rw [callI_of e57]
     refine ok_ret ⟨by simp, t.fl, some J.sync, ⟨⟨hSI'.len, hSI'.f, by have := hSI'.q; omega, hSI'.r⟩, (hI.sk.fl).up (by omega), fun J' hJ' => ?_⟩, some (.rw j1, 0), some (.rw j2, 0), L1', L2', Lj1' ++ Lj2', hb1', hb2', ⟨j1, j2, Lj1', Lj2', rfl, rfl, hj1', hj2', rfl⟩, ?_⟩
     ·injection hJ' with hJ'
      subst hJ'
      exact ⟨hJ.sync.up (by omega) hk, hJN⟩
     ·exact (h57.re (M := C b1 (acrow y) :: (C bw (wrow first count s1 s2 (some (.rw j1, 0)) (some (.rw j2, 0))) :: (L1' ++ (L2' ++ ((Lj1' ++ Lj2') ++ F))))) (by intro p; simp only [List.countP_append, List.countP_cons]; omega)).drop1
   refine ok_cond (fun d3 => ?_) (fun d3 => ok_ret ⟨rfl, _, _, hIu, hPW2.drop⟩)
   refine ok_gO (ok_ldP h2' rfl (ok_ldI h2' rfl ?_))
   have h2a : Hp X S2 (L1 ++ (Lj1 ++ (C b1 (acrow y) :: C bw (wrow first count s1 s2 (some (.rw j1, 0)) (some (.rw j2, 0))) :: (L2 ++ (Lj2 ++ F))))) := h2'.re (by intro p; simp only [List.countP_append, List.countP_cons]; omega)
   obtain ⟨v, S62, e62, rfl, L1', Lj1', hb1', hSI', hj1', h62⟩ : Ok (evF E orcL (n + 8) (.fn 16) [.ptr (some (.rw j1, 0)), .int .u64 y.lsn] S2) _ := trim_ok (n + 3) (by omega) hJ (by omega) hJN hI.si hyB.ll h2a hj1 hb1
   rw [callI_of e62, callI_of (num_eq (n + 7) _ S62)]
   have h62c : Hp X S62 (C b1 (acrow y) :: C bw (wrow first count s1 s2 (some (.rw j1, 0)) (some (.rw j2, 0))) :: (L1' ++ (Lj1' ++ (L2 ++ (Lj2 ++ F))))) := h62.re (by intro p; simp only [List.countP_append, List.countP_cons]; omega)
   refine ok_gO (ok_ldP h62c rfl (ok_ldP h62c rfl (ok_true (by simp [AV.beq]) (ok_ldP h2' rfl (ok_true (by simp [AV.beq]) (ok_ldI h62c rfl (ok_ldI h62c rfl (ok_true (by simp [AV.beq]) (ok_ldI h2' rfl (ok_true (by simp [AV.beq]) ?_))))))))))
   have h62a : Hp X S62 (L2 ++ (Lj2 ++ (C b1 (acrow y) :: C bw (wrow first count s1 s2 (some (.rw j1, 0)) (some (.rw j2, 0))) :: (L1' ++ (Lj1' ++ F))))) := h62c.re (by intro p; simp only [List.countP_append, List.countP_cons]; omega)
   obtain ⟨v, S73, e73, rfl, L2', Lj2', hb2', hj2', h73⟩ : Ok (evF E orcL (n + 8) (.fn 52) [.ptr (some (.rw j2, 0)), .int .u64 y.lsn] S62) _ := dtrim_ok (n + 3) (by omega) hJ (by omega) hJN hI.si hyB.ll h62a hj2 hb2
   rw [callI_of e73]
   refine ok_ret ⟨by simp, trT J t y.lsn, some (trJ J t y.lsn), ⟨⟨hSI'.len, hSI'.f, by have := hSI'.q; omega, hSI'.r⟩, tr_SK hJ hk hI.sk _, fun J' hJ' => ?_⟩, some (.rw j1, 0), some (.rw j2, 0), L1', L2', Lj1' ++ Lj2', hb1', hb2', ⟨j1, j2, Lj1', Lj2', rfl, rfl, hj1', hj2', rfl⟩, ?_⟩
   ·injection hJ' with hJ'
    subst hJ'
    refine ⟨hJ.tr hk, ?_⟩
    have e1 : (trJ J t y.lsn).first = J.first := by unfold trJ; (repeat' split) <;> rfl
    have e2 : (trJ J t y.lsn).count = J.count := by unfold trJ; (repeat' split) <;> rfl
    rw [e1, e2]; exact hJN
   ·exact (h73.re (M := C b1 (acrow y) :: (C bw (wrow first count s1 s2 (some (.rw j1, 0)) (some (.rw j2, 0))) :: (L1' ++ (L2' ++ ((Lj1' ++ Lj2') ++ F))))) (by intro p; simp only [List.countP_append, List.countP_cons]; omega)).drop1
end
end Go.Jn.P
namespace Go.Jn.P
open Go.Gr Go.Jn
def plrow (first count blocks : Int) (a : OP) (l : Nat) (c : Cap) : List AV := [.int .i64 first, .int .i64 count, .int .i64 blocks, .sl a l c]
section
variable {X : Cx} {S : AS} {L F G Lj Ls : List Ent} {b bj sb bw s1 s2 : Nat} {Q : AV → AS → Prop} {J : JM} {k N K : Nat} {t : St} {first count : Int}
theorem live3 (n : Nat) (S : AS) (K : Bool → AS → RV) (ht : Ok (K true S) Q) : Ok (callB (evF E orcL (n + 1)) 7 [] S K) Q := by
 rw [callB_of (S' := S) (v := true) (by simp [evF, orcL])]; exact ht
theorem plays_loop (n0 n : Nat) (hn : 1048600 < n) (hN40 : N ≤ 40) {acts : List Ac} (hacts : acts.length ≤ 30) (htx : ∀ y ∈ acts, y.tx.length ≤ 300) (hB : ∀ y ∈ acts, AcP X F y) {a1 : OP} {c1 : Cap} (hr1 : RdR X F a1 (acrows acts).flatten) :
 ∀ (m i : Nat) (t : St) (o : Option JM) (S : AS), i ≤ acts.length → acts.length - i < m → Inv N (50 + 40 * i) (40 + 40 * i) t o → PW X F bw first count s1 s2 t o S →
   Ok (J4_lZAa (evF E orcL (n + 9)) n0 m false a1 acts.length c1 (some (.rw bw, 0)) i S) TrueQ
 | 0, i, t, o, S, hi, hm, hI, h => by omega
 | m + 1, i, t, o, S, hi, hm, hI, h => by
   rw [J4_lZAa_succ]
   simp only [b4_lZAa]
   refine ok_cond (fun hc => ?_) (fun hc => ok_ret rfl)
   simp only [decide_eq_true_eq] at hc
   have hlt : i < acts.length := by omega
   obtain ⟨y, hy⟩ : ∃ y, acts[i]? = some y := ⟨_, List.getElem?_eq_getElem hlt⟩
   have hym := List.mem_of_getElem? hy
   obtain ⟨p, hp⟩ := ac_some hr1 hlt
   have hr2 : ∀ {M : List Ent} {cs : List AV}, RdR X M a1 cs → RdR X M (some p) cs := fun h => by rw [← hp]; exact h
   rw [show ixSl 5 a1 acts.length (i : Int) = ixSl 5 (some p) acts.length (i : Int) by rw [hp]]
   have hPW := h
   obtain ⟨p1, p2, L1, L2, LJ, hb1, hb2, hJJ, hh⟩ := h
   rw [ixSl_at rfl hlt, (hr2 (hr1.mono (fun e he => by simp [he]))).elem hh (acrows_all _) (acrows_at hy)]
   obtain ⟨v, S1, e1, rfl, t', o', hI', hP'⟩ : Ok (evF E orcL (n + 9) (.fn 23) [.ptr (some (.rw bw, 0)), .agg (acrow y)] S) _ := act_ok n hn hI (by omega) hN40 (by omega) (hB y hym) (htx y hym) hPW
   rw [callB_of e1]
   refine ok_false rfl ?_
   obtain ⟨v, S2, e2, rfl, hP2⟩ : Ok (evF E orcL (n + 9) (.fn 22) [.ptr (some (.rw bw, 0))] S1) _ := tells_ok (n + 6) (by omega) hI' (by omega) hN40 hP'
   rw [callB_of e2]
   refine ok_false rfl ?_
   rw [wn (x := (i : Int) + 1) (n := i + 1) (by omega) (by omega)]
   exact plays_loop n0 n hn hN40 hacts htx hB hr1 m (i + 1) t' o' S2 (by omega) (by omega) (by rw [show 50 + 40 * (i + 1) = 50 + 40 * i + 40 by omega, show 40 + 40 * (i + 1) = 40 + 40 * i + 40 by omega]; exact hI') hP2
theorem plays_run (n : Nat) (hn : 1048600 < n) (first count blocks : Int) {acts : List Ac} {a1 : OP} {c1 : Cap} (hl : acts.length ≤ 1048576) (hB : ∀ y ∈ acts, AcP X F y) (hr1 : RdR X F a1 (acrows acts).flatten) (h : Hp X S F) :
 Ok (ev (n + 10) (.fn 4) [.agg (plrow first count blocks a1 acts.length c1)] S) TrueQ := by
 rw [ev, F4 _ _ _ (oL rfl)]
 simp only [J4, b4_entry]
 refine ok_ifO rfl (ok_newA h (fun b1 S2 h2 => ?_))
 have h2' : Hp X S2 (C b1 (plrow first count blocks a1 acts.length c1) :: F) := h2
 refine ok_ldI h2' rfl (ok_ldI h2' rfl (ok_ldI h2' rfl (ok_ldL h2' rfl ?_)))
 have h3 := h2'.drop1
 obtain ⟨v, S7, e7, r, rfl, rfl, hr⟩ : Ok (evF E orcL (n + 9) (.fn 6) [.sl a1 acts.length c1] S2) _ := long_ok (n + 8) (by omega) (fun y hy => (hB y hy).b) hl hr1 h3
 rw [callB_of e7]
 refine ok_cond (fun _ => live3 (n + 8) _ _ (ok_ret rfl)) (fun hc => ok_cond (fun _ => live3 (n + 8) _ _ (ok_ret rfl)) (fun c5 => ok_cond (fun _ => live3 (n + 8) _ _ (ok_ret rfl)) (fun c6 => ?_)))
 obtain ⟨g1, g2⟩ := hr hc
 have htx : ∀ y ∈ acts, y.tx.length ≤ 300 := fun y hy => by
  have := wts_mem hy
  unfold wt at this
  omega
 simp only [decide_eq_false_iff_not, gt_iff_lt] at c5 c6
 obtain ⟨N, rfl⟩ : ∃ N : Nat, blocks = N := ⟨blocks.toNat, by omega⟩
 obtain ⟨v, S15, e15, s1, L1, rfl, hb1, h15⟩ : Ok (evF E orcL (n + 9) (.fn 18) [.int .i64 N] S7) _ := newStore_ok (n + 8) (by omega) (by omega) h3
 rw [callP_of e15]
 obtain ⟨v, S17, e17, s2, L2, rfl, hb2, h17⟩ : Ok (evF E orcL (n + 9) (.fn 18) [.int .i64 N] S15) _ := newStore_ok (n + 8) (by omega) (by omega) h15
 rw [callP_of e17]
 refine ok_newA h17 (fun bw S20 h20 => ?_)
 have h20' : Hp X S20 (L1 ++ (C bw (wrow first count s1 s2 none none) :: (L2 ++ F))) := h20.re (by intro p; simp only [List.countP_append, List.countP_cons, C, wrow]; omega)
 have hSI : SI ⟨List.replicate N (zz 384), [], -1⟩ N 0 := ⟨by simp, (show i64B (-1) from ⟨by decide, by decide⟩), Nat.le_refl _, fun e he => by cases he⟩
 have hSK : SK 10 ⟨List.replicate N (zz 384), [], -1⟩ := ⟨fun x hx => by
  rw [(List.mem_replicate.1 hx).2]; exact CK.zz, fun e he => by cases he⟩
 refine ok_ldP h20' rfl ?_
 obtain ⟨v, S22, e22, rfl, L1', hb1', h22⟩ : Ok (evF E orcL (n + 9) (.fn 19) [dev s1, .int .i64 first, .int .i64 count] S20) _ := formatP_ok (n + 5) (by omega) (by omega) rfl hSI hSK hb1 h20'
 rw [callI_of e22, callI_of (num_eq (n + 8) _ S22)]
 have h22' : Hp X S22 (L2 ++ (C bw (wrow first count s1 s2 none none) :: (L1' ++ F))) := h22.re (by intro p; simp only [List.countP_append, List.countP_cons]; omega)
 refine ok_ldP h22' rfl (ok_ldP h22' rfl (ok_true (by simp [AV.beq]) (ok_ldP h20' rfl (ok_true (by simp [AV.beq]) ?_))))
 obtain ⟨v, S29, e29, rfl, L2', hb2', h29⟩ : Ok (evF E orcL (n + 9) (.fn 20) [.ptr (some (.rw s2, 0)), .int .i64 first, .int .i64 count] S22) _ := formatD_ok (n + 5) (by omega) (by omega) rfl hSI hSK hb2 h22'
 rw [callI_of e29]
 refine ok_false (by simp) ?_
 have hfm : SI (fmG ⟨List.replicate N (zz 384), [], -1⟩ first count) N 0 ∧ SK 10 (fmG ⟨List.replicate N (zz 384), [], -1⟩ first count) := by
  unfold fmG
  split
  ·rename_i he
   unfold fitE at he
   split at he
   ·cases he
   ·rename_i hne
    simp only [List.length_replicate] at hne
    obtain ⟨w1, w2, w3⟩ := fmT_facts (N := N) (first := first.toNat) (count := count.toNat) rfl hSI hSK (by omega) (by omega)
    exact ⟨w1, w2⟩
  ·exact ⟨hSI, hSK⟩
 have hI0 : Inv N 10 0 (fmG ⟨List.replicate N (zz 384), [], -1⟩ first count) none := ⟨hfm.1, hfm.2, fun J hJ => by cases hJ⟩
 have hP0 : PW X F bw first count s1 s2 (fmG ⟨List.replicate N (zz 384), [], -1⟩ first count) none S29 := ⟨none, none, L1', L2', [], hb1', hb2', ⟨rfl, rfl, rfl⟩, h29.re (by intro p; simp only [List.countP_append, List.countP_cons, List.countP_nil]; omega)⟩
 obtain ⟨v, S31, e31, rfl, hP31⟩ : Ok (evF E orcL (n + 9) (.fn 21) [.ptr (some (.rw bw, 0))] S29) _ := opened_ok (n + 1) (by omega) hI0 (by omega) (by omega) (by omega) hP0
 rw [callB_of e31]
 refine ok_false rfl ?_
 have hI1 := hI0.op (by omega) (by omega) first count
 obtain ⟨v, S33, e33, rfl, hP33⟩ : Ok (evF E orcL (n + 9) (.fn 22) [.ptr (some (.rw bw, 0))] S31) _ := tells_ok (n + 6) (by omega) hI1 (by omega) (by omega) hP31
 rw [callB_of e33]
 refine ok_false rfl (live3 (n + 8) _ _ (ok_false rfl ?_))
 exact plays_loop (n + 9) n hn (by omega) g1 htx hB hr1 (n + 9) 0 _ _ S33 (by omega) (by omega) hI1 hP33
end
end Go.Jn.P
