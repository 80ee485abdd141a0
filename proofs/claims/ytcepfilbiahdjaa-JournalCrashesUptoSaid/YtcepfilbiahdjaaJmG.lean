/- The law JournalRoom as the evaluator runs it. -/
import Derived.Test.YtcepfilbiahdjaaJmC
import Derived.Test.YtcepfilbiahdjaaJmF
set_option linter.unusedVariables false
set_option linter.unusedSimpArgs false
set_option maxRecDepth 4000
namespace Go.Jn
open Go.Gr
section
variable {X : Cx} {S : AS} {L F G Lj Ls : List Ent} {b bj sb : Nat} {Q : AV → AS → Prop} {J : JM} {k : Nat} {t : St}
structure Ac where
 k : Int
 ta : OP
 tc : Cap
 tx : List Pr
 lsn : Int
 ka : OP
 kl : Nat
 kc : Cap
 fl : Int
def acrow (y : Ac) : List AV := [.int .i64 y.k, .sl y.ta y.tx.length y.tc, .int .u64 y.lsn, .sl y.ka y.kl y.kc, .int .i64 y.fl]
def acrows (l : List Ac) : List (List AV) := l.map acrow
@[simp] theorem acrows_len (l : List Ac) : (acrows l).length = l.length := by simp [acrows]
theorem acrows_all (l : List Ac) : ∀ x ∈ acrows l, x.length = 5 := fun x hx => by
 obtain ⟨s, _, rfl⟩ := List.mem_map.1 hx; rfl
theorem acrows_at {l : List Ac} {i : Nat} {e : Ac} (h : l[i]? = some e) : (acrows l)[i]? = some (acrow e) := by
 rw [acrows, List.getElem?_map, h]; rfl
structure AcB (X : Cx) (F : List Ent) (y : Ac) : Prop where
 rt : RdR X F y.ta (prows y.tx).flatten
 vt : PsV X F y.tx
 lt : ∀ p ∈ y.tx, p.d.length ≤ 1048576
 ll : u64B y.lsn
 lx : y.tx.length ≤ 1048576
 lk : y.kl ≤ 1048576
theorem af_L {acts : List Ac} {i j : Nat} {y : Ac} {p : Pos} {a : OP} {l : Nat} {c : Cap} {K : OP → Nat → Cap → RV} (h : RdR X L (some p) (acrows acts).flatten) (hp : Hp X S L) (hi : acts[i]? = some y) (hj : j < 5) (hv : (acrow y)[j]? = some (.sl a l c)) : ldL S p.1 (p.2 + i * 5 + j) K = K a l c := by
 rw [Nat.add_assoc]
 exact rd_ldL h hp (by rw [flat_get (acrows_all acts) (acrows_at hi) hj]; exact hv)
theorem ac_some {a : OP} {acts : List Ac} {i : Nat} (h : RdR X L a (acrows acts).flatten) (hi : i < acts.length) : ∃ p, a = some p :=
 h.some_of (by intro he; have := congrArg List.length he; rw [flat_len (acrows_all acts), acrows_len] at this; simp only [List.length_nil] at this; omega)
def wt (y : Ac) : Nat := y.kl + y.tx.length
def wts (l : List Ac) (i : Nat) : Nat := ((l.take i).map wt).sum
theorem wts_succ {l : List Ac} {i : Nat} {y : Ac} (h : l[i]? = some y) : wts l (i + 1) = wts l i + wt y := by
 rw [wts, List.take_add_one, h, List.map_append, List.sum_append]; simp [wts]
theorem wts_mem {l : List Ac} {y : Ac} (h : y ∈ l) : wt y ≤ wts l l.length := by
 rw [wts, List.take_length]
 induction l with
 | nil => cases h
 | cons x l ih =>
   simp only [List.map_cons, List.sum_cons]
   rcases List.mem_cons.1 h with rfl | h
   ·omega
   ·have := ih h; omega
def Bd (w B : Int) (j k : Nat) : Prop := 0 ≤ w ∧ w ≤ B + (j : Int) * (k : Int)
theorem long_in (n0 : Nat) (call : CallA) {nx : OP → Nat → Cap → Int → Int → Int → AS → RV} {a : OP} {c : Cap} {acts : List Ac} {i : Nat} {y : Ac} (hy : acts[i]? = some y) (hB : AcB X F y) (hr : RdR X F a (acrows acts).flatten) (h : Hp X S F) {w3 B0 : Int} (hB0 : 0 ≤ B0 ∧ B0 ≤ 1000000000000)
 (fin : ∀ w4 : Int, 0 ≤ w4 → w4 ≤ B0 + 104857600 → Ok (J6_jZAD call n0 nx a acts.length c w3 w4 i S) Q) :
 ∀ (m j : Nat) (w4 : Int), j ≤ 100 → 100 - j < m → Bd w4 B0 j 1048576 → Ok (J6_lZAT call n0 nx m a acts.length c w3 w4 i j S) Q
 | 0, j, w4, hj, hm, hbd => by omega
 | m + 1, j, w4, hj, hm, hbd => by
   obtain ⟨h0, h1⟩ := hbd
   have hlt : i < acts.length := (List.getElem?_eq_some_iff.1 hy).1
   obtain ⟨p, hp⟩ := ac_some hr hlt
   have hr2 : ∀ {M : List Ent} {cs : List AV}, RdR X M a cs → RdR X M (some p) cs := fun h => by rw [← hp]; exact h
   rw [J6_lZAT_succ]
   simp only [b6_lZAT]
   rw [show ixSl 5 a acts.length (i : Int) = ixSl 5 (some p) acts.length (i : Int) by rw [hp]]
   rw [ixSl_at rfl hlt, af_L (hr2 hr) h hy (j := 1) (by decide) rfl]
   refine ok_cond (fun hc => ok_cond (fun hc2 => ?_) (fun hc2 => fin w4 h0 (by omega))) (fun hc => fin w4 h0 (by omega))
   simp only [decide_eq_true_eq] at hc hc2
   rw [ixSl_at rfl hlt, af_L (hr2 hr) h hy (j := 1) (by decide) rfl]
   have hjt : j < y.tx.length := by omega
   obtain ⟨x, hx⟩ : ∃ x, y.tx[j]? = some x := ⟨_, List.getElem?_eq_getElem hjt⟩
   have hxl := hB.lt x (List.mem_of_getElem? hx)
   obtain ⟨q, hq⟩ := ps_some hB.rt hjt
   have hr3 : ∀ {M : List Ent} {cs : List AV}, RdR X M y.ta cs → RdR X M (some q) cs := fun h => by rw [← hq]; exact h
   rw [show ixSl 2 y.ta y.tx.length (j : Int) = ixSl 2 (some q) y.tx.length (j : Int) by rw [hq]]
   rw [ixSl_at rfl hjt, pf_L (hr3 hB.rt) h hx]
   rw [wz (x := w4 + ((x.d.length : Nat) : Int)) rfl (by omega) (by omega), wn (x := (j : Int) + 1) (n := j + 1) (by omega) (by omega)]
   exact long_in n0 call hy hB hr h hB0 fin m (j + 1) _ (by omega) (by omega) ⟨by omega, by omega⟩
theorem long_loop (n0 : Nat) (hn0 : 1000 < n0) (call : CallA) {a : OP} {c : Cap} {acts : List Ac} (hB : ∀ y ∈ acts, AcB X F y) (hl : acts.length ≤ 1048576) (hr : RdR X F a (acrows acts).flatten) (h : Hp X S F) :
 ∀ (m i : Nat) (w4 : Int), i ≤ acts.length → i ≤ 31 → 32 - i ≤ m → wts acts i ≤ i * 2097152 → Bd w4 0 i 104857600 → Ok (J6_lZAS call n0 m a acts.length c (wts acts i : Nat) w4 i S) fun v S' => ∃ r : Bool, v = .bool r ∧ S' = S ∧ (r = false → acts.length ≤ 30 ∧ wts acts acts.length ≤ 300)
 | 0, i, w4, hi, h61, hm, hw, hbd => by omega
 | m + 1, i, w4, hi, h61, hm, hw, hbd => by
   obtain ⟨h0, h1⟩ := hbd
   rw [J6_lZAS_succ]
   simp only [b6_lZAS]
   have fin : acts.length = i ∨ 31 ≤ i → Ok (J6_jZAF call n0 a acts.length c (wts acts i : Nat) w4 S) fun v S' => ∃ r : Bool, v = .bool r ∧ S' = S ∧ (r = false → acts.length ≤ 30 ∧ wts acts acts.length ≤ 300) := by
    intro hh
    simp only [J6_jZAF, b6_jZAF]
    refine ok_cond (fun hc => ok_ret ⟨true, rfl, rfl, by simp⟩) (fun hc => ok_cond (fun hc2 => ok_ret ⟨true, rfl, rfl, by simp⟩) (fun hc2 => ok_ret ⟨_, rfl, rfl, fun he => ?_⟩))
    simp only [gt_iff_lt, decide_eq_false_iff_not] at hc hc2
    rcases hh with rfl | hh
    ·omega
    ·omega
   refine ok_cond (fun hc => ok_cond (fun hc2 => ?_) (fun hc2 => ?_)) (fun hc => ?_)
   ·simp only [decide_eq_true_eq] at hc hc2
    have hlt : i < acts.length := by omega
    obtain ⟨y, hy⟩ : ∃ y, acts[i]? = some y := ⟨_, List.getElem?_eq_getElem hlt⟩
    have hb := hB y (List.mem_of_getElem? hy)
    have hbx := hb.lx
    have hbk := hb.lk
    obtain ⟨p, hp⟩ := ac_some hr hlt
    have hr2 : ∀ {M : List Ent} {cs : List AV}, RdR X M a cs → RdR X M (some p) cs := fun h => by rw [← hp]; exact h
    rw [show ixSl 5 a acts.length (i : Int) = ixSl 5 (some p) acts.length (i : Int) by rw [hp]]
    rw [ixSl_at rfl hlt, af_L (hr2 hr) h hy (j := 3) (by decide) rfl, ixSl_at rfl hlt, af_L (hr2 hr) h hy (j := 1) (by decide) rfl]
    have hs := wts_succ hy
    unfold wt at hs
    rw [wn (x := (wts acts i : Int) + (y.kl : Nat)) (n := wts acts i + y.kl) (by omega) (by omega), wn (x := ((wts acts i + y.kl : Nat) : Int) + (y.tx.length : Nat)) (n := wts acts (i + 1)) (by omega) (by omega)]
    refine long_in n0 call hy hb hr h (B0 := w4) (by omega) (fun w5 h5 h6 => ?_) n0 0 w4 (by omega) (by omega) ⟨h0, by omega⟩
    simp only [J6_jZAD, b6_jZAD]
    rw [wn (x := (i : Int) + 1) (n := i + 1) (by omega) (by omega)]
    exact long_loop n0 hn0 call hB hl hr h m (i + 1) w5 (by omega) (by omega) (by omega) (by omega) ⟨h5, by omega⟩
   ·simp only [decide_eq_false_iff_not] at hc2
    exact fin (.inr (by omega))
   ·simp only [decide_eq_false_iff_not] at hc
    exact fin (.inl (by omega))
theorem long_ok (n : Nat) (hn : 1000 < n) {a : OP} {c : Cap} {acts : List Ac} (hB : ∀ y ∈ acts, AcB X F y) (hl : acts.length ≤ 1048576) (hr : RdR X F a (acrows acts).flatten) (h : Hp X S F) :
 Ok (ev (n + 1) (.fn 6) [.sl a acts.length c] S) fun v S' => ∃ r : Bool, v = .bool r ∧ S' = S ∧ (r = false → acts.length ≤ 30 ∧ wts acts acts.length ≤ 300) := by
 rw [ev, F6 _ _ _ _ _ (oL rfl)]
 simp only [J6, b6_entry]
 exact long_loop n hn (evF E orcL n) hB hl hr h n 0 0 (by omega) (by omega) (by omega) (by simp [wts]) ⟨by omega, by omega⟩
theorem ok_atP {l : List AV} {i : Nat} {a : OP} {K : OP → RV} (h : l[i]? = some (.ptr a)) (ht : Ok (K a) Q) : Ok (atP l i K) Q := by simp only [atP, h, gP]; exact ht
end
end Go.Jn
namespace Go.Jn.P
open Go.Gr Go.Jn
structure Inv (N k K : Nat) (t : St) (o : Option JM) : Prop where
 si : SI t N K
 sk : SK k t
 j : ∀ J, o = some J → JI J k ∧ J.first + J.count ≤ N
section
variable {X : Cx} {S : AS} {L F G Lj Ls : List Ent} {b bj sb bw s1 s2 : Nat} {Q : AV → AS → Prop} {J : JM} {k N K : Nat} {t : St} {first count : Int}
theorem synced_eq (n : Nat) (h : Hp X S (Lj ++ F)) (hj : JB bj sb J Lj) : ev (n + 1) (.fn 28) [.ptr (some (.rw bj, 0))] S = some (.int .u64 J.sy, S) := by
 obtain ⟨a, c, Ll, hs, rfl⟩ := hj
 apply ok_eq
 rw [ev, F28 _ _ _ (oL rfl)]
 simp only [J28, b28_entry]
 exact ok_false rfl (ok_gO (ok_ldI h rfl (ok_ret ⟨rfl, rfl⟩)))
end
end Go.Jn.P
namespace Go.Jn.P
open Go.Gr Go.Jn
inductive OwnD : List Pr → List Ent → Prop
 | nil : OwnD [] []
 | snoc {qs : List Pr} {L : List Ent} {q : Pr} {Lq : List Ent} : OwnD qs L → SlG q.a q.d.length q.c 1 (bxs q.d) Lq → OwnD (qs ++ [q]) (Lq ++ L)
theorem OwnD.psv {X : Cx} {qs : List Pr} {L : List Ent} (h : OwnD qs L) : PsV X L qs := by
 induction h with
 | nil => intro p hp; cases hp
 | snoc h hs ih =>
   intro p hp
   rcases List.mem_append.1 hp with hp | hp
   ·exact (ih p hp).mono (fun e he => by simp [he])
   ·simp only [List.mem_singleton] at hp
    subst hp
    exact slG_vw hs (fun e he => by simp [he])
theorem OwnD.pick {qs : List Pr} {L : List Ent} (h : OwnD qs L) : ∀ {i : Nat} {q : Pr}, qs[i]? = some q → ∃ (Lq L' : List Ent), SlG q.a q.d.length q.c 1 (bxs q.d) Lq ∧ (∀ p : Ent → Bool, L.countP p = Lq.countP p + L'.countP p) ∧
 ∀ (d : List UInt8) (Lq' : List Ent), SlG q.a d.length q.c 1 (bxs d) Lq' → ∃ (L'' : List Ent), OwnD (qs.set i ⟨q.b, q.a, q.c, d⟩) L'' ∧ ∀ p : Ent → Bool, L''.countP p = Lq'.countP p + L'.countP p := by
 induction h with
 | nil => intro i q hi; simp at hi
 | snoc h hs ih =>
   rename_i qs L q0 Lq0
   intro i q hi
   have hlt : i < (qs ++ [q0]).length := (List.getElem?_eq_some_iff.1 hi).1
   rw [List.length_append, List.length_singleton] at hlt
   by_cases hiq : i < qs.length
   ·rw [List.getElem?_append_left hiq] at hi
    obtain ⟨Lq, L', h1, h2, h3⟩ := ih hi
    refine ⟨Lq, Lq0 ++ L', h1, fun p => by rw [List.countP_append, List.countP_append, h2]; omega, fun d Lq' hs' => ?_⟩
    obtain ⟨L'', h4, h5⟩ := h3 d Lq' hs'
    refine ⟨Lq0 ++ L'', ?_, fun p => by rw [List.countP_append, List.countP_append, h5]; omega⟩
    rw [List.set_append_left _ _ hiq]
    exact .snoc h4 hs
   ·have hie : i = qs.length := by omega
    subst hie
    rw [List.getElem?_append_right (Nat.le_refl _), Nat.sub_self] at hi
    simp only [List.getElem?_cons_zero, Option.some.injEq] at hi
    subst hi
    refine ⟨Lq0, L, hs, fun p => by rw [List.countP_append], fun d Lq' hs' => ⟨Lq' ++ L, ?_, fun p => by rw [List.countP_append]⟩⟩
    rw [List.set_append_right _ _ (Nat.le_refl _), Nat.sub_self]
    exact .snoc h hs'
section
variable {X : Cx} {S : AS} {L F G Lj Ls : List Ent} {b bj sb bw s1 s2 : Nat} {Q : AV → AS → Prop} {J : JM} {k N K : Nat} {t : St} {first count : Int}
abbrev OQ2 (X : Cx) (F : List Ent) (l : List Pt) : AV → AS → Prop := fun v S' => ∃ (qs : List Pr) (a : OP) (c : Cap) (Lr Ld : List Ent), v = .sl a qs.length c ∧ pts qs = l ∧ SlG a qs.length c 2 (prows qs) Lr ∧ OwnD qs Ld ∧ Hp X S' (Lr ++ (Ld ++ F))
theorem own2_loop (n0 : Nat) (call : CallA) {ps : List Pr} {pa : OP} {pc : Cap} (hps : ps.length ≤ 1000) (hr : RdR X F pa (prows ps).flatten) (hv : PsV X F ps) (hB : ∀ p ∈ ps, p.d.length ≤ 1048576) :
 ∀ (m i : Nat) (qs : List Pr) (a : OP) (c : Cap) (Lr Ld : List Ent) (S : AS), i ≤ ps.length → ps.length - i < m → pts qs = (pts ps).take i → SlG a qs.length c 2 (prows qs) Lr → OwnD qs Ld → Hp X S (Lr ++ (Ld ++ F)) →
   Ok (J12_lZAS call n0 m pa ps.length pc a qs.length c i S) (OQ2 X F (pts ps))
 | 0, i, qs, a, c, Lr, Ld, S, hi, hm, hP, hs, hd, h => by omega
 | m + 1, i, qs, a, c, Lr, Ld, S, hi, hm, hP, hs, hd, h => by
   have hql : qs.length = i := by have := congrArg List.length hP; rw [List.length_take, pts_len, pts_len] at this; omega
   rw [J12_lZAS_succ]
   simp only [b12_lZAS]
   refine ok_cond (fun hc => ?_) (fun hc => ?_)
   ·simp only [decide_eq_true_eq] at hc
    have hlt : i < ps.length := by omega
    obtain ⟨x, hx⟩ : ∃ x, ps[i]? = some x := ⟨_, List.getElem?_eq_getElem hlt⟩
    have hxm := List.mem_of_getElem? hx
    obtain ⟨q, hq⟩ := ps_some hr hlt
    have hr0 : RdR X F (some q) (prows ps).flatten := by rw [← hq]; exact hr
    refine ok_drawA h [6, 14] (by decide) (by simp) (fun b1 S1 h1 => ?_)
    have h1' : Hp X S1 ((b1 + 6, none) :: (b1 + 14, none) :: (Lr ++ (Ld ++ F))) := h1
    rw [show ixSl 2 pa ps.length (i : Int) = ixSl 2 (some q) ps.length (i : Int) by rw [hq]]
    rw [ixSl_at rfl hlt, pf_I (hr0.mono (fun e he => by simp [he])) h1' hx, ixSl_at rfl hlt, pf_L (hr0.mono (fun e he => by simp [he])) h1' hx]
    refine ok_layA (b := b1 + 6) h1' (fun S2 h2 => ?_)
    have h2' : Hp X S2 ([C (b1 + 6) []] ++ ((b1 + 14, none) :: (Lr ++ (Ld ++ F)))) := h2
    have hs0 : SlG (some (.rw (b1 + 6), 0)) 0 (.ex 0) 1 (bxs []) [C (b1 + 6) []] := (SlR.of (xs := []) (by simp) rfl (.inl rfl)).g
    refine ok_bytes h2' hs0 ((hv x hxm).mono (fun e he => by simp [he])) (by simp; exact hB x hxm) (fun a3 c3 L3 S3 hs3 h3 => ?_)
    rw [List.nil_append] at hs3 ⊢
    rw [pf_I (hr0.mono (fun e he => by simp [he])) h3 hx]
    refine ok_true (by simp [AV.beq]) (ok_layA (b := b1 + 14) h3 (fun S4 h4 => ?_))
    have h4' : Hp X S4 (Lr ++ (C (b1 + 14) (prow ⟨x.b, a3, c3, x.d⟩) :: ((L3 ++ Ld) ++ F))) := h4.re (by intro p; simp only [List.countP_append, List.countP_cons, C, prow]; omega)
    refine row_push (by omega) hs h4' (fun a5 c5 L5 S5 hs5 h5 => ?_)
    rw [wn (x := (i : Int) + 1) (n := i + 1) (by omega) (by omega)]
    refine own2_loop n0 call hps hr hv hB m (i + 1) _ a5 c5 L5 (L3 ++ Ld) S5 (by omega) (by omega) ?_ hs5 (.snoc hd hs3) h5
    rw [pts_append, hP, List.take_add_one, pts_at hx]; rfl
   ·simp only [decide_eq_false_iff_not] at hc
    rw [List.take_of_length_le (by simp; omega)] at hP
    exact ok_ret ⟨qs, a, c, Lr, Ld, rfl, hP, hs, hd, h⟩
theorem own2_ok (n : Nat) (hn : 2000 < n) {ps : List Pr} {pa : OP} {pc : Cap} (hps : ps.length ≤ 1000) (h : Hp X S F) (hr : RdR X F pa (prows ps).flatten) (hv : PsV X F ps) (hB : ∀ p ∈ ps, p.d.length ≤ 1048576) :
 Ok (ev (n + 1) (.fn 12) [.sl pa ps.length pc] S) (OQ2 X F (pts ps)) := by
 rw [ev, F12 _ _ _ _ _ (oL rfl)]
 simp only [J12, b12_entry]
 exact own2_loop n (evF E orcL n) hps hr hv hB n 0 [] none (.ex 0) [] [] S (by omega) (by omega) rfl (by exact (SlG.nil : SlG none 0 (.ex 0) 2 [] [])) .nil h
end
end Go.Jn.P
namespace Go.Jn.P
open Go.Gr Go.Jn
structure AcP (X : Cx) (F : List Ent) (y : Ac) : Prop where
 b : AcB X F y
 rk : ∃ ks : List Int, ks.length = y.kl ∧ RdR X F y.ka (ixs .i64 ks).flatten
 fb : i64B y.fl
section
variable {X : Cx} {S : AS} {L F G Lj Ls : List Ent} {b bj sb bw s1 s2 : Nat} {Q : AV → AS → Prop} {J : JM} {k N K : Nat} {t : St} {first count : Int}
end
end Go.Jn.P
namespace Go.Jn.P
open Go.Gr Go.Jn
structure Rec where
 tx : List Pt
 o : One
def entA (p lsn : Int) (r : Rec) (k : Nat) : Le := ⟨r.o.bo, r.o.se, p + (k : Nat), lsn, (k : Nat), r.o.need, win8 (encT r.tx) (k * 336) (min (encT r.tx).length ((k + 1) * 336) - k * 336)⟩
structure RecOk (r : Rec) : Prop where
 k : okT r.tx = true
 n : r.o.need = needI r.tx.length
 b : 1 ≤ r.o.bo ∧ r.o.bo ≤ 1000000
 s : 1 ≤ r.o.se ∧ r.o.se ≤ 1000000
theorem RecOk.sz {r : Rec} (h : RecOk r) : 1 ≤ r.o.need ∧ r.o.need ≤ 75 ∧ (r.o.need - 1) * 336 < (encT r.tx).length ∧ ((encT r.tx).length : Int) ≤ r.o.need * 336 := by
 have h1 := h.k
 simp only [okT, Bool.and_eq_true, decide_eq_true_eq, List.all_eq_true] at h1
 have hl : (encT r.tx).length = 4 + 388 * r.tx.length := by rw [encT, List.length_append, be_len, encPs_len h1.2]
 have hn := h.n
 unfold needI at hn
 rw [if_neg (by omega)] at hn
 omega
def vPs (V : Int → Option Le) (p : Int) (h : Le) : Nat → Nat → List UInt8 → Option (List UInt8)
 | 0, _, s => some s
 | r + 1, i, s => match V (p + (i : Nat)) with
   | some x => if x.pa = (i : Nat) ∧ x.bo = h.bo ∧ x.se = h.se ∧ x.ls = h.ls ∧ x.ps = h.ps then vPs V p h r (i + 1) (s ++ x.by_) else none
   | none => none
def vHd (bo : Int) (h : Le) (lsn ab as_ room : Int) : Bool := decide (h.pa = 0) && decide (h.ls = lsn) && decide (h.bo ≤ bo) && (decide (ab < h.bo) || (decide (h.bo = ab) && decide (as_ < h.se))) && decide (h.ps ≤ room)
def vTx (V : Int → Option Le) (bo p lsn ab as_ room : Int) : Option (List Pt × One) := match V p with
 | some h => if vHd bo h lsn ab as_ room = true then (match vPs V p h (h.ps.toNat - 1) 1 h.by_ with
  | some s => if goodT s = true then some (listT s, ⟨h.ps, h.bo, h.se⟩) else none
  | none => none) else none
 | none => none
theorem rdPs_v (t : St) (J : JM) (p : Int) (h : Le) : ∀ (r i : Nat) (s : List UInt8), rdPs t J p h r i s = vPs (enR t J) p h r i s
 | 0, i, s => rfl
 | r + 1, i, s => by
   simp only [rdPs, vPs]
   cases enR t J (p + (i : Nat)) with
   | none => rfl
   | some x => simp only [rdPs_v t J p h r (i + 1)]
theorem rdTx_v (t : St) (J : JM) (p lsn ab as_ room : Int) : rdTx t J p lsn ab as_ room = vTx (enR t J) J.sup.bo p lsn ab as_ room := by
 unfold rdTx vTx
 cases enR t J p with
 | none => rfl
 | some h => simp only [rdPs_v]; rfl
def lt2 (a b c d : Int) : Prop := a < c ∨ (c = a ∧ b < d)
theorem vHd_iff {bo : Int} {h : Le} {lsn ab as_ room : Int} : vHd bo h lsn ab as_ room = true ↔ h.pa = 0 ∧ h.ls = lsn ∧ h.bo ≤ bo ∧ lt2 ab as_ h.bo h.se ∧ h.ps ≤ room := by
 simp only [vHd, lt2, Bool.and_eq_true, Bool.or_eq_true, decide_eq_true_eq, and_assoc]
theorem vTx_iff {V : Int → Option Le} {bo p lsn ab as_ room : Int} {y : List Pt × One} : vTx V bo p lsn ab as_ room = some y ↔
 ∃ h s, V p = some h ∧ vHd bo h lsn ab as_ room = true ∧ vPs V p h (h.ps.toNat - 1) 1 h.by_ = some s ∧ goodT s = true ∧ y = (listT s, ⟨h.ps, h.bo, h.se⟩) := by
 unfold vTx
 cases hV : V p with
 | none => simp
 | some h =>
   constructor
   ·intro e
    simp only at e
    split at e
    ·rename_i h1
     cases h2 : vPs V p h (h.ps.toNat - 1) 1 h.by_ with
     | none => rw [h2] at e; cases e
     | some s =>
       rw [h2] at e
       simp only at e
       split at e
       ·rename_i h3
        injection e with e
        exact ⟨h, s, rfl, h1, h2, h3, e.symm⟩
       ·cases e
    ·cases e
   ·rintro ⟨h', s, e1, h1, h2, h3, rfl⟩
    injection e1 with e1
    subst e1
    simp only [h1, if_true, h2, h3]
theorem vPs_some {V : Int → Option Le} {p : Int} {h : Le} : ∀ {r i : Nat} {s s' : List UInt8}, vPs V p h r i s = some s' → ∀ j : Nat, i ≤ j → j < i + r → ∃ x, V (p + (j : Nat)) = some x ∧ x.bo = h.bo ∧ x.se = h.se
 | 0, i, s, s', e, j, h1, h2 => by omega
 | r + 1, i, s, s', e, j, h1, h2 => by
   simp only [vPs] at e
   cases hx : V (p + (i : Nat)) with
   | none => rw [hx] at e; cases e
   | some x =>
     rw [hx] at e
     simp only at e
     split at e
     ·rename_i hc
      by_cases hj : j = i
      ·subst hj; exact ⟨x, hx, hc.2.1, hc.2.2.1⟩
      ·exact vPs_some e j (by omega) (by omega)
     ·cases e
theorem vPs_congr {V W : Int → Option Le} {p : Int} {h : Le} : ∀ {r i : Nat} {s : List UInt8}, (∀ j : Nat, i ≤ j → j < i + r → V (p + (j : Nat)) = W (p + (j : Nat))) → vPs V p h r i s = vPs W p h r i s
 | 0, i, s, hh => rfl
 | r + 1, i, s, hh => by
   simp only [vPs, hh i (Nat.le_refl _) (by omega)]
   cases W (p + (i : Nat)) with
   | none => rfl
   | some x => simp only [vPs_congr (r := r) (i := i + 1) (fun j h1 h2 => hh j (by omega) (by omega))]
def Has (V : Int → Option Le) (p lsn : Int) (r : Rec) : Prop := ∀ k : Nat, (k : Int) < r.o.need → V (p + (k : Nat)) = some (entA p lsn r k)
theorem vPs_has {V : Int → Option Le} {p lsn : Int} {r : Rec} (hr : RecOk r) (hh : Has V p lsn r) : ∀ (n i : Nat), ((i + n : Nat) : Int) ≤ r.o.need → vPs V p (entA p lsn r 0) n i ((encT r.tx).take (i * 336)) = some ((encT r.tx).take ((i + n) * 336))
 | 0, i, hi => rfl
 | n + 1, i, hi => by
   obtain ⟨z1, z2, z3, z4⟩ := hr.sz
   simp only [vPs, hh i (by omega)]
   rw [if_pos ⟨rfl, rfl, rfl, rfl, rfl⟩]
   have e : (encT r.tx).take (i * 336) ++ (entA p lsn r i).by_ = (encT r.tx).take ((i + 1) * 336) := by
    show _ ++ win8 (encT r.tx) (i * 336) (min (encT r.tx).length ((i + 1) * 336) - i * 336) = _
    rw [win8, ← List.take_add, show i * 336 + (min (encT r.tx).length ((i + 1) * 336) - i * 336) = min (encT r.tx).length ((i + 1) * 336) by omega]
    by_cases hc : (encT r.tx).length ≤ (i + 1) * 336
    ·rw [Nat.min_eq_left hc, List.take_of_length_le (Nat.le_refl _), List.take_of_length_le hc]
    ·rw [Nat.min_eq_right (by omega)]
   rw [e, vPs_has hr hh n (i + 1) (by omega), show i + 1 + n = i + (n + 1) by omega]
theorem has_vTx {V : Int → Option Le} {bo p lsn ab as_ room : Int} {r : Rec} (hr : RecOk r) (hh : Has V p lsn r) (ha : lt2 ab as_ r.o.bo r.o.se) (hb : r.o.bo ≤ bo) (hm : r.o.need ≤ room) : vTx V bo p lsn ab as_ room = some (r.tx, r.o) := by
 obtain ⟨z1, z2, z3, z4⟩ := hr.sz
 obtain ⟨g1, g2⟩ := getT_putT hr.k
 have h0 := hh 0 (by omega)
 rw [show p + ((0 : Nat) : Int) = p by omega] at h0
 refine vTx_iff.2 ⟨entA p lsn r 0, encT r.tx, h0, vHd_iff.2 ⟨rfl, rfl, hb, ha, hm⟩, ?_, g1, by rw [g2]; rfl⟩
 have e0 : (entA p lsn r 0).by_ = (encT r.tx).take (1 * 336) := by
  show win8 (encT r.tx) (0 * 336) (min (encT r.tx).length ((0 + 1) * 336) - 0 * 336) = _
  rw [win8, Nat.zero_mul, List.drop_zero, Nat.sub_zero, Nat.zero_add]
  by_cases hc : (encT r.tx).length ≤ 1 * 336
  ·rw [Nat.min_eq_left hc, List.take_of_length_le (Nat.le_refl _), List.take_of_length_le hc]
  ·rw [Nat.min_eq_right (by omega)]
 have e1 : (entA p lsn r 0).ps.toNat - 1 = r.o.need.toNat - 1 := rfl
 rw [e1, e0, vPs_has hr hh (r.o.need.toNat - 1) 1 (by omega)]
 rw [List.take_of_length_le (by omega)]
theorem vTx_mix {V V0 N : Int → Option Le} {bo p lsn ab as_ room : Int} {y : List Pt × One} (hy : vTx V bo p lsn ab as_ room = some y) (hD : vTx V0 bo p lsn ab as_ room = none)
 (hmix : ∀ q, p ≤ q → V q = V0 q ∨ V q = none ∨ V q = N q) (hsep : ∀ q q' x z, V0 q = some x → N q' = some z → ¬ (x.bo = z.bo ∧ x.se = z.se)) :
 ∃ h, V p = some h ∧ N p = some h ∧ ∀ j : Nat, 1 ≤ j → j < h.ps.toNat → ∃ x, V (p + (j : Nat)) = some x ∧ N (p + (j : Nat)) = some x := by
 obtain ⟨h, s, e1, e2, e3, e4, rfl⟩ := vTx_iff.1 hy
 rcases hmix p (Int.le_refl _) with hp | hp | hp
 ·exfalso
  rw [e1] at hp
  have hc : vPs V p h (h.ps.toNat - 1) 1 h.by_ = vPs V0 p h (h.ps.toNat - 1) 1 h.by_ := vPs_congr fun j h1 h2 => by
   obtain ⟨x, hx, hb, hs⟩ := vPs_some e3 j h1 h2
   rcases hmix (p + (j : Nat)) (by omega) with hq | hq | hq
   ·exact hq
   ·rw [hx] at hq; cases hq
   ·rw [hx] at hq
    exact absurd ⟨hb.symm, hs.symm⟩ (hsep p (p + (j : Nat)) h x hp.symm hq.symm)
  have := vTx_iff.2 ⟨h, s, hp.symm, e2, by rw [← hc]; exact e3, e4, rfl⟩
  rw [hD] at this; cases this
 ·rw [e1] at hp; cases hp
 ·rw [e1] at hp
  refine ⟨h, e1, hp.symm, fun j h1 h2 => ?_⟩
  obtain ⟨x, hx, hb, hs⟩ := vPs_some e3 j h1 (by omega)
  rcases hmix (p + (j : Nat)) (by omega) with hq | hq | hq
  ·rw [hx] at hq
   exact absurd ⟨hb, hs⟩ (hsep (p + (j : Nat)) p x h hq.symm hp.symm)
  ·rw [hx] at hq; cases hq
  ·rw [hx] at hq; exact ⟨x, hx, hq.symm⟩
def nd (C : List Rec) : Int := sumN (C.map (·.o))
@[simp] theorem nd_nil : nd [] = 0 := rfl
theorem nd_cons (r : Rec) (C : List Rec) : nd (r :: C) = r.o.need + nd C := by rw [nd, List.map_cons, sumN_cons]; rfl
theorem nd_append (A B : List Rec) : nd (A ++ B) = nd A + nd B := by
 induction A with
 | nil => simp
 | cons r A ih => rw [List.cons_append, nd_cons, nd_cons, ih]; omega
theorem nd_nn {C : List Rec} (h : ∀ r ∈ C, RecOk r) : 0 ≤ nd C := by
 induction C with
 | nil => exact Int.le_refl _
 | cons r C ih =>
   have := (h r (by simp)).sz
   have := ih fun x hx => h x (List.mem_cons_of_mem r hx)
   rw [nd_cons]; omega
def newV (p lsn : Int) : List Rec → Int → Option Le
 | [], _ => none
 | r :: B, q => if p ≤ q ∧ q < p + r.o.need then some (entA p lsn r (q - p).toNat) else newV (p + r.o.need) (lsn + 1) B q
theorem newV_rg {B : List Rec} : ∀ {p lsn q : Int} {x : Le}, (∀ r ∈ B, RecOk r) → newV p lsn B q = some x → p ≤ q ∧ q < p + nd B ∧ x.po = q ∧ ∃ r ∈ B, x.bo = r.o.bo ∧ x.se = r.o.se := by
 induction B with
 | nil => intro p lsn q x hB h; cases h
 | cons r B ih =>
   intro p lsn q x hB h
   have hr := (hB r (by simp)).sz
   have hn := nd_nn fun z hz => hB z (List.mem_cons_of_mem r hz)
   rw [nd_cons]
   simp only [newV] at h
   split at h
   ·rename_i hc
    injection h with h
    subst h
    exact ⟨by omega, by omega, by show p + ((q - p).toNat : Nat) = q; omega, r, by simp, rfl, rfl⟩
   ·obtain ⟨h1, h2, h3, r', h4, h5⟩ := ih (fun z hz => hB z (List.mem_cons_of_mem r hz)) h
    exact ⟨by omega, by omega, h3, r', List.mem_cons_of_mem r h4, h5⟩
theorem newV_append {A B : List Rec} : ∀ {p lsn q : Int}, (∀ r ∈ A, RecOk r) → p + nd A ≤ q → newV p lsn (A ++ B) q = newV (p + nd A) (lsn + A.length) B q := by
 induction A with
 | nil => intro p lsn q hA h; simp
 | cons r A ih =>
   intro p lsn q hA h
   have hr := (hA r (by simp)).sz
   have hn := nd_nn fun z hz => hA z (List.mem_cons_of_mem r hz)
   rw [nd_cons] at h ⊢
   simp only [List.cons_append, newV]
   rw [if_neg (by omega), ih (fun z hz => hA z (List.mem_cons_of_mem r hz)) (by omega), List.length_cons]
   congr 1 <;> omega
theorem newV_lt {A B : List Rec} : ∀ {p lsn q : Int}, q < p + nd A → newV p lsn (A ++ B) q = newV p lsn A q ∨ q < p := by
 induction A with
 | nil => intro p lsn q h; right; simpa using h
 | cons r A ih =>
   intro p lsn q h
   rw [nd_cons] at h
   by_cases hq : q < p
   ·exact .inr hq
   left
   simp only [List.cons_append, newV]
   split
   ·rfl
   ·rename_i hc
    rcases ih (p := p + r.o.need) (lsn := lsn + 1) (q := q) (by omega) with h1 | h1
    ·exact h1
    ·omega
theorem newV_all {B : List Rec} : ∀ {p lsn q : Int}, p ≤ q → q < p + nd B → ∃ x, newV p lsn B q = some x := by
 induction B with
 | nil => intro p lsn q h1 h2; simp at h2; omega
 | cons r B ih =>
   intro p lsn q h1 h2
   rw [nd_cons] at h2
   simp only [newV]
   split
   ·exact ⟨_, rfl⟩
   ·exact ih (by omega) (by omega)
def Lives (V : Int → Option Le) (p lsn : Int) (A : List Rec) : Prop := ∀ q, p ≤ q → q < p + nd A → V q = newV p lsn A q
theorem Lives.cons {V : Int → Option Le} {p lsn : Int} {r : Rec} {A : List Rec} (hr : RecOk r) (hA : ∀ x ∈ A, RecOk x) : Lives V p lsn (r :: A) ↔ Has V p lsn r ∧ Lives V (p + r.o.need) (lsn + 1) A := by
 have hz := hr.sz
 have hn := nd_nn hA
 constructor
 ·intro h
  refine ⟨fun k hk => ?_, fun q h1 h2 => ?_⟩
  ·rw [h (p + (k : Nat)) (by omega) (by rw [nd_cons]; omega)]
   simp only [newV]
   rw [if_pos ⟨by omega, by omega⟩, show (p + (k : Nat) - p).toNat = k by omega]
  ·rw [h q (by omega) (by rw [nd_cons]; omega)]
   simp only [newV]
   rw [if_neg (by omega)]
 ·rintro ⟨h1, h2⟩ q hq1 hq2
  rw [nd_cons] at hq2
  simp only [newV]
  by_cases hc : p ≤ q ∧ q < p + r.o.need
  ·rw [if_pos hc]
   have := h1 (q - p).toNat (by omega)
   rw [show p + ((q - p).toNat : Nat) = q by omega] at this
   exact this
  ·rw [if_neg hc]
   exact h2 q (by omega) (by omega)
def Rising : Int → Int → List Rec → Prop
 | _, _, [] => True
 | a, b, r :: C => lt2 a b r.o.bo r.o.se ∧ Rising r.o.bo r.o.se C
def endB : Int → List Rec → Int
 | a, [] => a
 | _, r :: C => endB r.o.bo C
def endS : Int → List Rec → Int
 | b, [] => b
 | _, r :: C => endS r.o.se C
theorem endB_app (a : Int) (A B : List Rec) : endB a (A ++ B) = endB (endB a A) B := by
 induction A generalizing a with
 | nil => rfl
 | cons r A ih => exact ih _
theorem endS_app (a : Int) (A B : List Rec) : endS a (A ++ B) = endS (endS a A) B := by
 induction A generalizing a with
 | nil => rfl
 | cons r A ih => exact ih _
theorem Rising.app {a b : Int} {A B : List Rec} : Rising a b (A ++ B) ↔ Rising a b A ∧ Rising (endB a A) (endS b A) B := by
 induction A generalizing a b with
 | nil => simp [Rising, endB, endS]
 | cons r A ih => simp only [List.cons_append, Rising, endB, endS, ih, and_assoc]
theorem lt2.trans {a b c d e f : Int} (h : lt2 a b c d) (k : lt2 c d e f) : lt2 a b e f := by
 unfold lt2 at *; omega
theorem lt2.irr {a b : Int} : ¬ lt2 a b a b := by unfold lt2; omega
theorem Rising.last {a b : Int} {C : List Rec} (h : Rising a b C) : (C = [] ∨ lt2 a b (endB a C) (endS b C)) ∧ ∀ r ∈ C, r.o.bo = endB a C ∧ r.o.se = endS b C ∨ lt2 r.o.bo r.o.se (endB a C) (endS b C) := by
 induction C generalizing a b with
 | nil => exact ⟨.inl rfl, fun r hr => by cases hr⟩
 | cons r C ih =>
   obtain ⟨h1, h2⟩ := h
   obtain ⟨k1, k2⟩ := ih h2
   simp only [endB, endS]
   refine ⟨.inr ?_, fun x hx => ?_⟩
   ·rcases k1 with rfl | k1
    ·exact h1
    ·exact h1.trans k1
   ·rcases List.mem_cons.1 hx with rfl | hx
    ·rcases k1 with rfl | k1
     ·exact .inl ⟨rfl, rfl⟩
     ·exact .inr k1
    ·exact k2 x hx
def Stop (V : Int → Option Le) (p lsn ab as_ : Int) : Prop := ∀ room bo, vTx V bo p lsn ab as_ room = none
theorem stop_of {V : Int → Option Le} {p lsn ab as_ : Int} (h : ∀ x, V p = some x → ¬ lt2 ab as_ x.bo x.se) : Stop V p lsn ab as_ := fun room bo => by
 cases hv : vTx V bo p lsn ab as_ room with
 | none => rfl
 | some y =>
   obtain ⟨x, s, e1, e2, _⟩ := vTx_iff.1 hv
   exact absurd (vHd_iff.1 e2).2.2.2.1 (h x e1)
def Cont (V : Int → Option Le) : Int → Int → Int → Int → Nat → List Rec → Prop
 | p, lsn, ab, as_, _, [] => Stop V p lsn ab as_
 | p, lsn, ab, as_, u, r :: C => (Has V p lsn r ∧ Cont V (p + r.o.need) (lsn + 1) r.o.bo r.o.se (u - 1) C) ∨ (u = 0 ∧ Stop V p lsn ab as_)
theorem cont_new {V V0 : Int → Option Le} : ∀ {B : List Rec} {p lsn ab as_ : Int}, (∀ r ∈ B, RecOk r) → Rising ab as_ B →
 (∀ q, p ≤ q → V q = V0 q ∨ V q = none ∨ V q = newV p lsn B q) → (∀ q x, V0 q = some x → ∀ r ∈ B, lt2 x.bo x.se r.o.bo r.o.se) → Stop V0 p lsn ab as_ → Cont V p lsn ab as_ 0 B := by
 intro B
 induction B with
 | nil =>
   intro p lsn ab as_ hB hR hmix hlt hD room bo
   cases hv : vTx V bo p lsn ab as_ room with
   | none => rfl
   | some y =>
     obtain ⟨h, h1, h2, _⟩ := vTx_mix (N := newV p lsn []) hv (hD room bo) hmix (fun q q' x z hx hz => by cases hz)
     cases h2
 | cons r B ih =>
   intro p lsn ab as_ hB hR hmix hlt hD
   have hz := (hB r (by simp)).sz
   have hsep : ∀ q q' x z, V0 q = some x → newV p lsn (r :: B) q' = some z → ¬ (x.bo = z.bo ∧ x.se = z.se) := fun q q' x z hx hz' he => by
    obtain ⟨_, _, _, r', hr', e1, e2⟩ := newV_rg hB hz'
    have := hlt q x hx r' hr'
    rw [← e1, ← e2, he.1, he.2] at this
    exact lt2.irr this
   by_cases hh : Has V p lsn r
   ·refine .inl ⟨hh, ih (fun x hx => hB x (List.mem_cons_of_mem r hx)) hR.2 (fun q hq => ?_) (fun q x hx r' hr' => hlt q x hx r' (List.mem_cons_of_mem r hr')) ?_⟩
    ·have := hmix q (by omega)
     simp only [newV] at this
     rwa [if_neg (by omega)] at this
    ·exact stop_of fun x hx ha => lt2.irr (ha.trans (hlt _ x hx r (by simp)))
   ·refine .inr ⟨rfl, fun room bo => ?_⟩
    cases hv : vTx V bo p lsn ab as_ room with
    | none => rfl
    | some y =>
      exfalso
      obtain ⟨h, h1, h2, h3⟩ := vTx_mix hv (hD room bo) hmix hsep
      have e0 : newV p lsn (r :: B) p = some (entA p lsn r 0) := by
       simp only [newV]; rw [if_pos (by omega), show (p - p).toNat = 0 by omega]
      rw [e0] at h2
      injection h2 with h2
      subst h2
      refine hh fun k hk => ?_
      by_cases hk0 : k = 0
      ·subst hk0; rw [show p + ((0 : Nat) : Int) = p by omega]; exact h1
      ·obtain ⟨x, hx, hn⟩ := h3 k (by omega) (by show k < r.o.need.toNat; omega)
       simp only [newV] at hn
       rw [if_pos (by omega), show (p + (k : Nat) - p).toNat = k by omega] at hn
       rw [hx, ← hn]
theorem cont_app {V : Int → Option Le} : ∀ {A B : List Rec} {p lsn ab as_ : Int}, (∀ r ∈ A, RecOk r) → Lives V p lsn A → Cont V (p + nd A) (lsn + A.length) (endB ab A) (endS as_ A) 0 B → Cont V p lsn ab as_ A.length (A ++ B) := by
 intro A
 induction A with
 | nil =>
   intro B p lsn ab as_ hA hL h
   have h : Cont V (p + nd []) (lsn + ((0 : Nat) : Int)) ab as_ 0 B := h
   simpa using h
 | cons r A ih =>
   intro B p lsn ab as_ hA hL h
   obtain ⟨h1, h2⟩ := (Lives.cons (hA r (by simp)) (fun x hx => hA x (List.mem_cons_of_mem r hx))).1 hL
   refine .inl ⟨h1, ?_⟩
   have e : (r :: A).length - 1 = A.length := rfl
   rw [e]
   refine ih (fun x hx => hA x (List.mem_cons_of_mem r hx)) h2 ?_
   rw [nd_cons, List.length_cons] at h
   rw [show p + r.o.need + nd A = p + (r.o.need + nd A) by omega, show lsn + 1 + (A.length : Int) = lsn + ((A.length + 1 : Nat) : Int) by omega]
   exact h
theorem rd_chain {t : St} {V : Int → Option Le} {count : Nat} : ∀ (C : List Rec) (f u : Nat) (J : JM) (p lsn ab as_ : Int) (out : List (List Pt)), enR t J = V → J.count = count → C.length < f → J.sup.ls + (J.l.length : Nat) + 1 = lsn → sumN J.l + nd C ≤ (count : Int) - 2 → Rising ab as_ C → (∀ r ∈ C, RecOk r ∧ r.o.bo ≤ J.sup.bo) → Cont V p lsn ab as_ u C →
 ∃ m : Nat, m ≤ C.length ∧ u ≤ m + (u - C.length) ∧ rdAll t f J p ab as_ out = ({ J with l := J.l ++ (C.take m).map (·.o) }, out ++ (C.take m).map (·.tx)) ∧ Lives V p lsn (C.take m) ∧ Stop V (p + nd (C.take m)) (lsn + (m : Nat)) (endB ab (C.take m)) (endS as_ (C.take m)) := by
 intro C
 induction C with
 | nil =>
   intro f u J p lsn ab as_ out hV hc hf hl hs hR hB hC
   have hC : Stop V p lsn ab as_ := hC
   obtain ⟨f, rfl⟩ : ∃ g, f = g + 1 := ⟨f - 1, by simp at hf; omega⟩
   refine ⟨0, Nat.le_refl _, by simp, ?_, ?_, ?_⟩
   ·rw [rdAll_succ, rdTx_v, hV, hl, hC]
    simp
   ·intro q h1 h2; simp at h2; omega
   ·simpa [endB, endS] using hC
 | cons r C ih =>
   intro f u J p lsn ab as_ out hV hc hf hl hs hR hB hC
   obtain ⟨f, rfl⟩ : ∃ g, f = g + 1 := ⟨f - 1, by simp at hf; omega⟩
   obtain ⟨hr, hb⟩ := hB r (by simp)
   rw [nd_cons] at hs
   have hn := nd_nn fun x hx => (hB x (List.mem_cons_of_mem r hx)).1
   rcases hC with ⟨hh, hC⟩ | ⟨rfl, hC⟩
   ·obtain ⟨m, h1, h2, h3, h4, h5⟩ := ih f (u - 1) { J with l := J.l ++ [r.o] } (p + r.o.need) (lsn + 1) r.o.bo r.o.se (out ++ [r.tx]) hV hc (by simp at hf; omega) (by simp only [List.length_append, List.length_singleton]; omega) (by rw [sumN_snoc]; omega) hR.2 (fun x hx => hB x (List.mem_cons_of_mem r hx)) hC
    refine ⟨m + 1, by simp; omega, by simp; omega, ?_, ?_, ?_⟩
    ·rw [rdAll_succ, rdTx_v, hV, hl, has_vTx hr hh hR.1 hb (by rw [hc]; omega)]
     show rdAll t f { J with l := J.l ++ [r.o] } (p + r.o.need) r.o.bo r.o.se (out ++ [r.tx]) = _
     rw [h3]
     simp only [List.take_succ_cons, List.map_cons, List.append_assoc, List.singleton_append]
    ·rw [List.take_succ_cons]
     exact (Lives.cons hr (fun x hx => (hB x (List.mem_cons_of_mem r (List.mem_of_mem_take hx))).1)).2 ⟨hh, h4⟩
    ·rw [List.take_succ_cons, nd_cons]
     rw [show p + (r.o.need + nd (C.take m)) = p + r.o.need + nd (C.take m) by omega, show lsn + ((m + 1 : Nat) : Int) = lsn + 1 + (m : Nat) by omega]
     exact h5
   ·refine ⟨0, Nat.zero_le _, by simp, ?_, ?_, ?_⟩
    ·rw [rdAll_succ, rdTx_v, hV, hl, hC]
     simp
    ·intro q h1 h2; simp at h2; omega
    ·simpa [endB, endS] using hC
end Go.Jn.P
namespace Go.Jn.P
open Go.Gr Go.Jn
def vw (s : List (List UInt8)) (J : JM) (q : Int) : Option Le := enR ⟨s, [], 0⟩ J q
theorem enR_vw {t : St} (J : JM) (h : t.q = []) : enR t J = vw t.s J := by
 funext q
 simp only [vw, enR, St.rd, h, List.length_nil, lkQ]
theorem vw_def (s : List (List UInt8)) (J : JM) (q : Int) : vw s J q = if goodE ((s[blkP J q]?).getD []) = true ∧ (decE ((s[blkP J q]?).getD [])).po = q then some (decE ((s[blkP J q]?).getD [])) else none := rfl
theorem vw_get {s s' : List (List UInt8)} {J : JM} {q : Int} (h : s'[blkP J q]? = s[blkP J q]?) : vw s' J q = vw s J q := by rw [vw_def, vw_def, h]
theorem vw_enc {s : List (List UInt8)} {J : JM} {q : Int} {x : Le} (h : s[blkP J q]? = some (encE x)) (ho : okE x = true) (hB : LeB x) : vw s J q = if x.po = q then some x else none := by
 obtain ⟨h1, h2⟩ := good_enc ho hB
 rw [vw_def, h, Option.getD_some, h1, h2]
 simp
theorem vw_neg {s : List (List UInt8)} {J : JM} {q : Int} {x : Le} (h : vw s J q = some x) : 0 ≤ q := by
 rw [vw_def] at h
 split at h
 ·rename_i hc
  have := (decB ((s[blkP J q]?).getD [])).po.1
  omega
 ·cases h
theorem vw_J (s : List (List UInt8)) {J J' : JM} (h1 : J'.first = J.first) (h2 : J'.count = J.count) : vw s J' = vw s J := by
 funext q
 have : blkP J' q = blkP J q := by unfold blkP; rw [h1, h2]
 rw [vw_def, vw_def, this]
theorem entA_ok {p lsn : Int} {r : Rec} {k : Nat} (hr : RecOk r) (hp : 0 ≤ p ∧ p ≤ 1000000000) (hl : 1 ≤ lsn ∧ lsn ≤ 1000000000) (hk : (k : Int) < r.o.need) : okE (entA p lsn r k) = true ∧ LeB (entA p lsn r k) := by
 obtain ⟨z1, z2, z3, z4⟩ := hr.sz
 have hb := hr.b
 have hs := hr.s
 have hlen : (entA p lsn r k).by_.length = min (encT r.tx).length ((k + 1) * 336) - k * 336 := by
  show (win8 _ _ _).length = _
  rw [win8_len]; omega
 have e1 : (entA p lsn r k).bo = r.o.bo := rfl
 have e2 : (entA p lsn r k).se = r.o.se := rfl
 have e3 : (entA p lsn r k).po = p + (k : Nat) := rfl
 have e4 : (entA p lsn r k).ls = lsn := rfl
 have e5 : (entA p lsn r k).pa = (k : Nat) := rfl
 have e6 : (entA p lsn r k).ps = r.o.need := rfl
 refine ⟨(okE_iff _).2 ⟨?_, ?_, ?_, ?_, ?_, ?_, ?_, ?_, ?_, ?_, ?_, ?_, ?_⟩, ⟨⟨?_, ?_⟩, ⟨?_, ?_⟩, ⟨?_, ?_⟩, ⟨?_, ?_⟩, ⟨?_, ?_⟩, ⟨?_, ?_⟩⟩⟩ <;> first | rw [hlen] | rw [e1] | rw [e2] | rw [e3] | rw [e4] | rw [e5, e6] | rw [e5] | rw [e6]
 all_goals omega
theorem newV_ok {B : List Rec} : ∀ {p lsn y : Int} {x : Le}, (∀ r ∈ B, RecOk r) → 0 ≤ p → p + nd B ≤ 1000000000 → 1 ≤ lsn → lsn + B.length ≤ 1000000000 → newV p lsn B y = some x → okE x = true ∧ LeB x := by
 induction B with
 | nil => intro p lsn y x hB h1 h2 h3 h4 h; cases h
 | cons r B ih =>
   intro p lsn y x hB h1 h2 h3 h4 h
   have hr := hB r (by simp)
   have hz := hr.sz
   have hn := nd_nn fun z hz => hB z (List.mem_cons_of_mem r hz)
   rw [nd_cons] at h2
   rw [List.length_cons] at h4
   simp only [newV] at h
   split at h
   ·injection h with h
    subst h
    exact entA_ok hr ⟨h1, by omega⟩ ⟨h3, by omega⟩ (by omega)
   ·exact ih (fun z hz => hB z (List.mem_cons_of_mem r hz)) (by omega) (by omega) (by omega) (by omega) h
theorem ring {J : JM} {y y' : Int} (h6 : 6 ≤ J.count) (h0 : 0 ≤ y) (h1 : y < y') (h2 : y' < y + ((J.count : Int) - 2)) : blkP J y ≠ blkP J y' := by
 intro he
 obtain ⟨_, a1⟩ := blkP_lt (J := J) h6 h0
 obtain ⟨_, a2⟩ := blkP_lt (J := J) (p := y') h6 (by omega)
 rw [he, a2] at a1
 have e : y' % ((J.count : Int) - 2) = y % ((J.count : Int) - 2) := by omega
 have e2 := Int.emod_emod_of_dvd
 have e3 := (Int.emod_eq_emod_iff_emod_sub_eq_zero).1 e
 rw [Int.emod_eq_of_lt (by omega) (by omega)] at e3
 omega
theorem blkP_ge {J : JM} {y : Int} (h6 : 6 ≤ J.count) (h0 : 0 ≤ y) : J.first + 2 ≤ blkP J y := by
 obtain ⟨_, a⟩ := blkP_lt (J := J) h6 h0
 have := Int.emod_nonneg y (show (J.count : Int) - 2 ≠ 0 by omega)
 omega
theorem crS_get {ks : List Int} {q : List (Int × List UInt8)} {s : List (List UInt8)} {b : Nat} (hb : b < s.length) : ∀ i, (crS ks q s i)[b]? = s[b]? ∨ ∃ e ∈ q, e.1.toNat = b ∧ (crS ks q s i)[b]? = some e.2
 | 0 => .inl rfl
 | i + 1 => by
   simp only [crS]
   cases he : q[i]? with
   | none => exact crS_get hb i
   | some e =>
     simp only
     split
     ·by_cases hc : e.1.toNat = b
      ·refine .inr ⟨e, List.mem_of_getElem? he, hc, ?_⟩
       rw [hc, List.getElem?_set_self (by rw [crS_len]; exact hb)]
      ·rw [List.getElem?_set_ne hc]
       exact crS_get hb i
     ·exact crS_get hb i
theorem flS_none {b : Nat} : ∀ {q : List (Int × List UInt8)} {s : List (List UInt8)}, (∀ e ∈ q, e.1.toNat ≠ b) → (flS q s)[b]? = s[b]?
 | [], s, h => rfl
 | e :: q, s, h => by
   rw [flS, flS_none fun x hx => h x (by simp [hx]), List.getElem?_set_ne (h e (by simp))]
theorem flS_some {b : Nat} : ∀ {q : List (Int × List UInt8)} {s : List (List UInt8)}, b < s.length → (∃ e ∈ q, e.1.toNat = b) → ∃ e ∈ q, e.1.toNat = b ∧ (flS q s)[b]? = some e.2
 | [], s, hb, ⟨e, he, _⟩ => by cases he
 | e :: q, s, hb, h => by
   by_cases hq : ∃ x ∈ q, x.1.toNat = b
   ·obtain ⟨x, h1, h2, h3⟩ := flS_some (q := q) (s := s.set e.1.toNat e.2) (by simpa using hb) hq
    exact ⟨x, by simp [h1], h2, h3⟩
   ·obtain ⟨x, hx, hxb⟩ := h
    rcases List.mem_cons.1 hx with rfl | hx
    ·refine ⟨x, by simp, hxb, ?_⟩
     rw [flS, flS_none fun z hz hzb => hq ⟨z, hz, hzb⟩, hxb, List.getElem?_set_self hb]
    ·exact absurd ⟨x, hx, hxb⟩ hq
structure QOf (J : JM) (p lsn : Int) (B : List Rec) (q : List (Int × List UInt8)) : Prop where
 l : ∀ e ∈ q, ∃ y x, newV p lsn B y = some x ∧ e = ((blkP J y : Int), encE x)
 r : ∀ y x, newV p lsn B y = some x → ((blkP J y : Int), encE x) ∈ q
def Gt (q : List (Int × List UInt8)) (s s' : List (List UInt8)) : Prop := ∀ b, b < s.length → s'[b]? = s[b]? ∨ ∃ e ∈ q, e.1.toNat = b ∧ s'[b]? = some e.2
theorem gt_cr (ks : List Int) (q : List (Int × List UInt8)) (s : List (List UInt8)) (i : Nat) : Gt q s (crS ks q s i) := fun b hb => crS_get hb i
theorem gt_fl (q : List (Int × List UInt8)) (s : List (List UInt8)) : Gt q s (flS q s) := fun b hb => by
 by_cases h : ∃ e ∈ q, e.1.toNat = b
 ·exact .inr (flS_some hb h)
 ·exact .inl (flS_none fun e he hb => h ⟨e, he, hb⟩)
section
variable {J : JM} {p lsn : Int} {B : List Rec} {q : List (Int × List UInt8)} {s s' : List (List UInt8)}
structure Sm (J : JM) (p lsn : Int) (B : List Rec) (n : Nat) : Prop where
 c6 : 6 ≤ J.count
 n : J.first + J.count ≤ n
 p0 : 0 ≤ p
 p1 : p + nd B ≤ 1000000000
 l0 : 1 ≤ lsn
 l1 : lsn + B.length ≤ 1000000000
 b : ∀ r ∈ B, RecOk r
theorem view3 (hm : Sm J p lsn B s.length) (hq : QOf J p lsn B q) (hg : Gt q s s') {y : Int} (hy : 0 ≤ y) : vw s' J y = vw s J y ∨ vw s' J y = none ∨ vw s' J y = newV p lsn B y := by
 obtain ⟨b1, _⟩ := blkP_lt (J := J) hm.c6 hy
 rcases hg (blkP J y) (by have := hm.n; omega) with h | ⟨e, he, hb, h⟩
 ·exact .inl (vw_get h)
 ·obtain ⟨y', x, hx, rfl⟩ := hq.l e he
  obtain ⟨o1, o2⟩ := newV_ok hm.b hm.p0 hm.p1 hm.l0 hm.l1 hx
  obtain ⟨_, _, r3, _⟩ := newV_rg hm.b hx
  rw [vw_enc h o1 o2]
  by_cases hc : x.po = y
  ·rw [if_pos hc]
   have : y' = y := by omega
   subst this
   exact .inr (.inr hx.symm)
  ·rw [if_neg hc]; exact .inr (.inl rfl)
theorem viewA (hm : Sm J p lsn B s.length) (hq : QOf J p lsn B q) (hg : Gt q s s') {y : Int} (hy : 0 ≤ y) (h1 : y < p) (h2 : p + nd B ≤ y + ((J.count : Int) - 2)) : vw s' J y = vw s J y := by
 obtain ⟨b1, _⟩ := blkP_lt (J := J) hm.c6 hy
 rcases hg (blkP J y) (by have := hm.n; omega) with h | ⟨e, he, hb, h⟩
 ·exact vw_get h
 ·exfalso
  obtain ⟨y', x, hx, rfl⟩ := hq.l e he
  obtain ⟨r1, r2, _⟩ := newV_rg hm.b hx
  exact ring (J := J) hm.c6 hy (y' := y') (by omega) (by omega) (by simpa using hb.symm)
theorem viewB (hm : Sm J p lsn B s.length) (hq : QOf J p lsn B q) (hw : nd B ≤ (J.count : Int) - 2) : Lives (vw (flS q s) J) p lsn B := by
 intro y h1 h2
 obtain ⟨x, hx⟩ := newV_all h1 h2
 obtain ⟨b1, _⟩ := blkP_lt (J := J) (p := y) hm.c6 (by have := hm.p0; omega)
 obtain ⟨e, he, hb, h⟩ := flS_some (q := q) (s := s) (b := blkP J y) (by have := hm.n; omega) ⟨_, hq.r y x hx, by simp⟩
 obtain ⟨y', x', hx', rfl⟩ := hq.l e he
 obtain ⟨r1, r2, r3, _⟩ := newV_rg hm.b hx'
 have hp0 := hm.p0
 have : y' = y := by
  have hb : blkP J y' = blkP J y := by simpa using hb
  rcases Int.lt_trichotomy y y' with hlt | rfl | hlt
  ·exact absurd hb.symm (ring hm.c6 (by omega) hlt (by omega))
  ·rfl
  ·exact absurd hb (ring hm.c6 (by omega) hlt (by omega))
 subst this
 obtain ⟨o1, o2⟩ := newV_ok hm.b hm.p0 hm.p1 hm.l0 hm.l1 hx'
 rw [vw_enc h o1 o2, if_pos r3, hx']
end
def slotN (J : JM) : Nat := if J.sup.g % 2 = 0 then J.first + 1 else J.first
def othN (J : JM) : Nat := if J.sup.g % 2 = 0 then J.first else J.first + 1
structure SupOk (s : List (List UInt8)) (J : JM) : Prop where
 at_ : s[slotN J]? = some (encS J.sup)
 ot : ∀ d, s[othN J]? = some d → goodS d = true → (decS d).g < J.sup.g
theorem supOk_enc {J : JM} {k : Nat} (hJ : JI J k) : goodS (encS J.sup) = true ∧ decS (encS J.sup) = J.sup := by
 have h1 := hJ.g
 have h2 := hJ.bo
 have h3 := hJ.po
 have h4 := hJ.ls
 have h5 := hJ.ab
 have h6 := hJ.as_
 have h7 := hJ.k1
 refine good_encS ?_ fun x hx => ?_
 ·simp only [okS, Su.l, mxB, Bool.and_eq_true, bne_iff_ne, ne_eq, List.all_cons, List.all_nil, decide_eq_true_eq, and_true]
  omega
 ·simp only [Su.l, List.mem_cons, List.not_mem_nil, or_false] at hx
  unfold u64B
  omega
theorem supA_ok {t : St} {J : JM} {k : Nat} (hq : t.q = []) (hJ : JI J k) (h : SupOk t.s J) : supA t J.first = some J.sup := by
 obtain ⟨g1, g2⟩ := supOk_enc hJ
 have rd : ∀ b, t.rd b = (t.s[b]?).getD [] := fun b => by simp only [St.rd, hq, List.length_nil, lkQ]
 have h1 := h.at_
 have h2 := h.ot
 have bad : goodS [] = false := by decide
 unfold slotN at h1
 unfold othN at h2
 unfold supA
 rw [rd, rd]
 by_cases hp : J.sup.g % 2 = 0
 ·rw [if_pos hp] at h1 h2
  rw [h1, Option.getD_some, g1, g2]
  cases h0 : t.s[J.first]? with
  | none => simp [bad]
  | some d =>
    simp only [Option.getD_some]
    by_cases hd : goodS d = true
    ·have := h2 d h0 hd
     simp [hd, this]
    ·simp [hd]
 ·rw [if_neg hp] at h1 h2
  rw [h1, Option.getD_some, g1, g2, if_pos rfl]
  cases h0 : t.s[J.first + 1]? with
  | none => simp [bad]
  | some d =>
    simp only [Option.getD_some]
    by_cases hd : goodS d = true
    ·have := h2 d h0 hd
     rw [if_neg (fun hh => by omega)]
    ·simp [hd]
theorem wrAt_n {J : JM} (h : 0 ≤ J.sup.g) : (wrAt J).toNat = othN J := by
 unfold wrAt othN
 rw [Int.tmod_eq_emod_of_nonneg (by omega)]
 by_cases hp : J.sup.g % 2 = 0
 ·rw [if_pos hp, if_neg (by omega)]; omega
 ·rw [if_neg hp, if_pos (by omega)]; omega
theorem othN_lt (J : JM) : othN J < J.first + 2 ∧ slotN J < J.first + 2 := by
 unfold othN slotN; split <;> omega
theorem supOk_wr {s : List (List UInt8)} {J J' : JM} {k : Nat} (hJ : JI J k) (h : SupOk s J) (hf : J'.first = J.first) (hg : J'.sup.g = J.sup.g + 1) (hl : J.first + 1 < s.length) : SupOk (s.set (othN J) (encS J'.sup)) J' := by
 obtain ⟨g1, g2⟩ := supOk_enc hJ
 have h1 := h.at_
 have e1 : slotN J' = othN J := by
  unfold slotN othN
  rw [hf, hg]
  by_cases hp : J.sup.g % 2 = 0
  ·rw [if_pos hp, if_neg (by omega)]
  ·rw [if_neg hp, if_pos (by omega)]
 have e2 : othN J' = slotN J := by
  unfold slotN othN
  rw [hf, hg]
  by_cases hp : J.sup.g % 2 = 0
  ·rw [if_pos hp, if_neg (by omega)]
  ·rw [if_neg hp, if_pos (by omega)]
 have hne : othN J ≠ slotN J := by
  unfold slotN othN; split <;> omega
 have := othN_lt J
 refine ⟨?_, fun d hd hgd => ?_⟩
 ·rw [e1, List.getElem?_set_self (by omega)]
 ·rw [e2, List.getElem?_set_ne hne, h1] at hd
  injection hd with hd
  subst hd
  rw [g2, hg]; omega
theorem supOk_gt {J : JM} {p lsn : Int} {B : List Rec} {q : List (Int × List UInt8)} {s s' : List (List UInt8)} (hm : Sm J p lsn B s.length) (hq : QOf J p lsn B q) (hg : Gt q s s') (h : SupOk s J) : SupOk s' J := by
 have key : ∀ b, b < J.first + 2 → s'[b]? = s[b]? := fun b hb => by
  rcases hg b (by have := hm.n; have := hm.c6; omega) with h | ⟨e, he, hb2, h⟩
  ·exact h
  ·exfalso
   obtain ⟨y, x, hx, rfl⟩ := hq.l e he
   obtain ⟨r1, r2, _⟩ := newV_rg hm.b hx
   have := blkP_ge (J := J) (y := y) hm.c6 (by have := hm.p0; omega)
   simp only [Int.toNat_natCast] at hb2
   omega
 have := othN_lt J
 exact ⟨by rw [key _ this.2]; exact h.at_, fun d hd => h.ot d (by rw [← key _ this.1]; exact hd)⟩
end Go.Jn.P
