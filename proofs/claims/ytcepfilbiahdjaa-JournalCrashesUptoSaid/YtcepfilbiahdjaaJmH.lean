/- JournalCrashes, the plain law: what is true between acts, and that each act keeps it. -/
import Derived.Test.YtcepfilbiahdjaaJmG
import Derived.Test.YtcepfilbiahdjaaResX
set_option linter.unusedVariables false
set_option linter.unusedSimpArgs false
set_option maxRecDepth 4000
namespace Go.Jn.P
open Go.Gr Go.Jn
def le2 (a b c d : Int) : Prop := a < c ∨ (a = c ∧ b ≤ d)
theorem le2.up {a b c d e f : Int} (h : le2 a b c d) (k : c < e ∨ (c = e ∧ d ≤ f)) : le2 a b e f := by unfold le2 at *; omega
structure Cr (N k : Nat) (t : St) (J : JM) (A B : List Rec) : Prop where
 f : t.f = -1
 len : t.s.length = N
 fn : J.first + J.count ≤ N
 ji : JI J k
 q : QOf J (J.sup.po + nd A) (J.sup.ls + 1 + A.length) B t.q
 sp : SupOk t.s J
 l : J.l = (A ++ B).map (·.o)
 sy : J.sy = J.sup.ls + A.length
 ok : ∀ r ∈ A ++ B, RecOk r
 ris : Rising J.sup.ab J.sup.as_ (A ++ B)
 liv : Lives (vw t.s J) J.sup.po (J.sup.ls + 1) A
 lo : ∀ y x, vw t.s J y = some x → ∀ r ∈ B, lt2 x.bo x.se r.o.bo r.o.se
 hi : ∀ y x, vw t.s J y = some x → le2 x.bo x.se J.sup.bo J.se
 hr : ∀ r ∈ A ++ B, le2 r.o.bo r.o.se J.sup.bo J.se
 ha : le2 J.sup.ab J.sup.as_ J.sup.bo J.se
 st : Stop (vw t.s J) (J.sup.po + nd A) (J.sup.ls + 1 + A.length) (endB J.sup.ab A) (endS J.sup.as_ A)
section
variable {N k : Nat} {t : St} {J : JM} {A B : List Rec}
theorem Cr.ln (h : Cr N k t J A B) : J.l.length = A.length + B.length := by rw [h.l]; simp
theorem Cr.nd (h : Cr N k t J A B) : sumN J.l = nd A + nd B := by rw [h.l, ← nd_append]; rfl
theorem Cr.sm (h : Cr N k t J A B) : Sm J (J.sup.po + P.nd A) (J.sup.ls + 1 + A.length) B t.s.length := by
 have h1 := h.ji.po
 have h2 := h.ji.ls
 have h3 := h.ji.rm
 have h4 := h.ji.c40
 have h5 := h.ji.lcount
 have h6 := h.nd
 have h7 := nd_nn fun r hr => h.ok r (List.mem_append_left B hr)
 have h8 := nd_nn fun r hr => h.ok r (List.mem_append_right A hr)
 have h9 := h.ln
 have h10 := h.ji.k1
 exact ⟨h.ji.c6, by rw [h.len]; exact h.fn, by omega, by omega, by omega, by omega, fun r hr => h.ok r (List.mem_append_right A hr)⟩
theorem Cr.w (h : Cr N k t J A B) : P.nd A + P.nd B ≤ (J.count : Int) - 2 ∧ 0 ≤ P.nd A ∧ 0 ≤ P.nd B ∧ 0 ≤ J.sup.po := by
 have h3 := h.ji.rm
 have h6 := h.nd
 exact ⟨by omega, nd_nn fun r hr => h.ok r (List.mem_append_left B hr), nd_nn fun r hr => h.ok r (List.mem_append_right A hr), h.ji.po.1⟩
theorem Cr.v3 (h : Cr N k t J A B) {s' : List (List UInt8)} (hg : Gt t.q t.s s') {y : Int} (hy : 0 ≤ y) : vw s' J y = vw t.s J y ∨ vw s' J y = none ∨ vw s' J y = newV (J.sup.po + P.nd A) (J.sup.ls + 1 + A.length) B y := view3 h.sm h.q hg hy
theorem Cr.vA (h : Cr N k t J A B) {s' : List (List UInt8)} (hg : Gt t.q t.s s') : Lives (vw s' J) J.sup.po (J.sup.ls + 1) A := fun y h1 h2 => by
 obtain ⟨w1, w2, w3, w4⟩ := h.w
 rw [viewA h.sm h.q hg (by omega) h2 (by omega)]
 exact h.liv y h1 h2
theorem Cr.vhi (h : Cr N k t J A B) {s' : List (List UInt8)} (hg : Gt t.q t.s s') : ∀ y x, vw s' J y = some x → le2 x.bo x.se J.sup.bo J.se := fun y x hx => by
 rcases h.v3 hg (vw_neg hx) with hv | hv | hv
 ·exact h.hi y x (by rw [← hv]; exact hx)
 ·rw [hx] at hv; cases hv
 ·rw [hx] at hv
  obtain ⟨_, _, _, r, hr, e1, e2⟩ := newV_rg h.sm.b hv.symm
  rw [e1, e2]; exact h.hr r (List.mem_append_right A hr)
theorem Cr.cont (h : Cr N k t J A B) {s' : List (List UInt8)} (hg : Gt t.q t.s s') : Cont (vw s' J) J.sup.po (J.sup.ls + 1) J.sup.ab J.sup.as_ A.length (A ++ B) := by
 obtain ⟨w1, w2, w3, w4⟩ := h.w
 refine cont_app (fun r hr => h.ok r (List.mem_append_left B hr)) (h.vA hg) ?_
 refine cont_new h.sm.b (Rising.app.1 h.ris).2 (fun y hy => h.v3 hg (by omega)) h.lo h.st
theorem Cr.vF (h : Cr N k t J A B) : Lives (vw (flS t.q t.s) J) J.sup.po (J.sup.ls + 1) (A ++ B) := fun y h1 h2 => by
 obtain ⟨w1, w2, w3, w4⟩ := h.w
 have hok : ∀ r ∈ A, RecOk r := fun r hr => h.ok r (List.mem_append_left B hr)
 by_cases hy : y < J.sup.po + P.nd A
 ·rw [h.vA (gt_fl _ _) y h1 hy]
  rcases newV_lt (A := A) (B := B) (lsn := J.sup.ls + 1) hy with hn | hn
  ·exact hn.symm
  ·omega
 ·rw [nd_append] at h2
  rw [viewB h.sm h.q (by omega) y (by omega) (by omega), newV_append hok (by omega)]
theorem Cr.stF (h : Cr N k t J A B) : Stop (vw (flS t.q t.s) J) (J.sup.po + P.nd (A ++ B)) (J.sup.ls + 1 + (A ++ B).length) (endB J.sup.ab (A ++ B)) (endS J.sup.as_ (A ++ B)) := by
 cases B with
 | nil =>
   have hq : t.q = [] := by
    cases hq : t.q with
    | nil => rfl
    | cons e q =>
      obtain ⟨y, x, hx, _⟩ := h.q.l e (by rw [hq]; simp)
      cases hx
   have := h.st
   rw [List.append_nil, hq]
   exact this
 | cons r B =>
   refine stop_of fun x hx hl => ?_
   have hR := (Rising.app.1 h.ris).2
   obtain ⟨k1, k2⟩ := hR.last
   rw [endB_app, endS_app] at hl
   rcases h.v3 (gt_fl _ _) (vw_neg hx) with hv | hv | hv
   ·have := h.lo _ x (by rw [← hv]; exact hx) r (by simp)
    rcases k2 r (by simp) with ⟨e1, e2⟩ | k3
    ·rw [← e1, ← e2] at hl; exact lt2.irr (hl.trans this)
    ·exact lt2.irr (hl.trans (this.trans k3))
   ·rw [hx] at hv; cases hv
   ·rw [hx] at hv
    obtain ⟨_, _, _, r', hr', e1, e2⟩ := newV_rg h.sm.b hv.symm
    rcases k2 r' hr' with ⟨e3, e4⟩ | k3
    ·rw [e1, e2, e3, e4] at hl; exact lt2.irr hl
    ·rw [e1, e2] at hl; exact lt2.irr (hl.trans k3)
theorem qof_nil {J : JM} {p lsn : Int} : QOf J p lsn [] [] := ⟨fun e he => (by cases he), fun y x hx => (by cases hx)⟩
theorem Cr.sync (h : Cr N k t J A B) : Cr N k t.fl J.sync (A ++ B) [] := by
 refine ⟨h.f, by show (flS t.q t.s).length = N; rw [flS_len]; exact h.len, h.fn, h.ji.sync, qof_nil, ?_, ?_, ?_, ?_, ?_, h.vF, fun y x hx r hr => (by cases hr), h.vhi (gt_fl _ _), ?_, h.ha, h.stF⟩
 ·have := supOk_gt h.sm h.q (gt_fl _ _) h.sp
  exact ⟨this.at_, this.ot⟩
 ·rw [List.append_nil]; exact h.l
 ·show J.sup.ls + (J.l.length : Nat) = J.sup.ls + ((A ++ B).length : Nat)
  rw [h.ln, List.length_append]
 ·rw [List.append_nil]; exact h.ok
 ·rw [List.append_nil]; exact h.ris
 ·rw [List.append_nil]; exact h.hr
theorem Cr.up (h : Cr N k t J A B) {m : Nat} (hm : k ≤ m) (h2 : m ≤ 100000) : Cr N m t J A B := ⟨h.f, h.len, h.fn, h.ji.up hm h2, h.q, h.sp, h.l, h.sy, h.ok, h.ris, h.liv, h.lo, h.hi, h.hr, h.ha, h.st⟩
theorem apRun_go {J : JM} {lsn pos : Int} {need : Nat} {s : List UInt8} : ∀ (r i : Nat) (t : St), t.f = -1 → (apRun J lsn pos need s r i t).1 = true ∧ (apRun J lsn pos need s r i t).2.s = t.s ∧ (apRun J lsn pos need s r i t).2.f = -1 ∧
 ∀ e, e ∈ (apRun J lsn pos need s r i t).2.q ↔ e ∈ t.q ∨ ∃ j : Nat, i ≤ j ∧ j < i + r ∧ e = ((blkP J (pos + (j : Nat)) : Int), encE (apPart J lsn pos need s j))
 | 0, i, t, hf => ⟨rfl, rfl, hf, fun e => ⟨.inl, fun h => by
  rcases h with h | ⟨j, h1, h2, _⟩
  ·exact h
  ·omega⟩⟩
 | r + 1, i, t, hf => by
   have hw := wS_go (x := (blkP J (pos + (i : Nat)) : Int)) (p := encE (apPart J lsn pos need s i)) hf
   obtain ⟨h1, h2, h3, h4⟩ := apRun_go (J := J) (lsn := lsn) (pos := pos) (need := need) (s := s) r (i + 1) (wS t (blkP J (pos + (i : Nat))) (encE (apPart J lsn pos need s i))) (by rw [hw])
   rw [apRun, if_neg (by omega)]
   refine ⟨h1, by rw [h2, hw], h3, fun e => ?_⟩
   rw [h4 e, hw]
   simp only [List.mem_append, List.mem_singleton]
   constructor
   ·rintro ((h | h) | ⟨j, g1, g2, g3⟩)
    ·exact .inl h
    ·exact .inr ⟨i, Nat.le_refl _, by omega, h⟩
    ·exact .inr ⟨j, by omega, by omega, g3⟩
   ·rintro (h | ⟨j, g1, g2, g3⟩)
    ·exact .inl (.inl h)
    ·by_cases hj : j = i
     ·subst hj; exact .inl (.inr g3)
     ·exact .inr ⟨j, by omega, by omega, g3⟩
def rec1 (J : JM) (p : List Pt) : Rec := ⟨p, ⟨needI p.length, J.sup.bo, J.se + 1⟩⟩
theorem Cr.ap (h : Cr N k t J A B) (hk : k + 40 ≤ 100000) {p : List Pt} (hgo : apGo J p = true) : Cr N (k + 40) (apT J t p) (apJ J t p) A (B ++ [rec1 J p]) ∧ (apR J t p).1 = true := by
 obtain ⟨g1, g2⟩ := apGo_iff.1 hgo
 have g3 := g1
 simp only [okT, Bool.and_eq_true, decide_eq_true_eq] at g3
 have hnd := needI_of (n := (p.length : Int)) (by omega) (by omega)
 have q2 := h.ji.bo
 have q5 := h.ji.se
 have hk1 := h.ji.k1
 obtain ⟨w1, w2, w3, w4⟩ := h.w
 have hrc : RecOk (rec1 J p) := ⟨g1, rfl, ⟨q2.1, by show J.sup.bo ≤ _; omega⟩, ⟨by show 1 ≤ J.se + 1; omega, by show J.se + 1 ≤ _; omega⟩⟩
 have hz := hrc.sz
 have hn : (rec1 J p).o.need = needI p.length := rfl
 obtain ⟨a1, a2, a3, a4⟩ := apRun_go (J := { J with se := J.se + 1 }) (lsn := J.sup.ls + (J.l.length : Nat) + 1) (pos := J.sup.po + sumN J.l) (need := (needI p.length).toNat) (s := encT p) (needI p.length).toNat 0 t h.f
 have hR1 : (apR J t p).1 = true := a1
 have hT : apT J t p = (apR J t p).2 := by rw [apT, if_pos hgo]
 have hJ : apJ J t p = { J with l := J.l ++ [(rec1 J p).o], se := J.se + 1 } := by rw [apJ, if_pos hgo, if_pos hR1]; rfl
 have hJI := h.ji.ap (t := t) (p := p) hk
 have hv : vw (apT J t p).s (apJ J t p) = vw t.s J := by
  rw [hT, show (apR J t p).2.s = t.s from a2, hJ]
  exact vw_J t.s rfl rfl
 have hs : (apT J t p).s = t.s := by rw [hT]; exact a2
 have hbk : ∀ y, blkP (apJ J t p) y = blkP J y := fun y => by rw [hJ]; rfl
 have hsup : (apJ J t p).sup = J.sup := by rw [hJ]
 have hse : (apJ J t p).se = J.se + 1 := by rw [hJ]
 refine ⟨⟨by rw [hT]; exact a3, by rw [hs]; exact h.len, by rw [hJ]; exact h.fn, hJI, ?_, ?_, ?_, ?_, ?_, ?_, ?_, ?_, ?_, ?_, ?_, ?_⟩, hR1⟩
 · -- what waits
   have hokB := h.sm.b
   have hpos : J.sup.po + sumN J.l = J.sup.po + P.nd A + P.nd B := by rw [h.nd]; omega
   have hlsn : J.sup.ls + (J.l.length : Nat) + 1 = J.sup.ls + 1 + A.length + B.length := by rw [h.ln]; omega
   have part : ∀ j : Nat, apPart { J with se := J.se + 1 } (J.sup.ls + (J.l.length : Nat) + 1) (J.sup.po + sumN J.l) (needI p.length).toNat (encT p) j = entA (J.sup.po + P.nd A + P.nd B) (J.sup.ls + 1 + A.length + B.length) (rec1 J p) j := fun j => by
    rw [hlsn, hpos]
    have : (((needI p.length).toNat : Nat) : Int) = needI p.length := by omega
    simp only [apPart, entA, this, rec1]
   have lst : ∀ y, J.sup.po + P.nd A + P.nd B ≤ y → newV (J.sup.po + P.nd A) (J.sup.ls + 1 + A.length) (B ++ [rec1 J p]) y = newV (J.sup.po + P.nd A + P.nd B) (J.sup.ls + 1 + A.length + B.length) [rec1 J p] y := fun y hy => newV_append hokB hy
   rw [hsup]
   constructor
   ·intro e he
    rw [hT] at he
    rcases (a4 e).1 he with he | ⟨j, j1, j2, rfl⟩
    ·obtain ⟨y, x, hx, rfl⟩ := h.q.l e he
     obtain ⟨r1, r2, _⟩ := newV_rg hokB hx
     refine ⟨y, x, ?_, by rw [hbk]⟩
     rcases newV_lt (A := B) (B := [rec1 J p]) (lsn := J.sup.ls + 1 + A.length) r2 with h1 | h1
     ·rw [h1]; exact hx
     ·omega
    ·refine ⟨J.sup.po + P.nd A + P.nd B + (j : Nat), _, ?_, by rw [hbk, part, hpos]; rfl⟩
     rw [lst _ (by omega)]
     simp only [newV]
     rw [if_pos ⟨by omega, by rw [hn]; omega⟩, show (J.sup.po + P.nd A + P.nd B + (j : Nat) - (J.sup.po + P.nd A + P.nd B)).toNat = j by omega]
   ·intro y x hx
    rw [hT, hbk]
    refine (a4 _).2 ?_
    by_cases hy : y < J.sup.po + P.nd A + P.nd B
    ·left
     rcases newV_lt (A := B) (B := [rec1 J p]) (lsn := J.sup.ls + 1 + A.length) hy with h1 | h1
     ·rw [h1] at hx; exact h.q.r y x hx
     ·obtain ⟨r1, _⟩ := newV_rg (B := B ++ [rec1 J p]) (fun r hr => by
       rcases List.mem_append.1 hr with hr | hr
       ·exact hokB r hr
       ·rw [List.mem_singleton.1 hr]; exact hrc) hx
      omega
    ·right
     rw [lst _ (by omega)] at hx
     simp only [newV] at hx
     split at hx
     ·rename_i hc
      injection hx with hx
      rw [hn] at hc
      refine ⟨(y - (J.sup.po + P.nd A + P.nd B)).toNat, by omega, by omega, ?_⟩
      rw [part, hx, hpos, show J.sup.po + P.nd A + P.nd B + ((y - (J.sup.po + P.nd A + P.nd B)).toNat : Nat) = y by omega]
      rfl
     ·cases hx
 ·rw [hs, hJ]; exact ⟨h.sp.at_, h.sp.ot⟩
 ·rw [hJ]
  show J.l ++ [(rec1 J p).o] = _
  rw [h.l]; simp only [List.map_append, List.map_cons, List.map_nil, List.append_assoc]
 ·rw [hJ]; exact h.sy
 ·intro r hr
  rw [← List.append_assoc] at hr
  rcases List.mem_append.1 hr with hr | hr
  ·exact h.ok r hr
  ·rw [List.mem_singleton.1 hr]; exact hrc
 ·rw [hsup, ← List.append_assoc]
  refine Rising.app.2 ⟨h.ris, ?_, trivial⟩
  obtain ⟨k1, k2⟩ := h.ris.last
  have hle : le2 (endB J.sup.ab (A ++ B)) (endS J.sup.as_ (A ++ B)) J.sup.bo J.se := by
   rcases List.eq_nil_or_concat (A ++ B) with he | ⟨C, r, he⟩
   ·rw [he]; exact h.ha
   ·rw [List.concat_eq_append] at he
    have := h.hr r (by rw [he]; simp)
    rw [he, endB_app, endS_app]; exact this
  show lt2 _ _ J.sup.bo (J.se + 1)
  unfold le2 at hle
  unfold lt2
  omega
 ·rw [hv, hsup]; exact h.liv
 ·intro y x hx r hr
  rw [hv] at hx
  rcases List.mem_append.1 hr with hr | hr
  ·exact h.lo y x hx r hr
  ·rw [List.mem_singleton.1 hr]
   have := h.hi y x hx
   show lt2 _ _ J.sup.bo (J.se + 1)
   unfold le2 at this
   unfold lt2
   omega
 ·intro y x hx
  rw [hv] at hx
  rw [hsup, hse]
  exact (h.hi y x hx).up (.inr ⟨rfl, by omega⟩)
 ·intro r hr
  rw [hsup, hse]
  rw [← List.append_assoc] at hr
  rcases List.mem_append.1 hr with hr | hr
  ·exact (h.hr r hr).up (.inr ⟨rfl, by omega⟩)
  ·rw [List.mem_singleton.1 hr]
   exact .inr ⟨rfl, Int.le_refl _⟩
 ·rw [hsup, hse]; exact h.ha.up (.inr ⟨rfl, by omega⟩)
 ·rw [hv, hsup]; exact h.st
theorem vw_set {s : List (List UInt8)} {J : JM} {b : Nat} {d : List UInt8} (h6 : 6 ≤ J.count) (hb : b < J.first + 2) {q : Int} (hq : 0 ≤ q) : vw (s.set b d) J q = vw s J q :=
 vw_get (by rw [List.getElem?_set_ne]; have := blkP_ge h6 hq; omega)
theorem vw_set' {s : List (List UInt8)} {J : JM} {b : Nat} {d : List UInt8} (h6 : 6 ≤ J.count) (hb : b < J.first + 2) : vw (s.set b d) J = vw s J := by
 funext q
 by_cases hq : 0 ≤ q
 ·exact vw_set h6 hb hq
 ·cases h1 : vw (s.set b d) J q with
  | some x => exact absurd (vw_neg h1) hq
  | none =>
    cases h2 : vw s J q with
    | some x => exact absurd (vw_neg h2) hq
    | none => rfl
theorem Cr.sup (h : Cr N k t J A []) (hq : t.q = []) {x : Su} {A' : List Rec} {m : Nat} {J' : JM} (hJ : JI J' m) (hfi : J'.first = J.first) (hco : J'.count = J.count) (hsu : J'.sup = { x with g := J.sup.g + 1 }) (hl : J'.l = A'.map (·.o)) (hsy : J'.sy = x.ls + A'.length)
 (ok : ∀ r ∈ A', RecOk r) (ris : Rising x.ab x.as_ A') (liv : Lives (vw t.s J) x.po (x.ls + 1) A') (hi : ∀ y z, vw t.s J y = some z → le2 z.bo z.se x.bo J'.se) (hr : ∀ r ∈ A', le2 r.o.bo r.o.se x.bo J'.se) (ha : le2 x.ab x.as_ x.bo J'.se)
 (st : Stop (vw t.s J) (x.po + P.nd A') (x.ls + 1 + A'.length) (endB x.ab A') (endS x.as_ A')) : Cr N m ⟨t.s.set (othN J) (encS { x with g := J.sup.g + 1 }), [], -1⟩ J' A' [] := by
 have hv : vw (t.s.set (othN J) (encS { x with g := J.sup.g + 1 })) J' = vw t.s J := by
  rw [vw_J _ hfi hco]
  exact vw_set' h.ji.c6 (othN_lt J).1
 have hlen := h.len
 have hfn := h.fn
 have hc6 := h.ji.c6
 refine ⟨rfl, by simp [h.len], by rw [hfi, hco]; exact h.fn, hJ, qof_nil, ?_, by rw [List.append_nil]; exact hl, by rw [hsu]; exact hsy, by rw [List.append_nil]; exact ok, by rw [List.append_nil, hsu]; exact ris, by rw [hv, hsu]; exact liv, fun y z hz r hr => (by cases hr), fun y z hz => ?_, by rw [List.append_nil, hsu]; exact hr, by rw [hsu]; exact ha, by rw [hv, hsu]; exact st⟩
 ·have := supOk_wr (J' := J') h.ji h.sp hfi (by rw [hsu]) (by omega)
  rw [hsu] at this
  exact this
 ·rw [hv] at hz; rw [hsu]; exact hi y z hz
theorem supT_end {J : JM} {C : List Rec} (hl : J.l = C.map (·.o)) (lsn : Int) : ∀ i, i ≤ C.length → supT J lsn i = { J.sup with ls := lsn, po := J.sup.po + P.nd (C.take i), ab := endB J.sup.ab (C.take i), as_ := endS J.sup.as_ (C.take i) }
 | 0, h => by simp [supT, endB, endS]
 | i + 1, h => by
   have hi : C[i]? = some C[i] := List.getElem?_eq_getElem (by omega)
   have ho : J.l[i]? = some C[i].o := by rw [hl, List.getElem?_map, hi]; rfl
   rw [supT_succ ho, supT_end hl lsn i (by omega), List.take_add_one, hi, nd_append, endB_app, endS_app]
   simp only [Option.toList_some, nd_cons, nd_nil, endB, endS]
   congr 1
   omega
theorem Cr.tr (h : Cr N k t J A B) (hk : k + 40 ≤ 100000) {lsn : Int} (hg : J.trG lsn = true) : Cr N (k + 40) (trT J t lsn) (trJ J t lsn) ((A ++ B).drop (J.trN lsn)) [] := by
 have hJI := h.ji.tr (t := t) (lsn := lsn) hk
 obtain ⟨he, hne⟩ := trG_iff.1 hg
 obtain ⟨hN, hNi⟩ := trN_le h.ji he
 generalize hn : J.trN lsn = n at hN hNi hJI ⊢
 have hs := h.sync
 have hf : ¬ t.f = 0 := by rw [h.f]; omega
 have hln := h.ln
 have hC : n ≤ (A ++ B).length := by rw [List.length_append]; omega
 have hx := supT_end h.l lsn n hC
 have hT : trT J t lsn = ⟨(flS t.q t.s).set (othN J) (encS { supT J lsn n with g := J.sup.g + 1 }), [], -1⟩ := by
  rw [trT, if_pos hg, hn, wrT, if_neg hf, wS_go h.f]
  simp only [St.fl, flS_snoc, wrAt_n (J := J) (by have := h.ji.g; omega)]
 have hJ : trJ J t lsn = { J with sup := { supT J lsn n with g := J.sup.g + 1 }, l := J.l.drop n, sy := lsn + (J.l.drop n).length } := by
  rw [trJ, if_pos hg, if_neg hf, hn]
 rw [hT]
 have hC2 : (A ++ B).take n ++ (A ++ B).drop n = A ++ B := List.take_append_drop _ _
 have okC : ∀ r ∈ A ++ B, RecOk r := h.ok
 have okT' : ∀ r ∈ (A ++ B).take n, RecOk r := fun r hr => okC r (List.mem_of_mem_take hr)
 have hris : Rising J.sup.ab J.sup.as_ ((A ++ B).take n ++ (A ++ B).drop n) := by rw [hC2]; exact h.ris
 have hlen2 : ((A ++ B).take n).length = n := by rw [List.length_take]; omega
 have e1 : J.sync.sup = J.sup := rfl
 refine Cr.sup (x := supT J lsn n) hs rfl hJI (by rw [hJ]; rfl) (by rw [hJ]; rfl) (by rw [hJ]; rfl) (by rw [hJ]; show J.l.drop n = _; rw [h.l, List.map_drop]) ?_ (fun r hr => okC r (List.mem_of_mem_drop hr)) ?_ ?_ ?_ ?_ ?_ ?_
 ·rw [hJ, hx]
  show lsn + ((J.l.drop n).length : Nat) = lsn + _
  rw [h.l]; simp
 ·rw [hx]; exact (Rising.app.1 hris).2
 ·rw [hx]
  intro y h1 h2
  have h1' : J.sup.po + P.nd ((A ++ B).take n) ≤ y := h1
  have h2' : y < J.sup.po + P.nd ((A ++ B).take n) + P.nd ((A ++ B).drop n) := h2
  have hnn := nd_nn okT'
  have hsum : P.nd (A ++ B) = P.nd ((A ++ B).take n) + P.nd ((A ++ B).drop n) := by rw [← nd_append, hC2]
  have := hs.liv y (by show J.sup.po ≤ y; omega) (by show y < J.sup.po + P.nd (A ++ B); omega)
  rw [this]
  show newV J.sup.po (J.sup.ls + 1) (A ++ B) y = _
  rw [← hC2, newV_append okT' h1', hlen2, hC2]
  congr 1
  show J.sup.ls + 1 + (n : Int) = lsn + 1
  omega
 ·intro y z hz
  have : le2 z.bo z.se J.sup.bo J.se := hs.hi y z hz
  rw [hx, hJ]; exact this
 ·intro r hr
  have := h.hr r (List.mem_of_mem_drop hr)
  rw [hx, hJ]; exact this
 ·rw [hx, hJ]
  show le2 (endB J.sup.ab ((A ++ B).take n)) (endS J.sup.as_ ((A ++ B).take n)) J.sup.bo J.se
  rcases List.eq_nil_or_concat ((A ++ B).take n) with he | ⟨C, r, he⟩
  ·rw [he]; exact h.ha
  ·rw [List.concat_eq_append] at he
   have := h.hr r (List.mem_of_mem_take (i := n) (by rw [he]; simp))
   rw [he, endB_app, endS_app]; exact this
 ·rw [hx]
  have := hs.st
  have e2 : J.sup.po + P.nd ((A ++ B).take n) + P.nd ((A ++ B).drop n) = J.sup.po + P.nd (A ++ B) := by
   rw [Int.add_assoc, ← nd_append, hC2]
  have e3 : lsn + 1 + (((A ++ B).drop n).length : Int) = J.sup.ls + 1 + ((A ++ B).length : Int) := by
   rw [List.length_drop]; omega
  have e4 : endB (endB J.sup.ab ((A ++ B).take n)) ((A ++ B).drop n) = endB J.sup.ab (A ++ B) := by rw [← endB_app, hC2]
  have e5 : endS (endS J.sup.as_ ((A ++ B).take n)) ((A ++ B).drop n) = endS J.sup.as_ (A ++ B) := by rw [← endS_app, hC2]
  show Stop _ (J.sup.po + P.nd ((A ++ B).take n) + P.nd ((A ++ B).drop n)) (lsn + 1 + (((A ++ B).drop n).length : Int)) (endB (endB J.sup.ab ((A ++ B).take n)) ((A ++ B).drop n)) (endS (endS J.sup.as_ ((A ++ B).take n)) ((A ++ B).drop n))
  rw [e2, e3, e4, e5]
  exact this
end
end Go.Jn.P
namespace Go.Jn.P
open Go.Gr Go.Jn
section
variable {N k : Nat} {t : St} {J : JM} {A B : List Rec}
theorem Cr.op (h : Cr N k t J A B) (hk : k + 40 ≤ 100000) (hN : N ≤ 40) {s' : List (List UInt8)} (hg : Gt t.q t.s s') (hlen : s'.length = N) (hJI : JI (opJ ⟨s', [], -1⟩ J.first J.count) (k + 40)) :
 opE ⟨s', [], -1⟩ J.first J.count = 0 ∧ ∃ m : Nat, A.length ≤ m ∧ m ≤ (A ++ B).length ∧ opL ⟨s', [], -1⟩ J.first J.count = ((A ++ B).take m).map (·.tx) ∧
  Cr N (k + 40) (opT ⟨s', [], -1⟩ J.first J.count) (opJ ⟨s', [], -1⟩ J.first J.count) ((A ++ B).take m) [] ∧ (opJ ⟨s', [], -1⟩ J.first J.count).first = J.first ∧ (opJ ⟨s', [], -1⟩ J.first J.count).count = J.count ∧ (opJ ⟨s', [], -1⟩ J.first J.count).sup.ls = J.sup.ls := by
 have hsp : SupOk s' J := supOk_gt h.sm h.q hg h.sp
 have hsup : supA ⟨s', [], -1⟩ J.first = some J.sup := supA_ok rfl h.ji hsp
 have hfn := h.fn
 have hc6 := h.ji.c6
 obtain ⟨w1, w2, w3, w4⟩ := h.w
 have hln := h.ln
 have h38 := h.ji.lcount
 have hfit : fitE s'.length (J.first : Int) (J.count : Int) = 0 := fitE_iff.2 ⟨by omega, by omega, by rw [hlen]; omega⟩
 have hE : opE ⟨s', [], -1⟩ J.first J.count = 0 := by
  rw [opE, if_pos hfit, Int.toNat_natCast, hsup]; rfl
 have hX : opX ⟨s', [], -1⟩ J.first = J.sup := by rw [opX, Int.toNat_natCast, hsup]; rfl
 obtain ⟨m, m1, m2, m3, m4, m5⟩ := rd_chain (t := ⟨s', [], -1⟩) (V := vw s' J) (count := J.count) (A ++ B) 60 A.length (jz J.first J.count J.sup) J.sup.po (J.sup.ls + 1) J.sup.ab J.sup.as_ []
  (by rw [enR_vw _ rfl]; exact vw_J s' rfl rfl) rfl (by rw [List.length_append]; omega) (by show J.sup.ls + (([] : List One).length : Nat) + 1 = _; simp) (by show sumN [] + P.nd (A ++ B) ≤ _; rw [nd_append]; simp [sumN]; omega) h.ris
  (fun r hr => ⟨h.ok r hr, by
   have := h.hr r hr
   show r.o.bo ≤ J.sup.bo
   unfold le2 at this; omega⟩) (h.cont hg)
 have hR : opR ⟨s', [], -1⟩ J.first J.count J.sup = ({ jz J.first J.count J.sup with l := ((A ++ B).take m).map (·.o) }, ((A ++ B).take m).map (·.tx)) := by
  rw [opR, Int.toNat_natCast, Int.toNat_natCast, m3]
  simp [jz]
 have hL : opL ⟨s', [], -1⟩ J.first J.count = ((A ++ B).take m).map (·.tx) := by rw [opL, hX, hR]
 have hf : ¬ (⟨s', [], -1⟩ : St).f = 0 := by show ¬ (-1 : Int) = 0; omega
 have hJ : opJ ⟨s', [], -1⟩ J.first J.count = ⟨J.first, J.count, { J.sup with bo := J.sup.bo + 1, g := J.sup.g + 1 }, ((A ++ B).take m).map (·.o), J.sup.ls + (((A ++ B).take m).map (·.o)).length, 0⟩ := by
  rw [opJ, hX, hR, wrJ, if_neg hf]; rfl
 have hT : opT ⟨s', [], -1⟩ J.first J.count = ⟨s'.set (othN J) (encS { opW J.sup with g := J.sup.g + 1 }), [], -1⟩ := by
  rw [opT, if_pos ⟨hfit, by rw [Int.toNat_natCast, hsup]; rfl⟩, hX, hR, wrT, if_neg hf, wS_go rfl]
  have e : (wrAt { jz J.first J.count J.sup with l := ((A ++ B).take m).map (·.o) }).toNat = othN J := wrAt_n (J := { jz J.first J.count J.sup with l := ((A ++ B).take m).map (·.o) }) (by show 0 ≤ J.sup.g; have := h.ji.g; omega)
  simp only [St.fl, List.nil_append, flS, e]
  rfl
 have hlt : ((A ++ B).take m).length = m := by rw [List.length_take]; omega
 have hsub : ∀ r ∈ (A ++ B).take m, r ∈ A ++ B := fun r hr => List.mem_of_mem_take hr
 have hs' : Cr N k ⟨s', [], -1⟩ { J with l := ((A ++ B).take m).map (·.o), sy := J.sup.ls + m } ((A ++ B).take m) [] := by
  have hji : JI { J with l := ((A ++ B).take m).map (·.o), sy := J.sup.ls + m } k := by
   obtain ⟨a1, a2, a3, a4, a5, a6, a7, a8, a9, a10, a11, a12, a13, a14⟩ := h.ji
   have e : ((A ++ B).take m).map (·.o) = J.l.take m := by rw [h.l, List.map_take]
   refine ⟨a1, a2, a3, a4, a5, a6, a7, a8, a9, ?_, ?_, ?_, a13, a14⟩
   ·show 0 ≤ J.sup.ls + (m : Int) ∧ J.sup.ls + (m : Int) ≤ J.sup.ls + ((((A ++ B).take m).map (·.o)).length : Nat)
    rw [List.length_map, hlt]; omega
   ·intro o ho
    refine a11 o ?_
    rw [e] at ho; exact List.mem_of_mem_take ho
   ·show sumN (((A ++ B).take m).map (·.o)) + 2 ≤ (J.count : Int)
    rw [e]
    have := sumN_le (fun o ho => (a11 o ho).1) m
    omega
  have hv : vw s' { J with l := ((A ++ B).take m).map (·.o), sy := J.sup.ls + m } = vw s' J := vw_J s' rfl rfl
  refine ⟨rfl, hlen, h.fn, hji, qof_nil, ⟨hsp.at_, hsp.ot⟩, by rw [List.append_nil], by rw [hlt], ?_, ?_, ?_, fun y x hx r hr => (by cases hr), ?_, ?_, h.ha, ?_⟩
  ·rw [List.append_nil]; exact fun r hr => h.ok r (hsub r hr)
  ·rw [List.append_nil]
   have : Rising J.sup.ab J.sup.as_ ((A ++ B).take m ++ (A ++ B).drop m) := by rw [List.take_append_drop]; exact h.ris
   exact (Rising.app.1 this).1
  ·show Lives (vw s' { J with l := ((A ++ B).take m).map (·.o), sy := J.sup.ls + m }) _ _ _
   rw [hv]; exact m4
  ·intro y x hx
   have hx' : vw s' { J with l := ((A ++ B).take m).map (·.o), sy := J.sup.ls + m } y = some x := hx
   rw [hv] at hx'
   exact h.vhi hg y x hx'
  ·rw [List.append_nil]; exact fun r hr => h.hr r (hsub r hr)
  ·show Stop (vw s' { J with l := ((A ++ B).take m).map (·.o), sy := J.sup.ls + m }) _ _ _ _
   rw [hv, hlt]; exact m5
 have hA : A.length ≤ m := by
  have : A.length - (A ++ B).length = 0 := by rw [List.length_append]; omega
  omega
 refine ⟨hE, m, hA, m1, hL, ?_, by rw [hJ], by rw [hJ], by rw [hJ]⟩
 rw [hT]
 have hbo := h.ji.bo
 refine Cr.sup (x := opW J.sup) hs' rfl hJI (by rw [hJ]) (by rw [hJ]) (by rw [hJ]; rfl) (by rw [hJ]) (by rw [hJ]; show J.sup.ls + ((((A ++ B).take m).map (·.o)).length : Nat) = J.sup.ls + _; simp) (fun r hr => h.ok r (hsub r hr)) ?_ ?_ ?_ ?_ ?_ ?_
 ·have := hs'.ris
  rw [List.append_nil] at this; exact this
 ·exact hs'.liv
 ·intro y z hz
  have := hs'.hi y z hz
  exact this.up (.inl (by show J.sup.bo < J.sup.bo + 1; omega))
 ·intro r hr
  have := hs'.hr r (by rw [List.append_nil]; exact hr)
  exact this.up (.inl (by show J.sup.bo < J.sup.bo + 1; omega))
 ·exact h.ha.up (.inl (by show J.sup.bo < J.sup.bo + 1; omega))
 ·exact hs'.st
theorem Cr.again (h : Cr N k t J A []) (hq : t.q = []) : t = ⟨t.s, [], -1⟩ := by
 obtain ⟨s, q, f⟩ := t
 have := h.f
 simp only at hq this
 subst hq; subst this; rfl
end
def J0 (count : Nat) : JM := ⟨0, count, su 2, [], 0, 0⟩
theorem su_ok {g : Int} (h1 : 1 ≤ g) (h2 : g ≤ 2) : goodS (encS (su g)) = true ∧ decS (encS (su g)) = su g := by
 refine good_encS ?_ fun x hx => ?_
 ·simp only [okS, su, Su.l, mxB, Bool.and_eq_true, bne_iff_ne, ne_eq, List.all_cons, List.all_nil, decide_eq_true_eq, and_true]
  omega
 ·simp only [su, Su.l, List.mem_cons, List.not_mem_nil, or_false] at hx
  unfold u64B
  omega
theorem fmW_q {first : Nat} : ∀ (r i : Nat) (t : St), t.f = -1 → (∀ e ∈ t.q, e.2 = zz 384) → (fmW first r i t).s = t.s ∧ (fmW first r i t).f = -1 ∧ ∀ e ∈ (fmW first r i t).q, e.2 = zz 384
 | 0, i, t, hf, h => ⟨rfl, hf, h⟩
 | r + 1, i, t, hf, h => by
   have hw := wS_go (x := ((first + i : Nat) : Int)) (p := zz 384) hf
   obtain ⟨h1, h2, h3⟩ := fmW_q (first := first) r (i + 1) (wS t ((first + i : Nat) : Int) (zz 384)) (by rw [hw]) (by
    rw [hw]
    intro e he
    rcases List.mem_append.1 he with he | he
    ·exact h e he
    ·rw [List.mem_singleton.1 he])
   rw [fmW]
   exact ⟨by rw [h1, hw], h2, h3⟩
theorem fm_s (count : Nat) : fmT 0 count ⟨List.replicate count (zz 384), [], -1⟩ = ⟨((List.replicate count (zz 384)).set 0 (encS (su 1))).set 1 (encS (su 2)), [], -1⟩ := by
 obtain ⟨h1, h2, h3⟩ := fmW_q (first := 0) (count - 2) 2 ⟨List.replicate count (zz 384), [], -1⟩ rfl (fun e he => by cases he)
 have e1 : (fmW 0 (count - 2) 2 ⟨List.replicate count (zz 384), [], -1⟩).fl = ⟨List.replicate count (zz 384), [], -1⟩ := by
  rw [St.fl, h1, h2, flS_same _ h3]
 unfold fmT
 rw [e1, wS_go rfl, wS_go rfl]
 simp only [St.fl, List.nil_append, flS, List.singleton_append]
 rfl
theorem cr_new {count : Nat} (h6 : 6 ≤ count) (h40 : count ≤ 40) : Cr count 10 (fmT 0 count ⟨List.replicate count (zz 384), [], -1⟩) (J0 count) [] [] := by
 have hlen : (((List.replicate count (zz 384)).set 0 (encS (su 1))).set 1 (encS (su 2))).length = count := by simp
 rw [fm_s]
 have hji : JI (J0 count) 10 := by
  refine ⟨h6, h40, ⟨?_, ?_⟩, ⟨?_, ?_⟩, ⟨?_, ?_⟩, ⟨?_, ?_⟩, ⟨?_, ?_⟩, ⟨?_, ?_⟩, ⟨?_, ?_⟩, ⟨?_, ?_⟩, (fun o ho => by cases ho), ?_, by omega, by show 0 + count ≤ 40; omega⟩
  all_goals first | (simp [J0, su, sumN]; omega) | simp [J0, su, sumN]
 have hv : ∀ y, vw (((List.replicate count (zz 384)).set 0 (encS (su 1))).set 1 (encS (su 2))) (J0 count) y = none := by
  intro y
  by_cases hy : 0 ≤ y
  ·have hb := blkP_ge (J := J0 count) (y := y) h6 hy
   have hb0 : (J0 count).first = 0 := rfl
   obtain ⟨b1, _⟩ := blkP_lt (J := J0 count) (p := y) h6 hy
   have hcc : (J0 count).count = count := rfl
   have hget : (((List.replicate count (zz 384)).set 0 (encS (su 1))).set 1 (encS (su 2)))[blkP (J0 count) y]? = some (zz 384) := by
    rw [List.getElem?_set_ne (by omega), List.getElem?_set_ne (by omega), List.getElem?_replicate, if_pos (by omega)]
   rw [vw_def, hget, Option.getD_some, good_zz]
   simp
  ·cases h1 : vw (((List.replicate count (zz 384)).set 0 (encS (su 1))).set 1 (encS (su 2))) (J0 count) y with
   | none => rfl
   | some x => exact absurd (vw_neg h1) hy
 refine ⟨rfl, hlen, by show 0 + count ≤ count; omega, hji, qof_nil, ⟨?_, ?_⟩, rfl, rfl, (fun r hr => by cases hr), trivial, ?_, (fun y x hx r hr => by cases hr), (fun y x hx => by rw [hv] at hx; cases hx), (fun r hr => by cases hr), .inl (by show (0 : Int) < 1; omega), stop_of fun x hx => by rw [hv] at hx; cases hx⟩
 ·show (((List.replicate count (zz 384)).set 0 (encS (su 1))).set 1 (encS (su 2)))[1]? = some (encS (su 2))
  rw [List.getElem?_set_self (by simp; omega)]
 ·intro d hd hg
  have hd : (((List.replicate count (zz 384)).set 0 (encS (su 1))).set 1 (encS (su 2)))[0]? = some d := hd
  rw [List.getElem?_set_ne (by omega), List.getElem?_set_self (by simp; omega)] at hd
  injection hd with hd
  subst hd
  rw [(su_ok (g := 1) (by omega) (by omega)).2]
  show (1 : Int) < 2; omega
 ·intro q h1 h2
  have h2 : q < (0 : Int) + P.nd [] := h2
  have h1 : (0 : Int) ≤ q := h1
  simp at h2; omega
end Go.Jn.P
namespace Go.Jn.P
open Go.Gr Go.Jn
section
variable {X : Cx} {S : AS} {L F G Lj Ls : List Ent} {b bj sb : Nat} {Q : AV → AS → Prop} {J : JM} {k N K : Nat} {t : St}
theorem copy_ok (n : Nat) {b : Nat} (hs1 : t.s.length ≤ 1000) (hq1 : t.q.length ≤ 1000000) (hb : StB b t L) (h : Hp X S (L ++ F)) :
 Ok (ev (n + 1) (.fn 27) [.ptr (some (.rw b, 0))] S) fun v S' => ∃ b' L', v = .ptr (some (.rw b', 0)) ∧ StB b' t L' ∧ Hp X S' (L' ++ (L ++ F)) := by
 obtain ⟨sa, sl, sc, qa, ql, qc, Ls, Lq, hs, hq, rfl⟩ := hb
 have hl1 := hs.len
 have hl2 := hq.len
 rw [strs_len] at hl1
 rw [qrows_len] at hl2
 subst hl1
 subst hl2
 rw [ev, F27 _ _ _ (oL rfl)]
 simp only [J27, b27_entry]
 have rs : ∀ {M : List Ent}, (∀ e ∈ Ls, e ∈ M) → RdR X M sa (strs t.s).flatten := fun hm => hs.rd hm
 have rq : ∀ {M : List Ent}, (∀ e ∈ Lq, e ∈ M) → RdR X M qa (qrows t.q).flatten := fun hm => hq.rd hm
 refine ok_drawA h [0, 6, 17] (by decide) (by simp) (fun b1 S2 h2 => ?_)
 have h2' : Hp X S2 ((b1 + 0, none) :: (b1 + 6, none) :: (b1 + 17, none) :: C b [.sl sa t.s.length sc, .sl qa t.q.length qc, .int .i64 t.f] :: (Ls ++ (Lq ++ F))) := h2.re (by intro p; simp only [List.map_cons, List.map_nil, List.cons_append, List.nil_append, List.append_assoc])
 clear h2
 refine ok_gO (ok_ldL h2' rfl (ok_layA h2' (fun S5 h5 => ?_)))
 have h5' : Hp X S5 ([C (b1 + 0) []] ++ ((b1 + 6, none) :: (b1 + 17, none) :: C b [.sl sa t.s.length sc, .sl qa t.q.length qc, .int .i64 t.f] :: (Ls ++ (Lq ++ F)))) := h5
 have e1 : SlG (some (.rw (b1 + 0), 0)) 0 (.ex 0) 1 [] [C (b1 + 0) []] := SlG.blk (b := b1 + 0) (xs := []) (js := []) (c := .ex 0) (by simp) (by simp) (.inl rfl)
 refine ok_appendG (ys := strs t.s) h5' e1 (strs_all _) (by simp) (fun K => (rs (fun e he => by simp [he])).first h5' (n := t.s.length) (by rw [flat_len (strs_all _)]; simp) (by omega) K) (by omega) (by simp [pow46]; omega) (by simp [pow46]; omega) (fun a6 l6 c6 S7 L6 hs6 h7 => ?_)
 rw [List.nil_append] at hs6
 have hl6 := hs6.len
 rw [strs_len] at hl6
 refine ok_gO (ok_ldL h7 rfl (ok_ldL h2' rfl (ok_true (by simp [AV.beq]) (ok_layA h7 (fun S11 h11 => ?_)))))
 have h11' : Hp X S11 ([C (b1 + 6) []] ++ (L6 ++ ((b1 + 17, none) :: C b [.sl sa t.s.length sc, .sl qa t.q.length qc, .int .i64 t.f] :: (Ls ++ (Lq ++ F))))) := h11.re (by intro p; simp only [List.countP_append, List.countP_cons, List.countP_nil, C]; omega)
 have e2 : SlG (some (.rw (b1 + 6), 0)) 0 (.ex 0) 2 [] [C (b1 + 6) []] := SlG.blk (b := b1 + 6) (xs := []) (js := []) (c := .ex 0) (by simp) (by simp) (.inl rfl)
 refine ok_appendG (ys := qrows t.q) h11' e2 (qrows_all _) (by simp) (fun K => (rq (fun e he => by simp [he])).first h11' (n := t.q.length) (by rw [flat_len (qrows_all _)]; simp) (by omega) K) (by omega) (by simp [pow46]; omega) (by simp [pow46]; omega) (fun a12 l12 c12 S13 L12 hs12 h13 => ?_)
 rw [List.nil_append] at hs12
 refine ok_gO (ok_ldI h13 rfl (ok_ldI h7 rfl (ok_true (by simp [AV.beq]) (ok_ldI h2' rfl (ok_true (by simp [AV.beq]) (ok_layA h13 (fun S18 h18 => ok_ret ⟨b1 + 17, C (b1 + 17) [.sl a6 l6 c6, .sl a12 l12 c12, .int .i64 t.f] :: (L6 ++ L12), rfl, ⟨a6, l6, c6, a12, l12, c12, L6, L12, hs6, hs12, rfl⟩, ?_⟩)))))))
 exact h18.re (by intro p; simp only [List.countP_append, List.countP_cons, List.cons_append, C]; omega)
theorem begunX_ok (n : Nat) (hn : 1000010 < n) {count : Nat} (hc : 6 ≤ count) (h40 : count ≤ 40) (h : Hp X S F) :
 Ok (ev (n + 8) (.fn 8) [.int .i64 count] S) fun v S' => ∃ sb bj t J Ls Lj, v = .tup [.ptr (some (.rw sb, 0)), .ptr (some (.rw bj, 0))] ∧ StB sb t Ls ∧ SI t count 1 ∧ SK 50 t ∧ JB bj sb J Lj ∧ Cr count 50 t J [] [] ∧ J.first = 0 ∧ J.count = count ∧ J.sup.ls = 0 ∧ Hp X S' (Ls ++ (Lj ++ F)) := by
 rw [ev, F8 _ _ _ (oL rfl)]
 simp only [J8, b8_entry]
 refine ok_false (by simp; omega) (ok_false (by simp; omega) ?_)
 obtain ⟨v, S1, e1, sb, L1, rfl, hb1, h1⟩ : Ok (evF E orcL (n + 7) (.fn 18) [.int .i64 count] S) _ := newStore_ok (n + 6) (by omega) (by omega) h
 rw [callP_of e1]
 have hSI : SI ⟨List.replicate count (zz 384), [], -1⟩ count 0 := ⟨by simp, (show i64B (-1) from ⟨by decide, by decide⟩), Nat.le_refl _, fun e he => by cases he⟩
 have hSK : SK 10 ⟨List.replicate count (zz 384), [], -1⟩ := ⟨fun x hx => by
  rw [(List.mem_replicate.1 hx).2]; exact CK.zz, fun e he => by cases he⟩
 have hfit : fitE count 0 (count : Int) = 0 := fitE_iff.2 ⟨by omega, by omega, by omega⟩
 have hfitL : fitE (List.replicate count (zz 384)).length 0 (count : Int) = 0 := by rw [List.length_replicate]; exact hfit
 have hfmG : fmG ⟨List.replicate count (zz 384), [], -1⟩ 0 count = fmT 0 count ⟨List.replicate count (zz 384), [], -1⟩ := by
  rw [fmG, if_pos hfitL]; rfl
 obtain ⟨v, S2, e2, rfl, L2, hb2, h2⟩ : Ok (evF E orcL (n + 7) (.fn 19) [dev sb, .int .i64 0, .int .i64 count] S1) _ := formatP_ok (n + 3) (by omega) (N := count) (by omega) rfl hSI hSK hb1 h1
 rw [callI_of e2, callI_of (num_eq (n + 6) _ S2)]
 refine ok_false (by rw [hfitL]; rfl) ?_
 rw [hfmG] at hb2
 obtain ⟨w1, w2, w3⟩ := fmT_facts (N := count) (first := 0) (count := count) rfl hSI hSK hc (by omega)
 have hcr := cr_new hc h40
 obtain ⟨v, S3, e3, L3, hb3, q1, q2⟩ : Ok (evF E orcL (n + 7) (.fn 25) [dev sb, .int .i64 ((0 : Nat) : Int), .int .i64 count] S2) _ := open_ok n hn w1 (by omega) h40 w2 (by omega) hb2 h2
 have hteq : fmT 0 count ⟨List.replicate count (zz 384), [], -1⟩ = ⟨(fmT 0 count ⟨List.replicate count (zz 384), [], -1⟩).s, [], -1⟩ := hcr.again (by rw [fm_s])
 obtain ⟨o1, o2, o3⟩ := op_facts w1 h40 w2 (by omega) ((0 : Nat) : Int) (count : Int)
 generalize hs0 : (fmT 0 count ⟨List.replicate count (zz 384), [], -1⟩).s = s0 at hteq
 rw [hteq] at hb3 q1 q2 o1 o2 o3 hcr
 have hE : opE ⟨s0, [], -1⟩ ((0 : Nat) : Int) count = 0 := by
  have hsup : supA ⟨s0, [], -1⟩ 0 = some (J0 count).sup := supA_ok (J := J0 count) rfl hcr.ji hcr.sp
  have hl0 : s0.length = count := hcr.len
  rw [opE, if_pos (by show fitE s0.length _ _ = 0; rw [hl0]; exact hfit)]
  show (match supA ⟨s0, [], -1⟩ 0 with | some _ => wE ⟨s0, [], -1⟩ | none => 80) = 0
  rw [hsup]; rfl
 obtain ⟨c1, m, m1, m2, c2, c3, c4, c5, c6⟩ := hcr.op (by omega) h40 (s' := s0) (fun b hb => .inl rfl) hcr.len (o3 hE).1
 obtain ⟨bj, xs, a, c, Lo, Ld, Lj, rfl, x1, x2, x3, x4, x5, h3⟩ := q2 hE
 rw [show (.int .i64 0 : AV) = .int .i64 ((0 : Nat) : Int) from rfl, callT_of e3]
 refine ok_atP rfl (ok_atL rfl (ok_atI rfl ?_))
 rw [callI_of (num_eq (n + 6) _ S3)]
 refine ok_false rfl (ok_ret ⟨sb, bj, _, _, L3, Lj, rfl, hb3, o1, o2, x5, ?_, c4, c5, c6, ?_⟩)
 ·have : m = 0 := by simpa using m2
  subst this
  exact c3
 ·exact (h3.re (M := (Lo ++ Ld) ++ (L3 ++ (Lj ++ F))) (by intro p; simp only [List.countP_append]; omega)).right
def LgP (a : OP) (l : Nat) (c : Cap) (cs : List AV) (L : List Ent) : Prop :=
 (a = none ∧ l = 0 ∧ c = .ex 0 ∧ cs = [] ∧ L = []) ∨ ∃ (b : Nat) (pre js tl : List AV), a = some (.rw b, pre.length) ∧ l = cs.length ∧ (c = .ex (cs.length + js.length) ∨ c = .op 1 (cs.length + js.length)) ∧ L = [C b (pre ++ (cs ++ (js ++ tl)))]
theorem flat1 {xs : List (List AV)} (h : ∀ x ∈ xs, x.length = 1) : xs.flatten.length = xs.length := by rw [flat_len h, Nat.mul_one]
theorem lg_of {a : OP} {l : Nat} {c : Cap} {xs : List (List AV)} {L : List Ent} (h : SlG a l c 1 xs L) : LgP a l c xs.flatten L := by
 cases h with
 | nil => exact .inl ⟨rfl, rfl, rfl, rfl, rfl⟩
 | blk hx hj hc =>
   rename_i b js
   refine .inr ⟨b, [], js.flatten, [], rfl, (flat1 hx).symm, ?_, by simp⟩
   rw [flat1 hx, flat1 hj]; exact hc
theorem LgP.len {a : OP} {l : Nat} {c : Cap} {cs : List AV} {L : List Ent} (h : LgP a l c cs L) : l = cs.length := by
 rcases h with ⟨_, rfl, _, rfl, _⟩ | ⟨_, _, _, _, _, rfl, _⟩ <;> rfl
theorem LgP.rd {a : OP} {l : Nat} {c : Cap} {cs : List AV} {L M : List Ent} (h : LgP a l c cs L) (hm : ∀ e ∈ L, e ∈ M) (k : Nat) : RdR X M a (cs.take k) := by
 rcases h with ⟨rfl, _, _, rfl, _⟩ | ⟨b, pre, js, tl, rfl, _, _, rfl⟩
 ·simpa using RdR.nil
 ·refine .rw (c := pre ++ (cs ++ (js ++ tl))) (hm _ (by simp)) (by simp; omega) ?_
  rw [List.drop_left, List.take_append_of_le_length (by simp; omega), List.length_take, List.take_eq_take_min]
  simp
theorem lg_take {a : OP} {l : Nat} {c : Cap} {cs : List AV} {L : List Ent} (h : LgP a l c cs L) {k : Nat} (hk : k ≤ cs.length) {β : Type} (K : OP → Nat → Cap → Option β) : slSl 1 a l c none (some ((k : Nat) : Int)) none K = K a k c := by
 rcases h with ⟨rfl, rfl, rfl, rfl, rfl⟩ | ⟨b, pre, js, tl, rfl, rfl, hc, rfl⟩
 ·have : k = 0 := by simpa using hk
  subst this
  simp [slSl, optIx, ix]
 ·rcases hc with rfl | rfl
  ·have h1 : k ≤ cs.length + js.length := by omega
   simp [slSl, optIx, ix, h1]
  ·simp [slSl, optIx, ix, hk]
theorem lg_cut {a : OP} {l : Nat} {c : Cap} {cs : List AV} {L : List Ent} (h : LgP a l c cs L) {k : Nat} (hk : k ≤ cs.length) {β : Type} (K : OP → Nat → Cap → Option β) : ∃ a' c', LgP a' (cs.length - k) c' (cs.drop k) L ∧ slSl 1 a l c (some ((k : Nat) : Int)) none none K = K a' (cs.length - k) c' := by
 rcases h with ⟨rfl, rfl, rfl, rfl, rfl⟩ | ⟨b, pre, js, tl, rfl, rfl, hc, rfl⟩
 ·have : k = 0 := by simpa using hk
  subst this
  exact ⟨none, .ex 0, .inl ⟨rfl, rfl, rfl, rfl, rfl⟩, by simp [slSl, optIx, ix]⟩
 ·have hsplit : pre ++ (cs ++ (js ++ tl)) = (pre ++ cs.take k) ++ (cs.drop k ++ (js ++ tl)) := by
   rw [List.append_assoc, ← List.append_assoc (cs.take k), List.take_append_drop]
  have hpl : (pre ++ cs.take k).length = pre.length + k := by rw [List.length_append, List.length_take]; omega
  rcases hc with rfl | rfl
  ·by_cases he : cs.length + js.length = k
   · -- all is cut, and there is no room
     have e1 : cs.drop k = [] := List.drop_of_length_le (by omega)
     have e2 : js = [] := List.length_eq_zero_iff.1 (by omega)
     refine ⟨some (.rw b, pre.length), .ex 0, .inr ⟨b, pre, [], cs ++ (js ++ tl), rfl, by simp, .inl (by rw [e1]; rfl), by rw [e1]; rfl⟩, ?_⟩
     simp [slSl, optIx, ix, he]
     rw [if_pos (by omega), if_pos (by omega)]
   ·refine ⟨some (.rw b, pre.length + k), .ex (cs.length + js.length - k), .inr ⟨b, pre ++ cs.take k, js, tl, by rw [hpl], by simp, .inl (by rw [List.length_drop]; congr 1; omega), by rw [hsplit]⟩, ?_⟩
    simp [slSl, optIx, ix, he, hk]
  ·refine ⟨some (.rw b, pre.length + k), .op 1 (cs.length + js.length - k), .inr ⟨b, pre ++ cs.take k, js, tl, by rw [hpl], by simp, .inr (by rw [List.length_drop]; congr 1; omega), by rw [hsplit]⟩, ?_⟩
   simp [slSl, optIx, ix, hk]
theorem lg_push {cs : List AV} {x : AV} {bytes : Nat} (hby : bytes ≤ 1000) {a : OP} {l : Nat} {c : Cap} {Ln : List Ent} {b5 : Nat} {K : OP → Nat → Cap → AS → RV} (hq : cs.length ≤ 100000) (hs : LgP a l c cs Ln) (h : Hp X S (Ln ++ (C b5 [x] :: F)))
 (ht : ∀ a' l' c' L' S', LgP a' l' c' (cs ++ [x]) L' → Hp X S' (L' ++ F) → Ok (K a' l' c' S') Q) : Ok (appendA 1 bytes S a l c 1 (firstA S 1 1 (.sl (some (.rw b5, 0)) 1 (.ex 1))) K) Q := by
 have hl := hs.len
 have hsrc : ∀ (K : List AV → RV), firstA S 1 1 (.sl (some (.rw b5, 0)) 1 (.ex 1)) K = K [x] := fun K =>
  RdR.first (.rw (X := X) (b := b5) (i := 0) (c := [x]) (cs := [x]) (L := _) (List.mem_append_right Ln List.mem_cons_self) (by simp) rfl) h (sz := 1) (n := 1) rfl (by decide) (l := 1) (c := .ex 1) K
 have h1 : (l + 1) * bytes ≤ pow46 := by
  have : (l + 1) * bytes ≤ (l + 1) * 1000 := Nat.mul_le_mul_left _ hby
  simp [pow46]; omega
 have h2 : l + 1 ≤ pow46 := by simp [pow46]; omega
 rcases hs with ⟨rfl, rfl, rfl, rfl, rfl⟩ | ⟨bn, pre, js, tl, rfl, rfl, hc, rfl⟩
 ·simp only [appendA, forceL_eq, if_pos h1, if_pos h2, show ¬ (0 + 1 ≤ 0) by omega, if_false]
  have e : firstA S 1 0 (.sl none 0 (.ex 0)) (fun old => firstA S 1 1 (.sl (some (.rw b5, 0)) 1 (.ex 1)) fun new => K (some (.rw S.next, 0)) (0 + 1) (.op 1 (0 + 1)) (S.new (.cells (old ++ new)))) = firstA S 1 1 (.sl (some (.rw b5, 0)) 1 (.ex 1)) fun new => K (some (.rw S.next, 0)) (0 + 1) (.op 1 (0 + 1)) (S.new (.cells ([] ++ new))) := rfl
  rw [e, hsrc]
  refine ht _ _ _ [C S.next [x]] _ (.inr ⟨S.next, [], [], [], rfl, rfl, .inr rfl, rfl⟩) ((h.right.drop1).new _)
 ·have hp' : Hp X S (C bn (pre ++ (cs ++ (js ++ tl))) :: C b5 [x] :: F) := h
  have hle0 : pre.length + cs.length * 1 ≤ (pre ++ (cs ++ (js ++ tl))).length := by simp
  have htk : ((pre ++ (cs ++ (js ++ tl))).drop pre.length).take (cs.length * 1) = cs := by
   rw [List.drop_left, Nat.mul_one, List.take_left]
  have room : ∀ (c' : Cap), 1 ≤ js.length → (c' = .ex (cs.length + js.length) ∨ c' = .op 1 (cs.length + js.length)) → Ok (S.stn (.rw bn) (pre.length + cs.length * 1) [x] fun S' => K (some (.rw bn, pre.length)) (cs.length + 1) c' S') Q := by
   intro c' hj hc'
   obtain ⟨j, js, rfl⟩ : ∃ j js', js = j :: js' := by
    cases js with
    | nil => simp at hj
    | cons j js' => exact ⟨j, js', rfl⟩
   refine ok_stn hp' (by simp; omega) (d := pre ++ ((cs ++ [x]) ++ (js ++ tl))) ?_ (fun S' h' => ?_)
   ·have e0 : pre ++ (cs ++ (j :: js ++ tl)) = (pre ++ cs) ++ ([j] ++ (js ++ tl)) := by simp
    have el : pre.length + cs.length * 1 = (pre ++ cs).length := by simp
    rw [e0, el, splice, List.take_left, ← List.append_assoc (pre ++ cs) [j], List.drop_left' (by simp; omega)]
    simp
   ·refine ht _ _ _ [C bn (pre ++ ((cs ++ [x]) ++ (js ++ tl)))] _ (.inr ⟨bn, pre, js, tl, rfl, by simp, ?_, rfl⟩) (h'.re (M := C b5 [x] :: ([C bn (pre ++ ((cs ++ [x]) ++ (js ++ tl)))] ++ F)) (by intro p; simp only [List.countP_append, List.countP_cons, List.countP_nil, C]; omega)).drop1
    rw [show (cs ++ [x]).length + js.length = cs.length + (j :: js).length by simp; omega]
    exact hc'
  have hk : Hp X (S.kill bn) F := by
   have hn := hp'.nd
   simp only [List.map_cons, List.nodup_cons] at hn
   have h3 := hp'.drop1.drop1
   refine ⟨h3.ro, h3.lp, h3.nd, fun b1 o1 hm => ?_, h3.lt⟩
   simp only [AS.kill, Tr.get_set]
   rw [if_neg (fun he => hn.1 (by rw [← he]; exact List.mem_cons_of_mem _ (List.mem_map_of_mem hm)))]
   exact h3.got b1 o1 hm
  rcases hc with rfl | rfl
  ·simp only [appendA, forceL_eq, if_pos h1, if_pos h2]
   by_cases hj : cs.length + 1 ≤ cs.length + js.length
   ·rw [if_pos hj, hsrc]
    exact room _ (by omega) (.inl rfl)
   ·rw [if_neg hj]
    have e : ∀ (K' : List AV → RV), firstA S 1 cs.length (.sl (some (.rw bn, pre.length)) cs.length (.ex (cs.length + js.length))) K' = K' cs := fun K' =>
     RdR.first (.rw (X := X) (b := bn) (i := pre.length) (c := pre ++ (cs ++ (js ++ tl))) (cs := cs) (L := _) List.mem_cons_self (by simp) (by rw [List.drop_left, List.take_left])) hp' (by omega) (by omega) K'
    rw [e, hsrc]
    have hh := (hp'.drop1.drop1).new (.cells (cs ++ [x]))
    exact ht _ _ _ [C S.next (cs ++ [x])] _ (.inr ⟨S.next, [], [], [], rfl, by simp, .inr (by simp), by simp⟩) hh
  ·simp only [appendA, forceL_eq, if_pos h1, if_pos h2, if_neg (show ¬ (1 = 0) by omega), if_true]
   by_cases hj : cs.length + 1 ≤ cs.length + js.length
   ·rw [if_pos hj, hsrc]
    exact room _ (by omega) (.inr rfl)
   ·rw [if_neg hj]
    have e : ∀ (K' : List AV → RV), S.ldn (.rw bn) pre.length (cs.length * 1) K' = K' cs := fun K' => by
     simp only [AS.ldn_eq, hp'.blk bn, if_pos hle0, htk]
    rw [e, hsrc]
    have hh := hk.new (.cells (cs ++ [x]))
    exact ht _ _ _ [C S.next (cs ++ [x])] _ (.inr ⟨S.next, [], [], [], rfl, by simp, .inr (by simp), by simp⟩) hh
end
end Go.Jn.P
namespace Go.Jn.P
open Go.Gr Go.Jn
structure CI (count k K : Nat) (t : St) (J : JM) (A B : List Rec) (xs : List Tx) : Prop where
 si : SI t count K
 sk : SK k t
 cr : Cr count k t J A B
 f0 : J.first = 0
 co : J.count = count
 xl : ptx xs = (A ++ B).map (·.tx)
section
variable {X : Cx} {S : AS} {L F G Lj Ls : List Ent} {b bj sb : Nat} {Q : AV → AS → Prop} {J : JM} {k N K count : Nat} {t : St} {A B : List Rec} {xs : List Tx}
theorem CI.up (h : CI count k K t J A B xs) {m M : Nat} (h1 : k ≤ m) (h2 : m ≤ 100000) (h3 : K ≤ M) : CI count m M t J A B xs := ⟨⟨h.si.len, h.si.f, Nat.le_trans h.si.q h3, h.si.r⟩, h.sk.up h1, h.cr.up h1 h2, h.f0, h.co, h.xl⟩
theorem CI.ln (h : CI count k K t J A B xs) : xs.length = J.l.length ∧ J.l.length ≤ 38 := by
 have h1 := congrArg List.length h.xl
 rw [ptx, List.length_map, List.length_map, List.length_append] at h1
 exact ⟨by rw [h1, h.cr.ln], h.cr.ji.lcount⟩
theorem chk3 (n : Nat) (hJ : JI J k) (h : Hp X S (Ls ++ (Lj ++ G))) (hj : JB bj sb J Lj) {w8 w9 wl : Int} (h9 : w9 = J.sy) (h8 : w8 = J.sup.ls) (hl : wl = J.sup.ls + J.l.length) {NX : AS → RV} (ht : Ok (NX S) Q) :
 Ok (callI .u64 (evF E orcL (n + 1)) 28 [.ptr (some (.rw bj, 0))] S fun v46 S45 => cond ((IntKind.wrap .i64 v46) != w9) (some ((.bool false), S45)) (
  callI .u64 (evF E orcL (n + 1)) 15 [.ptr (some (.rw bj, 0))] S45 fun v48 S47 => cond ((IntKind.wrap .i64 v48) != w8) (some ((.bool false), S47)) (
  callI .u64 (evF E orcL (n + 1)) 29 [.ptr (some (.rw bj, 0))] S47 fun v50 S49 => cond ((IntKind.wrap .i64 v50) != wl) (some ((.bool false), S49)) (NX S49)))) Q := by
 subst h9; subst h8; subst hl
 have h' : Hp X S (Lj ++ (Ls ++ G)) := h.re (by intro p; simp only [List.countP_append]; omega)
 have h1 := hJ.sy
 have h2 := hJ.ls
 have h3 := hJ.lcount
 have h4 := hJ.k1
 rw [callI_of (show evF E orcL (n + 1) (.fn 28) [.ptr (some (.rw bj, 0))] S = _ from synced_eq n h' hj)]
 refine ok_false (by rw [wz (x := J.sy) rfl (by omega) (by omega)]; simp) ?_
 rw [callI_of (show evF E orcL (n + 1) (.fn 15) [.ptr (some (.rw bj, 0))] S = _ from trimmed_eq n h' hj)]
 refine ok_false (by rw [wz (x := J.sup.ls) rfl (by omega) (by omega)]; simp) ?_
 rw [callI_of (show evF E orcL (n + 1) (.fn 29) [.ptr (some (.rw bj, 0))] S = _ from last_eq n hJ h' hj)]
 exact ok_false (by rw [wz (x := J.sup.ls + (J.l.length : Nat)) rfl (by omega) (by omega)]; simp) ht
theorem live3q (n : Nat) (S : AS) (K : Bool → AS → RV) (ht : Ok (K true S) Q) : Ok (callB (evF E orcL (n + 1)) 7 [] S K) Q := by
 rw [callB_of (S' := S) (v := true) (by simp [evF, orcL])]; exact ht
theorem ptx_take (xs : List Tx) (m : Nat) : ptx (xs.take m) = (ptx xs).take m := by simp [ptx, List.map_take]
theorem ptx_len (xs : List Tx) : (ptx xs).length = xs.length := by simp [ptx]
theorem trows_flat (xs : List Tx) : (trows xs).flatten.length = xs.length := by rw [flat1 (trows_all xs), trows_len]
theorem trows_flat_take (xs : List Tx) (m : Nat) : (trows xs).flatten.take m = (trows (xs.take m)).flatten := by
 have := flat_take m (trows_all xs)
 rw [Nat.mul_one] at this
 rw [this]; simp [trows, List.map_take]
theorem trows_flat_drop (xs : List Tx) (m : Nat) : (trows xs).flatten.drop m = (trows (xs.drop m)).flatten := by
 have := flat_drop m (trows_all xs)
 rw [Nat.mul_one] at this
 rw [this]; simp [trows, List.map_drop]
theorem okT_len {p : List Pt} (h : okT p = true) : p.length ≤ 64 := by
 simp only [okT, Bool.and_eq_true, decide_eq_true_eq] at h; omega
theorem crash_loop (n0 n : Nat) (hn : 1048600 < n) (h6 : 6 ≤ count) (h40 : count ≤ 40) {acts : List Ac} (hacts : acts.length ≤ 30) (htx : ∀ y ∈ acts, y.tx.length ≤ 300) (hB : ∀ y ∈ acts, AcP X F y) {a1 : OP} {c1 : Cap} (hr1 : RdR X F a1 (acrows acts).flatten) :
 ∀ (m i bj : Nat) (J : JM) (t : St) (A B : List Rec) (xs : List Tx) (a : OP) (l : Nat) (c : Cap) (Ls Lj Lg Ld M : List Ent) (S : AS), i ≤ acts.length → acts.length - i < m → CI count (50 + 40 * i) (1 + 40 * i) t J A B xs → StB sb t Ls → JB bj sb J Lj → LgP a l c (trows xs).flatten Lg → TxV X Ld xs → Hp X S (Ls ++ (Lj ++ (Lg ++ (Ld ++ (M ++ F))))) →
   Ok (J5_lZAb (evF E orcL (n + 8)) n0 m count a1 acts.length c1 false (some (.rw sb, 0)) (some (.rw bj, 0)) a l c J.sup.ls J.sy i S) TrueQ
 | 0, i, bj, J, t, A, B, xs, a, l, c, Ls, Lj, Lg, Ld, M, S, hi, hm, hCI, hb, hj, hlg, hxv, h => by omega
 | m + 1, i, bj, J, t, A, B, xs, a, l, c, Ls, Lj, Lg, Ld, M, S, hi, hm, hCI, hb, hj, hlg, hxv, h => by
   have hJ := hCI.cr.ji
   have hll := hlg.len
   rw [trows_flat] at hll
   subst hll
   obtain ⟨x1, x2⟩ := hCI.ln
   have q4 := hJ.ls
   have q9 := hJ.sy
   have hf0 := hCI.f0
   have hco := hCI.co
   have hww : IntKind.wrap .i64 (J.sup.ls + ((xs.length : Nat) : Int)) = J.sup.ls + (J.l.length : Nat) := by
    rw [x1]; exact wz rfl (by omega) (by omega)
   rw [J5_lZAb_succ]
   simp only [b5_lZAb]
   refine ok_cond (fun hc => ?_) (fun hc => live3q (n + 7) S _ (ok_ret rfl))
   simp only [decide_eq_true_eq] at hc
   have hlt : i < acts.length := by omega
   obtain ⟨y, hy⟩ : ∃ y, acts[i]? = some y := ⟨_, List.getElem?_eq_getElem hlt⟩
   have hym := List.mem_of_getElem? hy
   obtain ⟨hyB, ⟨ks, hkl, hks⟩, hfb⟩ := hB y hym
   have hyx := htx y hym
   obtain ⟨p, hp⟩ := ac_some hr1 hlt
   have hr2 : ∀ {M : List Ent} {cs : List AV}, RdR X M a1 cs → RdR X M (some p) cs := fun h => by rw [← hp]; exact h
   rw [show ixSl 5 a1 acts.length (i : Int) = ixSl 5 (some p) acts.length (i : Int) by rw [hp]]
   rw [ixSl_at rfl hlt, (hr2 (hr1.mono (fun e he => by simp [he]))).elem h (acrows_all _) (acrows_at hy)]
   refine ok_newA h (fun b19 S20 h20 => ok_ifO rfl (ok_stn h20 (by simp [acrow]) (d := acrow y) (by simp [splice, acrow]) (fun S21 h21 => ok_ldI h21 rfl ?_)))
   rw [wn (x := (i : Int) + 1) (n := i + 1) (by omega) (by omega)]
   have go : ∀ (bj' : Nat) (J' : JM) (t' : St) (A' B' : List Rec) (xs' : List Tx) (a' : OP) (l' : Nat) (c' : Cap) (w8 w9 : Int) (Ls' Lj' Lg' Ld' M' : List Ent) (S' : AS), w8 = J'.sup.ls → w9 = J'.sy → CI count (50 + 40 * (i + 1)) (1 + 40 * (i + 1)) t' J' A' B' xs' → StB sb t' Ls' → JB bj' sb J' Lj' → LgP a' l' c' (trows xs').flatten Lg' → TxV X Ld' xs' → Hp X S' (Ls' ++ (Lj' ++ (Lg' ++ (Ld' ++ (M' ++ F))))) →
    Ok (J5_lZAb (evF E orcL (n + 8)) n0 m count a1 acts.length c1 false (some (.rw sb, 0)) (some (.rw bj', 0)) a' l' c' w8 w9 (i + 1 : Nat) S') TrueQ := fun bj' J' t' A' B' xs' a' l' c' w8 w9 Ls' Lj' Lg' Ld' M' S' e8 e9 g1 g2 g3 g4 g5 g6 => by
    subst e8; subst e9
    exact crash_loop n0 n hn h6 h40 hacts htx hB hr1 m (i + 1) bj' J' t' A' B' xs' a' l' c' Ls' Lj' Lg' Ld' M' S' (by omega) (by omega) g1 g2 g3 g4 g5 g6
   have hup : CI count (50 + 40 * (i + 1)) (1 + 40 * (i + 1)) t J A B xs := hCI.up (by omega) (by omega) (by omega)
   have h21s : Hp X S21 (Ls ++ (Lj ++ (Lg ++ (Ld ++ ((C b19 (acrow y) :: M) ++ F))))) := h21.re (by intro p; simp only [List.countP_append, List.countP_cons, List.cons_append, C]; omega)
   have same : ∀ (S' : AS) (M' : List Ent), Hp X S' (Ls ++ (Lj ++ (Lg ++ (Ld ++ (M' ++ F))))) → Ok (J5_lZAb (evF E orcL (n + 8)) n0 m count a1 acts.length c1 false (some (.rw sb, 0)) (some (.rw bj, 0)) a xs.length c J.sup.ls J.sy (i + 1 : Nat) S') TrueQ := fun S' M' h' =>
    go bj J t A B xs a xs.length c _ _ Ls Lj Lg Ld M' S' rfl rfl hup hb hj hlg hxv h'
   refine ok_cond (fun k1 => ?_) (fun k1 => ok_cond (fun k2 => ?_) (fun k2 => ok_cond (fun k3 => ?_) (fun k3 => ok_cond (fun k4 => ?_) (fun k4 => ?_))))
   · -- appended
     refine ok_ldL h21s rfl ?_
     have sub1 : ∀ {L1 : List Ent}, ∀ e ∈ F, e ∈ L1 ++ (M ++ F) := fun e he => by simp [he]
     obtain ⟨v, S24, e24, qs, a24, c24, Lr, Lq, rfl, hP, hs24, hd24, h24⟩ : Ok (evF E orcL (n + 8) (.fn 12) [.sl y.ta y.tx.length y.tc] S21) _ := own2_ok (n + 7) (by omega) (by omega) h21s (hyB.rt.mono (fun e he => by simp [he])) (hyB.vt.mono (fun e he => by simp [he])) hyB.lt
     rw [callL_of e24]
     have h24s : Hp X S24 (Ls ++ (Lj ++ (Lr ++ (Lq ++ (Lg ++ (Ld ++ ((C b19 (acrow y) :: M) ++ F))))))) := h24.re (by intro p; simp only [List.countP_append, List.countP_cons, List.cons_append, C]; omega)
     obtain ⟨v, S26, e26, Ls', Lj', rfl, hb', hSI', hj', h26⟩ : Ok (evF E orcL (n + 8) (.fn 11) [.ptr (some (.rw bj, 0)), .sl a24 qs.length c24] S24) _ := append_ok (n + 4) (by omega) hJ (K := 1 + 40 * i) (by omega) (N := count) (by omega) h40 hCI.si h24s hj hb (hs24.rd (fun e he => by simp [he])) (hd24.psv.mono (fun e he => by simp [he]))
     rw [callT_of e26]
     rw [hP] at hb' hSI' hj' ⊢
     refine ok_atI rfl (ok_atI rfl ?_)
     rw [callI_of (num_eq (n + 7) _ S26)]
     have h26s : Hp X S26 (Ls' ++ (Lj' ++ (Lg ++ (Ld ++ ((Lr ++ (Lq ++ (C b19 (acrow y) :: M))) ++ F))))) := h26.re (by intro p; simp only [List.countP_append, List.countP_cons, List.cons_append, C]; omega)
     by_cases hgo : apGo J (pts y.tx) = true
     ·obtain ⟨hcr, hR1⟩ := hCI.cr.ap (t := t) (by omega) hgo
      obtain ⟨g1, g2⟩ := apGo_iff.1 hgo
      have hE : apE J t (pts y.tx) = 0 := by rw [apE, if_pos g1, if_pos hgo, if_pos hR1]
      have hN : apN J t (pts y.tx) = J.sup.ls + (J.l.length : Nat) + 1 := by rw [apN, if_pos hE]
      have hJ2 : apJ J t (pts y.tx) = { J with l := J.l ++ [(rec1 J (pts y.tx)).o], se := J.se + 1 } := by rw [apJ, if_pos hgo, if_pos hR1]; rfl
      have hln2 : (apJ J t (pts y.tx)).l.length = J.l.length + 1 := by rw [hJ2]; simp
      rw [hE, hN]
      refine ok_true (by simp) (ok_ldL h26s rfl ?_)
      obtain ⟨v, S33, e33, ps, a33, c33, Lr3, Lq3, rfl, hP3, hs33, hd33, h33⟩ : Ok (evF E orcL (n + 8) (.fn 12) [.sl y.ta y.tx.length y.tc] S26) _ := own2_ok (n + 7) (by omega) (by omega) h26s (hyB.rt.mono (fun e he => by simp [he])) (hyB.vt.mono (fun e he => by simp [he])) hyB.lt
      rw [callL_of e33]
      refine ok_newA h33 (fun b35 S36 h36 => ?_)
      have h36s : Hp X S36 (Lg ++ (C b35 [.sl a33 ps.length c33] :: (Ls' ++ (Lj' ++ ((Lr3 ++ (Lq3 ++ Ld)) ++ ((Lr ++ (Lq ++ (C b19 (acrow y) :: M))) ++ F)))))) := h36.re (by intro p; simp only [List.countP_append, List.countP_cons, List.cons_append, C]; omega)
      refine lg_push (by omega) (by rw [trows_flat]; omega) hlg h36s (fun a5 l5 c5 L5 S38 hlg5 h38 => ?_)
      have hx5 : (trows xs).flatten ++ [.sl a33 ps.length c33] = (trows (xs ++ [⟨ps, a33, c33⟩])).flatten := by rw [trows_append, List.flatten_append]; rfl
      rw [hx5] at hlg5
      have hl5 := hlg5.len
      rw [trows_flat, List.length_append, List.length_singleton] at hl5
      subst hl5
      have hJI2 := hcr.ji
      have e0 : (apJ J t (pts y.tx)).sup = J.sup := by rw [hJ2]
      have e0' : (apJ J t (pts y.tx)).sy = J.sy := by rw [hJ2]
      have hww2 : IntKind.wrap .i64 (J.sup.ls + ((xs.length + 1 : Nat) : Int)) = J.sup.ls + ((J.l.length + 1 : Nat) : Int) := by
       rw [x1]; exact wz rfl (by omega) (by omega)
      rw [hww2]
      refine ok_false (by rw [wz (x := J.sup.ls + (J.l.length : Nat) + 1) rfl (by omega) (by omega)]; simp; omega) ?_
      have h38s : Hp X S38 (Ls' ++ (Lj' ++ (L5 ++ ((Lr3 ++ (Lq3 ++ Ld)) ++ ((Lr ++ (Lq ++ (C b19 (acrow y) :: M))) ++ F))))) := h38.re (by intro p; simp only [List.countP_append, List.countP_cons, List.cons_append, C]; omega)
      refine chk3 (n + 7) hJI2 h38s hj' (by rw [e0']) (by rw [e0]) (by rw [e0, hln2]) ?_
      refine go bj (apJ J t (pts y.tx)) (apT J t (pts y.tx)) A (B ++ [rec1 J (pts y.tx)]) (xs ++ [⟨ps, a33, c33⟩]) a5 (xs.length + 1) c5 _ _ Ls' Lj' L5 (Lr3 ++ (Lq3 ++ Ld)) _ S38 (by rw [e0]) (by rw [e0']) ?_ hb' hj' hlg5 ?_ h38s
      ·refine ⟨⟨hSI'.len, hSI'.f, by have := hSI'.q; omega, hSI'.r⟩, (ap_SK hJ (by omega) hCI.sk _).up (by omega), hcr.up (by omega) (by omega), by rw [hJ2]; exact hf0, by rw [hJ2]; exact hco, ?_⟩
       rw [← List.append_assoc, List.map_append, ← hCI.xl, ptx, List.map_append]
       show _ ++ [pts ps] = _ ++ [pts y.tx]
       rw [hP3]; rfl
      ·intro x hx
       rcases List.mem_append.1 hx with hx | hx
       ·exact ⟨(hxv x hx).1.mono (fun e he => by simp [he]), (hxv x hx).2.mono (fun e he => by simp [he])⟩
       ·rw [List.mem_singleton.1 hx]
        exact ⟨hs33.rd (fun e he => by simp [he]), hd33.psv.mono (fun e he => by simp [he])⟩
     ·have hE : apE J t (pts y.tx) ≠ 0 := by
       by_cases ho : okT (pts y.tx) = true
       ·rw [apE, if_pos ho, if_neg hgo]; omega
       ·rw [apE, if_neg ho]; omega
      have hJ2 : apJ J t (pts y.tx) = J := by rw [apJ, if_neg hgo]
      have hT2 : apT J t (pts y.tx) = t := by rw [apT, if_neg hgo]
      rw [hJ2] at hj'
      rw [hT2] at hb'
      refine ok_false (by simpa using hE) ?_
      rw [hww]
      refine chk3 (n + 7) hJ h26s hj' rfl rfl rfl ?_
      exact go bj J t A B xs a xs.length c _ _ Ls' Lj' Lg Ld _ S26 rfl rfl hup hb' hj' hlg hxv h26s
   · -- synced
     obtain ⟨v, S51, e51, rfl, Ls', Lj', hb', hSI', hj', h51⟩ : Ok (evF E orcL (n + 8) (.fn 14) [.ptr (some (.rw bj, 0))] S21) _ := sync_ok (n + 6) (by omega) hJ (K := 1 + 40 * i) (by omega) hCI.si h21s hj hb
     rw [callI_of e51, callI_of (num_eq (n + 7) _ S51), hww]
     have hcr := hCI.cr.sync
     refine ok_false rfl (chk3 (J := J.sync) (n + 7) hcr.ji h51 hj' rfl rfl rfl ?_)
     exact go bj J.sync t.fl (A ++ B) [] xs a xs.length c _ _ Ls' Lj' Lg Ld _ S51 rfl rfl ⟨⟨hSI'.len, hSI'.f, by have := hSI'.q; omega, hSI'.r⟩, hCI.sk.fl.up (by omega), hcr.up (by omega) (by omega), hf0, hco, by rw [List.append_nil]; exact hCI.xl⟩ hb' hj' hlg hxv h51
   · -- trimmed
     refine ok_ldI h21s rfl ?_
     obtain ⟨v, S62, e62, rfl, Ls', Lj', hb', hSI', hj', h62⟩ : Ok (evF E orcL (n + 8) (.fn 16) [.ptr (some (.rw bj, 0)), .int .u64 y.lsn] S21) _ := trim_ok (n + 3) (by omega) hJ (K := 1 + 40 * i) (N := count) (by omega) (by omega) hCI.si hyB.ll h21s hj hb
     rw [callI_of e62, callI_of (num_eq (n + 7) _ S62)]
     have hw0 : wE t = 0 := wE_go hCI.cr.f
     by_cases hg : J.trG y.lsn = true
     ·obtain ⟨he, hne⟩ := trG_iff.1 hg
      obtain ⟨t1, t2⟩ := trE_iff.1 he
      obtain ⟨hN, hNi⟩ := trN_le hJ he
      have hA : trA J t y.lsn = 0 := by rw [trA, if_pos hg]; exact hw0
      have hcr := hCI.cr.tr (t := t) (by omega) hg
      have hf : ¬ t.f = 0 := by rw [hCI.cr.f]; omega
      have hJ2 : trJ J t y.lsn = { J with sup := { supT J y.lsn (J.trN y.lsn) with g := J.sup.g + 1 }, l := J.l.drop (J.trN y.lsn), sy := y.lsn + (J.l.drop (J.trN y.lsn)).length } := by rw [trJ, if_pos hg, if_neg hf]
      have hls2 : (trJ J t y.lsn).sup.ls = y.lsn := by
       rw [hJ2]
       exact (supT_facts hJ y.lsn (J.trN y.lsn) hN).2.2.1
      have hl2 : (trJ J t y.lsn).l.length = xs.length - J.trN y.lsn := by rw [hJ2]; simp; omega
      have hsy2 : (trJ J t y.lsn).sy = J.sup.ls + (J.l.length : Nat) := by
       rw [hJ2]
       show y.lsn + ((J.l.drop (J.trN y.lsn)).length : Nat) = _
       rw [List.length_drop]; omega
      rw [hA]
      have hwl : IntKind.wrap .i64 y.lsn = y.lsn := wz rfl (by omega) (by omega)
      refine ok_true (by simp) (ok_ldI h62 rfl ?_)
      rw [hwl]
      refine ok_true (by simp; omega) (ok_ldI h62 rfl ?_)
      have hcn : IntKind.wrap .i64 (IntKind.wrap .i64 y.lsn - J.sup.ls) = ((J.trN y.lsn : Nat) : Int) := by
       rw [hwl]; exact wz (by omega) (by omega) (by omega)
      rw [hcn]
      obtain ⟨a', c', hlg', hcut⟩ := lg_cut hlg (k := J.trN y.lsn) (by rw [trows_flat]; omega) (β := AV × AS) (fun v68a v68l v68c =>
       ldI .u64 S62 (.rw b19) 2 fun v69 =>
       callI .u64 (evF E orcL (n + 8)) 28 [(.ptr (some (.rw bj, 0)))] S62 fun v71 S70 =>
       cond ((IntKind.wrap .i64 v71) != (J.sup.ls + (J.l.length : Nat))) (
       some ((.bool false), S70)) (
       callI .u64 (evF E orcL (n + 8)) 15 [(.ptr (some (.rw bj, 0)))] S70 fun v73 S72 =>
       cond ((IntKind.wrap .i64 v73) != (IntKind.wrap .i64 v69)) (
       some ((.bool false), S72)) (
       callI .u64 (evF E orcL (n + 8)) 29 [(.ptr (some (.rw bj, 0)))] S72 fun v75 S74 =>
       cond ((IntKind.wrap .i64 v75) != (IntKind.wrap .i64 ((IntKind.wrap .i64 v69) + ((v68l : Nat) : Int)))) (
       some ((.bool false), S74)) (
       J5_lZAb (evF E orcL (n + 8)) n0 m count a1 acts.length c1 false (some (.rw sb, 0)) (some (.rw bj, 0)) v68a v68l v68c (IntKind.wrap .i64 v69) (J.sup.ls + (J.l.length : Nat)) (i + 1 : Nat) S74))))
      rw [trows_flat] at hlg' hcut
      rw [hww, hcut]
      refine ok_ldI h62 rfl ?_
      rw [hwl]
      refine chk3 (n + 7) hcr.ji h62 hj' hsy2.symm hls2.symm (by rw [hls2, hl2]; exact wz rfl (by omega) (by omega)) ?_
      rw [trows_flat_drop] at hlg'
      refine go bj (trJ J t y.lsn) (trT J t y.lsn) ((A ++ B).drop (J.trN y.lsn)) [] (xs.drop (J.trN y.lsn)) a' _ c' _ _ Ls' Lj' Lg Ld _ S62 hls2.symm hsy2.symm ?_ hb' hj' hlg' (fun x hx => hxv x (List.mem_of_mem_drop hx)) h62
      refine ⟨⟨hSI'.len, hSI'.f, by have := hSI'.q; omega, hSI'.r⟩, (tr_SK hJ (by omega) hCI.sk _).up (by omega), hcr.up (by omega) (by omega), by rw [hJ2]; exact hf0, by rw [hJ2]; exact hco, ?_⟩
      rw [List.append_nil, List.map_drop, ← hCI.xl]; simp [ptx, List.map_drop]
     ·have hJ2 : trJ J t y.lsn = J := by rw [trJ, if_neg hg]
      have hT2 : trT J t y.lsn = t := by rw [trT, if_neg hg]
      have hA : trA J t y.lsn = J.trE y.lsn := by rw [trA, if_neg hg]
      rw [hJ2] at hj'
      rw [hT2] at hb'
      rw [hA, hww]
      refine ok_cond (fun c2 => ?_) (fun c2 => ?_)
      ·simp only [beq_iff_eq] at c2
       have hls : y.lsn = J.sup.ls := by
        by_cases hne : y.lsn = J.sup.ls
        ·exact hne
        ·exact absurd (trG_iff.2 ⟨c2, hne⟩) hg
       refine ok_ldI h62 rfl ?_
       refine ok_false (by rw [hls, wz (x := J.sup.ls) rfl (by omega) (by omega)]; simp) ?_
       refine chk3 (n + 7) hJ h62 hj' rfl rfl rfl ?_
       exact go bj J t A B xs a xs.length c _ _ Ls' Lj' Lg Ld _ S62 rfl rfl hup hb' hj' hlg hxv h62
      ·refine chk3 (n + 7) hJ h62 hj' rfl rfl rfl ?_
       exact go bj J t A B xs a xs.length c _ _ Ls' Lj' Lg Ld _ S62 rfl rfl hup hb' hj' hlg hxv h62
   · -- a crash
     refine ok_ldL h21s rfl ?_
     rw [← hkl]
     obtain ⟨v, S89, e89, rfl, Ls', hb', h89⟩ : Ok (evF E orcL (n + 8) (.fn 24) [.ptr (some (.rw sb, 0)), .sl y.ka ks.length y.kc] S21) _ := crash_ok (n + 7) (by omega) hCI.si (by omega) (hks.mono (fun e he => by simp [he])) (by have := hyB.lk; omega) hb h21s
     rw [callT_of e89]
     have hSIc := hCI.si.cr ks
     have hSKc := hCI.sk.cr ks
     have hct : crT t ks = ⟨crS ks t.q t.s t.q.length, [], -1⟩ := by rw [crT, hCI.cr.f]
     have hslen : (crS ks t.q t.s t.q.length).length = count := by rw [crS_len]; exact hCI.cr.len
     have hGt := gt_cr ks t.q t.s t.q.length
     rw [hct] at hb' hSIc hSKc
     generalize crS ks t.q t.s t.q.length = s' at hb' hSIc hSKc hslen hGt
     have e00 : ((0 : Int)) = ((J.first : Nat) : Int) := by rw [hf0]; rfl
     have e01 : ((count : Nat) : Int) = ((J.count : Nat) : Int) := by rw [hco]
     obtain ⟨v, S91, e91, Ls2, hb2, q1, q2⟩ : Ok (evF E orcL (n + 8) (.fn 25) [dev sb, .int .i64 (J.first : Nat), .int .i64 (J.count : Nat)] S89) _ := open_ok (n + 1) (by omega) hSIc (by omega) h40 hSKc (by omega) hb' h89
     obtain ⟨o1, o2, o3⟩ := op_facts hSIc h40 hSKc (by omega) ((J.first : Nat) : Int) ((J.count : Nat) : Int)
     have hE : opE ⟨s', [], -1⟩ ((J.first : Nat) : Int) ((J.count : Nat) : Int) = 0 := by
      have hsp : SupOk s' J := supOk_gt hCI.cr.sm hCI.cr.q hGt hCI.cr.sp
      have hsup : supA ⟨s', [], -1⟩ J.first = some J.sup := supA_ok rfl hJ hsp
      rw [opE, if_pos (fitE_iff.2 ⟨by omega, by omega, by show _ ≤ ((s'.length : Nat) : Int); omega⟩), Int.toNat_natCast, hsup]; rfl
     obtain ⟨w1, w2⟩ := o3 hE
     obtain ⟨c1', mm, m1, m2, c2, c3, c4, c5, c6⟩ := hCI.cr.op (by omega) h40 hGt hslen w1
     obtain ⟨bj2, zs, za, zc, Lo, Lz, Lj2, rfl, z1, z2, z3, z4, hj2, h91⟩ := q2 hE
     have hzl : zs.length = mm := by
      have := congrArg List.length (z2.trans c2)
      rw [ptx_len, List.length_map, List.length_take] at this
      omega
     have hxl : xs.length = (A ++ B).length := by
      have := congrArg List.length hCI.xl
      rwa [ptx_len, List.length_map] at this
     rw [show dev sb = (.iface 25 (.ptr (some (.rw sb, 0))) : AV) from rfl] at e91
     rw [← e01, ← e00] at e91
     rw [callT_of e91]
     refine ok_atP rfl (ok_atL rfl (ok_atI rfl ?_))
     rw [callI_of (num_eq (n + 7) _ S91)]
     refine ok_false rfl (ok_false rfl (ok_false (by simp; omega) ?_))
     have hsyA := hCI.cr.sy
     rw [wz (x := J.sup.ls + ((zs.length : Nat) : Int)) rfl (by omega) (by omega)]
     refine ok_false (by simp; omega) ?_
     rw [lg_take hlg (k := zs.length) (by rw [trows_flat]; omega)]
     have h91s : Hp X S91 (Ls2 ++ (Lj2 ++ (Lo ++ (Lz ++ ((Lj ++ (Lg ++ (Ld ++ (C b19 (acrow y) :: M)))) ++ F))))) := h91.re (by intro p; simp only [List.countP_append, List.countP_cons, List.cons_append, C]; omega)
     have h64 : ∀ x ∈ ptx zs, x.length ≤ 64 := fun x hx => by
      rw [z2, c2] at hx
      obtain ⟨r, hr, rfl⟩ := List.mem_map.1 hx
      exact okT_len (hCI.cr.ok r (List.mem_of_mem_take hr)).k
     have hyl : (xs.take zs.length).length = zs.length := by rw [List.length_take]; omega
     have hsame : evF E orcL (n + 8) (.fn 26) [.sl za zs.length zc, .sl a zs.length c] S91 = some (.bool true, S91) := by
      have := sameTx_eq (X := X) (S := S91) (n + 6) (by omega) (xs := zs) (ys := xs.take zs.length) (xa := za) (ya := a) (xc := zc) (yc := c) (by omega) (by rw [ptx_take, hCI.xl, z2, c2, hzl, List.map_take]) h64 (z3.rd (fun e he => by simp [he])) (by
       have := hlg.rd (M := Ls2 ++ (Lj2 ++ (Lo ++ (Lz ++ ((Lj ++ (Lg ++ (Ld ++ (C b19 (acrow y) :: M)))) ++ F))))) (X := X) (fun e he => by simp [he]) zs.length
       rwa [trows_flat_take] at this) (z4.mono (fun e he => by simp [he])) (fun x hx => ⟨(hxv x (List.mem_of_mem_take hx)).1.mono (fun e he => by simp [he]), (hxv x (List.mem_of_mem_take hx)).2.mono (fun e he => by simp [he])⟩) h91s
      rw [hyl] at this
      exact this
     rw [callB_of hsame]
     refine ok_false rfl ?_
     generalize htt : opT ⟨s', [], -1⟩ ((J.first : Nat) : Int) ((J.count : Nat) : Int) = t2 at hb2 o1 o2 c3
     generalize hjj : opJ ⟨s', [], -1⟩ ((J.first : Nat) : Int) ((J.count : Nat) : Int) = J2 at hj2 w1 w2 c3 c4 c5 c6
     have hq2 : t2.q = [] := by
      cases hq : t2.q with
      | nil => rfl
      | cons e q =>
        obtain ⟨_, x, hx, _⟩ := c3.q.l e (by rw [hq]; simp)
        cases hx
     have ht2 := c3.again hq2
     obtain ⟨v, S101, e101, sb2, Lcp, rfl, hbc, h101⟩ : Ok (evF E orcL (n + 8) (.fn 27) [.ptr (some (.rw sb, 0))] S91) _ := copy_ok (n + 7) (by rw [o1.len]; omega) (by have := o1.q; omega) hb2 h91s
     rw [callP_of e101]
     obtain ⟨v, S103, e103, Ls3, hb3, r1, r2⟩ : Ok (evF E orcL (n + 8) (.fn 25) [dev sb2, .int .i64 (J2.first : Nat), .int .i64 (J2.count : Nat)] S101) _ := open_ok (n + 1) (by omega) o1 (by omega) h40 o2 (by omega) hbc h101
     obtain ⟨p1, p2, p3⟩ := op_facts o1 h40 o2 (by omega) ((J2.first : Nat) : Int) ((J2.count : Nat) : Int)
     have hE2 : opE t2 ((J2.first : Nat) : Int) ((J2.count : Nat) : Int) = 0 := by
      have hsup : supA t2 J2.first = some J2.sup := supA_ok hq2 c3.ji c3.sp
      have hl2 := o1.len
      rw [opE, if_pos (fitE_iff.2 ⟨by omega, by omega, by omega⟩), Int.toNat_natCast, hsup]
      exact wE_go c3.f
     have hop2 := c3.op (by omega) h40 (s' := t2.s) (fun b hb => .inl rfl) c3.len (by rw [← ht2]; exact (p3 hE2).1)
     rw [← ht2] at hop2
     obtain ⟨_, m3, m4, m5, c7, _⟩ := hop2
     have hm3 : m3 = ((A ++ B).take mm).length := by rw [List.append_nil] at m5; omega
     obtain ⟨bj3, us, ua, uc, Lo3, Lz3, Lj3, rfl, u1, u2, u3, u4, hj3, h103⟩ := r2 hE2
     rw [show dev sb2 = (.iface 25 (.ptr (some (.rw sb2, 0))) : AV) from rfl] at e103
     rw [c4, c5, ← e01, ← e00] at e103
     rw [callT_of e103]
     refine ok_atP rfl (ok_atL rfl (ok_atI rfl ?_))
     rw [callI_of (num_eq (n + 7) _ S103)]
     refine ok_false rfl ?_
     have hpu : ptx us = ptx zs := by
      rw [u2, c7, z2, c2, List.append_nil, hm3, List.take_length]
     have h103s : Hp X S103 (Ls2 ++ (Lj2 ++ (Lo ++ (Lz ++ ((Lo3 ++ (Lz3 ++ (Ls3 ++ (Lj3 ++ (Lj ++ (Lg ++ (Ld ++ (C b19 (acrow y) :: M)))))))) ++ F))))) := h103.re (by intro p; simp only [List.countP_append, List.countP_cons, List.cons_append, C]; omega)
     have hsame2 : evF E orcL (n + 8) (.fn 26) [.sl ua us.length uc, .sl za zs.length zc] S103 = some (.bool true, S103) :=
      sameTx_eq (n + 6) (by omega) (by omega) hpu (by rw [hpu]; exact h64) (u3.rd (fun e he => by simp [he])) (z3.rd (fun e he => by simp [he])) (u4.mono (fun e he => by simp [he])) (z4.mono (fun e he => by simp [he])) h103s
     rw [callB_of hsame2]
     have hl2n : J2.l.length = zs.length := by rw [c3.ln, List.length_take, List.length_nil]; omega
     have hsy2 : J2.sy = J.sup.ls + ((zs.length : Nat) : Int) := by
      rw [c3.sy, c6, List.length_take]; omega
     refine ok_false rfl (chk3 (n + 7) c3.ji h103s hj2 hsy2.symm c6.symm (by rw [c6, hl2n]) ?_)
     refine go bj2 J2 t2 ((A ++ B).take mm) [] zs za zs.length zc _ _ Ls2 Lj2 Lo Lz _ S103 c6.symm hsy2.symm ?_ hb2 hj2 ?_ z4 h103s
     ·exact ⟨⟨o1.len, o1.f, by have := o1.q; omega, o1.r⟩, o2.up (by omega), c3.up (by omega) (by omega), by rw [c4]; exact hf0, by rw [c5]; exact hco, by rw [List.append_nil, z2, c2]⟩
     ·exact lg_of z3
   ·rw [hww]
    exact chk3 (n + 7) hJ h21s hj rfl rfl rfl (same S21 _ h21s)
theorem crashes_run (n : Nat) (hn : 1048600 < n) (x : Int) {acts : List Ac} {a1 : OP} {c1 : Cap} (hl : acts.length ≤ 1048576) (hB : ∀ y ∈ acts, AcP X F y) (hr1 : RdR X F a1 (acrows acts).flatten) (h : Hp X S F) :
 Ok (ev (n + 9) (.fn 5) [.int .i64 x, .sl a1 acts.length c1] S) TrueQ := by
 rw [ev, F5 _ _ _ _ _ _ (oL rfl)]
 simp only [J5, b5_entry]
 obtain ⟨v, S1, e1, r, rfl, rfl, hr⟩ : Ok (evF E orcL (n + 8) (.fn 6) [.sl a1 acts.length c1] S) _ := long_ok (n + 7) (by omega) (fun y hy => (hB y hy).b) hl hr1 h
 rw [callB_of e1]
 refine ok_cond (fun _ => live3q (n + 7) _ _ (ok_ret rfl)) (fun hc => ?_)
 obtain ⟨g1, g2⟩ := hr hc
 have htx : ∀ y ∈ acts, y.tx.length ≤ 300 := fun y hy => by
  have := wts_mem hy
  unfold wt at this
  omega
 by_cases hx : 6 ≤ x ∧ x ≤ 40
 ·obtain ⟨count, rfl⟩ : ∃ count : Nat, x = count := ⟨x.toNat, by omega⟩
  obtain ⟨v, S2, e2, sb, bj, t, J, Ls, Lj, rfl, hb, hSI, hSK, hj, hcr, hf0, hco, hls, h2⟩ : Ok (evF E orcL (n + 8) (.fn 8) [.int .i64 count] S1) _ := begunX_ok n (by omega) (by omega) (by omega) h
  rw [callT_of e2]
  refine ok_atP rfl (ok_atP rfl (ok_false rfl (ok_false rfl ?_)))
  have := crash_loop (sb := sb) (c1 := c1) (n + 8) n hn (by omega) (by omega) g1 htx hB hr1 (n + 8) 0 bj J t [] [] [] none 0 (.ex 0) Ls Lj [] [] [] S2 (by omega) (by omega) ⟨hSI, hSK, hcr, hf0, hco, rfl⟩ hb hj (.inl ⟨rfl, rfl, rfl, rfl, rfl⟩) (fun x hx => by cases hx) h2
  have hsy := hcr.sy
  rw [hls] at hsy this
  rw [hsy] at this
  exact this
 ·have hbg : evF E orcL (n + 8) (.fn 8) [.int .i64 x] S1 = some (.tup [.ptr none, .ptr none], S1) := by
   apply ok_eq
   rw [F8 _ _ _ (oL rfl)]
   simp only [J8, b8_entry]
   refine ok_cond (fun _ => ok_ret ⟨rfl, rfl⟩) (fun d1 => ok_cond (fun _ => ok_ret ⟨rfl, rfl⟩) (fun d2 => ?_))
   simp only [decide_eq_false_iff_not, gt_iff_lt] at d1 d2
   omega
  rw [callT_of hbg]
  refine ok_atP rfl (ok_atP rfl (ok_true rfl (ok_cond (fun _ => live3q (n + 7) _ _ (ok_ret rfl)) (fun d1 => ok_cond (fun _ => live3q (n + 7) _ _ (ok_ret rfl)) (fun d2 => ?_)))))
  simp only [decide_eq_false_iff_not, gt_iff_lt] at d1 d2
  omega
end
end Go.Jn.P
