/- What the functions of package disk do with a heap: copies, comparisons. -/
import Derived.Test.YtmehlagfkmnipaaDiskG
set_option linter.unusedVariables false
set_option linter.unusedSimpArgs false
set_option maxRecDepth 4000
namespace Go.Dk
open Go.Gr

section
variable {X : Cx} {S : AS} {L F : List Ent} {b : Nat} {D : DM}

theorem copy_ok (n : Nat) (h : Hp X S (L ++ F)) (hd : Disk b D L) :
    Ok (ev (n + 2) (.fn 26) [.ptr (some (.rw b, 0))] S) fun v S' => ∃ b' L', v = .ptr (some (.rw b', 0)) ∧ Disk b' D L' ∧ Hp X S' (L' ++ (L ++ F)) := by
  obtain ⟨sa, sl, sc, qa, ql, qc, Ls, Lq, hR, rfl⟩ := hd
  have hwf := hR.wf
  have hn2 := hwf.n2
  have hql4 := hwf.ql
  have := hR.sl_eq
  subst this
  have := hR.ql_eq
  subst this
  rw [ev, F26 _ _ _ (oL rfl)]
  simp only [J26, b26_entry]
  refine ok_false rfl (ok_gO (ok_ldn h (by simp [hdr]) (d := hdr D sa D.secs.length sc qa D.q.length qc) rfl ?_))
  refine ok_newA h (fun b3 S4 h => ?_)
  refine ok_ifO rfl ?_
  refine ok_stn h (by simp [hdr]) (d := hdr D sa D.secs.length sc qa D.q.length qc) (by simp [splice, hdr]) (fun S5 h5 => ?_)
  refine ok_gO (ok_ldL h5 rfl ?_)
  have hc1 : Ok (ev (n + 1) (.fn 47) [.sl sa D.secs.length sc] S5) fun v S' => ∃ a l c L', v = .sl a l c ∧ SlR a l c 513 (D.secs.map encSec) L' ∧ Hp X S' (L' ++ (C b3 (hdr D sa D.secs.length sc qa D.q.length qc) :: (C b (hdr D sa D.secs.length sc qa D.q.length qc) :: (Ls ++ Lq) ++ F))) := by
    rw [ev, F47 _ _ _ _ _ (oL rfl)]
    simp only [J47, b47_entry]
    exact ok_clone h5 (hR.hs.rd (by intro e he; simp [he])) hwf.enc (by simp) (by decide) (by simp [pow46]; omega) (by simp [pow46]; omega) rfl (fun a l c S' L' hs h => ⟨a, l, c, L', rfl, hs, h⟩)
  obtain ⟨v, S8, e, sa', sl', sc', L1, rfl, hs1, h8⟩ := hc1
  rw [callL_of e]
  refine ok_gO (ok_ldL h8 rfl (ok_ldL h5 rfl (ok_true (by simp [AV.beq]) ?_)))
  have hc2 : Ok (ev (n + 1) (.fn 43) [.sl qa D.q.length qc] S8) fun v S' => ∃ a l c L', v = .sl a l c ∧ SlR a l c 2 (D.q.map encW) L' ∧ Hp X S' (L' ++ (L1 ++ (C b3 (hdr D sa D.secs.length sc qa D.q.length qc) :: (C b (hdr D sa D.secs.length sc qa D.q.length qc) :: (Ls ++ Lq) ++ F)))) := by
    rw [ev, F43 _ _ _ _ _ (oL rfl)]
    simp only [J43, b43_entry]
    exact ok_clone h8 (hR.hq.rd (by intro e he; simp [he])) (encW_all _) (by simp) (by decide) (by simp [pow46]; omega) (by simp [pow46]; omega) rfl (fun a l c S' L' hs h => ⟨a, l, c, L', rfl, hs, h⟩)
  obtain ⟨v, S13, e, qa', ql', qc', L2, rfl, hs2, h13⟩ := hc2
  rw [callL_of e]
  refine ok_stn h13 (by simp [hdr]) (d := hdr D sa' sl' sc' qa D.q.length qc) (by simp [splice, hdr]) (fun S15 h => ?_)
  refine ok_stn h (by simp [hdr]) (d := hdr D sa' sl' sc' qa' ql' qc') (by simp [splice, hdr]) (fun S16 h => ?_)
  refine ok_ret ⟨b3, C b3 (hdr D sa' sl' sc' qa' ql' qc') :: (L1 ++ L2), rfl, ⟨_, _, _, _, _, _, _, _, ⟨hwf, hs1, hs2⟩, rfl⟩, ?_⟩
  exact h.re (by intro p; simp only [List.countP_append, List.countP_cons, List.cons_append, C]; omega)

theorem ofBytes_inj {s t : List UInt8} (h : ofBytes s = ofBytes t) : s = t := by
  have := congrArg bytesOf h
  rw [bytesOf_ofBytes, bytesOf_ofBytes] at this
  exact Option.some.inj this

theorem encSec_inj {x y : Sec} (hl : x.d.length = y.d.length) (h : encSec x = encSec y) : x = y := by
  simp only [encSec] at h
  obtain ⟨h1, h2⟩ := List.append_inj h (by simp [hl])
  rw [hl] at h2
  have h3 := List.append_cancel_left h2
  simp only [List.cons.injEq, AV.int.injEq, true_and, and_true] at h3
  have h4 := ofBytes_inj h1
  cases x; cases y; simp_all

theorem encW_inj {x y : Nat × List UInt8} (h : encW x = encW y) : x = y := by
  simp only [encW, List.cons.injEq, AV.int.injEq, AV.str.injEq, true_and, and_true] at h
  obtain ⟨h1, h2⟩ := h
  cases x; cases y; simp_all; omega

theorem fit_sec {x : Sec} (hl : x.d.length ≤ 512) : fitZ ty84.zero (encSec x) = true := by
  have e : ty84.zero = List.replicate x.d.length (AV.int .u8 0) ++ (List.replicate (512 - x.d.length) (AV.int .u8 0) ++ [AV.int .i64 0]) := by
    rw [← List.append_assoc, List.replicate_append_replicate, show x.d.length + (512 - x.d.length) = 512 by omega]; rfl
  rw [e]
  exact fitZ_append (fitZ_u8 _) (fitZ_append (fitZ_rep _) rfl)
theorem fit_w (w : Nat × List UInt8) : fitZ ty52.zero (encW w) = true := rfl

theorem scal_sec (x : Sec) : ∀ v ∈ encSec x, v.scal := by
  intro v hv
  simp only [encSec, ofBytes, List.mem_append, List.mem_map, List.mem_replicate, List.mem_singleton] at hv
  rcases hv with ⟨c, _, rfl⟩ | ⟨_, rfl⟩ | rfl <;> trivial
theorem scal_w (w : Nat × List UInt8) : ∀ v ∈ encW w, v.scal := by
  intro v hv
  simp only [encW, List.mem_cons, List.not_mem_nil, or_false] at hv
  rcases hv with rfl | rfl <;> trivial

theorem map_inj_on {α : Type} {f : α → List AV} : ∀ {xs ys : List α}, (∀ x ∈ xs, ∀ y ∈ ys, f x = f y → x = y) → (xs.map f = ys.map f ↔ xs = ys)
  | [], [], _ => by simp
  | [], y :: ys, _ => by simp
  | x :: xs, [], _ => by simp
  | x :: xs, y :: ys, h => by
    have ih := map_inj_on (f := f) (xs := xs) (ys := ys) (fun a ha b hb => h a (List.mem_cons_of_mem _ ha) b (List.mem_cons_of_mem _ hb))
    simp only [List.map_cons, List.cons.injEq, ih]
    exact ⟨fun ⟨h1, h2⟩ => ⟨h x List.mem_cons_self y List.mem_cons_self h1, h2⟩, fun ⟨h1, h2⟩ => ⟨by rw [h1], h2⟩⟩

/-- Two disks that are the same. -/
def DM.sameP (D E : DM) : Prop := D.size = E.size ∧ D.off = E.off ∧ D.secs = E.secs ∧ D.q = E.q

theorem equalS_eq (n : Nat) (hn : 70000 < n) {P Q : DM} (hp : P.WF) (hq : Q.WF) (hsz : P.size = Q.size) {pa qa : Option Pos} {pl ql : Nat} {pc qc : Cap} {L1 L2 : List Ent} (h : Hp X S L) (h1 : SlR pa pl pc 513 (P.secs.map encSec) L1) (h2 : SlR qa ql qc 513 (Q.secs.map encSec) L2) (m1 : ∀ e ∈ L1, e ∈ L) (m2 : ∀ e ∈ L2, e ∈ L) :
    ∃ r : Bool, ev (n + 1) (.fn 45) [.sl pa pl pc, .sl qa ql qc] S = some (.bool r, S) ∧ (r = true ↔ P.secs = Q.secs) := by
  have hpl := h1.len
  have hql := h2.len
  rw [List.length_map] at hpl hql
  have hn2 := hp.n2
  rw [ev, F45 _ _ _ _ _ _ _ _ (oL rfl)]
  simp only [J45, b45_entry]
  by_cases hl : pl = ql
  · rw [show (((pl : Nat) : Int) != ((ql : Nat) : Int)) = false by simp [hl]]
    simp only [cond_false]
    obtain ⟨r, e, hr⟩ := eq_loop (Lp := fun m i S => J45_l1_1_0_1_0 (evF E orcL n) n m pa pl pc qa ql qc false (pl : Nat) i S) (sz := 513) (n := pl) (ti := ty84) (xs := P.secs.map encSec) (ys := Q.secs.map encSec) (S := S)
      (fun m i S => rfl) h (h1.rd m1) (h2.rd m2) (by simpa using hpl) (by simpa using hql) (by simpa using hpl) (by simp; omega) hp.enc hq.enc (by decide) rfl
      (by intro x hx; obtain ⟨y, hy, rfl⟩ := List.mem_map.1 hx; exact fit_sec (by rw [hp.s y hy]; exact hp.hi))
      (by intro x hx; obtain ⟨y, hy, rfl⟩ := List.mem_map.1 hx; exact fit_sec (by rw [hq.s y hy]; exact hq.hi))
      (by intro x hx; obtain ⟨y, hy, rfl⟩ := List.mem_map.1 hx; exact scal_sec y) (by omega) n 0 (Nat.zero_le _) (by omega)
    refine ⟨r, e, ?_⟩
    rw [hr, List.drop_zero, List.drop_zero]
    exact map_inj_on (fun x hx y hy => encSec_inj (by rw [hp.s x hx, hq.s y hy, hsz]))
  · rw [show (((pl : Nat) : Int) != ((ql : Nat) : Int)) = true by simp; omega]
    refine ⟨false, rfl, ?_⟩
    constructor
    · intro hf; cases hf
    · intro he; rw [he] at hpl; omega

theorem equalW_eq (n : Nat) (hn : 70000 < n) {P Q : List (Nat × List UInt8)} (hp : P.length ≤ 4096) {pa qa : Option Pos} {pl ql : Nat} {pc qc : Cap} {L1 L2 : List Ent} (h : Hp X S L) (h1 : SlR pa pl pc 2 (P.map encW) L1) (h2 : SlR qa ql qc 2 (Q.map encW) L2) (m1 : ∀ e ∈ L1, e ∈ L) (m2 : ∀ e ∈ L2, e ∈ L) :
    ∃ r : Bool, ev (n + 1) (.fn 46) [.sl pa pl pc, .sl qa ql qc] S = some (.bool r, S) ∧ (r = true ↔ P = Q) := by
  have hpl := h1.len
  have hql := h2.len
  rw [List.length_map] at hpl hql
  rw [ev, F46 _ _ _ _ _ _ _ _ (oL rfl)]
  simp only [J46, b46_entry]
  by_cases hl : pl = ql
  · rw [show (((pl : Nat) : Int) != ((ql : Nat) : Int)) = false by simp [hl]]
    simp only [cond_false]
    obtain ⟨r, e, hr⟩ := eq_loop (Lp := fun m i S => J46_l1_1_0_1_0 (evF E orcL n) n m pa pl pc qa ql qc false (pl : Nat) i S) (sz := 2) (n := pl) (ti := ty52) (xs := P.map encW) (ys := Q.map encW) (S := S)
      (fun m i S => rfl) h (h1.rd m1) (h2.rd m2) (by simpa using hpl) (by simpa using hql) (by simpa using hpl) (by simp; omega) (encW_all _) (encW_all _) (by decide) rfl
      (by intro x hx; obtain ⟨y, hy, rfl⟩ := List.mem_map.1 hx; exact fit_w y)
      (by intro x hx; obtain ⟨y, hy, rfl⟩ := List.mem_map.1 hx; exact fit_w y)
      (by intro x hx; obtain ⟨y, hy, rfl⟩ := List.mem_map.1 hx; exact scal_w y) (by omega) n 0 (Nat.zero_le _) (by omega)
    refine ⟨r, e, ?_⟩
    rw [hr, List.drop_zero, List.drop_zero]
    exact map_inj_on (fun x hx y hy => encW_inj)
  · rw [show (((pl : Nat) : Int) != ((ql : Nat) : Int)) = true by simp; omega]
    refine ⟨false, rfl, ?_⟩
    constructor
    · intro hf; cases hf
    · intro he; rw [he] at hpl; omega

theorem same_eq (n : Nat) (hn : 70000 < n) {b2 : Nat} {D2 : DM} {L1 L2 : List Ent} (h : Hp X S L) (hd : Disk b D L1) (hd2 : Disk b2 D2 L2) (m1 : ∀ e ∈ L1, e ∈ L) (m2 : ∀ e ∈ L2, e ∈ L) :
    ∃ r : Bool, ev (n + 2) (.fn 21) [.ptr (some (.rw b, 0)), .ptr (some (.rw b2, 0))] S = some (.bool r, S) ∧ (r = true ↔ D.sameP D2) := by
  obtain ⟨sa, sl, sc, qa, ql, qc, Ls, Lq, hR, rfl⟩ := hd
  obtain ⟨sa2, sl2, sc2, qa2, ql2, qc2, Ls2, Lq2, hR2, rfl⟩ := hd2
  have hb := m1 _ List.mem_cons_self
  have hb2 := m2 _ List.mem_cons_self
  suffices hs : Ok (ev (n + 2) (.fn 21) [.ptr (some (.rw b, 0)), .ptr (some (.rw b2, 0))] S) (fun v S' => ∃ r : Bool, v = .bool r ∧ S' = S ∧ (r = true ↔ D.sameP D2)) by
    obtain ⟨v, S', e, r, rfl, rfl, hr⟩ := hs
    exact ⟨r, e, hr⟩
  rw [ev, F21 _ _ _ _ (oL rfl)]
  simp only [J21, b21_entry]
  refine ok_false rfl (ok_false rfl ?_)
  refine ok_gO (okM_ldI h hb rfl (ok_gO (okM_ldI h hb2 rfl ?_)))
  have no : ¬ D.sameP D2 → ∃ r : Bool, AV.bool false = .bool r ∧ S = S ∧ (r = true ↔ D.sameP D2) := fun hn => ⟨false, rfl, rfl, by simp [hn]⟩
  refine ok_cond (fun hc => ?_) (fun hc => ok_ret (no (fun hh => by simp only [beq_eq_false_iff_ne] at hc; exact hc (by rw [hh.1]))))
  simp only [beq_iff_eq] at hc
  refine ok_gO (okM_ldB h hb rfl (ok_gO (okM_ldB h hb2 rfl ?_)))
  refine ok_cond (fun hc2 => ?_) (fun hc2 => ok_ret (no (fun hh => by simp only [beq_eq_false_iff_ne] at hc2; exact hc2 hh.2.1)))
  simp only [beq_iff_eq] at hc2
  refine ok_gO (okM_ldL h hb rfl (ok_gO (okM_ldL h hb2 rfl ?_)))
  obtain ⟨r, e, hr⟩ := equalS_eq n hn hR.wf hR2.wf (by omega) h hR.hs hR2.hs (fun e he => m1 e (by simp [he])) (fun e he => m2 e (by simp [he]))
  rw [callB_of e]
  refine ok_cond (fun hc3 => ?_) (fun hc3 => ok_ret (no (fun hh => by rw [hr.2 hh.2.2.1] at hc3; cases hc3)))
  refine ok_gO (okM_ldL h hb rfl (ok_gO (okM_ldL h hb2 rfl ?_)))
  obtain ⟨r2, e2, hr2⟩ := equalW_eq n hn hR.wf.ql h hR.hq hR2.hq (fun e he => m1 e (by simp [he])) (fun e he => m2 e (by simp [he]))
  rw [callB_of e2]
  exact ok_ret ⟨r2, rfl, rfl, by rw [hr2]; exact ⟨fun hh => ⟨by omega, hc2, hr.1 hc3, hh⟩, fun hh => hh.2.2.2⟩⟩
end

end Go.Dk
