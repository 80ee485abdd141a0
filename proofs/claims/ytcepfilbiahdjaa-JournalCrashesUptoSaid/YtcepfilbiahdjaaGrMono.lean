/- More fuel does no harm. -/
import Derived.Test.YtcepfilbiahdjaaGrDraw1
set_option linter.unusedVariables false
set_option linter.unusedSimpArgs false
set_option linter.unusedSectionVars false
namespace Go.Gr
def CLe (c c' : CallA) : Prop := ∀ tgt args S res, c tgt args S = some res → c' tgt args S = some res
section
variable {E : Env} {c c' : CallA} (hc : CLe c c') {β : Type} {r : β}
theorem bind_mono {α : Type} {o : Option α} {F F' : α → Option β} (hF : ∀ x, F x = some r → F' x = some r) (h : o.bind F = some r) : o.bind F' = some r := by
 cases o with
 | none => cases h
 | some x => exact hF x h
theorem evPure_mono {S : AS} {T : Tm} {o : Op} {t : TypeId} {K K' : AV → Option β} (hK : ∀ v, K v = some r → K' v = some r) (h : evPure E S T o t K = some r) : evPure E S T o t K' = some r := by
 rw [evPure_nat] at h ⊢
 exact bind_mono hK h
theorem evNew_mono {nx : Nat} {T : Tm} {o : Op} {K K' : AV → AObj → Option β} (hK : ∀ v ob, K v ob = some r → K' v ob = some r) (h : evNew E nx T o K = some r) : evNew E nx T o K' = some r := by
 rw [evNew_nat] at h ⊢
 exact bind_mono (fun p => hK p.1 p.2) h
include hc in
theorem ev1_monoC {T : Tm} {S : AS} {o : Oper} {p : AV × AS} (h : ev1 E c T S o (fun v S' => some (v, S')) = some p) : ev1 E c' T S o (fun v S' => some (v, S')) = some p := by
 have hb : ∀ {tgt args} {F : AV × AS → Option (AV × AS)}, (c tgt args S).bind F = some p → (c' tgt args S).bind F = some p := by
  intro tgt args F h
  cases hq : c tgt args S with
  | none => rw [hq] at h; cases h
  | some q => rw [hq] at h; rw [hc _ _ _ _ hq]; exact h
 unfold ev1 at h ⊢
 split at h
 ·rename_i cc hop
  simp only at h ⊢
  split at h
  ·rename_i f hf
   split at h
   ·exact hb h
   ·exact hb h
   ·cases h
  ·rename_i rc name hf
   split at h
   ·rename_i t v hg
    split at h
    ·exact hb h
    ·cases h
   ·cases h
  ·exact h
 ·exact h
include hc in
theorem ev1_mono {T : Tm} {S : AS} {o : Oper} {K K' : AV → AS → Option β} (hK : ∀ v S', K v S' = some r → K' v S' = some r) (h : ev1 E c T S o K = some r) : ev1 E c' T S o K' = some r := by
 rw [ev1_nat] at h ⊢
 cases hq : ev1 E c T S o (fun v S' => some (v, S')) with
 | none => rw [hq] at h; cases h
 | some p => rw [hq] at h; rw [ev1_monoC hc hq]; exact hK _ _ h
theorem gdA_mono {ops : Array Oper} {o : Oper} {T : Tm} {run run' skip skip' : Tm → Option β} (h1 : ∀ T, run T = some r → run' T = some r) (h2 : ∀ T, skip T = some r → skip' T = some r) (h : gdA ops o T run skip = some r) : gdA ops o T run' skip' = some r := by
 unfold gdA at h ⊢
 split at h
 ·exact h1 _ h
 ·split at h
  ·cases h
  ·split at h
   ·rename_i b _
    have key : ∀ (w : Bool) (d : Nat), cond b (cond w (run ((d, .bool true) :: T)) (skip ((d, .bool true) :: T))) (cond w (skip ((d, .bool false) :: T)) (run ((d, .bool false) :: T))) = some r → cond b (cond w (run' ((d, .bool true) :: T)) (skip' ((d, .bool true) :: T))) (cond w (skip' ((d, .bool false) :: T)) (run' ((d, .bool false) :: T))) = some r := by
     intro w d h
     cases b <;> cases w <;> simp only [cond_true, cond_false] at h ⊢ <;> first | exact h1 _ h | exact h2 _ h
    exact key _ _ h
   ·exact h2 _ h
   ·cases h
theorem again_mono {b : Nat} {S : AS} {K K' : Option β} (hK : K = some r → K' = some r) : ∀ (rd : List (Nat × Oper × Tm × AV)), again E b S rd K = some r → again E b S rd K' = some r
 | [], h => hK h
 | (i, o, T, v) :: rd, h => by
   simp only [again] at h ⊢
   cases hb : Nat.testBit b i with
   | true => rw [hb] at h; exact again_mono hK rd (by simpa using h)
   | false =>
     rw [hb] at h
     simp only [cond_false] at h ⊢
     refine evPure_mono (fun v' hv => ?_) h
     obtain ⟨q, hh⟩ := cond_inv hv
     rw [q]; exact again_mono hK rd hh
theorem before_mono {b : Nat} {o : Oper} {T : Tm} {v : AV} {K K' : Option β} (hK : K = some r → K' = some r) : ∀ (hs : List (Nat × AS)), before E b o T v hs K = some r → before E b o T v hs K' = some r
 | [], h => hK h
 | (e, S) :: hs, h => by
   simp only [before] at h ⊢
   cases hb : Nat.testBit b e with
   | true => rw [hb] at h; exact before_mono hK hs (by simpa using h)
   | false =>
     rw [hb] at h
     simp only [cond_false] at h ⊢
     refine evPure_mono (fun v' hv => ?_) h
     obtain ⟨q, hh⟩ := cond_inv hv
     rw [q]; exact before_mono hK hs hh
include hc in
theorem evOps_mono {ops : Array Oper} {K K' : Tm → AS → Option β} (hK : ∀ T S, K T S = some r → K' T S = some r) : ∀ (l : List Oper) (T : Tm) (S : AS), evOps E c ops l T S K = some r → evOps E c' ops l T S K' = some r
 | [], T, S, h => hK T S h
 | o :: l, T, S, h => by
   simp only [evOps] at h ⊢
   exact gdA_mono (fun T h => ev1_mono hc (fun v S' h => evOps_mono hK l _ S' h) h) (fun T h => evOps_mono hK l _ S h) h
include hc in
theorem evDraw_mono {ops : Array Oper} {base : Nat} {bs : Array Nat} {K K' : Tm → AS → Option β} (hK : ∀ T S, K T S = some r → K' T S = some r) : ∀ (l : List Oper) (i : Nat) (T : Tm) (S : AS) (pd : Pend) (rd : List (Nat × Oper × Tm × AV)) (hs : List (Nat × AS)),
 evDraw E c ops base bs l i T S pd rd hs K = some r → evDraw E c' ops base bs l i T S pd rd hs K' = some r
 | [], i, T, S, pd, rd, hs, h => hK _ _ h
 | o :: l, i, T, S, pd, rd, hs, h => by
   simp only [evDraw] at h ⊢
   refine gdA_mono (fun T h => ?_) (fun T h => evDraw_mono hK l _ _ _ _ _ _ h) h
   rcases cls_cases E o.op with hcl | hcl | hcl | hcl
   ·rw [hcl] at h ⊢
    exact evPure_mono (fun v h => evDraw_mono hK l _ _ _ _ _ _ h) h
   ·rw [hcl] at h ⊢
    exact evPure_mono (fun v h => before_mono (evDraw_mono hK l _ _ _ _ _ _) _ h) h
   ·rw [hcl] at h ⊢
    exact evNew_mono (fun v ob h => evDraw_mono hK l _ _ _ _ _ _ h) h
   ·rw [hcl] at h ⊢
    exact ev1_mono hc (fun v S' h => again_mono (evDraw_mono hK l _ _ _ _ _ _) _ h) h
theorem loopN_mono {body body' : Tm → AS → (Exit → Tm → AS → Option β) → Option β} {ids : List Nat} {K K' : Exit → Tm → AS → Option β} (hK : ∀ x T S, K x T S = some r → K' x T S = some r)
 (hb : ∀ T S (L L' : Exit → Tm → AS → Option β), (∀ x T S, L x T S = some r → L' x T S = some r) → body T S L = some r → body' T S L' = some r) : ∀ (n m : Nat), n ≤ m → ∀ (T : Tm) (S : AS), loopN body ids n T S K = some r → loopN body' ids m T S K' = some r
 | 0, m, hm, T, S, h => by simp [loopN] at h
 | n + 1, m, hm, T, S, h => by
   obtain ⟨m, rfl⟩ : ∃ k, m = k + 1 := ⟨m - 1, by omega⟩
   simp only [loopN] at h ⊢
   refine hb T S _ _ (fun x T S hx => ?_) h
   cases x with
   | normal => exact loopN_mono hK hb n m (by omega) _ _ hx
   | _ => exact hK _ _ _ hx
include hc in
theorem evC_mono {n m : Nat} (hnm : n ≤ m) (f : FuncId) : ∀ (code : Code) (cur : Nat) (T : Tm) (S : AS) (K K' : Exit → Tm → AS → Option β), (∀ x T S, K x T S = some r → K' x T S = some r) →
 evC E c n f code cur T S K = some r → evC E c' m f code cur T S K' = some r := by
 intro code
 induction code with
 | skip => intro cur T S K K' hK h; exact hK _ _ _ h
 | label l => intro cur T S K K' hK h; exact hK _ _ _ h
 | exit i => intro cur T S K K' hK h; exact hK _ _ _ h
 | ret => intro cur T S K K' hK h; exact hK _ _ _ h
 | region id ops draw =>
   intro cur T S K K' hK h
   simp only [evC] at h ⊢
   cases draw with
   | true =>
     simp only [cond_true] at h ⊢
     obtain ⟨q, hh⟩ := cond_inv h
     rw [q]
     exact evDraw_mono hc (fun T S h => hK _ _ _ h) _ _ _ _ _ _ _ hh
   | false =>
     simp only [cond_false] at h ⊢
     exact evOps_mono hc (fun T S h => hK _ _ _ h) _ _ _ h
 | seq a b iha ihb =>
   intro cur T S K K' hK h
   simp only [evC] at h ⊢
   refine iha _ _ _ _ _ (fun x T S hx => ?_) h
   cases x with
   | normal => exact ihb _ _ _ _ _ hK hx
   | _ => exact hK _ _ _ hx
 | cond q a b iha ihb =>
   intro cur T S K K' hK h
   simp only [evC] at h ⊢
   obtain ⟨v, hv, hh⟩ := gB_inv h
   rw [hv]
   simp only [gB]
   cases v with
   | true => exact iha _ _ _ _ _ hK hh
   | false => exact ihb _ _ _ _ _ hK hh
 | block id b ih =>
   intro cur T S K K' hK h
   simp only [evC] at h ⊢
   refine ih _ _ _ _ _ (fun x T S hx => ?_) h
   cases x with
   | exit i =>
     simp only at hx ⊢
     cases hb : Nat.beq i id with
     | true => rw [hb] at hx; exact hK _ _ _ hx
     | false => rw [hb] at hx; exact hK _ _ _ hx
   | _ => exact hK _ _ _ hx
 | loop b ih =>
   intro cur T S K K' hK h
   simp only [evC] at h ⊢
   exact loopN_mono (body := evC E c n f b cur) (body' := evC E c' m f b cur) hK (fun T S L L' hL h => ih cur T S L L' hL h) n m hnm _ _ h
 | rangeFunc g ps a b iha ihb =>
   intro cur T S K K' hK h
   simp only [evC] at h ⊢
   split at h
   ·rename_i hh fa fb hg
    cases hq : c (.fn hh) (fa ++ (.yld S.next :: fb)) { S with next := S.next + 1, loops := { id := S.next, fn := f, T, params := ps.toList, assign := a, body := b, st := .ready, pend := none } :: S.loops } with
    | none => rw [hq] at h; cases h
    | some res =>
      rw [hq] at h
      rw [hc _ _ _ _ hq]
      simp only [Option.bind_some] at h ⊢
      split at h
      ·obtain ⟨q, hh⟩ := cond_inv h
       rw [q]
       simp only [cond_true]
       split at hh
       ·cases hh
       ·split at hh
        ·exact hK _ _ _ hh
        ·exact hK _ _ _ hh
      ·cases h
   ·cases h
 | _ => intro cur T S K K' hK h; simp [evC] at h
end
end Go.Gr
