/- A drawn region: what the canonical run says of other orders. -/
import Derived.Test.YtcepfilbiahdjaaGrDraw3
set_option linter.unusedVariables false
set_option linter.unusedSimpArgs false
set_option linter.unusedSectionVars false
namespace Go.Gr
section
variable {E : Env} {call : CallA} {ops : Array Oper} {base : Nat} {bs : Array Nat} {T0 : Tm} {S0 : AS} {rc : Nat → DRec}
def EAt (E : Env) (ops : Array Oper) (rc : Nat → DRec) (e : Nat) : Prop := ∃ o, ops[e]? = some o ∧ isE E o (rc e)
def AAt (E : Env) (ops : Array Oper) (rc : Nat → DRec) (e : Nat) : Prop := ∃ o, ops[e]? = some o ∧ isA E o (rc e)
def Laid (E : Env) (ops : Array Oper) (bs : Array Nat) (rc : Nat → DRec) (p b : Nat) : Prop :=
 ∃ e, e < p ∧ EAt E ops rc e ∧ Nat.testBit (bs.getD e 0) b = true
theorem step_cases {k : Nat} {o : Oper} (ho : ops[k]? = some o) : EAt E ops rc k ∨ AAt E ops rc k ∨ (¬ isA E o (rc k) ∧ ¬ isE E o (rc k)) := by
 by_cases h1 : isE E o (rc k)
 ·exact .inl ⟨o, ho, h1⟩
 ·by_cases h2 : isA E o (rc k)
  ·exact .inr (.inl ⟨o, ho, h2⟩)
  ·exact .inr (.inr ⟨h2, h1⟩)
variable (hf : CF E call ops base bs 0 T0 S0 [] [] [] rc) (hlt : ∀ i k, Nat.testBit (bs.getD i 0) k = true → k < i)
include hf
theorem H_const {p : Nat} : ∀ d, (∀ e, p ≤ e → e < p + d → ¬ EAt E ops rc e) → p + d ≤ ops.size → (rc (p + d)).H = (rc p).H
 | 0, _, _ => rfl
 | d + 1, h, hs => by
   have ho : ops[p + d]? = some (ops[p + d]'(by omega)) := by simp
   rw [show p + (d + 1) = (p + d) + 1 by omega, hf.H1 (p + d) _ (Nat.zero_le _) ho (fun hh => h (p + d) (by omega) (by omega) ⟨_, ho, hh⟩)]
   exact H_const d (fun e h1 h2 => h e h1 (by omega)) (by omega)
theorem H_same {p q : Nat} (hpq : p ≤ q) (h : ∀ e, p ≤ e → e < q → ¬ EAt E ops rc e) (hs : q ≤ ops.size) : (rc q).H = (rc p).H := by
 have := H_const hf (p := p) (q - p) (fun e h1 h2 => h e h1 (by omega)) (by omega)
 rwa [show p + (q - p) = q by omega] at this
theorem read_up {i : Nat} {o : Oper} (ho : ops[i]? = some o) (hR : isR E o (rc i)) : ∀ d, (∀ e, i ≤ e → e < i + d → EAt E ops rc e → Nat.testBit (bs.getD e 0) i = false) → i + d ≤ ops.size →
 evPure E (rc (i + d)).H (rc i).T o.op o.type some = some (rc i).v
 | 0, _, _ => hf.own i o (Nat.zero_le _) ho hR.1 (.inr hR.2)
 | d + 1, h, hs => by
   obtain ⟨o', ho'⟩ : ∃ o', ops[i + d]? = some o' := ⟨ops[i + d]'(by omega), by simp⟩
   by_cases hE : isE E o' (rc (i + d))
   ·have hne : i < i + d := by
     rcases Nat.eq_zero_or_pos d with rfl | hd
     ·exfalso
      rw [Nat.add_zero, ho] at ho'
      cases ho'
      have := hE.2; have := hR.2
      omega
     ·omega
    exact hf.aft2 i o (i + d) _ (Nat.zero_le _) hne ho ho' hR hE (h (i + d) (by omega) (by omega) ⟨_, ho', hE⟩)
   ·rw [show i + (d + 1) = (i + d) + 1 by omega, hf.H1 (i + d) _ (Nat.zero_le _) ho' hE]
    exact read_up ho hR d (fun e h1 h2 h3 => h e h1 (by omega) h3) (by omega)
theorem read_down {i : Nat} {o : Oper} (ho : ops[i]? = some o) (hR : isR E o (rc i)) : ∀ d p, p + d = i → (∀ e, p ≤ e → e < i → EAt E ops rc e → Nat.testBit (bs.getD i 0) e = false) →
 evPure E (rc p).H (rc i).T o.op o.type some = some (rc i).v
 | 0, p, hp, _ => by
   have : p = i := by omega
   subst this
   exact hf.own p o (Nat.zero_le _) ho hR.1 (.inr hR.2)
 | d + 1, p, hp, h => by
   have hi : i < ops.size := (Array.getElem?_eq_some_iff.1 ho).1
   have ho' : ops[p]? = some (ops[p]'(by omega)) := by simp
   by_cases hE : isE E (ops[p]'(by omega)) (rc p)
   ·exact hf.bef2 p _ i o (Nat.zero_le _) (by omega) ho ho' hR hE (h p (Nat.le_refl _) (by omega) ⟨_, ho', hE⟩)
   ·rw [← hf.H1 p _ (Nat.zero_le _) ho' hE]
    exact read_down ho hR d (p + 1) (by omega) (fun e h1 h2 h3 => h e (by omega) h2 h3)
theorem read_at {i p : Nat} {o : Oper} (ho : ops[i]? = some o) (hR : isR E o (rc i)) (hp : p ≤ ops.size)
 (h1 : ∀ e, i ≤ e → e < p → EAt E ops rc e → Nat.testBit (bs.getD e 0) i = false) (h2 : ∀ e, p ≤ e → e < i → EAt E ops rc e → Nat.testBit (bs.getD i 0) e = false) :
 evPure E (rc p).H (rc i).T o.op o.type some = some (rc i).v := by
 rcases Nat.le_total i p with h | h
 ·have := read_up hf ho hR (p - i) (fun e q1 q2 q3 => h1 e q1 (by omega) q3) (by omega)
  rwa [show i + (p - i) = p by omega] at this
 ·exact read_down hf ho hR (i - p) p (by omega) h2
theorem look_step {t k : Nat} {o : Oper} (ho : ops[k]? = some o) (hd : o.dst ≠ some t) : look (rc (k + 1)).T t = look (rc k).T t := by
 rw [hf.T1 k o (Nat.zero_le _) ho t]
 unfold put
 cases hh : o.dst with
 | none => rfl
 | some d =>
   simp only [look]
   rw [show Nat.beq d t = false from by
    cases hb : Nat.beq d t with
    | false => rfl
    | true => exact absurd (by rw [hh, Nat.eq_of_beq_eq_true hb]) hd]
   rfl
theorem look_dst {t k : Nat} {o : Oper} (ho : ops[k]? = some o) (hd : o.dst = some t) : look (rc (k + 1)).T t = (rc k).v := by
 rw [hf.T1 k o (Nat.zero_le _) ho t]
 unfold put
 rw [hd]
 simp only [look]
 rw [show Nat.beq t t = true from Nat.beq_refl t]
 rfl
theorem look_up {t p : Nat} : ∀ d, (∀ k o, p ≤ k → k < p + d → ops[k]? = some o → o.dst ≠ some t) → p + d ≤ ops.size → look (rc (p + d)).T t = look (rc p).T t
 | 0, _, _ => rfl
 | d + 1, h, hs => by
   have ho : ops[p + d]? = some (ops[p + d]'(by omega)) := by simp
   rw [show p + (d + 1) = (p + d) + 1 by omega, look_step hf ho (h (p + d) _ (by omega) (by omega) ho)]
   exact look_up d (fun k o h1 h2 h3 => h k o h1 (by omega) h3) (by omega)
theorem look_same {t p q : Nat} (hp : p ≤ ops.size) (hq : q ≤ ops.size) (h : ∀ k o, ops[k]? = some o → o.dst = some t → (k < p ↔ k < q)) : look (rc q).T t = look (rc p).T t := by
 rcases Nat.le_total p q with hpq | hpq
 ·have := look_up hf (t := t) (p := p) (q - p) (fun k o h1 h2 ho hd => by have := h k o ho hd; omega) (by omega)
  rwa [show p + (q - p) = q by omega] at this
 ·have := look_up hf (t := t) (p := q) (p - q) (fun k o h1 h2 ho hd => by have := h k o ho hd; omega) (by omega)
  rw [show q + (p - q) = p by omega] at this
  exact this.symm
include hlt
theorem pd_spec : ∀ k, k ≤ ops.size → (∀ y, y ∈ (rc k).pd ↔ ∃ b, b < k ∧ AAt E ops rc b ∧ ¬ Laid E ops bs rc k b ∧ y = (b, base + b, (rc b).ob)) ∧ (rc k).pd.Pairwise (fun y z => y.1 ≠ z.1)
 | 0, _ => by
   rw [hf.p0]
   exact ⟨fun y => ⟨fun h => (by cases h), fun ⟨b, h, _⟩ => by omega⟩, List.Pairwise.nil⟩
 | k + 1, hk => by
   obtain ⟨h1, h2⟩ := pd_spec k (by omega)
   have ho : ops[k]? = some (ops[k]'(by omega)) := by simp
   have hA : ∀ {o}, ops[k]? = some o → isA E o (rc k) → ¬ isE E o (rc k) := fun _ a b => by have := a.2; have := b.2; omega
   have hL : ¬ EAt E ops rc k → ∀ b, Laid E ops bs rc (k + 1) b ↔ Laid E ops bs rc k b := by
    intro hn b
    constructor
    ·rintro ⟨e, q1, q2, q3⟩
     rcases Nat.lt_or_ge e k with h | h
     ·exact ⟨e, h, q2, q3⟩
     ·have : e = k := by omega
      subst this; exact absurd q2 hn
    ·rintro ⟨e, q1, q2, q3⟩; exact ⟨e, by omega, q2, q3⟩
   rcases step_cases (E := E) (rc := rc) ho with hE | hA' | ⟨n1, n2⟩
   ·obtain ⟨o', ho', hE'⟩ := hE
    rw [ho] at ho'; cases ho'
    rw [hf.pE k _ (Nat.zero_le _) ho hE']
    refine ⟨fun y => ?_, h2.sublist (restB_sub _ _)⟩
    rw [mem_restB, h1]
    constructor
    ·rintro ⟨⟨b, q1, q2, q3, rfl⟩, q4⟩
     refine ⟨b, by omega, q2, ?_, rfl⟩
     rintro ⟨e, r1, r2, r3⟩
     rcases Nat.lt_or_ge e k with h | h
     ·exact q3 ⟨e, h, r2, r3⟩
     ·have : e = k := by omega
      subst this; simp only at q4; rw [q4] at r3; cases r3
    ·rintro ⟨b, q1, q2, q3, rfl⟩
     have hbk : b < k := by
      rcases Nat.lt_or_ge b k with h | h
      ·exact h
      ·have : b = k := by omega
       subst this
       obtain ⟨o', ho', hA'⟩ := q2
       rw [ho] at ho'; cases ho'
       exact absurd hE' (hA ho hA')
     refine ⟨⟨b, hbk, q2, fun ⟨e, r1, r2, r3⟩ => q3 ⟨e, by omega, r2, r3⟩, rfl⟩, ?_⟩
     cases hb : Nat.testBit (bs.getD k 0) b with
     | false => rfl
     | true => exact absurd ⟨k, Nat.lt_succ_self _, ⟨_, ho, hE'⟩, hb⟩ q3
   ·obtain ⟨o', ho', hA''⟩ := hA'
    rw [ho] at ho'; cases ho'
    have hnE : ¬ EAt E ops rc k := by
     rintro ⟨o', ho', hE⟩
     rw [ho] at ho'; cases ho'
     exact hA ho hA'' hE
    rw [hf.pA k _ (Nat.zero_le _) ho hA'']
    have hnl : ¬ Laid E ops bs rc (k + 1) k := by
     rintro ⟨e, r1, r2, r3⟩
     have := hlt e k r3; omega
    refine ⟨fun y => ?_, ?_⟩
    ·rw [List.mem_cons, h1]
     constructor
     ·rintro (rfl | ⟨b, q1, q2, q3, rfl⟩)
      ·exact ⟨k, Nat.lt_succ_self _, ⟨_, ho, hA''⟩, hnl, rfl⟩
      ·exact ⟨b, by omega, q2, fun h => q3 ((hL hnE b).1 h), rfl⟩
     ·rintro ⟨b, q1, q2, q3, rfl⟩
      rcases Nat.lt_or_ge b k with h | h
      ·exact .inr ⟨b, h, q2, fun h => q3 ((hL hnE b).2 h), rfl⟩
      ·have : b = k := by omega
       subst this; exact .inl rfl
    ·rw [List.pairwise_cons]
     refine ⟨fun z hz => ?_, h2⟩
     obtain ⟨b, q1, _, _, rfl⟩ := (h1 z).1 hz
     simp only; omega
   ·have hnE : ¬ EAt E ops rc k := by
     rintro ⟨o', ho', hE⟩
     rw [ho] at ho'; cases ho'
     exact n2 hE
    rw [hf.pN k _ (Nat.zero_le _) ho n1 n2]
    refine ⟨fun y => ?_, h2⟩
    rw [h1]
    constructor
    ·rintro ⟨b, q1, q2, q3, rfl⟩
     exact ⟨b, by omega, q2, fun h => q3 ((hL hnE b).1 h), rfl⟩
    ·rintro ⟨b, q1, q2, q3, rfl⟩
     have hbk : b < k := by
      rcases Nat.lt_or_ge b k with h | h
      ·exact h
      ·have : b = k := by omega
       subst this
       obtain ⟨o', ho', hA'⟩ := q2
       rw [ho] at ho'; cases ho'
       exact absurd hA' n1
     exact ⟨b, hbk, q2, fun h => q3 ((hL hnE b).2 h), rfl⟩
end
end Go.Gr
