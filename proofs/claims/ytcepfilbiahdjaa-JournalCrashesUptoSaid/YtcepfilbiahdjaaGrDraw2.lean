/- The canonical run of a drawn region: its facts, by place. -/
import Derived.Test.YtcepfilbiahdjaaGrDraw1
set_option linter.unusedVariables false
set_option linter.unusedSimpArgs false
set_option linter.unusedSectionVars false
namespace Go.Gr
section
variable {E : Env} {call : CallA} {ops : Array Oper} {base : Nat} {bs : Array Nat}
abbrev RdL := List (Nat × Oper × Tm × AV)
abbrev HsL := List (Nat × AS)
structure Local (E : Env) (call : CallA) (base : Nat) (bs : Array Nat) (i : Nat) (o : Oper) (x : DRec) (S : AS) (pd : Pend) (rd : RdL) (hs : HsL) (S' : AS) (pd' : Pend) (rd' : RdL) (hs' : HsL) : Prop where
 sk : x.sk = true → x.v = .tup []
 own : x.sk = false → cls E o.op = 0 ∨ cls E o.op = 1 → evPure E S x.T o.op o.type some = some x.v
 new : isA E o x → evNew E (base + i) x.T o.op (fun v ob => some (v, ob)) = some (x.v, x.ob)
 eff : isE E o x → ev1 E call x.T (layB (bs.getD i 0) pd S) o (fun v S' => some (v, S')) = some (x.v, S')
 H : ¬ isE E o x → S' = S
 pA : isA E o x → pd' = (i, base + i, x.ob) :: pd
 pE : isE E o x → pd' = restB (bs.getD i 0) pd
 pN : ¬ isA E o x → ¬ isE E o x → pd' = pd
 bef : isR E o x → ∀ y ∈ hs, Nat.testBit (bs.getD i 0) y.1 = false → evPure E y.2 x.T o.op o.type some = some x.v
 aft : isE E o x → ∀ y ∈ rd, Nat.testBit (bs.getD i 0) y.1 = false → evPure E S' y.2.2.1 y.2.1.op y.2.1.type some = some y.2.2.2
 rd : ∀ y ∈ rd, y ∈ rd'
 rdI : isR E o x → (i, o, x.T, x.v) ∈ rd'
 hs : ∀ y ∈ hs, y ∈ hs'
 hsI : isE E o x → (i, S) ∈ hs'
theorem DOk.cons_inv {o : Oper} {rem : List Oper} {i : Nat} {T : Tm} {S : AS} {pd : Pend} {rd : RdL} {hs : HsL} {x : DRec} {l : List DRec} (h : DOk E call ops base bs (o :: rem) i T S pd rd hs (x :: l)) :
 x.H = S ∧ x.pd = pd ∧ LookEq x.T T ∧ GdOk ops o x ∧ ∃ S' pd' rd' hs', Local E call base bs i o x S pd rd hs S' pd' rd' hs' ∧ DOk E call ops base bs rem (i + 1) (put x.T o.dst x.v) S' pd' rd' hs' l := by
 simp only [DOk] at h
 obtain ⟨h1, h2, h3, h4, h5⟩ := h
 refine ⟨h1, h2, h3, h4, ?_⟩
 rcases h5 with ⟨a, b, c⟩ | ⟨a, b, c, d⟩ | ⟨a, b, c, d, e⟩ | ⟨a, b, c, d⟩ | ⟨a, b, S', c, d, e⟩
 ·exact ⟨S, pd, rd, hs, ⟨fun _ => b, fun h => (by rw [a] at h; cases h), fun h => (by rw [h.1] at a; cases a), fun h => (by rw [h.1] at a; cases a), fun _ => rfl, fun h => (by rw [h.1] at a; cases a), fun h => (by rw [h.1] at a; cases a), fun _ _ => rfl, fun h => (by rw [h.1] at a; cases a), fun h => (by rw [h.1] at a; cases a), fun _ h => h, fun h => (by rw [h.1] at a; cases a), fun _ h => h, fun h => (by rw [h.1] at a; cases a)⟩, c⟩
 ·have n1 : ¬ isA E o x := fun h => by have := h.2; omega
  have n2 : ¬ isE E o x := fun h => by have := h.2; omega
  have n3 : ¬ isR E o x := fun h => by have := h.2; omega
  exact ⟨S, pd, rd, hs, ⟨fun h => (by rw [a] at h; cases h), fun _ _ => c, fun h => absurd h n1, fun h => absurd h n2, fun _ => rfl, fun h => absurd h n1, fun h => absurd h n2, fun _ _ => rfl, fun h => absurd h n3, fun h => absurd h n2, fun _ h => h, fun h => absurd h n3, fun _ h => h, fun h => absurd h n2⟩, d⟩
 ·have n1 : ¬ isA E o x := fun h => by have := h.2; omega
  have n2 : ¬ isE E o x := fun h => by have := h.2; omega
  exact ⟨S, pd, _, hs, ⟨fun h => (by rw [a] at h; cases h), fun _ _ => c, fun h => absurd h n1, fun h => absurd h n2, fun _ => rfl, fun h => absurd h n1, fun h => absurd h n2, fun _ _ => rfl, fun _ => d, fun h => absurd h n2, fun _ h => List.mem_cons_of_mem _ h, fun _ => List.mem_cons_self, fun _ h => h, fun h => absurd h n2⟩, e⟩
 ·have n2 : ¬ isE E o x := fun h => by have := h.2; omega
  have n3 : ¬ isR E o x := fun h => by have := h.2; omega
  exact ⟨S, _, rd, hs, ⟨fun h => (by rw [a] at h; cases h), fun _ h => by omega, fun _ => c, fun h => absurd h n2, fun _ => rfl, fun _ => rfl, fun h => absurd h n2, fun h => absurd ⟨a, b⟩ h, fun h => absurd h n3, fun h => absurd h n2, fun _ h => h, fun h => absurd h n3, fun _ h => h, fun h => absurd h n2⟩, d⟩
 ·have n1 : ¬ isA E o x := fun h => by have := h.2; omega
  have n3 : ¬ isR E o x := fun h => by have := h.2; omega
  exact ⟨S', _, rd, _, ⟨fun h => (by rw [a] at h; cases h), fun _ h => by omega, fun h => absurd h n1, fun _ => c, fun h => absurd ⟨a, b⟩ h, fun h => absurd h n1, fun _ => rfl, fun _ h => absurd ⟨a, b⟩ h, fun h => absurd h n3, fun _ => d, fun _ h => h, fun h => absurd h n3, fun _ h => List.mem_cons_of_mem _ h, fun _ => List.mem_cons_self⟩, e⟩
structure CF (E : Env) (call : CallA) (ops : Array Oper) (base : Nat) (bs : Array Nat) (i : Nat) (T : Tm) (S : AS) (pd : Pend) (rd : RdL) (hs : HsL) (rc : Nat → DRec) : Prop where
 T0 : LookEq (rc i).T T
 H0 : (rc i).H = S
 p0 : (rc i).pd = pd
 T1 : ∀ k o, i ≤ k → ops[k]? = some o → LookEq (rc (k + 1)).T (put (rc k).T o.dst (rc k).v)
 gd : ∀ k o, i ≤ k → ops[k]? = some o → GdOk ops o (rc k)
 sk : ∀ k o, i ≤ k → ops[k]? = some o → (rc k).sk = true → (rc k).v = .tup []
 own : ∀ k o, i ≤ k → ops[k]? = some o → (rc k).sk = false → cls E o.op = 0 ∨ cls E o.op = 1 → evPure E (rc k).H (rc k).T o.op o.type some = some (rc k).v
 new : ∀ k o, i ≤ k → ops[k]? = some o → isA E o (rc k) → evNew E (base + k) (rc k).T o.op (fun v ob => some (v, ob)) = some ((rc k).v, (rc k).ob)
 eff : ∀ k o, i ≤ k → ops[k]? = some o → isE E o (rc k) → ev1 E call (rc k).T (layB (bs.getD k 0) (rc k).pd (rc k).H) o (fun v S' => some (v, S')) = some ((rc k).v, (rc (k + 1)).H)
 H1 : ∀ k o, i ≤ k → ops[k]? = some o → ¬ isE E o (rc k) → (rc (k + 1)).H = (rc k).H
 pA : ∀ k o, i ≤ k → ops[k]? = some o → isA E o (rc k) → (rc (k + 1)).pd = (k, base + k, (rc k).ob) :: (rc k).pd
 pE : ∀ k o, i ≤ k → ops[k]? = some o → isE E o (rc k) → (rc (k + 1)).pd = restB (bs.getD k 0) (rc k).pd
 pN : ∀ k o, i ≤ k → ops[k]? = some o → ¬ isA E o (rc k) → ¬ isE E o (rc k) → (rc (k + 1)).pd = (rc k).pd
 aft : ∀ y ∈ rd, ∀ e o, i ≤ e → ops[e]? = some o → isE E o (rc e) → Nat.testBit (bs.getD e 0) y.1 = false → evPure E (rc (e + 1)).H y.2.2.1 y.2.1.op y.2.1.type some = some y.2.2.2
 aft2 : ∀ k ok e oe, i ≤ k → k < e → ops[k]? = some ok → ops[e]? = some oe → isR E ok (rc k) → isE E oe (rc e) → Nat.testBit (bs.getD e 0) k = false → evPure E (rc (e + 1)).H (rc k).T ok.op ok.type some = some (rc k).v
 bef : ∀ y ∈ hs, ∀ k o, i ≤ k → ops[k]? = some o → isR E o (rc k) → Nat.testBit (bs.getD k 0) y.1 = false → evPure E y.2 (rc k).T o.op o.type some = some (rc k).v
 bef2 : ∀ e oe k ok, i ≤ e → e < k → ops[k]? = some ok → ops[e]? = some oe → isR E ok (rc k) → isE E oe (rc e) → Nat.testBit (bs.getD k 0) e = false → evPure E (rc e).H (rc k).T ok.op ok.type some = some (rc k).v
theorem drop_cons {i : Nat} {o : Oper} {rem : List Oper} (h : o :: rem = ops.toList.drop i) : ops[i]? = some o ∧ rem = ops.toList.drop (i + 1) := by
 have hlt : i < ops.toList.length := by
  rcases Nat.lt_or_ge i ops.toList.length with h' | h'
  ·exact h'
  ·rw [List.drop_eq_nil_of_le h'] at h; cases h
 rw [List.drop_eq_getElem_cons hlt] at h
 simp only [List.cons.injEq] at h
 obtain ⟨h1, h2⟩ := h
 refine ⟨?_, h2⟩
 rw [h1]; simp at hlt ⊢
theorem CF.congr {i : Nat} {T : Tm} {S : AS} {pd : Pend} {rd : RdL} {hs : HsL} {rc rc' : Nat → DRec} (he : ∀ k, i ≤ k → rc' k = rc k) (h : CF E call ops base bs i T S pd rd hs rc) : CF E call ops base bs i T S pd rd hs rc' := by
 refine ⟨by rw [he i (Nat.le_refl _)]; exact h.T0, by rw [he i (Nat.le_refl _)]; exact h.H0, by rw [he i (Nat.le_refl _)]; exact h.p0, ?_, ?_, ?_, ?_, ?_, ?_, ?_, ?_, ?_, ?_, ?_, ?_, ?_, ?_⟩
 ·intro k o hk ho; rw [he k hk, he (k + 1) (by omega)]; exact h.T1 k o hk ho
 ·intro k o hk ho; rw [he k hk]; exact h.gd k o hk ho
 ·intro k o hk ho; rw [he k hk]; exact h.sk k o hk ho
 ·intro k o hk ho; rw [he k hk]; exact h.own k o hk ho
 ·intro k o hk ho; rw [he k hk]; exact h.new k o hk ho
 ·intro k o hk ho; rw [he k hk, he (k + 1) (by omega)]; exact h.eff k o hk ho
 ·intro k o hk ho; rw [he k hk, he (k + 1) (by omega)]; exact h.H1 k o hk ho
 ·intro k o hk ho; rw [he k hk, he (k + 1) (by omega)]; exact h.pA k o hk ho
 ·intro k o hk ho; rw [he k hk, he (k + 1) (by omega)]; exact h.pE k o hk ho
 ·intro k o hk ho; rw [he k hk, he (k + 1) (by omega)]; exact h.pN k o hk ho
 ·intro y hy e o hk ho; rw [he e hk, he (e + 1) (by omega)]; exact h.aft y hy e o hk ho
 ·intro k ok e oe hk hke h1 h2; rw [he k hk, he e (by omega), he (e + 1) (by omega)]; exact h.aft2 k ok e oe hk hke h1 h2
 ·intro y hy k o hk ho; rw [he k hk]; exact h.bef y hy k o hk ho
 ·intro e oe k ok hk hke h1 h2; rw [he k (by omega), he e hk]; exact h.bef2 e oe k ok hk hke h1 h2
theorem dok_facts : ∀ (rem : List Oper) (i : Nat) (T : Tm) (S : AS) (pd : Pend) (rd : RdL) (hs : HsL) (l : List DRec), DOk E call ops base bs rem i T S pd rd hs l → rem = ops.toList.drop i →
 CF E call ops base bs i T S pd rd hs (fun k => l.getD (k - i) default)
 | [], i, T, S, pd, rd, hs, l, h, hr => by
   have hge : ops.size ≤ i := by
    have := congrArg List.length hr
    simp at this; omega
   have hno : ∀ k o, i ≤ k → ops[k]? ≠ some o := by
    intro k o hk ho
    have := (Array.getElem?_eq_some_iff.1 ho).1
    omega
   match l, h with
   | [x], h =>
     obtain ⟨h1, h2, h3⟩ := h
     exact ⟨by simp [h1]; exact fun _ => rfl, by simp [h2], by simp [h3], fun k o hk ho => absurd ho (hno k o hk), fun k o hk ho => absurd ho (hno k o hk), fun k o hk ho => absurd ho (hno k o hk), fun k o hk ho => absurd ho (hno k o hk), fun k o hk ho => absurd ho (hno k o hk), fun k o hk ho => absurd ho (hno k o hk), fun k o hk ho => absurd ho (hno k o hk), fun k o hk ho => absurd ho (hno k o hk), fun k o hk ho => absurd ho (hno k o hk), fun k o hk ho => absurd ho (hno k o hk), fun y _ k o hk ho => absurd ho (hno k o hk), fun k ok e oe hk hke h1 h2 => absurd h1 (hno k ok hk), fun y _ k o hk ho => absurd ho (hno k o hk), fun e oe k ok hk hke h1 h2 => absurd h2 (hno e oe hk)⟩
   | [], h => simp [DOk] at h
   | _ :: _ :: _, h => simp [DOk] at h
 | o :: rem, i, T, S, pd, rd, hs, l, h, hr => by
   match l, h with
   | [], h => simp [DOk] at h
   | x :: l, h =>
     obtain ⟨ho, hrem⟩ := drop_cons hr
     obtain ⟨h1, h2, h3, h4, S', pd', rd', hs', L, hd⟩ := h.cons_inv
     have ih := dok_facts rem (i + 1) _ S' pd' rd' hs' l hd hrem
     have hx : (fun k => (x :: l).getD (k - i) default) i = x := by simp
     have hyk : ∀ k, i + 1 ≤ k → (fun k => (x :: l).getD (k - i) default) k = (fun k => l.getD (k - (i + 1)) default) k := by
      intro k hk
      simp only
      rw [show k - i = (k - (i + 1)) + 1 by omega]
      simp
     have ih := ih.congr hyk
     generalize (fun k => (x :: l).getD (k - i) default) = rc at hx ih ⊢
     subst hx
     have cs : ∀ k, i ≤ k → k = i ∨ i + 1 ≤ k := fun k hk => by omega
     refine ⟨h3, h1, h2, ?_, ?_, ?_, ?_, ?_, ?_, ?_, ?_, ?_, ?_, ?_, ?_, ?_, ?_⟩
     ·intro k o' hk ho'
      rcases cs k hk with rfl | hk
      ·rw [ho] at ho'; cases ho'; exact ih.T0
      ·exact ih.T1 k o' hk ho'
     ·intro k o' hk ho'
      rcases cs k hk with rfl | hk
      ·rw [ho] at ho'; cases ho'; exact h4
      ·exact ih.gd k o' hk ho'
     ·intro k o' hk ho'
      rcases cs k hk with rfl | hk
      ·rw [ho] at ho'; cases ho'; exact L.sk
      ·exact ih.sk k o' hk ho'
     ·intro k o' hk ho'
      rcases cs k hk with rfl | hk
      ·rw [ho] at ho'; cases ho'; rw [h1]; exact L.own
      ·exact ih.own k o' hk ho'
     ·intro k o' hk ho'
      rcases cs k hk with rfl | hk
      ·rw [ho] at ho'; cases ho'; exact L.new
      ·exact ih.new k o' hk ho'
     ·intro k o' hk ho'
      rcases cs k hk with rfl | hk
      ·rw [ho] at ho'; cases ho'; rw [h1, h2, ih.H0]; exact L.eff
      ·exact ih.eff k o' hk ho'
     ·intro k o' hk ho'
      rcases cs k hk with rfl | hk
      ·rw [ho] at ho'; cases ho'; rw [h1, ih.H0]; exact L.H
      ·exact ih.H1 k o' hk ho'
     ·intro k o' hk ho'
      rcases cs k hk with rfl | hk
      ·rw [ho] at ho'; cases ho'; rw [h2, ih.p0]; exact L.pA
      ·exact ih.pA k o' hk ho'
     ·intro k o' hk ho'
      rcases cs k hk with rfl | hk
      ·rw [ho] at ho'; cases ho'; rw [h2, ih.p0]; exact L.pE
      ·exact ih.pE k o' hk ho'
     ·intro k o' hk ho'
      rcases cs k hk with rfl | hk
      ·rw [ho] at ho'; cases ho'; rw [h2, ih.p0]; exact L.pN
      ·exact ih.pN k o' hk ho'
     ·intro y hy e o' hk ho'
      rcases cs e hk with rfl | hk
      ·rw [ho] at ho'; cases ho'; rw [ih.H0]; exact fun q => L.aft q y hy
      ·exact ih.aft y (L.rd y hy) e o' hk ho'
     ·intro k ok e oe hk hke e1 e2 r1 r2 hb
      rcases cs k hk with rfl | hk
      ·rw [ho] at e1; cases e1
       exact ih.aft _ (L.rdI r1) e oe (by omega) e2 r2 hb
      ·exact ih.aft2 k ok e oe hk hke e1 e2 r1 r2 hb
     ·intro y hy k o' hk ho'
      rcases cs k hk with rfl | hk
      ·rw [ho] at ho'; cases ho'; exact fun q => L.bef q y hy
      ·exact ih.bef y (L.hs y hy) k o' hk ho'
     ·intro e oe k ok hk hke e1 e2 r1 r2 hb
      rcases cs e hk with rfl | hk
      ·rw [ho] at e2; cases e2
       rw [h1]
       exact ih.bef _ (L.hsI r2) k ok (by omega) e1 r1 hb
      ·exact ih.bef2 e oe k ok hk hke e1 e2 r1 r2 hb
end
end Go.Gr
