/- A quick evaluator over a table of readings; what it answers is the evaluator's answer. -/
import Derived.Test.YtcepfilbiahdjaaGrRes
import Derived.Test.YtcepfilbiahdjaaGrGlue
set_option linter.unusedVariables false
set_option linter.unusedSimpArgs false
namespace Go.Gr
structure GOk (E : Env) (f : FuncId) (g : CallA → Nat → List AV → AS → RV) : Prop where
 run : ∀ o n args S, o f args = none → evF E o (n + 1) (.fn f) args S = evC E (evF E o n) n f (E.at f []) 0 (enumT 0 args) S (retK E (E.fn f))
 told : ∀ call n args S r, g call n args S = some r → evC E call n f (E.at f []) 0 (enumT 0 args) S (retK E (E.fn f)) = some r
noncomputable def rF (E : Env) (o : Orc) (T : BT (CallA → Nat → List AV → AS → RV)) : Nat → CallA
 | 0, _, _, _ => none
 | n + 1, .fn f, args, S => (match o f args with
   | some v => some (v, S)
   | none => (match T.find f with
     | some g => g (rF E o T n) n args S
     | none => (match E.func f with
       | some fn => (match fn.body with
         | some c => evC E (rF E o T n) n f c 0 (enumT 0 args) S (retK E fn)
         | none => none)
       | none => none)))
 | n + 1, .yld k, args, S => (match getLp S.loops k with
   | some L => (match L.st with
     | .ready => if args.length = L.params.length then
      evC E (rF E o T n) n L.fn L.assign 0 (putAll L.params args L.T) S fun x U S => (match x with
       | .normal => (match getLp S.loops k with
         | some L1 => (match L1.st with
           | .ready => evC E (rF E o T n) n L.fn L.body 0 U { S with loops := setLp S.loops k { L1 with st := .busy } } fun x _ S => (match getLp S.loops k with
             | some L => (match x with
               | .normal => some (.bool true, { S with loops := setLp S.loops k { L with st := .ready, pend := none } })
               | .ret => some (.bool false, { S with loops := setLp S.loops k { L with st := .done, pend := some .ret } })
               | .exit i => some (.bool false, { S with loops := setLp S.loops k { L with st := .done, pend := some (.exit i) } })
               | _ => none)
             | none => none)
           | _ => none)
         | none => none)
       | _ => none)
      else none
     | _ => none)
   | none => none)
theorem rF_le {E : Env} {o : Orc} {T : BT (CallA → Nat → List AV → AS → RV)} (hT : ∀ f g, T.find f = some g → GOk E f g) : ∀ n, CLe (rF E o T n) (evF E o n)
 | 0 => fun tgt args S res h => by simp [rF] at h
 | n + 1 => by
   have ih := rF_le (o := o) hT n
   intro tgt args S res h
   cases tgt with
   | fn f =>
     simp only [rF] at h
     cases ho : o f args with
     | some v => rw [ho] at h; simp only [evF, ho]; exact h
     | none =>
     rw [ho] at h
     simp only at h
     split at h
     ·rename_i g hg
      rw [(hT f g hg).run _ _ _ _ ho]
      exact evC_mono ih (Nat.le_refl _) f _ _ _ _ _ _ (fun _ _ _ h => h) ((hT f g hg).told _ _ _ _ _ h)
     ·simp only [evF, ho]
      cases hf : E.func f with
      | none => rw [hf] at h; cases h
      | some fn =>
        rw [hf] at h
        simp only at h ⊢
        cases hb : fn.body with
        | none => rw [hb] at h; cases h
        | some c =>
          rw [hb] at h
          simp only at h ⊢
          exact evC_mono ih (Nat.le_refl _) f _ _ _ _ _ _ (fun _ _ _ h => h) h
   | yld k =>
     simp only [rF] at h
     simp only [evF]
     cases hL : getLp S.loops k with
     | none => rw [hL] at h; cases h
     | some L =>
       rw [hL] at h
       simp only at h ⊢
       cases hs : L.st with
       | busy => rw [hs] at h; cases h
       | done => rw [hs] at h; cases h
       | ready =>
         rw [hs] at h
         simp only at h ⊢
         obtain ⟨hlen, h⟩ := ite_inv h
         rw [if_pos hlen]
         refine evC_mono ih (Nat.le_refl n) _ _ _ _ _ _ _ (fun x U S hx => ?_) h
         cases x with
         | normal =>
           simp only at hx ⊢
           cases hL1 : getLp S.loops k with
           | none => rw [hL1] at hx; cases hx
           | some L1 =>
             rw [hL1] at hx
             simp only at hx ⊢
             cases hs1 : L1.st with
             | busy => rw [hs1] at hx; cases hx
             | done => rw [hs1] at hx; cases hx
             | ready =>
               rw [hs1] at hx
               exact evC_mono ih (Nat.le_refl n) _ _ _ _ _ _ _ (fun _ _ _ h => h) hx
         | _ => cases hx
end Go.Gr
