/- Methods that an interface's value is called by: a table of them, checked. -/
import Derived.Test.YtcepfilbiahdjaaGrEnv
set_option linter.unusedVariables false
set_option linter.unusedSimpArgs false
namespace Go.Gr
def notPtr : Option TypeDesc → Bool
 | some (.pointer _) => false
 | some _ => true
 | none => false
def methB (P : Program) (t : TypeId) (name : String) (f : FuncId) : Bool :=
 match P.info? t with
 | none => false
 | some i => (match i.methods.find? (·.name == name) with
   | none => false
   | some m => m.path.isEmpty && (match m.func with
     | none => false
     | some (g, true) => Nat.beq g f && (match P.underlying t with | some (.pointer _) => true | _ => false)
     | some (g, false) => Nat.beq g f && notPtr (P.underlying t)))
theorem methB_run {P : Program} {t : TypeId} {name : String} {f : FuncId} (h : methB P t name f = true) (v : Value) (w : World) (n : Nat) : (method (n + 1) t v name).run P w = .ok (f, v) w ∧ (nilAhead (n + 1) t v name).run P w = .ok (some false) w := by
 unfold methB at h
 split at h
 ·cases h
 rename_i i hi
 split at h
 ·cases h
 rename_i m hm
 simp only [Bool.and_eq_true, Array.isEmpty_iff] at h
 obtain ⟨hp, h⟩ := h
 have ht : (typeInfo t).run P w = .ok i w := by simp [typeInfo, hi]
 unfold method nilAhead
 simp only [Sem.run_bind, ht, Result.andThen_ok, hm, hp]
 split at h
 ·cases h
 ·rename_i g hf
  simp only [Bool.and_eq_true] at h
  have hg := Nat.eq_of_beq_eq_true h.1
  subst hg
  obtain ⟨e, he⟩ : ∃ e, P.underlying t = some (.pointer e) := by
   revert h
   split
   ·intro _; exact ⟨_, ‹_›⟩
   ·intro h; exact absurd h.2 (by simp)
  have hu : (underlying t).run P w = .ok (.pointer e) w := by simp [underlying, he]
  simp [follow, followBlind, hf, receiverAt, hu, Place.get]
 ·rename_i g hf
  simp only [Bool.and_eq_true] at h
  have hg := Nat.eq_of_beq_eq_true h.1
  subst hg
  obtain ⟨d, hd, hn⟩ : ∃ d, P.underlying t = some d ∧ ∀ e, d ≠ .pointer e := by
   have h2 := h.2
   cases hd : P.underlying t with
   | none => rw [hd] at h2; cases h2
   | some d => exact ⟨d, rfl, fun e he => by rw [hd, he] at h2; cases h2⟩
  have hu : (underlying t).run P w = .ok d w := by simp [underlying, hd]
  simp only [follow, followBlind, Sem.run_pure, Result.andThen_ok, hf, receiverAt, Sem.run_bind, hu]
  cases d <;> first
   | exact absurd rfl (hn _)
   | simp [Place.get]
theorem methF_ok {E : Env} {P : Program} : ∀ {L : List (TypeId × String × FuncId)}, (L.all fun x => methB P x.1 x.2.1 x.2.2 && (E.ty x.1).isSome) = true → ∀ (t : TypeId) (name : String) (f : FuncId), methF L t name = some f →
 ∃ ti, E.ty t = some ti ∧ ∀ (v : Value) (w : World), (method (P.types.size + Made.depth) t v name).run P w = .ok (f, v) w ∧ (nilAhead (P.types.size + Made.depth) t v name).run P w = .ok (some false) w
 | [], _, t, name, f, h => by cases h
 | x :: r, hL, t, name, f, h => by
   simp only [List.all_cons, Bool.and_eq_true] at hL
   unfold methF at h
   cases hc : (Nat.beq x.1 t && (x.2.1 == name)) with
   | false => rw [hc] at h; exact methF_ok (L := r) (by simpa using hL.2) t name f h
   | true =>
     rw [hc] at h
     simp only [cond_true, Option.some.injEq] at h
     simp only [Bool.and_eq_true, beq_iff_eq] at hc
     have h1 := Nat.eq_of_beq_eq_true hc.1
     have h2 := hc.2
     subst h h1 h2
     obtain ⟨ti, hti⟩ := Option.isSome_iff_exists.1 hL.1.2
     refine ⟨ti, hti, fun v w => ?_⟩
     have hd : 0 < Made.depth := by decide
     obtain ⟨n, hn⟩ : ∃ n, P.types.size + Made.depth = n + 1 := ⟨P.types.size + Made.depth - 1, by omega⟩
     rw [hn]
     exact methB_run hL.1.1 v w n
end Go.Gr
