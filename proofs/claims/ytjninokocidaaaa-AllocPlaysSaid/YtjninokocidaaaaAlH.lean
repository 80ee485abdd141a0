/- What the law's own functions do with a heap: an allocator behind a list of acts. -/
import Derived.Test.YtjninokocidaaaaAlE
set_option linter.unusedVariables false
set_option linter.unusedSimpArgs false
set_option maxRecDepth 4000
namespace Go.Al
open Go.Gr

/-- An act as it lies in a list. -/
def arow (x : Int × Int) : List AV := [.int .i64 x.1, .int .i64 x.2]
def ActsR (X : Cx) (a : Option Pos) (acts : List (Int × Int)) : Prop := RdR X [] a (acts.map arow).flatten

section
variable {X : Cx} {S : AS} {L F : List Ent} {b : Nat} {A : AM} {Q : AV → AS → Prop}

theorem acts_at {a : Option Pos} {acts : List (Int × Int)} (h : ActsR X a acts) (hp : Hp X S L) {i : Nat} (hi : i < acts.length) : ∃ x p, acts[i]? = some x ∧ a = some p ∧ (∀ {β : Type} (K : List AV → Option β), S.ldn p.1 (p.2 + i * 2) 2 K = K (arow x)) ∧
    (∀ (K : Int → Option (AV × AS)), ldI .i64 S p.1 (p.2 + i * 2) K = K x.1) ∧ (∀ (K : Int → Option (AV × AS)), ldI .i64 S p.1 (p.2 + i * 2 + 1) K = K x.2) := by
  have hx : acts[i]? = some acts[i] := List.getElem?_eq_getElem hi
  have hr : (acts.map arow)[i]? = some (arow acts[i]) := by rw [List.getElem?_map, hx]; rfl
  have hall : ∀ r ∈ acts.map arow, r.length = 2 := fun r hr => by obtain ⟨z, _, rfl⟩ := List.mem_map.1 hr; rfl
  obtain ⟨p, rfl⟩ := RdR.some_of h (by
    intro he
    have := flat_len hall
    rw [he] at this; simp at this; omega)
  have h' : RdR X L (some p) (acts.map arow).flatten := RdR.mono h (by intro e he; cases he)
  refine ⟨acts[i], p, hx, rfl, fun K => h'.elem hp hall hr K, fun K => ?_, fun K => ?_⟩
  · exact h'.ldI hp (by have := flat_get (j := 0) hall hr (by omega); exact this)
  · rw [Nat.add_assoc]
    exact h'.ldI hp (by have := flat_get (j := 1) hall hr (by omega); exact this)

end

end Go.Al

namespace Go.Al
open Go.Gr

abbrev TrueQ : AV → AS → Prop := fun v S' => v = .bool true

theorem live_ok (n : Nat) (S : AS) : Ok (callB (evF E orcL (n + 1)) 12 [] S fun v S => some (.bool v, S)) TrueQ := by
  have e : evF E orcL (n + 1) (.fn 12) [] S = some (.bool true, S) := by simp [evF, orcL]
  rw [callB_of e]; exact ok_ret rfl

section
variable {X : Cx} {S : AS} {L F : List Ent} {b : Nat} {A : AM} {Q : AV → AS → Prop}

end

end Go.Al
