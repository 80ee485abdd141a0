/- Slices with room behind: an element taken out (slices.Delete), whatever the elements. -/
import Derived.Test.YtcepfilbiahdjaaGrSep2
set_option linter.unusedVariables false
set_option linter.unusedSimpArgs false
namespace Go.Gr
theorem slG_head {β : Type} {sz b N l : Nat} {cap : Cap} (hc : cap = .ex N ∨ cap = .op sz N) (hl : l ≤ N) {i : Nat} (hi : i ≤ l) {xi : Int} (h1 : xi = i) {K : OP → Nat → Cap → Option β} :
 slSl sz (some (.rw b, 0)) l cap none (some xi) none K = K (some (.rw b, 0)) i cap := by
 subst h1
 rcases hc with rfl | rfl
 ·have hN : i ≤ N := by omega
  simp [slSl, optIx, ix, hN]
 ·simp [slSl, optIx, ix, hi]
theorem slG_tail {β : Type} {sz b N l : Nat} {cap : Cap} (hc : cap = .ex N ∨ cap = .op sz N) (hl : l ≤ N) {j : Nat} (hj : j ≤ l) {xj : Int} (h1 : xj = j) {K : OP → Nat → Cap → Option β} :
 ∃ o c', (o = j * sz ∨ (l = j ∧ o = 0)) ∧ slSl sz (some (.rw b, 0)) l cap (some xj) none none K = K (some (.rw b, o)) (l - j) c' := by
 subst h1
 rcases hc with rfl | rfl
 ·by_cases hN : N = j
  ·have hlj : l = j := by omega
   subst hlj hN
   refine ⟨0, .ex (N - N), .inr ⟨rfl, rfl⟩, ?_⟩
   simp [slSl, optIx, ix]
  ·refine ⟨j * sz, .ex (N - j), .inl rfl, ?_⟩
   simp [slSl, optIx, ix, hl, hj, hN]
 ·refine ⟨j * sz, .op sz (N - j), .inl rfl, ?_⟩
  simp [slSl, optIx, ix, hj]
section
variable {X : Cx} {S : AS} {L : List Ent} {Q : AV → AS → Prop} {b : Nat} {U : Option AObj → List Ent}
end
end Go.Gr
