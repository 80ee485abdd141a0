/- What the document's codec of a journal does with a heap: entries, superblocks, transactions (JournalPlays). -/
import Derived.Test.YtcepfilbiahdjaaJmB
import Derived.Test.YtcepfilbiahdjaaJmD
set_option linter.unusedVariables false
set_option linter.unusedSimpArgs false
set_option maxRecDepth 4000
namespace Go.Jn
open Go.Gr
section
variable {X : Cx} {S : AS} {L F : List Ent} {b : Nat} {Q : AV → AS → Prop}
end
end Go.Jn
namespace Go.Jn
open Go.Gr
section
variable {X : Cx} {S : AS} {L F : List Ent} {b : Nat} {Q : AV → AS → Prop}
end
end Go.Jn
namespace Go.Jn
open Go.Gr
section
variable {X : Cx} {S : AS} {L F : List Ent} {b : Nat} {Q : AV → AS → Prop}
end
end Go.Jn
namespace Go.Jn.P
open Go.Gr Go.Jn
def SlO (a : OP) (l : Nat) (c : Cap) (sz : Nat) (xs : List (List AV)) (L : List Ent) : Prop :=
 (a = none ∧ l = 0 ∧ c = .ex 0 ∧ xs = [] ∧ L = []) ∨ ∃ (b : Nat) (pre : List AV), a = some (.rw b, pre.length) ∧ l = xs.length ∧ c = .op sz xs.length ∧ (∀ x ∈ xs, x.length = sz) ∧ L = [C b (pre ++ xs.flatten)]
theorem SlO.nil {sz : Nat} : SlO none 0 (.ex 0) sz [] [] := .inl ⟨rfl, rfl, rfl, rfl, rfl⟩
section
variable {X : Cx} {S : AS} {L F G Lj Ls : List Ent} {b bj sb : Nat} {Q : AV → AS → Prop} {J : JM} {k : Nat} {t : St}
def nrows (l : List One) : List (List AV) := l.map fun o => [.int .i64 o.need]
def strow (o : One) : List AV := [.int .u64 o.bo, .int .u64 o.se]
def strows (l : List One) : List (List AV) := l.map strow
@[simp] theorem nrows_len (l : List One) : (nrows l).length = l.length := by simp [nrows]
@[simp] theorem strows_len (l : List One) : (strows l).length = l.length := by simp [strows]
end
end Go.Jn.P
namespace Go.Jn.P
open Go.Gr Go.Jn
section
variable {X : Cx} {S : AS} {L F G Lj Ls : List Ent} {b bj sb : Nat} {Q : AV → AS → Prop} {J : JM} {k : Nat} {t : St}
end
end Go.Jn.P
namespace Go.Jn.P
open Go.Gr Go.Jn
section
variable {X : Cx} {S : AS} {L F G Lj Ls : List Ent} {b bj sb : Nat} {Q : AV → AS → Prop} {J : JM} {k : Nat} {t : St}
end
end Go.Jn.P
