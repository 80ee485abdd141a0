/- What the functions of package cache answer for a nil cache; the law CacheNil as the evaluator runs it. -/
import Derived.Test.YtffeeebegglejaaRF
import Derived.Test.YtffeeebegglejaaEOK
import Derived.Test.YtffeeebegglejaaGrArgs
set_option linter.unusedVariables false
set_option linter.unusedSimpArgs false
set_option maxRecDepth 100000
namespace Go.Na
open Go.Gr

def orcL : Orc := fun f args => match args with
  | [] => cond (Nat.beq f 18) (some (.bool true)) none
  | _ => none
theorem oL {f : FuncId} (h : Nat.beq f 18 = false) : ∀ args, orcL f args = none := by
  intro args
  cases args with
  | nil => simp [orcL, h]
  | cons x xs => rfl

theorem ranLive : isTrue (rF E noOrc gT 3000 (.fn 18) [] S00) = true := by kernel_rfl

theorem orcOk : OrcOk orcL Go.Proofs.Try.prog := by
  refine ⟨fun f args v h => ?_⟩
  cases args with
  | cons x xs => cases h
  | nil =>
    simp only [orcL] at h
    cases hf : Nat.beq f 18 with
    | false => rw [hf] at h; cases h
    | true =>
      rw [hf] at h
      cases h
      have := Nat.eq_of_beq_eq_true hf
      subst this
      obtain ⟨S, hS⟩ := isTrue_some ranLive
      have hr := fast hS
      have hl := fun w j vs hvs => orc_of envOk (noOrc_ok _) (n := 3000) (f := 18) (v := .bool true) (by rw [hr]; rfl) rfl w j vs hvs
      exact ⟨(hl default (fun _ => none) #[] (by simp [VRs])).1, fun w j vs hvs => (hl w j vs hvs).2⟩

section
variable (n : Nat) (S : AS) (x : Int)
theorem nNew : evF E orcL (n + 9) (.fn 19) [.nilIface, .int .i64 x] S = some (.tup [.ptr none, .int .i64 2], S) := by kernel_rfl
theorem nRead : evF E orcL (n + 9) (.fn 20) [.ptr none, .int .i64 x] S = some (.tup [.sl none 0 (.ex 0), .int .i64 7], S) := by kernel_rfl
theorem nClean : evF E orcL (n + 9) (.fn 21) [.ptr none, .int .i64 x] S = some (.tup [.int .i64 0, .int .i64 7], S) := by kernel_rfl
theorem nOldest : evF E orcL (n + 9) (.fn 22) [.ptr none] S = some (.tup [.int .u64 0, .bool false], S) := by kernel_rfl
theorem nHits : evF E orcL (n + 9) (.fn 23) [.ptr none] S = some (.tup [.int .i64 0, .int .i64 0], S) := by kernel_rfl
theorem nSafe : evF E orcL (n + 9) (.fn 24) [.ptr none, .int .u64 x] S = some (.tup [], S) := by kernel_rfl
theorem nWrite (a : Option Pos) (l : Nat) (c : Cap) (y : Int) : evF E orcL (n + 9) (.fn 26) [.ptr none, .int .i64 x, .sl a l c, .int .u64 y] S = some (.int .i64 7, S) := by kernel_rfl
theorem nPin : evF E orcL (n + 9) (.fn 27) [.ptr none, .int .i64 x] S = some (.int .i64 7, S) := by kernel_rfl
theorem nUnpin : evF E orcL (n + 9) (.fn 28) [.ptr none, .int .i64 x] S = some (.int .i64 7, S) := by kernel_rfl
theorem nFlush : evF E orcL (n + 9) (.fn 29) [.ptr none] S = some (.int .i64 7, S) := by kernel_rfl
theorem nDrop : evF E orcL (n + 9) (.fn 30) [.ptr none, .int .i64 x] S = some (.int .i64 7, S) := by kernel_rfl
theorem nDirty : evF E orcL (n + 9) (.fn 31) [.ptr none] S = some (.sl none 0 (.ex 0), S) := by kernel_rfl
theorem nHeld : evF E orcL (n + 9) (.fn 32) [.ptr none] S = some (.sl none 0 (.ex 0), S) := by kernel_rfl
theorem nNum : evF E orcL (n + 9) (.fn 25) [.int .i64 x] S = some (.int .i64 x, S) := by kernel_rfl
theorem nLive : evF E orcL (n + 9) (.fn 18) [] S = some (.bool true, S) := by kernel_rfl
end

theorem nil_run (n : Nat) (S : AS) (b m : Int) (a : Option Pos) (l : Nat) (c : Cap) : evF E orcL (n + 10) (.fn 4) [.int .i64 b, .sl a l c, .int .i64 m] S = some (.bool true, S) := by
  rw [F4 _ _ _ _ _ _ _ (oL rfl)]
  simp only [J4, b4_entry]
  cases decide ((l : Int) > 40000)
  · simp [callT, callI, callL, callB, Go.Gr.gT, gIk, gL, gB, gP, atP, atI, atL, atB, nNew, nRead, nClean, nOldest, nHits, nSafe, nWrite, nPin, nUnpin, nFlush, nDrop, nDirty, nHeld, nNum, nLive]
  · simp [callB, gB, nLive]

end Go.Na
