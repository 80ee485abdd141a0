/- What the functions of package alloc do with a heap: the lists of a transaction, cloned. -/
import Derived.Test.YtjninokocidaaaaAlJ
set_option linter.unusedVariables false
set_option linter.unusedSimpArgs false
set_option maxRecDepth 4000
namespace Go.Al
open Go.Gr

section
variable {X : Cx} {S : AS} {L F : List Ent} {b : Nat} {A : AM} {Q : AV → AS → Prop}

abbrev CloneQ (X : Cx) (L : List Ent) (t : List Nat) : AV → AS → Prop := fun v S' => ∃ (a' : Option Pos) (c' : Cap) (Ld : List Ent), v = .sl a' t.length c' ∧ SlR a' t.length c' 1 (ins .i64 t) Ld ∧ Hp X S' (Ld ++ L)

theorem clone_ok (n : Nat) (h : Hp X S L) {t : List Nat} {a : Option Pos} {c : Cap} (hr : RdR X L a (row .i64 t)) (hl : t.length ≤ 65536) : Ok (ev (n + 1) (.fn 46) [.sl a t.length c] S) (CloneQ X L t) := by
  rw [ev, F46 _ _ _ _ _ (oL rfl)]
  simp only [J46, b46_entry]
  cases a with
  | none =>
    have ht : t = [] := by
      by_cases hn : row .i64 t = []
      · exact List.length_eq_zero_iff.1 (by have := congrArg List.length hn; simpa using this)
      · obtain ⟨p, hp⟩ := hr.some_of hn; cases hp
    subst ht
    exact ok_true rfl (ok_ret ⟨none, .ex 0, [], rfl, .nil, h⟩)
  | some p =>
    refine ok_false rfl (ok_newA h (fun b1 S1 h1 => ?_))
    have hs : SlR (some (.rw b1, 0)) 0 (.ex 0) 1 [] [C b1 []] := .of (xs := []) (by simp) rfl (.inl rfl)
    have h1' : Hp X S1 ([C b1 []] ++ L) := h1
    have hr1 : RdR X ([C b1 []] ++ L) (some p) (row .i64 t) := hr.mono (fun e he => by simp [he])
    refine ok_append h1' hs (ys := ins .i64 t) (ins_all _ _) (by simp) (fun K => ?_) (by decide) (by simp [pow46]; omega) (by simp [pow46]; omega) (fun a3 l3 c3 S3 L3 ht' h3 => ?_)
    · have := hr1.first h1' (sz := 1) (n := t.length) (by simp) (by decide) (l := t.length) (c := c) K
      simpa using this
    · rw [List.nil_append] at ht'
      obtain rfl : l3 = t.length := by have := ht'.len; simpa using this
      exact ok_ret ⟨a3, c3, L3, rfl, ht', h3⟩

theorem taken_ok (n : Nat) (h : Hp X S (L ++ F)) (ha : Alloc b A L) (hl : A.t.length ≤ 65536) : Ok (ev (n + 2) (.fn 26) [.ptr (some (.rw b, 0))] S) (CloneQ X (L ++ F) A.t) := by
  obtain ⟨bs, sc, ta, tl, tc, ga, gl, gc, Lt, Lg, hr, rfl⟩ := ha
  have htl : tl = A.t.length := by have := hr.ht.len; simpa using this
  subst htl
  rw [ev, F26 _ _ _ (oL rfl)]
  simp only [J26, b26_entry]
  refine ok_false rfl (ok_gO (ok_ldL h rfl ?_))
  have rdt := hr.ht.rd (X := X) (M := blks b A bs sc ta A.t.length tc ga gl gc Lt Lg ++ F) (by intro e he; simp [he])
  rw [ins_flat] at rdt
  obtain ⟨v, S1, e, a', c', Ld, rfl, h1, h2⟩ := clone_ok n (c := tc) h rdt hl
  rw [callL_of e]
  exact ok_ret ⟨a', c', Ld, rfl, h1, h2⟩

theorem given_ok (n : Nat) (h : Hp X S (L ++ F)) (ha : Alloc b A L) (hl : A.g.length ≤ 65536) : Ok (ev (n + 2) (.fn 27) [.ptr (some (.rw b, 0))] S) (CloneQ X (L ++ F) A.g) := by
  obtain ⟨bs, sc, ta, tl, tc, ga, gl, gc, Lt, Lg, hr, rfl⟩ := ha
  have hgl : gl = A.g.length := by have := hr.hg.len; simpa using this
  subst hgl
  rw [ev, F27 _ _ _ (oL rfl)]
  simp only [J27, b27_entry]
  refine ok_false rfl (ok_gO (ok_ldL h rfl ?_))
  have rdt := hr.hg.rd (X := X) (M := blks b A bs sc ta tl tc ga A.g.length gc Lt Lg ++ F) (by intro e he; simp [he])
  rw [ins_flat] at rdt
  obtain ⟨v, S1, e, a', c', Ld, rfl, h1, h2⟩ := clone_ok n (c := gc) h rdt hl
  rw [callL_of e]
  exact ok_ret ⟨a', c', Ld, rfl, h1, h2⟩

end

end Go.Al

namespace Go.Al
open Go.Gr

theorem arow_all (l : List (Int × Int)) : ∀ r ∈ l.map arow, r.length = 2 := fun r hr => by obtain ⟨z, _, rfl⟩ := List.mem_map.1 hr; rfl

section
variable {X : Cx} {S : AS} {L F : List Ent} {b : Nat} {A : AM} {Q : AV → AS → Prop}

end

end Go.Al

namespace Go.Al
open Go.Gr

def cnt5 (s : List Nat) (i : Nat) : List Nat := (List.range 5).map fun j => (s.take i).count j
@[simp] theorem cnt5_len (s : List Nat) (i : Nat) : (cnt5 s i).length = 5 := by simp [cnt5]
section
variable {X : Cx} {S : AS} {L F : List Ent} {b : Nat} {A : AM} {Q : AV → AS → Prop}

end

end Go.Al
