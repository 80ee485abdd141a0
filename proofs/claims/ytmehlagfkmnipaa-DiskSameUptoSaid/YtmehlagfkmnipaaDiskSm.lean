/- The law DiskSame, as the evaluator runs it. -/
import Derived.Test.YtmehlagfkmnipaaDiskPlay
set_option linter.unusedVariables false
set_option linter.unusedSimpArgs false
set_option maxRecDepth 4000
namespace Go.Dk
open Go.Gr

section
variable {X : Cx} {S : AS} {L F : List Ent}

theorem sameP_refl (D : DM) : D.sameP D := ⟨rfl, rfl, rfl, rfl⟩

theorem disk_same (n : Nat) (hn : 80000 < n) (h : Hp X S L) (s : Int) {a1 a2 : Option Pos} {l1 l2 : Nat} {c1 c2 : Cap} {x1 x2 : List Act} (ha : ActsR X a1 l1 x1) (hb : ActsR X a2 l2 x2) :
    Ok (ev (n + 6) (.fn 4) [.int .i64 s, .sl a1 l1 c1, .sl a2 l2 c2] S) fun v S' => v = .bool true := by
  rw [ev, F4 _ _ _ _ _ _ _ _ _ (oL rfl)]
  simp only [J4, b4_entry]
  have live : ∀ S, Ok (callB (evF E orcL (n + 5)) 10 [] S fun v S => some (.bool v, S)) fun v S' => v = .bool true := fun S => by
    rw [callB_of (live_eq (n + 4) S)]; exact ok_ret rfl
  obtain ⟨r1, e1, h1⟩ := long_ok (n + 4) (by omega) h ha (c := c1)
  rw [callB_of e1]
  refine ok_cond (fun _ => live _) (fun hr1 => ?_)
  obtain ⟨r2, e2, h2⟩ := long_ok (n + 4) (by omega) h hb (c := c2)
  rw [callB_of e2]
  refine ok_cond (fun _ => live _) (fun hr2 => ?_)
  refine ok_cond (fun _ => live _) (fun hs => ?_)
  simp only [gt_iff_lt, decide_eq_false_iff_not] at hs
  obtain ⟨v, S1, e, hp⟩ := played_ok n hn h ha (h1 hr1).1 (h1 hr1).2 s (c := c1)
  rcases hp with ⟨hrng, b, w, Ld, Lr, rfl, hd, hw, hp1⟩ | ⟨hrng, rfl, hp1⟩
  · rw [callT_of e]
    simp only [atP, List.getElem?_cons_zero, List.getElem?_cons_succ, gP]
    obtain ⟨v, S2, e, hp⟩ := played_ok n hn hp1 hb (h2 hr2).1 (h2 hr2).2 s (c := c2)
    rcases hp with ⟨_, b2, w2, Ld2, Lr2, rfl, hd2, hw2, hp2⟩ | ⟨hn', _⟩
    · rw [callT_of e]
      simp only [List.getElem?_cons_zero, List.getElem?_cons_succ]
      refine ok_false rfl (ok_false rfl ?_)
      have m1 : ∀ e ∈ Ld, e ∈ Ld2 ++ (Lr2 ++ (Ld ++ (Lr ++ L))) := fun e he => by simp [he]
      have m2 : ∀ e ∈ Ld2, e ∈ Ld2 ++ (Lr2 ++ (Ld ++ (Lr ++ L))) := fun e he => by simp [he]
      have m3 : ∀ e ∈ Lr, e ∈ Ld2 ++ (Lr2 ++ (Ld ++ (Lr ++ L))) := fun e he => by simp [he]
      have m4 : ∀ e ∈ Lr2, e ∈ Ld2 ++ (Lr2 ++ (Ld ++ (Lr ++ L))) := fun e he => by simp [he]
      obtain ⟨q1, e1, k1⟩ := same_eq (n + 3) (by omega) hp2 hd hd2 m1 m2
      rw [callB_of e1]
      obtain ⟨q2, e2, k2⟩ := rsame_eq (n + 3) (by omega) hp2 hw hw2 m3 m4
      rw [callB_of e2]
      have : q1 = q2 := by
        cases q1 <;> cases q2 <;> simp_all
      subst this
      refine ok_true (by simp) ?_
      obtain ⟨q3, e3, k3⟩ := same_eq (n + 3) (by omega) hp2 hd hd m1 m1
      rw [callB_of e3]
      have : q3 = true := k3.2 (sameP_refl _)
      subst this
      exact ok_true rfl (live _)
    · exact absurd hrng hn'
  · rw [callT_of e]
    simp only [atP, List.getElem?_cons_zero, List.getElem?_cons_succ, gP]
    obtain ⟨v, S2, e, hp⟩ := played_ok n hn hp1 hb (h2 hr2).1 (h2 hr2).2 s (c := c2)
    rcases hp with ⟨hn', _⟩ | ⟨_, rfl, hp2⟩
    · exact absurd hn' hrng
    · rw [callT_of e]
      simp only [List.getElem?_cons_zero, List.getElem?_cons_succ]
      exact ok_true rfl (ok_true (by simp; omega) (live _))
end

end Go.Dk
