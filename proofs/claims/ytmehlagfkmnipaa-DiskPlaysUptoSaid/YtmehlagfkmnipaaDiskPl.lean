/- The law DiskPlays, as the evaluator runs it. -/
import Derived.Test.YtmehlagfkmnipaaDiskTells
set_option linter.unusedVariables false
set_option linter.unusedSimpArgs false
set_option maxRecDepth 4000
namespace Go.Dk
open Go.Gr

section
variable {X : Cx} {S : AS} {L F : List Ent}

theorem plays_loop (n : Nat) (hn : 80000 < n) {a : Option Pos} {l : Nat} {c : Cap} {acts : List Act} (ha : ActsR X a l acts) (h80 : acts.length ≤ 80) (hb : ∀ x ∈ acts, x.data.length ≤ 20000 ∧ x.keep.length ≤ 20000) (w6 : Bool) {w : Nat} :
    ∀ (m i : Nat) (S : AS) (D : DM) (b : Nat) (Ld Lr : List Ent), i ≤ acts.length → acts.length - i < m → Disk b D Ld → Ref w D Lr → Hp X S (Ld ++ (Lr ++ L)) →
      Ok (J8_l1_1_1_1_1_0_1_0 (evF E orcL (n + 5)) (n + 5) m a l c w6 (some (.rw b, 0)) (some (.rw w, 0)) i S) fun v S' => v = .bool true := by
  have ha' := ha
  obtain ⟨rows, hr, q1, q2, q3, q4, q5, q6⟩ := ha'
  intro m
  induction m with
  | zero => intro i S D b Ld Lr _ hm; omega
  | succ m ih =>
    intro i S D b Ld Lr hi hm hd hw h
    rw [J8_l1_1_1_1_1_0_1_0_succ]
    simp only [b8_l1_1_1_1_1_0_1_0]
    refine ok_true rfl ?_
    have fin : i = acts.length → Ok (J8_j1_1_1_1_1_1 (evF E orcL (n + 5)) (n + 5) (some (.rw b, 0)) (some (.rw w, 0)) S) fun v S' => v = .bool true := fun _ => by
      simp only [J8_j1_1_1_1_1_1, b8_j1_1_1_1_1_1]
      refine ok_false rfl ?_
      obtain ⟨v, S2, e, rfl, _⟩ := tells_ok (n + 1) (by omega) h hd hw
      rw [callB_of e]
      exact ok_ret rfl
    refine ok_cond (fun hc => ?_) (fun hc => fin (by simp only [decide_eq_false_iff_not] at hc; omega))
    simp only [decide_eq_true_eq] at hc
    have hlt : i < acts.length := by omega
    obtain ⟨x, r, p, hx, hxr, rfl, hldn, hldi, _⟩ := acts_at ha h hlt
    have hxm := List.mem_of_getElem? hx
    rw [ixSl_at rfl (by omega)]
    simp only
    rw [hldn]
    obtain ⟨v, S15, e, b', Ld', Lr', rfl, _, hd', hw', h'⟩ := act_ok (n + 1) (by omega) h hd hw hxr (hb x hxm).1 (hb x hxm).2
    rw [callT_of e]
    simp only [atP, atB, List.getElem?_cons_zero, List.getElem?_cons_succ, gP, gB]
    refine ok_false rfl (ok_false rfl ?_)
    obtain ⟨v, S16, e, rfl, h16⟩ := tells_ok (n + 1) (by omega) h' hd' hw'
    rw [callB_of e]
    refine ok_false rfl ?_
    have ew : IntKind.wrap .i64 ((i : Int) + 1) = ((i + 1 : Nat) : Int) := by rw [wrap64 (by omega) (by omega)]; rfl
    rw [ew]
    exact ih (i + 1) S16 (D.act x) b' Ld' Lr' (by omega) (by omega) hd' hw' h16

theorem plays_none (n : Nat) {a : Option Pos} {l : Nat} {c : Cap} (w6 : Bool) (i : Int) (m : Nat) (S : AS) :
    Ok (J8_l1_1_1_1_1_0_1_0 (evF E orcL (n + 5)) (n + 5) (m + 1) a l c w6 none none i S) fun v S' => v = .bool true := by
  rw [J8_l1_1_1_1_1_0_1_0_succ]
  simp only [b8_l1_1_1_1_1_0_1_0, J8_j1_1_1_1_1_1, b8_j1_1_1_1_1_1]
  exact ok_false rfl (ok_true rfl (ok_ret rfl))

theorem disk_plays (n : Nat) (hn : 80000 < n) (h : Hp X S L) (s z : Int) {a : Option Pos} {l : Nat} {c : Cap} {acts : List Act} (ha : ActsR X a l acts) :
    Ok (ev (n + 6) (.fn 8) [.int .i64 s, .int .i64 z, .sl a l c] S) fun v S' => v = .bool true := by
  rw [ev, F8 _ _ _ _ _ _ _ (oL rfl)]
  simp only [J8, b8_entry]
  have live : ∀ S, Ok (callB (evF E orcL (n + 5)) 10 [] S fun v S => some (.bool v, S)) fun v S' => v = .bool true := fun S => by
    rw [callB_of (live_eq (n + 4) S)]; exact ok_ret rfl
  obtain ⟨r1, e1, h1⟩ := long_ok (n + 4) (by omega) h ha (c := c)
  rw [callB_of e1]
  refine ok_cond (fun _ => live _) (fun hr1 => ?_)
  have main : Ok (callT (evF E orcL (n + 5)) 11 [.int .i64 s, .int .i64 z] S fun v8 S7 => atP v8 0 fun v9 => atI .i64 v8 1 fun v10 =>
      callT (evF E orcL (n + 5)) 33 [.int .i64 s, .int .i64 z] S7 fun v12 S11 => atP v12 0 fun v13 => atI .i64 v12 1 fun v14 =>
      callI .i64 (evF E orcL (n + 5)) 12 [.int .i64 v10] S11 fun v16 S15 =>
      cond (v16 != v14) (some (.bool false, S15)) (cond (!(v9.isNone == v13.isNone)) (some (.bool false, S15)) (
        callB (evF E orcL (n + 5)) 10 [] S15 fun v18 S17 => cond (!v18) (some (.bool false, S17)) (
          J8_l1_1_1_1_1_0_1_0 (evF E orcL (n + 5)) (n + 5) (n + 5) a l c false v9 v13 0 S17)))) fun v S' => v = .bool true := by
    by_cases hok : 1 ≤ s ∧ s ≤ 65536 ∧ 8 ≤ z ∧ z ≤ 512
    · obtain ⟨k, rfl⟩ : ∃ k : Nat, s = k := ⟨s.toNat, by omega⟩
      obtain ⟨u, rfl⟩ : ∃ u : Nat, z = u := ⟨z.toNat, by omega⟩
      obtain ⟨v, S1, e, b, Ld, rfl, hd, hp1⟩ := new_ok (n + 4) h k u (by omega) (by omega) (by omega) (by omega)
      rw [callT_of e]
      simp only [atP, atI, List.getElem?_cons_zero, List.getElem?_cons_succ, gP, gIk, if_true]
      obtain ⟨v, S5, e, w, Lr, rfl, hw, hp2⟩ := rnew_ok (n + 3) (by omega) hp1 k u (by omega) (by omega) (by omega) (by omega)
      rw [callT_of e]
      simp only [List.getElem?_cons_zero, List.getElem?_cons_succ, if_true]
      rw [callI_of (num_eq (n + 4) _ S5)]
      refine ok_false rfl (ok_false rfl ?_)
      rw [callB_of (live_eq (n + 4) S5)]
      refine ok_false rfl ?_
      exact plays_loop (L := L) n hn ha (h1 hr1).1 (h1 hr1).2 false (n + 5) 0 S5 _ b Ld Lr (Nat.zero_le _) (by have := (h1 hr1).1; omega) hd hw (hp2.re (by intro p; simp only [List.countP_append]; omega))
    · rw [callT_of (new_err (n + 4) s z hok)]
      simp only [atP, atI, List.getElem?_cons_zero, List.getElem?_cons_succ, gP, gIk, if_true]
      rw [callT_of (rnew_err (n + 4) s z hok)]
      simp only [List.getElem?_cons_zero, List.getElem?_cons_succ, if_true]
      rw [callI_of (num_eq (n + 4) _ S)]
      refine ok_false rfl (ok_false rfl ?_)
      rw [callB_of (live_eq (n + 4) S)]
      refine ok_false rfl ?_
      exact plays_none n false 0 (n + 4) S
  exact ok_cond (fun _ => ok_cond (fun _ => live _) (fun _ => main)) (fun _ => main)
end

end Go.Dk
