/- What the law's own functions do with a heap: letting go; an act on both allocators. -/
import Derived.Test.YtjninokocidaaaaAlF
import Derived.Test.YtjninokocidaaaaAlR
set_option linter.unusedVariables false
set_option linter.unusedSimpArgs false
set_option maxRecDepth 4000
namespace Go.Al
open Go.Gr

/-- The states from one block on, let go. -/
def lgF (i : Nat) (s : List Nat) : List Nat := s.mapIdx fun j x => if i ≤ j then AM.lg x else x
theorem lgF_get (i : Nat) (s : List Nat) (j : Nat) : (lgF i s)[j]? = (s[j]?).map fun x => if i ≤ j then AM.lg x else x := by simp [lgF]
theorem lgF_end (s : List Nat) : lgF s.length s = s := by
  apply List.ext_getElem?
  intro j
  rw [lgF_get]
  by_cases h : j < s.length
  · rw [List.getElem?_eq_getElem h]; simp; omega
  · rw [List.getElem?_eq_none (by omega)]; rfl
theorem lgF_zero (s : List Nat) : lgF 0 s = s.map AM.lg := by
  apply List.ext_getElem?
  intro j
  rw [lgF_get, List.getElem?_map]; simp
theorem lgF_step {s : List Nat} {i x : Nat} (hi : s[i]? = some x) : lgF (i + 1) (s.set i (AM.lg x)) = lgF i s := by
  have hlt := (List.getElem?_eq_some_iff.1 hi).1
  apply List.ext_getElem?
  intro j
  rw [lgF_get, lgF_get, set_get hlt]
  by_cases h : i = j
  · subst h
    rw [if_pos rfl, hi]
    simp only [Option.map_some, Option.some.injEq]
    rw [if_neg (by omega), if_pos (Nat.le_refl _)]
  · rw [if_neg h]
    cases s[j]? with
    | none => rfl
    | some y =>
      simp only [Option.map_some, Option.some.injEq]
      by_cases h2 : i ≤ j
      · rw [if_pos (by omega), if_pos h2]
      · rw [if_neg (by omega), if_neg h2]
theorem lgF_same {s : List Nat} {i x : Nat} (hi : s[i]? = some x) (hx : x ≠ 4) : lgF (i + 1) s = lgF i s := by
  have := lgF_step hi
  have e : s.set i (AM.lg x) = s := by
    have : AM.lg x = x := by unfold AM.lg; rw [if_neg hx]
    rw [this]
    obtain ⟨hlt, rfl⟩ := List.getElem?_eq_some_iff.1 hi
    exact List.set_getElem_self hlt
  rwa [e] at this

theorem ok_atI {k : IntKind} {l : List AV} {i : Nat} {v : Int} {K : Int → Option (AV × AS)} {Q : AV → AS → Prop} (h : l[i]? = some (.int k v)) (ht : Ok (K v) Q) : Ok (atI k l i K) Q := by simp only [atI, h, gIk, if_true]; exact ht
theorem ok_atL {l : List AV} {i : Nat} {a : Option Pos} {m : Nat} {c : Cap} {K : Option Pos → Nat → Cap → Option (AV × AS)} {Q : AV → AS → Prop} (h : l[i]? = some (.sl a m c)) (ht : Ok (K a m c) Q) : Ok (atL l i K) Q := by simp only [atL, h, gL]; exact ht
theorem ok_atP {l : List AV} {i : Nat} {a : Option Pos} {K : Option Pos → Option (AV × AS)} {Q : AV → AS → Prop} (h : l[i]? = some (.ptr a)) (ht : Ok (K a) Q) : Ok (atP l i K) Q := by simp only [atP, h, gP]; exact ht

section
variable {X : Cx} {S : AS} {L F : List Ent} {b : Nat} {A : AM} {Q : AV → AS → Prop}

/-- A list of blocks is told. -/
abbrev LetQ (X : Cx) (F : List Ent) (b : Nat) (A : AM) : AV → AS → Prop := fun v S' => ∃ (a : Option Pos) (c : Cap) (d : List Nat) (Ld L' : List Ent), v = .sl a d.length c ∧ d.length ≤ A.s.length ∧ SlR a d.length c 1 (ins .i64 d) Ld ∧ Alloc b A L' ∧ Hp X S' (Ld ++ (L' ++ F))

theorem letgo_loop (n0 n : Nat) {A : AM} {bs : Nat} {sc : Cap} {ta : Option Pos} {tl : Nat} {tc : Cap} {ga : Option Pos} {gl : Nat} {gc : Cap} {Lt Lg : List Ent} {N : Nat} (hN : N ≤ 65536) {R : List Nat} (hRl : R.length = N) :
    ∀ (m i : Nat) (s d : List Nat) (a : Option Pos) (c : Cap) (Ld : List Ent) (S : AS), s.length = N → i ≤ N → N - i < m → d.length ≤ i → lgF i s = R → SlR a d.length c 1 (ins .i64 d) Ld → AllocR { A with s := s } bs sc ta tl tc ga gl gc Lt Lg → Hp X S (Ld ++ (blks b { A with s := s } bs sc ta tl tc ga gl gc Lt Lg ++ F)) →
      Ok (J34_l1_1_1_0_1_0 (evF E orcL (n + 1)) n0 m (some (.rw b, 0)) a d.length c (some (.rw bs, 0)) N sc N i S) (LetQ X F b { A with s := R })
  | 0, i, s, d, a, c, Ld, S, hsl, hi, hm, hdl, hR, hs, hr, h => by omega
  | m + 1, i, s, d, a, c, Ld, S, hsl, hi, hm, hdl, hR, hs, hr, h => by
    rw [J34_l1_1_1_0_1_0_succ]
    simp only [b34_l1_1_1_0_1_0]
    refine ok_cond (fun hc => ?_) (fun hc => ?_)
    · simp only [decide_eq_true_eq] at hc
      have hlt : i < s.length := by omega
      obtain ⟨y, hyi⟩ : ∃ y, s[i]? = some y := ⟨_, List.getElem?_eq_getElem hlt⟩
      refine ok_ixSl (k := i) rfl (by omega) ?_
      simp only [Nat.zero_add, Nat.mul_one]
      refine ok_ldI h (row_at hyi) ?_
      have next : ∀ (s2 d2 : List Nat) (a2 : Option Pos) (c2 : Cap) (L2 : List Ent) (S2 : AS), s2.length = N → d2.length ≤ i + 1 → lgF (i + 1) s2 = R → SlR a2 d2.length c2 1 (ins .i64 d2) L2 → AllocR { A with s := s2 } bs sc ta tl tc ga gl gc Lt Lg → Hp X S2 (L2 ++ (blks b { A with s := s2 } bs sc ta tl tc ga gl gc Lt Lg ++ F)) →
          Ok (J34_j1_1_1_0_1_0_0_1_1_1 (evF E orcL (n + 1)) n0 (J34_l1_1_1_0_1_0 (evF E orcL (n + 1)) n0 m) (some (.rw b, 0)) a2 d2.length c2 (some (.rw bs, 0)) N sc N i S2) (LetQ X F b { A with s := R }) := by
        intro s2 d2 a2 c2 L2 S2 h1 h2 h3 h4 h5 h6
        simp only [J34_j1_1_1_0_1_0_0_1_1_1, b34_j1_1_1_0_1_0_0_1_1_1]
        rw [wn (x := (i : Int) + 1) (n := i + 1) (by omega) (by omega)]
        exact letgo_loop n0 n hN hRl m (i + 1) s2 d2 a2 c2 L2 S2 h1 (by omega) (by omega) h2 h3 h4 h5 h6
      refine ok_cond (fun hy => ?_) (fun hy => ?_)
      · have hy4 : y = 4 := by simp only [beq_iff_eq] at hy; omega
        subst hy4
        have h' := h.re (M := blks b { A with s := s } bs sc ta tl tc ga gl gc Lt Lg ++ (Ld ++ F)) (by intro p; simp only [List.countP_append]; omega)
        obtain ⟨v, S1, e, rfl, L1, ha1, h1, hsh⟩ := set_ok n h' ⟨bs, sc, ta, tl, tc, ga, gl, gc, Lt, Lg, hr, rfl⟩ (A := { A with s := s }) hlt (x := 0) (by omega) (ii := (i : Nat)) (xi := 0) rfl rfl
        have hL1 := hsh bs sc ta tl tc ga gl gc Lt Lg hr rfl
        subst hL1
        rw [callT_of e]
        have hr1 : AllocR { A with s := s.set i 0 } bs sc ta tl tc ga gl gc Lt Lg := hr.set (A := { A with s := s }) i (by omega)
        refine ok_newA h1 (fun b5 S6 h6 => ?_)
        have h6' := h6.re (M := Ld ++ (C b5 [.int .i64 i] :: (blks b { A with s := s.set i 0 } bs sc ta tl tc ga gl gc Lt Lg ++ F))) (by intro p; simp only [List.countP_append, List.countP_cons, C]; omega)
        refine ok_append h6' hs (ys := ins .i64 [i]) (ins_all _ _) rfl (fun K => ?_) (by decide) (by simp [pow46]; omega) (by simp [pow46]; omega) (fun a3 l3 c3 S3 L3 ht' h3 => ?_)
        · have := RdR.first (.rw (X := X) (b := b5) (i := 0) (c := [.int .i64 i]) (cs := [.int .i64 i]) (L := _) (List.mem_append_right Ld List.mem_cons_self) (by simp) rfl) h6' (sz := 1) (n := 1) rfl (by decide) (l := 1) (c := .ex 1) K
          simpa [row] using this
        · rw [← ins_append] at ht'
          obtain rfl : l3 = (d ++ [i]).length := by have := ht'.len; simpa using this
          exact next (s.set i 0) (d ++ [i]) a3 c3 L3 S3 (by simpa using hsl) (by simp; omega) (by rw [← hR, ← lgF_step hyi]; rfl) ht' hr1 (h3.re (M := C b5 [.int .i64 i] :: (L3 ++ (blks b { A with s := s.set i 0 } bs sc ta tl tc ga gl gc Lt Lg ++ F))) (by intro p; simp only [List.countP_append, List.countP_cons, C]; omega)).drop1
      · have hy4 : y ≠ 4 := by simp only [beq_eq_false_iff_ne, ne_eq] at hy; omega
        exact next s d a c Ld S hsl (by omega) (by rw [lgF_same hyi hy4]; exact hR) hs hr h
    · simp only [decide_eq_false_iff_not] at hc
      obtain rfl : i = s.length := by omega
      rw [lgF_end] at hR
      subst hR
      exact ok_ret ⟨a, c, d, Ld, _, rfl, by show d.length ≤ s.length; omega, hs, ⟨bs, sc, ta, tl, tc, ga, gl, gc, Lt, Lg, hr, rfl⟩, h⟩

theorem letgo_ok (n : Nat) (hn : 70000 < n) (h : Hp X S (L ++ F)) (ha : Alloc b A L) (hh : A.h < 1000000) : Ok (ev (n + 2) (.fn 34) [.ptr (some (.rw b, 0))] S) (LetQ X F b A.letgo) := by
  have ha0 := ha
  obtain ⟨bs, sc, ta, tl, tc, ga, gl, gc, Lt, Lg, hr, rfl⟩ := ha
  have hn2 := hr.n2
  rw [ev, F34 _ _ _ (oL rfl)]
  simp only [J34, b34_entry]
  refine ok_false rfl (ok_gO (ok_ldI h rfl (ok_cond (fun hc => ?_) (fun hc => ?_))))
  · have h0 : A.h = 0 := by simp only [beq_iff_eq] at hc; omega
    have e : A.letgo = A := by unfold AM.letgo; rw [if_pos h0]
    exact ok_ret ⟨none, .ex 0, [], [], _, rfl, Nat.zero_le _, .nil, by rw [e]; exact ha0, h⟩
  · have h0 : A.h ≠ 0 := by simp only [beq_eq_false_iff_ne, ne_eq] at hc; omega
    refine ok_gO (ok_ldI h rfl ?_)
    refine setH_ok (r := A.h - 1) (by rw [wrap64 (by omega) (by omega)]; omega) hr h (fun S1 ha1 h1 => ok_gO (ok_ldI h1 rfl (ok_cond (fun hc => ?_) (fun hc => ?_))))
    · simp only [gt_iff_lt, decide_eq_true_eq] at hc
      have e : A.letgo = { A with h := A.h - 1 } := by unfold AM.letgo; rw [if_neg h0, if_pos (by omega)]
      exact ok_ret ⟨none, .ex 0, [], [], _, rfl, Nat.zero_le _, .nil, by rw [e]; exact ha1, h1⟩
    · simp only [gt_iff_lt, decide_eq_false_iff_not] at hc
      have e : A.letgo = { A with h := A.h - 1, s := A.s.map AM.lg } := by unfold AM.letgo; rw [if_neg h0, if_neg (by omega), show A.h - 1 = 0 by omega]
      rw [e]
      refine ok_gO (ok_ldL h1 rfl ?_)
      exact letgo_loop (A := { A with h := A.h - 1 }) (n + 1) n hn2 (by simp) (n + 1) 0 A.s [] none (.ex 0) [] S1 rfl (by omega) (by omega) (by simp) (lgF_zero _) .nil ⟨hr.n1, hr.n2, hr.st, hr.hc, hr.ht, hr.hg⟩ h1

theorem ints_some (n : Nat) (hn : 70000 < n) {a a2 : Option Pos} {l l2 : Nat} {c c2 : Cap} {d d2 : List Int} (h1 : l = d.length) (h2 : l2 = d2.length) (hd : d.length ≤ 70000) (h : Hp X S L) (hr : RdR X L a (d.map (AV.int .i64))) (hr2 : RdR X L a2 (d2.map (AV.int .i64))) :
    ∃ p, ev (n + 1) (.fn 38) [.sl a l c, .sl a2 l2 c2] S = some (.bool p, S) := by
  subst h1 h2
  exact ⟨_, ints_eq n hn hd h hr hr2⟩

theorem row_map (k : IntKind) (d : List Nat) : row k d = (d.map fun (n : Nat) => (n : Int)).map (AV.int k) := by simp [row]

/-- Both allocators behind an act. -/
abbrev ActQ (X : Cx) (F : List Ent) (b b2 : Nat) (A : AM) (N M : Nat) (k x : Int) : AV → AS → Prop := fun v S' => ∃ (p : Bool) (L' L2' M' : List Ent), v = .tup [.ptr (some (.rw b, 0)), .bool p] ∧ Alloc b (A.act k x) L' ∧ (A.act k x).WF ∧ (A.act k x).s.length = A.s.length ∧ (A.act k x).h ≤ A.h + 1 ∧ RefB b2 N (M + 1) L2' ∧ Hp X S' (L' ++ (L2' ++ (M' ++ F)))

theorem act_ok (n : Nat) (hn : 1000000 < n) {b2 N M : Nat} {L2 : List Ent} (h : Hp X S (L ++ (L2 ++ F))) (ha : Alloc b A L) (hw : A.WF) (hA : A.s.length < 256) (hh : A.h < 1000) (hr : RefB b2 N M L2) (hM : M ≤ 1000) (hN : N ≤ 256) {k x : Int} (hk : k ≠ 9) :
    Ok (ev (n + 302) (.fn 31) [.ptr (some (.rw b, 0)), .ptr (some (.rw b2, 0)), .agg [.int .i64 k, .int .i64 x]] S) (ActQ X F b b2 A N M k x) := by
  have hwt := hw.tl
  have hwn := hw.n2
  rw [ev, F31 _ _ _ _ _ (oL rfl)]
  simp only [J31, b31_entry]
  refine ok_ifO rfl (ok_newA h (fun b1 S2 h1 => ok_ldI h1 rfl ?_))
  have h2 := h1.re (M := L ++ (L2 ++ (C b1 [.int .i64 k, .int .i64 x] :: F))) (by intro p; simp only [List.countP_append, List.countP_cons, C]; omega)
  have fin : ∀ {p : Bool} {S' : AS} {A' : AM} {L' L2' M' : List Ent}, A.act k x = A' → Alloc b A' L' → A'.WF → A'.s.length = A.s.length → A'.h ≤ A.h + 1 → RefB b2 N (M + 1) L2' → Hp X S' (L2' ++ (L' ++ (M' ++ F))) → Ok (some (AV.tup [.ptr (some (.rw b, 0)), .bool p], S')) (ActQ X F b b2 A N M k x) :=
    fun {p S' A' L' L2' M'} e0 e1 e2 e3 e4 e5 e6 => ok_ret ⟨p, L', L2', M', rfl, by rw [e0]; exact e1, by rw [e0]; exact e2, by rw [e0]; exact e3, by rw [e0]; exact e4, e5, e6.re (by intro p; simp only [List.countP_append]; omega)⟩
  -- Take
  refine ok_cond (fun hc => ?_) (fun n1 => ?_)
  · have hk1 : A.act k x = A.take x := by simp only [beq_iff_eq] at hc; simp [AM.act, hc]
    refine ok_ldI h1 rfl ?_
    obtain ⟨v, S3, e, rfl, L3, ha3, h3⟩ : Ok (evF E orcL (n + 301) (.fn 13) [.ptr (some (.rw b, 0)), .int .i64 x] S2) _ := take_ok (n + 298) (by omega) h2 ha (by omega) x
    rw [callT_of e]
    refine ok_atI rfl (ok_atI rfl (ok_ldI h3 rfl ?_))
    obtain ⟨v, S4, e, k1, j1, L4, rfl, hr4, h4⟩ : Ok (evF E orcL (n + 301) (.fn 47) [.ptr (some (.rw b2, 0)), .int .i64 x] S3) (Ref2 X (L3 ++ (C b1 [.int .i64 k, .int .i64 x] :: F)) b2 N (M + 1)) := rTake_ok (n + 299) (by omega) (by omega) hr (h3.re (by intro p; simp only [List.countP_append, List.countP_cons, C]; omega)) x
    rw [callT_of e]
    refine ok_atI rfl (ok_atI rfl ?_)
    have e1 := num_eq (n + 300) (A.takeE x) S4
    refine ok_cond (fun _ => ?_) (fun _ => fin (M' := [C b1 [.int .i64 k, .int .i64 x]]) hk1 ha3 (hw.take x) (by simp) (by simp) hr4 h4)
    rw [callI_of e1]
    exact fin (M' := [C b1 [.int .i64 k, .int .i64 x]]) hk1 ha3 (hw.take x) (by simp) (by simp) hr4 h4
  -- TakeReserved
  refine ok_cond (fun hc => ?_) (fun n2 => ?_)
  · have hk1 : A.act k x = A.res x := by simp only [beq_iff_eq] at hc; simp [AM.act, hc]
    refine ok_ldI h1 rfl ?_
    obtain ⟨v, S3, e, rfl, L3, ha3, h3⟩ : Ok (evF E orcL (n + 301) (.fn 20) [.ptr (some (.rw b, 0)), .int .i64 x] S2) _ := res_ok (n + 298) (by omega) h2 ha hw x
    rw [callT_of e]
    refine ok_atI rfl (ok_atI rfl (ok_ldI h3 rfl ?_))
    obtain ⟨v, S4, e, k1, j1, L4, rfl, hr4, h4⟩ : Ok (evF E orcL (n + 301) (.fn 48) [.ptr (some (.rw b2, 0)), .int .i64 x] S3) (Ref2 X (L3 ++ (C b1 [.int .i64 k, .int .i64 x] :: F)) b2 N (M + 1)) := rRes_ok (n + 299) (by omega) (by omega) hr (h3.re (by intro p; simp only [List.countP_append, List.countP_cons, C]; omega)) x
    rw [callT_of e]
    refine ok_atI rfl (ok_atI rfl ?_)
    have e1 := num_eq (n + 300) (A.resE x) S4
    refine ok_cond (fun _ => ?_) (fun _ => fin (M' := [C b1 [.int .i64 k, .int .i64 x]]) hk1 ha3 (hw.res x) (by simp) (by simp) hr4 h4)
    rw [callI_of e1]
    exact fin (M' := [C b1 [.int .i64 k, .int .i64 x]]) hk1 ha3 (hw.res x) (by simp) (by simp) hr4 h4
  -- Give
  refine ok_cond (fun hc => ?_) (fun n3 => ?_)
  · have hk1 : A.act k x = A.give x := by simp only [beq_iff_eq] at hc; simp [AM.act, hc]
    refine ok_ldI h1 rfl ?_
    obtain ⟨v, S3, e, rfl, L3, ha3, h3⟩ : Ok (evF E orcL (n + 301) (.fn 21) [.ptr (some (.rw b, 0)), .int .i64 x] S2) _ := give_ok (n + 298) (by omega) h2 ha hw x
    rw [callI_of e, callI_of (num_eq (n + 300) (A.giveE x) S3)]
    refine ok_ldI h3 rfl (ok_ldI h3 rfl (ok_true (by simp [AV.beq]) (ok_ldI h2 rfl (ok_true (by simp [AV.beq]) ?_))))
    obtain ⟨v, S4, e, k1, L4, rfl, hr4, h4⟩ : Ok (evF E orcL (n + 301) (.fn 49) [.ptr (some (.rw b2, 0)), .int .i64 x] S3) (Ref1 X (L3 ++ (C b1 [.int .i64 k, .int .i64 x] :: F)) b2 N (M + 1)) := rGive_ok (n + 299) (by omega) (by omega) hr (h3.re (by intro p; simp only [List.countP_append, List.countP_cons, C]; omega)) x
    rw [callI_of e]
    exact fin (M' := [C b1 [.int .i64 k, .int .i64 x]]) hk1 ha3 (hw.give x) (by simp) (by simp) hr4 h4
  -- Mark
  refine ok_cond (fun hc => ?_) (fun n4 => ?_)
  · have hk1 : A.act k x = A.mark x := by simp only [beq_iff_eq] at hc; simp [AM.act, hc]
    refine ok_ldI h1 rfl ?_
    obtain ⟨v, S3, e, rfl, L3, ha3, h3⟩ : Ok (evF E orcL (n + 301) (.fn 35) [.ptr (some (.rw b, 0)), .int .i64 x] S2) _ := mark_ok (n + 298) (by omega) h2 ha hw x
    rw [callI_of e, callI_of (num_eq (n + 300) (A.markE x) S3)]
    refine ok_ldI h3 rfl (ok_ldI h3 rfl (ok_true (by simp [AV.beq]) (ok_ldI h2 rfl (ok_true (by simp [AV.beq]) ?_))))
    obtain ⟨v, S4, e, k1, L4, rfl, hr4, h4⟩ : Ok (evF E orcL (n + 301) (.fn 50) [.ptr (some (.rw b2, 0)), .int .i64 x] S3) (Ref1 X (L3 ++ (C b1 [.int .i64 k, .int .i64 x] :: F)) b2 N (M + 1)) := rMark_ok (n + 299) (by omega) (by omega) hr (h3.re (by intro p; simp only [List.countP_append, List.countP_cons, C]; omega)) x
    rw [callI_of e]
    exact fin (M' := [C b1 [.int .i64 k, .int .i64 x]]) hk1 ha3 (hw.mark x) (by simp) (by simp) hr4 h4
  -- Reserve
  refine ok_cond (fun hc => ?_) (fun n5 => ?_)
  · have hk1 : A.act k x = A.reserve x := by simp only [beq_iff_eq] at hc; simp [AM.act, hc]
    refine ok_ldI h1 rfl ?_
    obtain ⟨v, S3, e, rfl, L3, ha3, h3⟩ : Ok (evF E orcL (n + 301) (.fn 22) [.ptr (some (.rw b, 0)), .int .i64 x] S2) _ := reserve_ok (n + 300) h2 ha hw x
    rw [callI_of e, callI_of (num_eq (n + 300) (A.reserveE x) S3)]
    refine ok_ldI h3 rfl (ok_ldI h3 rfl (ok_true (by simp [AV.beq]) (ok_ldI h2 rfl (ok_true (by simp [AV.beq]) ?_))))
    obtain ⟨v, S4, e, k1, L4, rfl, hr4, h4⟩ : Ok (evF E orcL (n + 301) (.fn 51) [.ptr (some (.rw b2, 0)), .int .i64 x] S3) (Ref1 X (L3 ++ (C b1 [.int .i64 k, .int .i64 x] :: F)) b2 N M) := rReserve_ok (n + 299) (by omega) hr (h3.re (by intro p; simp only [List.countP_append, List.countP_cons, C]; omega)) x
    rw [callI_of e]
    exact fin (M' := [C b1 [.int .i64 k, .int .i64 x]]) hk1 ha3 (hw.reserve x) (by simp) (by simp) (hr4.more (Nat.le_succ _)) h4
  -- Release
  refine ok_cond (fun hc => ?_) (fun n6 => ?_)
  · have hk1 : A.act k x = A.release x := by simp only [beq_iff_eq] at hc; simp [AM.act, hc]
    refine ok_ldI h1 rfl ?_
    obtain ⟨v, S3, e, rfl, L3, ha3, h3⟩ : Ok (evF E orcL (n + 301) (.fn 36) [.ptr (some (.rw b, 0)), .int .i64 x] S2) _ := release_ok (n + 300) h2 ha hw x
    rw [callI_of e, callI_of (num_eq (n + 300) (A.releaseE x) S3)]
    refine ok_ldI h3 rfl (ok_ldI h3 rfl (ok_true (by simp [AV.beq]) (ok_ldI h2 rfl (ok_true (by simp [AV.beq]) ?_))))
    obtain ⟨v, S4, e, k1, L4, rfl, hr4, h4⟩ : Ok (evF E orcL (n + 301) (.fn 52) [.ptr (some (.rw b2, 0)), .int .i64 x] S3) (Ref1 X (L3 ++ (C b1 [.int .i64 k, .int .i64 x] :: F)) b2 N M) := rRelease_ok (n + 300) hr (h3.re (by intro p; simp only [List.countP_append, List.countP_cons, C]; omega)) x
    rw [callI_of e]
    exact fin (M' := [C b1 [.int .i64 k, .int .i64 x]]) hk1 ha3 (hw.release x) (by simp) (by simp) (hr4.more (Nat.le_succ _)) h4
  -- Commit
  refine ok_cond (fun hc => ?_) (fun n7 => ?_)
  · have hk1 : A.act k x = A.commit := by simp only [beq_iff_eq] at hc; simp [AM.act, hc]
    obtain ⟨v, S3, e, ta, tc, ga, gc, t', g', L3, Mt, Mg, rfl, hpt, hpg, rdt, rdg, ha3, h3⟩ := commit_ok n hn h2 ha hw hA
    rw [callT_of e]
    refine ok_atL rfl (ok_atL rfl ?_)
    obtain ⟨v, S4, e, a, c, d, Ld, a2, c2, d2, Ld2, L4, rfl, hd, hs, hd2, hs2, hr4, h4⟩ : Ok (evF E orcL (n + 301) (.fn 53) [.ptr (some (.rw b2, 0))] S3) (ComQ X (L3 ++ (Mt ++ (Mg ++ (C b1 [.int .i64 k, .int .i64 x] :: F)))) b2 N) := rcommit_ok (n + 299) (by omega) hr (h3.re (by intro p; simp only [List.countP_append, List.countP_cons, C]; omega))
    rw [callT_of e]
    refine ok_atL rfl (ok_atL rfl ?_)
    have hfin : ∀ {p : Bool}, Ok (some (AV.tup [.ptr (some (.rw b, 0)), .bool p], S4)) (ActQ X F b b2 A N M k x) := fun {p} => fin (M' := Ld ++ (Ld2 ++ (Mt ++ (Mg ++ [C b1 [.int .i64 k, .int .i64 x]])))) hk1 ha3 hw.commit (by simp) (by simp) (hr4.more (Nat.zero_le _)) (h4.re (by intro p; simp only [List.countP_append, List.countP_cons, List.countP_nil, C]; omega))
    have r1 := rdt.mono (M := L4 ++ (Ld ++ (Ld2 ++ (L3 ++ (Mt ++ (Mg ++ (C b1 [.int .i64 k, .int .i64 x] :: F))))))) (by intro e he; simp [he])
    have r2 := rdg.mono (M := L4 ++ (Ld ++ (Ld2 ++ (L3 ++ (Mt ++ (Mg ++ (C b1 [.int .i64 k, .int .i64 x] :: F))))))) (by intro e he; simp [he])
    have q1 := hs.rd (X := X) (M := L4 ++ (Ld ++ (Ld2 ++ (L3 ++ (Mt ++ (Mg ++ (C b1 [.int .i64 k, .int .i64 x] :: F))))))) (by intro e he; simp [he])
    have q2 := hs2.rd (X := X) (M := L4 ++ (Ld ++ (Ld2 ++ (L3 ++ (Mt ++ (Mg ++ (C b1 [.int .i64 k, .int .i64 x] :: F))))))) (by intro e he; simp [he])
    rw [ins_flat, row_map] at q1 q2
    have l1 := hpt.length_eq
    have l2 := hpg.length_eq
    have hwg := hw.gl
    simp only [List.length_map] at l1 l2
    obtain ⟨p1, e1⟩ := ints_some (n + 300) (by omega) (l := A.t.length) (l2 := d.length) (c := tc) (c2 := c) l1.symm (by simp) (by omega) h4 r1 q1
    rw [callB_of e1]
    refine ok_cond (fun _ => ?_) (fun _ => hfin)
    obtain ⟨p2, e2⟩ := ints_some (n + 300) (by omega) (l := A.g.length) (l2 := d2.length) (c := gc) (c2 := c2) l2.symm (by simp) (by omega) h4 r2 q2
    rw [callB_of e2]
    exact hfin
  -- Abort
  refine ok_cond (fun hc => ?_) (fun n8 => ?_)
  · have hk1 : A.act k x = A.abort := by simp only [beq_iff_eq] at hc; simp [AM.act, hc]
    obtain ⟨v, S3, e, rfl, L3, M3, ha3, h3⟩ : Ok (evF E orcL (n + 301) (.fn 25) [.ptr (some (.rw b, 0))] S2) _ := abort_ok (n + 298) (by omega) h2 ha hw
    rw [callT_of e]
    obtain ⟨v, S4, e, L4, rfl, hr4, h4⟩ : Ok (evF E orcL (n + 301) (.fn 54) [.ptr (some (.rw b2, 0))] S3) _ := rabort_ok (n + 299) (by omega) hr (F := L3 ++ (M3 ++ (C b1 [.int .i64 k, .int .i64 x] :: F))) (h3.re (by intro p; simp only [List.countP_append, List.countP_cons, C]; omega))
    rw [callT_of e]
    simp only [J31_j1_1, b31_j1_1]
    exact fin (M' := M3 ++ [C b1 [.int .i64 k, .int .i64 x]]) hk1 ha3 hw.abort (by simp) (by simp) (hr4.more (Nat.zero_le _)) (h4.re (by intro p; simp only [List.countP_append, List.countP_cons, List.countP_nil, C]; omega))
  -- Hold
  refine ok_cond (fun hc => ?_) (fun n9 => ?_)
  · have hk1 : A.act k x = { A with h := A.h + 1 } := by simp only [beq_iff_eq] at hc; simp [AM.act, hc]
    obtain ⟨v, S3, e, rfl, L3, ha3, h3⟩ : Ok (evF E orcL (n + 301) (.fn 33) [.ptr (some (.rw b, 0))] S2) _ := hold_ok (n + 300) h2 ha (by omega)
    rw [callT_of e]
    have h3' := h3.re (M := L2 ++ (L3 ++ (C b1 [.int .i64 k, .int .i64 x] :: F))) (by intro p; simp only [List.countP_append, List.countP_cons, C]; omega)
    refine rldH_ok hr h3' (fun v => rsetH_ok hr h3' (fun S4 L4 hr4 h4 => ?_))
    simp only [J31_j1_1, b31_j1_1]
    exact fin (M' := [C b1 [.int .i64 k, .int .i64 x]]) hk1 ha3 (hw.withH _) rfl (Nat.le_refl _) (hr4.more (Nat.le_succ _)) h4
  -- LetGo
  refine ok_cond (fun hc => ?_) (fun n10 => ?_)
  · have hk1 : A.act k x = A.letgo := by simp only [beq_iff_eq] at hc; simp [AM.act, hc]
    obtain ⟨v, S3, e, a, c, d, Ld, L3, rfl, hd, hs, ha3, h3⟩ : Ok (evF E orcL (n + 301) (.fn 34) [.ptr (some (.rw b, 0))] S2) (LetQ X (L2 ++ (C b1 [.int .i64 k, .int .i64 x] :: F)) b A.letgo) := letgo_ok (n + 299) (by omega) h2 ha (by omega)
    rw [callL_of e]
    obtain ⟨v, S4, e, a2, c2, d2, Ld2, L4, rfl, hd2, hs2, hr4, h4⟩ : Ok (evF E orcL (n + 301) (.fn 55) [.ptr (some (.rw b2, 0))] S3) (TurnQ X (Ld ++ (L3 ++ (C b1 [.int .i64 k, .int .i64 x] :: F))) b2 N M) := rletgo_ok (n + 299) (by omega) hr (h3.re (by intro p; simp only [List.countP_append, List.countP_cons, C]; omega))
    rw [callL_of e]
    have q1 := hs.rd (X := X) (M := Ld2 ++ (L4 ++ (Ld ++ (L3 ++ (C b1 [.int .i64 k, .int .i64 x] :: F))))) (by intro e he; simp [he])
    have q2 := hs2.rd (X := X) (M := Ld2 ++ (L4 ++ (Ld ++ (L3 ++ (C b1 [.int .i64 k, .int .i64 x] :: F))))) (by intro e he; simp [he])
    rw [ins_flat, row_map] at q1 q2
    have hdl : d.length ≤ 256 := by rw [AM.letgo_len] at hd; omega
    obtain ⟨p1, e1⟩ := ints_some (n + 300) (by omega) (l := d.length) (l2 := d2.length) (c := c) (c2 := c2) (by simp) (by simp) (by simp; omega) h4 q1 q2
    rw [callB_of e1]
    exact fin (M' := Ld ++ (Ld2 ++ [C b1 [.int .i64 k, .int .i64 x]])) hk1 ha3 hw.letgo (by simp) (by rw [AM.letgo_h]; omega) (hr4.more (Nat.le_succ _)) (h4.re (by intro p; simp only [List.countP_append, List.countP_cons, List.countP_nil, C]; omega))
  refine ok_cond (fun hc => ?_) (fun n11 => ?_)
  · simp only [beq_iff_eq] at hc; exact absurd hc hk
  simp only [beq_eq_false_iff_ne, ne_eq] at n1 n2 n3 n4 n5 n6 n7 n8 n9 n10
  have hk1 : A.act k x = A := by simp [AM.act, n1, n2, n3, n4, n5, n6, n7, n8, n9, n10]
  simp only [J31_j1_1, b31_j1_1]
  exact fin (M' := [C b1 [.int .i64 k, .int .i64 x]]) hk1 ha hw rfl (Nat.le_succ _) (hr.more (Nat.le_succ _)) (h2.re (by intro p; simp only [List.countP_append, List.countP_cons, List.countP_nil, C]; omega))

end

end Go.Al
