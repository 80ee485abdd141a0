/- What the functions of package catalog do with a heap: a catalogue in memory; added to, looked into, dropped from. -/
import Derived.Test.YteakdhikjddogaaDoorRF
import Derived.Test.YteakdhikjddogaaDoorGrSep3
set_option linter.unusedVariables false
set_option linter.unusedSimpArgs false
set_option maxRecDepth 4000
namespace Go.Ct
open Go.Gr

def orcL : Orc := fun f args => match args with
  | [] => cond (Nat.beq f 10) (some (.bool true)) none
  | _ => none
theorem oL {f : FuncId} (h : Nat.beq f 10 = false) : ∀ args, orcL f args = none := by
  intro args
  cases args with
  | nil => simp [orcL, h]
  | cons x xs => rfl

noncomputable abbrev ev (n : Nat) : CallA := evF E orcL n

theorem wn {x : Int} {n : Nat} (h : x = n) (hn : n < 4611686018427387904) : IntKind.wrap .i64 x = n := by
  rw [h, wrap64 (by omega) (by omega)]
theorem wz {x z : Int} (h : x = z) (h1 : -4611686018427387904 < z) (h2 : z < 4611686018427387904) : IntKind.wrap .i64 x = z := by
  rw [h, wrap64 (by omega) (by omega)]
theorem wu64 {n : Int} (h0 : 0 ≤ n) (h1 : n < 18446744073709551616) : IntKind.wrap .u64 n = n := by
  simp [IntKind.wrap, IntKind.bits, IntKind.signed]; omega
theorem wu32 {n : Int} (h0 : 0 ≤ n) (h1 : n < 4294967296) : IntKind.wrap .u32 n = n := by
  simp [IntKind.wrap, IntKind.bits, IntKind.signed]; omega

abbrev TrueQ : AV → AS → Prop := fun v S' => v = .bool true

theorem live_ok (n : Nat) (S : AS) : Ok (callB (evF E orcL (n + 1)) 10 [] S fun v S => some (.bool v, S)) TrueQ := by
  rw [callB_of (S' := S) (v := true) (by simp [evF, orcL])]; exact ok_ret rfl

/-- A snapshot. -/
structure Snap where
  n : Int
  t : Int
  r : List UInt8
  z : Int
def srow (s : Snap) : List AV := [.int .u32 s.n, .int .u64 s.t, .str s.r, .int .u64 s.z]
def srows (l : List Snap) : List (List AV) := l.map srow
@[simp] theorem srows_len (l : List Snap) : (srows l).length = l.length := by simp [srows]
theorem srows_all (l : List Snap) : ∀ x ∈ srows l, x.length = 4 := fun x hx => by
  obtain ⟨s, _, rfl⟩ := List.mem_map.1 hx; rfl
theorem srows_append (l m : List Snap) : srows (l ++ m) = srows l ++ srows m := by simp [srows]
theorem srows_at {l : List Snap} {i : Nat} {s : Snap} (h : l[i]? = some s) : (srows l)[i]? = some (srow s) := by
  rw [srows, List.getElem?_map, h]; rfl
theorem srows_erase (l : List Snap) (i : Nat) : (srows l).eraseIdx i = srows (l.eraseIdx i) := by
  simp only [srows, List.eraseIdx_eq_take_drop_succ, List.map_append, List.map_take, List.map_drop]

/-- A catalogue: its snapshots, the last number that was given, the last tick. -/
structure CM where
  l : List Snap
  past : Nat
  tick : Int

def Cat (b : Nat) (A : CM) (L : List Ent) : Prop := ∃ a l c Ls, SlG a l c 4 (srows A.l) Ls ∧ L = C b [.sl a l c, .int .u64 A.past, .int .u64 A.tick] :: Ls

section
variable {X : Cx} {S : AS} {L F : List Ent} {b : Nat} {A : CM} {Q : AV → AS → Prop}

theorem ok_eq {q : Option (AV × AS)} {v : AV} {S : AS} (h : Ok q (fun w S' => w = v ∧ S' = S)) : q = some (v, S) := by
  obtain ⟨w, S', e, rfl, rfl⟩ := h
  exact e

theorem ok_atI {k : IntKind} {l : List AV} {i : Nat} {v : Int} {K : Int → Option (AV × AS)} {Q : AV → AS → Prop} (h : l[i]? = some (.int k v)) (ht : Ok (K v) Q) : Ok (atI k l i K) Q := by simp only [atI, h, gIk, if_true]; exact ht

theorem ok_atL {l : List AV} {i : Nat} {a : Option Pos} {m : Nat} {c : Cap} {K : Option Pos → Nat → Cap → Option (AV × AS)} {Q : AV → AS → Prop} (h : l[i]? = some (.sl a m c)) (ht : Ok (K a m c) Q) : Ok (atL l i K) Q := by simp only [atL, h, gL]; exact ht
theorem ok_atP {l : List AV} {i : Nat} {a : Option Pos} {K : Option Pos → Option (AV × AS)} {Q : AV → AS → Prop} (h : l[i]? = some (.ptr a)) (ht : Ok (K a) Q) : Ok (atP l i K) Q := by simp only [atP, h, gP]; exact ht

theorem num_eq (n : Nat) (x : Int) (S : AS) : ev (n + 1) (.fn 15) [.int .i64 x] S = some (.int .i64 x, S) := by
  rw [ev, F15 _ _ _ (oL rfl)]; rfl

theorem new_ok (n : Nat) (h : Hp X S F) : Ok (ev (n + 1) (.fn 18) [] S) fun v S' => ∃ b L, v = .ptr (some (.rw b, 0)) ∧ Cat b ⟨[], 0, 0⟩ L ∧ Hp X S' (L ++ F) := by
  rw [ev, F18 _ _ (oL rfl)]
  simp only [J18, b18_entry]
  exact ok_newA h (fun b1 S1 h1 => ok_ret ⟨b1, _, rfl, ⟨none, 0, .ex 0, [], .nil, rfl⟩, h1⟩)

theorem len_eq (n : Nat) (h : Hp X S (L ++ F)) (hc : Cat b A L) : ev (n + 1) (.fn 22) [.ptr (some (.rw b, 0))] S = some (.int .i64 A.l.length, S) := by
  obtain ⟨a, l, c, Ls, hs, rfl⟩ := hc
  have hl : l = A.l.length := by have := hs.len; simpa using this
  apply ok_eq
  rw [ev, F22 _ _ _ (oL rfl)]
  simp only [J22, b22_entry]
  exact ok_false rfl (ok_gO (ok_ldL h rfl (ok_ret ⟨by rw [hl], rfl⟩)))

/-- What is added, and what is answered. -/
def CM.addE (A : CM) (t : Int) (r : List UInt8) : Int := if r.length ≠ 32 then 2 else if 0 < A.past ∧ t ≤ A.tick then 182 else if 256 ≤ A.l.length ∨ 4294967295 ≤ A.past then 5 else 0
def CM.addV (A : CM) (t : Int) (r : List UInt8) : Int := if A.addE t r = 0 then ((A.past + 1 : Nat) : Int) else 0
def CM.add (A : CM) (t : Int) (r : List UInt8) (z : Int) : CM := if A.addE t r = 0 then ⟨A.l ++ [⟨((A.past + 1 : Nat) : Int), t, r, z⟩], A.past + 1, t⟩ else A

abbrev AddQ (X : Cx) (F : List Ent) (b : Nat) (A : CM) (t : Int) (r : List UInt8) (z : Int) : AV → AS → Prop := fun v S' => v = .tup [.int .u32 (A.addV t r), .int .i64 (A.addE t r)] ∧ ∃ L', Cat b (A.add t r z) L' ∧ Hp X S' (L' ++ F)

theorem add_push (h : Hp X S (L ++ F)) (hc : Cat b A L) (hl : A.l.length < 256) (hp : A.past < 4294967295) {t : Int} {r : List UInt8} {z : Int} (he : A.addE t r = 0) :
    Ok (gO (some (Bid.rw b, 0)) fun p9 =>
      ldI .u64 S p9.1 (p9.2 + 1) fun v10 =>
      gO (some (Bid.rw b, 0)) fun p11 =>
      S.stn p11.1 (p11.2 + 1) [(.int .u64 (IntKind.wrap .u64 (v10 + 1)))] fun S12 =>
      gO (some (Bid.rw b, 0)) fun p13 =>
      S12.stn p13.1 (p13.2 + 2) [(.int .u64 t)] fun S14 =>
      drawA S14 19 fun b15 S16 =>
      gO (some (Bid.rw b, 0)) fun p17 =>
      ldL S16 p17.1 p17.2 fun v18a v18l v18c =>
      gO (some (Bid.rw b, 0)) fun p19 =>
      ldI .u64 S16 p19.1 (p19.2 + 1) fun v20 =>
      layA S16 (b15 + 14) (.cells [(.int .u32 (IntKind.wrap .u32 v20)), (.int .u64 t), (.str r), (.int .u64 z)]) fun S21 =>
      appendA 4 40 S21 v18a v18l v18c 1 (firstA S21 4 1 (.sl (some (.rw (b15 + 14), 0)) 1 (.ex 1))) fun v22a v22l v22c S23 =>
      gO (some (Bid.rw b, 0)) fun p24 =>
      S23.stn p24.1 p24.2 [(.sl v22a v22l v22c)] fun S25 =>
      gO (some (Bid.rw b, 0)) fun p26 =>
      ldI .u64 S25 p26.1 (p26.2 + 1) fun v27 =>
      some (.tup [(.int .u32 (IntKind.wrap .u32 v27)), (.int .i64 0)], S25)) (AddQ X F b A t r z) := by
  obtain ⟨a, l, c, Ls, hs, rfl⟩ := hc
  have hll : l = A.l.length := by have := hs.len; simpa using this
  refine ok_gO (ok_ldI h rfl (ok_gO ?_))
  have hw : IntKind.wrap .u64 ((A.past : Int) + 1) = ((A.past + 1 : Nat) : Int) := by rw [wu64 (by omega) (by omega)]; omega
  rw [hw]
  refine ok_stn h (by simp) (d := [.sl a l c, .int .u64 (A.past + 1 : Nat), .int .u64 A.tick]) (by simp [splice]) (fun S1 h1 => ok_gO ?_)
  refine ok_stn h1 (by simp) (d := [.sl a l c, .int .u64 (A.past + 1 : Nat), .int .u64 t]) (by simp [splice]) (fun S2 h2 => ?_)
  refine ok_drawA h2 [14] (by simp) (by simp) (fun b15 S3 h3 => ?_)
  have h3' : Hp X S3 ((b15 + 14, none) :: (C b [.sl a l c, .int .u64 (A.past + 1 : Nat), .int .u64 t] :: Ls ++ F)) := h3
  refine ok_gO (ok_ldL h3' rfl (ok_gO (ok_ldI h3' rfl ?_)))
  have hw2 : IntKind.wrap .u32 ((A.past + 1 : Nat) : Int) = ((A.past + 1 : Nat) : Int) := wu32 (by omega) (by omega)
  rw [hw2]
  refine ok_layA (b := b15 + 14) h3' (fun S4 h4 => ?_)
  have h4' := h4.re (M := Ls ++ (C (b15 + 14) (srow ⟨((A.past + 1 : Nat) : Int), t, r, z⟩) :: C b [.sl a l c, .int .u64 (A.past + 1 : Nat), .int .u64 t] :: F)) (by intro p; simp only [List.countP_append, List.countP_cons, List.cons_append, C, srow]; omega)
  refine ok_appendG h4' hs (ys := srows [⟨((A.past + 1 : Nat) : Int), t, r, z⟩]) (srows_all _) rfl (fun K => ?_) (by decide) (by simp [pow46]; omega) (by simp [pow46]; omega) (fun a' l' c' S5 Ls' hs' h5 => ?_)
  · have := RdR.first (.rw (X := X) (b := b15 + 14) (i := 0) (c := srow ⟨((A.past + 1 : Nat) : Int), t, r, z⟩) (cs := srow ⟨((A.past + 1 : Nat) : Int), t, r, z⟩) (L := _) (List.mem_append_right Ls List.mem_cons_self) (by simp) rfl) h4' (sz := 4) (n := 1) rfl (by decide) (l := 1) (c := .ex 1) K
    simpa [srows] using this
  · rw [← srows_append] at hs'
    refine ok_gO (ok_stn h5 (by simp) (d := [.sl a' l' c', .int .u64 (A.past + 1 : Nat), .int .u64 t]) (by simp [splice]) (fun S6 h6 => ok_gO (ok_ldI h6 rfl ?_)))
    rw [hw2]
    refine ok_ret ⟨by rw [CM.addV, if_pos he, he], _, ⟨a', l', c', Ls', ?_, rfl⟩, ?_⟩
    · rw [CM.add, if_pos he]; exact hs'
    · rw [CM.add, if_pos he]
      exact (h6.re (M := C (b15 + 14) (srow ⟨((A.past + 1 : Nat) : Int), t, r, z⟩) :: (C b [.sl a' l' c', .int .u64 (A.past + 1 : Nat), .int .u64 t] :: Ls' ++ F)) (by intro p; simp only [List.countP_append, List.countP_cons, List.cons_append, C]; omega)).drop1

theorem add_ok (n : Nat) (h : Hp X S (L ++ F)) (hc : Cat b A L) (t : Int) (r : List UInt8) (z : Int) :
    Ok (ev (n + 1) (.fn 19) [.ptr (some (.rw b, 0)), .int .u64 t, .str r, .int .u64 z] S) (AddQ X F b A t r z) := by
  have hc0 := hc
  obtain ⟨a, l, c, Ls, hs, rfl⟩ := hc
  have hll : l = A.l.length := by have := hs.len; simpa using this
  rw [ev, F19 _ _ _ _ _ _ (oL rfl)]
  simp only [J19, b19_entry]
  have none_ : ∀ e : Int, e ≠ 0 → A.addE t r = e → Ok (some (AV.tup [.int .u32 0, .int .i64 e], S)) (AddQ X F b A t r z) := fun e h0 he => ok_ret ⟨by rw [CM.addV, if_neg (by rw [he]; exact h0), he], _, by rw [CM.add, if_neg (by rw [he]; exact h0)]; exact hc0, h⟩
  refine ok_false rfl (ok_cond (fun c1 => ?_) (fun c1 => ok_gO (ok_ldI h rfl ?_)))
  · simp only [bne_iff_ne, ne_eq] at c1
    exact none_ 2 (by decide) (by rw [CM.addE, if_pos (by omega)])
  simp only [bne_eq_false_iff_eq] at c1
  have c1' : r.length = 32 := by omega
  have rest : ¬ (0 < A.past ∧ t ≤ A.tick) → (256 ≤ A.l.length ∨ 4294967295 ≤ A.past → A.addE t r = 5) ∧ (¬ (256 ≤ A.l.length ∨ 4294967295 ≤ A.past) → A.addE t r = 0) := fun h2 => by
    unfold CM.addE
    rw [if_neg (by omega), if_neg h2]
    exact ⟨fun h => by rw [if_pos h], fun h => by rw [if_neg h]⟩
  refine ok_cond (fun c2 => ok_gO (ok_ldI h rfl (ok_cond (fun c3 => ?_) (fun c3 => ?_)))) (fun c2 => ?_)
  · simp only [gt_iff_lt, decide_eq_true_eq] at c2 c3
    exact none_ 182 (by decide) (by rw [CM.addE, if_neg (by omega), if_pos ⟨by omega, c3⟩])
  · simp only [gt_iff_lt, decide_eq_false_iff_not] at c3
    have hr := rest (by omega)
    refine ok_gO (ok_ldL h rfl (ok_cond (fun c4 => ?_) (fun c4 => ok_gO (ok_ldI h rfl (ok_cond (fun c5 => ?_) (fun c5 => ?_))))))
    · simp only [ge_iff_le, decide_eq_true_eq] at c4
      exact none_ 5 (by decide) (hr.1 (by omega))
    · simp only [ge_iff_le, decide_eq_true_eq] at c5
      exact none_ 5 (by decide) (hr.1 (by omega))
    · simp only [ge_iff_le, decide_eq_false_iff_not] at c4 c5
      exact add_push h hc0 (by omega) (by omega) (hr.2 (by omega))
  · simp only [gt_iff_lt, decide_eq_false_iff_not] at c2
    have hr := rest (by omega)
    refine ok_gO (ok_ldL h rfl (ok_cond (fun c4 => ?_) (fun c4 => ok_gO (ok_ldI h rfl (ok_cond (fun c5 => ?_) (fun c5 => ?_))))))
    · simp only [ge_iff_le, decide_eq_true_eq] at c4
      exact none_ 5 (by decide) (hr.1 (by omega))
    · simp only [ge_iff_le, decide_eq_true_eq] at c5
      exact none_ 5 (by decide) (hr.1 (by omega))
    · simp only [ge_iff_le, decide_eq_false_iff_not] at c4 c5
      exact add_push h hc0 (by omega) (by omega) (hr.2 (by omega))

/-- Where a number stands. -/
def fnd (x : Int) (l : List Snap) : Option Nat := l.findIdx? fun s => decide (s.n = x)
def fndI (x : Int) (l : List Snap) : Int := match fnd x l with | some i => (i : Int) | none => -1

theorem index_loop (n0 n : Nat) {b1 : Nat} {x : Int} {l : List Snap} {a : Option Pos} {c : Cap} (hl : l.length ≤ 65536) (w4 : Int) (hr : RdR X L a (srows l).flatten) : ∀ (m i : Nat) (M : List Ent) (S : AS), i ≤ l.length → l.length - i < m → Hp X S (M ++ (C b1 [.int .u32 x] :: L)) →
    Ok (J51_l1_0_1_0 (evF E orcL (n + 1)) n0 m a l.length c (.fn 52 [] [.ptr (some (.rw b1, 0))]) w4 l.length i S) fun v S' => v = .int .i64 (match fnd x (l.drop i) with | some k => ((i + k : Nat) : Int) | none => -1) ∧ ∃ M, Hp X S' (M ++ (C b1 [.int .u32 x] :: L))
  | 0, i, M, S, hi, hm, h => by omega
  | m + 1, i, M, S, hi, hm, h => by
    rw [J51_l1_0_1_0_succ]
    simp only [b51_l1_0_1_0]
    refine ok_cond (fun hc => ?_) (fun hc => ?_)
    · simp only [decide_eq_true_eq] at hc
      have hlt : i < l.length := by omega
      obtain ⟨s, hs⟩ : ∃ s, l[i]? = some s := ⟨_, List.getElem?_eq_getElem hlt⟩
      have hd : l.drop i = s :: l.drop (i + 1) := by
        obtain ⟨hlt', he⟩ := List.getElem?_eq_some_iff.1 hs
        rw [List.drop_eq_getElem_cons hlt', he]
      have hrm : RdR X (M ++ (C b1 [.int .u32 x] :: L)) a (srows l).flatten := hr.mono (fun e he => by simp [he])
      obtain ⟨p, hp⟩ := hrm.some_of (by intro he; have := congrArg List.length he; rw [flat_len (srows_all l), srows_len] at this; simp at this; omega)
      rw [hp] at hrm ⊢
      rw [ixSl_at rfl hlt]
      rw [hrm.elem h (srows_all l) (srows_at hs)]
      have e52 : Ok (evF E orcL (n + 1) (.fn 52) ([] ++ ([.agg (srow s)] ++ [.ptr (some (.rw b1, 0))])) S) fun v S' => v = .bool (s.n == x) ∧ ∃ M', Hp X S' (M' ++ (C b1 [.int .u32 x] :: L)) := by
        simp only [List.nil_append, List.singleton_append]
        rw [F52 _ _ _ _ (oL rfl)]
        simp only [J52, b52_entry]
        refine ok_ifO rfl (ok_newA h (fun b2 S2 h2 => ok_ldI h2 rfl (ok_gA (ok_ldI h2 rfl (ok_ret ⟨rfl, C b2 (srow s) :: M, h2⟩)))))
      obtain ⟨v, S2, e, rfl, M2, h2⟩ := e52
      rw [callFB_of e]
      have hf : fnd x (l.drop i) = if s.n = x then some 0 else (fnd x (l.drop (i + 1))).map (· + 1) := by
        rw [hd, fnd, List.findIdx?_cons]
        simp only [decide_eq_true_eq]
        rfl
      refine ok_cond (fun hx => ok_ret ⟨?_, M2, h2⟩) (fun hx => ?_)
      · simp only [beq_iff_eq] at hx
        rw [hf, if_pos hx]
        simp
      · simp only [beq_eq_false_iff_ne, ne_eq] at hx
        rw [wn (x := (i : Int) + 1) (n := i + 1) (by omega) (by omega), ← hp]
        refine (index_loop n0 n hl w4 hr m (i + 1) M2 S2 (by omega) (by omega) h2).mono (fun v S' hv => ⟨?_, hv.2⟩)
        rw [hv.1, hf, if_neg hx]
        cases fnd x (l.drop (i + 1)) with
        | none => rfl
        | some k => simp only [Option.map_some]; congr 2; omega
    · simp only [decide_eq_false_iff_not] at hc
      refine ok_ret ⟨?_, M, h⟩
      rw [List.drop_of_length_le (by omega)]
      rfl

theorem at_ok (n : Nat) (hn : 70000 < n) (h : Hp X S (L ++ F)) (hc : Cat b A L) (hl : A.l.length ≤ 65536) (x : Int) :
    Ok (ev (n + 3) (.fn 36) [.ptr (some (.rw b, 0)), .int .u32 x] S) fun v S' => v = .int .i64 (fndI x A.l) ∧ Hp X S' (L ++ F) := by
  obtain ⟨a, l, c, Ls, hs, rfl⟩ := hc
  have hll : l = A.l.length := by have := hs.len; simpa using this
  subst hll
  rw [ev, F36 _ _ _ _ (oL rfl)]
  simp only [J36, b36_entry]
  refine ok_newA h (fun b1 S1 h1 => ok_false rfl (ok_gO (ok_ldL h1 rfl ?_)))
  have rd := hs.rd (X := X) (M := C b [.sl a A.l.length c, .int .u64 A.past, .int .u64 A.tick] :: Ls ++ F) (by intro e he; simp [he])
  have e51 : Ok (evF E orcL (n + 2) (.fn 51) [.sl a A.l.length c, .fn 52 [] [.ptr (some (.rw b1, 0))]] S1) fun v S' => v = .int .i64 (fndI x A.l) ∧ ∃ M, Hp X S' (M ++ (C b1 [.int .u32 x] :: (C b [.sl a A.l.length c, .int .u64 A.past, .int .u64 A.tick] :: Ls ++ F))) := by
    rw [F51 _ _ _ _ _ _ (oL rfl)]
    simp only [J51, b51_entry]
    refine (index_loop (n + 1) n hl 0 rd (n + 1) 0 [] S1 (by omega) (by omega) h1).mono (fun v S' hv => ⟨?_, hv.2⟩)
    rw [hv.1, List.drop_zero, fndI]
    cases fnd x A.l <;> simp
  obtain ⟨v, S2, e, rfl, M, h2⟩ := e51
  rw [callI_of e]
  exact ok_ret ⟨rfl, h2.right.drop1⟩

def CM.dropE (A : CM) (x : Int) : Int := if (fnd x A.l).isSome then 0 else 7
def CM.drop (A : CM) (x : Int) : CM := match fnd x A.l with | some i => { A with l := A.l.eraseIdx i } | none => A

theorem drop_ok (n : Nat) (hn : 70000 < n) (h : Hp X S (L ++ F)) (hc : Cat b A L) (hl : A.l.length ≤ 65536) (x : Int) :
    Ok (ev (n + 4) (.fn 21) [.ptr (some (.rw b, 0)), .int .u32 x] S) fun v S' => v = .int .i64 (A.dropE x) ∧ ∃ L', Cat b (A.drop x) L' ∧ Hp X S' (L' ++ F) := by
  rw [ev, F21 _ _ _ _ (oL rfl)]
  simp only [J21, b21_entry]
  obtain ⟨v, S1, e, rfl, h1⟩ : Ok (evF E orcL (n + 3) (.fn 36) [.ptr (some (.rw b, 0)), .int .u32 x] S) _ := at_ok n hn h hc hl x
  rw [callI_of e]
  cases hf : fnd x A.l with
  | none =>
    have e1 : fndI x A.l = -1 := by simp [fndI, hf]
    rw [e1]
    exact ok_true rfl (ok_ret ⟨by simp [CM.dropE, hf], L, by simpa [CM.drop, hf] using hc, h1⟩)
  | some i =>
    have e1 : fndI x A.l = (i : Int) := by simp [fndI, hf]
    have hi : i < A.l.length := by
      have := List.findIdx?_eq_some_iff_getElem.1 hf
      exact this.1
    rw [e1]
    refine ok_false (by simp) ?_
    obtain ⟨a, l, c, Ls, hs, rfl⟩ := hc
    have hll : l = A.l.length := by have := hs.len; simpa using this
    refine ok_gO (ok_ldL h1 rfl ?_)
    have e37 : Ok (evF E orcL (n + 3) (.fn 37) [.sl a l c, .int .i64 i, .int .i64 (IntKind.wrap .i64 ((i : Int) + 1))] S1) fun v S' => ∃ a' l' c' L', v = .sl a' l' c' ∧ SlG a' l' c' 4 ((srows A.l).eraseIdx i) L' ∧ Hp X S' (L' ++ (C b [.sl a l c, .int .u64 A.past, .int .u64 A.tick] :: F)) := by
      rw [F37 _ _ _ _ _ _ _ (oL rfl)]
      simp only [J37, b37_entry]
      rw [wn (x := (i : Int) + 1) (n := i + 1) (by omega) (by omega)]
      exact ok_delete (sz := 4) (bytes := 40) (z := [.int .u32 0, .int .u64 0, .str [], .int .u64 0]) rfl (by decide) (h1.re (M := Ls ++ (C b [.sl a l c, .int .u64 A.past, .int .u64 A.tick] :: F)) (by intro p; simp only [List.countP_append, List.countP_cons, List.cons_append, C]; omega)) hs (by simp [pow46]; omega) (by simp [pow46]; omega) (by simpa using hi) rfl rfl
    obtain ⟨v, S2, e, a', l', c', L2, rfl, hs2, h2⟩ := e37
    rw [callL_of e]
    rw [srows_erase] at hs2
    refine ok_gO (ok_stn h2 (by simp) (d := [.sl a' l' c', .int .u64 A.past, .int .u64 A.tick]) (by simp [splice]) (fun S3 h3 => ok_ret ⟨by simp [CM.dropE, hf], C b [.sl a' l' c', .int .u64 A.past, .int .u64 A.tick] :: L2, ?_, ?_⟩))
    · simp only [CM.drop, hf]
      exact ⟨a', l', c', L2, hs2, rfl⟩
    · exact h3.re (by intro p; simp only [List.countP_append, List.countP_cons, List.cons_append, C]; omega)

theorem map_at {k : IntKind} {l : List Int} {i : Nat} {v : Int} (h : l[i]? = some v) : (l.map (AV.int k))[i]? = some (.int k v) := by rw [List.getElem?_map, h]; rfl
theorem map_splice {k : IntKind} {l : List Int} {i : Nat} (v : Int) (h : i < l.length) : splice (l.map (AV.int k)) i [.int k v] = (l.set i v).map (AV.int k) := by
  rw [splice, List.set_eq_take_append_cons_drop, if_pos h]
  simp [List.map_take, List.map_drop]

theorem digest_loop (n0 : Nat) (call : CallA) {b1 : Nat} {x : Nat} (hx : x < 256) {c : Cap} : ∀ (m i : Nat) (d : List Int) (S : AS), i ≤ 32 → 32 - i < m → d.length = 32 → (∀ k, k < i → d[k]? = some (x : Int)) → Hp X S (C b1 (d.map (AV.int .u8)) :: F) →
    Ok (J20_l1_1_0_1_0 call n0 m x (some (.rw b1, 0)) 32 c i S) fun v S' => v = .str (List.replicate 32 (UInt8.ofNat x)) ∧ Hp X S' F
  | 0, i, d, S, hi, hm, hl, hd, h => by omega
  | m + 1, i, d, S, hi, hm, hl, hd, h => by
    rw [J20_l1_1_0_1_0_succ]
    simp only [b20_l1_1_0_1_0]
    refine ok_cond (fun hc => ?_) (fun hc => ?_)
    · simp only [decide_eq_true_eq] at hc
      have hlt : i < 32 := by omega
      refine ok_ixSl (k := i) rfl hlt ?_
      simp only [Nat.zero_add, Nat.mul_one]
      refine ok_stn h (by simp; omega) (d := (d.set i (x : Int)).map (AV.int .u8)) (map_splice (x : Int) (by omega)) (fun S1 h1 => ?_)
      rw [wn (x := (i : Int) + 1) (n := i + 1) (by omega) (by omega)]
      refine digest_loop n0 call hx m (i + 1) (d.set i (x : Int)) S1 (by omega) (by omega) (by simpa using hl) (fun k hk => ?_) h1
      rw [List.getElem?_set]
      by_cases hik : i = k
      · subst hik; simp [hl, hlt]
      · rw [if_neg hik]; exact hd k (by omega)
    · simp only [decide_eq_false_iff_not] at hc
      have hi2 : i = 32 := by omega
      subst hi2
      simp only [J20_j1_1_1, b20_j1_1_1]
      have hde : d = List.replicate 32 (x : Int) := by
        apply List.ext_getElem?
        intro k
        by_cases hk : k < 32
        · rw [hd k hk, List.getElem?_replicate, if_pos hk]
        · rw [List.getElem?_eq_none (by omega), List.getElem?_eq_none (by simp; omega)]
      have ho : d.map (AV.int .u8) = ofBytes (List.replicate 32 (UInt8.ofNat x)) := by
        rw [hde]
        simp only [ofBytes, List.map_replicate]
        rw [UInt8.toNat_ofNat', Nat.mod_eq_of_lt (by simpa using hx)]
      rw [ho] at h
      have rd : RdR X (C b1 (ofBytes (List.replicate 32 (UInt8.ofNat x))) :: F) (some (.rw b1, 0)) (ofBytes (List.replicate 32 (UInt8.ofNat x))) := .rw (c := ofBytes (List.replicate 32 (UInt8.ofNat x))) List.mem_cons_self (by simp) (by rw [List.drop_zero, List.take_length])
      rw [bytesStr_of rd h (by simp)]
      exact ok_ret ⟨rfl, h.drop1⟩

theorem digest_ok (n : Nat) (hn : 100 < n) (h : Hp X S F) {x : Nat} (hx : x < 256) {xi : Int} (hxi : xi = x) : Ok (ev (n + 1) (.fn 20) [.int .u8 xi] S) fun v S' => v = .str (List.replicate 32 (UInt8.ofNat x)) ∧ Hp X S' F := by
  subst hxi
  rw [ev, F20 _ _ _ (oL rfl)]
  simp only [J20, b20_entry]
  refine ok_mkSl (l := 32) (c := 32) rfl rfl (Nat.le_refl _) (by simp [pow46]) (by simp [pow46]) ?_
  refine ok_newA h (fun b1 S1 h1 => ?_)
  have e : zeros 32 [AV.int .u8 0] = (List.replicate 32 (0 : Int)).map (AV.int .u8) := by simp [zeros]
  rw [e] at h1
  exact digest_loop n (evF E orcL n) hx n 0 _ S1 (by omega) (by omega) (by simp) (by omega) h1

end

end Go.Ct
