/- What the functions of package catalog do with a heap: a catalogue listed, copied, retired from. -/
import Derived.Test.YteakdhikjddogaaDoorCtM
set_option linter.unusedVariables false
set_option linter.unusedSimpArgs false
set_option maxRecDepth 4000
namespace Go.Ct
open Go.Gr

/-- A catalogue as some calls make it. -/
structure CInv (A : CM) : Prop where
  len : A.l.length ≤ 256
  past : A.past ≤ 4294967295
  t0 : 0 ≤ A.tick
  t1 : A.tick < 18446744073709551616
  pw : A.l.Pairwise fun x y => x.n < y.n ∧ x.t < y.t
  nb : ∀ s ∈ A.l, 1 ≤ s.n ∧ s.n ≤ A.past
  tb : ∀ s ∈ A.l, 0 ≤ s.t ∧ s.t ≤ A.tick
  rl : ∀ s ∈ A.l, s.r.length = 32

theorem CInv.nil : CInv ⟨[], 0, 0⟩ := ⟨by simp, by simp, by simp, by simp, by simp, by simp, by simp, by simp⟩
theorem CInv.sub {A : CM} (h : CInv A) {l : List Snap} (hs : l.Sublist A.l) : CInv { A with l := l } :=
  ⟨Nat.le_trans hs.length_le h.len, h.past, h.t0, h.t1, h.pw.sublist hs, fun s hm => h.nb s (hs.subset hm), fun s hm => h.tb s (hs.subset hm), fun s hm => h.rl s (hs.subset hm)⟩
theorem CInv.add {A : CM} (h : CInv A) {t : Int} (ht0 : 0 ≤ t) (ht1 : t < 18446744073709551616) (r : List UInt8) (z : Int) : CInv (A.add t r z) := by
  unfold CM.add
  split
  · rename_i he
    have hg : ¬ (0 < A.past ∧ t ≤ A.tick) ∧ A.l.length < 256 ∧ A.past < 4294967295 ∧ r.length = 32 := by
      unfold CM.addE at he
      split at he
      · simp at he
      split at he
      · simp at he
      split at he
      · simp at he
      omega
    obtain ⟨g1, g2, g3, g4⟩ := hg
    refine ⟨by simp; omega, by show A.past + 1 ≤ _; omega, ht0, ht1, ?_, fun s hm => ?_, fun s hm => ?_, fun s hm => ?_⟩
    · show (A.l ++ [_]).Pairwise _
      rw [List.pairwise_append]
      refine ⟨h.pw, by simp, fun x hx y hy => ?_⟩
      simp only [List.mem_singleton] at hy
      subst hy
      have h1 := h.nb x hx
      have h2 := h.tb x hx
      exact ⟨by show x.n < ((A.past + 1 : Nat) : Int); omega, by show x.t < t; omega⟩
    · have hm : s ∈ A.l ++ [_] := hm
      rcases List.mem_append.1 hm with hm | hm
      · have h1 := h.nb s hm
        exact ⟨h1.1, by show s.n ≤ ((A.past + 1 : Nat) : Int); omega⟩
      · simp only [List.mem_singleton] at hm
        subst hm
        exact ⟨by show (1 : Int) ≤ ((A.past + 1 : Nat) : Int); omega, Int.le_refl _⟩
    · have hm : s ∈ A.l ++ [_] := hm
      rcases List.mem_append.1 hm with hm | hm
      · have h1 := h.nb s hm
        have h2 := h.tb s hm
        exact ⟨h2.1, by show s.t ≤ t; omega⟩
      · simp only [List.mem_singleton] at hm
        subst hm
        exact ⟨ht0, Int.le_refl _⟩
    · have hm : s ∈ A.l ++ [_] := hm
      rcases List.mem_append.1 hm with hm | hm
      · exact h.rl s hm
      · simp only [List.mem_singleton] at hm
        subst hm
        exact g4
  · exact h
theorem CInv.drop {A : CM} (h : CInv A) (x : Int) : CInv (A.drop x) := by
  unfold CM.drop
  split
  · exact h.sub (List.eraseIdx_sublist _ _)
  · exact h

def CM.ticks (A : CM) : List Int := A.l.map (·.t)
@[simp] theorem ticks_len (A : CM) : A.ticks.length = A.l.length := by simp [CM.ticks]
theorem CInv.up {A : CM} (h : CInv A) : Up A.ticks := by
  refine ⟨fun t ht => ?_, fun t ht => ?_, fun i a b ha hb => ?_, by simp; have := h.len; omega⟩
  · obtain ⟨s, hs, rfl⟩ := List.mem_map.1 ht; exact (h.tb s hs).1
  · obtain ⟨s, hs, rfl⟩ := List.mem_map.1 ht
    have := (h.tb s hs).2
    have := h.t1
    omega
  · simp only [CM.ticks, List.getElem?_map, Option.map_eq_some_iff] at ha hb
    obtain ⟨x, hx, rfl⟩ := ha
    obtain ⟨y, hy, rfl⟩ := hb
    obtain ⟨h1, e1⟩ := List.getElem?_eq_some_iff.1 hx
    obtain ⟨h2, e2⟩ := List.getElem?_eq_some_iff.1 hy
    have := List.pairwise_iff_getElem.1 h.pw i (i + 1) h1 h2 (by omega)
    rw [e1, e2] at this
    exact this.2

/-- What is kept, and the numbers of what is not. -/
def kpL : List Snap → List Bool → List Snap
  | s :: l, true :: k => s :: kpL l k
  | _ :: l, false :: k => kpL l k
  | _, _ => []
def gnL : List Snap → List Bool → List Int
  | _ :: l, true :: k => gnL l k
  | s :: l, false :: k => s.n :: gnL l k
  | _, _ => []
theorem kpL_append : ∀ {l : List Snap} {k : List Bool}, l.length = k.length → ∀ (s : Snap) (b : Bool), kpL (l ++ [s]) (k ++ [b]) = kpL l k ++ (if b = true then [s] else [])
  | [], [], _, s, b => by cases b <;> rfl
  | x :: l, true :: k, h, s, b => by simp only [List.cons_append, kpL]; rw [kpL_append (by simpa using h)]
  | x :: l, false :: k, h, s, b => by simp only [List.cons_append, kpL]; rw [kpL_append (by simpa using h)]
  | [], _ :: _, h, s, b => by simp at h
  | _ :: _, [], h, s, b => by simp at h
theorem gnL_append : ∀ {l : List Snap} {k : List Bool}, l.length = k.length → ∀ (s : Snap) (b : Bool), gnL (l ++ [s]) (k ++ [b]) = gnL l k ++ (if b = true then [] else [s.n])
  | [], [], _, s, b => by cases b <;> rfl
  | x :: l, true :: k, h, s, b => by simp only [List.cons_append, gnL]; rw [gnL_append (by simpa using h)]
  | x :: l, false :: k, h, s, b => by simp only [List.cons_append, gnL]; rw [gnL_append (by simpa using h)]
  | [], _ :: _, h, s, b => by simp at h
  | _ :: _, [], h, s, b => by simp at h
theorem kpL_sub : ∀ (l : List Snap) (k : List Bool), (kpL l k).Sublist l
  | [], _ => by unfold kpL; exact .refl _
  | x :: l, [] => by unfold kpL; exact List.nil_sublist _
  | x :: l, true :: k => by unfold kpL; exact (kpL_sub l k).cons_cons x
  | x :: l, false :: k => by unfold kpL; exact (kpL_sub l k).cons x
theorem gnL_len : ∀ (l : List Snap) (k : List Bool), (gnL l k).length ≤ l.length
  | [], _ => by unfold gnL; exact Nat.le_refl _
  | x :: l, [] => by unfold gnL; exact Nat.zero_le _
  | x :: l, true :: k => by unfold gnL; have := gnL_len l k; simp; omega
  | x :: l, false :: k => by unfold gnL; have := gnL_len l k; simp; omega

def CM.retire (A : CM) (last : Int) (rs : List (Int × Int)) : CM := if wrongB last rs = true then A else { A with l := kpL A.l (keepL last rs A.ticks) }
def CM.gone (A : CM) (last : Int) (rs : List (Int × Int)) : List Int := if wrongB last rs = true then [] else gnL A.l (keepL last rs A.ticks)
theorem CInv.retire {A : CM} (h : CInv A) (last : Int) (rs : List (Int × Int)) : CInv (A.retire last rs) := by
  unfold CM.retire
  split
  · exact h
  · exact h.sub (kpL_sub _ _)

section
variable {X : Cx} {S : AS} {L F : List Ent} {b : Nat} {A : CM} {Q : AV → AS → Prop}

theorem clone_ok (n : Nat) (h : Hp X S F) {l : List Snap} {a : Option Pos} {c : Cap} (hr : RdR X F a (srows l).flatten) (hl : l.length ≤ 65536) :
    Ok (ev (n + 1) (.fn 43) [.sl a l.length c] S) fun v S' => ∃ (a' : Option Pos) (c' : Cap) (L' : List Ent), v = .sl a' l.length c' ∧ SlR a' l.length c' 4 (srows l) L' ∧ Hp X S' (L' ++ F) := by
  rw [ev, F43 _ _ _ _ _ (oL rfl)]
  simp only [J43, b43_entry]
  cases a with
  | none =>
    have ht : l = [] := by
      by_cases hn : (srows l).flatten = []
      · have := congrArg List.length hn
        rw [flat_len (srows_all l), srows_len] at this
        exact List.length_eq_zero_iff.1 (by simp at this; omega)
      · obtain ⟨p, hp⟩ := hr.some_of hn; cases hp
    subst ht
    exact ok_true rfl (ok_ret ⟨none, .ex 0, [], rfl, .nil, h⟩)
  | some p =>
    refine ok_false rfl (ok_newA h (fun b1 S1 h1 => ?_))
    have hs : SlR (some (.rw b1, 0)) 0 (.ex 0) 4 [] [C b1 []] := .of (xs := []) (by simp) rfl (.inl rfl)
    have h1' : Hp X S1 ([C b1 []] ++ F) := h1
    refine ok_append h1' hs (ys := srows l) (srows_all _) (by simp) (fun K => ?_) (by decide) (by simp [pow46]; omega) (by simp [pow46]; omega) (fun a3 l3 c3 S3 L3 ht' h3 => ?_)
    · exact (hr.mono (fun e he => by simp [he])).first h1' (sz := 4) (n := l.length) (by rw [flat_len (srows_all l), srows_len]) (by decide) (l := l.length) (c := c) K
    · rw [List.nil_append] at ht'
      obtain rfl : l3 = l.length := by have := ht'.len; simpa using this
      exact ok_ret ⟨a3, c3, L3, rfl, ht', h3⟩

theorem list_ok (n : Nat) (h : Hp X S (L ++ F)) (hc : Cat b A L) (hl : A.l.length ≤ 65536) :
    Ok (ev (n + 2) (.fn 25) [.ptr (some (.rw b, 0))] S) fun v S' => ∃ (a' : Option Pos) (c' : Cap) (L' : List Ent), v = .sl a' A.l.length c' ∧ SlR a' A.l.length c' 4 (srows A.l) L' ∧ Hp X S' (L' ++ (L ++ F)) := by
  obtain ⟨a, l, c, Ls, hs, rfl⟩ := hc
  have hll : l = A.l.length := by have := hs.len; simpa using this
  subst hll
  rw [ev, F25 _ _ _ (oL rfl)]
  simp only [J25, b25_entry]
  refine ok_false rfl (ok_gO (ok_ldL h rfl ?_))
  obtain ⟨v, S1, e, a', c', L', rfl, h1, h2⟩ := clone_ok n h (c := c) (hs.rd (by intro e he; simp [he])) hl
  rw [callL_of e]
  exact ok_ret ⟨a', c', L', rfl, h1, h2⟩

theorem copyc_ok (n : Nat) (h : Hp X S (L ++ F)) (hc : Cat b A L) (hl : A.l.length ≤ 65536) :
    Ok (ev (n + 2) (.fn 32) [.ptr (some (.rw b, 0))] S) fun v S' => ∃ b2 L2, v = .ptr (some (.rw b2, 0)) ∧ Cat b2 A L2 ∧ Hp X S' (L2 ++ (L ++ F)) := by
  have hc0 := hc
  obtain ⟨a, l, c, Ls, hs, rfl⟩ := hc
  have hll : l = A.l.length := by have := hs.len; simpa using this
  subst hll
  rw [ev, F32 _ _ _ (oL rfl)]
  simp only [J32, b32_entry]
  refine ok_false rfl (ok_drawA h [14] (by simp) (by simp) (fun b1 S1 h1 => ?_))
  have h1' : Hp X S1 ((b1 + 14, none) :: (C b [.sl a A.l.length c, .int .u64 A.past, .int .u64 A.tick] :: Ls ++ F)) := h1
  refine ok_gO (ok_ldL h1' rfl ?_)
  obtain ⟨v, S2, e, a', c', L', rfl, hs2, h2⟩ : Ok (evF E orcL (n + 1) (.fn 43) [.sl a A.l.length c] S1) _ := clone_ok n h1' (c := c) (hs.rd (by intro e he; simp [he])) hl
  rw [callL_of e]
  refine ok_gO (ok_ldI h2 rfl (ok_ldI h1' rfl (ok_true (by simp [AV.beq]) (ok_gO (ok_ldI h2 rfl (ok_ldI h1' rfl (ok_true (by simp [AV.beq]) ?_)))))))
  refine ok_layA (b := b1 + 14) h2 (fun S3 h3 => ok_ret ⟨b1 + 14, _, rfl, ⟨a', A.l.length, c', L', hs2.g, rfl⟩, ?_⟩)
  exact h3.re (by intro p; simp only [List.countP_append, List.countP_cons, List.cons_append, C]; omega)

abbrev RetQ (X : Cx) (F : List Ent) (b : Nat) (A : CM) (last : Int) (rs : List (Int × Int)) : AV → AS → Prop := fun v S' => ∃ (ga : Option Pos) (gc : Cap) (L' Lg : List Ent), v = .tup [.sl ga (A.gone last rs).length gc, .int .i64 (checkE last rs)] ∧ SlR ga (A.gone last rs).length gc 1 (ixs .u32 (A.gone last rs)) Lg ∧ Cat b (A.retire last rs) L' ∧ Hp X S' (L' ++ (Lg ++ F))

theorem take_succ_at {α : Type} {l : List α} {i : Nat} {x : α} (h : l[i]? = some x) : l.take (i + 1) = l.take i ++ [x] := by rw [List.take_add_one, h]; rfl

theorem ret_loop2 (n0 : Nat) (call : CallA) {k : List Bool} {b3 : Nat} (hl : A.l.length ≤ 256) (hk : k.length = A.l.length) {a : Option Pos} {c : Cap} {Ls : List Ent} (hs : SlG a A.l.length c 4 (srows A.l) Ls) :
    ∀ (m i : Nat) (ga : Option Pos) (gl : Nat) (gc : Cap) (ka : Option Pos) (kl : Nat) (kc : Cap) (Lg Lk : List Ent) (S : AS), i ≤ A.l.length → A.l.length - i < m → SlR ga gl gc 1 (ixs .u32 (gnL (A.l.take i) (k.take i))) Lg → SlR ka kl kc 4 (srows (kpL (A.l.take i) (k.take i))) Lk →
      Hp X S (Lg ++ (Lk ++ (C b [.sl a A.l.length c, .int .u64 A.past, .int .u64 A.tick] :: (Ls ++ (C b3 (k.map AV.bool) :: F))))) →
      Ok (J26_l1_1_1_1_1_1_1_0_1_0 call n0 m (some (.rw b, 0)) ga gl gc ka kl kc (some (.rw b3, 0)) A.l.length (.ex A.l.length) A.l.length i S) fun v S' => ∃ (ga : Option Pos) (gc : Cap) (L' Lg : List Ent), v = .tup [.sl ga (gnL A.l k).length gc, .int .i64 0] ∧ SlR ga (gnL A.l k).length gc 1 (ixs .u32 (gnL A.l k)) Lg ∧ Cat b { A with l := kpL A.l k } L' ∧ Hp X S' (L' ++ (Lg ++ F))
  | 0, i, ga, gl, gc, ka, kl, kc, Lg, Lk, S, hi, hm, hg, hkp, h => by omega
  | m + 1, i, ga, gl, gc, ka, kl, kc, Lg, Lk, S, hi, hm, hg, hkp, h => by
    have hgl : gl = (gnL (A.l.take i) (k.take i)).length := by have := hg.len; simpa using this
    have hkl : kl = (kpL (A.l.take i) (k.take i)).length := by have := hkp.len; simpa using this
    have g1 := gnL_len (A.l.take i) (k.take i)
    have k1 := (kpL_sub (A.l.take i) (k.take i)).length_le
    rw [List.length_take] at g1 k1
    rw [J26_l1_1_1_1_1_1_1_0_1_0_succ]
    simp only [b26_l1_1_1_1_1_1_1_0_1_0]
    refine ok_cond (fun hc => ?_) (fun hc => ?_)
    · simp only [decide_eq_true_eq] at hc
      have hlt : i < A.l.length := by omega
      obtain ⟨s, hsi⟩ : ∃ s, A.l[i]? = some s := ⟨_, List.getElem?_eq_getElem hlt⟩
      obtain ⟨x, hx⟩ : ∃ x, k[i]? = some x := ⟨_, List.getElem?_eq_getElem (by omega)⟩
      have hll : (A.l.take i).length = (k.take i).length := by simp; omega
      have hkp1 := kpL_append hll s x
      have hgn1 := gnL_append hll s x
      rw [← take_succ_at hsi, ← take_succ_at hx] at hkp1 hgn1
      rw [wn (x := (i : Int) + 1) (n := i + 1) (by omega) (by omega)]
      refine ok_ixSl (k := i) rfl hlt ?_
      simp only [Nat.zero_add, Nat.mul_one]
      refine ok_ldB h (bool_at hx) ?_
      have hrd : RdR X (Lg ++ (Lk ++ (C b [.sl a A.l.length c, .int .u64 A.past, .int .u64 A.tick] :: (Ls ++ (C b3 (k.map AV.bool) :: F))))) a (srows A.l).flatten := hs.rd (by intro e he; simp [he])
      obtain ⟨p, hp⟩ := hrd.some_of (by intro he; have := congrArg List.length he; rw [flat_len (srows_all A.l), srows_len] at this; simp at this; omega)
      have hrd' : RdR X (Lg ++ (Lk ++ (C b [.sl a A.l.length c, .int .u64 A.past, .int .u64 A.tick] :: (Ls ++ (C b3 (k.map AV.bool) :: F))))) (some p) (srows A.l).flatten := by rw [← hp]; exact hrd
      refine ok_cond (fun c1 => ok_gO (ok_ldL h rfl ?_)) (fun c1 => ok_gO (ok_ldL h rfl ?_))
      · subst c1
        rw [if_pos rfl] at hkp1 hgn1
        rw [List.append_nil] at hgn1
        rw [show ixSl 4 a A.l.length (i : Int) = ixSl 4 (some p) A.l.length (i : Int) by rw [hp]]
        rw [ixSl_at rfl hlt, hrd'.elem h (srows_all A.l) (srows_at hsi)]
        refine ok_ifO rfl (ok_ifO (by simp [srow]) (ok_newA h (fun b28 S1 h1 => ?_)))
        have e : splice [AV.int .u32 0, .int .u64 0, .str [], .int .u64 0] 0 (srow s) = srow s := by simp [splice, srow]
        rw [e] at h1
        have h1' := h1.re (M := Lk ++ (C b28 (srow s) :: (Lg ++ (C b [.sl a A.l.length c, .int .u64 A.past, .int .u64 A.tick] :: (Ls ++ (C b3 (k.map AV.bool) :: F)))))) (by intro p; simp only [List.countP_append, List.countP_cons, C]; omega)
        refine ok_append h1' hkp (ys := srows [s]) (srows_all _) rfl (fun K => ?_) (by decide) (by simp [pow46]; omega) (by simp [pow46]; omega) (fun a3 l3 c3 S3 L3 ht' h3 => ?_)
        · have := RdR.first (.rw (X := X) (b := b28) (i := 0) (c := srow s) (cs := srow s) (L := _) (List.mem_append_right Lk List.mem_cons_self) (by simp) rfl) h1' (sz := 4) (n := 1) rfl (by decide) (l := 1) (c := .ex 1) K
          simpa [srows] using this
        · rw [← srows_append, ← hkp1] at ht'
          rw [← hgn1] at hg
          exact ret_loop2 n0 call hl hk hs m (i + 1) ga gl gc a3 l3 c3 Lg L3 S3 (by omega) (by omega) hg ht' (h3.re (M := C b28 (srow s) :: (Lg ++ (L3 ++ (C b [.sl a A.l.length c, .int .u64 A.past, .int .u64 A.tick] :: (Ls ++ (C b3 (k.map AV.bool) :: F)))))) (by intro p; simp only [List.countP_append, List.countP_cons, C]; omega)).drop1
      · subst c1
        rw [if_neg (by simp)] at hkp1 hgn1
        rw [List.append_nil] at hkp1
        rw [show ixSl 4 a A.l.length (i : Int) = ixSl 4 (some p) A.l.length (i : Int) by rw [hp]]
        rw [ixSl_at rfl hlt]
        have hfl := flat_get (j := 0) (srows_all A.l) (srows_at hsi) (by omega)
        have e0 := hrd'.ldI h (i := i * 4 + 0) (k := .u32) (v := s.n) (by rw [hfl]; rfl) (K := fun v36 => newA S (.cells [.int .u32 v36]) fun b37 S38 => appendA 1 4 S38 ga gl gc 1 (firstA S38 1 1 (.sl (some (.rw b37, 0)) 1 (.ex 1))) fun v39a v39l v39c S40 => J26_l1_1_1_1_1_1_1_0_1_0 call n0 m (some (.rw b, 0)) v39a v39l v39c ka kl kc (some (.rw b3, 0)) A.l.length (.ex A.l.length) A.l.length ((i + 1 : Nat) : Int) S40)
        rw [Nat.add_zero] at e0
        rw [e0]
        refine ok_newA h (fun b37 S1 h1 => ?_)
        have h1' := h1.re (M := Lg ++ (C b37 [.int .u32 s.n] :: (Lk ++ (C b [.sl a A.l.length c, .int .u64 A.past, .int .u64 A.tick] :: (Ls ++ (C b3 (k.map AV.bool) :: F)))))) (by intro p; simp only [List.countP_append, List.countP_cons, C]; omega)
        refine ok_append h1' hg (ys := ixs .u32 [s.n]) (ixs_all _ _) rfl (fun K => ?_) (by decide) (by simp [pow46]; omega) (by simp [pow46]; omega) (fun a3 l3 c3 S3 L3 ht' h3 => ?_)
        · have := RdR.first (.rw (X := X) (b := b37) (i := 0) (c := [.int .u32 s.n]) (cs := [.int .u32 s.n]) (L := _) (List.mem_append_right Lg List.mem_cons_self) (by simp) rfl) h1' (sz := 1) (n := 1) rfl (by decide) (l := 1) (c := .ex 1) K
          simpa using this
        · rw [← ixs_append, ← hgn1] at ht'
          rw [← hkp1] at hkp
          exact ret_loop2 n0 call hl hk hs m (i + 1) a3 l3 c3 ka kl kc L3 Lk S3 (by omega) (by omega) ht' hkp (h3.re (M := C b37 [.int .u32 s.n] :: (L3 ++ (Lk ++ (C b [.sl a A.l.length c, .int .u64 A.past, .int .u64 A.tick] :: (Ls ++ (C b3 (k.map AV.bool) :: F)))))) (by intro p; simp only [List.countP_append, List.countP_cons, C]; omega)).drop1
    · simp only [decide_eq_false_iff_not] at hc
      obtain rfl : i = A.l.length := by omega
      have hk2 : k.take A.l.length = k := List.take_of_length_le (by omega)
      rw [List.take_length, hk2] at hg hkp hgl hkl
      subst hgl
      refine ok_gO (ok_stn h (by simp) (d := [.sl ka kl kc, .int .u64 A.past, .int .u64 A.tick]) (by simp [splice]) (fun S1 h1 => ok_ret ⟨ga, gc, C b [.sl ka kl kc, .int .u64 A.past, .int .u64 A.tick] :: Lk, Lg, rfl, hg, ⟨ka, kl, kc, Lk, hkp.g, rfl⟩, ?_⟩))
      exact (h1.re (M := Ls ++ ([C b3 (k.map AV.bool)] ++ ((C b [.sl ka kl kc, .int .u64 A.past, .int .u64 A.tick] :: Lk) ++ (Lg ++ F)))) (by intro p; simp only [List.countP_append, List.countP_cons, List.countP_nil, List.cons_append, C]; omega)).right.right

theorem ret_loop1 (n0 n : Nat) (hn : 70000 < n) (hn0 : 1000 < n0) (hI : CInv A) {last : Int} {ra : Option Pos} {rc : Cap} {rs : List (Int × Int)} (hB : RsB last rs) (hra : RdR X F ra (rrows rs).flatten) {b1 : Nat} {a : Option Pos} {c : Cap} {Ls : List Ent} (hs : SlG a A.l.length c 4 (srows A.l) Ls) :
    ∀ (m i : Nat) (ta : Option Pos) (tl : Nat) (tc : Cap) (Lt : List Ent) (S : AS), i ≤ A.l.length → A.l.length - i < m → SlR ta tl tc 1 (ixs .u64 (A.ticks.take i)) Lt →
      Hp X S (Lt ++ (C b [.sl a A.l.length c, .int .u64 A.past, .int .u64 A.tick] :: (Ls ++ (C b1 [.int .i64 last, .sl ra rs.length rc] :: F)))) →
      Ok (J26_l1_1_1_1_0_1_0 (evF E orcL (n + 3)) n0 m (some (.rw b, 0)) (some (.rw b1, 0)) ta tl tc a A.l.length c A.l.length i S) fun v S' => ∃ (ga : Option Pos) (gc : Cap) (L' Lg : List Ent), v = .tup [.sl ga (gnL A.l (keepL last rs A.ticks)).length gc, .int .i64 0] ∧ SlR ga (gnL A.l (keepL last rs A.ticks)).length gc 1 (ixs .u32 (gnL A.l (keepL last rs A.ticks))) Lg ∧ Cat b { A with l := kpL A.l (keepL last rs A.ticks) } L' ∧ Hp X S' (L' ++ (Lg ++ F))
  | 0, i, ta, tl, tc, Lt, S, hi, hm, ht, h => by omega
  | m + 1, i, ta, tl, tc, Lt, S, hi, hm, ht, h => by
    have hlen := hI.len
    have htl : tl = i := by have := ht.len; simp at this; omega
    rw [J26_l1_1_1_1_0_1_0_succ]
    simp only [b26_l1_1_1_1_0_1_0]
    refine ok_cond (fun hc => ?_) (fun hc => ?_)
    · simp only [decide_eq_true_eq] at hc
      have hlt : i < A.l.length := by omega
      obtain ⟨s, hsi⟩ : ∃ s, A.l[i]? = some s := ⟨_, List.getElem?_eq_getElem hlt⟩
      have hti : A.ticks[i]? = some s.t := by rw [CM.ticks, List.getElem?_map, hsi]; rfl
      have hrd : RdR X (Lt ++ (C b [.sl a A.l.length c, .int .u64 A.past, .int .u64 A.tick] :: (Ls ++ (C b1 [.int .i64 last, .sl ra rs.length rc] :: F)))) a (srows A.l).flatten := hs.rd (by intro e he; simp [he])
      obtain ⟨p, hp⟩ := hrd.some_of (by intro he; have := congrArg List.length he; rw [flat_len (srows_all A.l), srows_len] at this; simp at this; omega)
      have hrd' : RdR X (Lt ++ (C b [.sl a A.l.length c, .int .u64 A.past, .int .u64 A.tick] :: (Ls ++ (C b1 [.int .i64 last, .sl ra rs.length rc] :: F)))) (some p) (srows A.l).flatten := by rw [← hp]; exact hrd
      rw [show ixSl 4 a A.l.length (i : Int) = ixSl 4 (some p) A.l.length (i : Int) by rw [hp]]
      rw [ixSl_at rfl hlt, hrd'.elem h (srows_all A.l) (srows_at hsi)]
      refine ok_newA h (fun b10 S1 h1 => ok_ifO rfl ?_)
      refine ok_stn h1 (by simp [srow]) (d := srow s) (by simp [splice, srow]) (fun S2 h2 => ok_ldI h2 rfl (ok_newA h2 (fun b14 S3 h3 => ?_)))
      have h3' := h3.re (M := Lt ++ (C b14 [.int .u64 s.t] :: C b10 (srow s) :: (C b [.sl a A.l.length c, .int .u64 A.past, .int .u64 A.tick] :: (Ls ++ (C b1 [.int .i64 last, .sl ra rs.length rc] :: F))))) (by intro p; simp only [List.countP_append, List.countP_cons, C]; omega)
      refine ok_append h3' ht (ys := ixs .u64 [s.t]) (ixs_all _ _) rfl (fun K => ?_) (by decide) (by simp [pow46]; omega) (by simp [pow46]; omega) (fun a3 l3 c3 S4 L4 ht' h4 => ?_)
      · have := RdR.first (.rw (X := X) (b := b14) (i := 0) (c := [.int .u64 s.t]) (cs := [.int .u64 s.t]) (L := _) (List.mem_append_right Lt List.mem_cons_self) (by simp) rfl) h3' (sz := 1) (n := 1) rfl (by decide) (l := 1) (c := .ex 1) K
        simpa using this
      · rw [← ixs_append, ← take_succ_at hti] at ht'
        rw [wn (x := (i : Int) + 1) (n := i + 1) (by omega) (by omega)]
        exact ret_loop1 n0 n hn hn0 hI hB hra hs m (i + 1) a3 l3 c3 L4 S4 (by omega) (by omega) ht' (h4.re (M := C b14 [.int .u64 s.t] :: C b10 (srow s) :: (L4 ++ (C b [.sl a A.l.length c, .int .u64 A.past, .int .u64 A.tick] :: (Ls ++ (C b1 [.int .i64 last, .sl ra rs.length rc] :: F))))) (by intro p; simp only [List.countP_append, List.countP_cons, C]; omega)).drop1.drop1
    · simp only [decide_eq_false_iff_not] at hc
      obtain rfl : i = A.l.length := by omega
      subst htl
      have htk : A.ticks.take A.l.length = A.ticks := List.take_of_length_le (by simp)
      rw [htk] at ht
      refine ok_gO (ok_ldn h (by simp) (d := [.int .i64 last, .sl ra rs.length rc]) rfl ?_)
      have rdt := ht.rd (X := X) (M := Lt ++ (C b [.sl a A.l.length c, .int .u64 A.past, .int .u64 A.tick] :: (Ls ++ (C b1 [.int .i64 last, .sl ra rs.length rc] :: F)))) (by intro e he; simp [he])
      rw [ixs_flat] at rdt
      have ek : Ok (evF E orcL (n + 3) (.fn 11) [.agg [.int .i64 last, .sl ra rs.length rc], .sl ta A.ticks.length tc] S) _ := keep_ok n (by omega) h hB (hra.mono (by intro e he; simp [he])) hI.up rdt
      rw [ticks_len] at ek
      obtain ⟨v, S1, e, b3, rfl, h1⟩ := ek
      rw [callL_of e]
      have h2 : Hp X S1 ([] ++ ([] ++ (C b [.sl a A.l.length c, .int .u64 A.past, .int .u64 A.tick] :: (Ls ++ (C b3 ((keepL last rs A.ticks).map AV.bool) :: F))))) := by
        have := h1.re (M := Lt ++ (C b1 [.int .i64 last, .sl ra rs.length rc] :: (C b [.sl a A.l.length c, .int .u64 A.past, .int .u64 A.tick] :: (Ls ++ (C b3 ((keepL last rs A.ticks).map AV.bool) :: F))))) (by intro p; simp only [List.countP_append, List.countP_cons, C]; omega)
        exact this.right.drop1
      exact ret_loop2 n0 (evF E orcL (n + 3)) hlen (by simp) hs n0 0 none 0 (.ex 0) none 0 (.ex 0) [] [] S1 (by omega) (by omega) (by simp only [List.take_zero, gnL]; exact SlR.nil) (by simp only [List.take_zero, kpL]; exact SlR.nil) h2

theorem retire_ok (n : Nat) (hn : 70000 < n) (h : Hp X S (L ++ F)) (hc : Cat b A L) (hI : CInv A) {last : Int} {ra : Option Pos} {rc : Cap} {rs : List (Int × Int)} (hB : RsB last rs) (hra : RdR X F ra (rrows rs).flatten) :
    Ok (ev (n + 4) (.fn 26) [.ptr (some (.rw b, 0)), .agg [.int .i64 last, .sl ra rs.length rc]] S) (RetQ X F b A last rs) := by
  have hc0 := hc
  obtain ⟨a, l, c, Ls, hs, rfl⟩ := hc
  have hll : l = A.l.length := by have := hs.len; simpa using this
  subst hll
  rw [ev, F26 _ _ _ _ (oL rfl)]
  simp only [J26, b26_entry]
  refine ok_ifO rfl (ok_newA h (fun b1 S1 h1 => ok_false rfl ?_))
  refine ok_ldn h1 (by simp) (d := [.int .i64 last, .sl ra rs.length rc]) rfl ?_
  obtain ⟨v, S2, e, rfl, h2⟩ : Ok (evF E orcL (n + 3) (.fn 16) [.agg [.int .i64 last, .sl ra rs.length rc]] S1) _ := check_ok (n + 2) (by omega) h1 last (hra.mono (by intro e he; simp [he]))
  rw [callI_of e]
  cases hw : wrongB last rs with
  | true =>
    have hE : checkE last rs = 180 := by rw [checkE, hw]; rfl
    rw [hE]
    refine ok_true rfl (ok_ret ⟨none, .ex 0, _, [], by rw [CM.gone, if_pos hw, hE]; rfl, by rw [CM.gone, if_pos hw]; exact .nil, by rw [CM.retire, if_pos hw]; exact hc0, ?_⟩)
    exact h2.drop1
  | false =>
    have hE : checkE last rs = 0 := by rw [checkE, hw]; rfl
    rw [hE]
    refine ok_false rfl (ok_gO (ok_ldL h2 rfl ?_))
    have h3 : Hp X S2 ([] ++ (C b [.sl a A.l.length c, .int .u64 A.past, .int .u64 A.tick] :: (Ls ++ (C b1 [.int .i64 last, .sl ra rs.length rc] :: F)))) := h2.re (by intro p; simp only [List.countP_append, List.countP_cons, List.cons_append, List.nil_append, C]; omega)
    have hlen := hI.len
    refine (ret_loop1 (n + 3) n hn (by omega) hI hB hra hs (n + 3) 0 none 0 (.ex 0) [] S2 (by omega) (by omega) (by simpa [ixs] using SlR.nil) h3).mono ?_
    rintro v S' ⟨ga, gc, L', Lg, rfl, h4, h5, h6⟩
    refine ⟨ga, gc, L', Lg, ?_, ?_, ?_, h6⟩
    · rw [CM.gone, if_neg (by rw [hw]; simp), hE]
    · rw [CM.gone, if_neg (by rw [hw]; simp)]; exact h4
    · rw [CM.retire, if_neg (by rw [hw]; simp)]; exact h5

end

end Go.Ct

namespace Go.Ct
open Go.Gr

theorem gnL_all : ∀ (l : List Snap) (k : List Bool), (∀ x ∈ k, x = true) → gnL l k = []
  | [], k, h => by unfold gnL; rfl
  | x :: l, [], h => by unfold gnL; rfl
  | x :: l, true :: k, h => by unfold gnL; exact gnL_all l k fun y hy => h y (by simp [hy])
  | x :: l, false :: k, h => by have := h false (by simp); cases this

/-- The last so many. -/
def sf (last : Int) : Nat → List Bool
  | 0 => []
  | m + 1 => decide (((m + 1 : Nat) : Int) ≤ last) :: sf last m
theorem sf_get (last : Int) : ∀ (n j : Nat), j < n → (sf last n)[j]? = some (decide ((n : Int) - j ≤ last))
  | 0, j, h => by omega
  | n + 1, 0, h => by
    simp only [sf, List.getElem?_cons_zero, Option.some.injEq]
    exact decide_eq_decide.2 (by omega)
  | n + 1, j + 1, h => by
    simp only [sf, List.getElem?_cons_succ]
    rw [sf_get last n j (by omega)]
    congr 1
    exact decide_eq_decide.2 (by omega)
@[simp] theorem sf_len (last : Int) : ∀ n, (sf last n).length = n
  | 0 => rfl
  | n + 1 => by simp [sf, sf_len last n]
theorem kp_sf {last : Int} (h0 : 0 ≤ last) : ∀ l : List Snap, ((kpL l (sf last l.length)).length : Int) ≤ last
  | [] => by simpa [kpL, sf] using h0
  | s :: l => by
    have ih := kp_sf h0 l
    simp only [List.length_cons, sf]
    by_cases h : ((l.length + 1 : Nat) : Int) ≤ last
    · have e : decide (((l.length + 1 : Nat) : Int) ≤ last) = true := by simpa using h
      have := (kpL_sub l (sf last l.length)).length_le
      rw [e, kpL, List.length_cons]
      omega
    · have e : decide (((l.length + 1 : Nat) : Int) ≤ last) = false := by simpa using h
      rw [e, kpL]
      exact ih
theorem sf_all {last : Int} : ∀ {n : Nat}, (n : Int) ≤ last → ∀ x ∈ sf last n, x = true
  | 0, _, x, hx => by cases hx
  | n + 1, h, x, hx => by
    rcases List.mem_cons.1 hx with rfl | hx
    · simpa using h
    · exact sf_all (by omega) x hx

/-- What one rule keeps. -/
def kb (cnt : Int) : List Int → List Bool
  | [] => []
  | a :: l => (decide (∀ b, l.head? = some b → a ≠ b) && decide ((chg (a :: l) : Int) < cnt)) :: kb cnt l
@[simp] theorem kb_len (cnt : Int) : ∀ l, (kb cnt l).length = l.length
  | [] => rfl
  | a :: l => by simp [kb, kb_len cnt l]
theorem kb_get (cnt : Int) : ∀ (qs : List Int) (j : Nat), j < qs.length → (kb cnt qs)[j]? = some (ruleAt qs cnt j)
  | [], j, h => by simp at h
  | a :: l, 0, h => by
    simp only [kb, List.getElem?_cons_zero, ruleAt, List.drop_zero, Option.some.injEq]
    congr 1
    refine decide_eq_decide.2 ⟨fun h1 b hb e => ?_, fun h1 b hb e => ?_⟩
    · simp only [List.getElem?_cons_succ, Nat.zero_add] at hb
      exact h1 b (by rw [List.head?_eq_getElem?]; exact hb) (Option.some.inj e)
    · exact h1 b (by simp only [List.getElem?_cons_succ, Nat.zero_add]; rw [← List.head?_eq_getElem?]; exact hb) (by rw [e])
  | a :: l, j + 1, h => by
    simp only [kb, List.getElem?_cons_succ]
    rw [kb_get cnt l j (by simpa using h)]
    simp only [ruleAt, List.getElem?_cons_succ, List.drop_succ_cons]

theorem kp_kb_len {cnt : Int} (q : Snap → Int) : ∀ l : List Snap, ((kpL l (kb cnt (l.map q))).length ≤ strs (l.map q)) ∧ (kpL l (kb cnt (l.map q)) = [] ∨ ((kpL l (kb cnt (l.map q))).length : Int) ≤ cnt)
  | [] => by simp [kpL, kb]
  | s :: l => by
    obtain ⟨h1, h2⟩ := kp_kb_len (cnt := cnt) q l
    have hle := chg_cons_le (q s) (l.map q)
    simp only [List.map_cons, kb]
    by_cases hk : (decide (∀ b, (l.map q).head? = some b → q s ≠ b) && decide ((chg (q s :: l.map q) : Int) < cnt)) = true
    · rw [hk, kpL]
      simp only [Bool.and_eq_true, decide_eq_true_eq] at hk
      have hc := chg_cons_of hk.1
      refine ⟨?_, .inr ?_⟩
      · show (kpL l (kb cnt (l.map q))).length + 1 ≤ chg (q s :: l.map q) + 1
        rw [hc]; omega
      · rw [hc] at hk
        simp only [List.length_cons]
        omega
    · have hk : (decide (∀ b, (l.map q).head? = some b → q s ≠ b) && decide ((chg (q s :: l.map q) : Int) < cnt)) = false := by simpa using hk
      rw [hk, kpL]
      exact ⟨Nat.le_trans h1 hle, h2⟩

theorem kp_kb_up {cnt : Int} {q : Snap → Int} : ∀ {l : List Snap}, l.Pairwise (fun x y => q x ≤ q y) → (kpL l (kb cnt (l.map q))).Pairwise fun x y => q x < q y
  | [], _ => by simp [kpL]
  | s :: l, h => by
    rw [List.pairwise_cons] at h
    have ih := kp_kb_up (cnt := cnt) h.2
    simp only [List.map_cons, kb]
    by_cases hk : (decide (∀ b, (l.map q).head? = some b → q s ≠ b) && decide ((chg (q s :: l.map q) : Int) < cnt)) = true
    · rw [hk, kpL, List.pairwise_cons]
      simp only [Bool.and_eq_true, decide_eq_true_eq] at hk
      refine ⟨fun y hy => ?_, ih⟩
      have hyl := (kpL_sub l _).subset hy
      have hle := h.1 y hyl
      cases l with
      | nil => cases hyl
      | cons z l =>
        have hz := hk.1 (q z) (by simp)
        have h1 := h.1 z (by simp)
        rcases List.mem_cons.1 hyl with rfl | hyl2
        · omega
        · have := (List.pairwise_cons.1 h.2).1 y hyl2
          omega
    · have hk : (decide (∀ b, (l.map q).head? = some b → q s ≠ b) && decide ((chg (q s :: l.map q) : Int) < cnt)) = false := by simpa using hk
      rw [hk, kpL]
      exact ih

theorem chg_le : ∀ (a : Int) (l : List Int), chg (a :: l) ≤ l.length
  | a, [] => by simp [chg]
  | a, b :: l => by
    have := chg_le b l
    simp only [chg, List.length_cons]
    split <;> omega

theorem kb_all {cnt : Int} {q : Snap → Int} : ∀ {l : List Snap}, l.Pairwise (fun x y => q x < q y) → (l = [] ∨ (l.length : Int) ≤ cnt) → ∀ x ∈ kb cnt (l.map q), x = true
  | [], _, _, x, hx => by cases hx
  | s :: l, h, hl, x, hx => by
    rw [List.pairwise_cons] at h
    have hl : ((s :: l).length : Int) ≤ cnt := by
      rcases hl with hl | hl
      · cases hl
      · exact hl
    simp only [List.length_cons] at hl
    rcases List.mem_cons.1 hx with rfl | hx
    · simp only [Bool.and_eq_true, decide_eq_true_eq]
      refine ⟨fun b hb e => ?_, ?_⟩
      · cases l with
        | nil => simp at hb
        | cons z l =>
          simp at hb
          have := h.1 z (by simp)
          omega
      · have := chg_le (q s) (l.map q)
        simp at this
        omega
    · exact kb_all h.2 (.inr (by omega)) x hx

theorem keep_none {last : Int} (h0 : 0 ≤ last) (ts : List Int) : keepL last [] ts = sf last ts.length := by
  have hw : wrongB last [] = false := by simp [wrongB]; omega
  apply List.ext_getElem?
  intro j
  by_cases hj : j < ts.length
  · rw [sf_get last _ j hj, keepL, List.getElem?_map, List.getElem?_range hj]
    simp [keepAt, hw]
  · rw [List.getElem?_eq_none (by simp; omega), List.getElem?_eq_none (by simp; omega)]
theorem keep_one {r : Int × Int} (hw : wrongB 0 [r] = false) (ts : List Int) : keepL 0 [r] ts = kb r.2 (qt r ts) := by
  apply List.ext_getElem?
  intro j
  by_cases hj : j < ts.length
  · rw [kb_get _ _ j (by simpa using hj), keepL, List.getElem?_map, List.getElem?_range hj]
    simp only [Option.map_some, keepAt, hw, Bool.false_or, List.any_cons, List.any_nil, Bool.or_false, Option.some.injEq]
    have : decide ((ts.length : Int) - j ≤ 0) = false := by simp; omega
    rw [this, Bool.false_or]
  · rw [List.getElem?_eq_none (by simp; omega), List.getElem?_eq_none (by simp; omega)]

theorem again {A : CM} (h : CInv A) {last : Int} {rs : List (Int × Int)} (hB : RsB last rs) (hw : wrongB last rs = false) (hp : rs = [] ∨ (rs.length = 1 ∧ last = 0)) : (A.retire last rs).gone last rs = [] := by
  obtain ⟨h0, _, hr⟩ := wrong_false hw
  rw [CM.gone, if_neg (by rw [hw]; simp)]
  have e1 : A.retire last rs = { A with l := kpL A.l (keepL last rs A.ticks) } := by rw [CM.retire, if_neg (by rw [hw]; simp)]
  rw [e1]
  apply gnL_all
  rcases hp with rfl | ⟨hl, rfl⟩
  · rw [keep_none h0, keep_none h0, ticks_len, ticks_len]
    exact sf_all (kp_sf h0 A.l)
  · obtain ⟨r, rfl⟩ : ∃ r, rs = [r] := by
      match rs, hl with
      | [r], _ => exact ⟨r, rfl⟩
    have hr1 := hr r (by simp)
    have hr2 := hB.e1 r (by simp)
    rw [keep_one hw, keep_one hw]
    have eq : ∀ B : CM, qt r B.ticks = B.l.map fun s => Int.tdiv s.t r.1 := fun B => by simp [qt, CM.ticks]
    rw [eq A, eq]
    have hm : A.l.Pairwise fun x y => Int.tdiv x.t r.1 ≤ Int.tdiv y.t r.1 := by
      have h2 := List.Pairwise.and_mem.1 h.pw
      refine h2.imp fun {x y} hxy => ?_
      have b1 := (h.tb x hxy.1).1
      have b2 := (h.tb y hxy.2.1).1
      rw [Int.tdiv_eq_ediv_of_nonneg b1, Int.tdiv_eq_ediv_of_nonneg b2]
      exact Int.ediv_le_ediv (by omega) (by omega)
    exact kb_all (kp_kb_up hm) (kp_kb_len _ A.l).2

end Go.Ct
