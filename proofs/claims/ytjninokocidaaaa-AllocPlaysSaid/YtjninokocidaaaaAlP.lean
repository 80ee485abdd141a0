/- What the functions of package alloc do with a heap, exactly: commit, letgo, runs, copies. -/
import Derived.Test.YtjninokocidaaaaAlSrt
import Derived.Test.YtjninokocidaaaaAlM
set_option linter.unusedVariables false
set_option linter.unusedSimpArgs false
set_option maxRecDepth 4000
namespace Go.Al
open Go.Gr

/-- Which places have a number, rising. -/
def posTo (x : Nat) (s : List Nat) (i : Nat) : List Nat := (List.range i).filter fun j => s[j]? == some x
def posn (x : Nat) (s : List Nat) : List Nat := posTo x s s.length
theorem posTo_succ (x : Nat) (s : List Nat) (i : Nat) : posTo x s (i + 1) = posTo x s i ++ if s[i]? = some x then [i] else [] := by
  simp only [posTo, List.range_succ, List.filter_append, List.filter_cons, List.filter_nil, beq_iff_eq]
theorem mem_posTo {x : Nat} {s : List Nat} {i b : Nat} : b ∈ posTo x s i ↔ b < i ∧ s[b]? = some x := by simp [posTo]
theorem mem_posn {x : Nat} {s : List Nat} {b : Nat} : b ∈ posn x s ↔ s[b]? = some x := by
  rw [posn, mem_posTo]
  exact ⟨fun h => h.2, fun h => ⟨(List.getElem?_eq_some_iff.1 h).1, h⟩⟩
theorem posTo_nodup (x : Nat) (s : List Nat) (i : Nat) : (posTo x s i).Nodup := List.Pairwise.filter _ List.nodup_range
theorem posTo_len (x : Nat) (s : List Nat) (i : Nat) : (posTo x s i).length ≤ i := by
  have := List.length_filter_le (fun j => s[j]? == some x) (List.range i)
  simpa [posTo] using this
theorem posn_perm {x : Nat} {s t : List Nat} (hd : t.Nodup) (hi : ∀ b, b ∈ t ↔ s[b]? = some x) : t.Perm (posn x s) :=
  (List.perm_ext_iff_of_nodup hd (posTo_nodup _ _ _)).2 fun b => by rw [hi b]; exact mem_posn.symm

theorem sorted_posn {x : Nat} {s t : List Nat} {d : List Int} (hp : d.Perm (t.map fun (n : Nat) => (n : Int))) (hs : Srt 0 t.length d) (hd : t.Nodup) (hi : ∀ b, b ∈ t ↔ s[b]? = some x) : d = (posn x s).map fun (n : Nat) => (n : Int) := by
  have hl : d.length = t.length := by simpa using hp.length_eq
  refine List.Perm.eq_of_pairwise (le := fun (a b : Int) => a ≤ b) (fun a b _ _ h1 h2 => Int.le_antisymm h1 h2) ?_ ?_ (hp.trans ((posn_perm hd hi).map _))
  · rw [List.pairwise_iff_getElem]
    intro i j h1 h2 hij
    exact hs i j _ _ (Nat.zero_le _) hij (by omega) (List.getElem?_eq_getElem h1) (List.getElem?_eq_getElem h2)
  · rw [List.pairwise_map]
    have h : (posn x s).Pairwise (fun a b => a < b) := List.Pairwise.filter _ List.pairwise_lt_range
    exact h.imp fun {a b} hab => by omega

/-- The runs of free blocks. -/
def incLast : List (Int × Int) → List (Int × Int)
  | [] => []
  | [w] => [(w.1, w.2 + 1)]
  | y :: z :: l => y :: incLast (z :: l)
theorem incLast_snoc : ∀ (l : List (Int × Int)) (w : Int × Int), incLast (l ++ [w]) = l ++ [(w.1, w.2 + 1)]
  | [], w => rfl
  | [y], w => rfl
  | y :: z :: l, w => by
    show y :: incLast (z :: l ++ [w]) = _
    rw [incLast_snoc (z :: l) w]; rfl
theorem incLast_len : ∀ l : List (Int × Int), (incLast l).length = l.length
  | [] => rfl
  | [w] => rfl
  | y :: z :: l => by simp [incLast, incLast_len (z :: l)]
def runsTo (s : List Nat) : Nat → List (Int × Int)
  | 0 => []
  | i + 1 => if s[i]? = some 0 then (if 0 < i ∧ s[i - 1]? = some 0 then incLast (runsTo s i) else runsTo s i ++ [(((i : Nat) : Int), (1 : Int))]) else runsTo s i
theorem runsTo_ne {s : List Nat} {i : Nat} (h : s[i]? ≠ some 0) : runsTo s (i + 1) = runsTo s i := by rw [runsTo, if_neg h]
theorem runsTo_new {s : List Nat} {i : Nat} (h : s[i]? = some 0) (h2 : ¬ (0 < i ∧ s[i - 1]? = some 0)) : runsTo s (i + 1) = runsTo s i ++ [(((i : Nat) : Int), (1 : Int))] := by rw [runsTo, if_pos h, if_neg h2]
theorem runsTo_inc {s : List Nat} {i : Nat} (h : s[i]? = some 0) (h1 : 0 < i) (h2 : s[i - 1]? = some 0) : runsTo s (i + 1) = incLast (runsTo s i) := by rw [runsTo, if_pos h, if_pos ⟨h1, h2⟩]
theorem runsTo_len (s : List Nat) : ∀ i, (runsTo s i).length ≤ i
  | 0 => by simp [runsTo]
  | i + 1 => by
    have := runsTo_len s i
    rw [runsTo]
    split
    · split
      · rw [incLast_len]; omega
      · simp; omega
    · omega
theorem runsTo_nil {s : List Nat} {i : Nat} (h1 : 0 < i) (h2 : s[i - 1]? = some 0) : runsTo s i ≠ [] := by
  induction i with
  | zero => omega
  | succ i ih =>
    rw [Nat.add_sub_cancel] at h2
    rw [runsTo, if_pos h2]
    split
    · rename_i h
      intro e
      have := incLast_len (runsTo s i)
      rw [e] at this
      exact ih h.1 h.2 (List.length_eq_zero_iff.1 (by simpa using this.symm))
    · simp
theorem mem_incLast {y : Int × Int} : ∀ {l : List (Int × Int)}, y ∈ incLast l → y ∈ l ∨ ∃ w ∈ l, y = (w.1, w.2 + 1)
  | [], h => by cases h
  | [w], h => by simp only [incLast, List.mem_singleton] at h; exact .inr ⟨w, by simp, h⟩
  | x :: z :: l, h => by
    simp only [incLast, List.mem_cons] at h
    rcases h with h | h
    · exact .inl (by simp [h])
    · rcases mem_incLast (l := z :: l) h with h | ⟨w, h1, h2⟩
      · exact .inl (List.mem_cons_of_mem _ h)
      · exact .inr ⟨w, List.mem_cons_of_mem _ h1, h2⟩
theorem runsTo_b (s : List Nat) : ∀ i, ∀ y ∈ runsTo s i, 0 ≤ y.2 ∧ y.2 ≤ i
  | 0, y, h => by simp [runsTo] at h
  | i + 1, y, h => by
    have ih := runsTo_b s i
    rw [runsTo] at h
    split at h
    · split at h
      · rcases mem_incLast h with h | ⟨w, h1, h2⟩
        · have := ih y h; omega
        · have := ih w h1; subst h2; simp; omega
      · rcases List.mem_append.1 h with h | h
        · have := ih y h; omega
        · simp at h; subst h; simp; omega
    · have := ih y h; omega
/-- A whole run. -/
theorem runsTo_run {s : List Nat} {b : Nat} (hb : b = 0 ∨ s[b - 1]? ≠ some 0) : ∀ n, 1 ≤ n → (∀ j, j < n → s[b + j]? = some 0) → runsTo s (b + n) = runsTo s b ++ [(((b : Nat) : Int), ((n : Nat) : Int))]
  | 0, h, _ => by omega
  | 1, _, h => by
    refine runsTo_new (h 0 (by omega)) (fun e => ?_)
    rcases hb with hb | hb
    · omega
    · exact hb e.2
  | n + 2, _, h => by
    rw [show b + (n + 2) = (b + (n + 1)) + 1 by omega, runsTo_inc (h (n + 1) (by omega)) (by omega) (by rw [show b + (n + 1) - 1 = b + n by omega]; exact h n (by omega)), runsTo_run hb (n + 1) (by omega) (fun j hj => h j (by omega)), incLast_snoc]
    simp
    omega

section
variable {X : Cx} {S : AS} {L F : List Ent} {b : Nat} {A : AM} {Q : AV → AS → Prop}

theorem sortSlS (n : Nat) (hn : 1000000 < n) {t : List Nat} {a : Option Pos} {l : Nat} {c : Cap} (h : Hp X S (L ++ F)) (hs : SlG a l c 1 (ins .i64 t) L) (hl : t.length < 256) :
    Ok (evF E orcL (n + 300) (.fn 43) [.sl a l c] S) fun v S' => v = .tup [] ∧ ∃ (d : List Int) (L' : List Ent), d.Perm (t.map fun (n : Nat) => (n : Int)) ∧ Srt 0 t.length d ∧ Hp X S' (L' ++ F) ∧ RdR X L' a (d.map (AV.int .i64)) := by
  rcases hs.dest with ⟨rfl, rfl, rfl, h4, rfl⟩ | ⟨bt, js, rfl, rfl, hc, rfl, hx, hj⟩
  · have ht : t = [] := List.length_eq_zero_iff.1 (by have := congrArg List.length h4; simpa using this)
    subst ht
    rw [sortNil]
    exact ok_ret ⟨rfl, [], [], .refl _, .one _ _ _ (by simp), h, .nil⟩
  · have hcont : (ins .i64 t ++ js).flatten = (t.map fun (n : Nat) => (n : Int)).map (AV.int .i64) ++ js.flatten := by
      rw [List.flatten_append, ins_flat, row, List.map_map]; rfl
    rw [hcont] at h
    obtain ⟨v, S1, e, rfl, d, hsr, hst, h1⟩ := sortS n hn (c := c) (l := (ins .i64 t).length) (d := t.map fun (n : Nat) => (n : Int)) (js := js.flatten) (b := bt) (F := F) (by simp) (by simpa using hl) h
    rw [e]
    refine ok_ret ⟨rfl, d, [D bt d js.flatten], hsr.p, by simpa using hst, h1, ?_⟩
    have hd := hsr.p
    exact .rw (c := d.map (AV.int .i64) ++ js.flatten) List.mem_cons_self (by simp) (by simp)

abbrev CommittedS (X : Cx) (F : List Ent) (b : Nat) (A : AM) : AV → AS → Prop := fun v S' => ∃ (ta : Option Pos) (tc : Cap) (ga : Option Pos) (gc : Cap) (L' Mt Mg : List Ent), v = .tup [.sl ta A.t.length tc, .sl ga A.g.length gc] ∧
      RdR X Mt ta (row .i64 (posn 2 A.s)) ∧ RdR X Mg ga (row .i64 (posn 3 A.s)) ∧ Alloc b A.commit L' ∧ Hp X S' (L' ++ (Mt ++ (Mg ++ F)))

theorem commitS (n : Nat) (hn : 1000000 < n) (h : Hp X S (L ++ F)) (ha : Alloc b A L) (hw : A.WF) (hl : A.s.length < 256) :
    Ok (ev (n + 301) (.fn 18) [.ptr (some (.rw b, 0))] S) (CommittedS X F b A) := by
  obtain ⟨bs, sc, ta, tl, tc, ga, gl, gc, Lt, Lg, hr, rfl⟩ := ha
  have htl : tl = A.t.length := by have := hr.ht.len; simpa using this
  have hgl : gl = A.g.length := by have := hr.hg.len; simpa using this
  have hwt := hw.tl
  have hwg := hw.gl
  rw [ev, F18 _ _ _ (oL rfl)]
  simp only [J18, b18_entry]
  refine ok_false rfl (ok_gO (ok_ldL h rfl (ok_gO (ok_ldL h rfl (ok_gO ?_)))))
  refine ok_stn h (by simp [hdr]) (d := [.sl (some (.rw bs, 0)) A.s.length sc, .int .i64 A.r, .int .i64 A.h, .sl none 0 (.ex 0), .sl ga gl gc, .int .i64 (A.s.count 0 : Nat)]) (by simp [hdr, splice]) (fun S1 h1 => ok_gO ?_)
  refine ok_stn h1 (by simp) (d := hdr { A with t := [], g := [] } (some (.rw bs, 0)) A.s.length sc none 0 (.ex 0) none 0 (.ex 0)) (by simp [hdr, splice]) (fun S2 h2 => ?_)
  have h3 : Hp X S2 (blks b { A with t := [], g := [] } bs sc none 0 (.ex 0) none 0 (.ex 0) [] [] ++ (Lt ++ (Lg ++ F))) := h2.re (by intro p; simp only [blks, List.countP_append, List.countP_cons, List.cons_append, List.nil_append, List.countP_nil, C]; omega)
  have hr3 : AllocR { A with t := [], g := [] } bs sc none 0 (.ex 0) none 0 (.ex 0) [] [] := ⟨hr.n1, hr.n2, hr.st, hr.hc, .nil, .nil⟩
  have rdt : ∀ s', RdR X (blks b { A with t := [], g := [], s := s' } bs sc none 0 (.ex 0) none 0 (.ex 0) [] [] ++ (Lt ++ (Lg ++ F))) ta (row .i64 A.t) := fun s' => by
    have := hr.ht.rd (X := X) (M := blks b { A with t := [], g := [], s := s' } bs sc none 0 (.ex 0) none 0 (.ex 0) [] [] ++ (Lt ++ (Lg ++ F))) (by intro e he; simp [he])
    rwa [ins_flat] at this
  have rdg : ∀ s', RdR X (blks b { A with t := [], g := [], s := s' } bs sc none 0 (.ex 0) none 0 (.ex 0) [] [] ++ (Lt ++ (Lg ++ F))) ga (row .i64 A.g) := fun s' => by
    have := hr.hg.rd (X := X) (M := blks b { A with t := [], g := [], s := s' } bs sc none 0 (.ex 0) none 0 (.ex 0) [] [] ++ (Lt ++ (Lg ++ F))) (by intro e he; simp [he])
    rwa [ins_flat] at this
  subst htl hgl
  have ht2 : ∀ y ∈ A.t, y < A.s.length := fun y hy => (List.getElem?_eq_some_iff.1 ((hw.ti y).1 hy)).1
  have hg2 : ∀ y ∈ A.g, y < A.s.length := fun y hy => (List.getElem?_eq_some_iff.1 ((hw.gi y).1 hy)).1
  refine setall_loop (A := { A with t := [], g := [] }) (n := n + 299) (x := 1) (xi := 1) (K := fun S => J18_j1_1_1_1_1 (evF E orcL (n + 300)) (n + 300) (some (.rw b, 0)) ta A.t.length tc ga A.g.length gc S) (Lp := fun m i S => J18_l1_1_1_1_0_1_0 (evF E orcL (n + 300)) (n + 300) m (some (.rw b, 0)) ta A.t.length tc ga A.g.length gc ta A.t.length tc A.t.length i S) rfl (by omega) (by omega) (fun m i S => rfl) rdt (n + 300) 0 A.s S2 (by omega) (by omega) ht2 hr3 h3 (fun S4 hr4 h4 => ?_)
  rw [List.drop_zero] at hr4 h4
  simp only [J18_j1_1_1_1_1, b18_j1_1_1_1_1]
  refine ok_gO (ok_ldI h4 rfl ?_)
  have fin : ∀ (to : Nat) (toi : Int), toi = to → to ≤ 4 → to = (if 0 < A.h then 4 else 0) → Ok (J18_j1_1_1_1_1_1_1 (evF E orcL (n + 300)) (n + 300) (some (.rw b, 0)) ta A.t.length tc ga A.g.length gc toi S4) (CommittedS X F b A) := by
    intro to toi hto hto4 htoe
    simp only [J18_j1_1_1_1_1_1_1, b18_j1_1_1_1_1_1_1]
    refine setall_loop (A := { A with t := [], g := [], s := setAll 1 A.t A.s }) (n := n + 299) (x := to) (xi := toi) (K := fun S => J18_j1_1_1_1_1_1_1_1 (evF E orcL (n + 300)) (n + 300) ta A.t.length tc ga A.g.length gc S) (Lp := fun m i S => J18_l1_1_1_1_1_1_1_0_1_0 (evF E orcL (n + 300)) (n + 300) m (some (.rw b, 0)) ta A.t.length tc ga A.g.length gc toi ga A.g.length gc A.g.length i S) hto hto4 (by omega) (fun m i S => rfl) rdg (n + 300) 0 (setAll 1 A.t A.s) S4 (by omega) (by omega) (fun y hy => by simpa using hg2 y hy) hr4 h4 (fun S5 hr5 h5 => ?_)
    rw [List.drop_zero] at hr5 h5
    simp only [J18_j1_1_1_1_1_1_1_1, b18_j1_1_1_1_1_1_1_1]
    have e1 : ({ A with t := [], g := [], s := setAll to A.g (setAll 1 A.t A.s) } : AM) = A.commit := by rw [htoe]; rfl
    have hr5' : AllocR A.commit bs sc none 0 (.ex 0) none 0 (.ex 0) [] [] := by rw [← e1]; exact hr5
    have h5' : Hp X S5 (blks b A.commit bs sc none 0 (.ex 0) none 0 (.ex 0) [] [] ++ (Lt ++ (Lg ++ F))) := by rw [← e1]; exact h5
    have h6 := h5'.re (M := Lt ++ (Lg ++ (blks b A.commit bs sc none 0 (.ex 0) none 0 (.ex 0) [] [] ++ F))) (by intro p; simp only [List.countP_append]; omega)
    obtain ⟨v, S6, e, rfl, t', Mt, hpt, hst, h7, rd7⟩ := sortSlS n hn h6 hr.ht (by omega)
    rw [callT_of e]
    have h8 := h7.re (M := Lg ++ (Mt ++ (blks b A.commit bs sc none 0 (.ex 0) none 0 (.ex 0) [] [] ++ F))) (by intro p; simp only [List.countP_append]; omega)
    obtain ⟨v, S7, e, rfl, g', Mg, hpg, hsg, h9, rd9⟩ := sortSlS n hn h8 hr.hg (by omega)
    rw [callT_of e]
    obtain rfl := sorted_posn hpt hst hw.td hw.ti
    obtain rfl := sorted_posn hpg hsg hw.gd hw.gi
    rw [← row_map] at rd7 rd9
    exact ok_ret ⟨ta, tc, ga, gc, _, Mt, Mg, rfl, rd7, rd9, ⟨bs, sc, none, 0, .ex 0, none, 0, .ex 0, [], [], hr5', rfl⟩, h9.re (by intro p; simp only [List.countP_append]; omega)⟩
  refine ok_cond (fun hc => ?_) (fun hc => ?_)
  · simp only [gt_iff_lt, decide_eq_true_eq] at hc
    exact fin 4 4 rfl (by omega) (by rw [if_pos (by omega)])
  · simp only [gt_iff_lt, decide_eq_false_iff_not] at hc
    exact fin 0 0 rfl (by omega) (by rw [if_neg (by omega)])

/-- A list of blocks is told. -/
abbrev LetS (X : Cx) (F : List Ent) (b : Nat) (d : List Nat) (A : AM) : AV → AS → Prop := fun v S' => ∃ (a : Option Pos) (c : Cap) (Ld L' : List Ent), v = .sl a d.length c ∧ SlR a d.length c 1 (ins .i64 d) Ld ∧ Alloc b A L' ∧ Hp X S' (Ld ++ (L' ++ F))

theorem letgoS_loop (n0 n : Nat) {A : AM} {bs : Nat} {sc : Cap} {ta : Option Pos} {tl : Nat} {tc : Cap} {ga : Option Pos} {gl : Nat} {gc : Cap} {Lt Lg : List Ent} {N : Nat} (hN : N ≤ 65536) {R s0 : List Nat} (hRl : R.length = N) :
    ∀ (m i : Nat) (s d : List Nat) (a : Option Pos) (c : Cap) (Ld : List Ent) (S : AS), s.length = N → i ≤ N → N - i < m → (∀ j : Nat, i ≤ j → s[j]? = s0[j]?) → d = posTo 4 s0 i → lgF i s = R → SlR a d.length c 1 (ins .i64 d) Ld → AllocR { A with s := s } bs sc ta tl tc ga gl gc Lt Lg → Hp X S (Ld ++ (blks b { A with s := s } bs sc ta tl tc ga gl gc Lt Lg ++ F)) →
      Ok (J34_l1_1_1_0_1_0 (evF E orcL (n + 1)) n0 m (some (.rw b, 0)) a d.length c (some (.rw bs, 0)) N sc N i S) (LetS X F b (posTo 4 s0 N) { A with s := R })
  | 0, i, s, d, a, c, Ld, S, hsl, hi, hm, h00, hdd, hR, hs, hr, h => by omega
  | m + 1, i, s, d, a, c, Ld, S, hsl, hi, hm, h00, hdd, hR, hs, hr, h => by
    have hdl : d.length ≤ i := by rw [hdd]; exact posTo_len _ _ _
    rw [J34_l1_1_1_0_1_0_succ]
    simp only [b34_l1_1_1_0_1_0]
    refine ok_cond (fun hc => ?_) (fun hc => ?_)
    · simp only [decide_eq_true_eq] at hc
      have hlt : i < s.length := by omega
      obtain ⟨y, hyi⟩ : ∃ y, s[i]? = some y := ⟨_, List.getElem?_eq_getElem hlt⟩
      refine ok_ixSl (k := i) rfl (by omega) ?_
      simp only [Nat.zero_add, Nat.mul_one]
      refine ok_ldI h (row_at hyi) ?_
      have next : ∀ (s2 d2 : List Nat) (a2 : Option Pos) (c2 : Cap) (L2 : List Ent) (S2 : AS), s2.length = N → (∀ j : Nat, i + 1 ≤ j → s2[j]? = s0[j]?) → d2 = posTo 4 s0 (i + 1) → lgF (i + 1) s2 = R → SlR a2 d2.length c2 1 (ins .i64 d2) L2 → AllocR { A with s := s2 } bs sc ta tl tc ga gl gc Lt Lg → Hp X S2 (L2 ++ (blks b { A with s := s2 } bs sc ta tl tc ga gl gc Lt Lg ++ F)) →
          Ok (J34_j1_1_1_0_1_0_0_1_1_1 (evF E orcL (n + 1)) n0 (J34_l1_1_1_0_1_0 (evF E orcL (n + 1)) n0 m) (some (.rw b, 0)) a2 d2.length c2 (some (.rw bs, 0)) N sc N i S2) (LetS X F b (posTo 4 s0 N) { A with s := R }) := by
        intro s2 d2 a2 c2 L2 S2 h1 h2 h2b h3 h4 h5 h6
        simp only [J34_j1_1_1_0_1_0_0_1_1_1, b34_j1_1_1_0_1_0_0_1_1_1]
        rw [wn (x := (i : Int) + 1) (n := i + 1) (by omega) (by omega)]
        exact letgoS_loop n0 n hN hRl m (i + 1) s2 d2 a2 c2 L2 S2 h1 (by omega) (by omega) h2 h2b h3 h4 h5 h6
      refine ok_cond (fun hy => ?_) (fun hy => ?_)
      · have hy4 : y = 4 := by simp only [beq_iff_eq] at hy; omega
        subst hy4
        have h' := h.re (M := blks b { A with s := s } bs sc ta tl tc ga gl gc Lt Lg ++ (Ld ++ F)) (by intro p; simp only [List.countP_append]; omega)
        obtain ⟨v, S1, e, rfl, L1, ha1, h1, hsh⟩ := set_ok n h' ⟨bs, sc, ta, tl, tc, ga, gl, gc, Lt, Lg, hr, rfl⟩ (A := { A with s := s }) hlt (x := 0) (by omega) (ii := (i : Nat)) (xi := 0) rfl rfl
        have hL1 := hsh bs sc ta tl tc ga gl gc Lt Lg hr rfl
        subst hL1
        rw [callT_of e]
        have hr1 : AllocR { A with s := s.set i 0 } bs sc ta tl tc ga gl gc Lt Lg := hr.set (A := { A with s := s }) i (by omega)
        refine ok_newA h1 (fun b5 S6 h6 => ?_)
        have h6' := h6.re (M := Ld ++ (C b5 [.int .i64 i] :: (blks b { A with s := s.set i 0 } bs sc ta tl tc ga gl gc Lt Lg ++ F))) (by intro p; simp only [List.countP_append, List.countP_cons, C]; omega)
        refine ok_append h6' hs (ys := ins .i64 [i]) (ins_all _ _) rfl (fun K => ?_) (by decide) (by simp [pow46]; omega) (by simp [pow46]; omega) (fun a3 l3 c3 S3 L3 ht' h3 => ?_)
        · have := RdR.first (.rw (X := X) (b := b5) (i := 0) (c := [.int .i64 i]) (cs := [.int .i64 i]) (L := _) (List.mem_append_right Ld List.mem_cons_self) (by simp) rfl) h6' (sz := 1) (n := 1) rfl (by decide) (l := 1) (c := .ex 1) K
          simpa [row] using this
        · rw [← ins_append] at ht'
          obtain rfl : l3 = (d ++ [i]).length := by have := ht'.len; simpa using this
          exact next (s.set i 0) (d ++ [i]) a3 c3 L3 S3 (by simpa using hsl) (fun j hj => by rw [List.getElem?_set_ne (by omega)]; exact h00 j (by omega)) (by rw [hdd, posTo_succ, if_pos (by rw [← h00 i (Nat.le_refl _)]; exact hyi)]) (by rw [← hR, ← lgF_step hyi]; rfl) ht' hr1 (h3.re (M := C b5 [.int .i64 i] :: (L3 ++ (blks b { A with s := s.set i 0 } bs sc ta tl tc ga gl gc Lt Lg ++ F))) (by intro p; simp only [List.countP_append, List.countP_cons, C]; omega)).drop1
      · have hy4 : y ≠ 4 := by simp only [beq_eq_false_iff_ne, ne_eq] at hy; omega
        exact next s d a c Ld S hsl (fun j hj => h00 j (by omega)) (by rw [hdd, posTo_succ, if_neg (by rw [← h00 i (Nat.le_refl _), hyi]; simpa using hy4), List.append_nil]) (by rw [lgF_same hyi hy4]; exact hR) hs hr h
    · simp only [decide_eq_false_iff_not] at hc
      obtain rfl : i = N := by omega
      rw [← hsl, lgF_end] at hR
      subst hR
      subst hsl hdd
      exact ok_ret ⟨a, c, Ld, _, rfl, hs, ⟨bs, sc, ta, tl, tc, ga, gl, gc, Lt, Lg, hr, rfl⟩, h⟩

theorem letgoS (n : Nat) (hn : 70000 < n) (h : Hp X S (L ++ F)) (ha : Alloc b A L) (hh : A.h < 1000000) : Ok (ev (n + 2) (.fn 34) [.ptr (some (.rw b, 0))] S) (LetS X F b (if A.h = 1 then posn 4 A.s else []) A.letgo) := by
  have ha0 := ha
  obtain ⟨bs, sc, ta, tl, tc, ga, gl, gc, Lt, Lg, hr, rfl⟩ := ha
  have hn2 := hr.n2
  rw [ev, F34 _ _ _ (oL rfl)]
  simp only [J34, b34_entry]
  refine ok_false rfl (ok_gO (ok_ldI h rfl (ok_cond (fun hc => ?_) (fun hc => ?_))))
  · have h0 : A.h = 0 := by simp only [beq_iff_eq] at hc; omega
    have e : A.letgo = A := by unfold AM.letgo; rw [if_pos h0]
    exact ok_ret ⟨none, .ex 0, [], _, by rw [if_neg (by omega)]; rfl, by rw [if_neg (by omega)]; exact .nil, by rw [e]; exact ha0, h⟩
  · have h0 : A.h ≠ 0 := by simp only [beq_eq_false_iff_ne, ne_eq] at hc; omega
    refine ok_gO (ok_ldI h rfl ?_)
    refine setH_ok (r := A.h - 1) (by rw [wrap64 (by omega) (by omega)]; omega) hr h (fun S1 ha1 h1 => ok_gO (ok_ldI h1 rfl (ok_cond (fun hc => ?_) (fun hc => ?_))))
    · simp only [gt_iff_lt, decide_eq_true_eq] at hc
      have e : A.letgo = { A with h := A.h - 1 } := by unfold AM.letgo; rw [if_neg h0, if_pos (by omega)]
      exact ok_ret ⟨none, .ex 0, [], _, by rw [if_neg (by omega)]; rfl, by rw [if_neg (by omega)]; exact .nil, by rw [e]; exact ha1, h1⟩
    · simp only [gt_iff_lt, decide_eq_false_iff_not] at hc
      have e : A.letgo = { A with h := A.h - 1, s := A.s.map AM.lg } := by unfold AM.letgo; rw [if_neg h0, if_neg (by omega), show A.h - 1 = 0 by omega]
      rw [e, if_pos (by omega)]
      refine ok_gO (ok_ldL h1 rfl ?_)
      exact letgoS_loop (A := { A with h := A.h - 1 }) (n + 1) n hn2 (by simp) (n + 1) (s0 := A.s) 0 A.s [] none (.ex 0) [] S1 rfl (by omega) (by omega) (fun _ _ => rfl) rfl (lgF_zero _) .nil ⟨hr.n1, hr.n2, hr.st, hr.hc, hr.ht, hr.hg⟩ h1

abbrev RunsS (X : Cx) (F : List Ent) (rows : List (Int × Int)) : AV → AS → Prop := fun v S' => ∃ (a : Option Pos) (c : Cap) (Ld : List Ent), v = .sl a rows.length c ∧ SlR a rows.length c 2 (rows.map arow) Ld ∧ Hp X S' (Ld ++ F)

theorem runsS_loop (n0 : Nat) (call : CallA) {s : List Nat} {b bs : Nat} {sc : Cap} {hd : List AV} (h6 : s.length ≤ 65536) (hd0 : hd[0]? = some (.sl (some (.rw bs, 0)) s.length sc)) :
    ∀ (m i : Nat) (rows : List (Int × Int)) (a : Option Pos) (c : Cap) (Ld : List Ent) (S : AS), i ≤ s.length → s.length - i < m → rows = runsTo s i → SlR a rows.length c 2 (rows.map arow) Ld → Hp X S (Ld ++ (C b hd :: C bs (row .u8 s) :: F)) →
      Ok (J28_l1_1_0_1_0 call n0 m (some (.rw b, 0)) a rows.length c (some (.rw bs, 0)) s.length sc s.length i S) (RunsS X (C b hd :: C bs (row .u8 s) :: F) (runsTo s s.length))
  | 0, i, rows, a, c, Ld, S, hi, hm, hrw, hs, h => by omega
  | m + 1, i, rows, a, c, Ld, S, hi, hm, hrw, hs, h => by
    rw [J28_l1_1_0_1_0_succ]
    simp only [b28_l1_1_0_1_0]
    refine ok_cond (fun hc => ?_) (fun hc => ?_)
    · simp only [decide_eq_true_eq] at hc
      have hlt : i < s.length := by omega
      obtain ⟨y, hy⟩ : ∃ y, s[i]? = some y := ⟨_, List.getElem?_eq_getElem hlt⟩
      have htk : s.take (i + 1) = s.take i ++ [y] := by rw [List.take_add_one, hy]; rfl
      have next : ∀ (rows : List (Int × Int)) (a : Option Pos) (c : Cap) (Ld : List Ent) (S : AS), rows = runsTo s (i + 1) → SlR a rows.length c 2 (rows.map arow) Ld → Hp X S (Ld ++ (C b hd :: C bs (row .u8 s) :: F)) →
          Ok (J28_j1_1_0_1_0_0_1_1_1 call n0 (J28_l1_1_0_1_0 call n0 m) (some (.rw b, 0)) a rows.length c (some (.rw bs, 0)) s.length sc s.length i S) (RunsS X (C b hd :: C bs (row .u8 s) :: F) (runsTo s s.length)) := by
        intro rows a c Ld S e1 e5 e6
        simp only [J28_j1_1_0_1_0_0_1_1_1, b28_j1_1_0_1_0_0_1_1_1]
        rw [wn (x := (i : Int) + 1) (n := i + 1) (by omega) (by omega)]
        exact runsS_loop n0 call h6 hd0 m (i + 1) rows a c Ld S (by omega) (by omega) e1 e5 e6
      refine ok_ixSl (k := i) rfl hlt ?_
      simp only [Nat.zero_add, Nat.mul_one]
      refine ok_ldI h (row_at hy) ?_
      refine ok_cond (fun hy0 => ?_) (fun hy0 => ?_)
      · have hy0 : y ≠ 0 := by simp only [bne_iff_ne, ne_eq] at hy0; omega
        exact next rows a c Ld S (by rw [hrw, runsTo_ne (by rw [hy]; simpa using hy0)]) hs h
      have hy0 : y = 0 := by simp only [bne_eq_false_iff_eq] at hy0; omega
      subst hy0
      have hb : ∀ z ∈ rows, 0 ≤ z.2 ∧ z.2 ≤ i := by rw [hrw]; exact runsTo_b s i
      have hrl : rows.length ≤ i := by rw [hrw]; exact runsTo_len s i
      have app : ¬ (0 < i ∧ s[i - 1]? = some 0) → Ok (newA S (.cells [.int .i64 i, .int .i64 1]) fun b15 S16 => appendA 2 16 S16 a rows.length c 1 (firstA S16 2 1 (.sl (some (.rw b15, 0)) 1 (.ex 1))) fun v17a v17l v17c S18 => J28_j1_1_0_1_0_0_1_1_1 call n0 (J28_l1_1_0_1_0 call n0 m) (some (.rw b, 0)) v17a v17l v17c (some (.rw bs, 0)) s.length sc s.length i S18) (RunsS X (C b hd :: C bs (row .u8 s) :: F) (runsTo s s.length)) := by
        intro hst
        refine ok_newA h (fun b5 S6 h6' => ?_)
        have h7 := h6'.re (M := Ld ++ (C b5 [.int .i64 i, .int .i64 1] :: (C b hd :: C bs (row .u8 s) :: F))) (by intro p; simp only [List.countP_append, List.countP_cons, C]; omega)
        refine ok_append h7 hs (ys := [arow ((i : Int), 1)]) (by simp [arow]) rfl (fun K => ?_) (by decide) (by simp [pow46]; omega) (by simp [pow46]; omega) (fun a3 l3 c3 S3 L3 ht' h3 => ?_)
        · have := RdR.first (.rw (X := X) (b := b5) (i := 0) (c := [.int .i64 i, .int .i64 1]) (cs := [.int .i64 i, .int .i64 1]) (L := _) (List.mem_append_right Ld List.mem_cons_self) (by simp) rfl) h7 (sz := 2) (n := 1) rfl (by decide) (l := 1) (c := .ex 1) K
          simpa [arow] using this
        · have e : rows.map arow ++ [arow ((i : Int), 1)] = (rows ++ [((i : Int), 1)]).map arow := by simp
          rw [e] at ht'
          obtain rfl : l3 = (rows ++ [((i : Int), (1 : Int))]).length := by have := ht'.len; simpa using this
          exact next (rows ++ [((i : Int), 1)]) a3 c3 L3 S3 (by rw [runsTo_new hy hst, hrw]) ht' (h3.re (M := C b5 [.int .i64 i, .int .i64 1] :: (L3 ++ (C b hd :: C bs (row .u8 s) :: F))) (by intro p; simp only [List.countP_append, List.countP_cons, C]; omega)).drop1
      refine ok_cond (fun hp => ?_) (fun hp => app (fun e => by simp only [gt_iff_lt, decide_eq_false_iff_not] at hp; omega))
      simp only [gt_iff_lt, decide_eq_true_eq] at hp
      obtain ⟨z, hz⟩ : ∃ z, s[i - 1]? = some z := ⟨_, List.getElem?_eq_getElem (by omega)⟩
      refine ok_gO (ok_ldL h hd0 ?_)
      refine ok_ixSl (k := i - 1) (by rw [wrap64 (by omega) (by omega)]; omega) (by omega) ?_
      simp only [Nat.zero_add, Nat.mul_one]
      refine ok_ldI h (row_at hz) ?_
      refine ok_cond (fun hz0 => ?_) (fun hz0 => app (fun e => by rw [hz] at e; simp only [beq_eq_false_iff_ne, ne_eq] at hz0; simp only [Option.some.injEq] at e; omega))
      have hz0 : z = 0 := by simp only [beq_iff_eq] at hz0; omega
      subst hz0
      have hnil : rows ≠ [] := by rw [hrw]; exact runsTo_nil (by omega) hz
      obtain ⟨init, w, hiw⟩ : ∃ init w, rows = init ++ [w] := ⟨rows.dropLast, rows.getLast hnil, (List.dropLast_concat_getLast hnil).symm⟩
      have hnew : init ++ [(w.1, w.2 + 1)] = runsTo s (i + 1) := by rw [runsTo_inc hy (by omega) hz, ← hrw, hiw, incLast_snoc]
      subst hiw
      have hw := hb w (by simp)
      rcases hs.dest with ⟨_, _, _, h4, _⟩ | ⟨bt, rfl, _, hcc, rfl, _⟩
      · simp at h4
      have hlast : ((init ++ [w]).map arow)[init.length]? = some (arow w) := by simp
      have hlen : ((init ++ [w]).length : Int) - 1 = (init.length : Nat) := by simp
      have hwr : IntKind.wrap .i64 (((init ++ [w]).length : Nat) - 1 : Int) = (init.length : Nat) := by
        rw [hlen]; exact wn rfl (by simp at hrl; omega)
      refine ok_ixSl (k := init.length) hwr (by simp) ?_
      refine ok_ixArr (k := 1) rfl (by omega) ?_
      refine ok_ldI h (by have := flat_get (j := 1) (arow_all _) hlast (by omega); simpa [arow] using this) ?_
      refine ok_ixSl (k := init.length) hwr (by simp) (ok_ixArr (k := 1) rfl (by omega) ?_)
      rw [wrap64 (n := w.2 + 1) (by omega) (by omega)]
      have hfl : ((init ++ [w]).map arow).flatten.length = (init.length + 1) * 2 := by rw [flat_len (arow_all _)]; simp
      refine ok_stn h (by rw [hfl]; simp; omega) (d := ((init ++ [(w.1, w.2 + 1)]).map arow).flatten) ?_ (fun S2 h2 => ?_)
      · have := flat_splice_in (j := 1) (vs := [AV.int .i64 (w.2 + 1)]) (arow_all _) hlast (by simp)
        simp only [Nat.zero_add, Nat.mul_one]
        rw [this]
        congr 1
        simp [arow, splice]
      · have hl2 : (init ++ [w]).length = (init ++ [(w.1, w.2 + 1)]).length := by simp
        rw [hl2]
        exact next (init ++ [(w.1, w.2 + 1)]) _ c [C bt ((init ++ [(w.1, w.2 + 1)]).map arow).flatten] S2 hnew (.of (arow_all _) (by simp) (by simpa using hcc)) h2
    · simp only [decide_eq_false_iff_not] at hc
      obtain rfl : i = s.length := by omega
      subst hrw
      exact ok_ret ⟨a, c, Ld, rfl, hs, h⟩

theorem runsS (n : Nat) (hn : 70000 < n) (h : Hp X S (L ++ F)) (ha : Alloc b A L) : Ok (ev (n + 1) (.fn 28) [.ptr (some (.rw b, 0))] S) (RunsS X (L ++ F) (runsTo A.s A.s.length)) := by
  obtain ⟨bs, sc, ta, tl, tc, ga, gl, gc, Lt, Lg, hr, rfl⟩ := ha
  have hn2 := hr.n2
  rw [ev, F28 _ _ _ (oL rfl)]
  simp only [J28, b28_entry]
  refine ok_false rfl (ok_gO (ok_ldL h rfl ?_))
  exact runsS_loop n (evF E orcL n) hn2 rfl n 0 [] none (.ex 0) [] S (by omega) (by omega) rfl .nil h

theorem clone8_ok (n : Nat) (h : Hp X S L) {t : List Nat} {a : Option Pos} {c : Cap} (hr : RdR X L a (row .u8 t)) (hl : t.length ≤ 65536) : Ok (ev (n + 1) (.fn 61) [.sl a t.length c] S) fun v S' => ∃ (a' : Option Pos) (c' : Cap) (Ld : List Ent), v = .sl a' t.length c' ∧ SlR a' t.length c' 1 (ins .u8 t) Ld ∧ Hp X S' (Ld ++ L) := by
  rw [ev, F61 _ _ _ _ _ (oL rfl)]
  simp only [J61, b61_entry]
  refine ok_clone h (xs := ins .u8 t) (by rw [ins_flat]; exact hr) (ins_all _ _) (by simp) (by decide) (by simp [pow46]; omega) (by simp [pow46]; omega) rfl (fun a l c S' L' hs h' => ?_)
  obtain rfl : l = t.length := by have := hs.len; simpa using this
  exact ⟨a, c, L', rfl, hs, h'⟩

theorem copyS (n : Nat) (h : Hp X S (L ++ F)) (ha : Alloc b A L) (ht : A.t.length ≤ 65536) (hg : A.g.length ≤ 65536) : Ok (ev (n + 2) (.fn 37) [.ptr (some (.rw b, 0))] S) fun v S' => ∃ (b' : Nat) (L' : List Ent), v = .ptr (some (.rw b', 0)) ∧ Alloc b' A L' ∧ Hp X S' (L' ++ (L ++ F)) := by
  obtain ⟨bs, sc, ta, tl, tc, ga, gl, gc, Lt, Lg, hr, rfl⟩ := ha
  have htl : tl = A.t.length := by have := hr.ht.len; simpa using this
  have hgl : gl = A.g.length := by have := hr.hg.len; simpa using this
  subst htl hgl
  rw [ev, F37 _ _ _ (oL rfl)]
  simp only [J37, b37_entry]
  refine ok_false rfl (ok_gO (ok_ldn h (by simp [hdr]) (d := hdr A (some (.rw bs, 0)) A.s.length sc ta A.t.length tc ga A.g.length gc) (by simp [hdr]) (ok_newA h (fun b3 S4 h4 => ok_ifO rfl ?_))))
  refine ok_stn h4 (by simp [hdr]) (d := hdr A (some (.rw bs, 0)) A.s.length sc ta A.t.length tc ga A.g.length gc) (by simp [hdr, splice]) (fun S5 h5 => ok_gO (ok_ldL h5 rfl ?_))
  have rds : RdR X ((C b3 (hdr A (some (.rw bs, 0)) A.s.length sc ta A.t.length tc ga A.g.length gc) :: blks b A bs sc ta A.t.length tc ga A.g.length gc Lt Lg) ++ F) (some (.rw bs, 0)) (row .u8 A.s) := .rw (c := row .u8 A.s) (by simp) (by simp) (by rw [List.drop_zero, List.take_length])
  obtain ⟨v, S8, e, a9, c9, L9, rfl, hs9, h8⟩ := clone8_ok n (c := sc) h5 rds hr.n2
  rw [callL_of e]
  refine ok_gO (ok_ldL h8 rfl (ok_ldL h5 rfl (ok_true (by simp [AV.beq]) ?_)))
  have rdt := hr.ht.rd (X := X) (M := L9 ++ ((C b3 (hdr A (some (.rw bs, 0)) A.s.length sc ta A.t.length tc ga A.g.length gc) :: blks b A bs sc ta A.t.length tc ga A.g.length gc Lt Lg) ++ F)) (by intro e he; simp [he])
  rw [ins_flat] at rdt
  obtain ⟨v, S13, e, a14, c14, L14, rfl, hs14, h13⟩ := clone_ok n (c := tc) h8 rdt ht
  rw [callL_of e]
  refine ok_gO (ok_ldL h13 rfl (ok_ldL h8 rfl (ok_true (by simp [AV.beq]) (ok_ldL h5 rfl (ok_true (by simp [AV.beq]) ?_)))))
  have rdg := hr.hg.rd (X := X) (M := L14 ++ (L9 ++ ((C b3 (hdr A (some (.rw bs, 0)) A.s.length sc ta A.t.length tc ga A.g.length gc) :: blks b A bs sc ta A.t.length tc ga A.g.length gc Lt Lg) ++ F))) (by intro e he; simp [he])
  rw [ins_flat] at rdg
  obtain ⟨v, S19, e, a20, c20, L20, rfl, hs20, h19⟩ := clone_ok n (c := gc) h13 rdg hg
  rw [callL_of e]
  refine ok_stn h19 (by simp [hdr]) (d := hdr A a9 A.s.length c9 ta A.t.length tc ga A.g.length gc) (by simp [hdr, splice]) (fun S21 h21 => ?_)
  refine ok_stn h21 (by simp [hdr]) (d := hdr A a9 A.s.length c9 a14 A.t.length c14 ga A.g.length gc) (by simp [hdr, splice]) (fun S22 h22 => ?_)
  refine ok_stn h22 (by simp [hdr]) (d := hdr A a9 A.s.length c9 a14 A.t.length c14 a20 A.g.length c20) (by simp [hdr, splice]) (fun S23 h23 => ?_)
  have h1 := hr.n1
  rcases hs9.dest with ⟨_, h0, _⟩ | ⟨bt, rfl, _, hc9, rfl, _⟩
  · omega
  · rw [ins_flat] at h23
    refine ok_ret ⟨b3, _, rfl, ⟨bt, c9, a14, A.t.length, c14, a20, A.g.length, c20, L14, L20, ⟨hr.n1, hr.n2, hr.st, by simpa using hc9, hs14.g, hs20.g⟩, rfl⟩, h23.re ?_⟩
    intro p
    simp only [blks, List.countP_append, List.countP_cons, List.cons_append, List.countP_nil, List.nil_append, C]
    omega

end

end Go.Al

namespace Go.Al
open Go.Gr

structure RfR (A : AM) (ta : Option Pos) (tl : Nat) (tc : Cap) (ga : Option Pos) (gl : Nat) (gc : Cap) (Lt Lg : List Ent) : Prop where
  n2 : A.s.length ≤ 65536
  tM : A.t.length ≤ 65000
  gM : A.g.length ≤ 65000
  ht : SlR ta tl tc 1 (ins .i64 A.t) Lt
  hg : SlR ga gl gc 1 (ins .i64 A.g) Lg

def fhdr (A : AM) (bs : Nat) (ta : Option Pos) (tl : Nat) (tc : Cap) (ga : Option Pos) (gl : Nat) (gc : Cap) : List AV :=
  [.sl (some (.rw bs, 0)) A.s.length (.ex A.s.length), .sl ta tl tc, .sl ga gl gc, .int .i64 A.r, .int .i64 A.h]

abbrev fblks (b : Nat) (A : AM) (bs : Nat) (ta : Option Pos) (tl : Nat) (tc : Cap) (ga : Option Pos) (gl : Nat) (gc : Cap) (Lt Lg : List Ent) : List Ent :=
  C b (fhdr A bs ta tl tc ga gl gc) :: C bs (row .i64 A.s) :: (Lt ++ Lg)

/-- The document's allocator with just these states, lists and numbers. -/
def Rf (b : Nat) (A : AM) (L : List Ent) : Prop := ∃ bs ta tl tc ga gl gc Lt Lg, RfR A ta tl tc ga gl gc Lt Lg ∧ L = fblks b A bs ta tl tc ga gl gc Lt Lg

section
variable {X : Cx} {S : AS} {L F : List Ent} {b : Nat} {A : AM} {Q : AV → AS → Prop}

theorem fnew_ok (n : Nat) (h : Hp X S F) (x : Int) : Ok (ev (n + 1) (.fn 41) [.int .i64 x] S) fun v S' =>
    (¬ right x ∧ v = .tup [.ptr none, .int .i64 2] ∧ S' = S) ∨ (right x ∧ ∃ b L, v = .tup [.ptr (some (.rw b, 0)), .int .i64 0] ∧ Rf b ⟨List.replicate x.toNat 0, [], [], 0, 0⟩ L ∧ Hp X S' (L ++ F)) := by
  rw [ev, F41 _ _ _ (oL rfl)]
  simp only [J41, b41_entry]
  refine ok_cond (fun hc => ok_ret (.inl ⟨?_, rfl, rfl⟩)) (fun hc => ok_cond (fun hc2 => ok_ret (.inl ⟨?_, rfl, rfl⟩)) (fun hc2 => ?_))
  · simp only [decide_eq_true_eq] at hc
    unfold right; omega
  · simp only [gt_iff_lt, decide_eq_true_eq] at hc2
    unfold right; omega
  simp only [gt_iff_lt, decide_eq_false_iff_not] at hc hc2
  obtain ⟨k, rfl⟩ : ∃ k : Nat, x = (k : Int) := ⟨x.toNat, by omega⟩
  refine ok_mkSl (l := k) (c := k) rfl rfl (Nat.le_refl _) (by simp [pow46]; omega) (by simp [pow46]; omega) ?_
  refine ok_newA h (fun b1 S1 h => ok_newA h (fun b2 S2 h => ok_ret (.inr ⟨by unfold right; omega, b2, _, rfl, ⟨b1, none, 0, .ex 0, none, 0, .ex 0, [], [], ⟨by simp; omega, by simp, by simp, .nil, .nil⟩, rfl⟩, ?_⟩)))
  have e : zeros k [AV.int .i64 0] = row .i64 (List.replicate k 0) := by simp [zeros, row]
  rw [e] at h
  simpa [fblks, fhdr] using h

theorem fin_eq (n : Nat) (h : Hp X S (L ++ F)) (hr : Rf b A L) (x : Int) : ev (n + 1) (.fn 65) [.ptr (some (.rw b, 0)), .int .i64 x] S = some (.bool (decide (0 ≤ x) && decide (x < A.s.length)), S) := by
  obtain ⟨bs, ta, tl, tc, ga, gl, gc, Lt, Lg, hr, rfl⟩ := hr
  apply ok_eq
  rw [ev, F65 _ _ _ _ (oL rfl)]
  simp only [J65, b65_entry]
  refine ok_cond (fun hc => ok_gO (ok_ldL h rfl (ok_ret ⟨?_, rfl⟩))) (fun hc => ok_ret ⟨?_, rfl⟩)
  · simp only [ge_iff_le, decide_eq_true_eq] at hc
    simp [hc]
  · simp only [ge_iff_le, decide_eq_false_iff_not] at hc
    simp [hc]

theorem fcount_loop (n0 : Nat) (call : CallA) {bs : Nat} {ta : Option Pos} {tl : Nat} {tc : Cap} {ga : Option Pos} {gl : Nat} {gc : Cap} {Lt Lg : List Ent} (hr : RfR A ta tl tc ga gl gc Lt Lg) (h : Hp X S (fblks b A bs ta tl tc ga gl gc Lt Lg ++ F)) (x : Nat) : ∀ (m i : Nat), i ≤ A.s.length → A.s.length - i < m → J56_l1_1_0_1_0 call n0 m (some (.rw b, 0)) (x : Nat) (((A.s.take i).count x : Nat) : Int) i S = some (.int .i64 (A.s.count x : Nat), S)
  | 0, i, hi, hm => by omega
  | m + 1, i, hi, hm => by
    have hn2 := hr.n2
    apply ok_eq
    rw [J56_l1_1_0_1_0_succ]
    simp only [b56_l1_1_0_1_0]
    refine ok_gO (ok_ldL h rfl (ok_cond (fun hc => ?_) (fun hc => ok_ret ⟨?_, rfl⟩)))
    · simp only [decide_eq_true_eq] at hc
      have hlt : i < A.s.length := by omega
      obtain ⟨y, hy⟩ : ∃ y, A.s[i]? = some y := ⟨_, List.getElem?_eq_getElem hlt⟩
      have htk : A.s.take (i + 1) = A.s.take i ++ [y] := by rw [List.take_add_one, hy]; rfl
      have hct : (A.s.take i).count x ≤ (A.s.take i).length := List.count_le_length
      rw [List.length_take] at hct
      refine ok_gO (ok_ldL h rfl (ok_ixSl (k := i) rfl hlt ?_))
      simp only [Nat.zero_add, Nat.mul_one]
      refine ok_ldI h (row_at hy) ?_
      rw [wn (x := (i : Int) + 1) (n := i + 1) (by omega) (by omega)]
      have ih := fcount_loop n0 call hr h x m (i + 1) (by omega) (by omega)
      rw [htk, List.count_append, List.count_singleton] at ih
      refine ok_cond (fun he => ?_) (fun he => ?_)
      · have he : y = x := by simp only [beq_iff_eq] at he; omega
        rw [wn (x := (((A.s.take i).count x : Nat) : Int) + 1) (n := (A.s.take i).count x + 1) (by omega) (by omega)]
        simp only [he, beq_self_eq_true, if_true] at ih
        rw [ih]; exact ok_ret ⟨rfl, rfl⟩
      · have he : y ≠ x := by simp only [beq_eq_false_iff_ne, ne_eq] at he; omega
        simp only [beq_iff_eq, he, if_false, Nat.add_zero] at ih
        rw [ih]; exact ok_ret ⟨rfl, rfl⟩
    · simp only [decide_eq_false_iff_not] at hc
      rw [List.take_of_length_le (by omega)]

theorem fcount_eq (n : Nat) (hn : 70000 < n) (h : Hp X S (L ++ F)) (hr : Rf b A L) (x : Nat) {xi : Int} (hx : xi = x) : ev (n + 1) (.fn 56) [.ptr (some (.rw b, 0)), .int .i64 xi] S = some (.int .i64 (A.s.count x : Nat), S) := by
  subst hx
  obtain ⟨bs, ta, tl, tc, ga, gl, gc, Lt, Lg, hr, rfl⟩ := hr
  have hn2 := hr.n2
  rw [ev, F56 _ _ _ _ (oL rfl)]
  simp only [J56, b56_entry]
  exact fcount_loop n (evF E orcL n) hr h x n 0 (by omega) (by omega)

/-- A state turned. -/
theorem fput_ok {bs : Nat} {ta : Option Pos} {tl : Nat} {tc : Cap} {ga : Option Pos} {gl : Nat} {gc : Cap} {Lt Lg : List Ent} {i v : Nat} {xi vi : Int} {K : AS → Option (AV × AS)} (hx : xi = i) (hv : vi = v) (hi : i < A.s.length)
    (hr : RfR A ta tl tc ga gl gc Lt Lg) (h : Hp X S (fblks b A bs ta tl tc ga gl gc Lt Lg ++ F))
    (ht : ∀ S', RfR { A with s := A.s.set i v } ta tl tc ga gl gc Lt Lg → Hp X S' (fblks b { A with s := A.s.set i v } bs ta tl tc ga gl gc Lt Lg ++ F) → Ok (K S') Q) :
    Ok (gO (some (.rw b, 0)) fun p => ldL S p.1 p.2 fun va vl vc => ixSl 1 va vl xi fun p => S.stn p.1 p.2 [.int .i64 vi] K) Q := by
  subst hv
  refine ok_gO (ok_ldL h rfl (ok_ixSl (k := i) hx hi ?_))
  simp only [Nat.zero_add, Nat.mul_one]
  refine ok_stn h (by simp; omega) (d := row .i64 (A.s.set i v)) (row_splice v hi) (fun S1 h1 => ht S1 ⟨by simpa using hr.n2, hr.tM, hr.gM, hr.ht, hr.hg⟩ ?_)
  simpa [fblks, fhdr] using h1

theorem fpushT_ok {bs : Nat} {ta : Option Pos} {tl : Nat} {tc : Cap} {ga : Option Pos} {gl : Nat} {gc : Cap} {Lt Lg : List Ent} {v : Nat} {vi : Int} {K : AS → Option (AV × AS)} (hv : vi = v) (hM : A.t.length < 65000)
    (hr : RfR A ta tl tc ga gl gc Lt Lg) (h : Hp X S (fblks b A bs ta tl tc ga gl gc Lt Lg ++ F))
    (ht : ∀ S' L', Rf b { A with t := A.t ++ [v] } L' → Hp X S' (L' ++ F) → Ok (K S') Q) :
    Ok (newA S (.cells [.int .i64 vi]) fun b2 S2 => appendA 1 8 S2 ta tl tc 1 (firstA S2 1 1 (.sl (some (.rw b2, 0)) 1 (.ex 1))) fun a l c S3 => gO (some (.rw b, 0)) fun p => S3.stn p.1 (p.2 + 1) [.sl a l c] K) Q := by
  subst hv
  refine ok_newA h (fun b2 S2 h2 => ?_)
  have h2' := h2.re (M := Lt ++ (C b2 [.int .i64 v] :: C b (fhdr A bs ta tl tc ga gl gc) :: C bs (row .i64 A.s) :: (Lg ++ F))) (by intro p; simp only [fblks, List.countP_append, List.countP_cons, List.cons_append, C]; omega)
  refine ok_append h2' hr.ht (ys := ins .i64 [v]) (ins_all _ _) rfl (fun K => ?_) (by decide) (by simp [pow46]; omega) (by simp [pow46]; omega) (fun a l c S3 Lt' ht' h3 => ?_)
  · have := RdR.first (.rw (X := X) (b := b2) (i := 0) (c := [.int .i64 v]) (cs := [.int .i64 v]) (L := _) (List.mem_append_right Lt List.mem_cons_self) (by simp) rfl) h2' (sz := 1) (n := 1) rfl (by decide) (l := 1) (c := .ex 1) K
    simpa [row] using this
  · rw [← ins_append] at ht'
    refine ok_gO (ok_stn h3 (by simp [fhdr]) (d := fhdr { A with t := A.t ++ [v] } bs a l c ga gl gc) (by simp [fhdr, splice]) (fun S4 h4 => ht S4 _ ⟨bs, a, l, c, ga, gl, gc, Lt', Lg, ⟨hr.n2, by simp; omega, hr.gM, ht', hr.hg⟩, rfl⟩ ?_))
    exact (h4.re (M := C b2 [.int .i64 v] :: (fblks b { A with t := A.t ++ [v] } bs a l c ga gl gc Lt' Lg ++ F)) (by intro p; simp only [fblks, List.countP_append, List.countP_cons, List.cons_append, C]; omega)).drop1
theorem fpushG_ok {bs : Nat} {ta : Option Pos} {tl : Nat} {tc : Cap} {ga : Option Pos} {gl : Nat} {gc : Cap} {Lt Lg : List Ent} {v : Nat} {vi : Int} {K : AS → Option (AV × AS)} (hv : vi = v) (hM : A.g.length < 65000)
    (hr : RfR A ta tl tc ga gl gc Lt Lg) (h : Hp X S (fblks b A bs ta tl tc ga gl gc Lt Lg ++ F))
    (ht : ∀ S' L', Rf b { A with g := A.g ++ [v] } L' → Hp X S' (L' ++ F) → Ok (K S') Q) :
    Ok (newA S (.cells [.int .i64 vi]) fun b2 S2 => appendA 1 8 S2 ga gl gc 1 (firstA S2 1 1 (.sl (some (.rw b2, 0)) 1 (.ex 1))) fun a l c S3 => gO (some (.rw b, 0)) fun p => S3.stn p.1 (p.2 + 2) [.sl a l c] K) Q := by
  subst hv
  refine ok_newA h (fun b2 S2 h2 => ?_)
  have h2' := h2.re (M := Lg ++ (C b2 [.int .i64 v] :: C b (fhdr A bs ta tl tc ga gl gc) :: C bs (row .i64 A.s) :: (Lt ++ F))) (by intro p; simp only [fblks, List.countP_append, List.countP_cons, List.cons_append, C]; omega)
  refine ok_append h2' hr.hg (ys := ins .i64 [v]) (ins_all _ _) rfl (fun K => ?_) (by decide) (by simp [pow46]; omega) (by simp [pow46]; omega) (fun a l c S3 Lg' ht' h3 => ?_)
  · have := RdR.first (.rw (X := X) (b := b2) (i := 0) (c := [.int .i64 v]) (cs := [.int .i64 v]) (L := _) (List.mem_append_right Lg List.mem_cons_self) (by simp) rfl) h2' (sz := 1) (n := 1) rfl (by decide) (l := 1) (c := .ex 1) K
    simpa [row] using this
  · rw [← ins_append] at ht'
    refine ok_gO (ok_stn h3 (by simp [fhdr]) (d := fhdr { A with g := A.g ++ [v] } bs ta tl tc a l c) (by simp [fhdr, splice]) (fun S4 h4 => ht S4 _ ⟨bs, ta, tl, tc, a, l, c, Lt, Lg', ⟨hr.n2, hr.tM, by simp; omega, hr.ht, ht'⟩, rfl⟩ ?_))
    exact (h4.re (M := C b2 [.int .i64 v] :: (fblks b { A with g := A.g ++ [v] } bs ta tl tc a l c Lt Lg' ++ F)) (by intro p; simp only [fblks, List.countP_append, List.countP_cons, List.cons_append, C]; omega)).drop1

theorem fsetR_ok (hr : Rf b A L) (h : Hp X S (L ++ F)) {r : Nat} {v : Int} (hv : v = r) {K : AS → Option (AV × AS)} (ht : ∀ S' L', Rf b { A with r := r } L' → Hp X S' (L' ++ F) → Ok (K S') Q) :
    Ok (gO (some (.rw b, 0)) fun p => S.stn p.1 (p.2 + 3) [.int .i64 v] K) Q := by
  subst hv
  obtain ⟨bs, ta, tl, tc, ga, gl, gc, Lt, Lg, hr, rfl⟩ := hr
  exact ok_gO (ok_stn h (by simp [fhdr]) (d := fhdr { A with r := r } bs ta tl tc ga gl gc) (by simp [fhdr, splice]) (fun S1 h1 => ht S1 _ ⟨bs, ta, tl, tc, ga, gl, gc, Lt, Lg, ⟨hr.n2, hr.tM, hr.gM, hr.ht, hr.hg⟩, rfl⟩ h1))
theorem fsetH_ok (hr : Rf b A L) (h : Hp X S (L ++ F)) {r : Nat} {v : Int} (hv : v = r) {K : AS → Option (AV × AS)} (ht : ∀ S' L', Rf b { A with h := r } L' → Hp X S' (L' ++ F) → Ok (K S') Q) :
    Ok (gO (some (.rw b, 0)) fun p => S.stn p.1 (p.2 + 4) [.int .i64 v] K) Q := by
  subst hv
  obtain ⟨bs, ta, tl, tc, ga, gl, gc, Lt, Lg, hr, rfl⟩ := hr
  exact ok_gO (ok_stn h (by simp [fhdr]) (d := fhdr { A with h := r } bs ta tl tc ga gl gc) (by simp [fhdr, splice]) (fun S1 h1 => ht S1 _ ⟨bs, ta, tl, tc, ga, gl, gc, Lt, Lg, ⟨hr.n2, hr.tM, hr.gM, hr.ht, hr.hg⟩, rfl⟩ h1))
theorem fldR_ok (hr : Rf b A L) (h : Hp X S (L ++ F)) {K : Int → Option (AV × AS)} (ht : Ok (K (A.r : Nat)) Q) : Ok (gO (some (.rw b, 0)) fun p => ldI .i64 S p.1 (p.2 + 3) K) Q := by
  obtain ⟨bs, ta, tl, tc, ga, gl, gc, Lt, Lg, hr, rfl⟩ := hr
  exact ok_gO (ok_ldI h rfl ht)
theorem fldH_ok (hr : Rf b A L) (h : Hp X S (L ++ F)) {K : Int → Option (AV × AS)} (ht : Ok (K (A.h : Nat)) Q) : Ok (gO (some (.rw b, 0)) fun p => ldI .i64 S p.1 (p.2 + 4) K) Q := by
  obtain ⟨bs, ta, tl, tc, ga, gl, gc, Lt, Lg, hr, rfl⟩ := hr
  exact ok_gO (ok_ldI h rfl ht)

abbrev F1 (X : Cx) (F : List Ent) (b : Nat) (A : AM) (k : Int) : AV → AS → Prop := fun v S' => ∃ (L' : List Ent), v = .int .i64 k ∧ Rf b A L' ∧ Hp X S' (L' ++ F)
abbrev F2 (X : Cx) (F : List Ent) (b : Nat) (A : AM) (k j : Int) : AV → AS → Prop := fun v S' => ∃ (L' : List Ent), v = .tup [.int .i64 k, .int .i64 j] ∧ Rf b A L' ∧ Hp X S' (L' ++ F)

/-- Which block is the first free one from a place on. -/
theorem AM.next_of {A : AM} {x k : Nat} (hx : x < A.s.length) (hk : A.s[k]? = some 0) (h : (x ≤ k ∧ ∀ j, x ≤ j → j < k → A.s[j]? ≠ some 0) ∨ (k < x ∧ (∀ j, x ≤ j → A.s[j]? ≠ some 0) ∧ ∀ j, j < k → A.s[j]? ≠ some 0)) : A.next x = k := by
  unfold AM.next
  rcases idxI_spec 0 (A.s.drop x) with ⟨h1, h2⟩ | ⟨i, h1, h2, h3⟩
  · rw [if_pos h1]
    have hno : ∀ j, x ≤ j → A.s[j]? ≠ some 0 := by
      intro j hj e
      apply h2
      rw [List.mem_iff_getElem?]
      exact ⟨j - x, by rw [List.getElem?_drop, show x + (j - x) = j by omega]; exact e⟩
    rcases h with ⟨h4, _⟩ | ⟨h4, _, h5⟩
    · exact absurd hk (hno k h4)
    · rcases idxI_spec 0 A.s with ⟨h6, h7⟩ | ⟨i, h6, h7, h8⟩
      · exact absurd (List.mem_of_getElem? hk) h7
      · rw [h6, Int.toNat_natCast]
        rcases Nat.lt_trichotomy i k with h9 | h9 | h9
        · exact absurd h7 (h5 i h9)
        · exact h9
        · exact absurd hk (h8 k h9)
  · rw [h1, if_neg (by omega), Int.toNat_natCast]
    rw [List.getElem?_drop] at h2
    rcases h with ⟨h4, h5⟩ | ⟨_, h5, _⟩
    · rcases Nat.lt_trichotomy (i + x) k with h9 | h9 | h9
      · exact absurd (by rw [Nat.add_comm]; exact h2) (h5 (i + x) (by omega) h9)
      · exact h9
      · have := h3 (k - x) (by omega)
        rw [List.getElem?_drop, show x + (k - x) = k by omega] at this
        exact absurd hk this
    · exact absurd h2 (h5 (x + i) (by omega))

/-- Where one looks: from a place on, and around. -/
def around (N x i : Nat) : Nat := if x + i ≥ N then x + i - N else x + i

theorem ftake_loop (n0 n : Nat) {bs : Nat} {ta : Option Pos} {tl : Nat} {tc : Cap} {ga : Option Pos} {gl : Nat} {gc : Cap} {Lt Lg : List Ent} {x : Nat} (hx : x < A.s.length) (hM : A.t.length < 65000) (h0 : 0 ∈ A.s) (hr : RfR A ta tl tc ga gl gc Lt Lg) (h : Hp X S (fblks b A bs ta tl tc ga gl gc Lt Lg ++ F)) : ∀ (m i : Nat) (w4 : AV), i ≤ A.s.length → A.s.length - i < m → (∀ j, j < i → A.s[around A.s.length x j]? ≠ some 0) → Ok (J66_l1_0_1_0 (evF E orcL n) n0 m (some (.rw b, 0)) x w4 i S) (F1 X F b (A.takes x) (A.next x))
  | 0, i, w4, hi, hm, hz => by omega
  | m + 1, i, w4, hi, hm, hz => by
    have hn2 := hr.n2
    rw [J66_l1_0_1_0_succ]
    simp only [b66_l1_0_1_0]
    refine ok_gO (ok_ldL h rfl (ok_cond (fun hc => ?_) (fun hc => ?_)))
    · simp only [decide_eq_true_eq] at hc
      refine ok_gO (ok_ldL h rfl (ok_nz (by omega) (ok_gO (ok_ldL h rfl ?_))))
      have e1 : IntKind.wrap .i64 ((x : Int) + (i : Int)) = (x + i : Nat) := wn (by omega) (by omega)
      rw [e1]
      have body : ∀ (k : Nat) (ki : Int), ki = k → k = around A.s.length x i → Ok (J66_j1_0_1_0_0_1_0_0_1_1 (evF E orcL n) n0 (J66_l1_0_1_0 (evF E orcL n) n0 m) (some (.rw b, 0)) x i ki S) (F1 X F b (A.takes x) (A.next x)) := by
        intro k ki hki hk0
        have hk : k < A.s.length := by rw [hk0]; unfold around; split <;> omega
        simp only [J66_j1_0_1_0_0_1_0_0_1_1, b66_j1_0_1_0_0_1_0_0_1_1]
        obtain ⟨y, hy⟩ : ∃ y, A.s[k]? = some y := ⟨_, List.getElem?_eq_getElem hk⟩
        refine ok_gO (ok_ldL h rfl (ok_ixSl (k := k) hki hk ?_))
        simp only [Nat.zero_add, Nat.mul_one]
        refine ok_ldI h (row_at hy) ?_
        refine ok_cond (fun he => ?_) (fun he => ?_)
        · have he : y = 0 := by simp only [beq_iff_eq] at he; omega
          subst he
          have hnx : A.next x = k := by
            refine AM.next_of hx hy ?_
            by_cases hxi : x + i ≥ A.s.length
            · have hk2 : k = x + i - A.s.length := by rw [hk0]; unfold around; rw [if_pos hxi]
              refine .inr ⟨by omega, fun j hj e => ?_, fun j hj e => ?_⟩
              · have hjl := (List.getElem?_eq_some_iff.1 e).1
                have := hz (j - x) (by omega)
                unfold around at this
                rw [if_neg (by omega), show x + (j - x) = j by omega] at this
                exact this e
              · have := hz (j + A.s.length - x) (by omega)
                unfold around at this
                rw [if_pos (by omega), show x + (j + A.s.length - x) - A.s.length = j by omega] at this
                exact this e
            · have hk2 : k = x + i := by rw [hk0]; unfold around; rw [if_neg hxi]
              refine .inl ⟨by omega, fun j hj hjk e => ?_⟩
              have := hz (j - x) (by omega)
              unfold around at this
              rw [if_neg (by omega), show x + (j - x) = j by omega] at this
              exact this e
          refine fput_ok (v := 2) (i := k) hki rfl hk hr h (fun S1 hr1 h1 => ok_gO (ok_ldL h1 rfl ?_))
          refine fpushT_ok (v := k) hki (by exact hM) hr1 h1 (fun S2 L2 hr2 h2 => ok_ret ⟨L2, by rw [hnx, hki], ?_, h2⟩)
          unfold AM.takes
          rw [hnx]; exact hr2
        · have he : y ≠ 0 := by simp only [beq_eq_false_iff_ne, ne_eq] at he; omega
          rw [wn (n := i + 1) (by omega) (by omega)]
          refine ftake_loop n0 n hx hM h0 hr h m (i + 1) .undef (by omega) (by omega) (fun j hj => ?_)
          by_cases hji : j = i
          · subst hji; rw [← hk0, hy]; simpa using he
          · exact hz j (by omega)
      refine ok_cond (fun hc2 => ok_gO (ok_ldL h rfl ?_)) (fun hc2 => ?_)
      · simp only [ge_iff_le, decide_eq_true_eq] at hc2
        exact body (x + i - A.s.length) _ (wn (by omega) (by omega)) (by unfold around; rw [if_pos (by omega)])
      · simp only [ge_iff_le, decide_eq_false_iff_not] at hc2
        refine body (x + i) _ ?_ (by unfold around; rw [if_neg (by omega)])
        rw [Int.tmod_eq_emod_of_nonneg (by omega), Int.emod_eq_of_lt (by omega) (by omega)]
    · simp only [decide_eq_false_iff_not] at hc
      obtain ⟨j, hj⟩ := List.mem_iff_getElem?.1 h0
      have hjl := (List.getElem?_eq_some_iff.1 hj).1
      exfalso
      by_cases hjx : x ≤ j
      · have := hz (j - x) (by omega)
        unfold around at this
        rw [if_neg (by omega), show x + (j - x) = j by omega] at this
        exact this hj
      · have := hz (j + A.s.length - x) (by omega)
        unfold around at this
        rw [if_pos (by omega), show x + (j + A.s.length - x) - A.s.length = j by omega] at this
        exact this hj

theorem ftk_ok (n : Nat) (hn : 70000 < n) (hM : A.t.length < 65000) (hr : Rf b A L) (h : Hp X S (L ++ F)) (h00 : 0 ∈ A.s) {x : Nat} (h1 : x < A.s.length) {xi : Int} (hx : xi = x) : Ok (ev (n + 1) (.fn 66) [.ptr (some (.rw b, 0)), .int .i64 xi] S) (F1 X F b (A.takes x) (A.next x)) := by
  subst hx
  rw [ev, F66 _ _ _ _ (oL rfl)]
  simp only [J66, b66_entry]
  obtain ⟨bs, ta, tl, tc, ga, gl, gc, Lt, Lg, hr, rfl⟩ := hr
  have hn2 := hr.n2
  exact ftake_loop n n h1 hM h00 hr h n 0 _ (by omega) (by omega) (by omega)

theorem fTake_ok (n : Nat) (hn : 70000 < n) (hM : A.t.length < 65000) (hr : Rf b A L) (h : Hp X S (L ++ F)) (x : Int) : Ok (ev (n + 2) (.fn 47) [.ptr (some (.rw b, 0)), .int .i64 x] S) (F2 X F b (A.take x) (A.takeV x) (A.takeE x)) := by
  have hin := fin_eq n h hr x
  have hc := fcount_eq n hn h hr 0 (xi := 0) rfl
  rw [ev, F47 _ _ _ _ (oL rfl)]
  simp only [J47, b47_entry]
  rw [callB_of hin]
  refine ok_cond (fun hb => ?_) (fun hb => ?_)
  · have e : A.takeE x = 2 := by
      unfold AM.takeE; rw [if_pos]
      simp only [Bool.not_eq_true', Bool.and_eq_false_iff, decide_eq_false_iff_not] at hb
      omega
    exact ok_ret ⟨L, by unfold AM.takeV; rw [e]; rfl, by unfold AM.take; rw [e]; exact hr, h⟩
  simp only [Bool.not_eq_false', Bool.and_eq_true, decide_eq_true_eq] at hb
  rw [callI_of hc]
  have hr0 := hr
  obtain ⟨bs, ta, tl, tc, ga, gl, gc, Lt, Lg, hr, rfl⟩ := hr
  refine ok_gO (ok_ldI h rfl (ok_ldI h rfl (ok_true (by simp [AV.beq]) ?_)))
  refine ok_cond (fun he => ?_) (fun he => ?_)
  · simp only [decide_eq_true_eq] at he
    have e : A.takeE x = 100 := by unfold AM.takeE; rw [if_neg (by omega), if_pos (by omega)]
    exact ok_ret ⟨_, by unfold AM.takeV; rw [e]; rfl, by unfold AM.take; rw [e]; exact hr0, h⟩
  simp only [decide_eq_false_iff_not] at he
  have e : A.takeE x = 0 := by unfold AM.takeE; rw [if_neg (by omega), if_neg (by omega)]
  obtain ⟨v, S1, e1, L1, rfl, hr1, h1⟩ := ftk_ok n hn hM hr0 h (List.count_pos_iff.1 (by omega)) (x := x.toNat) (by omega) (xi := x) (by omega)
  rw [callI_of e1]
  exact ok_ret ⟨L1, by unfold AM.takeV; rw [e]; rfl, by unfold AM.take; rw [e]; exact hr1, h1⟩

theorem fRes_ok (n : Nat) (hn : 70000 < n) (hM : A.t.length < 65000) (hw : A.r ≤ A.s.count 0) (hr : Rf b A L) (h : Hp X S (L ++ F)) (x : Int) : Ok (ev (n + 2) (.fn 48) [.ptr (some (.rw b, 0)), .int .i64 x] S) (F2 X F b (A.res x) (A.resV x) (A.resE x)) := by
  have hin := fin_eq n h hr x
  rw [ev, F48 _ _ _ _ (oL rfl)]
  simp only [J48, b48_entry]
  rw [callB_of hin]
  refine ok_cond (fun hb => ?_) (fun hb => ?_)
  · have e : A.resE x = 2 := by
      unfold AM.resE; rw [if_pos]
      simp only [Bool.not_eq_true', Bool.and_eq_false_iff, decide_eq_false_iff_not] at hb
      omega
    exact ok_ret ⟨L, by unfold AM.resV; rw [e]; rfl, by unfold AM.res; rw [e]; exact hr, h⟩
  simp only [Bool.not_eq_false', Bool.and_eq_true, decide_eq_true_eq] at hb
  have hcl : A.s.count 0 ≤ A.s.length := List.count_le_length
  have hn2 : A.s.length ≤ 65536 := by obtain ⟨bs, ta, tl, tc, ga, gl, gc, Lt, Lg, hr, rfl⟩ := hr; exact hr.n2
  refine fldR_ok hr h (ok_cond (fun he => ?_) (fun he => fldR_ok hr h ?_))
  · simp only [beq_iff_eq] at he
    have e : A.resE x = 100 := by unfold AM.resE; rw [if_neg (by omega), if_pos (by omega)]
    exact ok_ret ⟨_, by unfold AM.resV; rw [e]; rfl, by unfold AM.res; rw [e]; exact hr, h⟩
  simp only [beq_eq_false_iff_ne, ne_eq] at he
  have e : A.resE x = 0 := by unfold AM.resE; rw [if_neg (by omega), if_neg (by omega)]
  refine fsetR_ok (r := A.r - 1) hr h (wn (by omega) (by omega)) (fun S1 L1 hr1 h1 => ?_)
  obtain ⟨v, S2, e1, L2, rfl, hr2, h2⟩ := ftk_ok n hn (A := { A with r := A.r - 1 }) hM hr1 h1 (List.count_pos_iff.1 (by show 0 < A.s.count 0; omega)) (x := x.toNat) (by show _ < A.s.length; omega) (xi := x) (by omega)
  rw [callI_of e1]
  exact ok_ret ⟨L2, by unfold AM.resV; rw [e]; rfl, by unfold AM.res; rw [e]; exact hr2, h2⟩

theorem fwithout_loop (n0 n : Nat) {t : List Nat} {a : Option Pos} {c : Cap} (hl : t.length ≤ 65000) (x : Nat) : ∀ (m i : Nat) (d : List Nat) (a' : Option Pos) (l' : Nat) (c' : Cap) (L' : List Ent) (S : AS), i ≤ t.length → t.length - i < m → d = (t.take i).filter (· != x) → SlR a' l' c' 1 (ins .i64 d) L' → RdR X F a (row .i64 t) → Hp X S (L' ++ F) →
    Ok (J67_l1_1_0_1_0 (evF E orcL n) n0 m a t.length c (x : Nat) a' l' c' i S) fun v S' => ∃ a' l' c' L', v = .sl a' l' c' ∧ SlR a' l' c' 1 (ins .i64 (t.filter (· != x))) L' ∧ Hp X S' (L' ++ F)
  | 0, i, d, a', l', c', L', S, hi, hm, hd, hs, hrd, h => by omega
  | m + 1, i, d, a', l', c', L', S, hi, hm, hd, hs, hrd, h => by
    rw [J67_l1_1_0_1_0_succ]
    simp only [b67_l1_1_0_1_0]
    refine ok_cond (fun hc => ?_) (fun hc => ok_ret ⟨a', l', c', L', rfl, ?_, h⟩)
    · simp only [decide_eq_true_eq] at hc
      have hlt : i < t.length := by omega
      obtain ⟨y, hv⟩ : ∃ y, t[i]? = some y := ⟨_, List.getElem?_eq_getElem hlt⟩
      have htk : t.take (i + 1) = t.take i ++ [y] := by rw [List.take_add_one, hv]; rfl
      have hdl : d.length ≤ i := by
        have := List.length_filter_le (· != x) (t.take i)
        rw [hd]; simp at this ⊢; omega
      obtain ⟨p, rfl⟩ := hrd.some_of (by intro he; rw [← row_len .i64 t, he] at hlt; simp at hlt)
      have hrd2 : RdR X (L' ++ F) (some p) (row .i64 t) := hrd.mono (fun e he => List.mem_append_right _ he)
      have next : ∀ (d2 : List Nat) (a2 : Option Pos) (l2 : Nat) (c2 : Cap) (L2 : List Ent) (S2 : AS), d2 = (t.take (i + 1)).filter (· != x) → SlR a2 l2 c2 1 (ins .i64 d2) L2 → Hp X S2 (L2 ++ F) → Ok (J67_j1_1_0_1_0_0_1_1 (evF E orcL n) n0 (J67_l1_1_0_1_0 (evF E orcL n) n0 m) (some p) t.length c (x : Nat) a2 l2 c2 i S2) fun v S' => ∃ a' l' c' L', v = .sl a' l' c' ∧ SlR a' l' c' 1 (ins .i64 (t.filter (· != x))) L' ∧ Hp X S' (L' ++ F) := by
        intro d2 a2 l2 c2 L2 S2 hd2 hs2 h2
        simp only [J67_j1_1_0_1_0_0_1_1, b67_j1_1_0_1_0_0_1_1]
        rw [wn (n := i + 1) (by omega) (by omega)]
        exact fwithout_loop n0 n hl x m (i + 1) d2 a2 l2 c2 L2 S2 (by omega) (by omega) hd2 hs2 hrd h2
      rw [ixSl_at rfl hlt]
      simp only [Nat.mul_one]
      rw [hrd2.ldI h (row_at hv)]
      refine ok_cond (fun hne => ?_) (fun heq => next d a' l' c' L' S (by
        simp only [bne_eq_false_iff_eq] at heq
        have : y = x := by omega
        rw [htk, List.filter_append, hd, this]; simp) hs h)
      have hne : y ≠ x := by simp only [bne_iff_ne, ne_eq] at hne; omega
      rw [ixSl_at rfl hlt]
      simp only [Nat.mul_one]
      rw [hrd2.ldI h (row_at hv)]
      refine ok_newA h (fun b5 S6 h6 => ?_)
      have h6' := h6.re (M := L' ++ (C b5 [.int .i64 y] :: F)) (by intro p; simp only [List.countP_append, List.countP_cons, C]; omega)
      refine ok_append h6' hs (ys := ins .i64 [y]) (ins_all _ _) rfl (fun K => ?_) (by decide) (by simp [pow46]; omega) (by simp [pow46]; omega) (fun a l c S3 L3 ht' h3 => ?_)
      · have := RdR.first (.rw (X := X) (b := b5) (i := 0) (c := [.int .i64 y]) (cs := [.int .i64 y]) (L := _) (List.mem_append_right L' List.mem_cons_self) (by simp) rfl) h6' (sz := 1) (n := 1) rfl (by decide) (l := 1) (c := .ex 1) K
        simpa [row] using this
      · rw [← ins_append] at ht'
        exact next _ a l c L3 S3 (by rw [htk, List.filter_append, hd]; simp [hne]) ht' (h3.re (M := C b5 [.int .i64 y] :: (L3 ++ F)) (by intro p; simp only [List.countP_append, List.countP_cons, C]; omega)).drop1
    · simp only [decide_eq_false_iff_not] at hc
      rw [List.take_of_length_le (by omega)] at hd
      rw [← hd]; exact hs

theorem fGive_ok (n : Nat) (hn : 70000 < n) (hw : A.WF) (hM : A.s.length < 65000) (hr : Rf b A L) (h : Hp X S (L ++ F)) (x : Int) : Ok (ev (n + 2) (.fn 49) [.ptr (some (.rw b, 0)), .int .i64 x] S) (F1 X F b (A.give x) (A.giveE x)) := by
  have hin := fin_eq n h hr x
  have hwt := hw.tl
  have hwg := hw.gl
  rw [ev, F49 _ _ _ _ (oL rfl)]
  simp only [J49, b49_entry]
  rw [callB_of hin]
  refine ok_cond (fun hb => ?_) (fun hb => ?_)
  · have hb' : ¬ (0 ≤ x ∧ x < A.s.length) := by
      simp only [Bool.not_eq_true', Bool.and_eq_false_iff, decide_eq_false_iff_not] at hb
      omega
    exact ok_ret ⟨L, by unfold AM.giveE; rw [if_pos hb'], by unfold AM.give; rw [if_pos hb']; exact hr, h⟩
  simp only [Bool.not_eq_false', Bool.and_eq_true, decide_eq_true_eq] at hb
  have hr0 := hr
  obtain ⟨bs, ta, tl, tc, ga, gl, gc, Lt, Lg, hr, rfl⟩ := hr
  have hlt : x.toNat < A.s.length := by omega
  obtain ⟨y, hy⟩ : ∃ y, A.s[x.toNat]? = some y := ⟨_, List.getElem?_eq_getElem hlt⟩
  refine ok_gO (ok_ldL h rfl (ok_ixSl (k := x.toNat) (by omega) hlt ?_))
  simp only [Nat.zero_add, Nat.mul_one]
  refine ok_ldI h (row_at hy) ?_
  refine ok_cond (fun he => ?_) (fun he => ok_cond (fun he2 => ?_) (fun he2 => ?_))
  · have he : y = 1 := by simp only [beq_iff_eq] at he; omega
    subst he
    have e1 : A.giveE x = 0 := by unfold AM.giveE; rw [if_neg (by omega), if_pos (.inl hy)]
    have e2 : A.give x = { A with s := A.s.set x.toNat 3, g := A.g ++ [x.toNat] } := by unfold AM.give; rw [if_neg (by omega), if_pos hy]
    refine fput_ok (i := x.toNat) (v := 3) (by omega) rfl hlt hr h (fun S1 hr1 h1 => ok_gO (ok_ldL h1 rfl ?_))
    exact fpushG_ok (v := x.toNat) (by omega) (by show A.g.length < _; omega) hr1 h1 (fun S2 L2 hr2 h2 => ok_ret ⟨L2, by rw [e1], by rw [e2]; exact hr2, h2⟩)
  · have he : y = 2 := by simp only [beq_iff_eq] at he2; omega
    subst he
    have hne : ¬ A.s[x.toNat]? = some 1 := by rw [hy]; simp
    have e1 : A.giveE x = 0 := by unfold AM.giveE; rw [if_neg (by omega), if_pos (.inr hy)]
    have e2 : A.give x = { A with s := A.s.set x.toNat 0, t := A.t.filter (· != x.toNat) } := by unfold AM.give; rw [if_neg (by omega), if_neg hne, if_pos hy, hw.td.erase_eq_filter]
    refine fput_ok (i := x.toNat) (v := 0) (by omega) rfl hlt hr h (fun S1 hr1 h1 => ok_gO (ok_ldL h1 rfl ?_))
    have htl : tl = A.t.length := by have := hr.ht.len; simpa using this
    subst htl
    obtain ⟨xn, hxn, hxt⟩ : ∃ xn : Nat, x = (xn : Int) ∧ x.toNat = xn := ⟨x.toNat, by omega, rfl⟩
    rw [hxt] at h1 hr1 e2
    have h1' := h1.re (M := [] ++ (Lt ++ (C b (fhdr { A with s := A.s.set xn 0 } bs ta A.t.length tc ga gl gc) :: C bs (row .i64 (A.s.set xn 0)) :: (Lg ++ F)))) (by intro p; simp only [fblks, List.countP_append, List.countP_cons, List.cons_append, List.nil_append, C]; omega)
    have rdt := hr.ht.rd (X := X) (M := Lt ++ (C b (fhdr { A with s := A.s.set xn 0 } bs ta A.t.length tc ga gl gc) :: C bs (row .i64 (A.s.set xn 0)) :: (Lg ++ F))) (by intro e he; simp [he])
    rw [ins_flat] at rdt
    have e0 : Ok (evF E orcL (n + 1) (.fn 67) [.sl ta A.t.length tc, .int .i64 x] S1) fun v S' => ∃ a' l' c' L', v = .sl a' l' c' ∧ SlR a' l' c' 1 (ins .i64 (A.t.filter (· != xn))) L' ∧ Hp X S' (L' ++ (Lt ++ (C b (fhdr { A with s := A.s.set xn 0 } bs ta A.t.length tc ga gl gc) :: C bs (row .i64 (A.s.set xn 0)) :: (Lg ++ F)))) := by
      rw [F67 _ _ _ _ _ _ (oL rfl)]
      simp only [J67, b67_entry]
      rw [hxn]
      exact fwithout_loop n n hr.tM xn n 0 [] none 0 (.ex 0) [] S1 (by omega) (by omega) (by simp) .nil rdt h1'
    obtain ⟨v, S2, e, a', l', c', L', rfl, hs', h2⟩ := e0
    rw [callL_of e]
    have hfl : (A.t.filter (· != xn)).length ≤ A.t.length := List.length_filter_le _ _
    refine ok_gO (ok_stn h2 (by simp [fhdr]) (d := fhdr { A with s := A.s.set xn 0, t := A.t.filter (· != xn) } bs a' l' c' ga gl gc) (by simp [fhdr, splice]) (fun S4 h4 => ok_ret ⟨fblks b { A with s := A.s.set xn 0, t := A.t.filter (· != xn) } bs a' l' c' ga gl gc L' Lg, by rw [e1], by rw [e2]; exact ⟨bs, a', l', c', ga, gl, gc, L', Lg, ⟨by simpa using hr.n2, by show (A.t.filter _).length ≤ _; omega, hr.gM, hs', hr.hg⟩, rfl⟩, ?_⟩))
    exact (h4.re (M := Lt ++ (fblks b { A with s := A.s.set xn 0, t := A.t.filter (· != xn) } bs a' l' c' ga gl gc L' Lg ++ F)) (by intro p; simp only [fblks, List.countP_append, List.countP_cons, List.cons_append, C]; omega)).right
  · have he : y ≠ 1 := by simp only [beq_eq_false_iff_ne, ne_eq] at he; omega
    have he2 : y ≠ 2 := by simp only [beq_eq_false_iff_ne, ne_eq] at he2; omega
    have n1 : ¬ A.s[x.toNat]? = some 1 := by rw [hy]; simpa using he
    have n2 : ¬ A.s[x.toNat]? = some 2 := by rw [hy]; simpa using he2
    exact ok_ret ⟨_, by unfold AM.giveE; rw [if_neg (by omega), if_neg (by rintro (h | h) <;> contradiction)], by unfold AM.give; rw [if_neg (by omega), if_neg n1, if_neg n2]; exact hr0, h⟩

theorem fMark_ok (n : Nat) (hn : 70000 < n) (hM : A.t.length < 65000) (hr : Rf b A L) (h : Hp X S (L ++ F)) (x : Int) : Ok (ev (n + 2) (.fn 50) [.ptr (some (.rw b, 0)), .int .i64 x] S) (F1 X F b (A.mark x) (A.markE x)) := by
  have hin := fin_eq n h hr x
  have hcnt := fcount_eq n hn h hr 0 (xi := 0) rfl
  rw [ev, F50 _ _ _ _ (oL rfl)]
  simp only [J50, b50_entry]
  rw [callB_of hin]
  have no : ∀ e, A.markE x = e → e ≠ 0 → ∀ S', Hp X S' (L ++ F) → Ok (some (AV.int .i64 e, S')) (F1 X F b (A.mark x) (A.markE x)) := fun e h1 h2 S' h' => ok_ret ⟨L, by rw [h1], by unfold AM.mark; rw [if_neg (by rw [h1]; exact h2)]; exact hr, h'⟩
  refine ok_cond (fun hb => ?_) (fun hb => ?_)
  · refine no 2 ?_ (by decide) S h
    unfold AM.markE; rw [if_pos]
    simp only [Bool.not_eq_true', Bool.and_eq_false_iff, decide_eq_false_iff_not] at hb
    omega
  simp only [Bool.not_eq_false', Bool.and_eq_true, decide_eq_true_eq] at hb
  have hr0 := hr
  obtain ⟨bs, ta, tl, tc, ga, gl, gc, Lt, Lg, hr, rfl⟩ := hr
  have hlt : x.toNat < A.s.length := by omega
  obtain ⟨y, hy⟩ : ∃ y, A.s[x.toNat]? = some y := ⟨_, List.getElem?_eq_getElem hlt⟩
  refine ok_gO (ok_ldL h rfl (ok_ixSl (k := x.toNat) (by omega) hlt ?_))
  simp only [Nat.zero_add, Nat.mul_one]
  refine ok_ldI h (row_at hy) ?_
  refine ok_cond (fun he => ?_) (fun he => ?_)
  · refine no 101 ?_ (by decide) S h
    have he : y ≠ 0 := by simp only [bne_iff_ne, ne_eq] at he; omega
    unfold AM.markE; rw [if_neg (by omega), if_pos (.inl (by rw [hy]; simpa using he))]
  have he : y = 0 := by simp only [bne_eq_false_iff_eq] at he; omega
  subst he
  rw [callI_of hcnt]
  refine ok_gO (ok_ldI h rfl (ok_ldI h rfl (ok_true (by simp [AV.beq]) ?_)))
  refine ok_cond (fun he => ?_) (fun he => ?_)
  · simp only [decide_eq_true_eq] at he
    refine no 101 ?_ (by decide) S h
    unfold AM.markE; rw [if_neg (by omega), if_pos (.inr (by omega))]
  simp only [decide_eq_false_iff_not] at he
  have e1 : A.markE x = 0 := by unfold AM.markE; rw [if_neg (by omega), if_neg (by rintro (h | h); exact h hy; omega)]
  refine fput_ok (i := x.toNat) (v := 2) (by omega) rfl hlt hr h (fun S1 hr1 h1 => ok_gO (ok_ldL h1 rfl ?_))
  exact fpushT_ok (v := x.toNat) (by omega) (by exact hM) hr1 h1 (fun S2 L2 hr2 h2 => ok_ret ⟨L2, by rw [e1], by unfold AM.mark; rw [if_pos e1]; exact hr2, h2⟩)

theorem fReserve_ok (n : Nat) (hn : 70000 < n) (hw : A.r ≤ A.s.count 0) (hr : Rf b A L) (h : Hp X S (L ++ F)) (x : Int) : Ok (ev (n + 2) (.fn 51) [.ptr (some (.rw b, 0)), .int .i64 x] S) (F1 X F b (A.reserve x) (A.reserveE x)) := by
  have hcnt := fcount_eq n hn h hr 0 (xi := 0) rfl
  have hcl : A.s.count 0 ≤ A.s.length := List.count_le_length
  have hn2 : A.s.length ≤ 65536 := by obtain ⟨bs, ta, tl, tc, ga, gl, gc, Lt, Lg, hr, rfl⟩ := hr; exact hr.n2
  rw [ev, F51 _ _ _ _ (oL rfl)]
  simp only [J51, b51_entry]
  have no : ∀ e, A.reserveE x = e → e ≠ 0 → ∀ S', Hp X S' (L ++ F) → Ok (some (AV.int .i64 e, S')) (F1 X F b (A.reserve x) (A.reserveE x)) := fun e h1 h2 S' h' => ok_ret ⟨L, by rw [h1], by unfold AM.reserve; rw [if_neg (by rw [h1]; exact h2)]; exact hr, h'⟩
  refine ok_cond (fun hb => no 2 ?_ (by decide) S h) (fun hb => ?_)
  · simp only [decide_eq_true_eq] at hb
    unfold AM.reserveE; rw [if_pos hb]
  simp only [decide_eq_false_iff_not] at hb
  rw [callI_of hcnt]
  have hr0 := hr
  obtain ⟨bs, ta, tl, tc, ga, gl, gc, Lt, Lg, hr, rfl⟩ := hr
  refine ok_gO (ok_ldI h rfl (ok_ldI h rfl (ok_true (by simp [AV.beq]) ?_)))
  rw [wz (z := ((A.s.count 0 : Nat) : Int) - (A.r : Nat)) rfl (by omega) (by omega)]
  refine ok_cond (fun he => no 100 ?_ (by decide) S h) (fun he => fldR_ok hr0 h ?_)
  · simp only [gt_iff_lt, decide_eq_true_eq] at he
    unfold AM.reserveE; rw [if_neg hb, if_pos he]
  simp only [gt_iff_lt, decide_eq_false_iff_not] at he
  have e1 : A.reserveE x = 0 := by unfold AM.reserveE; rw [if_neg hb, if_neg (by omega)]
  exact fsetR_ok (r := A.r + x.toNat) hr0 h (wn (by omega) (by omega)) (fun S1 L1 hr1 h1 => ok_ret ⟨L1, by rw [e1], by unfold AM.reserve; rw [if_pos e1]; exact hr1, h1⟩)

theorem fRelease_ok (n : Nat) (hw : A.r ≤ A.s.count 0) (hr : Rf b A L) (h : Hp X S (L ++ F)) (x : Int) : Ok (ev (n + 1) (.fn 52) [.ptr (some (.rw b, 0)), .int .i64 x] S) (F1 X F b (A.release x) (A.releaseE x)) := by
  have hcl : A.s.count 0 ≤ A.s.length := List.count_le_length
  have hn2 : A.s.length ≤ 65536 := by obtain ⟨bs, ta, tl, tc, ga, gl, gc, Lt, Lg, hr, rfl⟩ := hr; exact hr.n2
  rw [ev, F52 _ _ _ _ (oL rfl)]
  simp only [J52, b52_entry]
  have no : ∀ e, A.releaseE x = e → e ≠ 0 → ∀ S', Hp X S' (L ++ F) → Ok (some (AV.int .i64 e, S')) (F1 X F b (A.release x) (A.releaseE x)) := fun e h1 h2 S' h' => ok_ret ⟨L, by rw [h1], by unfold AM.release; rw [if_neg (by rw [h1]; exact h2)]; exact hr, h'⟩
  refine ok_cond (fun hb => no 2 ?_ (by decide) S h) (fun hb => ?_)
  · simp only [decide_eq_true_eq] at hb
    unfold AM.releaseE; rw [if_pos (.inl hb)]
  simp only [decide_eq_false_iff_not] at hb
  refine fldR_ok hr h (ok_cond (fun he => no 2 ?_ (by decide) S h) (fun he => fldR_ok hr h ?_))
  · simp only [gt_iff_lt, decide_eq_true_eq] at he
    unfold AM.releaseE; rw [if_pos (.inr he)]
  simp only [gt_iff_lt, decide_eq_false_iff_not] at he
  have e1 : A.releaseE x = 0 := by unfold AM.releaseE; rw [if_neg (by omega)]
  exact fsetR_ok (r := A.r - x.toNat) hr h (wn (by omega) (by omega)) (fun S1 L1 hr1 h1 => ok_ret ⟨L1, by rw [e1], by unfold AM.release; rw [if_pos e1]; exact hr1, h1⟩)

theorem fState_eq (n : Nat) (hr : Rf b A L) (h : Hp X S (L ++ F)) (x : Int) : ev (n + 2) (.fn 60) [.ptr (some (.rw b, 0)), .int .i64 x] S = some (.int .i64 (A.state x), S) := by
  have hin := fin_eq n h hr x
  apply ok_eq
  rw [ev, F60 _ _ _ _ (oL rfl)]
  simp only [J60, b60_entry]
  rw [callB_of hin]
  refine ok_cond (fun hb => ok_ret ⟨?_, rfl⟩) (fun hb => ?_)
  · unfold AM.state; rw [if_neg]
    simp only [Bool.not_eq_true', Bool.and_eq_false_iff, decide_eq_false_iff_not] at hb
    omega
  simp only [Bool.not_eq_false', Bool.and_eq_true, decide_eq_true_eq] at hb
  obtain ⟨bs, ta, tl, tc, ga, gl, gc, Lt, Lg, hr, rfl⟩ := hr
  have hlt : x.toNat < A.s.length := by omega
  obtain ⟨y, hy⟩ : ∃ y, A.s[x.toNat]? = some y := ⟨_, List.getElem?_eq_getElem hlt⟩
  refine ok_gO (ok_ldL h rfl (ok_ixSl (k := x.toNat) (by omega) hlt ?_))
  simp only [Nat.zero_add, Nat.mul_one]
  refine ok_ldI h (row_at hy) (ok_ret ⟨?_, rfl⟩)
  unfold AM.state
  rw [if_pos hb]
  simp [List.getD_eq_getElem?_getD, hy]

end

end Go.Al

namespace Go.Al
open Go.Gr

/-- All of a state in another. -/
def trn (x1 x2 : Nat) (s : List Nat) : List Nat := s.map fun y => if y = x1 then x2 else y
@[simp] theorem trn_len (x1 x2 : Nat) (s : List Nat) : (trn x1 x2 s).length = s.length := by simp [trn]
theorem trn_get (x1 x2 : Nat) (s : List Nat) (i : Nat) : (trn x1 x2 s)[i]? = (s[i]?).map fun y => if y = x1 then x2 else y := by simp [trn]
theorem setAll_posn (x1 x2 : Nat) (s : List Nat) : setAll x2 (posn x1 s) s = trn x1 x2 s := by
  apply List.ext_getElem?
  intro i
  by_cases hi : i < s.length
  · obtain ⟨y, hy⟩ : ∃ y, s[i]? = some y := ⟨_, List.getElem?_eq_getElem hi⟩
    rw [setAll_get _ _ _ _ hi, trn_get, hy]
    simp only [mem_posn, hy, Option.some.injEq, Option.map_some]
    split <;> rfl
  · rw [List.getElem?_eq_none (by simpa using Nat.le_of_not_lt hi), List.getElem?_eq_none (by simpa using Nat.le_of_not_lt hi)]
theorem posn_trn {x x1 x2 : Nat} (h1 : x ≠ x1) (h2 : x ≠ x2) (s : List Nat) : posn x (trn x1 x2 s) = posn x s := by
  rw [posn, posn, posTo, posTo, trn_len]
  refine List.filter_congr (fun i hi => ?_)
  rw [List.mem_range] at hi
  obtain ⟨y, hy⟩ : ∃ y, s[i]? = some y := ⟨_, List.getElem?_eq_getElem hi⟩
  rw [trn_get, hy]
  simp only [Option.map_some]
  by_cases h : y = x1
  · subst h
    simp only [if_true, Option.some_beq_some]
    rw [beq_false_of_ne (Ne.symm h2), beq_false_of_ne (Ne.symm h1)]
  · simp [h]
theorem commit_trn {A : AM} (hw : A.WF) : A.commit = { A with s := trn 2 1 (trn 3 (if 0 < A.h then 4 else 0) A.s), t := [], g := [] } := by
  have : A.commit.s = trn 2 1 (trn 3 (if 0 < A.h then 4 else 0) A.s) := by
    apply List.ext_getElem?
    intro i
    by_cases hi : i < A.s.length
    · obtain ⟨y, hy⟩ : ∃ y, A.s[i]? = some y := ⟨_, List.getElem?_eq_getElem hi⟩
      rw [AM.commit_get A i hi, trn_get, trn_get, hy]
      have ht := hw.ti i
      have hg := hw.gi i
      rw [hy] at ht hg
      simp only [Option.some.injEq] at ht hg
      simp only [ht, hg, Option.map_some]
      by_cases h3 : y = 3
      · subst h3
        by_cases hh : 0 < A.h <;> simp [hh]
      · by_cases h2 : y = 2
        · subst h2; simp
        · simp [h2, h3]
    · rw [List.getElem?_eq_none (by simpa [AM.commit] using Nat.le_of_not_lt hi), List.getElem?_eq_none (by simpa using Nat.le_of_not_lt hi)]
  rw [← this]; rfl
theorem abort_trn {A : AM} (hw : A.WF) : A.abort = { A with s := trn 3 1 (trn 2 0 A.s), t := [], g := [] } := by
  have : A.abort.s = trn 3 1 (trn 2 0 A.s) := by
    apply List.ext_getElem?
    intro i
    by_cases hi : i < A.s.length
    · obtain ⟨y, hy⟩ : ∃ y, A.s[i]? = some y := ⟨_, List.getElem?_eq_getElem hi⟩
      rw [AM.abort_get A i hi, trn_get, trn_get, hy]
      have ht := hw.ti i
      have hg := hw.gi i
      rw [hy] at ht hg
      simp only [Option.some.injEq] at ht hg
      simp only [ht, hg, Option.map_some]
      by_cases h3 : y = 3
      · subst h3; simp
      · by_cases h2 : y = 2
        · subst h2; simp
        · simp [h2, h3]
    · rw [List.getElem?_eq_none (by simpa [AM.abort] using Nat.le_of_not_lt hi), List.getElem?_eq_none (by simpa using Nat.le_of_not_lt hi)]
  rw [← this]; rfl

section
variable {X : Cx} {S : AS} {L F : List Ent} {b : Nat} {A : AM} {Q : AV → AS → Prop}

/-- A list of blocks is told, and the document's allocator is this one. -/
abbrev FT (X : Cx) (F : List Ent) (b : Nat) (d : List Nat) (A : AM) : AV → AS → Prop := fun v S' => ∃ (a : Option Pos) (c : Cap) (Ld L' : List Ent), v = .sl a d.length c ∧ SlR a d.length c 1 (ins .i64 d) Ld ∧ Rf b A L' ∧ Hp X S' (Ld ++ (L' ++ F))

theorem fturn_loop2 (n0 : Nat) (call : CallA) {bs : Nat} {ta : Option Pos} {tl : Nat} {tc : Cap} {ga : Option Pos} {gl : Nat} {gc : Cap} {Lt Lg Ld : List Ent} {d : List Nat} {a : Option Pos} {c : Cap} (x2 : Nat) {N : Nat} (hN : N ≤ 65536) {R : List Nat} (hs : SlR a d.length c 1 (ins .i64 d) Ld) (hl : d.length ≤ 65536) (hd : ∀ y ∈ d, y < N) :
    ∀ (m j : Nat) (s : List Nat) (S : AS), j ≤ d.length → d.length - j < m → s.length = N → setAll x2 (d.drop j) s = R → RfR { A with s := s } ta tl tc ga gl gc Lt Lg → Hp X S (Ld ++ (fblks b { A with s := s } bs ta tl tc ga gl gc Lt Lg ++ F)) →
      Ok (J68_l1_1_1_0_1_0 call n0 m (some (.rw b, 0)) (x2 : Nat) a d.length c j S) (FT X F b d { A with s := R })
  | 0, j, s, S, hj, hm, hsl, hR, hr, h => by omega
  | m + 1, j, s, S, hj, hm, hsl, hR, hr, h => by
    rw [J68_l1_1_1_0_1_0_succ]
    simp only [b68_l1_1_1_0_1_0]
    refine ok_cond (fun hc => ?_) (fun hc => ?_)
    · simp only [decide_eq_true_eq] at hc
      have hlt : j < d.length := by omega
      obtain ⟨y, hyi⟩ : ∃ y, d[j]? = some y := ⟨_, List.getElem?_eq_getElem hlt⟩
      have hyl := hd y (List.mem_of_getElem? hyi)
      have hdr : d.drop j = y :: d.drop (j + 1) := by
        obtain ⟨hlt', he⟩ := List.getElem?_eq_some_iff.1 hyi
        rw [List.drop_eq_getElem_cons hlt', he]
      have hr0 := hs.rd (X := X) (M := Ld ++ (fblks b { A with s := s } bs ta tl tc ga gl gc Lt Lg ++ F)) (by intro e he; simp [he])
      rw [ins_flat] at hr0
      obtain ⟨p, rfl⟩ := hr0.some_of (by intro he; rw [← row_len .i64 d, he] at hlt; simp at hlt)
      refine ok_gO (ok_ldL h rfl ?_)
      rw [ixSl_at rfl hlt]
      simp only [Nat.mul_one]
      rw [hr0.ldI h (row_at hyi)]
      refine ok_ixSl (k := y) rfl (by show y < s.length; omega) ?_
      simp only [Nat.zero_add, Nat.mul_one]
      refine ok_stn h (by simp; omega) (d := row .i64 (s.set y x2)) (row_splice x2 (by omega)) (fun S1 h1 => ?_)
      rw [wn (x := (j : Int) + 1) (n := j + 1) (by omega) (by omega)]
      refine fturn_loop2 n0 call (bs := bs) x2 hN hs hl hd m (j + 1) (s.set y x2) S1 (by omega) (by omega) (by simpa using hsl) (by rw [← hR, hdr]; rfl) ⟨by simpa using hr.n2, hr.tM, hr.gM, hr.ht, hr.hg⟩ ?_
      simpa [fblks, fhdr] using h1
    · simp only [decide_eq_false_iff_not] at hc
      rw [List.drop_of_length_le (by omega)] at hR
      subst hR
      exact ok_ret ⟨a, c, Ld, _, rfl, hs, ⟨bs, ta, tl, tc, ga, gl, gc, Lt, Lg, hr, rfl⟩, h⟩

theorem fturn_loop1 (n0 n : Nat) {bs : Nat} {ta : Option Pos} {tl : Nat} {tc : Cap} {ga : Option Pos} {gl : Nat} {gc : Cap} {Lt Lg : List Ent} (x1 x2 : Nat) (hN : 70000 < n0) (hr : RfR A ta tl tc ga gl gc Lt Lg) :
    ∀ (m i : Nat) (d : List Nat) (a : Option Pos) (c : Cap) (Ld : List Ent) (S : AS), i ≤ A.s.length → A.s.length - i < m → d = posTo x1 A.s i → SlR a d.length c 1 (ins .i64 d) Ld → Hp X S (Ld ++ (fblks b A bs ta tl tc ga gl gc Lt Lg ++ F)) →
      Ok (J68_l1_1_0_1_0 (evF E orcL n) n0 m (some (.rw b, 0)) (x1 : Nat) (x2 : Nat) a d.length c i S) (FT X F b (posn x1 A.s) { A with s := trn x1 x2 A.s })
  | 0, i, d, a, c, Ld, S, hi, hm, hd, hs, h => by omega
  | m + 1, i, d, a, c, Ld, S, hi, hm, hd, hs, h => by
    have hn2 := hr.n2
    have hdl : d.length ≤ i := by rw [hd]; exact posTo_len _ _ _
    rw [J68_l1_1_0_1_0_succ]
    simp only [b68_l1_1_0_1_0]
    refine ok_gO (ok_ldL h rfl (ok_cond (fun hc => ?_) (fun hc => ?_)))
    · simp only [decide_eq_true_eq] at hc
      have hlt : i < A.s.length := by omega
      obtain ⟨y, hy⟩ : ∃ y, A.s[i]? = some y := ⟨_, List.getElem?_eq_getElem hlt⟩
      refine ok_gO (ok_ldL h rfl (ok_ixSl (k := i) rfl hlt ?_))
      simp only [Nat.zero_add, Nat.mul_one]
      refine ok_ldI h (row_at hy) ?_
      have next : ∀ (d2 : List Nat) (a2 : Option Pos) (c2 : Cap) (L2 : List Ent) (S2 : AS), d2 = posTo x1 A.s (i + 1) → SlR a2 d2.length c2 1 (ins .i64 d2) L2 → Hp X S2 (L2 ++ (fblks b A bs ta tl tc ga gl gc Lt Lg ++ F)) → Ok (J68_j1_1_0_1_0_0_1_1 (evF E orcL n) n0 (J68_l1_1_0_1_0 (evF E orcL n) n0 m) (some (.rw b, 0)) (x1 : Nat) (x2 : Nat) a2 d2.length c2 i S2) (FT X F b (posn x1 A.s) { A with s := trn x1 x2 A.s }) := by
        intro d2 a2 c2 L2 S2 hd2 hs2 h2
        simp only [J68_j1_1_0_1_0_0_1_1, b68_j1_1_0_1_0_0_1_1]
        rw [wn (x := (i : Int) + 1) (n := i + 1) (by omega) (by omega)]
        exact fturn_loop1 n0 n x1 x2 hN hr m (i + 1) d2 a2 c2 L2 S2 (by omega) (by omega) hd2 hs2 h2
      refine ok_cond (fun he => ?_) (fun he => next d a c Ld S (by
        have he : y ≠ x1 := by simp only [beq_eq_false_iff_ne, ne_eq] at he; omega
        rw [posTo_succ, hy, if_neg (by simpa using he), List.append_nil, hd]) hs h)
      have he : y = x1 := by simp only [beq_iff_eq] at he; omega
      subst he
      refine ok_newA h (fun b5 S6 h6 => ?_)
      have h6' := h6.re (M := Ld ++ (C b5 [.int .i64 i] :: (fblks b A bs ta tl tc ga gl gc Lt Lg ++ F))) (by intro p; simp only [List.countP_append, List.countP_cons, C]; omega)
      refine ok_append h6' hs (ys := ins .i64 [i]) (ins_all _ _) rfl (fun K => ?_) (by decide) (by simp [pow46]; omega) (by simp [pow46]; omega) (fun a3 l3 c3 S3 L3 ht' h3 => ?_)
      · have := RdR.first (.rw (X := X) (b := b5) (i := 0) (c := [.int .i64 i]) (cs := [.int .i64 i]) (L := _) (List.mem_append_right Ld List.mem_cons_self) (by simp) rfl) h6' (sz := 1) (n := 1) rfl (by decide) (l := 1) (c := .ex 1) K
        simpa [row] using this
      · rw [← ins_append] at ht'
        obtain rfl : l3 = (d ++ [i]).length := by have := ht'.len; simpa using this
        exact next (d ++ [i]) a3 c3 L3 S3 (by rw [posTo_succ, if_pos hy, hd]) ht' (h3.re (M := C b5 [.int .i64 i] :: (L3 ++ (fblks b A bs ta tl tc ga gl gc Lt Lg ++ F))) (by intro p; simp only [List.countP_append, List.countP_cons, C]; omega)).drop1
    · simp only [decide_eq_false_iff_not] at hc
      simp only [J68_j1_1_1, b68_j1_1_1]
      obtain rfl : i = A.s.length := by omega
      have hd' : d = posn x1 A.s := hd
      rw [← hd']
      refine fturn_loop2 n0 (evF E orcL n) (N := A.s.length) x2 hn2 hs (by omega) (fun y hy => ?_) n0 0 A.s S (by omega) (by omega) rfl (by rw [List.drop_zero, hd', setAll_posn]) hr h
      rw [hd'] at hy
      exact (List.getElem?_eq_some_iff.1 (mem_posn.1 hy)).1

theorem fturn_ok (n : Nat) (hn : 70000 < n) (hr : Rf b A L) (h : Hp X S (L ++ F)) (x1 x2 : Nat) {y1 y2 : Int} (h1 : y1 = x1) (h2 : y2 = x2) : Ok (ev (n + 1) (.fn 68) [.ptr (some (.rw b, 0)), .int .i64 y1, .int .i64 y2] S) (FT X F b (posn x1 A.s) { A with s := trn x1 x2 A.s }) := by
  subst h1 h2
  rw [ev, F68 _ _ _ _ _ (oL rfl)]
  simp only [J68, b68_entry]
  obtain ⟨bs, ta, tl, tc, ga, gl, gc, Lt, Lg, hr, rfl⟩ := hr
  have hn2 := hr.n2
  exact fturn_loop1 n n x1 x2 hn hr n 0 [] none (.ex 0) [] S (by omega) (by omega) rfl .nil h

/-- Both lists are emptied. -/
theorem fclear_ok (hr : Rf b A L) (h : Hp X S (L ++ F)) {K : AS → Option (AV × AS)} (ht : ∀ S' L', Rf b { A with t := [], g := [] } L' → Hp X S' (L' ++ F) → Ok (K S') Q) :
    Ok (gO (some (.rw b, 0)) fun p => S.stn p.1 (p.2 + 1) [.sl none 0 (.ex 0)] fun S8 => gO (some (.rw b, 0)) fun p => S8.stn p.1 (p.2 + 2) [.sl none 0 (.ex 0)] K) Q := by
  obtain ⟨bs, ta, tl, tc, ga, gl, gc, Lt, Lg, hr, rfl⟩ := hr
  refine ok_gO (ok_stn h (by simp [fhdr]) (d := fhdr { A with t := [] } bs none 0 (.ex 0) ga gl gc) (by simp [fhdr, splice]) (fun S1 h1 => ?_))
  refine ok_gO (ok_stn h1 (by simp [fhdr]) (d := fhdr { A with t := [], g := [] } bs none 0 (.ex 0) none 0 (.ex 0)) (by simp [fhdr, splice]) (fun S2 h2 => ht S2 _ ⟨bs, none, 0, .ex 0, none, 0, .ex 0, [], [], ⟨hr.n2, by simp, by simp, .nil, .nil⟩, rfl⟩ ?_))
  exact (h2.re (M := (Lt ++ Lg) ++ (fblks b { A with t := [], g := [] } bs none 0 (.ex 0) none 0 (.ex 0) [] [] ++ F)) (by intro p; simp only [fblks, List.countP_append, List.countP_cons, List.cons_append, List.countP_nil, List.nil_append, C]; omega)).right

/-- Two lists are told. -/
abbrev FCom (X : Cx) (F : List Ent) (b : Nat) (A : AM) : AV → AS → Prop := fun v S' => ∃ (a : Option Pos) (c : Cap) (Ld : List Ent) (a2 : Option Pos) (c2 : Cap) (Ld2 L' : List Ent), v = .tup [.sl a (posn 2 A.s).length c, .sl a2 (posn 3 A.s).length c2] ∧ SlR a (posn 2 A.s).length c 1 (ins .i64 (posn 2 A.s)) Ld ∧ SlR a2 (posn 3 A.s).length c2 1 (ins .i64 (posn 3 A.s)) Ld2 ∧ Rf b A.commit L' ∧ Hp X S' (L' ++ (Ld ++ (Ld2 ++ F)))

theorem fcommit_ok (n : Nat) (hn : 70000 < n) (hw : A.WF) (hr : Rf b A L) (h : Hp X S (L ++ F)) : Ok (ev (n + 2) (.fn 53) [.ptr (some (.rw b, 0))] S) (FCom X F b A) := by
  rw [ev, F53 _ _ _ (oL rfl)]
  simp only [J53, b53_entry]
  have two : ∀ (to : Nat) (ti : Int), ti = to → to = (if 0 < A.h then 4 else 0) → Ok (callL (evF E orcL (n + 1)) 68 [.ptr (some (.rw b, 0)), .int .i64 3, .int .i64 ti] S fun v4a v4l v4c S3 => callL (evF E orcL (n + 1)) 68 [.ptr (some (.rw b, 0)), .int .i64 2, .int .i64 1] S3 fun v6a v6l v6c S5 => gO (some (Bid.rw b, 0)) fun p7 => S5.stn p7.1 (p7.2 + 1) [.sl none 0 (.ex 0)] fun S8 => gO (some (Bid.rw b, 0)) fun p9 => S8.stn p9.1 (p9.2 + 2) [.sl none 0 (.ex 0)] fun S10 => some (.tup [.sl v6a v6l v6c, .sl v4a v4l v4c], S10)) (FCom X F b A) := by
    intro to ti hti hto
    obtain ⟨v, S1, e, a, c, Ld, L1, rfl, hs, hr1, h1⟩ := fturn_ok n hn hr h 3 to (y1 := 3) (y2 := ti) rfl hti
    rw [callL_of e]
    obtain ⟨v, S2, e, a2, c2, Ld2, L2, rfl, hs2, hr2, h2⟩ := fturn_ok n hn hr1 (h1.re (M := L1 ++ (Ld ++ F)) (by intro p; simp only [List.countP_append]; omega)) 2 1 (y1 := 2) (y2 := 1) rfl rfl
    rw [callL_of e]
    have hp : posn 2 (trn 3 to A.s) = posn 2 A.s := posn_trn (by decide) (by rw [hto]; split <;> decide) _
    refine fclear_ok hr2 (h2.re (M := L2 ++ (Ld2 ++ (Ld ++ F))) (by intro p; simp only [List.countP_append]; omega)) (fun S3 L3 hr3 h3 => ?_)
    simp only [hp] at hs2 ⊢
    exact ok_ret ⟨a2, c2, Ld2, a, c, Ld, L3, rfl, hs2, hs, by rw [commit_trn hw, ← hto]; exact hr3, h3⟩
  refine fldH_ok hr h (ok_cond (fun hc => two 4 4 rfl ?_) (fun hc => two 0 0 rfl ?_))
  · simp only [gt_iff_lt, decide_eq_true_eq] at hc
    rw [if_pos (by omega)]
  · simp only [gt_iff_lt, decide_eq_false_iff_not] at hc
    rw [if_neg (by omega)]

theorem fabort_ok (n : Nat) (hn : 70000 < n) (hw : A.WF) (hr : Rf b A L) (h : Hp X S (L ++ F)) : Ok (ev (n + 2) (.fn 54) [.ptr (some (.rw b, 0))] S) fun v S' => ∃ L', v = .tup [] ∧ Rf b A.abort L' ∧ Hp X S' (L' ++ F) := by
  rw [ev, F54 _ _ _ (oL rfl)]
  simp only [J54, b54_entry]
  obtain ⟨v, S1, e, a, c, Ld, L1, rfl, hs, hr1, h1⟩ := fturn_ok n hn hr h 2 0 (y1 := 2) (y2 := 0) rfl rfl
  rw [callL_of e]
  obtain ⟨v, S2, e, a2, c2, Ld2, L2, rfl, hs2, hr2, h2⟩ := fturn_ok n hn hr1 h1.right 3 1 (y1 := 3) (y2 := 1) rfl rfl
  rw [callL_of e]
  exact fclear_ok hr2 h2.right (fun S3 L3 hr3 h3 => ok_ret ⟨L3, rfl, by rw [abort_trn hw]; exact hr3, h3⟩)

theorem fletgo_ok (n : Nat) (hn : 70000 < n) (hh : A.h < 1000000) (hr : Rf b A L) (h : Hp X S (L ++ F)) : Ok (ev (n + 2) (.fn 55) [.ptr (some (.rw b, 0))] S) (FT X F b (if A.h = 1 then posn 4 A.s else []) A.letgo) := by
  rw [ev, F55 _ _ _ (oL rfl)]
  simp only [J55, b55_entry]
  refine fldH_ok hr h (ok_cond (fun hc => ?_) (fun hc => fldH_ok hr h (fsetH_ok hr h (r := A.h - 1) (wn (by simp only [beq_eq_false_iff_ne, ne_eq] at hc; omega) (by omega)) (fun S1 L1 hr1 h1 => fldH_ok hr1 h1 (ok_cond (fun hc2 => ?_) (fun hc2 => ?_))))))
  · have h0 : A.h = 0 := by simp only [beq_iff_eq] at hc; omega
    have e : A.letgo = A := by unfold AM.letgo; rw [if_pos h0]
    exact ok_ret ⟨none, .ex 0, [], _, by rw [if_neg (by omega)]; rfl, by rw [if_neg (by omega)]; exact .nil, by rw [e]; exact hr, h⟩
  · have h0 : A.h ≠ 0 := by simp only [beq_eq_false_iff_ne, ne_eq] at hc; omega
    simp only [gt_iff_lt, decide_eq_true_eq] at hc2
    have e : A.letgo = { A with h := A.h - 1 } := by unfold AM.letgo; rw [if_neg h0, if_pos (by omega)]
    exact ok_ret ⟨none, .ex 0, [], _, by rw [if_neg (by omega)]; rfl, by rw [if_neg (by omega)]; exact .nil, by rw [e]; exact hr1, h1⟩
  · have h0 : A.h ≠ 0 := by simp only [beq_eq_false_iff_ne, ne_eq] at hc; omega
    simp only [gt_iff_lt, decide_eq_false_iff_not] at hc2
    have e : A.letgo = { A with h := A.h - 1, s := trn 4 0 A.s } := by unfold AM.letgo; rw [if_neg h0, if_neg (by omega), show A.h - 1 = 0 by omega]; rfl
    obtain ⟨v, S2, e2, a, c, Ld, L2, rfl, hs, hr2, h2⟩ := fturn_ok n hn hr1 h1 4 0 (y1 := 4) (y2 := 0) rfl rfl
    rw [callL_of e2, if_pos (by omega), e]
    exact ok_ret ⟨a, c, Ld, L2, rfl, hs, hr2, h2⟩

theorem fbitmap_loop (n0 n : Nat) {bs : Nat} {ta : Option Pos} {tl : Nat} {tc : Cap} {ga : Option Pos} {gl : Nat} {gc : Cap} {Lt Lg : List Ent} {bm : Nat} (hr : RfR A ta tl tc ga gl gc Lt Lg)
    (ht : ∀ S', Hp X S' (C bm (row .u8 (bits A.s)) :: (fblks b A bs ta tl tc ga gl gc Lt Lg ++ F)) → Q (.sl (some (.rw bm, 0)) ((A.s.length + 7) / 8) (.ex ((A.s.length + 7) / 8))) S') : ∀ (m i : Nat) (S : AS), i ≤ A.s.length → A.s.length - i < m → Hp X S (C bm (row .u8 (bitsTo A.s i)) :: (fblks b A bs ta tl tc ga gl gc Lt Lg ++ F)) →
    Ok (J57_l1_1_0_1_0 (evF E orcL n) n0 m (some (.rw b, 0)) (some (.rw bm, 0)) ((A.s.length + 7) / 8) (.ex ((A.s.length + 7) / 8)) i S) Q
  | 0, i, S, hi, hm, h => by omega
  | m + 1, i, S, hi, hm, h => by
    have hn := hr.n2
    rw [J57_l1_1_0_1_0_succ]
    simp only [b57_l1_1_0_1_0]
    refine ok_gO (ok_ldL h rfl (ok_cond (fun hc => ?_) (fun hc => ?_)))
    · simp only [decide_eq_true_eq] at hc
      have hlt : i < A.s.length := by omega
      obtain ⟨y, hy⟩ : ∃ y, A.s[i]? = some y := ⟨_, List.getElem?_eq_getElem hlt⟩
      have hb8 : i / 8 < (A.s.length + 7) / 8 := by omega
      have next : ∀ S1, Hp X S1 (C bm (row .u8 (bitsTo A.s (i + 1))) :: (fblks b A bs ta tl tc ga gl gc Lt Lg ++ F)) → Ok (J57_j1_1_0_1_0_0_1_1 (evF E orcL n) n0 (J57_l1_1_0_1_0 (evF E orcL n) n0 m) (some (.rw b, 0)) (some (.rw bm, 0)) ((A.s.length + 7) / 8) (.ex ((A.s.length + 7) / 8)) i S1) Q := by
        intro S1 h1
        simp only [J57_j1_1_0_1_0_0_1_1, b57_j1_1_0_1_0_0_1_1]
        rw [wn (x := (i : Int) + 1) (n := i + 1) (by omega) (by omega)]
        exact fbitmap_loop n0 n hr ht m (i + 1) S1 (by omega) (by omega) h1
      have hw : IntKind.wrap .i64 (Int.tdiv (i : Int) 8) = ((i / 8 : Nat) : Int) := by rw [tdiv8, wrap64 (by omega) (by omega)]
      have hu : IntKind.wrap .u64 (Int.tmod (i : Int) 8) = ((i % 8 : Nat) : Int) := by rw [tmod8]; exact wrapU8 ⟨i % 8, Nat.mod_lt _ (by decide)⟩
      obtain ⟨z, hz⟩ : ∃ z, (bitsTo A.s i)[i / 8]? = some z := ⟨(bitsTo A.s i)[i / 8]'(by rw [bitsTo_len]; exact hb8), by simp [bitsTo_len, hb8]⟩
      have hz2 := bitsTo_lt A.s i z (List.mem_of_getElem? hz)
      have lay : (y = 1 ∨ y = 3) → ∀ K : AS → Option (AV × AS), (∀ S2, Hp X S2 (C bm (row .u8 (bitsTo A.s (i + 1))) :: (fblks b A bs ta tl tc ga gl gc Lt Lg ++ F)) → Ok (K S2) Q) →
          Ok (ixSl 1 (some (.rw bm, 0)) ((A.s.length + 7) / 8) (IntKind.wrap .i64 (Int.tdiv i 8)) fun p11 => ldI .u8 S p11.1 p11.2 fun v12 => nneg (IntKind.wrap .u64 (Int.tmod i 8)) <| ixSl 1 (some (.rw bm, 0)) ((A.s.length + 7) / 8) (IntKind.wrap .i64 (Int.tdiv i 8)) fun p13 => S.stn p13.1 p13.2 [(.int .u8 (orI .u8 v12 (shlI .u8 1 (IntKind.wrap .u64 (Int.tmod i 8)))))] fun S14 => K S14) Q := by
        intro hy13 K hK
        refine ok_ixSl (k := i / 8) hw hb8 ?_
        simp only [Nat.zero_add, Nat.mul_one]
        refine ok_ldI h (row_at hz) ?_
        refine ok_nneg (by rw [hu]; omega) ?_
        refine ok_ixSl (k := i / 8) hw hb8 ?_
        simp only [Nat.zero_add, Nat.mul_one]
        have e := orI_bit ⟨z, hz2⟩ ⟨i % 8, Nat.mod_lt _ (by decide)⟩
        simp only at e
        rw [hu, e]
        refine ok_stn h (by rw [row_len, bitsTo_len]; simp; omega) (d := row .u8 (bitsTo A.s (i + 1))) ?_ (fun S2 h2 => hK S2 h2)
        rw [row_splice _ (by rw [bitsTo_len]; exact hb8), bitsTo, if_pos (by rcases hy13 with rfl | rfl <;> simp [hy]), putBit]
        simp [List.getD, hz]
      refine ok_gO (ok_ldL h rfl (ok_ixSl (k := i) rfl hlt ?_))
      simp only [Nat.zero_add, Nat.mul_one]
      refine ok_ldI h (row_at hy) ?_
      refine ok_cond (fun hc => ?_) (fun hc => ?_)
      · simp only [beq_iff_eq] at hc
        exact lay (.inl (by omega)) _ (fun S2 h2 => next S2 h2)
      · simp only [beq_eq_false_iff_ne, ne_eq] at hc
        refine ok_gO (ok_ldL h rfl (ok_ixSl (k := i) rfl hlt ?_))
        simp only [Nat.zero_add, Nat.mul_one]
        refine ok_ldI h (row_at hy) ?_
        refine ok_cond (fun hc3 => ?_) (fun hc3 => ?_)
        · simp only [beq_iff_eq] at hc3
          exact lay (.inr (by omega)) _ (fun S2 h2 => next S2 h2)
        · simp only [beq_eq_false_iff_ne, ne_eq] at hc3
          refine next S ?_
          rw [bitsTo, if_neg (by rw [hy]; simp; omega)]
          exact h
    · simp only [decide_eq_false_iff_not] at hc
      have hk' : i = A.s.length := by omega
      subst hk'
      exact ok_ret (ht S h)

theorem fbitmap_ok (n : Nat) (hn : 70000 < n) (h : Hp X S (L ++ F)) (hr : Rf b A L) :
    Ok (ev (n + 1) (.fn 57) [.ptr (some (.rw b, 0))] S) fun v S' => ∃ bm, v = .sl (some (.rw bm, 0)) ((A.s.length + 7) / 8) (.ex ((A.s.length + 7) / 8)) ∧ Hp X S' (C bm (row .u8 (bits A.s)) :: (L ++ F)) := by
  obtain ⟨bs, ta, tl, tc, ga, gl, gc, Lt, Lg, hr, rfl⟩ := hr
  have hn2 := hr.n2
  rw [ev, F57 _ _ _ (oL rfl)]
  simp only [J57, b57_entry]
  refine ok_gO (ok_ldL h rfl ?_)
  have hw : IntKind.wrap .i64 (Int.tdiv (IntKind.wrap .i64 (((A.s.length : Nat) : Int) + 7)) 8) = (((A.s.length + 7) / 8 : Nat) : Int) := by
    rw [wrap64 (n := ((A.s.length : Nat) : Int) + 7) (by omega) (by omega)]
    rw [show ((A.s.length : Nat) : Int) + 7 = ((A.s.length + 7 : Nat) : Int) by omega, tdiv8, wrap64 (by omega) (by omega)]
  refine ok_mkSl hw hw (Nat.le_refl _) (by simp [pow46]; omega) (by simp [pow46]; omega) ?_
  refine ok_newA h (fun bm S1 h1 => ?_)
  have e : zeros ((A.s.length + 7) / 8) [AV.int .u8 0] = row .u8 (bitsTo A.s 0) := by simp [zeros, row, bitsTo]
  rw [e] at h1
  exact fbitmap_loop n n hr (fun S' h' => ⟨bm, rfl, h'⟩) n 0 S1 (by omega) (by omega) h1

/-- The longest runs, from a free block on. -/
theorem fruns_in (n0 : Nat) (call : CallA) {bs : Nat} {ta : Option Pos} {tl : Nat} {tc : Cap} {ga : Option Pos} {gl : Nat} {gc : Cap} {Lt Lg Ld : List Ent} {O : Option Pos → Option Pos → Nat → Cap → Int → AS → Option (AV × AS)} {rows : List (Int × Int)} {a : Option Pos} {c : Cap} {i : Nat} (hr : RfR A ta tl tc ga gl gc Lt Lg) (hi : i < A.s.length) (hi0 : A.s[i]? = some 0) (hst : i = 0 ∨ A.s[i - 1]? ≠ some 0) (hrw : rows = runsTo A.s i) (hs : SlR a rows.length c 2 (rows.map arow) Ld) (h : Hp X S (Ld ++ (fblks b A bs ta tl tc ga gl gc Lt Lg ++ F)))
    (hO : ∀ (k : Nat) (rows : List (Int × Int)) (a : Option Pos) (c : Cap) (Ld : List Ent) (S : AS), i < k → k ≤ A.s.length → (k < A.s.length → A.s[k]? ≠ some 0) → rows = runsTo A.s k → SlR a rows.length c 2 (rows.map arow) Ld → Hp X S (Ld ++ (fblks b A bs ta tl tc ga gl gc Lt Lg ++ F)) → Ok (O (some (.rw b, 0)) a rows.length c ((k + 1 : Nat) : Int) S) Q) :
    ∀ (m n : Nat), i + n ≤ A.s.length → A.s.length - (i + n) < m → (∀ j, j < n → A.s[i + j]? = some 0) → Ok (J59_l1_1_0_1_0_0_1_0_0_1_1_0_0 call n0 O m (some (.rw b, 0)) a rows.length c i n S) Q
  | 0, n, hn, hm, hz => by omega
  | m + 1, n, hn, hm, hz => by
    have hn2 := hr.n2
    have hrl : rows.length ≤ i := by rw [hrw]; exact runsTo_len _ _
    rw [J59_l1_1_0_1_0_0_1_0_0_1_1_0_0_succ]
    simp only [b59_l1_1_0_1_0_0_1_0_0_1_1_0_0]
    have e1 : IntKind.wrap .i64 ((i : Int) + (n : Int)) = (i + n : Nat) := wn (by omega) (by omega)
    have e2 : IntKind.wrap .i64 (((i + n : Nat) : Int) + 1) = (i + n + 1 : Nat) := wn (by omega) (by omega)
    rw [e1, e2]
    have fin : 1 ≤ n → (i + n < A.s.length → A.s[i + n]? ≠ some 0) → Ok (newA S (.cells [(.int .i64 i), (.int .i64 n)]) fun b13 S14 =>
        appendA 2 16 S14 a rows.length c 1 (firstA S14 2 1 (.sl (some (.rw b13, 0)) 1 (.ex 1))) fun v15a v15l v15c S16 =>
        O (some (.rw b, 0)) v15a v15l v15c ((i + n + 1 : Nat) : Int) S16) Q := by
      intro h1n hstop
      refine ok_newA h (fun b5 S6 h6' => ?_)
      have h7 := h6'.re (M := Ld ++ (C b5 [.int .i64 i, .int .i64 n] :: (fblks b A bs ta tl tc ga gl gc Lt Lg ++ F))) (by intro p; simp only [List.countP_append, List.countP_cons, C]; omega)
      refine ok_append h7 hs (ys := [arow ((i : Int), (n : Int))]) (by simp [arow]) rfl (fun K => ?_) (by decide) (by simp [pow46]; omega) (by simp [pow46]; omega) (fun a3 l3 c3 S3 L3 ht' h3 => ?_)
      · have := RdR.first (.rw (X := X) (b := b5) (i := 0) (c := [.int .i64 i, .int .i64 n]) (cs := [.int .i64 i, .int .i64 n]) (L := _) (List.mem_append_right Ld List.mem_cons_self) (by simp) rfl) h7 (sz := 2) (n := 1) rfl (by decide) (l := 1) (c := .ex 1) K
        simpa [arow] using this
      · have e : rows.map arow ++ [arow ((i : Int), (n : Int))] = (rows ++ [((i : Int), (n : Int))]).map arow := by simp
        rw [e] at ht'
        obtain rfl : l3 = (rows ++ [((i : Int), (n : Int))]).length := by have := ht'.len; simpa using this
        exact hO (i + n) _ a3 c3 L3 S3 (by omega) hn hstop (by rw [hrw]; exact (runsTo_run hst n h1n hz).symm) ht' (h3.re (M := C b5 [.int .i64 i, .int .i64 n] :: (L3 ++ (fblks b A bs ta tl tc ga gl gc Lt Lg ++ F))) (by intro p; simp only [List.countP_append, List.countP_cons, C]; omega)).drop1
    refine ok_gO (ok_ldL h rfl (ok_cond (fun hc => ?_) (fun hc => ?_)))
    · simp only [decide_eq_true_eq] at hc
      obtain ⟨y, hy⟩ : ∃ y, A.s[i + n]? = some y := ⟨_, List.getElem?_eq_getElem (by omega)⟩
      refine ok_gO (ok_ldL h rfl (ok_ixSl (k := i + n) rfl (by omega) ?_))
      simp only [Nat.zero_add, Nat.mul_one]
      refine ok_ldI h (row_at hy) ?_
      refine ok_cond (fun he => ?_) (fun he => ?_)
      · have he : y = 0 := by simp only [beq_iff_eq] at he; omega
        subst he
        rw [wn (x := (n : Int) + 1) (n := n + 1) (by omega) (by omega)]
        refine fruns_in n0 call hr hi hi0 hst hrw hs h hO m (n + 1) (by omega) (by omega) (fun j hj => ?_)
        by_cases e : j = n
        · rw [e]; exact hy
        · exact hz j (by omega)
      · have he : y ≠ 0 := by simp only [beq_eq_false_iff_ne, ne_eq] at he; omega
        refine fin ?_ (fun _ => by rw [hy]; simpa using he)
        by_cases hn0 : n = 0
        · subst hn0
          rw [Nat.add_zero, hi0] at hy
          cases hy; exact absurd rfl he
        · omega
    · simp only [decide_eq_false_iff_not] at hc
      exact fin (by omega) (fun _ => by omega)

theorem fruns_loop (n0 : Nat) (call : CallA) {bs : Nat} {ta : Option Pos} {tl : Nat} {tc : Cap} {ga : Option Pos} {gl : Nat} {gc : Cap} {Lt Lg : List Ent} (hr : RfR A ta tl tc ga gl gc Lt Lg) (hn0 : 70000 < n0) :
    ∀ (m i : Nat) (rows : List (Int × Int)) (a : Option Pos) (c : Cap) (Ld : List Ent) (S : AS), i ≤ A.s.length + 1 → A.s.length + 1 - i < m → (i = 0 ∨ (i ≤ A.s.length ∧ A.s[i - 1]? ≠ some 0) ∨ i = A.s.length + 1) → rows = runsTo A.s (min i A.s.length) → SlR a rows.length c 2 (rows.map arow) Ld → Hp X S (Ld ++ (fblks b A bs ta tl tc ga gl gc Lt Lg ++ F)) →
      Ok (J59_l1_1_0_1_0 call n0 m (some (.rw b, 0)) a rows.length c i S) (RunsS X (fblks b A bs ta tl tc ga gl gc Lt Lg ++ F) (runsTo A.s A.s.length))
  | 0, i, rows, a, c, Ld, S, hi, hm, hst, hrw, hs, h => by omega
  | m + 1, i, rows, a, c, Ld, S, hi, hm, hst, hrw, hs, h => by
    have hn2 := hr.n2
    rw [J59_l1_1_0_1_0_succ]
    simp only [b59_l1_1_0_1_0]
    refine ok_gO (ok_ldL h rfl (ok_cond (fun hc => ?_) (fun hc => ?_)))
    · simp only [decide_eq_true_eq] at hc
      have hlt : i < A.s.length := by omega
      rw [Nat.min_eq_left (by omega)] at hrw
      have hst' : i = 0 ∨ A.s[i - 1]? ≠ some 0 := by
        rcases hst with h | h | h
        · exact .inl h
        · exact .inr h.2
        · omega
      obtain ⟨y, hy⟩ : ∃ y, A.s[i]? = some y := ⟨_, List.getElem?_eq_getElem hlt⟩
      refine ok_gO (ok_ldL h rfl (ok_ixSl (k := i) rfl hlt ?_))
      simp only [Nat.zero_add, Nat.mul_one]
      refine ok_ldI h (row_at hy) ?_
      refine ok_cond (fun he => ?_) (fun he => ?_)
      · have he : y ≠ 0 := by simp only [bne_iff_ne, ne_eq] at he; omega
        rw [wn (x := (i : Int) + 1) (n := i + 1) (by omega) (by omega)]
        refine fruns_loop n0 call hr hn0 m (i + 1) rows a c Ld S (by omega) (by omega) (.inr (.inl ⟨by omega, by rw [Nat.add_sub_cancel, hy]; simpa using he⟩)) ?_ hs h
        rw [Nat.min_eq_left (by omega), runsTo_ne (by rw [hy]; simpa using he)]
        exact hrw
      · have he : y = 0 := by simp only [bne_eq_false_iff_eq] at he; omega
        subst he
        refine fruns_in n0 call hr hlt hy hst' hrw hs h (fun k rows a c Ld S hk1 hk2 hk3 hrw hs h => ?_) n0 0 (by omega) (by omega) (fun j hj => by omega)
        refine fruns_loop n0 call hr hn0 m (k + 1) rows a c Ld S (by omega) (by omega) ?_ ?_ hs h
        · by_cases hkl : k < A.s.length
          · exact .inr (.inl ⟨by omega, by rw [Nat.add_sub_cancel]; exact hk3 hkl⟩)
          · exact .inr (.inr (by omega))
        · by_cases hkl : k < A.s.length
          · rw [Nat.min_eq_left (by omega), runsTo_ne (hk3 hkl)]; exact hrw
          · rw [Nat.min_eq_right (by omega), hrw, show k = A.s.length by omega]
    · simp only [decide_eq_false_iff_not] at hc
      rw [Nat.min_eq_right (by omega)] at hrw
      subst hrw
      exact ok_ret ⟨a, c, Ld, rfl, hs, h⟩

theorem fruns_ok (n : Nat) (hn : 70000 < n) (h : Hp X S (L ++ F)) (hr : Rf b A L) : Ok (ev (n + 1) (.fn 59) [.ptr (some (.rw b, 0))] S) (RunsS X (L ++ F) (runsTo A.s A.s.length)) := by
  obtain ⟨bs, ta, tl, tc, ga, gl, gc, Lt, Lg, hr, rfl⟩ := hr
  have hn2 := hr.n2
  rw [ev, F59 _ _ _ (oL rfl)]
  simp only [J59, b59_entry]
  exact fruns_loop n (evF E orcL n) hr hn n 0 [] none (.ex 0) [] S (by omega) (by omega) (.inl rfl) (by simp [runsTo]) .nil h

/-- Two lists of runs are compared. -/
theorem fpairs_eq (n : Nat) (hn : 70000 < n) {a a2 : Option Pos} {c c2 : Cap} {d : List (Int × Int)} (hd : d.length ≤ 65536) (h : Hp X S L) (hr : RdR X L a (d.map arow).flatten) (hr2 : RdR X L a2 (d.map arow).flatten) :
    ev (n + 1) (.fn 58) [.sl a d.length c, .sl a2 d.length c2] S = some (.bool true, S) := by
  rw [ev, F58 _ _ _ _ _ _ _ _ (oL rfl)]
  simp only [J58, b58_entry]
  have e1 : (((d.length : Nat) : Int) != ((d.length : Nat) : Int)) = false := by simp
  rw [e1]
  simp only [cond_false]
  have hfz : ∀ z ∈ d.map arow, fitZ (ty54).zero z = true := fun z hz => by obtain ⟨w, _, rfl⟩ := List.mem_map.1 hz; rfl
  obtain ⟨r, e, h1⟩ := eq_loop (X := X) (S := S) (Lp := fun m i S => J58_l1_1_0_1_0 (evF E orcL n) n m a d.length c a2 d.length c2 false i S) (n := d.length) (fun m i S => by rw [J58_l1_1_0_1_0_succ]; rfl) h hr hr2 (by simp) (by simp) (by simp) (by simp) (arow_all d) (arow_all d) (by decide) rfl hfz hfz (fun z hz v hv => by obtain ⟨w, _, rfl⟩ := List.mem_map.1 hz; simp only [arow, List.mem_cons, List.not_mem_nil, or_false] at hv; rcases hv with rfl | rfl <;> trivial) (by omega) n 0 (by omega) (by omega)
  have e' : J58_l1_1_0_1_0 (evF E orcL n) n n a d.length c a2 d.length c2 false 0 S = some (.bool r, S) := e
  rw [e', h1.2 rfl]

end

end Go.Al

namespace Go.Al
open Go.Gr

theorem AM.WF.act {A : AM} (hw : A.WF) (k x : Int) : (A.act k x).WF := by
  unfold AM.act
  split
  · exact hw.take x
  split
  · exact hw.res x
  split
  · exact hw.give x
  split
  · exact hw.mark x
  split
  · exact hw.reserve x
  split
  · exact hw.release x
  split
  · exact hw.commit
  split
  · exact hw.abort
  split
  · exact hw.withH _
  split
  · exact hw.letgo
  · exact hw
theorem AM.act_len (A : AM) (k x : Int) : (A.act k x).s.length = A.s.length := by
  unfold AM.act
  repeat' split
  all_goals simp
theorem AM.act_h (A : AM) (k x : Int) : (A.act k x).h ≤ A.h + 1 := by
  unfold AM.act
  repeat' split
  all_goals first | (simp; done) | (rw [AM.letgo_h]; omega)

section
variable {X : Cx} {S : AS} {L F : List Ent} {b : Nat} {A : AM} {Q : AV → AS → Prop}

abbrev FLoadQ (X : Cx) (F : List Ent) (x : Int) (bm : List Nat) : AV → AS → Prop := fun v S' =>
    (¬ right x ∧ v = .tup [.ptr none, .int .i64 2] ∧ Hp X S' F) ∨
    (right x ∧ ¬ fits bm x.toNat ∧ v = .tup [.ptr none, .int .i64 102] ∧ Hp X S' F) ∨
    (right x ∧ fits bm x.toNat ∧ ∃ b L, v = .tup [.ptr (some (.rw b, 0)), .int .i64 0] ∧ Rf b ⟨ld bm x.toNat, [], [], 0, 0⟩ L ∧ Hp X S' (L ++ F))

theorem fload_loop (n0 : Nat) (call : CallA) {k : Nat} (hk : right (k : Int)) {bm : List Nat} (hb : ∀ y ∈ bm, y < 256) (hl : bm.length = (k + 7) / 8) {a : Option Pos} {c : Cap} (hr : RdR X F a (row .u8 bm)) {b : Nat} :
    ∀ (m i : Nat) (w4 w5 : AV) (L : List Ent) (S : AS), i ≤ 8 * bm.length → 8 * bm.length - i < m → (∀ j, k ≤ j → j < i → bitAt bm j = false) → Rf b ⟨ldTo bm k i, [], [], 0, 0⟩ L → Hp X S (L ++ F) →
      Ok (J30_l1_1_1_1_0_1_0 call n0 m k a bm.length c w4 w5 (some (.rw b, 0)) i S) (FLoadQ X F k bm)
  | 0, i, w4, w5, L, S, hi, hm, hz, ha, h => by omega
  | m + 1, i, w4, w5, L, S, hi, hm, hz, ha, h => by
    have hk2 := hk
    unfold right at hk2
    rw [J30_l1_1_1_1_0_1_0_succ]
    simp only [b30_l1_1_1_1_0_1_0]
    rw [wn (x := 8 * ((bm.length : Nat) : Int)) (n := 8 * bm.length) (by omega) (by omega)]
    refine ok_cond (fun hc => ?_) (fun hc => ?_)
    · simp only [decide_eq_true_eq] at hc
      have hlt : i / 8 < bm.length := by omega
      have hw : IntKind.wrap .i64 (Int.tdiv (i : Int) 8) = ((i / 8 : Nat) : Int) := by rw [tdiv8, wrap64 (by omega) (by omega)]
      have hu : IntKind.wrap .u64 (Int.tmod (i : Int) 8) = ((i % 8 : Nat) : Int) := by rw [tmod8]; exact wrapU8 ⟨i % 8, Nat.mod_lt _ (by decide)⟩
      obtain ⟨y, hy⟩ : ∃ y, bm[i / 8]? = some y := ⟨_, List.getElem?_eq_getElem hlt⟩
      have hy2 := hb y (List.mem_of_getElem? hy)
      have hrm : RdR X (L ++ F) a (row .u8 bm) := hr.mono (fun e he => by simp [he])
      obtain ⟨p, hp⟩ := hrm.some_of (by intro he; rw [← row_len .u8 bm, he] at hlt; simp at hlt)
      rw [hp] at hrm ⊢
      rw [hw, ixSl_at rfl hlt]
      simp only [Nat.mul_one]
      rw [hrm.ldI h (row_at hy)]
      refine ok_nneg (by rw [hu]; omega) ?_
      have e2 := bit0 ⟨y, hy2⟩ ⟨i % 8, Nat.mod_lt _ (by decide)⟩
      simp only at e2
      rw [hu, e2]
      have hbit : y.testBit (i % 8) = bitAt bm i := by simp [bitAt, List.getD_eq_getElem?_getD, hy]
      rw [hbit]
      have next : ∀ (L : List Ent) (S : AS), (∀ j, k ≤ j → j < i + 1 → bitAt bm j = false) → Rf b ⟨ldTo bm k (i + 1), [], [], 0, 0⟩ L → Hp X S (L ++ F) →
          Ok (J30_j1_1_1_1_0_1_0_0_1_1 call n0 (J30_l1_1_1_1_0_1_0 call n0 m) k (some p) bm.length c (some (.rw b, 0)) i S) (FLoadQ X F k bm) := by
        intro L S e1 e2 e3
        simp only [J30_j1_1_1_1_0_1_0_0_1_1, b30_j1_1_1_1_0_1_0_0_1_1]
        rw [wn (x := (i : Int) + 1) (n := i + 1) (by omega) (by omega)]
        rw [← hp]
        exact fload_loop n0 call hk hb hl hr m (i + 1) .undef .undef L S (by omega) (by omega) e1 e2 e3
      refine ok_cond (fun hbt => ?_) (fun hbt => ?_)
      · simp only [Bool.not_eq_true'] at hbt
        refine next L S (fun j h1 h2 => ?_) (by rw [ldTo, if_neg (by simp [hbt])]; exact ha) h
        by_cases e : j = i
        · rw [e]; exact hbt
        · exact hz j h1 (by omega)
      · simp only [Bool.not_eq_false'] at hbt
        refine ok_cond (fun hge => ?_) (fun hge => ?_)
        · simp only [ge_iff_le, decide_eq_true_eq] at hge
          refine ok_ret (.inr (.inl ⟨hk, fun hf => ?_, rfl, h.sub (List.sublist_append_right _ _)⟩))
          have := hf.2 i (by simp; omega) (by omega)
          rw [hbt] at this
          cases this
        · simp only [ge_iff_le, decide_eq_false_iff_not] at hge
          obtain ⟨bs, ta, tl, tc, ga, gl, gc, Lt, Lg, hr0, rfl⟩ := ha
          refine fput_ok (i := i) (v := 1) rfl rfl (by simp; omega) hr0 h (fun S1 hr1 h1 => next _ S1 (fun j h1 h2 => ?_) (by rw [ldTo, if_pos hbt]; exact ⟨bs, ta, tl, tc, ga, gl, gc, Lt, Lg, hr1, rfl⟩) h1)
          by_cases e : j = i
          · omega
          · exact hz j h1 (by omega)
    · simp only [decide_eq_false_iff_not] at hc
      obtain rfl : i = 8 * bm.length := by omega
      simp only [J30_j1_1_1_1_1, b30_j1_1_1_1_1]
      exact ok_ret (.inr (.inr ⟨hk, ⟨by simpa using hl, fun j h1 h2 => hz j (by simpa using h1) h2⟩, b, L, rfl, by simpa [ld] using ha, h⟩))

theorem fload_ok (n : Nat) (hn : 1000000 < n) (h : Hp X S F) {bm : List Nat} (hb : ∀ y ∈ bm, y < 256) (hbl : bm.length ≤ 65536) {a : Option Pos} {c : Cap} (hr : RdR X F a (row .u8 bm)) (x : Int) :
    Ok (ev (n + 2) (.fn 30) [.int .i64 x, .sl a bm.length c] S) (FLoadQ X F x bm) := by
  rw [ev, F30 _ _ _ _ _ _ (oL rfl)]
  simp only [J30, b30_entry]
  obtain ⟨v, S1, e, hA⟩ : Ok (evF E orcL (n + 1) (.fn 41) [.int .i64 x] S) _ := fnew_ok n h x
  rcases hA with ⟨hx, rfl, rfl⟩ | ⟨hx, b, L, rfl, ha, h1⟩
  · rw [callT_of e]
    exact ok_atP rfl (ok_atI rfl (ok_true rfl (ok_ret (.inl ⟨hx, rfl, h⟩))))
  · rw [callT_of e]
    refine ok_atP rfl (ok_atI rfl (ok_false rfl ?_))
    have hx2 := hx
    unfold right at hx2
    obtain ⟨k, rfl⟩ : ∃ k : Nat, x = (k : Int) := ⟨x.toNat, by omega⟩
    rw [wrap64 (n := ((k : Nat) : Int) + 7) (by omega) (by omega), show ((k : Nat) : Int) + 7 = ((k + 7 : Nat) : Int) by omega, tdiv8, wrap64 (by omega) (by omega)]
    refine ok_cond (fun hc => ?_) (fun hc => ?_)
    · simp only [bne_iff_ne, ne_eq] at hc
      exact ok_ret (.inr (.inl ⟨hx, fun hf => hc (by have := hf.1; simp at this; omega), rfl, h1.sub (List.sublist_append_right _ _)⟩))
    · simp only [bne_eq_false_iff_eq] at hc
      exact fload_loop (n + 1) _ hx hb (by omega) hr (n + 1) 0 _ _ L S1 (by omega) (by omega) (by omega) ha h1

theorem ints_same (n : Nat) (hn : 70000 < n) {a a2 : Option Pos} {c c2 : Cap} {t : List Nat} {l l2 : Nat} (h1 : l = t.length) (h2 : l2 = t.length) (hd : t.length ≤ 70000) (h : Hp X S L) (hr : RdR X L a (row .i64 t)) (hr2 : RdR X L a2 (row .i64 t)) :
    ev (n + 1) (.fn 38) [.sl a l c, .sl a2 l2 c2] S = some (.bool true, S) := by
  rw [row_map] at hr hr2
  have := ints_eq n hn (d := t.map fun (n : Nat) => (n : Int)) (d2 := t.map fun (n : Nat) => (n : Int)) (c := c) (c2 := c2) (by simpa using hd) h hr hr2
  simp only [List.length_map, decide_true] at this
  subst h1 h2
  exact this

/-- Both allocators behind an act. -/
abbrev ActS (X : Cx) (F : List Ent) (b2 : Nat) (A : AM) (k x : Int) : AV → AS → Prop := fun v S' => ∃ (b : Nat) (L' L2' M' : List Ent), v = .tup [.ptr (some (.rw b, 0)), .bool true] ∧ Alloc b (A.act k x) L' ∧ Rf b2 (A.act k x) L2' ∧ Hp X S' (L' ++ (L2' ++ (M' ++ F)))

theorem actS (n : Nat) (hn : 1000000 < n) {b2 : Nat} {L2 : List Ent} (h : Hp X S (L ++ (L2 ++ F))) (ha : Alloc b A L) (hw : A.WF) (hA : A.s.length < 256) (hh : A.h < 1000) (hr : Rf b2 A L2) {k x : Int} :
    Ok (ev (n + 302) (.fn 31) [.ptr (some (.rw b, 0)), .ptr (some (.rw b2, 0)), .agg [.int .i64 k, .int .i64 x]] S) (ActS X F b2 A k x) := by
  have hwt := hw.tl
  have hwg := hw.gl
  have hwn := hw.n2
  rw [ev, F31 _ _ _ _ _ (oL rfl)]
  simp only [J31, b31_entry]
  refine ok_ifO rfl (ok_newA h (fun b1 S2 h1 => ok_ldI h1 rfl ?_))
  have h2 := h1.re (M := L ++ (L2 ++ (C b1 [.int .i64 k, .int .i64 x] :: F))) (by intro p; simp only [List.countP_append, List.countP_cons, C]; omega)
  have fin : ∀ {p : Bool} {S' : AS} {A' : AM} {L' L2' M' : List Ent}, p = true → A.act k x = A' → Alloc b A' L' → Rf b2 A' L2' → Hp X S' (L2' ++ (L' ++ (M' ++ F))) → Ok (some (AV.tup [.ptr (some (.rw b, 0)), .bool p], S')) (ActS X F b2 A k x) :=
    fun {p S' A' L' L2' M'} ep e0 e1 e5 e6 => ok_ret ⟨b, L', L2', M', by rw [ep], by rw [e0]; exact e1, by rw [e0]; exact e5, e6.re (by intro p; simp only [List.countP_append]; omega)⟩
  -- Take
  refine ok_cond (fun hc => ?_) (fun n1 => ?_)
  · have hk1 : A.act k x = A.take x := by simp only [beq_iff_eq] at hc; simp [AM.act, hc]
    refine ok_ldI h1 rfl ?_
    obtain ⟨v, S3, e, rfl, L3, ha3, h3⟩ : Ok (evF E orcL (n + 301) (.fn 13) [.ptr (some (.rw b, 0)), .int .i64 x] S2) _ := take_ok (n + 298) (by omega) h2 ha (by omega) x
    rw [callT_of e]
    refine ok_atI rfl (ok_atI rfl (ok_ldI h3 rfl ?_))
    obtain ⟨v, S4, e, L4, rfl, hr4, h4⟩ : Ok (evF E orcL (n + 301) (.fn 47) [.ptr (some (.rw b2, 0)), .int .i64 x] S3) (F2 X (L3 ++ (C b1 [.int .i64 k, .int .i64 x] :: F)) b2 (A.take x) (A.takeV x) (A.takeE x)) := fTake_ok (n + 299) (by omega) (by omega) hr (h3.re (by intro p; simp only [List.countP_append, List.countP_cons, C]; omega)) x
    rw [callT_of e]
    refine ok_atI rfl (ok_atI rfl ?_)
    have e1 := num_eq (n + 300) (A.takeE x) S4
    refine ok_true (by simp) ?_
    rw [callI_of e1]
    exact fin (M' := [C b1 [.int .i64 k, .int .i64 x]]) (by simp) hk1 ha3 hr4 h4
  -- TakeReserved
  refine ok_cond (fun hc => ?_) (fun n2 => ?_)
  · have hk1 : A.act k x = A.res x := by simp only [beq_iff_eq] at hc; simp [AM.act, hc]
    refine ok_ldI h1 rfl ?_
    obtain ⟨v, S3, e, rfl, L3, ha3, h3⟩ : Ok (evF E orcL (n + 301) (.fn 20) [.ptr (some (.rw b, 0)), .int .i64 x] S2) _ := res_ok (n + 298) (by omega) h2 ha hw x
    rw [callT_of e]
    refine ok_atI rfl (ok_atI rfl (ok_ldI h3 rfl ?_))
    obtain ⟨v, S4, e, L4, rfl, hr4, h4⟩ : Ok (evF E orcL (n + 301) (.fn 48) [.ptr (some (.rw b2, 0)), .int .i64 x] S3) (F2 X (L3 ++ (C b1 [.int .i64 k, .int .i64 x] :: F)) b2 (A.res x) (A.resV x) (A.resE x)) := fRes_ok (n + 299) (by omega) (by omega) hw.rf hr (h3.re (by intro p; simp only [List.countP_append, List.countP_cons, C]; omega)) x
    rw [callT_of e]
    refine ok_atI rfl (ok_atI rfl ?_)
    have e1 := num_eq (n + 300) (A.resE x) S4
    refine ok_true (by simp) ?_
    rw [callI_of e1]
    exact fin (M' := [C b1 [.int .i64 k, .int .i64 x]]) (by simp) hk1 ha3 hr4 h4
  -- Give
  refine ok_cond (fun hc => ?_) (fun n3 => ?_)
  · have hk1 : A.act k x = A.give x := by simp only [beq_iff_eq] at hc; simp [AM.act, hc]
    refine ok_ldI h1 rfl ?_
    obtain ⟨v, S3, e, rfl, L3, ha3, h3⟩ : Ok (evF E orcL (n + 301) (.fn 21) [.ptr (some (.rw b, 0)), .int .i64 x] S2) _ := give_ok (n + 298) (by omega) h2 ha hw x
    rw [callI_of e, callI_of (num_eq (n + 300) (A.giveE x) S3)]
    refine ok_ldI h3 rfl (ok_ldI h3 rfl (ok_true (by simp [AV.beq]) (ok_ldI h2 rfl (ok_true (by simp [AV.beq]) ?_))))
    obtain ⟨v, S4, e, L4, rfl, hr4, h4⟩ : Ok (evF E orcL (n + 301) (.fn 49) [.ptr (some (.rw b2, 0)), .int .i64 x] S3) (F1 X (L3 ++ (C b1 [.int .i64 k, .int .i64 x] :: F)) b2 (A.give x) (A.giveE x)) := fGive_ok (n + 299) (by omega) hw (by omega) hr (h3.re (by intro p; simp only [List.countP_append, List.countP_cons, C]; omega)) x
    rw [callI_of e]
    exact fin (M' := [C b1 [.int .i64 k, .int .i64 x]]) (by simp) hk1 ha3 hr4 h4
  -- Mark
  refine ok_cond (fun hc => ?_) (fun n4 => ?_)
  · have hk1 : A.act k x = A.mark x := by simp only [beq_iff_eq] at hc; simp [AM.act, hc]
    refine ok_ldI h1 rfl ?_
    obtain ⟨v, S3, e, rfl, L3, ha3, h3⟩ : Ok (evF E orcL (n + 301) (.fn 35) [.ptr (some (.rw b, 0)), .int .i64 x] S2) _ := mark_ok (n + 298) (by omega) h2 ha hw x
    rw [callI_of e, callI_of (num_eq (n + 300) (A.markE x) S3)]
    refine ok_ldI h3 rfl (ok_ldI h3 rfl (ok_true (by simp [AV.beq]) (ok_ldI h2 rfl (ok_true (by simp [AV.beq]) ?_))))
    obtain ⟨v, S4, e, L4, rfl, hr4, h4⟩ : Ok (evF E orcL (n + 301) (.fn 50) [.ptr (some (.rw b2, 0)), .int .i64 x] S3) (F1 X (L3 ++ (C b1 [.int .i64 k, .int .i64 x] :: F)) b2 (A.mark x) (A.markE x)) := fMark_ok (n + 299) (by omega) (by omega) hr (h3.re (by intro p; simp only [List.countP_append, List.countP_cons, C]; omega)) x
    rw [callI_of e]
    exact fin (M' := [C b1 [.int .i64 k, .int .i64 x]]) (by simp) hk1 ha3 hr4 h4
  -- Reserve
  refine ok_cond (fun hc => ?_) (fun n5 => ?_)
  · have hk1 : A.act k x = A.reserve x := by simp only [beq_iff_eq] at hc; simp [AM.act, hc]
    refine ok_ldI h1 rfl ?_
    obtain ⟨v, S3, e, rfl, L3, ha3, h3⟩ : Ok (evF E orcL (n + 301) (.fn 22) [.ptr (some (.rw b, 0)), .int .i64 x] S2) _ := reserve_ok (n + 300) h2 ha hw x
    rw [callI_of e, callI_of (num_eq (n + 300) (A.reserveE x) S3)]
    refine ok_ldI h3 rfl (ok_ldI h3 rfl (ok_true (by simp [AV.beq]) (ok_ldI h2 rfl (ok_true (by simp [AV.beq]) ?_))))
    obtain ⟨v, S4, e, L4, rfl, hr4, h4⟩ : Ok (evF E orcL (n + 301) (.fn 51) [.ptr (some (.rw b2, 0)), .int .i64 x] S3) (F1 X (L3 ++ (C b1 [.int .i64 k, .int .i64 x] :: F)) b2 (A.reserve x) (A.reserveE x)) := fReserve_ok (n + 299) (by omega) hw.rf hr (h3.re (by intro p; simp only [List.countP_append, List.countP_cons, C]; omega)) x
    rw [callI_of e]
    exact fin (M' := [C b1 [.int .i64 k, .int .i64 x]]) (by simp) hk1 ha3 hr4 h4
  -- Release
  refine ok_cond (fun hc => ?_) (fun n6 => ?_)
  · have hk1 : A.act k x = A.release x := by simp only [beq_iff_eq] at hc; simp [AM.act, hc]
    refine ok_ldI h1 rfl ?_
    obtain ⟨v, S3, e, rfl, L3, ha3, h3⟩ : Ok (evF E orcL (n + 301) (.fn 36) [.ptr (some (.rw b, 0)), .int .i64 x] S2) _ := release_ok (n + 300) h2 ha hw x
    rw [callI_of e, callI_of (num_eq (n + 300) (A.releaseE x) S3)]
    refine ok_ldI h3 rfl (ok_ldI h3 rfl (ok_true (by simp [AV.beq]) (ok_ldI h2 rfl (ok_true (by simp [AV.beq]) ?_))))
    obtain ⟨v, S4, e, L4, rfl, hr4, h4⟩ : Ok (evF E orcL (n + 301) (.fn 52) [.ptr (some (.rw b2, 0)), .int .i64 x] S3) (F1 X (L3 ++ (C b1 [.int .i64 k, .int .i64 x] :: F)) b2 (A.release x) (A.releaseE x)) := fRelease_ok (n + 300) hw.rf hr (h3.re (by intro p; simp only [List.countP_append, List.countP_cons, C]; omega)) x
    rw [callI_of e]
    exact fin (M' := [C b1 [.int .i64 k, .int .i64 x]]) (by simp) hk1 ha3 hr4 h4
  -- Commit
  refine ok_cond (fun hc => ?_) (fun n7 => ?_)
  · have hk1 : A.act k x = A.commit := by simp only [beq_iff_eq] at hc; simp [AM.act, hc]
    obtain ⟨v, S3, e, ta, tc, ga, gc, L3, Mt, Mg, rfl, rdt, rdg, ha3, h3⟩ := commitS n hn h2 ha hw hA
    rw [callT_of e]
    refine ok_atL rfl (ok_atL rfl ?_)
    obtain ⟨v, S4, e, a, c, Ld, a2, c2, Ld2, L4, rfl, hs, hs2, hr4, h4⟩ : Ok (evF E orcL (n + 301) (.fn 53) [.ptr (some (.rw b2, 0))] S3) (FCom X (L3 ++ (Mt ++ (Mg ++ (C b1 [.int .i64 k, .int .i64 x] :: F)))) b2 A) := fcommit_ok (n + 299) (by omega) hw hr (h3.re (by intro p; simp only [List.countP_append, List.countP_cons, C]; omega))
    rw [callT_of e]
    refine ok_atL rfl (ok_atL rfl ?_)
    have hfin : Ok (some (AV.tup [.ptr (some (.rw b, 0)), .bool true], S4)) (ActS X F b2 A k x) := fin (M' := Ld ++ (Ld2 ++ (Mt ++ (Mg ++ [C b1 [.int .i64 k, .int .i64 x]])))) rfl hk1 ha3 hr4 (h4.re (by intro p; simp only [List.countP_append, List.countP_cons, List.countP_nil, C]; omega))
    have r1 := rdt.mono (M := L4 ++ (Ld ++ (Ld2 ++ (L3 ++ (Mt ++ (Mg ++ (C b1 [.int .i64 k, .int .i64 x] :: F))))))) (by intro e he; simp [he])
    have r2 := rdg.mono (M := L4 ++ (Ld ++ (Ld2 ++ (L3 ++ (Mt ++ (Mg ++ (C b1 [.int .i64 k, .int .i64 x] :: F))))))) (by intro e he; simp [he])
    have q1 := hs.rd (X := X) (M := L4 ++ (Ld ++ (Ld2 ++ (L3 ++ (Mt ++ (Mg ++ (C b1 [.int .i64 k, .int .i64 x] :: F))))))) (by intro e he; simp [he])
    have q2 := hs2.rd (X := X) (M := L4 ++ (Ld ++ (Ld2 ++ (L3 ++ (Mt ++ (Mg ++ (C b1 [.int .i64 k, .int .i64 x] :: F))))))) (by intro e he; simp [he])
    rw [ins_flat] at q1 q2
    have l1 := (posn_perm hw.td hw.ti).length_eq
    have l2 := (posn_perm hw.gd hw.gi).length_eq
    have e1 := ints_same (n + 300) (by omega) (l := A.t.length) (c := tc) (c2 := c) l1 rfl (by omega) h4 r1 q1
    rw [callB_of e1]
    refine ok_true rfl ?_
    have e2 := ints_same (n + 300) (by omega) (l := A.g.length) (c := gc) (c2 := c2) l2 rfl (by omega) h4 r2 q2
    rw [callB_of e2]
    exact hfin
  -- Abort
  refine ok_cond (fun hc => ?_) (fun n8 => ?_)
  · have hk1 : A.act k x = A.abort := by simp only [beq_iff_eq] at hc; simp [AM.act, hc]
    obtain ⟨v, S3, e, rfl, L3, M3, ha3, h3⟩ : Ok (evF E orcL (n + 301) (.fn 25) [.ptr (some (.rw b, 0))] S2) _ := abort_ok (n + 298) (by omega) h2 ha hw
    rw [callT_of e]
    obtain ⟨v, S4, e, L4, rfl, hr4, h4⟩ : Ok (evF E orcL (n + 301) (.fn 54) [.ptr (some (.rw b2, 0))] S3) _ := fabort_ok (n + 299) (by omega) hw hr (F := L3 ++ (M3 ++ (C b1 [.int .i64 k, .int .i64 x] :: F))) (h3.re (by intro p; simp only [List.countP_append, List.countP_cons, C]; omega))
    rw [callT_of e]
    simp only [J31_j1_1, b31_j1_1]
    exact fin (M' := M3 ++ [C b1 [.int .i64 k, .int .i64 x]]) rfl hk1 ha3 hr4 (h4.re (by intro p; simp only [List.countP_append, List.countP_cons, List.countP_nil, C]; omega))
  -- Hold
  refine ok_cond (fun hc => ?_) (fun n9 => ?_)
  · have hk1 : A.act k x = { A with h := A.h + 1 } := by simp only [beq_iff_eq] at hc; simp [AM.act, hc]
    obtain ⟨v, S3, e, rfl, L3, ha3, h3⟩ : Ok (evF E orcL (n + 301) (.fn 33) [.ptr (some (.rw b, 0))] S2) _ := hold_ok (n + 300) h2 ha (by omega)
    rw [callT_of e]
    have h3' := h3.re (M := L2 ++ (L3 ++ (C b1 [.int .i64 k, .int .i64 x] :: F))) (by intro p; simp only [List.countP_append, List.countP_cons, C]; omega)
    refine fldH_ok hr h3' (fsetH_ok (r := A.h + 1) hr h3' (wn (by omega) (by omega)) (fun S4 L4 hr4 h4 => ?_))
    simp only [J31_j1_1, b31_j1_1]
    exact fin (M' := [C b1 [.int .i64 k, .int .i64 x]]) rfl hk1 ha3 hr4 h4
  -- LetGo
  refine ok_cond (fun hc => ?_) (fun n10 => ?_)
  · have hk1 : A.act k x = A.letgo := by simp only [beq_iff_eq] at hc; simp [AM.act, hc]
    obtain ⟨v, S3, e, a, c, Ld, L3, rfl, hs, ha3, h3⟩ : Ok (evF E orcL (n + 301) (.fn 34) [.ptr (some (.rw b, 0))] S2) (LetS X (L2 ++ (C b1 [.int .i64 k, .int .i64 x] :: F)) b (if A.h = 1 then posn 4 A.s else []) A.letgo) := letgoS (n + 299) (by omega) h2 ha (by omega)
    rw [callL_of e]
    obtain ⟨v, S4, e, a2, c2, Ld2, L4, rfl, hs2, hr4, h4⟩ : Ok (evF E orcL (n + 301) (.fn 55) [.ptr (some (.rw b2, 0))] S3) (FT X (Ld ++ (L3 ++ (C b1 [.int .i64 k, .int .i64 x] :: F))) b2 (if A.h = 1 then posn 4 A.s else []) A.letgo) := fletgo_ok (n + 299) (by omega) (by omega) hr (h3.re (by intro p; simp only [List.countP_append, List.countP_cons, C]; omega))
    rw [callL_of e]
    have q1 := hs.rd (X := X) (M := Ld2 ++ (L4 ++ (Ld ++ (L3 ++ (C b1 [.int .i64 k, .int .i64 x] :: F))))) (by intro e he; simp [he])
    have q2 := hs2.rd (X := X) (M := Ld2 ++ (L4 ++ (Ld ++ (L3 ++ (C b1 [.int .i64 k, .int .i64 x] :: F))))) (by intro e he; simp [he])
    rw [ins_flat] at q1 q2
    have hdl : (if A.h = 1 then posn 4 A.s else []).length ≤ 70000 := by
      split
      · have := posTo_len 4 A.s A.s.length
        show (posTo 4 A.s A.s.length).length ≤ _
        omega
      · simp
    have e1 := ints_same (n + 300) (by omega) (c := c) (c2 := c2) rfl rfl hdl h4 q1 q2
    rw [callB_of e1]
    exact fin (M' := Ld ++ (Ld2 ++ [C b1 [.int .i64 k, .int .i64 x]])) rfl hk1 ha3 hr4 (h4.re (by intro p; simp only [List.countP_append, List.countP_cons, List.countP_nil, C]; omega))
  -- Copy
  refine ok_cond (fun hc => ?_) (fun n11 => ?_)
  · have hk1 : A.act k x = A := by simp only [beq_iff_eq] at hc; simp [AM.act, hc]
    obtain ⟨v, S3, e, b', L3, rfl, ha3, h3⟩ : Ok (evF E orcL (n + 301) (.fn 37) [.ptr (some (.rw b, 0))] S2) _ := copyS (n + 299) h2 ha (by omega) (by omega)
    rw [callP_of e]
    refine ok_false rfl ?_
    have h3' := h3.re (M := L ++ (L3 ++ (L2 ++ (C b1 [.int .i64 k, .int .i64 x] :: F)))) (by intro p; simp only [List.countP_append, List.countP_cons, C]; omega)
    obtain ⟨v, S4, e, rfl, L4, ha4, h4⟩ : Ok (evF E orcL (n + 301) (.fn 13) [.ptr (some (.rw b, 0)), .int .i64 0] S3) _ := take_ok (n + 298) (by omega) h3' ha (by omega) 0
    rw [callT_of e]
    obtain ⟨v, S5, e, rfl, L5, ha5, h5⟩ : Ok (evF E orcL (n + 301) (.fn 21) [.ptr (some (.rw b, 0)), .int .i64 1] S4) _ := give_ok (n + 298) (by omega) h4 ha4 (hw.take 0) 1
    rw [callI_of e]
    obtain ⟨v, S6, e, ta, tc, ga, gc, L6, Mt, Mg, rfl, _, _, ha6, h6⟩ := commitS n hn h5 ha5 ((hw.take 0).give 1) (by simpa using hA)
    rw [callT_of e]
    obtain ⟨v, S7, e, a, c, Ld, L7, rfl, hs, ha7, h7⟩ := letgoS (n + 299) (by omega) h6 ha6 (by show ((A.take 0).give 1).h < _; simp; omega)
    rw [callL_of e]
    exact ok_ret ⟨b', L3, L2, Ld ++ (L7 ++ (Mt ++ (Mg ++ [C b1 [.int .i64 k, .int .i64 x]]))), rfl, by rw [hk1]; exact ha3, by rw [hk1]; exact hr, h7.re (by intro p; simp only [List.countP_append, List.countP_cons, List.countP_nil, C]; omega)⟩
  simp only [beq_eq_false_iff_ne, ne_eq] at n1 n2 n3 n4 n5 n6 n7 n8 n9 n10
  have hk1 : A.act k x = A := by simp [AM.act, n1, n2, n3, n4, n5, n6, n7, n8, n9, n10]
  simp only [J31_j1_1, b31_j1_1]
  exact fin (M' := [C b1 [.int .i64 k, .int .i64 x]]) rfl hk1 ha hr (h2.re (by intro p; simp only [List.countP_append, List.countP_cons, List.countP_nil, C]; omega))

end

end Go.Al

namespace Go.Al
open Go.Gr

section
variable {X : Cx} {S : AS} {L F : List Ent} {b : Nat} {A : AM} {Q : AV → AS → Prop}

/-- A list that was told is spoilt. -/
theorem spoil {M : List Ent} {Lp : Nat → Int → AS → Option (AV × AS)} {K : AS → Option (AV × AS)} {sz l : Nat} {a : Option Pos} {c : Cap} {vs : List AV} (hvs : vs.length = sz) (hl : l ≤ 70000)
    (hstep : ∀ m (i : Int) S, Lp (m + 1) i S = cond (decide (i < ((l : Nat) : Int))) (ixSl sz a l i fun p => S.stn p.1 p.2 vs fun S' => Lp m (IntKind.wrap .i64 (i + 1)) S') (K S)) (hK : ∀ S' Ld, Hp X S' (Ld ++ M) → Ok (K S') Q) :
    ∀ (m i : Nat) (xs : List (List AV)) (Ld : List Ent) (S : AS), i ≤ l → l - i < m → SlR a l c sz xs Ld → Hp X S (Ld ++ M) → Ok (Lp m i S) Q
  | 0, i, xs, Ld, S, hi, hm, hs, h => by omega
  | m + 1, i, xs, Ld, S, hi, hm, hs, h => by
    rw [hstep]
    refine ok_cond (fun hc => ?_) (fun hc => hK S Ld h)
    simp only [decide_eq_true_eq] at hc
    rcases hs.dest with ⟨_, rfl, _⟩ | ⟨bt, rfl, rfl, hcc, rfl, hx⟩
    · omega
    · refine ok_ixSl (k := i) rfl (by omega) ?_
      simp only [Nat.zero_add]
      have hfl := flat_len hx
      have hmul : i * sz + sz ≤ xs.length * sz := by
        have : (i + 1) * sz ≤ xs.length * sz := Nat.mul_le_mul_right _ (by omega)
        rw [Nat.add_mul, Nat.one_mul] at this; exact this
      refine ok_stn h (by rw [hfl, hvs]; exact hmul) (d := (xs.set i vs).flatten) (flat_splice hx (by omega) hvs) (fun S1 h1 => ?_)
      rw [wn (n := i + 1) (by omega) (by omega)]
      exact spoil hvs hl hstep hK m (i + 1) (xs.set i vs) [C bt (xs.set i vs).flatten] S1 (by omega) (by omega) (.of (fun x hx' => by rcases List.mem_or_eq_of_mem_set hx' with h | h; exact hx x h; rw [h]; exact hvs) (by simp) hcc) h1

theorem tells_states (n0 n : Nat) (hn0 : 70000 < n0) {b2 : Nat} {L2 : List Ent} (h : Hp X S (L ++ (L2 ++ F))) (ha : Alloc b A L) (hr : Rf b2 A L2) (hl : A.s.length ≤ 65536) (hK : Ok (J32_j1_1_1_1_1_1_1_1 (evF E orcL (n + 2)) n0 (some (.rw b, 0)) (some (.rw b2, 0)) S) Q) :
    ∀ (m i : Nat) (w : AV), i ≤ A.s.length + 2 → A.s.length + 2 - i < m → Ok (J32_l1_1_1_1_1_1_1_0_1_0 (evF E orcL (n + 2)) n0 m (some (.rw b, 0)) (some (.rw b2, 0)) w ((i : Int) - 1) S) Q
  | 0, i, w, hi, hm => by omega
  | m + 1, i, w, hi, hm => by
    have h' : Hp X S (L2 ++ (L ++ F)) := h.re (by intro p; simp only [List.countP_append]; omega)
    rw [J32_l1_1_1_1_1_1_1_0_1_0_succ]
    simp only [b32_l1_1_1_1_1_1_1_0_1_0]
    have e1 := state_eq n h ha ((i : Int) - 1)
    have e2 := fState_eq n hr h' ((i : Int) - 1)
    have key : Ok (cond (decide (((i : Int) - 1) ≤ ((A.s.length : Nat) : Int))) (
        callI .i64 (evF E orcL (n + 2)) 19 [(.ptr (some (.rw b, 0))), (.int .i64 ((i : Int) - 1))] S fun v56 S55 =>
        callI .i64 (evF E orcL (n + 2)) 60 [(.ptr (some (.rw b2, 0))), (.int .i64 ((i : Int) - 1))] S55 fun v58 S57 =>
        cond (v56 != v58) (some ((.bool false), S57)) (J32_l1_1_1_1_1_1_1_0_1_0 (evF E orcL (n + 2)) n0 m (some (.rw b, 0)) (some (.rw b2, 0)) w (IntKind.wrap .i64 (((i : Int) - 1) + 1)) S57)) (J32_j1_1_1_1_1_1_1_1 (evF E orcL (n + 2)) n0 (some (.rw b, 0)) (some (.rw b2, 0)) S)) Q := by
      refine ok_cond (fun hc => ?_) (fun hc => hK)
      simp only [decide_eq_true_eq] at hc
      rw [callI_of e1, callI_of e2]
      refine ok_false (by simp) ?_
      rw [wz (z := ((i + 1 : Nat) : Int) - 1) (by omega) (by omega) (by omega)]
      exact tells_states n0 n hn0 h ha hr hl hK m (i + 1) w (by omega) (by omega)
    obtain ⟨bs, ta, tl, tc, ga, gl, gc, Lt, Lg, hr, rfl⟩ := hr
    exact ok_gO (ok_ldL h' rfl key)

theorem rd_bits {M : List Ent} {bm : Nat} (s : List Nat) (hm : C bm (row .u8 (bits s)) ∈ M) : RdR X M (some (.rw bm, 0)) (ofBytes (toB (bits s))) := by
  have hA := toB_of (l := bits s) (fun z hz => bitsTo_lt s _ z hz)
  exact .rw (c := row .u8 (bits s)) hm (by simp [toB]) (by rw [hA, List.drop_zero, row_len]; exact List.take_of_length_le (by simp))

abbrev TellsQ (X : Cx) (L L2 F : List Ent) : AV → AS → Prop := fun v S' => ∃ M', v = .bool true ∧ Hp X S' (L ++ (L2 ++ (M' ++ F)))

theorem Rf.rdt {M : List Ent} {bs : Nat} {ta : Option Pos} {tl : Nat} {tc : Cap} {ga : Option Pos} {gl : Nat} {gc : Cap} {Lt Lg : List Ent} (hr : RfR A ta tl tc ga gl gc Lt Lg) (hm : ∀ e ∈ fblks b A bs ta tl tc ga gl gc Lt Lg, e ∈ M) : RdR X M ta (row .i64 A.t) ∧ tl = A.t.length ∧ RdR X M ga (row .i64 A.g) ∧ gl = A.g.length := by
  have h1 := hr.ht.rd (X := X) (M := M) (fun e he => hm e (by simp [he]))
  have h2 := hr.hg.rd (X := X) (M := M) (fun e he => hm e (by simp [he]))
  rw [ins_flat] at h1 h2
  exact ⟨h1, by simpa using hr.ht.len, h2, by simpa using hr.hg.len⟩

theorem tells_end (n : Nat) (hn : 70000 < n) (n0 : Nat) {b2 : Nat} {L2 : List Ent} (h : Hp X S (L ++ (L2 ++ F))) (ha : Alloc b A L) (hw : A.WF) (hr : Rf b2 A L2) :
    Ok (J32_j1_1_1_1_1_1_1_1 (evF E orcL (n + 2)) n0 (some (.rw b, 0)) (some (.rw b2, 0)) S) (TellsQ X L L2 F) := by
  have hwt := hw.tl
  have hwg := hw.gl
  have hwn := hw.n2
  have hr0 := hr
  obtain ⟨bs, ta, tl, tc, ga, gl, gc, Lt, Lg, hr, rfl⟩ := hr
  simp only [J32_j1_1_1_1_1_1_1_1, b32_j1_1_1_1_1_1_1_1]
  obtain ⟨v, S1, e, a1, c1, L1, rfl, hs1, h1⟩ := taken_ok n h ha (by omega)
  rw [callL_of e]
  refine ok_gO (ok_ldL h1 rfl (ok_ldL h rfl (ok_true (by simp [AV.beq]) ?_)))
  have q1 := hs1.rd (X := X) (M := L1 ++ (L ++ (fblks b2 A bs ta tl tc ga gl gc Lt Lg ++ F))) (by intro e he; simp [he])
  rw [ins_flat] at q1
  obtain ⟨r1, r2, _, _⟩ := Rf.rdt (X := X) hr (b := b2) (bs := bs) (M := L1 ++ (L ++ (fblks b2 A bs ta tl tc ga gl gc Lt Lg ++ F))) (fun e he => List.mem_append_right _ (List.mem_append_right _ (List.mem_append_left _ he)))
  rw [callB_of (ints_same (n + 1) (by omega) rfl r2 (by omega) h1 q1 r1)]
  refine ok_true rfl ?_
  have h1' := h1.re (M := L ++ (L1 ++ (fblks b2 A bs ta tl tc ga gl gc Lt Lg ++ F))) (by intro p; simp only [List.countP_append]; omega)
  obtain ⟨v, S2, e, a2, c2, L2, rfl, hs2, h2⟩ := given_ok n h1' ha (by omega)
  rw [callL_of e]
  refine ok_gO (ok_ldL h2 rfl (ok_ldL h1' rfl (ok_true (by simp [AV.beq]) ?_)))
  have q2 := hs2.rd (X := X) (M := L2 ++ (L ++ (L1 ++ (fblks b2 A bs ta tl tc ga gl gc Lt Lg ++ F)))) (by intro e he; simp [he])
  rw [ins_flat] at q2
  obtain ⟨_, _, r3, r4⟩ := Rf.rdt (X := X) hr (b := b2) (bs := bs) (M := L2 ++ (L ++ (L1 ++ (fblks b2 A bs ta tl tc ga gl gc Lt Lg ++ F)))) (fun e he => List.mem_append_right _ (List.mem_append_right _ (List.mem_append_right _ (List.mem_append_left _ he))))
  rw [callB_of (ints_same (n + 1) (by omega) rfl r4 (by omega) h2 q2 r3)]
  refine ok_true rfl ?_
  have h2' := h2.re (M := L ++ (L2 ++ (L1 ++ (fblks b2 A bs ta tl tc ga gl gc Lt Lg ++ F)))) (by intro p; simp only [List.countP_append]; omega)
  obtain ⟨v, S3, e, m1, rfl, h3⟩ : Ok (evF E orcL (n + 2) (.fn 16) [.ptr (some (.rw b, 0))] S2) _ := bitmap_ok (n + 1) (by omega) h2' ha
  rw [callL_of e]
  have hlA : ((A.s.length + 7) / 8) = (toB (bits A.s)).length := by simp [toB, bits_len]
  rw [bytesStr_of (rd_bits (X := X) (bm := m1) A.s (by simp)) h3 hlA]
  have h3' := h3.re (M := fblks b2 A bs ta tl tc ga gl gc Lt Lg ++ (C m1 (row .u8 (bits A.s)) :: (L ++ (L2 ++ (L1 ++ F))))) (by intro p; simp only [List.countP_append, List.countP_cons, C]; omega)
  obtain ⟨v, S4, e, m2, rfl, h4⟩ : Ok (evF E orcL (n + 2) (.fn 57) [.ptr (some (.rw b2, 0))] S3) _ := fbitmap_ok (n + 1) (by omega) h3' hr0
  rw [callL_of e, bytesStr_of (rd_bits (X := X) (bm := m1) A.s (by simp)) h4 hlA]
  refine ok_true (by simp [AV.beq]) ?_
  rw [bytesStr_of (rd_bits (X := X) (bm := m2) A.s (by simp)) h4 hlA]
  exact ok_ret ⟨C m2 (row .u8 (bits A.s)) :: C m1 (row .u8 (bits A.s)) :: (L2 ++ L1), by simp, h4.re (by intro p; simp only [List.countP_append, List.countP_cons, List.cons_append, C]; omega)⟩

theorem tells_ok (n : Nat) (hn : 1000000 < n) {b2 : Nat} {L2 : List Ent} (h : Hp X S (L ++ (L2 ++ F))) (ha : Alloc b A L) (hw : A.WF) (hr : Rf b2 A L2) :
    Ok (ev (n + 3) (.fn 32) [.ptr (some (.rw b, 0)), .ptr (some (.rw b2, 0))] S) (TellsQ X L L2 F) := by
  have hwt := hw.tl
  have hwg := hw.gl
  have hwn := hw.n2
  have hr0 := hr
  obtain ⟨bs, ta, tl, tc, ga, gl, gc, Lt, Lg, hr, rfl⟩ := hr
  rw [ev, F32 _ _ _ _ (oL rfl)]
  simp only [J32, b32_entry]
  obtain ⟨v, S1, e, a1, c1, L1, rfl, hs1, h1⟩ := taken_ok n h ha (by omega)
  rw [callL_of e]
  have h1' := h1.re (M := L ++ (L1 ++ (fblks b2 A bs ta tl tc ga gl gc Lt Lg ++ F))) (by intro p; simp only [List.countP_append]; omega)
  obtain ⟨v, S2, e, a2, c2, L2, rfl, hs2, h2⟩ := given_ok n h1' ha (by omega)
  rw [callL_of e]
  have h2' := h2.re (M := L ++ (L2 ++ (L1 ++ (fblks b2 A bs ta tl tc ga gl gc Lt Lg ++ F)))) (by intro p; simp only [List.countP_append]; omega)
  obtain ⟨v, S3, e, m1, rfl, h3⟩ : Ok (evF E orcL (n + 2) (.fn 16) [.ptr (some (.rw b, 0))] S2) _ := bitmap_ok (n + 1) (by omega) h2' ha
  rw [callL_of e]
  have h3' := h3.re (M := L ++ (C m1 (row .u8 (bits A.s)) :: (L2 ++ (L1 ++ (fblks b2 A bs ta tl tc ga gl gc Lt Lg ++ F))))) (by intro p; simp only [List.countP_append, List.countP_cons, C]; omega)
  obtain ⟨v, S4, e, a4, c4, L4, rfl, hs4, h4⟩ : Ok (evF E orcL (n + 2) (.fn 28) [.ptr (some (.rw b, 0))] S3) _ := runsS (n + 1) (by omega) h3' ha
  rw [callL_of e]
  have hA : Hp X S4 (L ++ (L4 ++ (C m1 (row .u8 (bits A.s)) :: (L2 ++ (L1 ++ (fblks b2 A bs ta tl tc ga gl gc Lt Lg ++ F)))))) := h4.re (by intro p; simp only [List.countP_append, List.countP_cons, C]; omega)
  have hB : Hp X S4 (fblks b2 A bs ta tl tc ga gl gc Lt Lg ++ (L4 ++ (C m1 (row .u8 (bits A.s)) :: (L2 ++ (L1 ++ (L ++ F)))))) := h4.re (by intro p; simp only [List.countP_append, List.countP_cons, C]; omega)
  rw [callI_of (show evF E orcL (n + 2) (.fn 14) [.ptr (some (.rw b, 0))] S4 = _ from blocks_eq (n + 1) hA ha)]
  refine ok_gO (ok_ldL hB rfl (ok_ldL hB rfl (ok_true (by simp [AV.beq]) (ok_true (by simp [AV.beq]) (ok_false (by simp) ?_)))))
  rw [callI_of (show evF E orcL (n + 2) (.fn 15) [.ptr (some (.rw b, 0))] S4 = _ from free_eq (n + 1) hA ha)]
  rw [callI_of (show evF E orcL (n + 2) (.fn 56) [.ptr (some (.rw b2, 0)), .int .i64 0] S4 = _ from fcount_eq (n + 1) (by omega) hB hr0 0 rfl)]
  refine ok_false (by simp) ?_
  rw [callI_of (show evF E orcL (n + 2) (.fn 23) [.ptr (some (.rw b, 0))] S4 = _ from reserved_eq (n + 1) hA ha)]
  refine ok_gO (ok_ldI hB rfl (ok_ldI hB rfl (ok_true (by simp [AV.beq]) (ok_false (by simp) ?_))))
  rw [callI_of (show evF E orcL (n + 2) (.fn 29) [.ptr (some (.rw b, 0))] S4 = _ from holds_eq (n + 1) hA ha)]
  refine ok_gO (ok_ldI hB rfl (ok_ldI hB rfl (ok_true (by simp [AV.beq]) (ok_false (by simp) (ok_gO (ok_ldL hB rfl ?_))))))
  have hM : ∀ e ∈ fblks b2 A bs ta tl tc ga gl gc Lt Lg, e ∈ fblks b2 A bs ta tl tc ga gl gc Lt Lg ++ (L4 ++ (C m1 (row .u8 (bits A.s)) :: (L2 ++ (L1 ++ (L ++ F))))) := fun e he => List.mem_append_left _ he
  obtain ⟨r1, r2, r3, r4⟩ := Rf.rdt (X := X) hr (b := b2) (bs := bs) hM
  have q1 := hs1.rd (X := X) (M := fblks b2 A bs ta tl tc ga gl gc Lt Lg ++ (L4 ++ (C m1 (row .u8 (bits A.s)) :: (L2 ++ (L1 ++ (L ++ F)))))) (by intro e he; simp [he])
  have q2 := hs2.rd (X := X) (M := fblks b2 A bs ta tl tc ga gl gc Lt Lg ++ (L4 ++ (C m1 (row .u8 (bits A.s)) :: (L2 ++ (L1 ++ (L ++ F)))))) (by intro e he; simp [he])
  rw [ins_flat] at q1 q2
  rw [callB_of (ints_same (n + 1) (by omega) rfl r2 (by omega) hB q1 r1)]
  refine ok_false rfl (ok_gO (ok_ldL hB rfl ?_))
  rw [callB_of (ints_same (n + 1) (by omega) rfl r4 (by omega) hB q2 r3)]
  refine ok_false rfl ?_
  have hlA : ((A.s.length + 7) / 8) = (toB (bits A.s)).length := by simp [toB, bits_len]
  rw [bytesStr_of (rd_bits (X := X) (bm := m1) A.s (by simp)) hB hlA]
  obtain ⟨v, S5, e, m2, rfl, h5⟩ : Ok (evF E orcL (n + 2) (.fn 57) [.ptr (some (.rw b2, 0))] S4) _ := fbitmap_ok (n + 1) (by omega) hB hr0
  rw [callL_of e, bytesStr_of (rd_bits (X := X) (bm := m1) A.s (by simp)) h5 hlA]
  refine ok_true (by simp [AV.beq]) ?_
  rw [bytesStr_of (rd_bits (X := X) (bm := m2) A.s (by simp)) h5 hlA]
  refine ok_false (by simp) ?_
  have h5' : Hp X S5 (fblks b2 A bs ta tl tc ga gl gc Lt Lg ++ (C m2 (row .u8 (bits A.s)) :: (L4 ++ (C m1 (row .u8 (bits A.s)) :: (L2 ++ (L1 ++ (L ++ F))))))) := h5.re (by intro p; simp only [List.countP_append, List.countP_cons, C]; omega)
  obtain ⟨v, S6, e, a6, c6, L6, rfl, hs6, h6⟩ : Ok (evF E orcL (n + 2) (.fn 59) [.ptr (some (.rw b2, 0))] S5) _ := fruns_ok (n + 1) (by omega) h5' hr0
  rw [callL_of e]
  have hrl := runsTo_len A.s A.s.length
  have p1 := hs4.rd (X := X) (M := L6 ++ (fblks b2 A bs ta tl tc ga gl gc Lt Lg ++ (C m2 (row .u8 (bits A.s)) :: (L4 ++ (C m1 (row .u8 (bits A.s)) :: (L2 ++ (L1 ++ (L ++ F)))))))) (by intro e he; simp [he])
  have p2 := hs6.rd (X := X) (M := L6 ++ (fblks b2 A bs ta tl tc ga gl gc Lt Lg ++ (C m2 (row .u8 (bits A.s)) :: (L4 ++ (C m1 (row .u8 (bits A.s)) :: (L2 ++ (L1 ++ (L ++ F)))))))) (by intro e he; simp [he])
  rw [callB_of (show evF E orcL (n + 2) (.fn 58) [.sl a4 (runsTo A.s A.s.length).length c4, .sl a6 (runsTo A.s A.s.length).length c6] S6 = _ from fpairs_eq (n + 1) (by omega) (by omega) h6 p1 p2)]
  refine ok_false rfl ?_
  -- what was told is spoilt
  have hs3 : SlR (some (.rw m1, 0)) ((A.s.length + 7) / 8) (.ex ((A.s.length + 7) / 8)) 1 (ins .u8 (bits A.s)) [C m1 (ins .u8 (bits A.s)).flatten] := .of (ins_all _ _) (by simp [bits_len]) (.inl rfl)
  have h6' : Hp X S6 (L1 ++ (L2 ++ ([C m1 (ins .u8 (bits A.s)).flatten] ++ (L4 ++ (L6 ++ (C m2 (row .u8 (bits A.s)) :: (L ++ (fblks b2 A bs ta tl tc ga gl gc Lt Lg ++ F)))))))) := by
    rw [ins_flat]
    exact h6.re (by intro p; simp only [List.countP_append, List.countP_cons, List.cons_append, List.nil_append, C]; omega)
  refine spoil (vs := [.int .i64 (-9)]) (Lp := fun m i S => J32_l1_1_1_0_1_0 (evF E orcL (n + 2)) (n + 2) m (some (.rw b, 0)) (some (.rw b2, 0)) a1 A.t.length c1 a2 A.g.length c2 (some (.rw m1, 0)) ((A.s.length + 7) / 8) (.ex ((A.s.length + 7) / 8)) a4 (runsTo A.s A.s.length).length c4 i S) rfl (by omega) (fun m i S => by rw [J32_l1_1_1_0_1_0_succ]; rfl) (fun S7 N1 h7 => ?_) (n + 2) 0 _ _ S6 (by omega) (by omega) hs1 h6'
  simp only [J32_j1_1_1_1, b32_j1_1_1_1]
  have h7' := h7.re (M := L2 ++ (N1 ++ ([C m1 (ins .u8 (bits A.s)).flatten] ++ (L4 ++ (L6 ++ (C m2 (row .u8 (bits A.s)) :: (L ++ (fblks b2 A bs ta tl tc ga gl gc Lt Lg ++ F)))))))) (by intro p; simp only [List.countP_append]; omega)
  refine spoil (vs := [.int .i64 (-9)]) (Lp := fun m i S => J32_l1_1_1_1_0_1_0 (evF E orcL (n + 2)) (n + 2) m (some (.rw b, 0)) (some (.rw b2, 0)) a2 A.g.length c2 (some (.rw m1, 0)) ((A.s.length + 7) / 8) (.ex ((A.s.length + 7) / 8)) a4 (runsTo A.s A.s.length).length c4 i S) rfl (by omega) (fun m i S => by rw [J32_l1_1_1_1_0_1_0_succ]; rfl) (fun S8 N2 h8 => ?_) (n + 2) 0 _ _ S7 (by omega) (by omega) hs2 h7'
  simp only [J32_j1_1_1_1_1, b32_j1_1_1_1_1]
  have h8' := h8.re (M := [C m1 (ins .u8 (bits A.s)).flatten] ++ (N2 ++ (N1 ++ (L4 ++ (L6 ++ (C m2 (row .u8 (bits A.s)) :: (L ++ (fblks b2 A bs ta tl tc ga gl gc Lt Lg ++ F)))))))) (by intro p; simp only [List.countP_append]; omega)
  refine spoil (vs := [.int .u8 85]) (Lp := fun m i S => J32_l1_1_1_1_1_0_1_0 (evF E orcL (n + 2)) (n + 2) m (some (.rw b, 0)) (some (.rw b2, 0)) (some (.rw m1, 0)) ((A.s.length + 7) / 8) (.ex ((A.s.length + 7) / 8)) a4 (runsTo A.s A.s.length).length c4 i S) rfl (by omega) (fun m i S => by rw [J32_l1_1_1_1_1_0_1_0_succ]; rfl) (fun S9 N3 h9 => ?_) (n + 2) 0 _ _ S8 (by omega) (by omega) hs3 h8'
  simp only [J32_j1_1_1_1_1_1, b32_j1_1_1_1_1_1]
  have h9' := h9.re (M := L4 ++ (N3 ++ (N2 ++ (N1 ++ (L6 ++ (C m2 (row .u8 (bits A.s)) :: (L ++ (fblks b2 A bs ta tl tc ga gl gc Lt Lg ++ F)))))))) (by intro p; simp only [List.countP_append]; omega)
  refine spoil (vs := [.int .i64 (-9), .int .i64 (-9)]) (Lp := fun m i S => J32_l1_1_1_1_1_1_0_1_0 (evF E orcL (n + 2)) (n + 2) m (some (.rw b, 0)) (some (.rw b2, 0)) a4 (runsTo A.s A.s.length).length c4 i S) rfl (by omega) (fun m i S => by rw [J32_l1_1_1_1_1_1_0_1_0_succ]; rfl) (fun S10 N4 h10 => ?_) (n + 2) 0 _ _ S9 (by omega) (by omega) hs4 h9'
  simp only [J32_j1_1_1_1_1_1_1, b32_j1_1_1_1_1_1_1]
  have h10' : Hp X S10 (L ++ (fblks b2 A bs ta tl tc ga gl gc Lt Lg ++ ((N4 ++ (N3 ++ (N2 ++ (N1 ++ (L6 ++ [C m2 (row .u8 (bits A.s))]))))) ++ F))) := h10.re (by intro p; simp only [List.countP_append, List.countP_cons, List.countP_nil, C]; omega)
  refine tells_states (n + 2) n (by omega) h10' ha hr0 hwn ?_ (n + 2) 0 .undef (by omega) (by omega)
  obtain ⟨v, S11, e, M', rfl, h11⟩ := tells_end n (by omega) (n + 2) h10' ha hw hr0
  rw [e]
  exact ok_ret ⟨M' ++ (N4 ++ (N3 ++ (N2 ++ (N1 ++ (L6 ++ [C m2 (row .u8 (bits A.s))]))))), rfl, by rw [List.append_assoc]; exact h11⟩

end

end Go.Al

namespace Go.Al
open Go.Gr

theorem ld_at {bm : List Nat} {k i y : Nat} (h : (ld bm k)[i]? = some y) : y = 0 ∨ y = 1 := by
  have hlt := (List.getElem?_eq_some_iff.1 h).1
  rw [ld_len] at hlt
  rw [ld, ldTo_get _ _ _ _ hlt] at h
  split at h <;> simp at h <;> omega
theorem ld_WF {bm : List Nat} {k : Nat} (hk : k ≤ 65536) : AM.WF ⟨ld bm k, [], [], 0, 0⟩ := by
  refine ⟨by simp, fun b => ?_, by simp, fun b => ?_, Nat.zero_le _, by simpa using hk, fun y hy => ?_⟩
  · constructor
    · intro h; cases h
    · intro h; rcases ld_at h with h | h <;> omega
  · constructor
    · intro h; cases h
    · intro h; rcases ld_at h with h | h <;> omega
  · obtain ⟨i, hi⟩ := List.mem_iff_getElem?.1 hy
    have := ld_at hi
    omega

section
variable {X : Cx} {S : AS} {L F : List Ent} {b : Nat} {A : AM} {Q : AV → AS → Prop}

theorem plays_loop (n0 n : Nat) (hn : 1000000 < n) {a : Option Pos} {c : Cap} {acts : List (Int × Int)} (ha : ActsR X a acts) (h80 : acts.length ≤ 80) {b2 : Nat} :
    ∀ (m i : Nat) (w6 : AV) (b : Nat) (A : AM) (L L2 M : List Ent) (S : AS), i ≤ acts.length → acts.length - i < m → Alloc b A L → A.WF → A.s.length < 256 → A.h ≤ i → Rf b2 A L2 → Hp X S (L ++ (L2 ++ (M ++ F))) →
      Ok (J8_l1_1_1_1_1_1_1_0_1_0 (evF E orcL (n + 302)) n0 m a acts.length c w6 (some (.rw b, 0)) (some (.rw b2, 0)) i S) TrueQ
  | 0, i, w6, b, A, L, L2, M, S, hi, hm, hal, hw, hl, hh, hr, h => by omega
  | m + 1, i, w6, b, A, L, L2, M, S, hi, hm, hal, hw, hl, hh, hr, h => by
    rw [J8_l1_1_1_1_1_1_1_0_1_0_succ]
    simp only [b8_l1_1_1_1_1_1_1_0_1_0]
    refine ok_true rfl (ok_cond (fun hc => ?_) (fun hc => ?_))
    · simp only [decide_eq_true_eq] at hc
      have hlt : i < acts.length := by omega
      obtain ⟨y, p, hy, rfl, hld, _, _⟩ := acts_at ha h hlt
      rw [ixSl_at rfl hlt, hld]
      obtain ⟨v, S1, e, b', L1, L21, M1, rfl, e1, e2, e3⟩ := actS n hn h hal hw hl (by omega) hr (k := y.1) (x := y.2)
      have e' : evF E orcL (n + 302) (.fn 31) [.ptr (some (.rw b, 0)), .ptr (some (.rw b2, 0)), .agg (arow y)] S = some (.tup [.ptr (some (.rw b', 0)), .bool true], S1) := e
      rw [callT_of e']
      refine ok_atP rfl ?_
      simp only [atB, List.getElem?_cons_zero, List.getElem?_cons_succ, gB]
      refine ok_false rfl (ok_false rfl ?_)
      have hl1 : (A.act y.1 y.2).s.length < 256 := by rw [AM.act_len]; exact hl
      obtain ⟨v, S2, e, M2, rfl, e5⟩ : Ok (evF E orcL (n + 302) (.fn 32) [.ptr (some (.rw b', 0)), .ptr (some (.rw b2, 0))] S1) (TellsQ X L1 L21 (M1 ++ (M ++ F))) := tells_ok (n + 299) (by omega) e3 e1 (hw.act _ _) e2
      rw [callB_of e]
      refine ok_false rfl ?_
      rw [wn (x := (i : Int) + 1) (n := i + 1) (by omega) (by omega)]
      have := AM.act_h A y.1 y.2
      exact plays_loop n0 n hn ha h80 m (i + 1) w6 b' _ L1 L21 (M2 ++ (M1 ++ M)) S2 (by omega) (by omega) e1 (hw.act _ _) hl1 (by omega) e2 (by simpa [List.append_assoc] using e5)
    · simp only [J8_j1_1_1_1_1_1_1_1, b8_j1_1_1_1_1_1_1_1]
      refine ok_false rfl ?_
      obtain ⟨v, S2, e, M2, rfl, e5⟩ : Ok (evF E orcL (n + 302) (.fn 32) [.ptr (some (.rw b, 0)), .ptr (some (.rw b2, 0))] S) (TellsQ X L L2 (M ++ F)) := tells_ok (n + 299) (by omega) h hal hw hr
      rw [callB_of e]
      exact ok_ret rfl

theorem plays_run (n : Nat) (hn : 1000000 < n) (h : Hp X S F) {a : Option Pos} {c : Cap} {acts : List (Int × Int)} (hac : ActsR X a acts) {a1 : Option Pos} {c1 : Cap} {bm : List Nat} (hb : ∀ y ∈ bm, y < 256) (hbr : RdR X F a1 (row .u8 bm)) (x : Int) :
    Ok (ev (n + 303) (.fn 8) [.int .i64 x, .sl a1 bm.length c1, .sl a acts.length c] S) TrueQ := by
  rw [ev, F8 _ _ _ _ _ _ _ _ _ (oL rfl)]
  simp only [J8, b8_entry]
  refine ok_cond (fun _ => live_ok (n + 301) S) (fun c1' => ok_cond (fun _ => live_ok (n + 301) S) (fun c2 => ?_))
  simp only [gt_iff_lt, decide_eq_false_iff_not] at c1' c2
  have main : (x ≤ 200 ∨ 65536 < x) → Ok (newA S (.cells []) fun b23 S24 =>
      appendA 1 1 S24 (some (.rw b23, 0)) 0 (.ex 0) bm.length (firstA S24 1 bm.length (.sl a1 bm.length c1)) fun v25a v25l v25c S26 =>
      callT (evF E orcL (n + 302)) 24 [(.int .i64 x), (.sl v25a v25l v25c)] S26 fun v28 S27 =>
      atP v28 0 fun v29 =>
      atI .i64 v28 1 fun v30 =>
      callT (evF E orcL (n + 302)) 30 [(.int .i64 x), (.sl a1 bm.length c1)] S27 fun v32 S31 =>
      atP v32 0 fun v33 =>
      atI .i64 v32 1 fun v34 =>
      callI .i64 (evF E orcL (n + 302)) 11 [(.int .i64 v30)] S31 fun v36 S35 =>
      cond (v36 != v34) (
      some ((.bool false), S35)) (
      cond (!(v29.isNone == v33.isNone)) (
      some ((.bool false), S35)) (
      callB (evF E orcL (n + 302)) 12 [] S35 fun v38 S37 =>
      cond (!v38) (
      some ((.bool false), S37)) (
      J8_l1_1_1_1_1_1_0_1_0 (evF E orcL (n + 302)) (n + 302) (n + 302) a acts.length c v25a v25l v25c v29 v33 0 S37)))) TrueQ := by
    intro hx
    refine ok_newA h (fun b1 S1 h1 => ?_)
    have hs : SlR (some (.rw b1, 0)) 0 (.ex 0) 1 [] [C b1 []] := .of (xs := []) (by simp) rfl (.inl rfl)
    have h1' : Hp X S1 ([C b1 []] ++ F) := h1
    have hr1 : RdR X ([C b1 []] ++ F) a1 (row .u8 bm) := hbr.mono (fun e he => by simp [he])
    refine ok_append h1' hs (ys := ins .u8 bm) (ins_all _ _) (by simp) (fun K => ?_) (by decide) (by simp [pow46]; omega) (by simp [pow46]; omega) (fun a3 l3 c3 S3 L3 ht' h3 => ?_)
    · have := hr1.first h1' (sz := 1) (n := bm.length) (by simp) (by decide) (l := bm.length) (c := c1) K
      simpa using this
    rw [List.nil_append] at ht'
    obtain rfl : l3 = bm.length := by have := ht'.len; simpa using this
    have rg := ht'.rd (X := X) (M := L3 ++ F) (by intro e he; simp [he])
    rw [ins_flat] at rg
    have live : ∀ S, evF E orcL (n + 302) (.fn 12) [] S = some (.bool true, S) := fun S => by simp [evF, orcL]
    -- what was handed in is spoilt; the acts
    have tail : ∀ (S : AS) (F' : List Ent) (p8 p10 : Option Pos), Hp X S (L3 ++ F') → (∀ S' N, Hp X S' (N ++ F') → Ok (J8_l1_1_1_1_1_1_1_0_1_0 (evF E orcL (n + 302)) (n + 302) (n + 302) a acts.length c .undef p8 p10 0 S') TrueQ) → Ok (J8_l1_1_1_1_1_1_0_1_0 (evF E orcL (n + 302)) (n + 302) (n + 302) a acts.length c a3 bm.length c3 p8 p10 0 S) TrueQ := by
      intro S F' p8 p10 h hK
      refine spoil (vs := [.int .u8 255]) (Lp := fun m i S => J8_l1_1_1_1_1_1_0_1_0 (evF E orcL (n + 302)) (n + 302) m a acts.length c a3 bm.length c3 p8 p10 i S) rfl (by omega) (fun m i S => by rw [J8_l1_1_1_1_1_1_0_1_0_succ]; rfl) (fun S7 N1 h7 => ?_) (n + 302) 0 _ _ S (by omega) (by omega) ht' h
      simp only [J8_j1_1_1_1_1_1_1, b8_j1_1_1_1_1_1_1]
      exact hK S7 N1 h7
    obtain ⟨v, S4, e, hL⟩ : Ok (evF E orcL (n + 302) (.fn 24) [.int .i64 x, .sl a3 bm.length c3] S3) _ := load_ok (n + 299) (by omega) h3 hb (by omega) rg x
    have nilEnd : ∀ (v : List AV) (k : Int) (S4 : AS), v = [.ptr none, .int .i64 k] → Hp X S4 (L3 ++ F) → (∃ v' S', evF E orcL (n + 302) (.fn 30) [.int .i64 x, .sl a1 bm.length c1] S4 = some (v', S') ∧ v' = .tup [.ptr none, .int .i64 k] ∧ Hp X S' (L3 ++ F)) → Ok (atP v 0 fun v29 =>
      atI .i64 v 1 fun v30 =>
      callT (evF E orcL (n + 302)) 30 [(.int .i64 x), (.sl a1 bm.length c1)] S4 fun v32 S31 =>
      atP v32 0 fun v33 =>
      atI .i64 v32 1 fun v34 =>
      callI .i64 (evF E orcL (n + 302)) 11 [(.int .i64 v30)] S31 fun v36 S35 =>
      cond (v36 != v34) (
      some ((.bool false), S35)) (
      cond (!(v29.isNone == v33.isNone)) (
      some ((.bool false), S35)) (
      callB (evF E orcL (n + 302)) 12 [] S35 fun v38 S37 =>
      cond (!v38) (
      some ((.bool false), S37)) (
      J8_l1_1_1_1_1_1_0_1_0 (evF E orcL (n + 302)) (n + 302) (n + 302) a acts.length c a3 bm.length c3 v29 v33 0 S37)))) TrueQ := by
      rintro v k S4 rfl h4 ⟨v', S5, e5, rfl, h5⟩
      refine ok_atP rfl (ok_atI rfl ?_)
      rw [callT_of e5]
      refine ok_atP rfl (ok_atI rfl ?_)
      rw [callI_of (num_eq (n + 301) k S5)]
      refine ok_false (by simp) (ok_false rfl ?_)
      rw [callB_of (live S5)]
      refine ok_false rfl (tail S5 F none none h5 (fun S6 N h6 => ?_))
      rw [J8_l1_1_1_1_1_1_1_0_1_0_succ]
      simp only [b8_l1_1_1_1_1_1_1_0_1_0]
      refine ok_false rfl ?_
      simp only [J8_j1_1_1_1_1_1_1_1, b8_j1_1_1_1_1_1_1_1]
      exact ok_true rfl (ok_ret rfl)
    have rdm : ∀ {M : List Ent}, (∀ e ∈ F, e ∈ M) → RdR X M a1 (row .u8 bm) := fun {M} hm => hbr.mono hm
    rcases hL with ⟨hx1, rfl, h4⟩ | ⟨hx1, hf, rfl, h4⟩ | ⟨hx1, hf, b4, L4, rfl, hal, h4⟩
    · rw [callT_of e]
      refine nilEnd _ 2 S4 rfl h4 ?_
      obtain ⟨v, S5, e5, hR⟩ := fload_ok (n + 300) (by omega) h4 hb (by omega) (rdm (M := L3 ++ F) (fun e he => by simp [he])) (c := c1) x
      rcases hR with ⟨_, rfl, h5⟩ | ⟨hx2, _⟩ | ⟨hx2, _⟩
      · exact ⟨_, S5, e5, rfl, h5⟩
      · exact absurd hx2 hx1
      · exact absurd hx2 hx1
    · rw [callT_of e]
      refine nilEnd _ 102 S4 rfl h4 ?_
      obtain ⟨v, S5, e5, hR⟩ := fload_ok (n + 300) (by omega) h4 hb (by omega) (rdm (M := L3 ++ F) (fun e he => by simp [he])) (c := c1) x
      rcases hR with ⟨hx2, _⟩ | ⟨_, _, rfl, h5⟩ | ⟨_, hf2, _⟩
      · exact absurd hx1 hx2
      · exact ⟨_, S5, e5, rfl, h5⟩
      · exact absurd hf2 hf
    · rw [callT_of e]
      refine ok_atP rfl (ok_atI rfl ?_)
      have h4' : Hp X S4 (L4 ++ (L3 ++ F)) := h4
      obtain ⟨v, S5, e5, hR⟩ : Ok (evF E orcL (n + 302) (.fn 30) [.int .i64 x, .sl a1 bm.length c1] S4) _ := fload_ok (n + 300) (by omega) h4' hb (by omega) (rdm (M := L4 ++ (L3 ++ F)) (fun e he => by simp [he])) (c := c1) x
      rcases hR with ⟨hx2, _⟩ | ⟨_, hf2, _⟩ | ⟨_, _, b5, L5, rfl, hrf, h5⟩
      · exact absurd hx1 hx2
      · exact absurd hf hf2
      · rw [callT_of e5]
        refine ok_atP rfl (ok_atI rfl ?_)
        rw [callI_of (num_eq (n + 301) 0 S5)]
        refine ok_false (by simp) (ok_false rfl ?_)
        rw [callB_of (live S5)]
        have hx3 := hx1
        unfold right at hx3
        refine ok_false rfl (tail S5 (L4 ++ (L5 ++ F)) _ _ (h5.re (by intro p; simp only [List.countP_append]; omega)) (fun S6 N h6 => ?_))
        exact plays_loop (F := F) (n + 302) n hn hac (by omega) (n + 302) 0 .undef b4 _ L4 L5 N S6 (by omega) (by omega) hal (ld_WF (by omega)) (by simp; omega) (by simp) hrf (h6.re (M := L4 ++ (L5 ++ (N ++ F))) (by intro p; simp only [List.countP_append]; omega))
  refine ok_cond (fun c3 => ok_cond (fun _ => live_ok (n + 301) S) (fun c4 => main ?_)) (fun c3 => main ?_)
  · simp only [decide_eq_false_iff_not] at c4
    exact .inr (by omega)
  · simp only [gt_iff_lt, decide_eq_false_iff_not] at c3
    exact .inl (by omega)

end

/-- Bytes, as numbers. -/
theorem nat_bytes : ∀ (l : List Int), (∀ i ∈ l, IntKind.u8.min ≤ i ∧ i ≤ IntKind.u8.max) → ∃ bm : List Nat, l = bm.map (fun (n : Nat) => (n : Int)) ∧ ∀ y ∈ bm, y < 256
  | [], _ => ⟨[], rfl, by simp⟩
  | x :: l, h => by
    obtain ⟨bm, rfl, hb⟩ := nat_bytes l (fun i hi => h i (List.mem_cons_of_mem _ hi))
    have hx := h x List.mem_cons_self
    have h0 : IntKind.u8.min = 0 := rfl
    have h1 : IntKind.u8.max = 255 := rfl
    rw [h0, h1] at hx
    refine ⟨x.toNat :: bm, by simp; omega, fun y hy => ?_⟩
    rcases List.mem_cons.1 hy with rfl | hy
    · omega
    · exact hb y hy

end Go.Al
