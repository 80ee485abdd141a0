/- What the functions of package alloc do with a heap: the ends of a transaction. -/
import Derived.Test.YtjninokocidaaaaAlC
import Derived.Test.YtjninokocidaaaaAlSort
set_option linter.unusedVariables false
set_option linter.unusedSimpArgs false
set_option maxRecDepth 4000
namespace Go.Al
open Go.Gr

/-- All of a list's blocks in a state. -/
def setAll (x : Nat) (l : List Nat) (s : List Nat) : List Nat := l.foldl (fun s b => s.set b x) s
@[simp] theorem setAll_len (x : Nat) : ∀ (l s : List Nat), (setAll x l s).length = s.length
  | [], s => rfl
  | y :: l, s => by
    show (setAll x l (s.set y x)).length = _
    rw [setAll_len x l]; simp
theorem setAll_get (x : Nat) : ∀ (l s : List Nat) (i : Nat), i < s.length → (setAll x l s)[i]? = if i ∈ l then some x else s[i]?
  | [], s, i, h => by simp [setAll]
  | y :: l, s, i, h => by
    show (setAll x l (s.set y x))[i]? = _
    rw [setAll_get x l _ i (by simpa using h)]
    by_cases h1 : i ∈ l
    · simp [h1]
    · by_cases h2 : i = y
      · subst h2; simp [h1, h]
      · simp [h1, h2, List.getElem?_set, Ne.symm h2]

section
variable {X : Cx} {S : AS} {L F : List Ent} {b : Nat} {A : AM} {Q : AV → AS → Prop}

theorem setall_loop {n : Nat} {Lp : Nat → Int → AS → Option (AV × AS)} {K : AS → Option (AV × AS)} {bs : Nat} {sc : Cap} {ta : Option Pos} {tl : Nat} {tc : Cap} {ga : Option Pos} {gl : Nat} {gc : Cap} {Lt Lg : List Ent} {a : Option Pos} {t : List Nat} {xi : Int} {x : Nat} (hx : xi = x) (hx4 : x ≤ 4) (htl : t.length ≤ 65536)
    (hstep : ∀ m (i : Int) S, Lp (m + 1) i S = cond (decide (i < (t.length : Int))) (ixSl 1 a t.length i fun p => ldI .i64 S p.1 p.2 fun v => callT (evF E orcL (n + 1)) 42 [.ptr (some (.rw b, 0)), .int .i64 v, .int .i64 xi] S fun _ S' => Lp m (IntKind.wrap .i64 (i + 1)) S') (K S))
    (hrd : ∀ s', RdR X (blks b { A with s := s' } bs sc ta tl tc ga gl gc Lt Lg ++ F) a (row .i64 t)) :
    ∀ (m i : Nat) (s : List Nat) (S : AS), i ≤ t.length → t.length - i < m → (∀ y ∈ t, y < s.length) → AllocR { A with s := s } bs sc ta tl tc ga gl gc Lt Lg → Hp X S (blks b { A with s := s } bs sc ta tl tc ga gl gc Lt Lg ++ F) →
      (∀ S', AllocR { A with s := setAll x (t.drop i) s } bs sc ta tl tc ga gl gc Lt Lg → Hp X S' (blks b { A with s := setAll x (t.drop i) s } bs sc ta tl tc ga gl gc Lt Lg ++ F) → Ok (K S') Q) → Ok (Lp m i S) Q
  | 0, i, s, S, hi, hm, hy, hr, h, ht => by omega
  | m + 1, i, s, S, hi, hm, hy, hr, h, ht => by
    rw [hstep]
    refine ok_cond (fun hc => ?_) (fun hc => ?_)
    · simp only [decide_eq_true_eq] at hc
      have hlt : i < t.length := by omega
      obtain ⟨y, hyi⟩ : ∃ y, t[i]? = some y := ⟨_, List.getElem?_eq_getElem hlt⟩
      have hyl := hy y (List.mem_of_getElem? hyi)
      have hr0 := hrd s
      obtain ⟨p, rfl⟩ := hr0.some_of (by intro he; rw [← row_len .i64 t, he] at hlt; simp at hlt)
      rw [ixSl_at rfl hlt]
      simp only [Nat.mul_one]
      rw [hr0.ldI h (row_at hyi)]
      obtain ⟨v, S1, e, rfl, L1, ha1, h1, hsh⟩ := set_ok n h ⟨bs, sc, ta, tl, tc, ga, gl, gc, Lt, Lg, hr, rfl⟩ (A := { A with s := s }) hyl hx4 (ii := (y : Nat)) (xi := xi) rfl hx
      have hL1 := hsh bs sc ta tl tc ga gl gc Lt Lg hr rfl
      subst hL1
      rw [callT_of e, wn (n := i + 1) (by omega) (by omega)]
      have hdr : t.drop i = y :: t.drop (i + 1) := by
        obtain ⟨hlt', he⟩ := List.getElem?_eq_some_iff.1 hyi
        rw [List.drop_eq_getElem_cons hlt', he]
      refine setall_loop hx hx4 htl hstep hrd m (i + 1) (s.set y x) S1 (by omega) (by omega) (fun z hz => by simpa using hy z hz) (hr.set y hx4) h1 (fun S' hr' h' => ?_)
      have e2 : setAll x (t.drop (i + 1)) (s.set y x) = setAll x (t.drop i) s := by rw [hdr]; rfl
      rw [e2] at hr' h'
      exact ht S' hr' h'
    · simp only [decide_eq_false_iff_not] at hc
      have : t.drop i = [] := List.drop_of_length_le (by omega)
      rw [this] at ht
      exact ht S hr h

theorem sortNil (n : Nat) (S : AS) : evF E orcL (n + 300) (.fn 43) [.sl none 0 (.ex 0)] S = some (.tup [], S) := by
  rw [F43 _ _ _ _ _ (oL rfl)]
  simp only [J43, b43_entry]
  obtain ⟨k, e, _, _⟩ := len_ok (S := S) (n + 297) (L := 0) (by decide)
  have e1 : IntKind.wrap .u64 ((0 : Nat) : Int) = ((0 : Nat) : Int) := rfl
  rw [e1, callI_of e]
  have e2 : evF E orcL (n + 299) (.fn 63) [.sl none 0 (.ex 0), .int .i64 0, .int .i64 ((0 : Nat) : Int), .int .i64 k] S = some (.tup [], S) := by
    rw [F63 _ _ _ _ _ _ _ _ (oL rfl)]
    simp only [J63, b63_entry]
    rw [J63_l1_1_0_succ]
    simp only [b63_l1_1_0]
    have e3 : evF E orcL (n + 298) (.fn 69) [.sl none 0 (.ex 0), .int .i64 0, .int .i64 ((0 : Nat) : Int)] S = some (.tup [], S) := by
      rw [F69 _ _ _ _ _ _ _ (oL rfl)]
      simp only [J69, b69_entry]
      rw [J69_l1_0_succ]
      simp only [b69_l1_0]
      rfl
    have hd : decide (IntKind.wrap .i64 (((0 : Nat) : Int) - 0) ≤ 12) = true := rfl
    rw [hd]
    simp only [cond_true]
    rw [callT_of e3]
  rw [callT_of e2]

theorem sortSl_ok (n : Nat) (hn : 1000000 < n) {t : List Nat} {a : Option Pos} {l : Nat} {c : Cap} (h : Hp X S (L ++ F)) (hs : SlG a l c 1 (ins .i64 t) L) (hl : t.length < 256) :
    Ok (evF E orcL (n + 300) (.fn 43) [.sl a l c] S) fun v S' => v = .tup [] ∧ ∃ (d : List Int) (L' : List Ent), d.Perm (t.map fun (n : Nat) => (n : Int)) ∧ Hp X S' (L' ++ F) ∧ RdR X L' a (d.map (AV.int .i64)) := by
  rcases hs.dest with ⟨rfl, rfl, rfl, h4, rfl⟩ | ⟨bt, js, rfl, rfl, hc, rfl, hx, hj⟩
  · have ht : t = [] := List.length_eq_zero_iff.1 (by have := congrArg List.length h4; simpa using this)
    subst ht
    rw [sortNil]
    exact ok_ret ⟨rfl, [], [], .refl _, h, .nil⟩
  · have hcont : (ins .i64 t ++ js).flatten = (t.map fun (n : Nat) => (n : Int)).map (AV.int .i64) ++ js.flatten := by
      rw [List.flatten_append, ins_flat, row, List.map_map]; rfl
    rw [hcont] at h
    obtain ⟨v, S1, e, rfl, d, hd, h1⟩ := sort_ok n hn (c := c) (l := (ins .i64 t).length) (d := t.map fun (n : Nat) => (n : Int)) (js := js.flatten) (b := bt) (F := F) (by simp) (by simpa using hl) h
    rw [e]
    refine ok_ret ⟨rfl, d, [D bt d js.flatten], hd, h1, ?_⟩
    exact .rw (c := d.map (AV.int .i64) ++ js.flatten) List.mem_cons_self (by simp) (by simp)

/-- What a transaction's end leaves. -/
def AM.commit (A : AM) : AM := { A with s := setAll (if 0 < A.h then 4 else 0) A.g (setAll 1 A.t A.s), t := [], g := [] }
def AM.abort (A : AM) : AM := { A with s := setAll 1 A.g (setAll 0 A.t A.s), t := [], g := [] }

/-- What a committed transaction tells and leaves. -/
def Committed (X : Cx) (F : List Ent) (b : Nat) (A : AM) : AV → AS → Prop := fun v S' => ∃ (ta : Option Pos) (tc : Cap) (ga : Option Pos) (gc : Cap) (t' g' : List Int) (L' Mt Mg : List Ent), v = .tup [.sl ta A.t.length tc, .sl ga A.g.length gc] ∧ t'.Perm (A.t.map fun (n : Nat) => (n : Int)) ∧ g'.Perm (A.g.map fun (n : Nat) => (n : Int)) ∧
      RdR X Mt ta (t'.map (AV.int .i64)) ∧ RdR X Mg ga (g'.map (AV.int .i64)) ∧ Alloc b A.commit L' ∧ Hp X S' (L' ++ (Mt ++ (Mg ++ F)))

theorem commit_ok (n : Nat) (hn : 1000000 < n) (h : Hp X S (L ++ F)) (ha : Alloc b A L) (hw : A.WF) (hl : A.s.length < 256) :
    Ok (ev (n + 301) (.fn 18) [.ptr (some (.rw b, 0))] S) (Committed X F b A) := by
  obtain ⟨bs, sc, ta, tl, tc, ga, gl, gc, Lt, Lg, hr, rfl⟩ := ha
  have htl : tl = A.t.length := by have := hr.ht.len; simpa using this
  have hgl : gl = A.g.length := by have := hr.hg.len; simpa using this
  have hwt := hw.tl
  have hwg := hw.gl
  rw [ev, F18 _ _ _ (oL rfl)]
  simp only [J18, b18_entry]
  refine ok_false rfl (ok_gO (ok_ldL h rfl (ok_gO (ok_ldL h rfl (ok_gO ?_)))))
  refine ok_stn h (by simp [hdr]) (d := [.sl (some (.rw bs, 0)) A.s.length sc, .int .i64 A.r, .int .i64 A.h, .sl none 0 (.ex 0), .sl ga gl gc, .int .i64 (A.s.count 0 : Nat)]) (by simp [hdr, splice]) (fun S1 h1 => ok_gO ?_)
  refine ok_stn h1 (by simp) (d := hdr { A with t := [], g := [] } (some (.rw bs, 0)) A.s.length sc none 0 (.ex 0) none 0 (.ex 0)) (by simp [hdr, splice]) (fun S2 h2 => ?_)
  have h3 : Hp X S2 (blks b { A with t := [], g := [] } bs sc none 0 (.ex 0) none 0 (.ex 0) [] [] ++ (Lt ++ (Lg ++ F))) := h2.re (by intro p; simp only [blks, List.countP_append, List.countP_cons, List.cons_append, List.nil_append, List.countP_nil, C]; omega)
  have hr3 : AllocR { A with t := [], g := [] } bs sc none 0 (.ex 0) none 0 (.ex 0) [] [] := ⟨hr.n1, hr.n2, hr.st, hr.hc, .nil, .nil⟩
  have rdt : ∀ s', RdR X (blks b { A with t := [], g := [], s := s' } bs sc none 0 (.ex 0) none 0 (.ex 0) [] [] ++ (Lt ++ (Lg ++ F))) ta (row .i64 A.t) := fun s' => by
    have := hr.ht.rd (X := X) (M := blks b { A with t := [], g := [], s := s' } bs sc none 0 (.ex 0) none 0 (.ex 0) [] [] ++ (Lt ++ (Lg ++ F))) (by intro e he; simp [he])
    rwa [ins_flat] at this
  have rdg : ∀ s', RdR X (blks b { A with t := [], g := [], s := s' } bs sc none 0 (.ex 0) none 0 (.ex 0) [] [] ++ (Lt ++ (Lg ++ F))) ga (row .i64 A.g) := fun s' => by
    have := hr.hg.rd (X := X) (M := blks b { A with t := [], g := [], s := s' } bs sc none 0 (.ex 0) none 0 (.ex 0) [] [] ++ (Lt ++ (Lg ++ F))) (by intro e he; simp [he])
    rwa [ins_flat] at this
  subst htl hgl
  have ht2 : ∀ y ∈ A.t, y < A.s.length := fun y hy => (List.getElem?_eq_some_iff.1 ((hw.ti y).1 hy)).1
  have hg2 : ∀ y ∈ A.g, y < A.s.length := fun y hy => (List.getElem?_eq_some_iff.1 ((hw.gi y).1 hy)).1
  refine setall_loop (A := { A with t := [], g := [] }) (n := n + 299) (x := 1) (xi := 1) (K := fun S => J18_j1_1_1_1_1 (evF E orcL (n + 300)) (n + 300) (some (.rw b, 0)) ta A.t.length tc ga A.g.length gc S) (Lp := fun m i S => J18_l1_1_1_1_0_1_0 (evF E orcL (n + 300)) (n + 300) m (some (.rw b, 0)) ta A.t.length tc ga A.g.length gc ta A.t.length tc A.t.length i S) rfl (by omega) (by omega) (fun m i S => rfl) rdt (n + 300) 0 A.s S2 (by omega) (by omega) ht2 hr3 h3 (fun S4 hr4 h4 => ?_)
  rw [List.drop_zero] at hr4 h4
  simp only [J18_j1_1_1_1_1, b18_j1_1_1_1_1]
  refine ok_gO (ok_ldI h4 rfl ?_)
  have fin : ∀ (to : Nat) (toi : Int), toi = to → to ≤ 4 → to = (if 0 < A.h then 4 else 0) → Ok (J18_j1_1_1_1_1_1_1 (evF E orcL (n + 300)) (n + 300) (some (.rw b, 0)) ta A.t.length tc ga A.g.length gc toi S4) (Committed X F b A) := by
    intro to toi hto hto4 htoe
    simp only [J18_j1_1_1_1_1_1_1, b18_j1_1_1_1_1_1_1]
    refine setall_loop (A := { A with t := [], g := [], s := setAll 1 A.t A.s }) (n := n + 299) (x := to) (xi := toi) (K := fun S => J18_j1_1_1_1_1_1_1_1 (evF E orcL (n + 300)) (n + 300) ta A.t.length tc ga A.g.length gc S) (Lp := fun m i S => J18_l1_1_1_1_1_1_1_0_1_0 (evF E orcL (n + 300)) (n + 300) m (some (.rw b, 0)) ta A.t.length tc ga A.g.length gc toi ga A.g.length gc A.g.length i S) hto hto4 (by omega) (fun m i S => rfl) rdg (n + 300) 0 (setAll 1 A.t A.s) S4 (by omega) (by omega) (fun y hy => by simpa using hg2 y hy) hr4 h4 (fun S5 hr5 h5 => ?_)
    rw [List.drop_zero] at hr5 h5
    simp only [J18_j1_1_1_1_1_1_1_1, b18_j1_1_1_1_1_1_1_1]
    have e1 : ({ A with t := [], g := [], s := setAll to A.g (setAll 1 A.t A.s) } : AM) = A.commit := by rw [htoe]; rfl
    have hr5' : AllocR A.commit bs sc none 0 (.ex 0) none 0 (.ex 0) [] [] := by rw [← e1]; exact hr5
    have h5' : Hp X S5 (blks b A.commit bs sc none 0 (.ex 0) none 0 (.ex 0) [] [] ++ (Lt ++ (Lg ++ F))) := by rw [← e1]; exact h5
    have h6 := h5'.re (M := Lt ++ (Lg ++ (blks b A.commit bs sc none 0 (.ex 0) none 0 (.ex 0) [] [] ++ F))) (by intro p; simp only [List.countP_append]; omega)
    obtain ⟨v, S6, e, rfl, t', Mt, hpt, h7, rd7⟩ := sortSl_ok n hn h6 hr.ht (by omega)
    rw [callT_of e]
    have h8 := h7.re (M := Lg ++ (Mt ++ (blks b A.commit bs sc none 0 (.ex 0) none 0 (.ex 0) [] [] ++ F))) (by intro p; simp only [List.countP_append]; omega)
    obtain ⟨v, S7, e, rfl, g', Mg, hpg, h9, rd9⟩ := sortSl_ok n hn h8 hr.hg (by omega)
    rw [callT_of e]
    exact ok_ret ⟨ta, tc, ga, gc, t', g', _, Mt, Mg, rfl, hpt, hpg, rd7, rd9, ⟨bs, sc, none, 0, .ex 0, none, 0, .ex 0, [], [], hr5', rfl⟩, h9.re (by intro p; simp only [List.countP_append]; omega)⟩
  refine ok_cond (fun hc => ?_) (fun hc => ?_)
  · simp only [gt_iff_lt, decide_eq_true_eq] at hc
    exact fin 4 4 rfl (by omega) (by rw [if_pos (by omega)])
  · simp only [gt_iff_lt, decide_eq_false_iff_not] at hc
    exact fin 0 0 rfl (by omega) (by rw [if_neg (by omega)])

theorem abort_ok (n : Nat) (hn : 1000000 < n) (h : Hp X S (L ++ F)) (ha : Alloc b A L) (hw : A.WF) :
    Ok (ev (n + 3) (.fn 25) [.ptr (some (.rw b, 0))] S) fun v S' => v = .tup [] ∧ ∃ L' M, Alloc b A.abort L' ∧ Hp X S' (L' ++ (M ++ F)) := by
  obtain ⟨bs, sc, ta, tl, tc, ga, gl, gc, Lt, Lg, hr, rfl⟩ := ha
  have htl : tl = A.t.length := by have := hr.ht.len; simpa using this
  have hgl : gl = A.g.length := by have := hr.hg.len; simpa using this
  have hwt := hw.tl
  have hwg := hw.gl
  have hn2 := hw.n2
  rw [ev, F25 _ _ _ (oL rfl)]
  simp only [J25, b25_entry]
  refine ok_false rfl (ok_gO (ok_ldL h rfl ?_))
  have rdt : ∀ s', RdR X (blks b { A with s := s' } bs sc ta tl tc ga gl gc Lt Lg ++ F) ta (row .i64 A.t) := fun s' => by
    have := hr.ht.rd (X := X) (M := blks b { A with s := s' } bs sc ta tl tc ga gl gc Lt Lg ++ F) (by intro e he; simp [blks, he])
    rwa [ins_flat] at this
  have rdg : ∀ s', RdR X (blks b { A with s := s' } bs sc ta tl tc ga gl gc Lt Lg ++ F) ga (row .i64 A.g) := fun s' => by
    have := hr.hg.rd (X := X) (M := blks b { A with s := s' } bs sc ta tl tc ga gl gc Lt Lg ++ F) (by intro e he; simp [blks, he])
    rwa [ins_flat] at this
  subst htl hgl
  have ht2 : ∀ y ∈ A.t, y < A.s.length := fun y hy => (List.getElem?_eq_some_iff.1 ((hw.ti y).1 hy)).1
  have hg2 : ∀ y ∈ A.g, y < A.s.length := fun y hy => (List.getElem?_eq_some_iff.1 ((hw.gi y).1 hy)).1
  refine setall_loop (A := A) (n := n + 1) (x := 0) (xi := 0) (K := fun S => J25_j1_1 (evF E orcL (n + 2)) (n + 2) (some (.rw b, 0)) S) (Lp := fun m i S => J25_l1_0_1_0 (evF E orcL (n + 2)) (n + 2) m (some (.rw b, 0)) ta A.t.length tc A.t.length i S) rfl (by omega) (by omega) (fun m i S => rfl) rdt (n + 2) 0 A.s S (by omega) (by omega) ht2 hr h (fun S4 hr4 h4 => ?_)
  rw [List.drop_zero] at hr4 h4
  simp only [J25_j1_1, b25_j1_1]
  refine ok_gO (ok_ldL h4 rfl ?_)
  refine setall_loop (A := { A with s := setAll 0 A.t A.s }) (n := n + 1) (x := 1) (xi := 1) (K := fun S => J25_j1_1_1 (evF E orcL (n + 2)) (n + 2) (some (.rw b, 0)) S) (Lp := fun m i S => J25_l1_1_0_1_0 (evF E orcL (n + 2)) (n + 2) m (some (.rw b, 0)) ga A.g.length gc A.g.length i S) rfl (by omega) (by omega) (fun m i S => rfl) rdg (n + 2) 0 (setAll 0 A.t A.s) S4 (by omega) (by omega) (fun y hy => by simpa using hg2 y hy) hr4 h4 (fun S5 hr5 h5 => ?_)
  rw [List.drop_zero] at hr5 h5
  simp only [J25_j1_1_1, b25_j1_1_1]
  refine ok_gO (ok_stn h5 (by simp [hdr]) (d := [.sl (some (.rw bs, 0)) A.abort.s.length sc, .int .i64 A.r, .int .i64 A.h, .sl none 0 (.ex 0), .sl ga A.g.length gc, .int .i64 (A.abort.s.count 0 : Nat)]) (by simp [hdr, splice, AM.abort]) (fun S6 h6 => ok_gO ?_))
  refine ok_stn h6 (by simp) (d := hdr A.abort (some (.rw bs, 0)) A.abort.s.length sc none 0 (.ex 0) none 0 (.ex 0)) (by simp [hdr, splice, AM.abort]) (fun S7 h7 => ok_ret ⟨rfl, blks b A.abort bs sc none 0 (.ex 0) none 0 (.ex 0) [] [], Lt ++ Lg, ⟨bs, sc, none, 0, .ex 0, none, 0, .ex 0, [], [], ⟨hr5.n1, hr5.n2, hr5.st, hr5.hc, .nil, .nil⟩, rfl⟩, h7.re (by intro p; simp only [blks, AM.abort, List.countP_append, List.countP_cons, List.cons_append, List.nil_append, List.countP_nil, C] <;> omega)⟩)

end

end Go.Al
