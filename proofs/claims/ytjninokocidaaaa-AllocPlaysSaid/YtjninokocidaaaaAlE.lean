/- What the functions of package alloc do with a heap: the ends of a transaction. -/
import Derived.Test.YtjninokocidaaaaAlA
import Derived.Test.YtjninokocidaaaaAlSort
set_option linter.unusedVariables false
set_option linter.unusedSimpArgs false
set_option maxRecDepth 4000
namespace Go.Al
open Go.Gr

/-- All of a list's blocks in a state. -/
def setAll (x : Nat) (l : List Nat) (s : List Nat) : List Nat := l.foldl (fun s b => s.set b x) s
@[simp] theorem setAll_len (x : Nat) : ∀ (l s : List Nat), (setAll x l s).length = s.length
  | [], s => rfl
  | y :: l, s => by
    show (setAll x l (s.set y x)).length = _
    rw [setAll_len x l]; simp
theorem setAll_get (x : Nat) : ∀ (l s : List Nat) (i : Nat), i < s.length → (setAll x l s)[i]? = if i ∈ l then some x else s[i]?
  | [], s, i, h => by simp [setAll]
  | y :: l, s, i, h => by
    show (setAll x l (s.set y x))[i]? = _
    rw [setAll_get x l _ i (by simpa using h)]
    by_cases h1 : i ∈ l
    · simp [h1]
    · by_cases h2 : i = y
      · subst h2; simp [h1, h]
      · simp [h1, h2, List.getElem?_set, Ne.symm h2]

section
variable {X : Cx} {S : AS} {L F : List Ent} {b : Nat} {A : AM} {Q : AV → AS → Prop}

theorem setall_loop {n : Nat} {Lp : Nat → Int → AS → Option (AV × AS)} {K : AS → Option (AV × AS)} {bs : Nat} {sc : Cap} {ta : Option Pos} {tl : Nat} {tc : Cap} {ga : Option Pos} {gl : Nat} {gc : Cap} {Lt Lg : List Ent} {a : Option Pos} {t : List Nat} {xi : Int} {x : Nat} (hx : xi = x) (hx4 : x ≤ 4) (htl : t.length ≤ 65536)
    (hstep : ∀ m (i : Int) S, Lp (m + 1) i S = cond (decide (i < (t.length : Int))) (ixSl 1 a t.length i fun p => ldI .i64 S p.1 p.2 fun v => callT (evF E orcL (n + 1)) 42 [.ptr (some (.rw b, 0)), .int .i64 v, .int .i64 xi] S fun _ S' => Lp m (IntKind.wrap .i64 (i + 1)) S') (K S))
    (hrd : ∀ s', RdR X (blks b { A with s := s' } bs sc ta tl tc ga gl gc Lt Lg ++ F) a (row .i64 t)) :
    ∀ (m i : Nat) (s : List Nat) (S : AS), i ≤ t.length → t.length - i < m → (∀ y ∈ t, y < s.length) → AllocR { A with s := s } bs sc ta tl tc ga gl gc Lt Lg → Hp X S (blks b { A with s := s } bs sc ta tl tc ga gl gc Lt Lg ++ F) →
      (∀ S', AllocR { A with s := setAll x (t.drop i) s } bs sc ta tl tc ga gl gc Lt Lg → Hp X S' (blks b { A with s := setAll x (t.drop i) s } bs sc ta tl tc ga gl gc Lt Lg ++ F) → Ok (K S') Q) → Ok (Lp m i S) Q
  | 0, i, s, S, hi, hm, hy, hr, h, ht => by omega
  | m + 1, i, s, S, hi, hm, hy, hr, h, ht => by
    rw [hstep]
    refine ok_cond (fun hc => ?_) (fun hc => ?_)
    · simp only [decide_eq_true_eq] at hc
      have hlt : i < t.length := by omega
      obtain ⟨y, hyi⟩ : ∃ y, t[i]? = some y := ⟨_, List.getElem?_eq_getElem hlt⟩
      have hyl := hy y (List.mem_of_getElem? hyi)
      have hr0 := hrd s
      obtain ⟨p, rfl⟩ := hr0.some_of (by intro he; rw [← row_len .i64 t, he] at hlt; simp at hlt)
      rw [ixSl_at rfl hlt]
      simp only [Nat.mul_one]
      rw [hr0.ldI h (row_at hyi)]
      obtain ⟨v, S1, e, rfl, L1, ha1, h1, hsh⟩ := set_ok n h ⟨bs, sc, ta, tl, tc, ga, gl, gc, Lt, Lg, hr, rfl⟩ (A := { A with s := s }) hyl hx4 (ii := (y : Nat)) (xi := xi) rfl hx
      have hL1 := hsh bs sc ta tl tc ga gl gc Lt Lg hr rfl
      subst hL1
      rw [callT_of e, wn (n := i + 1) (by omega) (by omega)]
      have hdr : t.drop i = y :: t.drop (i + 1) := by
        obtain ⟨hlt', he⟩ := List.getElem?_eq_some_iff.1 hyi
        rw [List.drop_eq_getElem_cons hlt', he]
      refine setall_loop hx hx4 htl hstep hrd m (i + 1) (s.set y x) S1 (by omega) (by omega) (fun z hz => by simpa using hy z hz) (hr.set y hx4) h1 (fun S' hr' h' => ?_)
      have e2 : setAll x (t.drop (i + 1)) (s.set y x) = setAll x (t.drop i) s := by rw [hdr]; rfl
      rw [e2] at hr' h'
      exact ht S' hr' h'
    · simp only [decide_eq_false_iff_not] at hc
      have : t.drop i = [] := List.drop_of_length_le (by omega)
      rw [this] at ht
      exact ht S hr h

theorem sortNil (n : Nat) (S : AS) : evF E orcL (n + 300) (.fn 43) [.sl none 0 (.ex 0)] S = some (.tup [], S) := by
  rw [F43 _ _ _ _ _ (oL rfl)]
  simp only [J43, b43_entry]
  obtain ⟨k, e, _, _⟩ := len_ok (S := S) (n + 297) (L := 0) (by decide)
  have e1 : IntKind.wrap .u64 ((0 : Nat) : Int) = ((0 : Nat) : Int) := rfl
  rw [e1, callI_of e]
  have e2 : evF E orcL (n + 299) (.fn 63) [.sl none 0 (.ex 0), .int .i64 0, .int .i64 ((0 : Nat) : Int), .int .i64 k] S = some (.tup [], S) := by
    rw [F63 _ _ _ _ _ _ _ _ (oL rfl)]
    simp only [J63, b63_entry]
    rw [J63_l1_1_0_succ]
    simp only [b63_l1_1_0]
    have e3 : evF E orcL (n + 298) (.fn 69) [.sl none 0 (.ex 0), .int .i64 0, .int .i64 ((0 : Nat) : Int)] S = some (.tup [], S) := by
      rw [F69 _ _ _ _ _ _ _ (oL rfl)]
      simp only [J69, b69_entry]
      rw [J69_l1_0_succ]
      simp only [b69_l1_0]
      rfl
    have hd : decide (IntKind.wrap .i64 (((0 : Nat) : Int) - 0) ≤ 12) = true := rfl
    rw [hd]
    simp only [cond_true]
    rw [callT_of e3]
  rw [callT_of e2]

/-- What a transaction's end leaves. -/
def AM.commit (A : AM) : AM := { A with s := setAll (if 0 < A.h then 4 else 0) A.g (setAll 1 A.t A.s), t := [], g := [] }
def AM.abort (A : AM) : AM := { A with s := setAll 1 A.g (setAll 0 A.t A.s), t := [], g := [] }

theorem abort_ok (n : Nat) (hn : 1000000 < n) (h : Hp X S (L ++ F)) (ha : Alloc b A L) (hw : A.WF) :
    Ok (ev (n + 3) (.fn 25) [.ptr (some (.rw b, 0))] S) fun v S' => v = .tup [] ∧ ∃ L' M, Alloc b A.abort L' ∧ Hp X S' (L' ++ (M ++ F)) := by
  obtain ⟨bs, sc, ta, tl, tc, ga, gl, gc, Lt, Lg, hr, rfl⟩ := ha
  have htl : tl = A.t.length := by have := hr.ht.len; simpa using this
  have hgl : gl = A.g.length := by have := hr.hg.len; simpa using this
  have hwt := hw.tl
  have hwg := hw.gl
  have hn2 := hw.n2
  rw [ev, F25 _ _ _ (oL rfl)]
  simp only [J25, b25_entry]
  refine ok_false rfl (ok_gO (ok_ldL h rfl ?_))
  have rdt : ∀ s', RdR X (blks b { A with s := s' } bs sc ta tl tc ga gl gc Lt Lg ++ F) ta (row .i64 A.t) := fun s' => by
    have := hr.ht.rd (X := X) (M := blks b { A with s := s' } bs sc ta tl tc ga gl gc Lt Lg ++ F) (by intro e he; simp [blks, he])
    rwa [ins_flat] at this
  have rdg : ∀ s', RdR X (blks b { A with s := s' } bs sc ta tl tc ga gl gc Lt Lg ++ F) ga (row .i64 A.g) := fun s' => by
    have := hr.hg.rd (X := X) (M := blks b { A with s := s' } bs sc ta tl tc ga gl gc Lt Lg ++ F) (by intro e he; simp [blks, he])
    rwa [ins_flat] at this
  subst htl hgl
  have ht2 : ∀ y ∈ A.t, y < A.s.length := fun y hy => (List.getElem?_eq_some_iff.1 ((hw.ti y).1 hy)).1
  have hg2 : ∀ y ∈ A.g, y < A.s.length := fun y hy => (List.getElem?_eq_some_iff.1 ((hw.gi y).1 hy)).1
  refine setall_loop (A := A) (n := n + 1) (x := 0) (xi := 0) (K := fun S => J25_j1_1 (evF E orcL (n + 2)) (n + 2) (some (.rw b, 0)) S) (Lp := fun m i S => J25_l1_0_1_0 (evF E orcL (n + 2)) (n + 2) m (some (.rw b, 0)) ta A.t.length tc A.t.length i S) rfl (by omega) (by omega) (fun m i S => rfl) rdt (n + 2) 0 A.s S (by omega) (by omega) ht2 hr h (fun S4 hr4 h4 => ?_)
  rw [List.drop_zero] at hr4 h4
  simp only [J25_j1_1, b25_j1_1]
  refine ok_gO (ok_ldL h4 rfl ?_)
  refine setall_loop (A := { A with s := setAll 0 A.t A.s }) (n := n + 1) (x := 1) (xi := 1) (K := fun S => J25_j1_1_1 (evF E orcL (n + 2)) (n + 2) (some (.rw b, 0)) S) (Lp := fun m i S => J25_l1_1_0_1_0 (evF E orcL (n + 2)) (n + 2) m (some (.rw b, 0)) ga A.g.length gc A.g.length i S) rfl (by omega) (by omega) (fun m i S => rfl) rdg (n + 2) 0 (setAll 0 A.t A.s) S4 (by omega) (by omega) (fun y hy => by simpa using hg2 y hy) hr4 h4 (fun S5 hr5 h5 => ?_)
  rw [List.drop_zero] at hr5 h5
  simp only [J25_j1_1_1, b25_j1_1_1]
  refine ok_gO (ok_stn h5 (by simp [hdr]) (d := [.sl (some (.rw bs, 0)) A.abort.s.length sc, .int .i64 A.r, .int .i64 A.h, .sl none 0 (.ex 0), .sl ga A.g.length gc, .int .i64 (A.abort.s.count 0 : Nat)]) (by simp [hdr, splice, AM.abort]) (fun S6 h6 => ok_gO ?_))
  refine ok_stn h6 (by simp) (d := hdr A.abort (some (.rw bs, 0)) A.abort.s.length sc none 0 (.ex 0) none 0 (.ex 0)) (by simp [hdr, splice, AM.abort]) (fun S7 h7 => ok_ret ⟨rfl, blks b A.abort bs sc none 0 (.ex 0) none 0 (.ex 0) [] [], Lt ++ Lg, ⟨bs, sc, none, 0, .ex 0, none, 0, .ex 0, [], [], ⟨hr5.n1, hr5.n2, hr5.st, hr5.hc, .nil, .nil⟩, rfl⟩, h7.re (by intro p; simp only [blks, AM.abort, List.countP_append, List.countP_cons, List.cons_append, List.nil_append, List.countP_nil, C] <;> omega)⟩)

end

end Go.Al

namespace Go.Al
open Go.Gr

/-- The document's allocator as it lies in the heap: its states, lists and numbers. -/
structure RM where
  s : List Int
  t : List Int
  g : List Int
  r : Int
  h : Int

def rhdr (w : RM) (bs : Nat) (ta : Option Pos) (tl : Nat) (tc : Cap) (ga : Option Pos) (gl : Nat) (gc : Cap) : List AV :=
  [.sl (some (.rw bs, 0)) w.s.length (.ex w.s.length), .sl ta tl tc, .sl ga gl gc, .int .i64 w.r, .int .i64 w.h]

structure RefR (w : RM) (N M : Nat) (ta : Option Pos) (tl : Nat) (tc : Cap) (ga : Option Pos) (gl : Nat) (gc : Cap) (Lt Lg : List Ent) : Prop where
  n : w.s.length = N
  n2 : N ≤ 65536
  tM : w.t.length ≤ M
  gM : w.g.length ≤ M
  ht : SlR ta tl tc 1 (ixs .i64 w.t) Lt
  hg : SlR ga gl gc 1 (ixs .i64 w.g) Lg

abbrev rblks (b : Nat) (w : RM) (bs : Nat) (ta : Option Pos) (tl : Nat) (tc : Cap) (ga : Option Pos) (gl : Nat) (gc : Cap) (Lt Lg : List Ent) : List Ent :=
  C b (rhdr w bs ta tl tc ga gl gc) :: C bs (w.s.map (AV.int .i64)) :: (Lt ++ Lg)

/-- The document's allocator of so many blocks, whose lists have so many elements at most. -/
def RefB (b : Nat) (N M : Nat) (L : List Ent) : Prop := ∃ w bs ta tl tc ga gl gc Lt Lg, RefR w N M ta tl tc ga gl gc Lt Lg ∧ L = rblks b w bs ta tl tc ga gl gc Lt Lg

theorem map_at {l : List Int} {i : Nat} {v : Int} (h : l[i]? = some v) : (l.map (AV.int .i64))[i]? = some (.int .i64 v) := by rw [List.getElem?_map, h]; rfl
section
variable {X : Cx} {S : AS} {L F : List Ent} {b N M : Nat} {Q : AV → AS → Prop}

theorem RefB.more (h : RefB b N M L) {M' : Nat} (hm : M ≤ M') : RefB b N M' L := by
  obtain ⟨w, bs, ta, tl, tc, ga, gl, gc, Lt, Lg, hr, rfl⟩ := h
  exact ⟨w, bs, ta, tl, tc, ga, gl, gc, Lt, Lg, ⟨hr.n, hr.n2, Nat.le_trans hr.tM hm, Nat.le_trans hr.gM hm, hr.ht, hr.hg⟩, rfl⟩

end

end Go.Al

namespace Go.Al
open Go.Gr

section
variable {X : Cx} {S : AS} {L F : List Ent} {b N M : Nat} {Q : AV → AS → Prop}

/-- Two lists of integers are compared. -/
theorem ints_loop (n0 : Nat) (call : CallA) {a a2 : Option Pos} {c c2 : Cap} {d d2 : List Int} (w4 : Bool) (hl : d2.length = d.length) (hd : d.length ≤ 70000) (h : Hp X S L) (hr : RdR X L a (d.map (AV.int .i64))) (hr2 : RdR X L a2 (d2.map (AV.int .i64))) :
    ∀ (m i : Nat), i ≤ d.length → d.length - i < m → d.take i = d2.take i → J38_l1_1_0_1_0 call n0 m a d.length c a2 d2.length c2 w4 i S = some (.bool (decide (d = d2)), S)
  | 0, i, hi, hm, he => by omega
  | m + 1, i, hi, hm, he => by
    apply ok_eq
    rw [J38_l1_1_0_1_0_succ]
    simp only [b38_l1_1_0_1_0]
    refine ok_cond (fun hc => ?_) (fun hc => ok_ret ⟨?_, rfl⟩)
    · simp only [decide_eq_true_eq] at hc
      have hlt : i < d.length := by omega
      obtain ⟨p, rfl⟩ := hr.some_of (by intro he; have := congrArg List.length he; simp at this; rw [this] at hlt; simp at hlt)
      obtain ⟨p2, rfl⟩ := hr2.some_of (by intro he; have := congrArg List.length he; simp at this; rw [this] at hl; simp at hl; omega)
      rw [ixSl_at rfl hlt]
      simp only [Nat.mul_one]
      rw [hr.ldI h (map_at (List.getElem?_eq_getElem hlt))]
      rw [ixSl_at rfl (show i < d2.length by omega)]
      simp only [Nat.mul_one]
      rw [hr2.ldI h (map_at (List.getElem?_eq_getElem (show i < d2.length by omega)))]
      refine ok_cond (fun hne => ok_ret ⟨?_, rfl⟩) (fun heq => ?_)
      · have : d ≠ d2 := by rintro rfl; simp at hne
        simp [this]
      · rw [wn (x := (i : Int) + 1) (n := i + 1) (by omega) (by omega)]
        have := ints_loop n0 call (c := c) (c2 := c2) w4 hl hd h hr hr2 m (i + 1) (by omega) (by omega) (by
          rw [List.take_add_one, List.take_add_one, he, List.getElem?_eq_getElem hlt, List.getElem?_eq_getElem (show i < d2.length by omega)]
          simp at heq
          rw [heq])
        rw [this]
        exact ok_ret ⟨rfl, rfl⟩
    · simp only [decide_eq_false_iff_not] at hc
      have hi2 : i = d.length := by omega
      subst hi2
      rw [List.take_length, ← hl, List.take_length] at he
      simp [he]

theorem ints_eq (n : Nat) (hn : 70000 < n) {a a2 : Option Pos} {c c2 : Cap} {d d2 : List Int} (hd : d.length ≤ 70000) (h : Hp X S L) (hr : RdR X L a (d.map (AV.int .i64))) (hr2 : RdR X L a2 (d2.map (AV.int .i64))) :
    ev (n + 1) (.fn 38) [.sl a d.length c, .sl a2 d2.length c2] S = some (.bool (decide (d = d2)), S) := by
  apply ok_eq
  rw [ev, F38 _ _ _ _ _ _ _ _ (oL rfl)]
  simp only [J38, b38_entry]
  refine ok_cond (fun hc => ok_ret ⟨?_, rfl⟩) (fun hc => ?_)
  · have : d ≠ d2 := by rintro rfl; simp at hc
    simp [this]
  · have hl : d2.length = d.length := by simp at hc; omega
    have := ints_loop n (evF E orcL n) (c := c) (c2 := c2) false hl hd h hr hr2 n 0 (by omega) (by omega) (by simp)
    rw [show ((0 : Nat) : Int) = 0 from rfl] at this
    rw [this]
    exact ok_ret ⟨rfl, rfl⟩

end

end Go.Al

namespace Go.Al
open Go.Gr

theorem count0_le : ∀ {s s' : List Nat}, s.length = s'.length → (∀ i : Nat, s[i]? = some 0 → s'[i]? = some 0) → s.count 0 ≤ s'.count 0
  | [], s', hl, h => by simp
  | x :: s, [], hl, h => by simp at hl
  | x :: s, y :: s', hl, h => by
    have ih := count0_le (s := s) (s' := s') (by simpa using hl) (fun i hi => by simpa using h (i + 1) (by simpa using hi))
    have h0 := h 0
    simp only [List.getElem?_cons_zero, Option.some.injEq] at h0
    simp only [List.count_cons, beq_iff_eq]
    by_cases hx : x = 0
    · rw [if_pos hx, if_pos (h0 hx)]; omega
    · rw [if_neg hx]; omega

theorem set_get {s : List Nat} {i j x : Nat} (hi : i < s.length) : (s.set i x)[j]? = if i = j then some x else s[j]? := by
  rw [List.getElem?_set]
  by_cases h : i = j
  · subst h; simp [hi]
  · simp [h]

theorem count_set0 {s : List Nat} {i x : Nat} (hi : s[i]? = some 0) (hx : x ≠ 0) : (s.set i x).count 0 = s.count 0 - 1 := by
  obtain ⟨hlt, he⟩ := List.getElem?_eq_some_iff.1 hi
  rw [List.count_set hlt]
  simp [he, hx]

namespace AM
variable {A : AM}

theorem WF.withR (h : A.WF) {r : Nat} (hr : r ≤ A.s.count 0) : AM.WF { A with r := r } := ⟨h.td, h.ti, h.gd, h.gi, hr, h.n2, h.st⟩
theorem WF.withH (h : A.WF) (x : Nat) : AM.WF { A with h := x } := ⟨h.td, h.ti, h.gd, h.gi, h.rf, h.n2, h.st⟩

theorem WF.to2 (h : A.WF) {x : Nat} (hx : A.s[x]? = some 0) (hr : A.r + 1 ≤ A.s.count 0) : AM.WF { A with s := A.s.set x 2, t := A.t ++ [x] } := by
  obtain ⟨hlt, he⟩ := List.getElem?_eq_some_iff.1 hx
  have hn : x ∉ A.t := fun hm => by have := (h.ti x).1 hm; rw [hx] at this; simp at this
  refine ⟨?_, fun b => ?_, h.gd, fun b => ?_, ?_, by simpa using h.n2, fun y hy => ?_⟩
  · rw [List.nodup_append]
    exact ⟨h.td, by simp, fun a ha c hc => by simp at hc; subst hc; rintro rfl; exact hn ha⟩
  · show b ∈ A.t ++ [x] ↔ (A.s.set x 2)[b]? = some 2
    rw [set_get hlt, List.mem_append, h.ti b]
    by_cases hb : x = b
    · simp [hb]
    · simp [hb, Ne.symm hb]
  · show b ∈ A.g ↔ (A.s.set x 2)[b]? = some 3
    rw [set_get hlt, h.gi b]
    by_cases hb : x = b
    · subst hb; simp [hx]
    · simp [hb]
  · show A.r ≤ (A.s.set x 2).count 0
    rw [count_set0 hx (by decide)]; omega
  · rcases List.mem_or_eq_of_mem_set hy with hy | rfl
    · exact h.st y hy
    · decide

theorem WF.to3 (h : A.WF) {x : Nat} (hx : A.s[x]? = some 1) : AM.WF { A with s := A.s.set x 3, g := A.g ++ [x] } := by
  obtain ⟨hlt, he⟩ := List.getElem?_eq_some_iff.1 hx
  have hn : x ∉ A.g := fun hm => by have := (h.gi x).1 hm; rw [hx] at this; simp at this
  refine ⟨h.td, fun b => ?_, ?_, fun b => ?_, ?_, by simpa using h.n2, fun y hy => ?_⟩
  · show b ∈ A.t ↔ (A.s.set x 3)[b]? = some 2
    rw [set_get hlt, h.ti b]
    by_cases hb : x = b
    · subst hb; simp [hx]
    · simp [hb]
  · rw [List.nodup_append]
    exact ⟨h.gd, by simp, fun a ha c hc => by simp at hc; subst hc; rintro rfl; exact hn ha⟩
  · show b ∈ A.g ++ [x] ↔ (A.s.set x 3)[b]? = some 3
    rw [set_get hlt, List.mem_append, h.gi b]
    by_cases hb : x = b
    · simp [hb]
    · simp [hb, Ne.symm hb]
  · refine Nat.le_trans h.rf (count0_le (by simp) (fun i hi => ?_))
    rw [set_get hlt]
    by_cases hb : x = i
    · subst hb; rw [hx] at hi; simp at hi
    · simpa [hb] using hi
  · rcases List.mem_or_eq_of_mem_set hy with hy | rfl
    · exact h.st y hy
    · decide

theorem WF.to0 (h : A.WF) {x : Nat} (hx : A.s[x]? = some 2) : AM.WF { A with s := A.s.set x 0, t := A.t.erase x } := by
  obtain ⟨hlt, he⟩ := List.getElem?_eq_some_iff.1 hx
  refine ⟨h.td.erase x, fun b => ?_, h.gd, fun b => ?_, ?_, by simpa using h.n2, fun y hy => ?_⟩
  · show b ∈ A.t.erase x ↔ (A.s.set x 0)[b]? = some 2
    rw [set_get hlt, h.td.mem_erase_iff, h.ti b]
    by_cases hb : x = b
    · simp [hb]
    · simp [hb, Ne.symm hb]
  · show b ∈ A.g ↔ (A.s.set x 0)[b]? = some 3
    rw [set_get hlt, h.gi b]
    by_cases hb : x = b
    · subst hb; simp [hx]
    · simp [hb]
  · refine Nat.le_trans h.rf (count0_le (by simp) (fun i hi => ?_))
    rw [set_get hlt]
    by_cases hb : x = i
    · simp [hb]
    · simpa [hb] using hi
  · rcases List.mem_or_eq_of_mem_set hy with hy | rfl
    · exact h.st y hy
    · decide

/-- No transaction is open. -/
theorem WF.calm (h : A.WF) {s : List Nat} (hl : s.length = A.s.length) (h23 : ∀ i : Nat, s[i]? ≠ some 2 ∧ s[i]? ≠ some 3) (h0 : ∀ i : Nat, A.s[i]? = some 0 → s[i]? = some 0) (hs : ∀ x ∈ s, x ≤ 4) : AM.WF { A with s := s, t := [], g := [] } :=
  ⟨by simp, fun b => by simpa using (h23 b).1, by simp, fun b => by simpa using (h23 b).2, Nat.le_trans h.rf (count0_le hl.symm h0), by show s.length ≤ _; rw [hl]; exact h.n2, hs⟩

theorem commit_get (A : AM) (i : Nat) (hi : i < A.s.length) : A.commit.s[i]? = if i ∈ A.g then some (if 0 < A.h then 4 else 0) else if i ∈ A.t then some 1 else A.s[i]? := by
  show (setAll (if 0 < A.h then 4 else 0) A.g (setAll 1 A.t A.s))[i]? = _
  rw [setAll_get _ _ _ _ (by simpa using hi), setAll_get _ _ _ _ hi]
theorem abort_get (A : AM) (i : Nat) (hi : i < A.s.length) : A.abort.s[i]? = if i ∈ A.g then some 1 else if i ∈ A.t then some 0 else A.s[i]? := by
  show (setAll 1 A.g (setAll 0 A.t A.s))[i]? = _
  rw [setAll_get _ _ _ _ (by simpa using hi), setAll_get _ _ _ _ hi]
@[simp] theorem commit_len (A : AM) : A.commit.s.length = A.s.length := by simp [AM.commit]
@[simp] theorem abort_len (A : AM) : A.abort.s.length = A.s.length := by simp [AM.abort]

theorem WF.commit (h : A.WF) : A.commit.WF := by
  have key : ∀ i : Nat, i < A.s.length → A.commit.s[i]? ≠ some 2 ∧ A.commit.s[i]? ≠ some 3 ∧ (A.s[i]? = some 0 → A.commit.s[i]? = some 0) ∧ ∀ x, A.commit.s[i]? = some x → x ≤ 4 := by
    intro i hi
    have ht := h.ti i
    have hg := h.gi i
    rw [commit_get A i hi]
    by_cases h1 : i ∈ A.g
    · have h3 := hg.1 h1
      rw [if_pos h1, h3]
      refine ⟨?_, ?_, by simp, ?_⟩ <;> split <;> simp <;> omega
    · rw [if_neg h1]
      by_cases h2 : i ∈ A.t
      · have h3 := ht.1 h2
        rw [if_pos h2, h3]
        exact ⟨by simp, by simp, by simp, by simp⟩
      · rw [if_neg h2]
        exact ⟨fun e => h2 (ht.2 e), fun e => h1 (hg.2 e), id, fun x e => h.st x (List.mem_of_getElem? e)⟩
  have out : ∀ i : Nat, ¬ i < A.s.length → A.commit.s[i]? = none := fun i hi => List.getElem?_eq_none (by simp; omega)
  refine h.calm (s := A.commit.s) (by simp) (fun i => ?_) (fun i hi => ?_) (fun x hx => ?_)
  · by_cases hi : i < A.s.length
    · exact ⟨(key i hi).1, (key i hi).2.1⟩
    · rw [out i hi]; simp
  · exact (key i (List.getElem?_eq_some_iff.1 hi).1).2.2.1 hi
  · obtain ⟨i, hi⟩ := List.mem_iff_getElem?.1 hx
    have := (List.getElem?_eq_some_iff.1 hi).1
    exact (key i (by simpa using this)).2.2.2 x hi

theorem WF.abort (h : A.WF) : A.abort.WF := by
  have key : ∀ i : Nat, i < A.s.length → A.abort.s[i]? ≠ some 2 ∧ A.abort.s[i]? ≠ some 3 ∧ (A.s[i]? = some 0 → A.abort.s[i]? = some 0) ∧ ∀ x, A.abort.s[i]? = some x → x ≤ 4 := by
    intro i hi
    have ht := h.ti i
    have hg := h.gi i
    rw [abort_get A i hi]
    by_cases h1 : i ∈ A.g
    · have h3 := hg.1 h1
      rw [if_pos h1, h3]
      exact ⟨by simp, by simp, by simp, by simp⟩
    · rw [if_neg h1]
      by_cases h2 : i ∈ A.t
      · have h3 := ht.1 h2
        rw [if_pos h2, h3]
        exact ⟨by simp, by simp, by simp, by simp⟩
      · rw [if_neg h2]
        exact ⟨fun e => h2 (ht.2 e), fun e => h1 (hg.2 e), id, fun x e => h.st x (List.mem_of_getElem? e)⟩
  have out : ∀ i : Nat, ¬ i < A.s.length → A.abort.s[i]? = none := fun i hi => List.getElem?_eq_none (by simp; omega)
  refine h.calm (s := A.abort.s) (by simp) (fun i => ?_) (fun i hi => ?_) (fun x hx => ?_)
  · by_cases hi : i < A.s.length
    · exact ⟨(key i hi).1, (key i hi).2.1⟩
    · rw [out i hi]; simp
  · exact (key i (List.getElem?_eq_some_iff.1 hi).1).2.2.1 hi
  · obtain ⟨i, hi⟩ := List.mem_iff_getElem?.1 hx
    have := (List.getElem?_eq_some_iff.1 hi).1
    exact (key i (by simpa using this)).2.2.2 x hi

/-- What was held is let go. -/
def lg (x : Nat) : Nat := if x = 4 then 0 else x
def letgo (A : AM) : AM := if A.h = 0 then A else if 1 < A.h then { A with h := A.h - 1 } else { A with h := 0, s := A.s.map lg }

theorem WF.letgo (h : A.WF) : A.letgo.WF := by
  unfold AM.letgo
  split
  · exact h
  split
  · exact h.withH _
  refine ⟨h.td, fun b => ?_, h.gd, fun b => ?_, ?_, by simpa using h.n2, fun y hy => ?_⟩
  · show b ∈ A.t ↔ (A.s.map lg)[b]? = some 2
    rw [h.ti b, List.getElem?_map]
    cases A.s[b]? with
    | none => simp
    | some v => simp only [Option.map_some, lg, Option.some.injEq]; split <;> omega
  · show b ∈ A.g ↔ (A.s.map lg)[b]? = some 3
    rw [h.gi b, List.getElem?_map]
    cases A.s[b]? with
    | none => simp
    | some v => simp only [Option.map_some, lg, Option.some.injEq]; split <;> omega
  · refine Nat.le_trans h.rf (count0_le (by simp) (fun i hi => ?_))
    rw [List.getElem?_map, hi]; rfl
  · obtain ⟨z, hz, rfl⟩ := List.mem_map.1 hy
    have := h.st z hz
    unfold lg; split <;> omega

theorem WF.take (h : A.WF) (x : Int) : (A.take x).WF := by
  unfold AM.take
  split
  · rename_i he
    have hc : A.r < A.s.count 0 := by
      unfold AM.takeE at he
      split at he
      · simp at he
      split at he
      · simp at he
      omega
    exact h.to2 (AM.next_spec (List.count_pos_iff.1 (by omega))) (by omega)
  · exact h
theorem WF.res (h : A.WF) (x : Int) : (A.res x).WF := by
  unfold AM.res
  split
  · rename_i he
    have hc : A.r ≠ 0 := by
      unfold AM.resE at he
      split at he
      · simp at he
      split at he
      · simp at he
      assumption
    have hrf := h.rf
    exact (h.withR (r := A.r - 1) (by omega)).to2 (AM.next_spec (List.count_pos_iff.1 (show 0 < A.s.count 0 by omega))) (show A.r - 1 + 1 ≤ A.s.count 0 by omega)
  · exact h
theorem WF.mark (h : A.WF) (x : Int) : (A.mark x).WF := by
  unfold AM.mark
  split
  · rename_i he
    unfold AM.markE at he
    split at he
    · simp at he
    split at he
    · simp at he
    rename_i hc
    simp only [not_or, ne_eq, Classical.not_not, Nat.not_le] at hc
    exact h.to2 hc.1 (by omega)
  · exact h
theorem WF.give (h : A.WF) (x : Int) : (A.give x).WF := by
  unfold AM.give
  split
  · exact h
  split
  · rename_i he; exact h.to3 he
  split
  · rename_i he; exact h.to0 he
  · exact h
theorem WF.reserve (h : A.WF) (x : Int) : (A.reserve x).WF := by
  unfold AM.reserve
  split
  · rename_i he
    unfold AM.reserveE at he
    split at he
    · simp at he
    split at he
    · simp at he
    have := h.rf
    exact h.withR (by omega)
  · exact h
theorem WF.release (h : A.WF) (x : Int) : (A.release x).WF := by
  unfold AM.release
  have := h.rf
  split
  · exact h.withR (by omega)
  · exact h
@[simp] theorem take_len (A : AM) (x : Int) : (A.take x).s.length = A.s.length := by unfold AM.take AM.takes; split <;> simp
@[simp] theorem res_len (A : AM) (x : Int) : (A.res x).s.length = A.s.length := by unfold AM.res AM.takes; split <;> simp
@[simp] theorem mark_len (A : AM) (x : Int) : (A.mark x).s.length = A.s.length := by unfold AM.mark; split <;> simp
@[simp] theorem give_len (A : AM) (x : Int) : (A.give x).s.length = A.s.length := by unfold AM.give; (repeat' split) <;> simp
@[simp] theorem reserve_len (A : AM) (x : Int) : (A.reserve x).s.length = A.s.length := by unfold AM.reserve; split <;> simp
@[simp] theorem release_len (A : AM) (x : Int) : (A.release x).s.length = A.s.length := by unfold AM.release; split <;> simp
@[simp] theorem letgo_len (A : AM) : A.letgo.s.length = A.s.length := by unfold AM.letgo; (repeat' split) <;> simp
@[simp] theorem take_h (A : AM) (x : Int) : (A.take x).h = A.h := by unfold AM.take AM.takes; split <;> simp
@[simp] theorem res_h (A : AM) (x : Int) : (A.res x).h = A.h := by unfold AM.res AM.takes; split <;> simp
@[simp] theorem mark_h (A : AM) (x : Int) : (A.mark x).h = A.h := by unfold AM.mark; split <;> simp
@[simp] theorem give_h (A : AM) (x : Int) : (A.give x).h = A.h := by unfold AM.give; (repeat' split) <;> simp
@[simp] theorem reserve_h (A : AM) (x : Int) : (A.reserve x).h = A.h := by unfold AM.reserve; split <;> simp
@[simp] theorem release_h (A : AM) (x : Int) : (A.release x).h = A.h := by unfold AM.release; split <;> simp
@[simp] theorem commit_h (A : AM) : A.commit.h = A.h := rfl
@[simp] theorem abort_h (A : AM) : A.abort.h = A.h := rfl
theorem letgo_h (A : AM) : A.letgo.h = A.h - 1 := by
  unfold AM.letgo
  split
  · omega
  split
  · rfl
  · show 0 = A.h - 1
    omega

/-- An act, by its kind and its number. -/
def act (A : AM) (k x : Int) : AM := if k = 1 then A.take x else if k = 2 then A.res x else if k = 3 then A.give x else if k = 4 then A.mark x else if k = 5 then A.reserve x else if k = 6 then A.release x else if k = 7 then A.commit else if k = 8 then A.abort else if k = 10 then { A with h := A.h + 1 } else if k = 11 then A.letgo else A
/-- What is held is held by some. -/
def Hd (A : AM) : Prop := ∀ i : Nat, A.s[i]? = some 4 → 0 < A.h
theorem Hd.set (h : A.Hd) {i x : Nat} (hx : x ≠ 4) (t g : List Nat) (r : Nat) : AM.Hd ⟨A.s.set i x, t, g, r, A.h⟩ := fun j hj => by
  simp only [List.getElem?_set] at hj
  split at hj
  · split at hj
    · simp at hj; exact absurd hj hx
    · cases hj
  · exact h j hj
theorem Hd.take (h : A.Hd) (x : Int) : (A.take x).Hd := by unfold AM.take AM.takes; split; exact h.set (by decide) _ _ _; exact h
theorem Hd.res (h : A.Hd) (x : Int) : (A.res x).Hd := by unfold AM.res AM.takes; split; exact h.set (by decide) _ _ _; exact h
theorem Hd.mark (h : A.Hd) (x : Int) : (A.mark x).Hd := by unfold AM.mark; split; exact h.set (by decide) _ _ _; exact h
theorem Hd.give (h : A.Hd) (x : Int) : (A.give x).Hd := by
  unfold AM.give
  split
  · exact h
  split
  · exact h.set (by decide) _ _ _
  split
  · exact h.set (by decide) _ _ _
  · exact h
theorem Hd.reserve (h : A.Hd) (x : Int) : (A.reserve x).Hd := by unfold AM.reserve; split <;> exact h
theorem Hd.release (h : A.Hd) (x : Int) : (A.release x).Hd := by unfold AM.release; split <;> exact h
theorem Hd.commit (h : A.Hd) : A.commit.Hd := fun i hi => by
  have hlt : i < A.s.length := by have := (List.getElem?_eq_some_iff.1 hi).1; simpa using this
  rw [commit_get A i hlt] at hi
  show 0 < A.h
  split at hi
  · simp only [Option.some.injEq] at hi
    split at hi
    · assumption
    · cases hi
  · split at hi
    · simp at hi
    · exact h i hi
theorem Hd.abort (h : A.Hd) : A.abort.Hd := fun i hi => by
  have hlt : i < A.s.length := by have := (List.getElem?_eq_some_iff.1 hi).1; simpa using this
  rw [abort_get A i hlt] at hi
  show 0 < A.h
  split at hi
  · simp at hi
  · split at hi
    · simp at hi
    · exact h i hi
theorem Hd.letgo (h : A.Hd) : A.letgo.Hd := by
  unfold AM.letgo
  split
  · exact h
  split
  · intro i hi; show 0 < A.h - 1; omega
  · intro i hi
    simp only [List.getElem?_map, Option.map_eq_some_iff] at hi
    obtain ⟨y, _, hy⟩ := hi
    unfold lg at hy
    split at hy <;> omega
theorem Hd.act (h : A.Hd) (k x : Int) : (A.act k x).Hd := by
  unfold AM.act
  split; exact h.take x
  split; exact h.res x
  split; exact h.give x
  split; exact h.mark x
  split; exact h.reserve x
  split; exact h.release x
  split; exact h.commit
  split; exact h.abort
  split; exact fun i hi => Nat.succ_pos _
  split; exact h.letgo
  exact h
end AM

end Go.Al

namespace Go.Al
open Go.Gr

/-- The states from one block on, let go. -/
def lgF (i : Nat) (s : List Nat) : List Nat := s.mapIdx fun j x => if i ≤ j then AM.lg x else x
theorem lgF_get (i : Nat) (s : List Nat) (j : Nat) : (lgF i s)[j]? = (s[j]?).map fun x => if i ≤ j then AM.lg x else x := by simp [lgF]
theorem lgF_end (s : List Nat) : lgF s.length s = s := by
  apply List.ext_getElem?
  intro j
  rw [lgF_get]
  by_cases h : j < s.length
  · rw [List.getElem?_eq_getElem h]; simp; omega
  · rw [List.getElem?_eq_none (by omega)]; rfl
theorem lgF_zero (s : List Nat) : lgF 0 s = s.map AM.lg := by
  apply List.ext_getElem?
  intro j
  rw [lgF_get, List.getElem?_map]; simp
theorem lgF_step {s : List Nat} {i x : Nat} (hi : s[i]? = some x) : lgF (i + 1) (s.set i (AM.lg x)) = lgF i s := by
  have hlt := (List.getElem?_eq_some_iff.1 hi).1
  apply List.ext_getElem?
  intro j
  rw [lgF_get, lgF_get, set_get hlt]
  by_cases h : i = j
  · subst h
    rw [if_pos rfl, hi]
    simp only [Option.map_some, Option.some.injEq]
    rw [if_neg (by omega), if_pos (Nat.le_refl _)]
  · rw [if_neg h]
    cases s[j]? with
    | none => rfl
    | some y =>
      simp only [Option.map_some, Option.some.injEq]
      by_cases h2 : i ≤ j
      · rw [if_pos (by omega), if_pos h2]
      · rw [if_neg (by omega), if_neg h2]
theorem lgF_same {s : List Nat} {i x : Nat} (hi : s[i]? = some x) (hx : x ≠ 4) : lgF (i + 1) s = lgF i s := by
  have := lgF_step hi
  have e : s.set i (AM.lg x) = s := by
    have : AM.lg x = x := by unfold AM.lg; rw [if_neg hx]
    rw [this]
    obtain ⟨hlt, rfl⟩ := List.getElem?_eq_some_iff.1 hi
    exact List.set_getElem_self hlt
  rwa [e] at this

theorem ok_atI {k : IntKind} {l : List AV} {i : Nat} {v : Int} {K : Int → Option (AV × AS)} {Q : AV → AS → Prop} (h : l[i]? = some (.int k v)) (ht : Ok (K v) Q) : Ok (atI k l i K) Q := by simp only [atI, h, gIk, if_true]; exact ht
theorem ok_atL {l : List AV} {i : Nat} {a : Option Pos} {m : Nat} {c : Cap} {K : Option Pos → Nat → Cap → Option (AV × AS)} {Q : AV → AS → Prop} (h : l[i]? = some (.sl a m c)) (ht : Ok (K a m c) Q) : Ok (atL l i K) Q := by simp only [atL, h, gL]; exact ht
theorem ok_atP {l : List AV} {i : Nat} {a : Option Pos} {K : Option Pos → Option (AV × AS)} {Q : AV → AS → Prop} (h : l[i]? = some (.ptr a)) (ht : Ok (K a) Q) : Ok (atP l i K) Q := by simp only [atP, h, gP]; exact ht

section
variable {X : Cx} {S : AS} {L F : List Ent} {b : Nat} {A : AM} {Q : AV → AS → Prop}

theorem row_map (k : IntKind) (d : List Nat) : row k d = (d.map fun (n : Nat) => (n : Int)).map (AV.int k) := by simp [row]

end

end Go.Al
