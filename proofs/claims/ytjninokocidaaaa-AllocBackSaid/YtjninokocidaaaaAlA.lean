/- What the functions of package alloc do with a heap: an allocator in memory; states turned, looked for, taken. -/
import Derived.Test.YtjninokocidaaaaRF
import Derived.Test.YtjninokocidaaaaGrSep2
set_option linter.unusedVariables false
set_option linter.unusedSimpArgs false
set_option maxRecDepth 4000
namespace Go.Al
open Go.Gr

def orcL : Orc := fun f args => match args with
  | [] => cond (Nat.beq f 12) (some (.bool true)) none
  | _ => none
theorem oL {f : FuncId} (h : Nat.beq f 12 = false) : ∀ args, orcL f args = none := by
  intro args
  cases args with
  | nil => simp [orcL, h]
  | cons x xs => rfl

noncomputable abbrev ev (n : Nat) : CallA := evF E orcL n

/-- An allocator: each block's state, what was taken and given in order, what is reserved, how many hold. -/
structure AM where
  s : List Nat
  t : List Nat
  g : List Nat
  r : Nat
  h : Nat

/-- Numbers as elements. -/
def ins (k : IntKind) (l : List Nat) : List (List AV) := ixs k (l.map fun (n : Nat) => (n : Int))
@[simp] theorem ins_len (k : IntKind) (l : List Nat) : (ins k l).length = l.length := by simp [ins]
theorem ins_all (k : IntKind) (l : List Nat) : ∀ x ∈ ins k l, x.length = 1 := ixs_all k _
def row (k : IntKind) (l : List Nat) : List AV := l.map fun (n : Nat) => AV.int k (n : Int)
@[simp] theorem row_len (k : IntKind) (l : List Nat) : (row k l).length = l.length := by simp [row]
@[simp] theorem ins_flat (k : IntKind) (l : List Nat) : (ins k l).flatten = row k l := by simp [ins, row]
theorem ins_append (k : IntKind) (l m : List Nat) : ins k (l ++ m) = ins k l ++ ins k m := by simp [ins, ixs_append]
theorem row_append (k : IntKind) (l m : List Nat) : row k (l ++ m) = row k l ++ row k m := by simp [row]
theorem row_get (k : IntKind) (l : List Nat) (i : Nat) : (row k l)[i]? = (l[i]?).map fun (n : Nat) => AV.int k (n : Int) := by simp [row]
theorem row_at {k : IntKind} {l : List Nat} {i x : Nat} (h : l[i]? = some x) : (row k l)[i]? = some (.int k x) := by rw [row_get, h]; rfl
theorem row_drop (k : IntKind) (l : List Nat) (i : Nat) : (row k l).drop i = row k (l.drop i) := by simp [row, List.map_drop]
theorem row_splice {k : IntKind} {l : List Nat} {i : Nat} (x : Nat) (h : i < l.length) : splice (row k l) i [.int k (x : Int)] = row k (l.set i x) := by
  rw [splice, List.set_eq_take_append_cons_drop, if_pos h]
  simp [row, List.map_take, List.map_drop]

def hdr (A : AM) (sa : Option Pos) (sl : Nat) (sc : Cap) (ta : Option Pos) (tl : Nat) (tc : Cap) (ga : Option Pos) (gl : Nat) (gc : Cap) : List AV :=
  [.sl sa sl sc, .int .i64 A.r, .int .i64 A.h, .sl ta tl tc, .sl ga gl gc, .int .i64 (A.s.count 0 : Nat)]

structure AllocR (A : AM) (bs : Nat) (sc : Cap) (ta : Option Pos) (tl : Nat) (tc : Cap) (ga : Option Pos) (gl : Nat) (gc : Cap) (Lt Lg : List Ent) : Prop where
  n1 : 1 ≤ A.s.length
  n2 : A.s.length ≤ 65536
  st : ∀ x ∈ A.s, x ≤ 4
  hc : sc = .ex A.s.length ∨ sc = .op 1 A.s.length
  ht : SlG ta tl tc 1 (ins .i64 A.t) Lt
  hg : SlG ga gl gc 1 (ins .i64 A.g) Lg

abbrev blks (b : Nat) (A : AM) (bs : Nat) (sc : Cap) (ta : Option Pos) (tl : Nat) (tc : Cap) (ga : Option Pos) (gl : Nat) (gc : Cap) (Lt Lg : List Ent) : List Ent :=
  C b (hdr A (some (.rw bs, 0)) A.s.length sc ta tl tc ga gl gc) :: C bs (row .u8 A.s) :: (Lt ++ Lg)

/-- An allocator in the heap, with all that it owns. -/
def Alloc (b : Nat) (A : AM) (L : List Ent) : Prop := ∃ bs sc ta tl tc ga gl gc Lt Lg, AllocR A bs sc ta tl tc ga gl gc Lt Lg ∧ L = blks b A bs sc ta tl tc ga gl gc Lt Lg

theorem wn {x : Int} {n : Nat} (h : x = n) (hn : n < 4611686018427387904) : IntKind.wrap .i64 x = n := by
  rw [h, wrap64 (by omega) (by omega)]

theorem wz {x z : Int} (h : x = z) (h1 : -4611686018427387904 < z) (h2 : z < 4611686018427387904) : IntKind.wrap .i64 x = z := by
  rw [h, wrap64 (by omega) (by omega)]

section
variable {X : Cx} {S : AS} {L F : List Ent} {b : Nat} {A : AM}

theorem ok_eq {q : Option (AV × AS)} {v : AV} {S : AS} (h : Ok q (fun w S' => w = v ∧ S' = S)) : q = some (v, S) := by
  obtain ⟨w, S', e, rfl, rfl⟩ := h
  exact e

theorem num_eq (n : Nat) (x : Int) (S : AS) : ev (n + 1) (.fn 11) [.int .i64 x] S = some (.int .i64 x, S) := by
  rw [ev, F11 _ _ _ (oL rfl)]; rfl

/-- How many blocks a bitmap's allocator may have. -/
def right (n : Int) : Prop := 1 ≤ n ∧ n ≤ 65536

theorem count_rep (n : Nat) : (List.replicate n 0).count 0 = n := by simp

theorem new_ok (n : Nat) (h : Hp X S F) (x : Int) : Ok (ev (n + 1) (.fn 10) [.int .i64 x] S) fun v S' =>
    (¬ right x ∧ v = .tup [.ptr none, .int .i64 2] ∧ S' = S) ∨
    (right x ∧ ∃ b L, v = .tup [.ptr (some (.rw b, 0)), .int .i64 0] ∧ Alloc b ⟨List.replicate x.toNat 0, [], [], 0, 0⟩ L ∧ Hp X S' (L ++ F)) := by
  rw [ev, F10 _ _ _ (oL rfl)]
  simp only [J10, b10_entry]
  refine ok_cond (fun hc => ok_ret (.inl ⟨?_, rfl, rfl⟩)) (fun hc => ok_cond (fun hc2 => ok_ret (.inl ⟨?_, rfl, rfl⟩)) (fun hc2 => ?_))
  · simp only [decide_eq_true_eq] at hc
    unfold right; omega
  · simp only [gt_iff_lt, decide_eq_true_eq] at hc2
    unfold right; omega
  simp only [gt_iff_lt, decide_eq_false_iff_not] at hc hc2
  obtain ⟨k, rfl⟩ : ∃ k : Nat, x = (k : Int) := ⟨x.toNat, by omega⟩
  refine ok_mkSl (l := k) (c := k) rfl rfl (Nat.le_refl _) (by simp [pow46]; omega) (by simp [pow46]; omega) ?_
  refine ok_newA h (fun b1 S1 h => ok_newA h (fun b2 S2 h => ok_ret (.inr ⟨by unfold right; omega, b2, _, rfl, ⟨b1, .ex k, none, 0, .ex 0, none, 0, .ex 0, [], [], ⟨by simp; omega, by simp; omega, ?_, .inl (by simp), .nil, .nil⟩, rfl⟩, ?_⟩)))
  · intro x hx
    simp at hx; omega
  · simp only [blks, hdr, Int.toNat_natCast, count_rep, List.length_replicate, List.append_nil]
    have e : zeros k [AV.int .u8 0] = row .u8 (List.replicate k 0) := by
      simp [zeros, row]
    rw [e] at h
    exact h

theorem is_eq (n : Nat) (h : Hp X S (L ++ F)) (ha : Alloc b A L) (x : Int) : ev (n + 1) (.fn 39) [.ptr (some (.rw b, 0)), .int .i64 x] S = some (.bool (decide (0 ≤ x) && decide (x < A.s.length)), S) := by
  obtain ⟨bs, sc, ta, tl, tc, ga, gl, gc, Lt, Lg, hr, rfl⟩ := ha
  apply ok_eq
  rw [ev, F39 _ _ _ _ (oL rfl)]
  simp only [J39, b39_entry]
  refine ok_cond (fun hc => ok_gO (ok_ldL h rfl (ok_ret ⟨?_, rfl⟩))) (fun hc => ok_ret ⟨?_, rfl⟩)
  · simp only [ge_iff_le, decide_eq_true_eq] at hc
    simp [hc]
  · simp only [ge_iff_le, decide_eq_false_iff_not] at hc
    simp [hc]

theorem set_ok (n : Nat) (h : Hp X S (L ++ F)) (ha : Alloc b A L) {i x : Nat} (hi : i < A.s.length) (hx : x ≤ 4) {ii xi : Int} (hii : ii = i) (hxi : xi = x) :
    Ok (ev (n + 1) (.fn 42) [.ptr (some (.rw b, 0)), .int .i64 ii, .int .i64 xi] S) fun v S' => v = .tup [] ∧ ∃ L', Alloc b { A with s := A.s.set i x } L' ∧ Hp X S' (L' ++ F) ∧
      ∀ bs sc ta tl tc ga gl gc Lt Lg, AllocR A bs sc ta tl tc ga gl gc Lt Lg → L = blks b A bs sc ta tl tc ga gl gc Lt Lg → L' = blks b { A with s := A.s.set i x } bs sc ta tl tc ga gl gc Lt Lg := by
  subst hii hxi
  obtain ⟨bs, sc, ta, tl, tc, ga, gl, gc, Lt, Lg, hr, rfl⟩ := ha
  obtain ⟨y, hy⟩ : ∃ y, A.s[i]? = some y := ⟨A.s[i], by simp [hi]⟩
  have hym := hr.st y (List.mem_of_getElem? hy)
  have hyl : A.s[i] = y := by simpa [hi] using hy
  have hn2 := hr.n2
  have hcnt := List.count_set (a := x) (b := 0) (l := A.s) (i := i) hi
  rw [hyl] at hcnt
  have hle : A.s.count 0 ≤ 65536 := Nat.le_trans List.count_le_length hn2
  have hpos : y = 0 → 0 < A.s.count 0 := fun e => List.count_pos_iff.2 (by rw [← e]; exact List.mem_of_getElem? hy)
  rw [ev, F42 _ _ _ _ _ (oL rfl)]
  simp only [J42, b42_entry]
  have fin : ∀ S1, Hp X S1 (C b ([.sl (some (.rw bs, 0)) A.s.length sc, .int .i64 A.r, .int .i64 A.h, .sl ta tl tc, .sl ga gl gc, .int .i64 ((A.s.set i x).count 0 : Nat)]) :: C bs (row .u8 A.s) :: (Lt ++ Lg) ++ F) →
      Ok (J42_j1_1 (evF E orcL n) n (some (.rw b, 0)) i x S1) fun v S' => v = .tup [] ∧ ∃ L', Alloc b { A with s := A.s.set i x } L' ∧ Hp X S' (L' ++ F) ∧
      ∀ bs' sc' ta' tl' tc' ga' gl' gc' Lt' Lg', AllocR A bs' sc' ta' tl' tc' ga' gl' gc' Lt' Lg' → blks b A bs sc ta tl tc ga gl gc Lt Lg = blks b A bs' sc' ta' tl' tc' ga' gl' gc' Lt' Lg' → L' = blks b { A with s := A.s.set i x } bs' sc' ta' tl' tc' ga' gl' gc' Lt' Lg' := by
    intro S1 h1
    simp only [J42_j1_1, b42_j1_1]
    refine ok_gO (ok_ldL h1 rfl (ok_ixSl (k := i) rfl hi ?_))
    have hw : IntKind.wrap .u8 (x : Int) = x := by simp [IntKind.wrap, IntKind.bits, IntKind.signed]; omega
    rw [hw, Nat.zero_add, Nat.mul_one]
    refine ok_stn h1 (by simp; omega) (d := row .u8 (A.s.set i x)) (row_splice x hi) (fun S2 h2 => ok_ret ⟨rfl, _, ⟨bs, sc, ta, tl, tc, ga, gl, gc, Lt, Lg, ⟨by simpa using hr.n1, by simpa using hr.n2, ?_, by simpa using hr.hc, hr.ht, hr.hg⟩, rfl⟩, ?_, ?_⟩)
    · intro z hz
      rcases List.mem_or_eq_of_mem_set hz with hz | rfl
      · exact hr.st z hz
      · exact hx
    · simpa [blks, hdr] using h2
    · intro bs' sc' ta' tl' tc' ga' gl' gc' Lt' Lg' _ he
      simp only [blks, hdr, List.cons.injEq, C, Prod.mk.injEq, Option.some.injEq, AObj.cells.injEq, AV.sl.injEq, Bid.rw.injEq] at he ⊢
      simp_all
  have mid : ∀ S1 (c1 : Nat), c1 + (if x = 0 then 1 else 0) = (A.s.set i x).count 0 → c1 ≤ 65536 → Hp X S1 (C b ([.sl (some (.rw bs, 0)) A.s.length sc, .int .i64 A.r, .int .i64 A.h, .sl ta tl tc, .sl ga gl gc, .int .i64 (c1 : Nat)]) :: C bs (row .u8 A.s) :: (Lt ++ Lg) ++ F) →
      Ok (J42_j1 (evF E orcL n) n (some (.rw b, 0)) i x S1) fun v S' => v = .tup [] ∧ ∃ L', Alloc b { A with s := A.s.set i x } L' ∧ Hp X S' (L' ++ F) ∧
      ∀ bs' sc' ta' tl' tc' ga' gl' gc' Lt' Lg', AllocR A bs' sc' ta' tl' tc' ga' gl' gc' Lt' Lg' → blks b A bs sc ta tl tc ga gl gc Lt Lg = blks b A bs' sc' ta' tl' tc' ga' gl' gc' Lt' Lg' → L' = blks b { A with s := A.s.set i x } bs' sc' ta' tl' tc' ga' gl' gc' Lt' Lg' := by
    intro S1 c1 he hle h1
    simp only [J42_j1, b42_j1]
    refine ok_cond (fun hc => ?_) (fun hc => ?_)
    · simp only [beq_iff_eq] at hc
      rw [if_pos (by omega)] at he
      refine ok_gO (ok_ldI h1 rfl (ok_gO ?_))
      refine ok_stn h1 (by simp) (d := [.sl (some (.rw bs, 0)) A.s.length sc, .int .i64 A.r, .int .i64 A.h, .sl ta tl tc, .sl ga gl gc, .int .i64 ((A.s.set i x).count 0 : Nat)]) ?_ (fun S2 h2 => fin S2 h2)
      rw [wrap64 (by omega) (by omega), ← he]
      simp [splice]
    · simp only [beq_eq_false_iff_ne, ne_eq] at hc
      rw [if_neg (by omega), Nat.add_zero] at he
      subst he
      exact fin S1 h1
  refine ok_gO (ok_ldL h rfl (ok_ixSl (k := i) rfl hi ?_))
  rw [Nat.zero_add, Nat.mul_one]
  refine ok_ldI h (row_at hy) ?_
  refine ok_cond (fun hc => ?_) (fun hc => ?_)
  · simp only [beq_iff_eq] at hc
    have hy0 : y = 0 := by omega
    refine ok_gO (ok_ldI h rfl (ok_gO ?_))
    have hp := hpos hy0
    refine ok_stn h (by simp [hdr]) (d := [.sl (some (.rw bs, 0)) A.s.length sc, .int .i64 A.r, .int .i64 A.h, .sl ta tl tc, .sl ga gl gc, .int .i64 ((A.s.count 0 - 1 : Nat) : Int)]) ?_ (fun S2 h2 => mid S2 (A.s.count 0 - 1) ?_ (by omega) h2)
    · rw [wrap64 (by omega) (by omega)]
      have : ((A.s.count 0 : Nat) : Int) - 1 = ((A.s.count 0 - 1 : Nat) : Int) := by omega
      rw [this]
      simp [splice, hdr]
    · rw [hcnt, hy0]
      simp
  · simp only [beq_eq_false_iff_ne, ne_eq] at hc
    refine mid S (A.s.count 0) ?_ hle h
    rw [hcnt]
    have : y ≠ 0 := by omega
    simp [this]

/-- Where the first such number stands: -1: nowhere. -/
def idxI (x : Nat) : List Nat → Int
  | [] => -1
  | y :: l => if y = x then 0 else if idxI x l = -1 then -1 else idxI x l + 1

theorem idxI_spec (x : Nat) : ∀ (l : List Nat), (idxI x l = -1 ∧ x ∉ l) ∨ ∃ i : Nat, idxI x l = i ∧ l[i]? = some x ∧ ∀ k, k < i → l[k]? ≠ some x
  | [] => .inl ⟨rfl, by simp⟩
  | y :: l => by
    unfold idxI
    by_cases hy : y = x
    · rw [if_pos hy]; exact .inr ⟨0, rfl, by simp [hy], by intro k hk; omega⟩
    · rw [if_neg hy]
      rcases idxI_spec x l with ⟨h1, h2⟩ | ⟨i, h1, h2, h3⟩
      · rw [if_pos h1]; exact .inl ⟨rfl, by simp [h2, Ne.symm hy]⟩
      · rw [if_neg (by omega)]
        refine .inr ⟨i + 1, by omega, by simpa using h2, fun k hk => ?_⟩
        cases k with
        | zero => simpa using hy
        | succ k => simpa using h3 k (by omega)

theorem idx8_loop (n0 n : Nat) (h : Hp X S L) {l : List Nat} {a : Option Pos} {c : Cap} (hr : RdR X L a (row .u8 l)) (hn : l.length ≤ 65536) (w4 : Int) : ∀ (m i : Nat), i ≤ l.length → l.length - i < m →
    J62_l1_0_1_0 (evF E orcL n) n0 m a l.length c 0 w4 l.length i S = some (.int .i64 (if idxI 0 (l.drop i) = -1 then -1 else i + idxI 0 (l.drop i)), S)
  | 0, i, hi, hm => by omega
  | m + 1, i, hi, hm => by
    rw [J62_l1_0_1_0_succ]
    simp only [b62_l1_0_1_0]
    apply ok_eq
    refine ok_cond (fun hc => ?_) (fun hc => ?_)
    · simp only [decide_eq_true_eq] at hc
      have hlt : i < l.length := by omega
      obtain ⟨y, hy⟩ : ∃ y, l[i]? = some y := ⟨l[i], by simp [hlt]⟩
      have hd : l.drop i = y :: l.drop (i + 1) := by
        obtain ⟨hlt', he⟩ := List.getElem?_eq_some_iff.1 hy
        rw [List.drop_eq_getElem_cons hlt', he]
      obtain ⟨p, rfl⟩ := hr.some_of (by intro he; rw [← row_len .u8 l, he] at hlt; simp at hlt)
      rw [ixSl_at rfl hlt]
      simp only [Nat.mul_one]
      rw [hr.ldI h (row_at hy)]
      have hI : idxI 0 (l.drop i) = if y = 0 then 0 else if idxI 0 (l.drop (i + 1)) = -1 then -1 else idxI 0 (l.drop (i + 1)) + 1 := by rw [hd, idxI]
      refine ok_cond (fun hc => ?_) (fun hc => ?_)
      · simp only [beq_iff_eq] at hc
        refine ok_ret ⟨?_, rfl⟩
        rw [hI, if_pos (show y = 0 by omega)]
        simp
      · simp only [beq_eq_false_iff_ne, ne_eq] at hc
        rw [wrap64 (by omega) (by omega)]
        have ih := idx8_loop n0 n h hr hn w4 m (i + 1) (by omega) (by omega) (c := c)
        rw [show ((i : Int) + 1) = ((i + 1 : Nat) : Int) by omega, ih]
        refine ok_ret ⟨?_, rfl⟩
        rw [hI, if_neg (show ¬ y = 0 by omega)]
        rcases idxI_spec 0 (l.drop (i + 1)) with ⟨h1, _⟩ | ⟨k, h1, _⟩
        · simp [h1]
        · rw [h1]
          rw [if_neg (by omega), if_neg (by omega), if_neg (by omega)]
          congr 1; omega
    · simp only [decide_eq_false_iff_not] at hc
      refine ok_ret ⟨?_, rfl⟩
      rw [List.drop_of_length_le (by omega)]
      rfl

theorem idx8_eq (n : Nat) (hn : 70000 < n) (h : Hp X S L) {l : List Nat} {a : Option Pos} {c : Cap} (hr : RdR X L a (row .u8 l)) (hl : l.length ≤ 65536) {ll : Nat} (hll : ll = l.length) :
    ev (n + 1) (.fn 62) [.sl a ll c, .int .u8 0] S = some (.int .i64 (idxI 0 l), S) := by
  subst hll
  rw [ev, F62 _ _ _ _ _ _ (oL rfl)]
  simp only [J62, b62_entry]
  have := idx8_loop n n h hr hl 0 n 0 (by omega) (by omega) (c := c)
  rw [show ((0 : Nat) : Int) = 0 by rfl] at this
  rw [this, List.drop_zero]
  congr 3
  split
  · rename_i h0; rw [h0]
  · omega

/-- The first free block from a place on. -/
def AM.next (A : AM) (from_ : Nat) : Nat := if idxI 0 (A.s.drop from_) = -1 then (idxI 0 A.s).toNat else (idxI 0 (A.s.drop from_)).toNat + from_

theorem AM.next_spec {A : AM} {from_ : Nat} (h0 : 0 ∈ A.s) : A.s[A.next from_]? = some 0 := by
  unfold AM.next
  rcases idxI_spec 0 (A.s.drop from_) with ⟨h1, h2⟩ | ⟨i, h1, h2, _⟩
  · rw [if_pos h1]
    rcases idxI_spec 0 A.s with ⟨h3, h4⟩ | ⟨i, h3, h4, _⟩
    · exact absurd h0 h4
    · rw [h3]; simpa using h4
  · rw [h1, if_neg (by omega)]
    rw [List.getElem?_drop] at h2
    rw [← h2]; congr 1; omega

def AM.takes (A : AM) (from_ : Nat) : AM := { A with s := A.s.set (A.next from_) 2, t := A.t ++ [A.next from_] }

theorem slSl_from {sz : Nat} {p : Pos} {l i : Nat} {cap : Cap} {β : Type} {K : Option Pos → Nat → Cap → Option β} (hc : cap = .ex l ∨ cap = .op sz l) (hi : i < l) {x : Int} (hx : x = i) : ∃ c, slSl sz (some p) l cap (some x) none none K = K (some (p.1, p.2 + i * sz)) (l - i) c := by
  subst hx
  rcases hc with rfl | rfl
  · refine ⟨.ex (l - i), ?_⟩
    simp [slSl, optIx, ix, Nat.le_of_lt hi, show ¬ l = i by omega]
  · refine ⟨.op sz (l - i), ?_⟩
    simp [slSl, optIx, ix, Nat.le_of_lt hi]

theorem takes_ok (n : Nat) (hn : 70000 < n) (h : Hp X S (L ++ F)) (ha : Alloc b A L) {i : Nat} (hi : i < A.s.length) (h0 : 0 ∈ A.s) (hl : A.t.length ≤ 65536) :
    Ok (ev (n + 2) (.fn 40) [.ptr (some (.rw b, 0)), .int .i64 i] S) fun v S' => v = .int .i64 (A.next i) ∧ ∃ L', Alloc b (A.takes i) L' ∧ Hp X S' (L' ++ F) := by
  have hnx := AM.next_spec (from_ := i) h0
  have hnl : A.next i < A.s.length := (List.getElem?_eq_some_iff.1 hnx).1
  have ha0 := ha
  obtain ⟨bs, sc, ta, tl, tc, ga, gl, gc, Lt, Lg, hr, rfl⟩ := ha
  have hn2 := hr.n2
  rw [ev, F40 _ _ _ _ (oL rfl)]
  simp only [J40, b40_entry]
  refine ok_gO (ok_ldL h rfl ?_)
  have fin : ∀ x : Int, x = A.next i → Ok (J40_j1_1_1 (evF E orcL (n + 1)) (n + 1) (some (.rw b, 0)) x S) fun v S' => v = .int .i64 (A.next i) ∧ ∃ L', Alloc b (A.takes i) L' ∧ Hp X S' (L' ++ F) := by
    rintro x rfl
    simp only [J40_j1_1_1, b40_j1_1_1]
    obtain ⟨v, S1, e, rfl, L1, ha1, h1, hsh⟩ := set_ok n h ha0 hnl (x := 2) (by omega) (xi := 2) rfl rfl
    have hL1 := hsh bs sc ta tl tc ga gl gc Lt Lg hr rfl
    subst hL1
    rw [callT_of e]
    have ht2 := hr.ht
    refine ok_gO (ok_ldL h1 rfl (ok_newA h1 (fun b2 S2 h2 => ?_)))
    have h2' := h2.re (M := Lt ++ (C b2 [.int .i64 (A.next i)] :: C b (hdr { A with s := A.s.set (A.next i) 2 } (some (.rw bs, 0)) A.s.length sc ta tl tc ga gl gc) :: C bs (row .u8 (A.s.set (A.next i) 2)) :: (Lg ++ F))) (by intro p; simp only [blks, List.countP_append, List.countP_cons, List.cons_append, C, List.length_set]; omega)
    refine ok_appendG h2' ht2 (ys := ins .i64 [A.next i]) (ins_all _ _) rfl (fun K => ?_) (by decide) (by simp [pow46]; omega) (by simp [pow46]; omega) (fun a l c S3 Lt' ht' h3 => ?_)
    · have := RdR.first (.rw (X := X) (b := b2) (i := 0) (c := [.int .i64 (A.next i)]) (cs := [.int .i64 (A.next i)]) (L := _) (List.mem_append_right Lt List.mem_cons_self) (by simp) rfl) h2' (sz := 1) (n := 1) rfl (by decide) (l := 1) (c := .ex 1) K
      simpa [row] using this
    · rw [← ins_append] at ht'
      refine ok_gO (ok_stn h3 (by simp [hdr]) (d := hdr (A.takes i) (some (.rw bs, 0)) A.s.length sc a l c ga gl gc) (by simp [AM.takes, hdr, splice]) (fun S4 h4 => ok_ret ⟨rfl, _, ⟨bs, sc, a, l, c, ga, gl, gc, Lt', Lg, ⟨by simpa [AM.takes] using hr.n1, by simpa [AM.takes] using hr.n2, ?_, by simpa [AM.takes] using hr.hc, ht', hr.hg⟩, rfl⟩, ?_⟩))
      · intro z hz
        rcases List.mem_or_eq_of_mem_set hz with hz | rfl
        · exact hr.st z hz
        · omega
      · exact (h4.re (M := C b2 [.int .i64 (A.next i)] :: (blks b (A.takes i) bs sc a l c ga gl gc Lt' Lg ++ F)) (by intro p; simp only [blks, AM.takes, List.countP_append, List.countP_cons, List.cons_append, C, List.length_set]; omega)).drop1
  obtain ⟨c2, hs2⟩ := slSl_from (sz := 1) (p := (.rw bs, 0)) (l := A.s.length) (i := i) (cap := sc) (x := (i : Int)) hr.hc hi rfl (K := fun v3a v3l v3c =>
      callI .i64 (evF E orcL (n + 1)) 62 [.sl v3a v3l v3c, .int .u8 0] S fun v5 S4 =>
      cond (decide ((IntKind.wrap .i64 (v5 + i)) < i)) (
      gO (some (.rw b, 0)) fun p6 =>
      ldL S4 p6.1 p6.2 fun v7a v7l v7c =>
      callI .i64 (evF E orcL (n + 1)) 62 [.sl v7a v7l v7c, .int .u8 0] S4 fun v9 S8 =>
      J40_j1_1_1 (evF E orcL (n + 1)) (n + 1) (some (.rw b, 0)) v9 S8) (
      J40_j1_1_1 (evF E orcL (n + 1)) (n + 1) (some (.rw b, 0)) (IntKind.wrap .i64 (v5 + i)) S4))
  rw [hs2]
  have rd1 : RdR X (blks b A bs sc ta tl tc ga gl gc Lt Lg ++ F) (some (.rw bs, 0 + i * 1)) (row .u8 (A.s.drop i)) := by
    refine .rw (c := row .u8 A.s) (by simp [blks]) (by simp only [row_len, List.length_drop]; omega) ?_
    rw [Nat.zero_add, Nat.mul_one, row_drop, List.take_length]
  have rd2 : RdR X (blks b A bs sc ta tl tc ga gl gc Lt Lg ++ F) (some (.rw bs, 0)) (row .u8 A.s) := .rw (c := row .u8 A.s) (by simp [blks]) (by simp) (by rw [List.drop_zero, List.take_length])
  rw [callI_of (idx8_eq n hn h rd1 (by simp; omega) (by simp))]
  have hnx2 : A.next i = if idxI 0 (A.s.drop i) = -1 then (idxI 0 A.s).toNat else (idxI 0 (A.s.drop i)).toNat + i := rfl
  rcases idxI_spec 0 (A.s.drop i) with ⟨h1, h2⟩ | ⟨k, h1, h2, _⟩
  · rw [h1] at hnx2 ⊢
    rw [if_pos rfl] at hnx2
    refine ok_true ?_ (ok_gO (ok_ldL h rfl ?_))
    · rw [wrap64 (by omega) (by omega)]
      simp; omega
    · rw [callI_of (idx8_eq n hn h rd2 hn2 rfl)]
      refine fin _ ?_
      rw [hnx2]
      rcases idxI_spec 0 A.s with ⟨h3, h4⟩ | ⟨k, h3, h4, _⟩
      · exact absurd h0 h4
      · rw [h3]; rfl
  · have hk : k < (A.s.drop i).length := (List.getElem?_eq_some_iff.1 h2).1
    rw [List.length_drop] at hk
    rw [h1] at hnx2 ⊢
    rw [if_neg (by omega)] at hnx2
    refine ok_false ?_ (fin _ ?_)
    · rw [wrap64 (by omega) (by omega)]
      simp only [decide_eq_false_iff_not]
      omega
    · rw [wrap64 (by omega) (by omega), hnx2]
      simp

end

end Go.Al
