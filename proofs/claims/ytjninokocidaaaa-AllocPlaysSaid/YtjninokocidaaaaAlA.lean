/- What the functions of package alloc do with a heap: an allocator in memory; states turned, looked for, taken. -/
import Derived.Test.YtjninokocidaaaaRF
import Derived.Test.YtjninokocidaaaaGrSep2
set_option linter.unusedVariables false
set_option linter.unusedSimpArgs false
set_option maxRecDepth 4000
namespace Go.Al
open Go.Gr

def orcL : Orc := fun f args => match args with
  | [] => cond (Nat.beq f 12) (some (.bool true)) none
  | _ => none
theorem oL {f : FuncId} (h : Nat.beq f 12 = false) : ∀ args, orcL f args = none := by
  intro args
  cases args with
  | nil => simp [orcL, h]
  | cons x xs => rfl

noncomputable abbrev ev (n : Nat) : CallA := evF E orcL n

/-- An allocator: each block's state, what was taken and given in order, what is reserved, how many hold. -/
structure AM where
  s : List Nat
  t : List Nat
  g : List Nat
  r : Nat
  h : Nat

/-- Numbers as elements. -/
def ins (k : IntKind) (l : List Nat) : List (List AV) := ixs k (l.map fun (n : Nat) => (n : Int))
@[simp] theorem ins_len (k : IntKind) (l : List Nat) : (ins k l).length = l.length := by simp [ins]
theorem ins_all (k : IntKind) (l : List Nat) : ∀ x ∈ ins k l, x.length = 1 := ixs_all k _
def row (k : IntKind) (l : List Nat) : List AV := l.map fun (n : Nat) => AV.int k (n : Int)
@[simp] theorem row_len (k : IntKind) (l : List Nat) : (row k l).length = l.length := by simp [row]
@[simp] theorem ins_flat (k : IntKind) (l : List Nat) : (ins k l).flatten = row k l := by simp [ins, row]
theorem ins_append (k : IntKind) (l m : List Nat) : ins k (l ++ m) = ins k l ++ ins k m := by simp [ins, ixs_append]
theorem row_append (k : IntKind) (l m : List Nat) : row k (l ++ m) = row k l ++ row k m := by simp [row]
theorem row_get (k : IntKind) (l : List Nat) (i : Nat) : (row k l)[i]? = (l[i]?).map fun (n : Nat) => AV.int k (n : Int) := by simp [row]
theorem row_at {k : IntKind} {l : List Nat} {i x : Nat} (h : l[i]? = some x) : (row k l)[i]? = some (.int k x) := by rw [row_get, h]; rfl
theorem row_drop (k : IntKind) (l : List Nat) (i : Nat) : (row k l).drop i = row k (l.drop i) := by simp [row, List.map_drop]
theorem row_splice {k : IntKind} {l : List Nat} {i : Nat} (x : Nat) (h : i < l.length) : splice (row k l) i [.int k (x : Int)] = row k (l.set i x) := by
  rw [splice, List.set_eq_take_append_cons_drop, if_pos h]
  simp [row, List.map_take, List.map_drop]

def hdr (A : AM) (sa : Option Pos) (sl : Nat) (sc : Cap) (ta : Option Pos) (tl : Nat) (tc : Cap) (ga : Option Pos) (gl : Nat) (gc : Cap) : List AV :=
  [.sl sa sl sc, .int .i64 A.r, .int .i64 A.h, .sl ta tl tc, .sl ga gl gc, .int .i64 (A.s.count 0 : Nat)]

structure AllocR (A : AM) (bs : Nat) (sc : Cap) (ta : Option Pos) (tl : Nat) (tc : Cap) (ga : Option Pos) (gl : Nat) (gc : Cap) (Lt Lg : List Ent) : Prop where
  n1 : 1 ≤ A.s.length
  n2 : A.s.length ≤ 65536
  st : ∀ x ∈ A.s, x ≤ 4
  hc : sc = .ex A.s.length ∨ sc = .op 1 A.s.length
  ht : SlG ta tl tc 1 (ins .i64 A.t) Lt
  hg : SlG ga gl gc 1 (ins .i64 A.g) Lg

abbrev blks (b : Nat) (A : AM) (bs : Nat) (sc : Cap) (ta : Option Pos) (tl : Nat) (tc : Cap) (ga : Option Pos) (gl : Nat) (gc : Cap) (Lt Lg : List Ent) : List Ent :=
  C b (hdr A (some (.rw bs, 0)) A.s.length sc ta tl tc ga gl gc) :: C bs (row .u8 A.s) :: (Lt ++ Lg)

/-- An allocator in the heap, with all that it owns. -/
def Alloc (b : Nat) (A : AM) (L : List Ent) : Prop := ∃ bs sc ta tl tc ga gl gc Lt Lg, AllocR A bs sc ta tl tc ga gl gc Lt Lg ∧ L = blks b A bs sc ta tl tc ga gl gc Lt Lg

theorem wn {x : Int} {n : Nat} (h : x = n) (hn : n < 4611686018427387904) : IntKind.wrap .i64 x = n := by
  rw [h, wrap64 (by omega) (by omega)]

theorem wz {x z : Int} (h : x = z) (h1 : -4611686018427387904 < z) (h2 : z < 4611686018427387904) : IntKind.wrap .i64 x = z := by
  rw [h, wrap64 (by omega) (by omega)]

section
variable {X : Cx} {S : AS} {L F : List Ent} {b : Nat} {A : AM}

theorem ok_eq {q : Option (AV × AS)} {v : AV} {S : AS} (h : Ok q (fun w S' => w = v ∧ S' = S)) : q = some (v, S) := by
  obtain ⟨w, S', e, rfl, rfl⟩ := h
  exact e

theorem num_eq (n : Nat) (x : Int) (S : AS) : ev (n + 1) (.fn 11) [.int .i64 x] S = some (.int .i64 x, S) := by
  rw [ev, F11 _ _ _ (oL rfl)]; rfl

/-- How many blocks a bitmap's allocator may have. -/
def right (n : Int) : Prop := 1 ≤ n ∧ n ≤ 65536

theorem count_rep (n : Nat) : (List.replicate n 0).count 0 = n := by simp

theorem new_ok (n : Nat) (h : Hp X S F) (x : Int) : Ok (ev (n + 1) (.fn 10) [.int .i64 x] S) fun v S' =>
    (¬ right x ∧ v = .tup [.ptr none, .int .i64 2] ∧ S' = S) ∨
    (right x ∧ ∃ b L, v = .tup [.ptr (some (.rw b, 0)), .int .i64 0] ∧ Alloc b ⟨List.replicate x.toNat 0, [], [], 0, 0⟩ L ∧ Hp X S' (L ++ F)) := by
  rw [ev, F10 _ _ _ (oL rfl)]
  simp only [J10, b10_entry]
  refine ok_cond (fun hc => ok_ret (.inl ⟨?_, rfl, rfl⟩)) (fun hc => ok_cond (fun hc2 => ok_ret (.inl ⟨?_, rfl, rfl⟩)) (fun hc2 => ?_))
  · simp only [decide_eq_true_eq] at hc
    unfold right; omega
  · simp only [gt_iff_lt, decide_eq_true_eq] at hc2
    unfold right; omega
  simp only [gt_iff_lt, decide_eq_false_iff_not] at hc hc2
  obtain ⟨k, rfl⟩ : ∃ k : Nat, x = (k : Int) := ⟨x.toNat, by omega⟩
  refine ok_mkSl (l := k) (c := k) rfl rfl (Nat.le_refl _) (by simp [pow46]; omega) (by simp [pow46]; omega) ?_
  refine ok_newA h (fun b1 S1 h => ok_newA h (fun b2 S2 h => ok_ret (.inr ⟨by unfold right; omega, b2, _, rfl, ⟨b1, .ex k, none, 0, .ex 0, none, 0, .ex 0, [], [], ⟨by simp; omega, by simp; omega, ?_, .inl (by simp), .nil, .nil⟩, rfl⟩, ?_⟩)))
  · intro x hx
    simp at hx; omega
  · simp only [blks, hdr, Int.toNat_natCast, count_rep, List.length_replicate, List.append_nil]
    have e : zeros k [AV.int .u8 0] = row .u8 (List.replicate k 0) := by
      simp [zeros, row]
    rw [e] at h
    exact h

theorem is_eq (n : Nat) (h : Hp X S (L ++ F)) (ha : Alloc b A L) (x : Int) : ev (n + 1) (.fn 39) [.ptr (some (.rw b, 0)), .int .i64 x] S = some (.bool (decide (0 ≤ x) && decide (x < A.s.length)), S) := by
  obtain ⟨bs, sc, ta, tl, tc, ga, gl, gc, Lt, Lg, hr, rfl⟩ := ha
  apply ok_eq
  rw [ev, F39 _ _ _ _ (oL rfl)]
  simp only [J39, b39_entry]
  refine ok_cond (fun hc => ok_gO (ok_ldL h rfl (ok_ret ⟨?_, rfl⟩))) (fun hc => ok_ret ⟨?_, rfl⟩)
  · simp only [ge_iff_le, decide_eq_true_eq] at hc
    simp [hc]
  · simp only [ge_iff_le, decide_eq_false_iff_not] at hc
    simp [hc]

theorem set_ok (n : Nat) (h : Hp X S (L ++ F)) (ha : Alloc b A L) {i x : Nat} (hi : i < A.s.length) (hx : x ≤ 4) {ii xi : Int} (hii : ii = i) (hxi : xi = x) :
    Ok (ev (n + 1) (.fn 42) [.ptr (some (.rw b, 0)), .int .i64 ii, .int .i64 xi] S) fun v S' => v = .tup [] ∧ ∃ L', Alloc b { A with s := A.s.set i x } L' ∧ Hp X S' (L' ++ F) ∧
      ∀ bs sc ta tl tc ga gl gc Lt Lg, AllocR A bs sc ta tl tc ga gl gc Lt Lg → L = blks b A bs sc ta tl tc ga gl gc Lt Lg → L' = blks b { A with s := A.s.set i x } bs sc ta tl tc ga gl gc Lt Lg := by
  subst hii hxi
  obtain ⟨bs, sc, ta, tl, tc, ga, gl, gc, Lt, Lg, hr, rfl⟩ := ha
  obtain ⟨y, hy⟩ : ∃ y, A.s[i]? = some y := ⟨A.s[i], by simp [hi]⟩
  have hym := hr.st y (List.mem_of_getElem? hy)
  have hyl : A.s[i] = y := by simpa [hi] using hy
  have hn2 := hr.n2
  have hcnt := List.count_set (a := x) (b := 0) (l := A.s) (i := i) hi
  rw [hyl] at hcnt
  have hle : A.s.count 0 ≤ 65536 := Nat.le_trans List.count_le_length hn2
  have hpos : y = 0 → 0 < A.s.count 0 := fun e => List.count_pos_iff.2 (by rw [← e]; exact List.mem_of_getElem? hy)
  rw [ev, F42 _ _ _ _ _ (oL rfl)]
  simp only [J42, b42_entry]
  have fin : ∀ S1, Hp X S1 (C b ([.sl (some (.rw bs, 0)) A.s.length sc, .int .i64 A.r, .int .i64 A.h, .sl ta tl tc, .sl ga gl gc, .int .i64 ((A.s.set i x).count 0 : Nat)]) :: C bs (row .u8 A.s) :: (Lt ++ Lg) ++ F) →
      Ok (J42_j1_1 (evF E orcL n) n (some (.rw b, 0)) i x S1) fun v S' => v = .tup [] ∧ ∃ L', Alloc b { A with s := A.s.set i x } L' ∧ Hp X S' (L' ++ F) ∧
      ∀ bs' sc' ta' tl' tc' ga' gl' gc' Lt' Lg', AllocR A bs' sc' ta' tl' tc' ga' gl' gc' Lt' Lg' → blks b A bs sc ta tl tc ga gl gc Lt Lg = blks b A bs' sc' ta' tl' tc' ga' gl' gc' Lt' Lg' → L' = blks b { A with s := A.s.set i x } bs' sc' ta' tl' tc' ga' gl' gc' Lt' Lg' := by
    intro S1 h1
    simp only [J42_j1_1, b42_j1_1]
    refine ok_gO (ok_ldL h1 rfl (ok_ixSl (k := i) rfl hi ?_))
    have hw : IntKind.wrap .u8 (x : Int) = x := by simp [IntKind.wrap, IntKind.bits, IntKind.signed]; omega
    rw [hw, Nat.zero_add, Nat.mul_one]
    refine ok_stn h1 (by simp; omega) (d := row .u8 (A.s.set i x)) (row_splice x hi) (fun S2 h2 => ok_ret ⟨rfl, _, ⟨bs, sc, ta, tl, tc, ga, gl, gc, Lt, Lg, ⟨by simpa using hr.n1, by simpa using hr.n2, ?_, by simpa using hr.hc, hr.ht, hr.hg⟩, rfl⟩, ?_, ?_⟩)
    · intro z hz
      rcases List.mem_or_eq_of_mem_set hz with hz | rfl
      · exact hr.st z hz
      · exact hx
    · simpa [blks, hdr] using h2
    · intro bs' sc' ta' tl' tc' ga' gl' gc' Lt' Lg' _ he
      simp only [blks, hdr, List.cons.injEq, C, Prod.mk.injEq, Option.some.injEq, AObj.cells.injEq, AV.sl.injEq, Bid.rw.injEq] at he ⊢
      simp_all
  have mid : ∀ S1 (c1 : Nat), c1 + (if x = 0 then 1 else 0) = (A.s.set i x).count 0 → c1 ≤ 65536 → Hp X S1 (C b ([.sl (some (.rw bs, 0)) A.s.length sc, .int .i64 A.r, .int .i64 A.h, .sl ta tl tc, .sl ga gl gc, .int .i64 (c1 : Nat)]) :: C bs (row .u8 A.s) :: (Lt ++ Lg) ++ F) →
      Ok (J42_j1 (evF E orcL n) n (some (.rw b, 0)) i x S1) fun v S' => v = .tup [] ∧ ∃ L', Alloc b { A with s := A.s.set i x } L' ∧ Hp X S' (L' ++ F) ∧
      ∀ bs' sc' ta' tl' tc' ga' gl' gc' Lt' Lg', AllocR A bs' sc' ta' tl' tc' ga' gl' gc' Lt' Lg' → blks b A bs sc ta tl tc ga gl gc Lt Lg = blks b A bs' sc' ta' tl' tc' ga' gl' gc' Lt' Lg' → L' = blks b { A with s := A.s.set i x } bs' sc' ta' tl' tc' ga' gl' gc' Lt' Lg' := by
    intro S1 c1 he hle h1
    simp only [J42_j1, b42_j1]
    refine ok_cond (fun hc => ?_) (fun hc => ?_)
    · simp only [beq_iff_eq] at hc
      rw [if_pos (by omega)] at he
      refine ok_gO (ok_ldI h1 rfl (ok_gO ?_))
      refine ok_stn h1 (by simp) (d := [.sl (some (.rw bs, 0)) A.s.length sc, .int .i64 A.r, .int .i64 A.h, .sl ta tl tc, .sl ga gl gc, .int .i64 ((A.s.set i x).count 0 : Nat)]) ?_ (fun S2 h2 => fin S2 h2)
      rw [wrap64 (by omega) (by omega), ← he]
      simp [splice]
    · simp only [beq_eq_false_iff_ne, ne_eq] at hc
      rw [if_neg (by omega), Nat.add_zero] at he
      subst he
      exact fin S1 h1
  refine ok_gO (ok_ldL h rfl (ok_ixSl (k := i) rfl hi ?_))
  rw [Nat.zero_add, Nat.mul_one]
  refine ok_ldI h (row_at hy) ?_
  refine ok_cond (fun hc => ?_) (fun hc => ?_)
  · simp only [beq_iff_eq] at hc
    have hy0 : y = 0 := by omega
    refine ok_gO (ok_ldI h rfl (ok_gO ?_))
    have hp := hpos hy0
    refine ok_stn h (by simp [hdr]) (d := [.sl (some (.rw bs, 0)) A.s.length sc, .int .i64 A.r, .int .i64 A.h, .sl ta tl tc, .sl ga gl gc, .int .i64 ((A.s.count 0 - 1 : Nat) : Int)]) ?_ (fun S2 h2 => mid S2 (A.s.count 0 - 1) ?_ (by omega) h2)
    · rw [wrap64 (by omega) (by omega)]
      have : ((A.s.count 0 : Nat) : Int) - 1 = ((A.s.count 0 - 1 : Nat) : Int) := by omega
      rw [this]
      simp [splice, hdr]
    · rw [hcnt, hy0]
      simp
  · simp only [beq_eq_false_iff_ne, ne_eq] at hc
    refine mid S (A.s.count 0) ?_ hle h
    rw [hcnt]
    have : y ≠ 0 := by omega
    simp [this]

/-- Where the first such number stands: -1: nowhere. -/
def idxI (x : Nat) : List Nat → Int
  | [] => -1
  | y :: l => if y = x then 0 else if idxI x l = -1 then -1 else idxI x l + 1

theorem idxI_spec (x : Nat) : ∀ (l : List Nat), (idxI x l = -1 ∧ x ∉ l) ∨ ∃ i : Nat, idxI x l = i ∧ l[i]? = some x ∧ ∀ k, k < i → l[k]? ≠ some x
  | [] => .inl ⟨rfl, by simp⟩
  | y :: l => by
    unfold idxI
    by_cases hy : y = x
    · rw [if_pos hy]; exact .inr ⟨0, rfl, by simp [hy], by intro k hk; omega⟩
    · rw [if_neg hy]
      rcases idxI_spec x l with ⟨h1, h2⟩ | ⟨i, h1, h2, h3⟩
      · rw [if_pos h1]; exact .inl ⟨rfl, by simp [h2, Ne.symm hy]⟩
      · rw [if_neg (by omega)]
        refine .inr ⟨i + 1, by omega, by simpa using h2, fun k hk => ?_⟩
        cases k with
        | zero => simpa using hy
        | succ k => simpa using h3 k (by omega)

theorem idx8_loop (n0 n : Nat) (h : Hp X S L) {l : List Nat} {a : Option Pos} {c : Cap} (hr : RdR X L a (row .u8 l)) (hn : l.length ≤ 65536) (w4 : Int) : ∀ (m i : Nat), i ≤ l.length → l.length - i < m →
    J62_l1_0_1_0 (evF E orcL n) n0 m a l.length c 0 w4 l.length i S = some (.int .i64 (if idxI 0 (l.drop i) = -1 then -1 else i + idxI 0 (l.drop i)), S)
  | 0, i, hi, hm => by omega
  | m + 1, i, hi, hm => by
    rw [J62_l1_0_1_0_succ]
    simp only [b62_l1_0_1_0]
    apply ok_eq
    refine ok_cond (fun hc => ?_) (fun hc => ?_)
    · simp only [decide_eq_true_eq] at hc
      have hlt : i < l.length := by omega
      obtain ⟨y, hy⟩ : ∃ y, l[i]? = some y := ⟨l[i], by simp [hlt]⟩
      have hd : l.drop i = y :: l.drop (i + 1) := by
        obtain ⟨hlt', he⟩ := List.getElem?_eq_some_iff.1 hy
        rw [List.drop_eq_getElem_cons hlt', he]
      obtain ⟨p, rfl⟩ := hr.some_of (by intro he; rw [← row_len .u8 l, he] at hlt; simp at hlt)
      rw [ixSl_at rfl hlt]
      simp only [Nat.mul_one]
      rw [hr.ldI h (row_at hy)]
      have hI : idxI 0 (l.drop i) = if y = 0 then 0 else if idxI 0 (l.drop (i + 1)) = -1 then -1 else idxI 0 (l.drop (i + 1)) + 1 := by rw [hd, idxI]
      refine ok_cond (fun hc => ?_) (fun hc => ?_)
      · simp only [beq_iff_eq] at hc
        refine ok_ret ⟨?_, rfl⟩
        rw [hI, if_pos (show y = 0 by omega)]
        simp
      · simp only [beq_eq_false_iff_ne, ne_eq] at hc
        rw [wrap64 (by omega) (by omega)]
        have ih := idx8_loop n0 n h hr hn w4 m (i + 1) (by omega) (by omega) (c := c)
        rw [show ((i : Int) + 1) = ((i + 1 : Nat) : Int) by omega, ih]
        refine ok_ret ⟨?_, rfl⟩
        rw [hI, if_neg (show ¬ y = 0 by omega)]
        rcases idxI_spec 0 (l.drop (i + 1)) with ⟨h1, _⟩ | ⟨k, h1, _⟩
        · simp [h1]
        · rw [h1]
          rw [if_neg (by omega), if_neg (by omega), if_neg (by omega)]
          congr 1; omega
    · simp only [decide_eq_false_iff_not] at hc
      refine ok_ret ⟨?_, rfl⟩
      rw [List.drop_of_length_le (by omega)]
      rfl

theorem idx8_eq (n : Nat) (hn : 70000 < n) (h : Hp X S L) {l : List Nat} {a : Option Pos} {c : Cap} (hr : RdR X L a (row .u8 l)) (hl : l.length ≤ 65536) {ll : Nat} (hll : ll = l.length) :
    ev (n + 1) (.fn 62) [.sl a ll c, .int .u8 0] S = some (.int .i64 (idxI 0 l), S) := by
  subst hll
  rw [ev, F62 _ _ _ _ _ _ (oL rfl)]
  simp only [J62, b62_entry]
  have := idx8_loop n n h hr hl 0 n 0 (by omega) (by omega) (c := c)
  rw [show ((0 : Nat) : Int) = 0 by rfl] at this
  rw [this, List.drop_zero]
  congr 3
  split
  · rename_i h0; rw [h0]
  · omega

/-- The first free block from a place on. -/
def AM.next (A : AM) (from_ : Nat) : Nat := if idxI 0 (A.s.drop from_) = -1 then (idxI 0 A.s).toNat else (idxI 0 (A.s.drop from_)).toNat + from_

theorem AM.next_spec {A : AM} {from_ : Nat} (h0 : 0 ∈ A.s) : A.s[A.next from_]? = some 0 := by
  unfold AM.next
  rcases idxI_spec 0 (A.s.drop from_) with ⟨h1, h2⟩ | ⟨i, h1, h2, _⟩
  · rw [if_pos h1]
    rcases idxI_spec 0 A.s with ⟨h3, h4⟩ | ⟨i, h3, h4, _⟩
    · exact absurd h0 h4
    · rw [h3]; simpa using h4
  · rw [h1, if_neg (by omega)]
    rw [List.getElem?_drop] at h2
    rw [← h2]; congr 1; omega

def AM.takes (A : AM) (from_ : Nat) : AM := { A with s := A.s.set (A.next from_) 2, t := A.t ++ [A.next from_] }

theorem slSl_from {sz : Nat} {p : Pos} {l i : Nat} {cap : Cap} {β : Type} {K : Option Pos → Nat → Cap → Option β} (hc : cap = .ex l ∨ cap = .op sz l) (hi : i < l) {x : Int} (hx : x = i) : ∃ c, slSl sz (some p) l cap (some x) none none K = K (some (p.1, p.2 + i * sz)) (l - i) c := by
  subst hx
  rcases hc with rfl | rfl
  · refine ⟨.ex (l - i), ?_⟩
    simp [slSl, optIx, ix, Nat.le_of_lt hi, show ¬ l = i by omega]
  · refine ⟨.op sz (l - i), ?_⟩
    simp [slSl, optIx, ix, Nat.le_of_lt hi]

theorem takes_ok (n : Nat) (hn : 70000 < n) (h : Hp X S (L ++ F)) (ha : Alloc b A L) {i : Nat} (hi : i < A.s.length) (h0 : 0 ∈ A.s) (hl : A.t.length ≤ 65536) :
    Ok (ev (n + 2) (.fn 40) [.ptr (some (.rw b, 0)), .int .i64 i] S) fun v S' => v = .int .i64 (A.next i) ∧ ∃ L', Alloc b (A.takes i) L' ∧ Hp X S' (L' ++ F) := by
  have hnx := AM.next_spec (from_ := i) h0
  have hnl : A.next i < A.s.length := (List.getElem?_eq_some_iff.1 hnx).1
  have ha0 := ha
  obtain ⟨bs, sc, ta, tl, tc, ga, gl, gc, Lt, Lg, hr, rfl⟩ := ha
  have hn2 := hr.n2
  rw [ev, F40 _ _ _ _ (oL rfl)]
  simp only [J40, b40_entry]
  refine ok_gO (ok_ldL h rfl ?_)
  have fin : ∀ x : Int, x = A.next i → Ok (J40_j1_1_1 (evF E orcL (n + 1)) (n + 1) (some (.rw b, 0)) x S) fun v S' => v = .int .i64 (A.next i) ∧ ∃ L', Alloc b (A.takes i) L' ∧ Hp X S' (L' ++ F) := by
    rintro x rfl
    simp only [J40_j1_1_1, b40_j1_1_1]
    obtain ⟨v, S1, e, rfl, L1, ha1, h1, hsh⟩ := set_ok n h ha0 hnl (x := 2) (by omega) (xi := 2) rfl rfl
    have hL1 := hsh bs sc ta tl tc ga gl gc Lt Lg hr rfl
    subst hL1
    rw [callT_of e]
    have ht2 := hr.ht
    refine ok_gO (ok_ldL h1 rfl (ok_newA h1 (fun b2 S2 h2 => ?_)))
    have h2' := h2.re (M := Lt ++ (C b2 [.int .i64 (A.next i)] :: C b (hdr { A with s := A.s.set (A.next i) 2 } (some (.rw bs, 0)) A.s.length sc ta tl tc ga gl gc) :: C bs (row .u8 (A.s.set (A.next i) 2)) :: (Lg ++ F))) (by intro p; simp only [blks, List.countP_append, List.countP_cons, List.cons_append, C, List.length_set]; omega)
    refine ok_appendG h2' ht2 (ys := ins .i64 [A.next i]) (ins_all _ _) rfl (fun K => ?_) (by decide) (by simp [pow46]; omega) (by simp [pow46]; omega) (fun a l c S3 Lt' ht' h3 => ?_)
    · have := RdR.first (.rw (X := X) (b := b2) (i := 0) (c := [.int .i64 (A.next i)]) (cs := [.int .i64 (A.next i)]) (L := _) (List.mem_append_right Lt List.mem_cons_self) (by simp) rfl) h2' (sz := 1) (n := 1) rfl (by decide) (l := 1) (c := .ex 1) K
      simpa [row] using this
    · rw [← ins_append] at ht'
      refine ok_gO (ok_stn h3 (by simp [hdr]) (d := hdr (A.takes i) (some (.rw bs, 0)) A.s.length sc a l c ga gl gc) (by simp [AM.takes, hdr, splice]) (fun S4 h4 => ok_ret ⟨rfl, _, ⟨bs, sc, a, l, c, ga, gl, gc, Lt', Lg, ⟨by simpa [AM.takes] using hr.n1, by simpa [AM.takes] using hr.n2, ?_, by simpa [AM.takes] using hr.hc, ht', hr.hg⟩, rfl⟩, ?_⟩))
      · intro z hz
        rcases List.mem_or_eq_of_mem_set hz with hz | rfl
        · exact hr.st z hz
        · omega
      · exact (h4.re (M := C b2 [.int .i64 (A.next i)] :: (blks b (A.takes i) bs sc a l c ga gl gc Lt' Lg ++ F)) (by intro p; simp only [blks, AM.takes, List.countP_append, List.countP_cons, List.cons_append, C, List.length_set]; omega)).drop1
  obtain ⟨c2, hs2⟩ := slSl_from (sz := 1) (p := (.rw bs, 0)) (l := A.s.length) (i := i) (cap := sc) (x := (i : Int)) hr.hc hi rfl (K := fun v3a v3l v3c =>
      callI .i64 (evF E orcL (n + 1)) 62 [.sl v3a v3l v3c, .int .u8 0] S fun v5 S4 =>
      cond (decide ((IntKind.wrap .i64 (v5 + i)) < i)) (
      gO (some (.rw b, 0)) fun p6 =>
      ldL S4 p6.1 p6.2 fun v7a v7l v7c =>
      callI .i64 (evF E orcL (n + 1)) 62 [.sl v7a v7l v7c, .int .u8 0] S4 fun v9 S8 =>
      J40_j1_1_1 (evF E orcL (n + 1)) (n + 1) (some (.rw b, 0)) v9 S8) (
      J40_j1_1_1 (evF E orcL (n + 1)) (n + 1) (some (.rw b, 0)) (IntKind.wrap .i64 (v5 + i)) S4))
  rw [hs2]
  have rd1 : RdR X (blks b A bs sc ta tl tc ga gl gc Lt Lg ++ F) (some (.rw bs, 0 + i * 1)) (row .u8 (A.s.drop i)) := by
    refine .rw (c := row .u8 A.s) (by simp [blks]) (by simp only [row_len, List.length_drop]; omega) ?_
    rw [Nat.zero_add, Nat.mul_one, row_drop, List.take_length]
  have rd2 : RdR X (blks b A bs sc ta tl tc ga gl gc Lt Lg ++ F) (some (.rw bs, 0)) (row .u8 A.s) := .rw (c := row .u8 A.s) (by simp [blks]) (by simp) (by rw [List.drop_zero, List.take_length])
  rw [callI_of (idx8_eq n hn h rd1 (by simp; omega) (by simp))]
  have hnx2 : A.next i = if idxI 0 (A.s.drop i) = -1 then (idxI 0 A.s).toNat else (idxI 0 (A.s.drop i)).toNat + i := rfl
  rcases idxI_spec 0 (A.s.drop i) with ⟨h1, h2⟩ | ⟨k, h1, h2, _⟩
  · rw [h1] at hnx2 ⊢
    rw [if_pos rfl] at hnx2
    refine ok_true ?_ (ok_gO (ok_ldL h rfl ?_))
    · rw [wrap64 (by omega) (by omega)]
      simp; omega
    · rw [callI_of (idx8_eq n hn h rd2 hn2 rfl)]
      refine fin _ ?_
      rw [hnx2]
      rcases idxI_spec 0 A.s with ⟨h3, h4⟩ | ⟨k, h3, h4, _⟩
      · exact absurd h0 h4
      · rw [h3]; rfl
  · have hk : k < (A.s.drop i).length := (List.getElem?_eq_some_iff.1 h2).1
    rw [List.length_drop] at hk
    rw [h1] at hnx2 ⊢
    rw [if_neg (by omega)] at hnx2
    refine ok_false ?_ (fin _ ?_)
    · rw [wrap64 (by omega) (by omega)]
      simp only [decide_eq_false_iff_not]
      omega
    · rw [wrap64 (by omega) (by omega), hnx2]
      simp

end

end Go.Al

namespace Go.Al
open Go.Gr

section
variable {X : Cx} {S : AS} {L F : List Ent} {b : Nat} {A : AM}

/-- Who takes a block: what is told, what there is then. -/
def AM.takeE (A : AM) (x : Int) : Int := if ¬ (0 ≤ x ∧ x < A.s.length) then 2 else if A.s.count 0 ≤ A.r then 100 else 0
def AM.takeV (A : AM) (x : Int) : Int := if A.takeE x = 0 then A.next x.toNat else 0
def AM.take (A : AM) (x : Int) : AM := if A.takeE x = 0 then A.takes x.toNat else A

theorem take_ok (n : Nat) (hn : 70000 < n) (h : Hp X S (L ++ F)) (ha : Alloc b A L) (hl : A.t.length ≤ 65536) (x : Int) :
    Ok (ev (n + 3) (.fn 13) [.ptr (some (.rw b, 0)), .int .i64 x] S) fun v S' => v = .tup [.int .i64 (A.takeV x), .int .i64 (A.takeE x)] ∧ ∃ L', Alloc b (A.take x) L' ∧ Hp X S' (L' ++ F) := by
  have hin := is_eq (n + 1) h ha x
  have ha0 := ha
  obtain ⟨bs, sc, ta, tl, tc, ga, gl, gc, Lt, Lg, hr, rfl⟩ := ha
  rw [ev, F13 _ _ _ _ (oL rfl)]
  simp only [J13, b13_entry]
  refine ok_false rfl ?_
  rw [callB_of hin]
  have same : ∀ e, A.takeE x = e → e ≠ 0 → Ok (some (.tup [.int .i64 0, .int .i64 e], S)) fun v S' => v = .tup [.int .i64 (A.takeV x), .int .i64 (A.takeE x)] ∧ ∃ L', Alloc b (A.take x) L' ∧ Hp X S' (L' ++ F) := fun e he h0 =>
    ok_ret ⟨by rw [AM.takeV, he, if_neg h0], _, by rw [AM.take, if_neg (by rw [he]; exact h0)]; exact ha0, h⟩
  refine ok_cond (fun hc => same 2 ?_ (by decide)) (fun hc => ?_)
  · simp only [Bool.not_eq_true', Bool.and_eq_false_iff, decide_eq_false_iff_not] at hc
    rw [AM.takeE, if_pos (by omega)]
  simp only [Bool.not_eq_false', Bool.and_eq_true, decide_eq_true_eq] at hc
  refine ok_gO (ok_ldI h rfl (ok_gO (ok_ldI h rfl ?_)))
  refine ok_cond (fun hc2 => same 100 ?_ (by decide)) (fun hc2 => ?_)
  · simp only [decide_eq_true_eq] at hc2
    rw [AM.takeE, if_neg (by omega), if_pos (by omega)]
  simp only [decide_eq_false_iff_not] at hc2
  have hE : A.takeE x = 0 := by rw [AM.takeE, if_neg (by omega), if_neg (by omega)]
  have h0 : 0 ∈ A.s := List.count_pos_iff.1 (by omega)
  obtain ⟨v, S1, e, rfl, L1, ha1, h1⟩ := takes_ok n hn h ha0 (i := x.toNat) (by omega) h0 hl
  rw [Int.toNat_of_nonneg hc.1] at e
  rw [callI_of e]
  exact ok_ret ⟨by rw [AM.takeV, hE, if_pos rfl], L1, by rw [AM.take, if_pos hE]; exact ha1, h1⟩

theorem blocks_eq (n : Nat) (h : Hp X S (L ++ F)) (ha : Alloc b A L) : ev (n + 1) (.fn 14) [.ptr (some (.rw b, 0))] S = some (.int .i64 A.s.length, S) := by
  obtain ⟨bs, sc, ta, tl, tc, ga, gl, gc, Lt, Lg, hr, rfl⟩ := ha
  apply ok_eq
  rw [ev, F14 _ _ _ (oL rfl)]
  simp only [J14, b14_entry]
  exact ok_false rfl (ok_gO (ok_ldL h rfl (ok_ret ⟨rfl, rfl⟩)))

theorem free_eq (n : Nat) (h : Hp X S (L ++ F)) (ha : Alloc b A L) : ev (n + 1) (.fn 15) [.ptr (some (.rw b, 0))] S = some (.int .i64 (A.s.count 0 : Nat), S) := by
  obtain ⟨bs, sc, ta, tl, tc, ga, gl, gc, Lt, Lg, hr, rfl⟩ := ha
  apply ok_eq
  rw [ev, F15 _ _ _ (oL rfl)]
  simp only [J15, b15_entry]
  exact ok_false rfl (ok_gO (ok_ldI h rfl (ok_ret ⟨rfl, rfl⟩)))

/-- A bit laid. -/
def putBit (m : List Nat) (i : Nat) : List Nat := m.set (i / 8) (m.getD (i / 8) 0 ||| 1 <<< (i % 8))
/-- The bitmap, of the first so many blocks. -/
def bitsTo (s : List Nat) : Nat → List Nat
  | 0 => List.replicate ((s.length + 7) / 8) 0
  | i + 1 => if s[i]? = some 1 ∨ s[i]? = some 3 then putBit (bitsTo s i) i else bitsTo s i
def bits (s : List Nat) : List Nat := bitsTo s s.length

theorem putBit_len (m : List Nat) (i : Nat) : (putBit m i).length = m.length := by simp [putBit]
theorem bitsTo_len (s : List Nat) : ∀ i, (bitsTo s i).length = (s.length + 7) / 8
  | 0 => by simp [bitsTo]
  | i + 1 => by
    rw [bitsTo]
    split
    · rw [putBit_len, bitsTo_len s i]
    · exact bitsTo_len s i
theorem bits_len (s : List Nat) : (bits s).length = (s.length + 7) / 8 := bitsTo_len s _

theorem or_lt {a k : Nat} (ha : a < 256) (hk : k < 8) : a ||| 1 <<< k < 256 := by
  have : 1 <<< k < 2 ^ 8 := by rw [Nat.one_shiftLeft]; exact Nat.pow_lt_pow_right (by decide) hk
  exact Nat.or_lt_two_pow (n := 8) ha this

theorem orI_bit : ∀ (a : Fin 256) (k : Fin 8), orI .u8 (a.val : Int) (shlI .u8 1 (k.val : Int)) = ((a.val ||| 1 <<< k.val : Nat) : Int) := by decide +kernel

theorem bitsTo_lt (s : List Nat) : ∀ i, ∀ x ∈ bitsTo s i, x < 256
  | 0, x, h => by simp [bitsTo] at h; omega
  | i + 1, x, h => by
    rw [bitsTo] at h
    split at h
    · rcases List.mem_or_eq_of_mem_set h with h | rfl
      · exact bitsTo_lt s i x h
      · refine or_lt ?_ (Nat.mod_lt _ (by decide))
        cases hg : (bitsTo s i)[i / 8]? with
        | none => simp [List.getD, hg]
        | some y => simpa [List.getD, hg] using bitsTo_lt s i y (List.mem_of_getElem? hg)
    · exact bitsTo_lt s i x h

theorem tdiv8 (i : Nat) : Int.tdiv (i : Int) 8 = ((i / 8 : Nat) : Int) := by
  rw [Int.tdiv_eq_ediv_of_nonneg (by omega)]; rfl
theorem tmod8 (i : Nat) : Int.tmod (i : Int) 8 = ((i % 8 : Nat) : Int) := by
  rw [Int.tmod_eq_emod_of_nonneg (by omega)]; rfl

theorem bitmap_loop (n0 n : Nat) {s : List Nat} (hs4 : ∀ x ∈ s, x ≤ 4) (hn : s.length ≤ 65536) {bs bm : Nat} {sc : Cap} {M : List Ent} {Q : AV → AS → Prop} (hs : C bs (row .u8 s) ∈ M) : ∀ (m i : Nat) (S : AS), i ≤ s.length → s.length - i < m → Hp X S (C bm (row .u8 (bitsTo s i)) :: M) →
    (∀ S', Hp X S' (C bm (row .u8 (bits s)) :: M) → Q (.sl (some (.rw bm, 0)) ((s.length + 7) / 8) (.ex ((s.length + 7) / 8))) S') →
    Ok (J16_l1_1_1_0_1_0 (evF E orcL n) n0 m (some (.rw bm, 0)) ((s.length + 7) / 8) (.ex ((s.length + 7) / 8)) (some (.rw bs, 0)) s.length sc s.length i S) Q
  | 0, i, S, hi, hm, h, ht => by omega
  | m + 1, i, S, hi, hm, h, ht => by
    rw [J16_l1_1_1_0_1_0_succ]
    simp only [b16_l1_1_1_0_1_0]
    refine ok_cond (fun hc => ?_) (fun hc => ?_)
    · simp only [decide_eq_true_eq] at hc
      have hlt : i < s.length := by omega
      obtain ⟨y, hy⟩ : ∃ y, s[i]? = some y := ⟨s[i], by simp [hlt]⟩
      have hy4 := hs4 y (List.mem_of_getElem? hy)
      have hb8 : i / 8 < (s.length + 7) / 8 := by omega
      have next : ∀ S1, Hp X S1 (C bm (row .u8 (bitsTo s (i + 1))) :: M) → Ok (J16_j1_1_1_0_1_0_0_1_1_1 (evF E orcL n) n0 (J16_l1_1_1_0_1_0 (evF E orcL n) n0 m) (some (.rw bm, 0)) ((s.length + 7) / 8) (.ex ((s.length + 7) / 8)) (some (.rw bs, 0)) s.length sc s.length i S1) Q := by
        intro S1 h1
        simp only [J16_j1_1_1_0_1_0_0_1_1_1, b16_j1_1_1_0_1_0_0_1_1_1]
        rw [wrap64 (by omega) (by omega)]
        exact bitmap_loop n0 n hs4 hn hs m (i + 1) S1 (by omega) (by omega) h1 ht
      refine ok_ixSl (k := i) rfl hlt ?_
      simp only [Nat.zero_add, Nat.mul_one]
      refine okM_ldI h (List.mem_cons_of_mem _ hs) (row_at hy) ?_
      have hw : IntKind.wrap .i64 (Int.tdiv (i : Int) 8) = ((i / 8 : Nat) : Int) := by rw [tdiv8, wrap64 (by omega) (by omega)]
      obtain ⟨z, hz⟩ : ∃ z, (bitsTo s i)[i / 8]? = some z := ⟨(bitsTo s i)[i / 8]'(by rw [bitsTo_len]; exact hb8), by simp [bitsTo_len, hb8]⟩
      have hz2 := bitsTo_lt s i z (List.mem_of_getElem? hz)
      have lay : (y = 1 ∨ y = 3) → ∀ S1, Hp X S1 (C bm (row .u8 (bitsTo s i)) :: M) → ∀ K : AS → Option (AV × AS), (∀ S2, Hp X S2 (C bm (row .u8 (bitsTo s (i + 1))) :: M) → Ok (K S2) Q) →
          Ok (ixSl 1 (some (.rw bm, 0)) ((s.length + 7) / 8) (IntKind.wrap .i64 (Int.tdiv i 8)) fun p11 => ldI .u8 S1 p11.1 p11.2 fun v12 => nneg (Int.tmod i 8) <| ixSl 1 (some (.rw bm, 0)) ((s.length + 7) / 8) (IntKind.wrap .i64 (Int.tdiv i 8)) fun p13 => S1.stn p13.1 p13.2 [(.int .u8 (orI .u8 v12 (shlI .u8 1 (Int.tmod i 8))))] fun S14 => K S14) Q := by
        intro hy13 S1 h1 K hK
        refine ok_ixSl (k := i / 8) hw hb8 ?_
        simp only [Nat.zero_add, Nat.mul_one]
        refine ok_ldI h1 (row_at hz) ?_
        refine ok_nneg (by rw [tmod8]; omega) ?_
        refine ok_ixSl (k := i / 8) hw hb8 ?_
        simp only [Nat.zero_add, Nat.mul_one]
        have e := orI_bit ⟨z, hz2⟩ ⟨i % 8, Nat.mod_lt _ (by decide)⟩
        simp only at e
        rw [tmod8, e]
        refine ok_stn h1 (by rw [row_len, bitsTo_len]; simp; omega) (d := row .u8 (bitsTo s (i + 1))) ?_ (fun S2 h2 => hK S2 h2)
        rw [row_splice _ (by rw [bitsTo_len]; exact hb8), bitsTo, if_pos (by rcases hy13 with rfl | rfl <;> simp [hy]), putBit]
        simp [List.getD, hz]
      refine ok_cond (fun hc => ?_) (fun hc => ?_)
      · simp only [beq_iff_eq] at hc
        exact lay (.inl (by omega)) S h _ (fun S2 h2 => next S2 h2)
      · simp only [beq_eq_false_iff_ne, ne_eq] at hc
        refine ok_cond (fun hc3 => ?_) (fun hc3 => ?_)
        · simp only [beq_iff_eq] at hc3
          exact lay (.inr (by omega)) S h _ (fun S2 h2 => next S2 h2)
        · simp only [beq_eq_false_iff_ne, ne_eq] at hc3
          refine next S ?_
          rw [bitsTo, if_neg (by rw [hy]; simp; omega)]
          exact h
    · simp only [decide_eq_false_iff_not] at hc
      have hk' : i = s.length := by omega
      subst hk'
      exact ok_ret (ht S h)

theorem bitmap_ok (n : Nat) (hn : 70000 < n) (h : Hp X S (L ++ F)) (ha : Alloc b A L) :
    Ok (ev (n + 1) (.fn 16) [.ptr (some (.rw b, 0))] S) fun v S' => ∃ bm, v = .sl (some (.rw bm, 0)) ((A.s.length + 7) / 8) (.ex ((A.s.length + 7) / 8)) ∧ Hp X S' (C bm (row .u8 (bits A.s)) :: (L ++ F)) := by
  obtain ⟨bs, sc, ta, tl, tc, ga, gl, gc, Lt, Lg, hr, rfl⟩ := ha
  have hn2 := hr.n2
  rw [ev, F16 _ _ _ (oL rfl)]
  simp only [J16, b16_entry]
  refine ok_false rfl (ok_gO (ok_ldL h rfl ?_))
  have hw : IntKind.wrap .i64 (Int.tdiv (IntKind.wrap .i64 (((A.s.length : Nat) : Int) + 7)) 8) = (((A.s.length + 7) / 8 : Nat) : Int) := by
    rw [wrap64 (n := ((A.s.length : Nat) : Int) + 7) (by omega) (by omega)]
    rw [show ((A.s.length : Nat) : Int) + 7 = ((A.s.length + 7 : Nat) : Int) by omega, tdiv8, wrap64 (by omega) (by omega)]
  refine ok_mkSl hw hw (Nat.le_refl _) (by simp [pow46]; omega) (by simp [pow46]; omega) ?_
  refine ok_newA h (fun bm S1 h1 => ok_gO (ok_ldL h1 rfl ?_))
  have e : zeros ((A.s.length + 7) / 8) [AV.int .u8 0] = row .u8 (bitsTo A.s 0) := by simp [zeros, row, bitsTo]
  rw [e] at h1
  exact bitmap_loop n n hr.st hn2 (by simp [blks]) n 0 S1 (by omega) (by omega) h1 (fun S' h' => ⟨bm, rfl, h'⟩)

end

end Go.Al

namespace Go.Al
open Go.Gr

/-- What stays true of an allocator. -/
structure AM.WF (A : AM) : Prop where
  td : A.t.Nodup
  ti : ∀ b, b ∈ A.t ↔ A.s[b]? = some 2
  gd : A.g.Nodup
  gi : ∀ b, b ∈ A.g ↔ A.s[b]? = some 3
  rf : A.r ≤ A.s.count 0
  n2 : A.s.length ≤ 65536
  st : ∀ x ∈ A.s, x ≤ 4

theorem nodup_len {t : List Nat} (hd : t.Nodup) {n : Nat} (h : ∀ b ∈ t, b < n) : t.length ≤ n := by
  have hs : t ⊆ List.range n := fun b hb => List.mem_range.2 (h b hb)
  simpa using hd.length_le_of_subset hs

theorem AM.WF.tl {A : AM} (h : A.WF) : A.t.length ≤ A.s.length := nodup_len h.td fun b hb => (List.getElem?_eq_some_iff.1 ((h.ti b).1 hb)).1
theorem AM.WF.gl {A : AM} (h : A.WF) : A.g.length ≤ A.s.length := nodup_len h.gd fun b hb => (List.getElem?_eq_some_iff.1 ((h.gi b).1 hb)).1

section
variable {X : Cx} {S : AS} {L F : List Ent} {b : Nat} {A : AM} {Q : AV → AS → Prop}

/-- A number is appended to what was taken. -/
theorem pushT_ok {bs : Nat} {sc : Cap} {ta : Option Pos} {tl : Nat} {tc : Cap} {ga : Option Pos} {gl : Nat} {gc : Cap} {Lt Lg : List Ent} {x : Nat} {xi : Int} {K : AS → Option (AV × AS)} (hx : xi = x)
    (hr : AllocR A bs sc ta tl tc ga gl gc Lt Lg) (hl : A.t.length ≤ 65536) (h : Hp X S (blks b A bs sc ta tl tc ga gl gc Lt Lg ++ F))
    (ht : ∀ S' L', Alloc b { A with t := A.t ++ [x] } L' → Hp X S' (L' ++ F) → Ok (K S') Q) :
    Ok (newA S (.cells [.int .i64 xi]) fun b2 S2 => appendA 1 8 S2 ta tl tc 1 (firstA S2 1 1 (.sl (some (.rw b2, 0)) 1 (.ex 1))) fun a l c S3 => gO (some (.rw b, 0)) fun p => S3.stn p.1 (p.2 + 3) [.sl a l c] K) Q := by
  subst hx
  have ht2 := hr.ht
  refine ok_newA h (fun b2 S2 h2 => ?_)
  have h2' := h2.re (M := Lt ++ (C b2 [.int .i64 x] :: C b (hdr A (some (.rw bs, 0)) A.s.length sc ta tl tc ga gl gc) :: C bs (row .u8 A.s) :: (Lg ++ F))) (by intro p; simp only [blks, List.countP_append, List.countP_cons, List.cons_append, C]; omega)
  refine ok_appendG h2' ht2 (ys := ins .i64 [x]) (ins_all _ _) rfl (fun K => ?_) (by decide) (by simp [pow46]; omega) (by simp [pow46]; omega) (fun a l c S3 Lt' ht' h3 => ?_)
  · have := RdR.first (.rw (X := X) (b := b2) (i := 0) (c := [.int .i64 x]) (cs := [.int .i64 x]) (L := _) (List.mem_append_right Lt List.mem_cons_self) (by simp) rfl) h2' (sz := 1) (n := 1) rfl (by decide) (l := 1) (c := .ex 1) K
    simpa [row] using this
  · rw [← ins_append] at ht'
    refine ok_gO (ok_stn h3 (by simp [hdr]) (d := hdr { A with t := A.t ++ [x] } (some (.rw bs, 0)) A.s.length sc a l c ga gl gc) (by simp [hdr, splice]) (fun S4 h4 => ht S4 _ ⟨bs, sc, a, l, c, ga, gl, gc, Lt', Lg, ⟨hr.n1, hr.n2, hr.st, hr.hc, ht', hr.hg⟩, rfl⟩ ?_))
    exact (h4.re (M := C b2 [.int .i64 x] :: (blks b { A with t := A.t ++ [x] } bs sc a l c ga gl gc Lt' Lg ++ F)) (by intro p; simp only [blks, List.countP_append, List.countP_cons, List.cons_append, C]; omega)).drop1

/-- A number is appended to what was given back. -/
theorem pushG_ok {bs : Nat} {sc : Cap} {ta : Option Pos} {tl : Nat} {tc : Cap} {ga : Option Pos} {gl : Nat} {gc : Cap} {Lt Lg : List Ent} {x : Nat} {xi : Int} {K : AS → Option (AV × AS)} (hx : xi = x)
    (hr : AllocR A bs sc ta tl tc ga gl gc Lt Lg) (hl : A.g.length ≤ 65536) (h : Hp X S (blks b A bs sc ta tl tc ga gl gc Lt Lg ++ F))
    (ht : ∀ S' L', Alloc b { A with g := A.g ++ [x] } L' → Hp X S' (L' ++ F) → Ok (K S') Q) :
    Ok (newA S (.cells [.int .i64 xi]) fun b2 S2 => appendA 1 8 S2 ga gl gc 1 (firstA S2 1 1 (.sl (some (.rw b2, 0)) 1 (.ex 1))) fun a l c S3 => gO (some (.rw b, 0)) fun p => S3.stn p.1 (p.2 + 4) [.sl a l c] K) Q := by
  subst hx
  have ht2 := hr.hg
  refine ok_newA h (fun b2 S2 h2 => ?_)
  have h2' := h2.re (M := Lg ++ (C b2 [.int .i64 x] :: C b (hdr A (some (.rw bs, 0)) A.s.length sc ta tl tc ga gl gc) :: C bs (row .u8 A.s) :: (Lt ++ F))) (by intro p; simp only [blks, List.countP_append, List.countP_cons, List.cons_append, C]; omega)
  refine ok_appendG h2' ht2 (ys := ins .i64 [x]) (ins_all _ _) rfl (fun K => ?_) (by decide) (by simp [pow46]; omega) (by simp [pow46]; omega) (fun a l c S3 Lg' ht' h3 => ?_)
  · have := RdR.first (.rw (X := X) (b := b2) (i := 0) (c := [.int .i64 x]) (cs := [.int .i64 x]) (L := _) (List.mem_append_right Lg List.mem_cons_self) (by simp) rfl) h2' (sz := 1) (n := 1) rfl (by decide) (l := 1) (c := .ex 1) K
    simpa [row] using this
  · rw [← ins_append] at ht'
    refine ok_gO (ok_stn h3 (by simp [hdr]) (d := hdr { A with g := A.g ++ [x] } (some (.rw bs, 0)) A.s.length sc ta tl tc a l c) (by simp [hdr, splice]) (fun S4 h4 => ht S4 _ ⟨bs, sc, ta, tl, tc, a, l, c, Lt, Lg', ⟨hr.n1, hr.n2, hr.st, hr.hc, hr.ht, ht'⟩, rfl⟩ ?_))
    exact (h4.re (M := C b2 [.int .i64 x] :: (blks b { A with g := A.g ++ [x] } bs sc ta tl tc a l c Lt Lg' ++ F)) (by intro p; simp only [blks, List.countP_append, List.countP_cons, List.cons_append, C]; omega)).drop1

/-- A number in the header turned: which blocks there are stays. -/
theorem setR_ok {bs : Nat} {sc : Cap} {ta : Option Pos} {tl : Nat} {tc : Cap} {ga : Option Pos} {gl : Nat} {gc : Cap} {Lt Lg : List Ent} {r : Nat} {ri : Int} {K : AS → Option (AV × AS)} (hx : ri = r)
    (hr : AllocR A bs sc ta tl tc ga gl gc Lt Lg) (h : Hp X S (blks b A bs sc ta tl tc ga gl gc Lt Lg ++ F))
    (ht : ∀ S', Alloc b { A with r := r } (blks b { A with r := r } bs sc ta tl tc ga gl gc Lt Lg) → Hp X S' (blks b { A with r := r } bs sc ta tl tc ga gl gc Lt Lg ++ F) → Ok (K S') Q) :
    Ok (gO (some (.rw b, 0)) fun p => S.stn p.1 (p.2 + 1) [.int .i64 ri] K) Q := by
  subst hx
  exact ok_gO (ok_stn h (by simp [hdr]) (d := hdr { A with r := r } (some (.rw bs, 0)) A.s.length sc ta tl tc ga gl gc) (by simp [hdr, splice]) (fun S4 h4 => ht S4 ⟨bs, sc, ta, tl, tc, ga, gl, gc, Lt, Lg, ⟨hr.n1, hr.n2, hr.st, hr.hc, hr.ht, hr.hg⟩, rfl⟩ h4))
theorem setH_ok {bs : Nat} {sc : Cap} {ta : Option Pos} {tl : Nat} {tc : Cap} {ga : Option Pos} {gl : Nat} {gc : Cap} {Lt Lg : List Ent} {r : Nat} {ri : Int} {K : AS → Option (AV × AS)} (hx : ri = r)
    (hr : AllocR A bs sc ta tl tc ga gl gc Lt Lg) (h : Hp X S (blks b A bs sc ta tl tc ga gl gc Lt Lg ++ F))
    (ht : ∀ S', Alloc b { A with h := r } (blks b { A with h := r } bs sc ta tl tc ga gl gc Lt Lg) → Hp X S' (blks b { A with h := r } bs sc ta tl tc ga gl gc Lt Lg ++ F) → Ok (K S') Q) :
    Ok (gO (some (.rw b, 0)) fun p => S.stn p.1 (p.2 + 2) [.int .i64 ri] K) Q := by
  subst hx
  exact ok_gO (ok_stn h (by simp [hdr]) (d := hdr { A with h := r } (some (.rw bs, 0)) A.s.length sc ta tl tc ga gl gc) (by simp [hdr, splice]) (fun S4 h4 => ht S4 ⟨bs, sc, ta, tl, tc, ga, gl, gc, Lt, Lg, ⟨hr.n1, hr.n2, hr.st, hr.hc, hr.ht, hr.hg⟩, rfl⟩ h4))

/-- Who takes a block for which room is reserved. -/
def AM.resE (A : AM) (x : Int) : Int := if ¬ (0 ≤ x ∧ x < A.s.length) then 2 else if A.r = 0 then 100 else 0
def AM.resV (A : AM) (x : Int) : Int := if A.resE x = 0 then A.next x.toNat else 0
def AM.res (A : AM) (x : Int) : AM := if A.resE x = 0 then AM.takes { A with r := A.r - 1 } x.toNat else A

theorem res_ok (n : Nat) (hn : 70000 < n) (h : Hp X S (L ++ F)) (ha : Alloc b A L) (hw : A.WF) (x : Int) :
    Ok (ev (n + 3) (.fn 20) [.ptr (some (.rw b, 0)), .int .i64 x] S) fun v S' => v = .tup [.int .i64 (A.resV x), .int .i64 (A.resE x)] ∧ ∃ L', Alloc b (A.res x) L' ∧ Hp X S' (L' ++ F) := by
  have hin := is_eq (n + 1) h ha x
  have ha0 := ha
  obtain ⟨bs, sc, ta, tl, tc, ga, gl, gc, Lt, Lg, hr, rfl⟩ := ha
  have hrf := hw.rf
  have hn2 := hw.n2
  have hcl : A.s.count 0 ≤ A.s.length := List.count_le_length
  rw [ev, F20 _ _ _ _ (oL rfl)]
  simp only [J20, b20_entry]
  refine ok_false rfl ?_
  rw [callB_of hin]
  have same : ∀ e, A.resE x = e → e ≠ 0 → Ok (some (.tup [.int .i64 0, .int .i64 e], S)) fun v S' => v = .tup [.int .i64 (A.resV x), .int .i64 (A.resE x)] ∧ ∃ L', Alloc b (A.res x) L' ∧ Hp X S' (L' ++ F) := fun e he h0 =>
    ok_ret ⟨by rw [AM.resV, he, if_neg h0], _, by rw [AM.res, if_neg (by rw [he]; exact h0)]; exact ha0, h⟩
  refine ok_cond (fun hc => same 2 ?_ (by decide)) (fun hc => ?_)
  · simp only [Bool.not_eq_true', Bool.and_eq_false_iff, decide_eq_false_iff_not] at hc
    rw [AM.resE, if_pos (by omega)]
  simp only [Bool.not_eq_false', Bool.and_eq_true, decide_eq_true_eq] at hc
  refine ok_gO (ok_ldI h rfl ?_)
  refine ok_cond (fun hc2 => same 100 ?_ (by decide)) (fun hc2 => ?_)
  · simp only [beq_iff_eq] at hc2
    rw [AM.resE, if_neg (by omega), if_pos (by omega)]
  simp only [beq_eq_false_iff_ne, ne_eq] at hc2
  have hE : A.resE x = 0 := by rw [AM.resE, if_neg (by omega), if_neg (by omega)]
  have h0 : 0 ∈ A.s := List.count_pos_iff.1 (by omega)
  refine ok_gO (ok_ldI h rfl ?_)
  refine setR_ok (r := A.r - 1) (by rw [wrap64 (by omega) (by omega)]; omega) hr h (fun S1 ha1 h1 => ?_)
  obtain ⟨v, S2, e, rfl, L1, ha2, h2⟩ := takes_ok n hn h1 ha1 (i := x.toNat) (by show x.toNat < A.s.length; omega) h0 (by have := hw.tl; show A.t.length ≤ _; omega)
  rw [Int.toNat_of_nonneg hc.1] at e
  rw [callI_of e]
  exact ok_ret ⟨by rw [AM.resV, hE, if_pos rfl]; rfl, L1, by rw [AM.res, if_pos hE]; exact ha2, h2⟩

def AM.markE (A : AM) (x : Int) : Int := if ¬ (0 ≤ x ∧ x < A.s.length) then 2 else if A.s[x.toNat]? ≠ some 0 ∨ A.s.count 0 ≤ A.r then 101 else 0
def AM.mark (A : AM) (x : Int) : AM := if A.markE x = 0 then { A with s := A.s.set x.toNat 2, t := A.t ++ [x.toNat] } else A

theorem mark_ok (n : Nat) (hn : 70000 < n) (h : Hp X S (L ++ F)) (ha : Alloc b A L) (hw : A.WF) (x : Int) :
    Ok (ev (n + 3) (.fn 35) [.ptr (some (.rw b, 0)), .int .i64 x] S) fun v S' => v = .int .i64 (A.markE x) ∧ ∃ L', Alloc b (A.mark x) L' ∧ Hp X S' (L' ++ F) := by
  have hin := is_eq (n + 1) h ha x
  have ha0 := ha
  obtain ⟨bs, sc, ta, tl, tc, ga, gl, gc, Lt, Lg, hr, rfl⟩ := ha
  have hn2 := hw.n2
  have htl := hw.tl
  rw [ev, F35 _ _ _ _ (oL rfl)]
  simp only [J35, b35_entry]
  refine ok_false rfl ?_
  rw [callB_of hin]
  have same : ∀ e, A.markE x = e → e ≠ 0 → Ok (some (.int .i64 e, S)) fun v S' => v = .int .i64 (A.markE x) ∧ ∃ L', Alloc b (A.mark x) L' ∧ Hp X S' (L' ++ F) := fun e he h0 =>
    ok_ret ⟨by rw [he], _, by rw [AM.mark, if_neg (by rw [he]; exact h0)]; exact ha0, h⟩
  refine ok_cond (fun hc => same 2 ?_ (by decide)) (fun hc => ?_)
  · simp only [Bool.not_eq_true', Bool.and_eq_false_iff, decide_eq_false_iff_not] at hc
    rw [AM.markE, if_pos (by omega)]
  simp only [Bool.not_eq_false', Bool.and_eq_true, decide_eq_true_eq] at hc
  have hlt : x.toNat < A.s.length := by omega
  obtain ⟨y, hy⟩ : ∃ y, A.s[x.toNat]? = some y := ⟨_, List.getElem?_eq_getElem hlt⟩
  refine ok_gO (ok_ldL h rfl (ok_ixSl (k := x.toNat) (by omega) hlt ?_))
  simp only [Nat.zero_add, Nat.mul_one]
  refine ok_ldI h (row_at hy) ?_
  refine ok_cond (fun hc2 => same 101 ?_ (by decide)) (fun hc2 => ?_)
  · simp only [bne_iff_ne, ne_eq] at hc2
    rw [AM.markE, if_neg (by omega), if_pos (.inl (by rw [hy]; simp; omega))]
  simp only [bne_eq_false_iff_eq] at hc2
  refine ok_gO (ok_ldI h rfl (ok_gO (ok_ldI h rfl ?_)))
  refine ok_cond (fun hc3 => same 101 ?_ (by decide)) (fun hc3 => ?_)
  · simp only [decide_eq_true_eq] at hc3
    rw [AM.markE, if_neg (by omega), if_pos (.inr (by omega))]
  simp only [decide_eq_false_iff_not] at hc3
  have hE : A.markE x = 0 := by
    rw [AM.markE, if_neg (by omega), if_neg]
    rw [hy]; simp; omega
  obtain ⟨v, S1, e, rfl, L1, ha1, h1, hsh⟩ := set_ok (n + 1) h ha0 hlt (x := 2) (by omega) (ii := x) (xi := 2) (by omega) rfl
  have hL1 := hsh bs sc ta tl tc ga gl gc Lt Lg hr rfl
  subst hL1
  rw [callT_of e]
  have hr1 : AllocR { A with s := A.s.set x.toNat 2 } bs sc ta tl tc ga gl gc Lt Lg := by
    refine ⟨by simpa using hr.n1, by simpa using hr.n2, fun z hz => ?_, by simpa using hr.hc, hr.ht, hr.hg⟩
    rcases List.mem_or_eq_of_mem_set hz with hz | rfl
    · exact hr.st z hz
    · omega
  refine ok_gO (ok_ldL h1 rfl ?_)
  refine pushT_ok (x := x.toNat) (by omega) hr1 (by show A.t.length ≤ _; omega) h1 (fun S4 L4 ha4 h4 => ok_ret ⟨by rw [hE], L4, by rw [AM.mark, if_pos hE]; exact ha4, h4⟩)

def AM.reserveE (A : AM) (x : Int) : Int := if x < 0 then 2 else if x > (A.s.count 0 : Nat) - (A.r : Int) then 100 else 0
def AM.reserve (A : AM) (x : Int) : AM := if A.reserveE x = 0 then { A with r := A.r + x.toNat } else A

theorem reserve_ok (n : Nat) (h : Hp X S (L ++ F)) (ha : Alloc b A L) (hw : A.WF) (x : Int) :
    Ok (ev (n + 1) (.fn 22) [.ptr (some (.rw b, 0)), .int .i64 x] S) fun v S' => v = .int .i64 (A.reserveE x) ∧ ∃ L', Alloc b (A.reserve x) L' ∧ Hp X S' (L' ++ F) := by
  have ha0 := ha
  obtain ⟨bs, sc, ta, tl, tc, ga, gl, gc, Lt, Lg, hr, rfl⟩ := ha
  have hn2 := hw.n2
  have hrf := hw.rf
  have hcl : A.s.count 0 ≤ A.s.length := List.count_le_length
  rw [ev, F22 _ _ _ _ (oL rfl)]
  simp only [J22, b22_entry]
  refine ok_false rfl ?_
  have same : ∀ e, A.reserveE x = e → e ≠ 0 → Ok (some (.int .i64 e, S)) fun v S' => v = .int .i64 (A.reserveE x) ∧ ∃ L', Alloc b (A.reserve x) L' ∧ Hp X S' (L' ++ F) := fun e he h0 =>
    ok_ret ⟨by rw [he], _, by rw [AM.reserve, if_neg (by rw [he]; exact h0)]; exact ha0, h⟩
  refine ok_cond (fun hc => same 2 ?_ (by decide)) (fun hc => ?_)
  · simp only [decide_eq_true_eq] at hc
    rw [AM.reserveE, if_pos hc]
  simp only [decide_eq_false_iff_not] at hc
  refine ok_gO (ok_ldI h rfl (ok_gO (ok_ldI h rfl ?_)))
  rw [wz (z := ((A.s.count 0 : Nat) : Int) - (A.r : Int)) rfl (by omega) (by omega)]
  refine ok_cond (fun hc3 => same 100 ?_ (by decide)) (fun hc3 => ?_)
  · simp only [gt_iff_lt, decide_eq_true_eq] at hc3
    rw [AM.reserveE, if_neg (by omega), if_pos (by omega)]
  simp only [gt_iff_lt, decide_eq_false_iff_not] at hc3
  have hE : A.reserveE x = 0 := by rw [AM.reserveE, if_neg (by omega), if_neg (by omega)]
  refine ok_gO (ok_ldI h rfl ?_)
  refine setR_ok (r := A.r + x.toNat) (by rw [wrap64 (by omega) (by omega)]; omega) hr h (fun S1 ha1 h1 => ok_ret ⟨by rw [hE], _, by rw [AM.reserve, if_pos hE]; exact ha1, h1⟩)

def AM.releaseE (A : AM) (x : Int) : Int := if x < 0 ∨ x > A.r then 2 else 0
def AM.release (A : AM) (x : Int) : AM := if A.releaseE x = 0 then { A with r := A.r - x.toNat } else A

theorem release_ok (n : Nat) (h : Hp X S (L ++ F)) (ha : Alloc b A L) (hw : A.WF) (x : Int) :
    Ok (ev (n + 1) (.fn 36) [.ptr (some (.rw b, 0)), .int .i64 x] S) fun v S' => v = .int .i64 (A.releaseE x) ∧ ∃ L', Alloc b (A.release x) L' ∧ Hp X S' (L' ++ F) := by
  have ha0 := ha
  obtain ⟨bs, sc, ta, tl, tc, ga, gl, gc, Lt, Lg, hr, rfl⟩ := ha
  have hn2 := hw.n2
  have hrf := hw.rf
  have hcl : A.s.count 0 ≤ A.s.length := List.count_le_length
  rw [ev, F36 _ _ _ _ (oL rfl)]
  simp only [J36, b36_entry]
  refine ok_false rfl ?_
  have same : ∀ e, A.releaseE x = e → e ≠ 0 → Ok (some (.int .i64 e, S)) fun v S' => v = .int .i64 (A.releaseE x) ∧ ∃ L', Alloc b (A.release x) L' ∧ Hp X S' (L' ++ F) := fun e he h0 =>
    ok_ret ⟨by rw [he], _, by rw [AM.release, if_neg (by rw [he]; exact h0)]; exact ha0, h⟩
  refine ok_cond (fun hc => same 2 ?_ (by decide)) (fun hc => ?_)
  · simp only [decide_eq_true_eq] at hc
    rw [AM.releaseE, if_pos (.inl hc)]
  simp only [decide_eq_false_iff_not] at hc
  refine ok_gO (ok_ldI h rfl ?_)
  refine ok_cond (fun hc3 => same 2 ?_ (by decide)) (fun hc3 => ?_)
  · simp only [gt_iff_lt, decide_eq_true_eq] at hc3
    rw [AM.releaseE, if_pos (.inr hc3)]
  simp only [gt_iff_lt, decide_eq_false_iff_not] at hc3
  have hE : A.releaseE x = 0 := by rw [AM.releaseE, if_neg (by omega)]
  refine ok_gO (ok_ldI h rfl ?_)
  refine setR_ok (r := A.r - x.toNat) (by rw [wrap64 (by omega) (by omega)]; omega) hr h (fun S1 ha1 h1 => ok_ret ⟨by rw [hE], _, by rw [AM.release, if_pos hE]; exact ha1, h1⟩)

theorem hold_ok (n : Nat) (h : Hp X S (L ++ F)) (ha : Alloc b A L) (hh : A.h < 1000000) :
    Ok (ev (n + 1) (.fn 33) [.ptr (some (.rw b, 0))] S) fun v S' => v = .tup [] ∧ ∃ L', Alloc b { A with h := A.h + 1 } L' ∧ Hp X S' (L' ++ F) := by
  obtain ⟨bs, sc, ta, tl, tc, ga, gl, gc, Lt, Lg, hr, rfl⟩ := ha
  rw [ev, F33 _ _ _ (oL rfl)]
  simp only [J33, b33_entry]
  refine ok_true rfl (ok_gO (ok_ldI h rfl ?_))
  exact setH_ok (r := A.h + 1) (by rw [wrap64 (by omega) (by omega)]; omega) hr h (fun S1 ha1 h1 => ok_ret ⟨rfl, _, ha1, h1⟩)

theorem holds_eq (n : Nat) (h : Hp X S (L ++ F)) (ha : Alloc b A L) : ev (n + 1) (.fn 29) [.ptr (some (.rw b, 0))] S = some (.int .i64 A.h, S) := by
  obtain ⟨bs, sc, ta, tl, tc, ga, gl, gc, Lt, Lg, hr, rfl⟩ := ha
  apply ok_eq
  rw [ev, F29 _ _ _ (oL rfl)]
  simp only [J29, b29_entry]
  exact ok_false rfl (ok_gO (ok_ldI h rfl (ok_ret ⟨rfl, rfl⟩)))

theorem reserved_eq (n : Nat) (h : Hp X S (L ++ F)) (ha : Alloc b A L) : ev (n + 1) (.fn 23) [.ptr (some (.rw b, 0))] S = some (.int .i64 A.r, S) := by
  obtain ⟨bs, sc, ta, tl, tc, ga, gl, gc, Lt, Lg, hr, rfl⟩ := ha
  apply ok_eq
  rw [ev, F23 _ _ _ (oL rfl)]
  simp only [J23, b23_entry]
  exact ok_false rfl (ok_gO (ok_ldI h rfl (ok_ret ⟨rfl, rfl⟩)))

def AM.state (A : AM) (x : Int) : Int := if 0 ≤ x ∧ x < A.s.length then ((A.s.getD x.toNat 0 : Nat) : Int) else -1

theorem state_eq (n : Nat) (h : Hp X S (L ++ F)) (ha : Alloc b A L) (x : Int) : ev (n + 2) (.fn 19) [.ptr (some (.rw b, 0)), .int .i64 x] S = some (.int .i64 (A.state x), S) := by
  have hin := is_eq n h ha x
  obtain ⟨bs, sc, ta, tl, tc, ga, gl, gc, Lt, Lg, hr, rfl⟩ := ha
  apply ok_eq
  rw [ev, F19 _ _ _ _ (oL rfl)]
  simp only [J19, b19_entry]
  refine ok_false rfl ?_
  rw [callB_of hin]
  refine ok_cond (fun hc => ok_ret ⟨?_, rfl⟩) (fun hc => ?_)
  · simp only [Bool.not_eq_true', Bool.and_eq_false_iff, decide_eq_false_iff_not] at hc
    rw [AM.state, if_neg (by omega)]
  simp only [Bool.not_eq_false', Bool.and_eq_true, decide_eq_true_eq] at hc
  have hlt : x.toNat < A.s.length := by omega
  obtain ⟨y, hy⟩ : ∃ y, A.s[x.toNat]? = some y := ⟨_, List.getElem?_eq_getElem hlt⟩
  have hy4 := hr.st y (List.mem_of_getElem? hy)
  refine ok_gO (ok_ldL h rfl (ok_ixSl (k := x.toNat) (by omega) hlt ?_))
  simp only [Nat.zero_add, Nat.mul_one]
  refine ok_ldI h (row_at hy) (ok_ret ⟨?_, rfl⟩)
  rw [AM.state, if_pos hc, wn (n := y) rfl (by omega), List.getD, hy]
  rfl
end

end Go.Al

namespace Go.Al
open Go.Gr

section
variable {X : Cx} {S : AS} {L F : List Ent} {b : Nat} {A : AM} {Q : AV → AS → Prop}

theorem idx64_loop (n0 n : Nat) (h : Hp X S L) {l : List Nat} {a : Option Pos} {c : Cap} {x : Nat} (hr : RdR X L a (row .i64 l)) (hn : l.length ≤ 65536) (w4 : Int) : ∀ (m i : Nat), i ≤ l.length → l.length - i < m →
    J44_l1_0_1_0 (evF E orcL n) n0 m a l.length c x w4 l.length i S = some (.int .i64 (if idxI x (l.drop i) = -1 then -1 else i + idxI x (l.drop i)), S)
  | 0, i, hi, hm => by omega
  | m + 1, i, hi, hm => by
    rw [J44_l1_0_1_0_succ]
    simp only [b44_l1_0_1_0]
    apply ok_eq
    refine ok_cond (fun hc => ?_) (fun hc => ?_)
    · simp only [decide_eq_true_eq] at hc
      have hlt : i < l.length := by omega
      obtain ⟨y, hy⟩ : ∃ y, l[i]? = some y := ⟨l[i], by simp [hlt]⟩
      have hd : l.drop i = y :: l.drop (i + 1) := by
        obtain ⟨hlt', he⟩ := List.getElem?_eq_some_iff.1 hy
        rw [List.drop_eq_getElem_cons hlt', he]
      obtain ⟨p, rfl⟩ := hr.some_of (by intro he; rw [← row_len .i64 l, he] at hlt; simp at hlt)
      rw [ixSl_at rfl hlt]
      simp only [Nat.mul_one]
      rw [hr.ldI h (row_at hy)]
      have hI : idxI x (l.drop i) = if y = x then 0 else if idxI x (l.drop (i + 1)) = -1 then -1 else idxI x (l.drop (i + 1)) + 1 := by rw [hd, idxI]
      refine ok_cond (fun hc => ?_) (fun hc => ?_)
      · simp only [beq_iff_eq] at hc
        refine ok_ret ⟨?_, rfl⟩
        rw [hI, if_pos (show y = x by omega)]
        simp
      · simp only [beq_eq_false_iff_ne, ne_eq] at hc
        rw [wn (n := i + 1) (by omega) (by omega)]
        have ih := idx64_loop n0 n h hr hn w4 m (i + 1) (by omega) (by omega) (c := c) (x := x)
        rw [ih]
        refine ok_ret ⟨?_, rfl⟩
        rw [hI, if_neg (show ¬ y = x by omega)]
        rcases idxI_spec x (l.drop (i + 1)) with ⟨h1, _⟩ | ⟨k, h1, _⟩
        · simp [h1]
        · rw [h1]
          rw [if_neg (by omega), if_neg (by omega), if_neg (by omega)]
          congr 1; omega
    · simp only [decide_eq_false_iff_not] at hc
      refine ok_ret ⟨?_, rfl⟩
      rw [List.drop_of_length_le (by omega)]
      rfl

theorem idx64_eq (n : Nat) (hn : 70000 < n) (h : Hp X S L) {l : List Nat} {a : Option Pos} {c : Cap} {x : Nat} (hr : RdR X L a (row .i64 l)) (hl : l.length ≤ 65536) {ll : Nat} (hll : ll = l.length) {xi : Int} (hxi : xi = x) :
    ev (n + 1) (.fn 44) [.sl a ll c, .int .i64 xi] S = some (.int .i64 (idxI x l), S) := by
  subst hll hxi
  rw [ev, F44 _ _ _ _ _ _ (oL rfl)]
  simp only [J44, b44_entry]
  have := idx64_loop n n h hr hl 0 n 0 (by omega) (by omega) (c := c) (x := x)
  rw [show ((0 : Nat) : Int) = 0 by rfl] at this
  rw [this, List.drop_zero]
  congr 3
  split
  · rename_i h0; rw [h0]
  · omega

/-- Where the first such number stands in a list that has it once. -/
theorem idxI_erase {x : Nat} : ∀ {t : List Nat}, x ∈ t → ∃ i, idxI x t = (i : Nat) ∧ i < t.length ∧ t.eraseIdx i = t.erase x
  | [], h => by cases h
  | y :: t, h => by
    unfold idxI
    by_cases hy : y = x
    · refine ⟨0, by rw [if_pos hy]; rfl, by simp, ?_⟩
      subst hy
      simp
    · have hm : x ∈ t := by
        rcases List.mem_cons.1 h with h | h
        · exact absurd h.symm hy
        · exact h
      obtain ⟨i, h1, h2, h3⟩ := idxI_erase hm
      refine ⟨i + 1, ?_, by simp; omega, ?_⟩
      · rw [if_neg hy, h1, if_neg (by omega)]; omega
      · rw [List.eraseIdx_cons_succ, h3, List.erase_cons, if_neg (by simpa using hy)]

theorem cap_cases {β : Type} {b N l : Nat} {cap : Cap} (hc : cap = .ex N ∨ cap = .op 1 N) (hl : l ≤ N) {i j : Nat} (hij : i ≤ j) (hj : j ≤ l) {xi xj xl : Int} (h1 : xi = i) (h2 : xj = j) (h3 : xl = l) {K : Option Pos → Nat → Cap → Option β} :
    ∃ a' l' c', slSl 1 (some (.rw b, 0)) l cap (some xi) (some xj) (some xl) K = K a' l' c' := by
  subst h1 h2 h3
  rcases hc with rfl | rfl
  · exact ⟨_, _, _, by simp only [slSl, optIx, ix, Int.natCast_nonneg, if_true, Int.toNat_natCast, if_pos hl, if_pos hj, if_pos hij]; rfl⟩
  · exact ⟨_, _, _, by simp only [slSl, optIx, ix, Int.natCast_nonneg, if_true, Int.toNat_natCast, Nat.le_refl, if_pos hj, if_pos hij]; rfl⟩

theorem cap_head {β : Type} {b N l : Nat} {cap : Cap} (hc : cap = .ex N ∨ cap = .op 1 N) (hl : l ≤ N) {i : Nat} (hi : i ≤ l) {xi : Int} (h1 : xi = i) {K : Option Pos → Nat → Cap → Option β} :
    slSl 1 (some (.rw b, 0)) l cap none (some xi) none K = K (some (.rw b, 0)) i cap := by
  subst h1
  rcases hc with rfl | rfl
  · have hN : i ≤ N := by omega
    simp [slSl, optIx, ix, hN]
  · simp [slSl, optIx, ix, hi]

theorem cap_tail {β : Type} {b N l : Nat} {cap : Cap} (hc : cap = .ex N ∨ cap = .op 1 N) (hl : l ≤ N) {j : Nat} (hj : j ≤ l) {xj : Int} (h1 : xj = j) {K : Option Pos → Nat → Cap → Option β} :
    ∃ o c', (o = j ∨ (l = j ∧ o = 0)) ∧ slSl 1 (some (.rw b, 0)) l cap (some xj) none none K = K (some (.rw b, o)) (l - j) c' := by
  subst h1
  rcases hc with rfl | rfl
  · by_cases hN : N = j
    · have hlj : l = j := by omega
      subst hlj hN
      refine ⟨0, .ex (N - N), .inr ⟨rfl, rfl⟩, ?_⟩
      simp [slSl, optIx, ix]
    · refine ⟨j, .ex (N - j), .inl rfl, ?_⟩
      simp [slSl, optIx, ix, hl, hj, hN]
  · refine ⟨j, .op 1 (N - j), .inl rfl, ?_⟩
    simp [slSl, optIx, ix, hj]

theorem cap_last {β : Type} {b N l : Nat} {cap : Cap} (hc : cap = .ex N ∨ cap = .op 1 N) (hl : l + 1 ≤ N) {x y : Int} (h1 : x = l) (h2 : y = (l + 1 : Nat)) {K : Option Pos → Nat → Cap → Option β} :
    ∃ c', slSl 1 (some (.rw b, 0)) l cap (some x) (some y) none K = K (some (.rw b, l)) 1 c' := by
  subst h1 h2
  rcases hc with rfl | rfl
  · refine ⟨.ex (N - l), ?_⟩
    have h3 : ¬ N = l := by omega
    simp only [slSl, optIx, ix, Int.natCast_nonneg, if_true, Int.toNat_natCast, Nat.le_refl, if_pos hl, if_pos (Nat.le_succ l), if_neg h3, Option.map_some, Nat.zero_add, Nat.mul_one, Nat.add_sub_cancel_left]
  · refine ⟨.op 1 (N - l), ?_⟩
    have h3 : l + 1 ≤ l ∨ l + 1 ≤ N := .inr hl
    simp only [slSl, optIx, ix, Int.natCast_nonneg, if_true, Int.toNat_natCast, if_pos h3, if_pos (Nat.le_succ l), Option.map_some, Nat.zero_add, Nat.mul_one, Nat.add_sub_cancel_left]

theorem delete_ok (n : Nat) {t : List Nat} {a : Option Pos} {l : Nat} {c : Cap} (h : Hp X S (L ++ F)) (hs : SlG a l c 1 (ins .i64 t) L) (hl : t.length ≤ 65536) {i : Nat} (hi : i < t.length) {xi xj : Int} (h1 : xi = i) (h2 : xj = (i + 1 : Nat)) :
    Ok (ev (n + 1) (.fn 45) [.sl a l c, .int .i64 xi, .int .i64 xj] S) fun v S' => ∃ a' l' c' L', v = .sl a' l' c' ∧ SlG a' l' c' 1 (ins .i64 (t.eraseIdx i)) L' ∧ Hp X S' (L' ++ F) := by
  rcases hs.dest with ⟨_, _, _, h4, _⟩ | ⟨bt, js, rfl, rfl, hc, rfl, hx, hj⟩
  · have := congrArg List.length h4; simp at this; rw [this] at hi; simp at hi
  simp only [ins_len] at hc
  have hJ := flat_len hj
  simp only [Nat.mul_one] at hJ
  generalize hJe : js.flatten = J at hJ
  have hcont : (ins .i64 t ++ js).flatten = row .i64 t ++ J := by rw [List.flatten_append, ins_flat, hJe]
  rw [hcont] at h
  have hp : Hp X S (C bt (row .i64 t ++ J) :: F) := h
  rw [ev, F45 _ _ _ _ _ _ _ (oL rfl)]
  simp only [J45, b45_entry, ins_len]
  obtain ⟨a1, l1, c1, e1⟩ := cap_cases (β := AV × AS) (b := bt) (l := t.length) hc (by omega) (i := i) (j := i + 1) (by omega) (by omega) h1 h2 rfl (K := fun v1a v1l v1c =>
    cond (xi == xj) (some ((.sl (some (.rw bt, 0)) t.length c), S)) (
    slSl 1 (some (.rw bt, 0)) t.length c none (some xi) none fun v2a v2l v2c =>
    slSl 1 (some (.rw bt, 0)) t.length c (some xj) none none fun v3a v3l v3c =>
    appendA 1 8 S v2a v2l v2c v3l (firstA S 1 v3l (.sl v3a v3l v3c)) fun v4a v4l v4c S5 =>
    slSl 1 v4a v4l v4c (some ((v4l : Nat) : Int)) (some ((t.length : Nat) : Int)) none fun v6a v6l v6c =>
    clearA [(.int .i64 0)] S5 v6a v6l fun S7 =>
    some ((.sl v4a v4l v4c), S7)))
  rw [e1]
  refine ok_false (by rw [h1, h2]; simp; omega) ?_
  rw [cap_head hc (by omega) (i := i) (by omega) h1]
  obtain ⟨o, c3, ho, e3⟩ := cap_tail (β := AV × AS) (b := bt) (l := t.length) hc (by omega) (j := i + 1) (by omega) h2 (K := fun v3a v3l v3c =>
    appendA 1 8 S (some (.rw bt, 0)) i c v3l (firstA S 1 v3l (.sl v3a v3l v3c)) fun v4a v4l v4c S5 =>
    slSl 1 v4a v4l v4c (some ((v4l : Nat) : Int)) (some ((t.length : Nat) : Int)) none fun v6a v6l v6c =>
    clearA [(.int .i64 0)] S5 v6a v6l fun S7 =>
    some ((.sl v4a v4l v4c), S7))
  rw [e3]
  have hlast : ∃ z, t[t.length - 1]? = some z := ⟨_, List.getElem?_eq_getElem (by omega)⟩
  obtain ⟨z, hz⟩ := hlast
  have hE : t.eraseIdx i = t.take i ++ t.drop (i + 1) := List.eraseIdx_eq_take_drop_succ t i
  have hEl : (t.eraseIdx i).length = t.length - 1 := by rw [List.length_eraseIdx, if_pos hi]
  have hdl : t.drop (t.length - 1) = [z] := by
    obtain ⟨hlt, he⟩ := List.getElem?_eq_some_iff.1 hz
    rw [List.drop_eq_getElem_cons hlt, he, List.drop_of_length_le (by omega)]
  have hrd : firstA S 1 (t.length - (i + 1)) (.sl (some (.rw bt, o)) (t.length - (i + 1)) c3) = fun (K : List AV → Option (AV × AS)) => K (row .i64 (t.drop (i + 1))) := by
    funext K
    refine RdR.first (X := X) (L := C bt (row .i64 t ++ J) :: F) (cs := row .i64 (t.drop (i + 1))) ?_ hp (by simp) (by decide) K
    rcases ho with rfl | ⟨ho, rfl⟩
    · refine .rw (c := row .i64 t ++ J) List.mem_cons_self (by simp; omega) ?_
      rw [List.drop_append_of_le_length (by simp; omega), row_drop, List.take_append_of_le_length (by simp), List.take_of_length_le (by simp)]
    · have : row .i64 (t.drop (i + 1)) = [] := by
        rw [List.drop_of_length_le (by omega)]; rfl
      rw [this]
      exact .rw (c := row .i64 t ++ J) List.mem_cons_self (by simp) (by simp)
  have hlen : i + (t.length - (i + 1)) = t.length - 1 := by omega
  have rest : ∀ S5, Hp X S5 (C bt (row .i64 (t.eraseIdx i) ++ (.int .i64 z :: J)) :: F) → Ok (slSl 1 (some (.rw bt, 0)) (t.length - 1) c (some ((t.length - 1 : Nat) : Int)) (some ((t.length : Nat) : Int)) none fun v6a v6l v6c => clearA [(.int .i64 0)] S5 v6a v6l fun S7 => some ((.sl (some (.rw bt, 0)) (t.length - 1) c), S7)) fun v S' => ∃ a' l' c' L', v = .sl a' l' c' ∧ SlG a' l' c' 1 (ins .i64 (t.eraseIdx i)) L' ∧ Hp X S' (L' ++ F) := by
    intro S5 h5
    obtain ⟨c6, e6⟩ := cap_last (β := AV × AS) (b := bt) (l := t.length - 1) hc (by omega) (x := ((t.length - 1 : Nat) : Int)) (y := ((t.length : Nat) : Int)) rfl (by omega) (K := fun v6a v6l v6c => clearA [(.int .i64 0)] S5 v6a v6l fun S7 => some ((.sl (some (.rw bt, 0)) (t.length - 1) c), S7))
    rw [e6]
    simp only [clearA, if_neg (show ¬ 1 = 0 by decide)]
    refine ok_stn h5 (by simp [zeros, hEl]) (d := row .i64 (t.eraseIdx i) ++ (.int .i64 0 :: J)) ?_ (fun S7 h7 => ok_ret ⟨_, _, _, [C bt (row .i64 (t.eraseIdx i) ++ (.int .i64 0 :: J))], rfl, ?_, h7⟩)
    · have hz1 : zeros 1 [AV.int .i64 0] = [AV.int .i64 0] := rfl
      rw [hz1, splice, ← hEl, ← row_len .i64 (t.eraseIdx i), List.take_left, List.length_singleton, List.drop_append, List.drop_of_length_le (l := row .i64 (t.eraseIdx i)) (by omega)]
      simp
    · rw [← hEl, ← ins_len .i64 (t.eraseIdx i)]
      have := SlG.blk (b := bt) (xs := ins .i64 (t.eraseIdx i)) (js := [AV.int .i64 0] :: js) (c := c) (ins_all _ _) (fun x hx => by
        rcases List.mem_cons.1 hx with rfl | hx
        · rfl
        · exact hj x hx) (by
        have e : (ins .i64 (t.eraseIdx i)).length + ([AV.int .i64 0] :: js).length = t.length + js.length := by simp [hEl]; omega
        rw [e]; exact hc)
      rw [List.flatten_append, ins_flat, List.flatten_cons, hJe] at this
      exact this
  have hb1 : (i + (t.length - (i + 1))) * 8 ≤ pow46 := by simp only [pow46]; omega
  have hb2 : i + (t.length - (i + 1)) ≤ pow46 := by simp only [pow46]; omega
  have hrow : row .i64 t = row .i64 (t.take (t.length - 1)) ++ [.int .i64 z] := by
    have : t = t.take (t.length - 1) ++ [z] := by rw [← hdl, List.take_append_drop]
    conv => lhs; rw [this]
    rw [row_append]; rfl
  have inplace : Ok (S.stn (.rw bt) (0 + i * 1) (row .i64 (t.drop (i + 1))) fun S5 => slSl 1 (some (.rw bt, 0)) (i + (t.length - (i + 1))) c (some ((i + (t.length - (i + 1)) : Nat) : Int)) (some ((t.length : Nat) : Int)) none fun v6a v6l v6c => clearA [(.int .i64 0)] S5 v6a v6l fun S7 => some ((.sl (some (.rw bt, 0)) (i + (t.length - (i + 1))) c), S7)) fun v S' => ∃ a' l' c' L', v = .sl a' l' c' ∧ SlG a' l' c' 1 (ins .i64 (t.eraseIdx i)) L' ∧ Hp X S' (L' ++ F) := by
    rw [Nat.zero_add, Nat.mul_one, hlen]
    refine ok_stn hp (by simp; omega) (d := row .i64 (t.eraseIdx i) ++ (.int .i64 z :: J)) ?_ (fun S5 h5 => rest S5 h5)
    rw [splice, row_len, List.length_drop, hlen, hE, row_append, List.take_append_of_le_length (by simp; omega), List.drop_append_of_le_length (by simp), row_drop, hdl]
    simp [row, List.map_take, List.map_drop]
  simp only [appendA, forceL_eq, if_pos hb1, if_pos hb2, hrd]
  rcases hc with rfl | rfl
  · simp only
    rw [if_pos (by omega)]
    exact inplace
  · simp only
    split
    · rename_i h0
      have hi1 : i = t.length - 1 := by omega
      have key := rest S (by
        have : t.drop (i + 1) = [] := List.drop_of_length_le (by omega)
        rw [hE, this, List.append_nil, hi1]
        rw [hrow] at hp
        simpa using hp)
      rw [← hi1] at key
      exact key
    · rw [if_pos (by omega)]
      exact inplace

/-- Who gives a block back. -/
def AM.giveE (A : AM) (x : Int) : Int := if ¬ (0 ≤ x ∧ x < A.s.length) then 2 else if A.s[x.toNat]? = some 1 ∨ A.s[x.toNat]? = some 2 then 0 else 101
def AM.give (A : AM) (x : Int) : AM := if ¬ (0 ≤ x ∧ x < A.s.length) then A else if A.s[x.toNat]? = some 1 then { A with s := A.s.set x.toNat 3, g := A.g ++ [x.toNat] } else if A.s[x.toNat]? = some 2 then { A with s := A.s.set x.toNat 0, t := A.t.erase x.toNat } else A

theorem AllocR.set {bs : Nat} {sc : Cap} {ta : Option Pos} {tl : Nat} {tc : Cap} {ga : Option Pos} {gl : Nat} {gc : Cap} {Lt Lg : List Ent} (hr : AllocR A bs sc ta tl tc ga gl gc Lt Lg) (i : Nat) {x : Nat} (hx : x ≤ 4) : AllocR { A with s := A.s.set i x } bs sc ta tl tc ga gl gc Lt Lg := by
  refine ⟨by simpa using hr.n1, by simpa using hr.n2, fun z hz => ?_, by simpa using hr.hc, hr.ht, hr.hg⟩
  rcases List.mem_or_eq_of_mem_set hz with hz | rfl
  · exact hr.st z hz
  · exact hx

theorem give_ok (n : Nat) (hn : 70000 < n) (h : Hp X S (L ++ F)) (ha : Alloc b A L) (hw : A.WF) (x : Int) :
    Ok (ev (n + 3) (.fn 21) [.ptr (some (.rw b, 0)), .int .i64 x] S) fun v S' => v = .int .i64 (A.giveE x) ∧ ∃ L', Alloc b (A.give x) L' ∧ Hp X S' (L' ++ F) := by
  have hin := is_eq (n + 1) h ha x
  have ha0 := ha
  obtain ⟨bs, sc, ta, tl, tc, ga, gl, gc, Lt, Lg, hr, rfl⟩ := ha
  have hn2 := hw.n2
  have htl := hw.tl
  have hgl := hw.gl
  rw [ev, F21 _ _ _ _ (oL rfl)]
  simp only [J21, b21_entry]
  refine ok_false rfl ?_
  rw [callB_of hin]
  refine ok_cond (fun hc => ?_) (fun hc => ?_)
  · simp only [Bool.not_eq_true', Bool.and_eq_false_iff, decide_eq_false_iff_not] at hc
    exact ok_ret ⟨by rw [AM.giveE, if_pos (by omega)], _, by rw [AM.give, if_pos (by omega)]; exact ha0, h⟩
  simp only [Bool.not_eq_false', Bool.and_eq_true, decide_eq_true_eq] at hc
  have hlt : x.toNat < A.s.length := by omega
  obtain ⟨y, hy⟩ : ∃ y, A.s[x.toNat]? = some y := ⟨_, List.getElem?_eq_getElem hlt⟩
  refine ok_gO (ok_ldL h rfl (ok_ixSl (k := x.toNat) (by omega) hlt ?_))
  simp only [Nat.zero_add, Nat.mul_one]
  refine ok_ldI h (row_at hy) ?_
  refine ok_cond (fun hc2 => ?_) (fun hc2 => ?_)
  · simp only [beq_iff_eq] at hc2
    have hy1 : A.s[x.toNat]? = some 1 := by rw [hy]; congr 1; omega
    obtain ⟨v, S1, e, rfl, L1, ha1, h1, hsh⟩ := set_ok (n + 1) h ha0 hlt (x := 3) (by omega) (ii := x) (xi := 3) (by omega) rfl
    have hL1 := hsh bs sc ta tl tc ga gl gc Lt Lg hr rfl
    subst hL1
    rw [callT_of e]
    refine ok_gO (ok_ldL h1 rfl ?_)
    refine pushG_ok (x := x.toNat) (by omega) (hr.set x.toNat (x := 3) (by omega)) (by show A.g.length ≤ _; omega) h1 (fun S4 L4 ha4 h4 => ok_ret ⟨?_, L4, ?_, h4⟩)
    · rw [AM.giveE, if_neg (by omega), if_pos (.inl hy1)]
    · rw [AM.give, if_neg (by omega), if_pos hy1]; exact ha4
  simp only [beq_eq_false_iff_ne, ne_eq] at hc2
  have hy1 : ¬ A.s[x.toNat]? = some 1 := by rw [hy]; simp; omega
  refine ok_cond (fun hc3 => ?_) (fun hc3 => ?_)
  · simp only [beq_iff_eq] at hc3
    have hy2 : A.s[x.toNat]? = some 2 := by rw [hy]; congr 1; omega
    obtain ⟨v, S1, e, rfl, L1, ha1, h1, hsh⟩ := set_ok (n + 1) h ha0 hlt (x := 0) (by omega) (ii := x) (xi := 0) (by omega) rfl
    have hL1 := hsh bs sc ta tl tc ga gl gc Lt Lg hr rfl
    subst hL1
    rw [callT_of e]
    have hr1 := hr.set x.toNat (x := 0) (by omega)
    refine ok_gO (ok_ldL h1 rfl ?_)
    have rdt : RdR X (blks b { A with s := A.s.set x.toNat 0 } bs sc ta tl tc ga gl gc Lt Lg ++ F) ta (row .i64 A.t) := by
      have := hr.ht.rd (X := X) (M := blks b { A with s := A.s.set x.toNat 0 } bs sc ta tl tc ga gl gc Lt Lg ++ F) (by intro e he; simp [blks, he])
      rwa [ins_flat] at this
    have htl2 : tl = A.t.length := by have := hr.ht.len; simpa using this
    obtain ⟨i, hi1, hi2, hi3⟩ := idxI_erase ((hw.ti x.toNat).2 hy2)
    have e5 := idx64_eq (n + 1) (by omega) h1 rdt (by omega) htl2 (c := tc) (x := x.toNat) (xi := x) (by omega)
    rw [hi1] at e5
    have e5' : evF E orcL (n + 2) (.fn 44) [.sl ta tl tc, .int .i64 x] S1 = some (.int .i64 (i : Nat), S1) := e5
    rw [callI_of e5']
    refine ok_gO (ok_ldL h1 rfl ?_)
    have h1' := h1.re (M := Lt ++ (C b (hdr { A with s := A.s.set x.toNat 0 } (some (.rw bs, 0)) A.s.length sc ta tl tc ga gl gc) :: C bs (row .u8 (A.s.set x.toNat 0)) :: (Lg ++ F))) (by intro p; simp only [blks, List.countP_append, List.countP_cons, List.cons_append, C, List.length_set]; omega)
    obtain ⟨v, S2, e, a', l', c', Lt', rfl, hs', h2⟩ := delete_ok (n + 1) h1' hr.ht (by omega) hi2 (xi := (i : Nat)) (xj := ((i + 1 : Nat) : Int)) rfl rfl
    rw [wn (n := i + 1) (by omega) (by omega)]
    rw [callL_of e]
    rw [hi3] at hs'
    refine ok_gO (ok_stn h2 (by simp [hdr]) (d := hdr { A with s := A.s.set x.toNat 0, t := A.t.erase x.toNat } (some (.rw bs, 0)) A.s.length sc a' l' c' ga gl gc) (by simp [hdr, splice]) (fun S4 h4 => ok_ret ⟨?_, blks b { A with s := A.s.set x.toNat 0, t := A.t.erase x.toNat } bs sc a' l' c' ga gl gc Lt' Lg, ?_, ?_⟩))
    · rw [AM.giveE, if_neg (by omega), if_pos (.inr hy2)]
    · rw [AM.give, if_neg (by omega), if_neg hy1, if_pos hy2]
      exact ⟨bs, sc, a', l', c', ga, gl, gc, Lt', Lg, ⟨hr1.n1, hr1.n2, hr1.st, hr1.hc, hs', hr1.hg⟩, rfl⟩
    · exact h4.re (by intro p; simp only [blks, List.countP_append, List.countP_cons, List.cons_append, C, List.length_set]; omega)
  · simp only [beq_eq_false_iff_ne, ne_eq] at hc3
    have hy2 : ¬ A.s[x.toNat]? = some 2 := by rw [hy]; simp; omega
    exact ok_ret ⟨by rw [AM.giveE, if_neg (by omega), if_neg (by simp [hy1, hy2])], _, by rw [AM.give, if_neg (by omega), if_neg hy1, if_neg hy2]; exact ha0, h⟩

end

end Go.Al
