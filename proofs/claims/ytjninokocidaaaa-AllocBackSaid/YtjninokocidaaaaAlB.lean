/- What the functions of package alloc do with a heap: taking, counts, bitmaps. -/
import Derived.Test.YtjninokocidaaaaAlA
set_option linter.unusedVariables false
set_option linter.unusedSimpArgs false
set_option maxRecDepth 4000
namespace Go.Al
open Go.Gr

section
variable {X : Cx} {S : AS} {L F : List Ent} {b : Nat} {A : AM}

def AM.inn (A : AM) (x : Int) : Prop := 0 ≤ x ∧ x < A.s.length

/-- Who takes a block: what is told, what there is then. -/
def AM.takeE (A : AM) (x : Int) : Int := if ¬ (0 ≤ x ∧ x < A.s.length) then 2 else if A.s.count 0 ≤ A.r then 100 else 0
def AM.takeV (A : AM) (x : Int) : Int := if A.takeE x = 0 then A.next x.toNat else 0
def AM.take (A : AM) (x : Int) : AM := if A.takeE x = 0 then A.takes x.toNat else A

theorem take_ok (n : Nat) (hn : 70000 < n) (h : Hp X S (L ++ F)) (ha : Alloc b A L) (hl : A.t.length ≤ 65536) (x : Int) :
    Ok (ev (n + 3) (.fn 13) [.ptr (some (.rw b, 0)), .int .i64 x] S) fun v S' => v = .tup [.int .i64 (A.takeV x), .int .i64 (A.takeE x)] ∧ ∃ L', Alloc b (A.take x) L' ∧ Hp X S' (L' ++ F) := by
  have hin := is_eq (n + 1) h ha x
  have ha0 := ha
  obtain ⟨bs, sc, ta, tl, tc, ga, gl, gc, Lt, Lg, hr, rfl⟩ := ha
  rw [ev, F13 _ _ _ _ (oL rfl)]
  simp only [J13, b13_entry]
  refine ok_false rfl ?_
  rw [callB_of hin]
  have same : ∀ e, A.takeE x = e → e ≠ 0 → Ok (some (.tup [.int .i64 0, .int .i64 e], S)) fun v S' => v = .tup [.int .i64 (A.takeV x), .int .i64 (A.takeE x)] ∧ ∃ L', Alloc b (A.take x) L' ∧ Hp X S' (L' ++ F) := fun e he h0 =>
    ok_ret ⟨by rw [AM.takeV, he, if_neg h0], _, by rw [AM.take, if_neg (by rw [he]; exact h0)]; exact ha0, h⟩
  refine ok_cond (fun hc => same 2 ?_ (by decide)) (fun hc => ?_)
  · simp only [Bool.not_eq_true', Bool.and_eq_false_iff, decide_eq_false_iff_not] at hc
    rw [AM.takeE, if_pos (by omega)]
  simp only [Bool.not_eq_false', Bool.and_eq_true, decide_eq_true_eq] at hc
  refine ok_gO (ok_ldI h rfl (ok_gO (ok_ldI h rfl ?_)))
  refine ok_cond (fun hc2 => same 100 ?_ (by decide)) (fun hc2 => ?_)
  · simp only [decide_eq_true_eq] at hc2
    rw [AM.takeE, if_neg (by omega), if_pos (by omega)]
  simp only [decide_eq_false_iff_not] at hc2
  have hE : A.takeE x = 0 := by rw [AM.takeE, if_neg (by omega), if_neg (by omega)]
  have h0 : 0 ∈ A.s := List.count_pos_iff.1 (by omega)
  obtain ⟨v, S1, e, rfl, L1, ha1, h1⟩ := takes_ok n hn h ha0 (i := x.toNat) (by omega) h0 hl
  rw [Int.toNat_of_nonneg hc.1] at e
  rw [callI_of e]
  exact ok_ret ⟨by rw [AM.takeV, hE, if_pos rfl], L1, by rw [AM.take, if_pos hE]; exact ha1, h1⟩

theorem blocks_eq (n : Nat) (h : Hp X S (L ++ F)) (ha : Alloc b A L) : ev (n + 1) (.fn 14) [.ptr (some (.rw b, 0))] S = some (.int .i64 A.s.length, S) := by
  obtain ⟨bs, sc, ta, tl, tc, ga, gl, gc, Lt, Lg, hr, rfl⟩ := ha
  apply ok_eq
  rw [ev, F14 _ _ _ (oL rfl)]
  simp only [J14, b14_entry]
  exact ok_false rfl (ok_gO (ok_ldL h rfl (ok_ret ⟨rfl, rfl⟩)))

theorem free_eq (n : Nat) (h : Hp X S (L ++ F)) (ha : Alloc b A L) : ev (n + 1) (.fn 15) [.ptr (some (.rw b, 0))] S = some (.int .i64 (A.s.count 0 : Nat), S) := by
  obtain ⟨bs, sc, ta, tl, tc, ga, gl, gc, Lt, Lg, hr, rfl⟩ := ha
  apply ok_eq
  rw [ev, F15 _ _ _ (oL rfl)]
  simp only [J15, b15_entry]
  exact ok_false rfl (ok_gO (ok_ldI h rfl (ok_ret ⟨rfl, rfl⟩)))

/-- A bit laid. -/
def putBit (m : List Nat) (i : Nat) : List Nat := m.set (i / 8) (m.getD (i / 8) 0 ||| 1 <<< (i % 8))
/-- The bitmap, of the first so many blocks. -/
def bitsTo (s : List Nat) : Nat → List Nat
  | 0 => List.replicate ((s.length + 7) / 8) 0
  | i + 1 => if s[i]? = some 1 ∨ s[i]? = some 3 then putBit (bitsTo s i) i else bitsTo s i
def bits (s : List Nat) : List Nat := bitsTo s s.length

theorem putBit_len (m : List Nat) (i : Nat) : (putBit m i).length = m.length := by simp [putBit]
theorem bitsTo_len (s : List Nat) : ∀ i, (bitsTo s i).length = (s.length + 7) / 8
  | 0 => by simp [bitsTo]
  | i + 1 => by
    rw [bitsTo]
    split
    · rw [putBit_len, bitsTo_len s i]
    · exact bitsTo_len s i
theorem bits_len (s : List Nat) : (bits s).length = (s.length + 7) / 8 := bitsTo_len s _

theorem or_lt {a k : Nat} (ha : a < 256) (hk : k < 8) : a ||| 1 <<< k < 256 := by
  have : 1 <<< k < 2 ^ 8 := by rw [Nat.one_shiftLeft]; exact Nat.pow_lt_pow_right (by decide) hk
  exact Nat.or_lt_two_pow (n := 8) ha this

theorem orI_bit : ∀ (a : Fin 256) (k : Fin 8), orI .u8 (a.val : Int) (shlI .u8 1 (k.val : Int)) = ((a.val ||| 1 <<< k.val : Nat) : Int) := by decide +kernel

theorem bitsTo_lt (s : List Nat) : ∀ i, ∀ x ∈ bitsTo s i, x < 256
  | 0, x, h => by simp [bitsTo] at h; omega
  | i + 1, x, h => by
    rw [bitsTo] at h
    split at h
    · rcases List.mem_or_eq_of_mem_set h with h | rfl
      · exact bitsTo_lt s i x h
      · refine or_lt ?_ (Nat.mod_lt _ (by decide))
        cases hg : (bitsTo s i)[i / 8]? with
        | none => simp [List.getD, hg]
        | some y => simpa [List.getD, hg] using bitsTo_lt s i y (List.mem_of_getElem? hg)
    · exact bitsTo_lt s i x h

theorem tdiv8 (i : Nat) : Int.tdiv (i : Int) 8 = ((i / 8 : Nat) : Int) := by
  rw [Int.tdiv_eq_ediv_of_nonneg (by omega)]; rfl
theorem tmod8 (i : Nat) : Int.tmod (i : Int) 8 = ((i % 8 : Nat) : Int) := by
  rw [Int.tmod_eq_emod_of_nonneg (by omega)]; rfl

theorem bitmap_loop (n0 n : Nat) {s : List Nat} (hs4 : ∀ x ∈ s, x ≤ 4) (hn : s.length ≤ 65536) {bs bm : Nat} {sc : Cap} {M : List Ent} {Q : AV → AS → Prop} (hs : C bs (row .u8 s) ∈ M) : ∀ (m i : Nat) (S : AS), i ≤ s.length → s.length - i < m → Hp X S (C bm (row .u8 (bitsTo s i)) :: M) →
    (∀ S', Hp X S' (C bm (row .u8 (bits s)) :: M) → Q (.sl (some (.rw bm, 0)) ((s.length + 7) / 8) (.ex ((s.length + 7) / 8))) S') →
    Ok (J16_l1_1_1_0_1_0 (evF E orcL n) n0 m (some (.rw bm, 0)) ((s.length + 7) / 8) (.ex ((s.length + 7) / 8)) (some (.rw bs, 0)) s.length sc s.length i S) Q
  | 0, i, S, hi, hm, h, ht => by omega
  | m + 1, i, S, hi, hm, h, ht => by
    rw [J16_l1_1_1_0_1_0_succ]
    simp only [b16_l1_1_1_0_1_0]
    refine ok_cond (fun hc => ?_) (fun hc => ?_)
    · simp only [decide_eq_true_eq] at hc
      have hlt : i < s.length := by omega
      obtain ⟨y, hy⟩ : ∃ y, s[i]? = some y := ⟨s[i], by simp [hlt]⟩
      have hy4 := hs4 y (List.mem_of_getElem? hy)
      have hb8 : i / 8 < (s.length + 7) / 8 := by omega
      have next : ∀ S1, Hp X S1 (C bm (row .u8 (bitsTo s (i + 1))) :: M) → Ok (J16_j1_1_1_0_1_0_0_1_1_1 (evF E orcL n) n0 (J16_l1_1_1_0_1_0 (evF E orcL n) n0 m) (some (.rw bm, 0)) ((s.length + 7) / 8) (.ex ((s.length + 7) / 8)) (some (.rw bs, 0)) s.length sc s.length i S1) Q := by
        intro S1 h1
        simp only [J16_j1_1_1_0_1_0_0_1_1_1, b16_j1_1_1_0_1_0_0_1_1_1]
        rw [wrap64 (by omega) (by omega)]
        exact bitmap_loop n0 n hs4 hn hs m (i + 1) S1 (by omega) (by omega) h1 ht
      refine ok_ixSl (k := i) rfl hlt ?_
      simp only [Nat.zero_add, Nat.mul_one]
      refine okM_ldI h (List.mem_cons_of_mem _ hs) (row_at hy) ?_
      have hw : IntKind.wrap .i64 (Int.tdiv (i : Int) 8) = ((i / 8 : Nat) : Int) := by rw [tdiv8, wrap64 (by omega) (by omega)]
      obtain ⟨z, hz⟩ : ∃ z, (bitsTo s i)[i / 8]? = some z := ⟨(bitsTo s i)[i / 8]'(by rw [bitsTo_len]; exact hb8), by simp [bitsTo_len, hb8]⟩
      have hz2 := bitsTo_lt s i z (List.mem_of_getElem? hz)
      have lay : (y = 1 ∨ y = 3) → ∀ S1, Hp X S1 (C bm (row .u8 (bitsTo s i)) :: M) → ∀ K : AS → Option (AV × AS), (∀ S2, Hp X S2 (C bm (row .u8 (bitsTo s (i + 1))) :: M) → Ok (K S2) Q) →
          Ok (ixSl 1 (some (.rw bm, 0)) ((s.length + 7) / 8) (IntKind.wrap .i64 (Int.tdiv i 8)) fun p11 => ldI .u8 S1 p11.1 p11.2 fun v12 => nneg (Int.tmod i 8) <| ixSl 1 (some (.rw bm, 0)) ((s.length + 7) / 8) (IntKind.wrap .i64 (Int.tdiv i 8)) fun p13 => S1.stn p13.1 p13.2 [(.int .u8 (orI .u8 v12 (shlI .u8 1 (Int.tmod i 8))))] fun S14 => K S14) Q := by
        intro hy13 S1 h1 K hK
        refine ok_ixSl (k := i / 8) hw hb8 ?_
        simp only [Nat.zero_add, Nat.mul_one]
        refine ok_ldI h1 (row_at hz) ?_
        refine ok_nneg (by rw [tmod8]; omega) ?_
        refine ok_ixSl (k := i / 8) hw hb8 ?_
        simp only [Nat.zero_add, Nat.mul_one]
        have e := orI_bit ⟨z, hz2⟩ ⟨i % 8, Nat.mod_lt _ (by decide)⟩
        simp only at e
        rw [tmod8, e]
        refine ok_stn h1 (by rw [row_len, bitsTo_len]; simp; omega) (d := row .u8 (bitsTo s (i + 1))) ?_ (fun S2 h2 => hK S2 h2)
        rw [row_splice _ (by rw [bitsTo_len]; exact hb8), bitsTo, if_pos (by rcases hy13 with rfl | rfl <;> simp [hy]), putBit]
        simp [List.getD, hz]
      refine ok_cond (fun hc => ?_) (fun hc => ?_)
      · simp only [beq_iff_eq] at hc
        exact lay (.inl (by omega)) S h _ (fun S2 h2 => next S2 h2)
      · simp only [beq_eq_false_iff_ne, ne_eq] at hc
        refine ok_cond (fun hc3 => ?_) (fun hc3 => ?_)
        · simp only [beq_iff_eq] at hc3
          exact lay (.inr (by omega)) S h _ (fun S2 h2 => next S2 h2)
        · simp only [beq_eq_false_iff_ne, ne_eq] at hc3
          refine next S ?_
          rw [bitsTo, if_neg (by rw [hy]; simp; omega)]
          exact h
    · simp only [decide_eq_false_iff_not] at hc
      have hk' : i = s.length := by omega
      subst hk'
      exact ok_ret (ht S h)

theorem bitmap_ok (n : Nat) (hn : 70000 < n) (h : Hp X S (L ++ F)) (ha : Alloc b A L) :
    Ok (ev (n + 1) (.fn 16) [.ptr (some (.rw b, 0))] S) fun v S' => ∃ bm, v = .sl (some (.rw bm, 0)) ((A.s.length + 7) / 8) (.ex ((A.s.length + 7) / 8)) ∧ Hp X S' (C bm (row .u8 (bits A.s)) :: (L ++ F)) := by
  obtain ⟨bs, sc, ta, tl, tc, ga, gl, gc, Lt, Lg, hr, rfl⟩ := ha
  have hn2 := hr.n2
  rw [ev, F16 _ _ _ (oL rfl)]
  simp only [J16, b16_entry]
  refine ok_false rfl (ok_gO (ok_ldL h rfl ?_))
  have hw : IntKind.wrap .i64 (Int.tdiv (IntKind.wrap .i64 (((A.s.length : Nat) : Int) + 7)) 8) = (((A.s.length + 7) / 8 : Nat) : Int) := by
    rw [wrap64 (n := ((A.s.length : Nat) : Int) + 7) (by omega) (by omega)]
    rw [show ((A.s.length : Nat) : Int) + 7 = ((A.s.length + 7 : Nat) : Int) by omega, tdiv8, wrap64 (by omega) (by omega)]
  refine ok_mkSl hw hw (Nat.le_refl _) (by simp [pow46]; omega) (by simp [pow46]; omega) ?_
  refine ok_newA h (fun bm S1 h1 => ok_gO (ok_ldL h1 rfl ?_))
  have e : zeros ((A.s.length + 7) / 8) [AV.int .u8 0] = row .u8 (bitsTo A.s 0) := by simp [zeros, row, bitsTo]
  rw [e] at h1
  exact bitmap_loop n n hr.st hn2 (by simp [blks]) n 0 S1 (by omega) (by omega) h1 (fun S' h' => ⟨bm, rfl, h'⟩)

theorem AM.next_last (n : Nat) (h : 1 ≤ n) : (AM.mk (List.replicate n 0) [] [] 0 0).next (n - 1) = n - 1 := by
  unfold AM.next
  have : (List.replicate n 0).drop (n - 1) = [0] := by
    rw [List.drop_replicate, show n - (n - 1) = 1 by omega]; rfl
  simp [this, idxI]

theorem sizes_run (n : Nat) (hn : 70000 < n) (h : Hp X S []) (x : Int) : Ok (ev (n + 4) (.fn 3) [.int .i64 x] S) fun v S' => v = .bool true := by
  rw [ev, F3 _ _ _ (oL rfl)]
  simp only [J3, b3_entry]
  have live : ∀ S, Ok (callB (evF E orcL (n + 3)) 12 [] S fun v S => some (.bool v, S)) fun v S' => v = .bool true := fun S => by
    rw [callB_of (S' := S) (v := true) (by simp [evF, orcL])]; exact ok_ret rfl
  obtain ⟨v, S1, e, hp⟩ := new_ok (n + 2) h x
  rcases hp with ⟨hx, rfl, rfl⟩ | ⟨hx, b, L, rfl, ha, h1⟩
  · rw [callT_of e]
    simp only [atP, atI, List.getElem?_cons_zero, List.getElem?_cons_succ, gP, gIk, if_true]
    have live2 := live S1
    unfold right at hx
    refine ok_cond (fun hc => ?_) (fun hc => ?_)
    · simp only [ge_iff_le, decide_eq_true_eq] at hc
      have hx2 : decide (x ≤ 65536) = false := by simp; omega
      rw [callI_of (num_eq (n + 2) 2 S1), hx2]
      refine ok_false (by decide) (ok_false (by simp) (ok_true (by simp) ?_))
      rw [callI_of (num_eq (n + 2) 2 S1)]
      exact ok_false (by decide) (ok_true rfl live2)
    · rw [callI_of (num_eq (n + 2) 2 S1)]
      refine ok_false (by decide) (ok_false (by simp) ?_)
      rw [callI_of (num_eq (n + 2) 2 S1)]
      exact ok_false (by decide) (ok_true rfl live2)
  · rw [callT_of e]
    simp only [atP, atI, List.getElem?_cons_zero, List.getElem?_cons_succ, gP, gIk, if_true]
    unfold right at hx
    obtain ⟨k, rfl⟩ : ∃ k : Nat, x = (k : Int) := ⟨x.toNat, by omega⟩
    have hx1 : decide ((k : Int) ≥ 1) = true := by simp; omega
    have hx2 : decide ((k : Int) ≤ 65536) = true := by simp; omega
    refine ok_true hx1 ?_
    rw [callI_of (num_eq (n + 2) 0 S1), hx2]
    refine ok_false (by decide) (ok_false (by simp) (ok_false (by simp) (ok_false rfl ?_)))
    have hw : IntKind.wrap .i64 ((k : Int) - 1) = (((k - 1 : Nat)) : Int) := by rw [wrap64 (by omega) (by omega)]; omega
    rw [hw]
    simp only [Int.toNat_natCast] at ha
    have h1' : Hp X S1 (L ++ []) := h1
    obtain ⟨v, S2, e2, rfl, L2, ha2, h2⟩ := take_ok n hn h1' ha (by simp) ((k - 1 : Nat) : Int)
    have hE : (AM.mk (List.replicate k 0) [] [] 0 0).takeE ((k - 1 : Nat) : Int) = 0 := by
      simp only [AM.takeE, List.length_replicate, count_rep]
      rw [if_neg (by omega), if_neg (by omega)]
    have hV : (AM.mk (List.replicate k 0) [] [] 0 0).takeV ((k - 1 : Nat) : Int) = ((k - 1 : Nat) : Int) := by
      rw [AM.takeV, hE, if_pos rfl]
      simp only [Int.toNat_natCast, AM.next_last k (by omega)]
    have hT : (AM.mk (List.replicate k 0) [] [] 0 0).take ((k - 1 : Nat) : Int) = ⟨(List.replicate k 0).set (k - 1) 2, [k - 1], [], 0, 0⟩ := by
      rw [AM.take, hE, if_pos rfl, AM.takes]
      simp only [Int.toNat_natCast, AM.next_last k (by omega)]
      rfl
    rw [hT] at ha2
    rw [hE, hV] at e2
    rw [callT_of e2]
    simp only [atI, List.getElem?_cons_zero, List.getElem?_cons_succ, gIk, if_true]
    have hb := blocks_eq (n + 2) h2 ha2
    simp only [List.length_set, List.length_replicate] at hb
    rw [callI_of hb]
    refine ok_true (by simp) ?_
    have hf := free_eq (n + 2) h2 ha2
    have hcnt : ((List.replicate k 0).set (k - 1) 2).count 0 = k - 1 := by
      rw [List.count_set (by simp; omega)]
      simp
    simp only [hcnt] at hf
    rw [callI_of hf]
    refine ok_true (by simp) (ok_true (by simp) ?_)
    rw [callI_of (num_eq (n + 2) 0 S2)]
    refine ok_true (by simp) ?_
    obtain ⟨v, S3, e3, bm, rfl, h3⟩ := bitmap_ok (n + 2) (by omega) h2 ha2
    simp only [List.length_set, List.length_replicate] at e3
    rw [callL_of e3]
    refine ok_true ?_ (live S3)
    rw [wrap64 (n := (k : Int) + 7) (by omega) (by omega), show (k : Int) + 7 = ((k + 7 : Nat) : Int) by omega, tdiv8, wrap64 (by omega) (by omega)]
    simp

end

end Go.Al
