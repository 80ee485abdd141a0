/- The library's sort of integers: whatever its comparisons say it stays within its bounds and leaves the same elements. -/
import Derived.Test.YtjninokocidaaaaAlA
set_option linter.unusedVariables false
set_option linter.unusedSimpArgs false
set_option maxRecDepth 4000
namespace Go.Al
open Go.Gr

/-- A block whose first cells are integers. -/
abbrev D (b : Nat) (d : List Int) (js : List AV) : Ent := C b (d.map (AV.int .i64) ++ js)

section
variable {X : Cx} {S : AS} {F : List Ent} {b l : Nat} {c : Cap} {d d0 : List Int} {js : List AV} {Q : AV → AS → Prop}

theorem at_ok {x : Int} {i : Nat} {K : Int → Option (AV × AS)} (h : Hp X S (D b d js :: F)) (hl : l = d.length) (hx : x = i) (hi : i < l) (ht : ∀ v, d[i]? = some v → Ok (K v) Q) :
    Ok (ixSl 1 (some (.rw b, 0)) l x fun p => ldI .i64 S p.1 p.2 K) Q := by
  subst hl
  refine ok_ixSl (k := i) hx hi ?_
  simp only [Nat.zero_add, Nat.mul_one]
  have hv : d[i]? = some (d[i]'hi) := List.getElem?_eq_getElem hi
  refine ok_ldI (n := d[i]'hi) h ?_ (ht _ hv)
  rw [List.getElem?_append_left (by simpa using hi), List.getElem?_map, hv]
  rfl

theorem put_ok {x v : Int} {i : Nat} {K : AS → Option (AV × AS)} (h : Hp X S (D b d js :: F)) (hl : l = d.length) (hx : x = i) (hi : i < l) (ht : ∀ S', Hp X S' (D b (d.set i v) js :: F) → Ok (K S') Q) :
    Ok (ixSl 1 (some (.rw b, 0)) l x fun p => S.stn p.1 p.2 [.int .i64 v] K) Q := by
  subst hl
  refine ok_ixSl (k := i) hx hi ?_
  simp only [Nat.zero_add, Nat.mul_one]
  refine ok_stn h (by simp; omega) (d := (d.set i v).map (AV.int .i64) ++ js) ?_ ht
  have e : (d.map (AV.int .i64)).set i (AV.int .i64 v) = (d.set i v).map (AV.int .i64) := by rw [List.map_set]
  rw [← e, splice, List.take_append_of_le_length (by simp; omega), List.length_singleton, List.drop_append_of_le_length (by simp; omega), List.set_eq_take_append_cons_drop, if_pos (by simpa using hi)]
  simp

theorem less_eq (n : Nat) (x y : Int) (S : AS) : evF E orcL (n + 2) (.fn 75) [.int .i64 x, .int .i64 y] S = some (.bool (decide (x < y)), S) := by
  have e : ∀ z : Int, evF E orcL (n + 1) (.fn 85) [.int .i64 z] S = some (.bool false, S) := fun z => by
    rw [F85 _ _ _ (oL rfl)]
    simp [J85, b85_entry]
  rw [F75 _ _ _ _ (oL rfl)]
  simp only [J75, b75_entry]
  rw [callB_of (e x)]
  rfl

end

end Go.Al

namespace Go.Al
open Go.Gr

section
variable {X : Cx} {S : AS} {F : List Ent} {b l : Nat} {c : Cap} {d d0 : List Int} {js : List AV} {Q : AV → AS → Prop}

end

end Go.Al

namespace Go.Al
open Go.Gr

section
variable {X : Cx} {S : AS} {F : List Ent} {b l q : Nat} {c : Cap} {d d0 : List Int} {js : List AV} {Q : AV → AS → Prop} {s : Int}

theorem ord_ok (n : Nat) {x y : Nat} (hx : x < l) (hy : y < l) (hld : l = d.length) (h : Hp X S (D b d js :: C q [.int .i64 s] :: F)) :
    Ok (evF E orcL (n + 3) (.fn 86) [.sl (some (.rw b, 0)) l c, .int .i64 x, .int .i64 y, .ptr (some (.rw q, 0))] S) fun v S' => ∃ x' y' : Nat, v = .tup [.int .i64 x', .int .i64 y'] ∧ ((x' = x ∧ y' = y) ∨ (x' = y ∧ y' = x)) ∧ ∃ s', Hp X S' (D b d js :: C q [.int .i64 s'] :: F) := by
  rw [F86 _ _ _ _ _ _ _ _ (oL rfl)]
  simp only [J86, b86_entry]
  refine at_ok h hld (i := y) rfl hy (fun v1 _ => at_ok h hld (i := x) rfl hx (fun v2 _ => ?_))
  rw [callB_of (less_eq n v1 v2 S)]
  refine ok_cond (fun _ => ?_) (fun _ => ok_ret ⟨x, y, rfl, .inl ⟨rfl, rfl⟩, s, h⟩)
  refine ok_gO (ok_ldI h rfl (ok_gO ?_))
  exact ok_stn h (by simp) (d := [.int .i64 (IntKind.wrap .i64 (s + 1))]) (by simp [splice]) (fun S2 h2 => ok_ret ⟨y, x, rfl, .inr ⟨rfl, rfl⟩, _, h2⟩)

theorem med_ok (n : Nat) {x y z lo hi : Nat} (hx : lo ≤ x ∧ x < hi) (hy : lo ≤ y ∧ y < hi) (hz : lo ≤ z ∧ z < hi) (hhi : hi ≤ l) (hld : l = d.length) (h : Hp X S (D b d js :: C q [.int .i64 s] :: F)) {xi yi zi : Int} (hxi : xi = x) (hyi : yi = y) (hzi : zi = z) :
    Ok (evF E orcL (n + 4) (.fn 84) [.sl (some (.rw b, 0)) l c, .int .i64 xi, .int .i64 yi, .int .i64 zi, .ptr (some (.rw q, 0))] S) fun v S' => ∃ r : Nat, v = .int .i64 r ∧ lo ≤ r ∧ r < hi ∧ ∃ s', Hp X S' (D b d js :: C q [.int .i64 s'] :: F) := by
  subst hxi hyi hzi
  rw [F84 _ _ _ _ _ _ _ _ _ (oL rfl)]
  simp only [J84, b84_entry]
  obtain ⟨v, S1, e, x1, y1, rfl, hr1, s1, h1⟩ := ord_ok n (c := c) (show x < l by omega) (show y < l by omega) hld h
  rw [callT_of e]
  simp only [atI, List.getElem?_cons_zero, List.getElem?_cons_succ, gIk, if_true]
  obtain ⟨v, S2, e, x2, y2, rfl, hr2, s2, h2⟩ := ord_ok n (c := c) (show y1 < l by omega) (show z < l by omega) hld h1
  rw [callT_of e]
  simp only [List.getElem?_cons_zero, List.getElem?_cons_succ]
  obtain ⟨v, S3, e, x3, y3, rfl, hr3, s3, h3⟩ := ord_ok n (c := c) (show x1 < l by omega) (show x2 < l by omega) hld h2
  rw [callT_of e]
  simp only [List.getElem?_cons_zero, List.getElem?_cons_succ]
  exact ok_ret ⟨y3, rfl, by omega, by omega, s3, h3⟩

theorem adj_ok (n : Nat) {x lo hi : Nat} (hx : lo + 1 ≤ x ∧ x + 1 < hi) (hhi : hi ≤ l) (hl2 : l < 1000000) (hld : l = d.length) (h : Hp X S (D b d js :: C q [.int .i64 s] :: F)) {xi : Int} (hxi : xi = x) :
    Ok (evF E orcL (n + 5) (.fn 83) [.sl (some (.rw b, 0)) l c, .int .i64 xi, .ptr (some (.rw q, 0))] S) fun v S' => ∃ r : Nat, v = .int .i64 r ∧ lo ≤ r ∧ r < hi ∧ ∃ s', Hp X S' (D b d js :: C q [.int .i64 s'] :: F) := by
  subst hxi
  rw [F83 _ _ _ _ _ _ _ (oL rfl)]
  simp only [J83, b83_entry]
  rw [wn (x := (x : Int) + 1) (n := x + 1) (by omega) (by omega), wn (x := (x : Int) - 1) (n := x - 1) (by omega) (by omega)]
  obtain ⟨v, S1, e, r, rfl, hr1, hr2, s1, h1⟩ := med_ok n (c := c) (x := x - 1) (y := x) (z := x + 1) (lo := lo) (hi := hi) ⟨by omega, by omega⟩ ⟨by omega, by omega⟩ ⟨by omega, by omega⟩ hhi hld h rfl rfl rfl
  rw [callI_of e]
  exact ok_ret ⟨r, rfl, hr1, hr2, s1, h1⟩

theorem tdiv4 (i : Nat) : Int.tdiv (i : Int) 4 = ((i / 4 : Nat) : Int) := by
  rw [Int.tdiv_eq_ediv_of_nonneg (by omega)]; rfl

theorem pivot_ok (n : Nat) {x y : Nat} (hxy : x + 12 < y) (hy : y ≤ l) (hl2 : l < 1000000) (hld : l = d.length) (h : Hp X S (D b d js :: F)) {xi yi : Int} (hxi : xi = x) (hyi : yi = y) :
    Ok (evF E orcL (n + 6) (.fn 72) [.sl (some (.rw b, 0)) l c, .int .i64 xi, .int .i64 yi] S) fun v S' => ∃ (r : Nat) (t : Int), v = .tup [.int .i64 r, .int .i64 t] ∧ x ≤ r ∧ r < y ∧ Hp X S' (D b d js :: F) := by
  subst hxi hyi
  rw [F72 _ _ _ _ _ _ _ (oL rfl)]
  simp only [J72, b72_entry]
  have e1 : IntKind.wrap .i64 ((y : Int) - (x : Int)) = (y - x : Nat) := wn (by omega) (by omega)
  have e2 : IntKind.wrap .i64 (Int.tdiv ((y - x : Nat) : Int) 4) = ((y - x) / 4 : Nat) := by rw [tdiv4]; exact wn rfl (by omega)
  have f1 : IntKind.wrap .i64 ((((y - x) / 4 : Nat) : Int) * 1) = ((y - x) / 4 : Nat) := wn (by omega) (by omega)
  have f2 : IntKind.wrap .i64 ((((y - x) / 4 : Nat) : Int) * 2) = ((y - x) / 4 * 2 : Nat) := wn (by omega) (by omega)
  have f3 : IntKind.wrap .i64 ((((y - x) / 4 : Nat) : Int) * 3) = ((y - x) / 4 * 3 : Nat) := wn (by omega) (by omega)
  have g1 : IntKind.wrap .i64 ((x : Int) + (((y - x) / 4 : Nat) : Int)) = (x + (y - x) / 4 : Nat) := wn (by omega) (by omega)
  have g2 : IntKind.wrap .i64 ((x : Int) + (((y - x) / 4 * 2 : Nat) : Int)) = (x + (y - x) / 4 * 2 : Nat) := wn (by omega) (by omega)
  have g3 : IntKind.wrap .i64 ((x : Int) + (((y - x) / 4 * 3 : Nat) : Int)) = (x + (y - x) / 4 * 3 : Nat) := wn (by omega) (by omega)
  simp only [e1, e2, f1, f2, f3, g1, g2, g3]
  refine ok_newA h (fun q S1 h1 => ?_)
  have h1 : Hp X S1 (D b d js :: C q [.int .i64 0] :: F) := h1.re (by intro p; simp only [List.countP_cons, C]; omega)
  have fin : ∀ (S : AS) (r : Nat) (s : Int), x ≤ r → r < y → Hp X S (D b d js :: C q [.int .i64 s] :: F) → Ok (J72_j1_1_1_1_1_1_1 (evF E orcL (n + 5)) (n + 5) (some (.rw q, 0)) r S) fun v S' => ∃ (r : Nat) (t : Int), v = .tup [.int .i64 r, .int .i64 t] ∧ x ≤ r ∧ r < y ∧ Hp X S' (D b d js :: F) := by
    intro S r s hr1 hr2 h
    simp only [J72_j1_1_1_1_1_1_1, b72_j1_1_1_1_1_1_1]
    have hf : Hp X S (D b d js :: F) := (h.re (M := C q [.int .i64 s] :: D b d js :: F) (by intro p; simp only [List.countP_cons, C]; omega)).drop1
    refine ok_gO (ok_ldI h rfl ?_)
    exact ok_cond (fun _ => ok_ret ⟨r, 1, rfl, hr1, hr2, hf⟩) (fun _ => ok_cond (fun _ => ok_ret ⟨r, 2, rfl, hr1, hr2, hf⟩) (fun _ => ok_ret ⟨r, 0, rfl, hr1, hr2, hf⟩))
  have mid : ∀ (S : AS) (i j k : Nat) (s : Int), (x ≤ i ∧ i < y) → (x ≤ j ∧ j < y) → (x ≤ k ∧ k < y) → Hp X S (D b d js :: C q [.int .i64 s] :: F) → Ok (J72_j1_1_1_1_1_1_0_1_0_1 (evF E orcL (n + 5)) (n + 5) (some (.rw b, 0)) l c (some (.rw q, 0)) i j k S) fun v S' => ∃ (r : Nat) (t : Int), v = .tup [.int .i64 r, .int .i64 t] ∧ x ≤ r ∧ r < y ∧ Hp X S' (D b d js :: F) := by
    intro S i j k s hi hj hk h
    simp only [J72_j1_1_1_1_1_1_0_1_0_1, b72_j1_1_1_1_1_1_0_1_0_1]
    obtain ⟨v, S1, e, r, rfl, hr1, hr2, s1, h1⟩ := med_ok (n + 1) (c := c) (lo := x) (hi := y) hi hj hk hy hld h rfl rfl rfl
    rw [callI_of e]
    exact fin S1 r s1 hr1 hr2 h1
  refine ok_true (by simp; omega) ?_
  refine ok_cond (fun hc => ?_) (fun _ => mid S1 _ _ _ 0 ⟨by omega, by omega⟩ ⟨by omega, by omega⟩ ⟨by omega, by omega⟩ h1)
  simp only [ge_iff_le, decide_eq_true_eq] at hc
  obtain ⟨v, S2, e, i, rfl, hi1, hi2, s2, h2⟩ := adj_ok n (c := c) (x := x + (y - x) / 4) (lo := x) (hi := y) ⟨by omega, by omega⟩ hy hl2 hld h1 rfl
  rw [callI_of e]
  obtain ⟨v, S3, e, j, rfl, hj1, hj2, s3, h3⟩ := adj_ok n (c := c) (x := x + (y - x) / 4 * 2) (lo := x) (hi := y) ⟨by omega, by omega⟩ hy hl2 hld h2 rfl
  rw [callI_of e]
  obtain ⟨v, S4, e, k, rfl, hk1, hk2, s4, h4⟩ := adj_ok n (c := c) (x := x + (y - x) / 4 * 3) (lo := x) (hi := y) ⟨by omega, by omega⟩ hy hl2 hld h3 rfl
  rw [callI_of e]
  exact mid S4 i j k s4 ⟨hi1, hi2⟩ ⟨hj1, hj2⟩ ⟨hk1, hk2⟩ h4

theorem ixStr_of {t : List UInt8} {L : Nat} {v : UInt8} {β : Type} {K : Int → Option β} (h : t[L]? = some v) : ixStr t L K = K (v.toNat : Nat) := by
  simp only [ixStr, Int.natCast_nonneg, if_true, Int.toNat_natCast, h]

theorem len64_ok (n : Nat) {L : Nat} (hL : L < 256) : ∃ k : Nat, evF E orcL (n + 1) (.fn 79) [.int .u64 L] S = some (.int .i64 k, S) ∧ k ≤ 8 ∧ (1 ≤ L → 2 ^ k ≤ 2 * L) := by
  rw [F79 _ _ _ (oL rfl)]
  simp only [J79, b79_entry]
  have e1 : decide ((L : Int) ≥ 4294967296) = false := by simp; omega
  have e2 : decide ((L : Int) ≥ 65536) = false := by simp; omega
  have e3 : decide ((L : Int) ≥ 256) = false := by simp; omega
  have e8 : IntKind.wrap .u8 (L : Int) = (L : Int) := by simp [IntKind.wrap, IntKind.bits, IntKind.signed]; omega
  simp only [e1, e2, e3, e8, cond_false]
  have key : ∀ (t : List UInt8), (∀ i : Fin 256, ∃ v, t[i.val]? = some v ∧ v.toNat ≤ 8 ∧ (1 ≤ i.val → 2 ^ v.toNat ≤ 2 * i.val)) → ∃ k : Nat, (ixStr t (L : Int) fun v => some (AV.int .i64 (IntKind.wrap .i64 (0 + IntKind.wrap .i64 v)), S)) = some (.int .i64 k, S) ∧ k ≤ 8 ∧ (1 ≤ L → 2 ^ k ≤ 2 * L) := by
    intro t ht
    obtain ⟨v, h1, h2, h3⟩ := ht ⟨L, hL⟩
    rw [ixStr_of h1]
    refine ⟨v.toNat, ?_, h2, h3⟩
    rw [wn (n := v.toNat) rfl (by omega), wn (n := v.toNat) (by omega) (by omega)]
  refine key _ ?_
  have dec : ∀ (t : List UInt8), ((List.range 256).all fun i => match t[i]? with | some v => Nat.ble v.toNat 8 && (Nat.beq i 0 || Nat.ble (2 ^ v.toNat) (2 * i)) | none => false) = true → ∀ i : Fin 256, ∃ v, t[i.val]? = some v ∧ v.toNat ≤ 8 ∧ (1 ≤ i.val → 2 ^ v.toNat ≤ 2 * i.val) := by
    intro t ht i
    have h1 := List.all_eq_true.1 ht i.val (List.mem_range.2 i.isLt)
    cases hv : t[i.val]? with
    | none => rw [hv] at h1; cases h1
    | some v =>
      rw [hv] at h1
      simp only [Bool.and_eq_true, Bool.or_eq_true] at h1
      refine ⟨v, rfl, Nat.le_of_ble_eq_true h1.1, fun h0 => ?_⟩
      rcases h1.2 with h2 | h2
      · have := Nat.eq_of_beq_eq_true h2; omega
      · exact Nat.le_of_ble_eq_true h2
  exact dec _ (by decide +kernel)

theorem len_ok (n : Nat) {L : Nat} (hL : L < 256) : ∃ k : Nat, evF E orcL (n + 2) (.fn 64) [.int .u64 L] S = some (.int .i64 k, S) ∧ k ≤ 8 ∧ (1 ≤ L → 2 ^ k ≤ 2 * L) := by
  obtain ⟨k, e, h1, h2⟩ := len64_ok (S := S) n hL
  refine ⟨k, ?_, h1, h2⟩
  rw [F64 _ _ _ (oL rfl)]
  simp only [J64, b64_entry]
  rw [callI_of e]

theorem wu {n : Int} (h0 : 0 ≤ n) (h1 : n < 18446744073709551616) : IntKind.wrap .u64 n = n := by
  simp only [IntKind.wrap, IntKind.bits, IntKind.signed]
  simp
  omega

theorem pow2_ok (n : Nat) {L : Nat} (h1 : 1 ≤ L) (hL : L < 256) : ∃ M : Nat, evF E orcL (n + 3) (.fn 81) [.int .i64 L] S = some (.int .u64 M, S) ∧ 1 ≤ M ∧ M ≤ 2 * L := by
  obtain ⟨k, e, h2, h3⟩ := len_ok (S := S) n hL
  refine ⟨2 ^ k, ?_, Nat.one_le_two_pow, h3 h1⟩
  rw [F81 _ _ _ (oL rfl)]
  simp only [J81, b81_entry]
  rw [wu (n := (L : Int)) (by omega) (by omega), callI_of e]
  have hk : 2 ^ k ≤ 2 * L := h3 h1
  have hs : shlI .u64 1 (k : Int) = ((2 ^ k : Nat) : Int) := by
    simp only [shlI, IntKind.bits, Int.toNat_natCast]
    rw [Nat.min_eq_left (by omega), Int.one_mul]
    have : ((2 : Int) ^ k) = ((2 ^ k : Nat) : Int) := by simp
    rw [this]
    exact wu (Int.natCast_nonneg _) (Int.ofNat_lt.2 (show 2 ^ k < 18446744073709551616 by omega))
  rw [hs, nneg, if_neg (by omega)]

theorem next_ok (n : Nat) (h : Hp X S (D b d js :: C q [.int .u64 s] :: F)) :
    Ok (evF E orcL (n + 1) (.fn 82) [.ptr (some (.rw q, 0))] S) fun v S' => ∃ r : Int, v = .int .u64 r ∧ Hp X S' (D b d js :: C q [.int .u64 r] :: F) := by
  rw [F82 _ _ _ (oL rfl)]
  simp only [J82, b82_entry]
  refine ok_gO (ok_ldI h rfl (ok_gO (ok_ldI h rfl (ok_gO ?_))))
  refine ok_stn h (by simp) (d := [_]) (by simp [splice]; rfl) (fun S1 h1 => ?_)
  refine ok_gO (ok_ldI h1 rfl (ok_gO (ok_ldI h1 rfl (ok_gO ?_))))
  refine ok_stn h1 (by simp) (d := [_]) (by simp [splice]; rfl) (fun S2 h2 => ?_)
  refine ok_gO (ok_ldI h2 rfl (ok_gO (ok_ldI h2 rfl (ok_gO ?_))))
  refine ok_stn h2 (by simp) (d := [_]) (by simp [splice]; rfl) (fun S3 h3 => ?_)
  exact ok_gO (ok_ldI h3 rfl (ok_ret ⟨_, rfl, h3⟩))

theorem andI_le (r : Int) {M : Nat} (hM : M < 1000000) : ∃ k : Nat, andI .u64 r (M : Int) = k ∧ k ≤ M := by
  refine ⟨(BitVec.ofInt 64 r &&& BitVec.ofInt 64 (M : Int)).toNat, ?_, ?_⟩
  · simp only [andI, IntKind.bits]
    have := (BitVec.ofInt 64 r &&& BitVec.ofInt 64 (M : Int)).isLt
    rw [wu (by omega) (by omega)]
    rfl
  · rw [BitVec.toNat_and]
    have e : (BitVec.ofInt 64 (M : Int)).toNat = M := by
      simp only [BitVec.toNat_ofInt]
      omega
    rw [e]
    exact Nat.and_le_right

end

end Go.Al

namespace Go.Al
open Go.Gr

section
variable {X : Cx} {S : AS} {F : List Ent} {b l q : Nat} {c : Cap} {d d0 : List Int} {js : List AV} {Q : AV → AS → Prop} {s : Int}

section
variable {n n0 x y i t : Nat} {O : Option Pos → Nat → Cap → Int → Int → AV → Int → Int → AS → Option (AV × AS)}

end

/-- What the sort does behind its choice of a pivot. -/
def pdqT (call : CallA) (L : Option Pos → Nat → Cap → Int → Int → Int → Bool → Bool → AS → Option (AV × AS)) (a : Option Pos) (l : Nat) (c : Cap) (w1 w2 w3 : Int) (w8 w9 : Bool) (pv : Int) (S : AS) : Option (AV × AS) :=
  cond (decide (w1 > 0)) (
  ixSl 1 a l (IntKind.wrap .i64 (w1 - 1)) fun p15 =>
  ldI .i64 S p15.1 p15.2 fun v16 =>
  ixSl 1 a l pv fun p17 =>
  ldI .i64 S p17.1 p17.2 fun v18 =>
  callB call 75 [(.int .i64 v16), (.int .i64 v18)] S fun v20 S19 =>
  cond (!v20) (
  callI .i64 call 76 [(.sl a l c), (.int .i64 w1), (.int .i64 w2), (.int .i64 pv)] S19 fun v22 S21 =>
  L a l c v22 w2 w3 w8 w9 S21) (
  callT call 77 [(.sl a l c), (.int .i64 w1), (.int .i64 w2), (.int .i64 pv)] S19 fun v24 S23 =>
  atI .i64 v24 0 fun v25 =>
  atB v24 1 fun v26 =>
  cond (decide ((IntKind.wrap .i64 (v25 - w1)) < (IntKind.wrap .i64 (w2 - v25)))) (
  callT call 63 [(.sl a l c), (.int .i64 w1), (.int .i64 v25), (.int .i64 w3)] S23 fun v28 S27 =>
  L a l c (IntKind.wrap .i64 (v25 + 1)) w2 w3 (decide ((IntKind.wrap .i64 (v25 - w1)) ≥ (IntKind.wrap .i64 (Int.tdiv (IntKind.wrap .i64 (w2 - w1)) 8)))) v26 S27) (
  callT call 63 [(.sl a l c), (.int .i64 (IntKind.wrap .i64 (v25 + 1))), (.int .i64 w2), (.int .i64 w3)] S23 fun v30 S29 =>
  L a l c w1 v25 w3 (decide ((IntKind.wrap .i64 (w2 - v25)) ≥ (IntKind.wrap .i64 (Int.tdiv (IntKind.wrap .i64 (w2 - w1)) 8)))) v26 S29))) (
  callT call 77 [(.sl a l c), (.int .i64 w1), (.int .i64 w2), (.int .i64 pv)] S fun v32 S31 =>
  atI .i64 v32 0 fun v33 =>
  atB v32 1 fun v34 =>
  cond (decide ((IntKind.wrap .i64 (v33 - w1)) < (IntKind.wrap .i64 (w2 - v33)))) (
  callT call 63 [(.sl a l c), (.int .i64 w1), (.int .i64 v33), (.int .i64 w3)] S31 fun v36 S35 =>
  L a l c (IntKind.wrap .i64 (v33 + 1)) w2 w3 (decide ((IntKind.wrap .i64 (v33 - w1)) ≥ (IntKind.wrap .i64 (Int.tdiv (IntKind.wrap .i64 (w2 - w1)) 8)))) v34 S35) (
  callT call 63 [(.sl a l c), (.int .i64 (IntKind.wrap .i64 (v33 + 1))), (.int .i64 w2), (.int .i64 w3)] S31 fun v38 S37 =>
  L a l c w1 v33 w3 (decide ((IntKind.wrap .i64 (w2 - v33)) ≥ (IntKind.wrap .i64 (Int.tdiv (IntKind.wrap .i64 (w2 - w1)) 8)))) v34 S37))

end

end Go.Al
