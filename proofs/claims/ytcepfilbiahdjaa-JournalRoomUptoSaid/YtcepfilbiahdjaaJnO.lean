/- Numbers in bytes, the highest byte first: laid, read, there and back. -/
import Derived.Test.YtcepfilbiahdjaaGrSep3
set_option linter.unusedVariables false
set_option linter.unusedSimpArgs false
namespace Go.Jn
open Go.Gr

/-- A number in so many bytes, the highest first. -/
def be : Nat → Nat → List UInt8
  | 0, _ => []
  | m + 1, x => UInt8.ofNat (x / 256 ^ m) :: be m x
/-- The number of bytes, behind a number. -/
def vlF (n : Nat) (s : List UInt8) : Nat := s.foldl (fun n c => n * 256 + c.toNat) n
def vl (s : List UInt8) : Nat := vlF 0 s

@[simp] theorem be_len (m x : Nat) : (be m x).length = m := by
  induction m with
  | zero => rfl
  | succ m ih => simp [be, ih]
theorem vlF_cons (n : Nat) (c : UInt8) (s : List UInt8) : vlF n (c :: s) = vlF (n * 256 + c.toNat) s := rfl
theorem vlF_at (n : Nat) (s : List UInt8) : vlF n s = n * 256 ^ s.length + vl s := by
  induction s generalizing n with
  | nil => simp [vlF, vl]
  | cons c s ih =>
    rw [vl, vlF_cons, vlF_cons, ih, ih (0 * 256 + c.toNat), List.length_cons, Nat.pow_succ, Nat.zero_mul, Nat.zero_add, Nat.add_mul, Nat.add_assoc, Nat.mul_assoc, Nat.mul_comm 256]
theorem vl_cons (c : UInt8) (s : List UInt8) : vl (c :: s) = c.toNat * 256 ^ s.length + vl s := by
  rw [vl, vlF_cons, vlF_at]; simp
theorem vl_lt (s : List UInt8) : vl s < 256 ^ s.length := by
  induction s with
  | nil => simp [vl, vlF]
  | cons c s ih =>
    have h : c.toNat < 256 := by simpa using c.toNat_lt
    rw [vl_cons, List.length_cons, Nat.pow_succ]
    have h2 := Nat.mul_le_mul_right (256 ^ s.length) (show c.toNat + 1 ≤ 256 by omega)
    rw [Nat.add_mul, Nat.one_mul, Nat.mul_comm 256] at h2
    omega
theorem vl_snoc (s : List UInt8) (c : UInt8) : vl (s ++ [c]) = vl s * 256 + c.toNat := by
  rw [vl, vlF, List.foldl_append]; rfl
theorem toNat_of (n : Nat) : (UInt8.ofNat n).toNat = n % 256 := by simp
theorem vl_be (m x : Nat) : vl (be m x) = x % 256 ^ m := by
  induction m with
  | zero => simp [be, vl, vlF, Nat.mod_one]
  | succ m ih =>
    rw [be, vl_cons, ih, be_len, toNat_of, Nat.pow_succ, Nat.mod_mul, Nat.mul_comm, Nat.add_comm]
theorem be_mod (m x k : Nat) (hk : m ≤ k) : be m (x % 256 ^ k) = be m x := by
  induction m with
  | zero => rfl
  | succ m ih =>
    rw [be, be, ih (by omega)]
    congr 1
    apply UInt8.toNat.inj
    rw [toNat_of, toNat_of]
    have e : 256 ^ k = 256 ^ m * 256 * 256 ^ (k - m - 1) := by
      rw [← Nat.pow_succ, ← Nat.pow_add]; congr 1; omega
    rw [e, Nat.mul_assoc, Nat.mod_mul_right_div_self, Nat.mod_mul_right_mod]
theorem be_vl (s : List UInt8) : be s.length (vl s) = s := by
  induction s with
  | nil => rfl
  | cons c s ih =>
    have h := vl_lt s
    rw [List.length_cons, be, vl_cons]
    have e1 : (c.toNat * 256 ^ s.length + vl s) / 256 ^ s.length = c.toNat := by
      rw [Nat.mul_comm, Nat.mul_add_div (Nat.pow_pos (by decide)), Nat.div_eq_of_lt h]; simp
    have e2 : be s.length (c.toNat * 256 ^ s.length + vl s) = be s.length (vl s) := by
      rw [← be_mod s.length (c.toNat * 256 ^ s.length + vl s) s.length (Nat.le_refl _), Nat.mul_comm, Nat.mul_add_mod, be_mod _ _ _ (Nat.le_refl _)]
    rw [e1, e2, ih]
    congr 1
    apply UInt8.toNat.inj
    have : c.toNat < 256 := by simpa using c.toNat_lt
    rw [toNat_of, Nat.mod_eq_of_lt this]
theorem vl_be_lt {m x : Nat} (h : x < 256 ^ m) : vl (be m x) = x := by rw [vl_be, Nat.mod_eq_of_lt h]
theorem be_inj {m x y : Nat} (hx : x < 256 ^ m) (hy : y < 256 ^ m) (h : be m x = be m y) : x = y := by
  rw [← vl_be_lt hx, h, vl_be_lt hy]
theorem be_top {k i x : Nat} (h : i < k) : UInt8.ofNat (x / 256 ^ (k - (i + 1))) :: be (k - (i + 1)) x = be (k - i) x := by
  rw [show k - i = (k - (i + 1)) + 1 by omega, be]

/-- A window of bytes. -/
def win8 (s : List UInt8) (i n : Nat) : List UInt8 := (s.drop i).take n
theorem win8_len {s : List UInt8} {i n : Nat} (h : i + n ≤ s.length) : (win8 s i n).length = n := by simp [win8]; omega
theorem win8_app1 {s t : List UInt8} {i n : Nat} (h : i + n ≤ s.length) : win8 (s ++ t) i n = win8 s i n := by
  rw [win8, List.drop_append_of_le_length (by omega), List.take_append_of_le_length (by simp; omega), win8]
theorem win8_app2 {s t : List UInt8} {i n : Nat} (h : s.length ≤ i) : win8 (s ++ t) i n = win8 t (i - s.length) n := by
  rw [win8, List.drop_append, List.drop_eq_nil_of_le h, List.nil_append, win8]
theorem win8_all {s : List UInt8} {n : Nat} (h : s.length = n) : win8 s 0 n = s := by
  rw [win8, List.drop_zero, ← h, List.take_length]

end Go.Jn
