/- What the functions of package disk do with a heap: turned bits, crashes, copies, comparisons. -/
import Derived.Test.YtmehlagfkmnipaaDiskD
set_option linter.unusedVariables false
set_option linter.unusedSimpArgs false
set_option maxRecDepth 4000
namespace Go.Dk
open Go.Gr

/- ---- bits -/

theorem bv32 (a : Nat) (h : a < 4294967296) : (BitVec.ofInt 32 (a : Int)).toNat = a := by
  simp; omega
theorem wrap32 {n : Int} (h0 : 0 ≤ n) (h1 : n < 4294967296) : IntKind.wrap .u32 n = n := by
  simp only [IntKind.wrap, IntKind.bits, IntKind.signed]
  simp
  omega
theorem shrI32 (a i : Nat) (hi : i ≤ 32) : shrI .u32 (a : Int) (i : Int) = ((a >>> i : Nat) : Int) := by
  simp only [shrI, IntKind.bits, Int.toNat_natCast, Nat.min_eq_left hi]
  rw [Nat.shiftRight_eq_div_pow, Int.fdiv_eq_ediv_of_nonneg _ (Int.pow_nonneg (by decide)), Int.natCast_ediv, Int.natCast_pow]
  rfl
theorem andI32 (a b : Nat) (ha : a < 4294967296) (hb : b < 4294967296) : andI .u32 (a : Int) (b : Int) = ((a &&& b : Nat) : Int) := by
  have h : a &&& b < 4294967296 := Nat.lt_of_le_of_lt Nat.and_le_left ha
  show IntKind.wrap .u32 (((BitVec.ofInt 32 (a : Int) &&& BitVec.ofInt 32 (b : Int)).toNat : Nat) : Int) = _
  rw [BitVec.toNat_and, bv32 a ha, bv32 b hb, wrap32 (by omega) (by omega)]
theorem bv8 (a : Nat) (h : a < 256) : (BitVec.ofInt 8 (a : Int)).toNat = a := by
  simp; omega
theorem wrapU8 {n : Int} (h0 : 0 ≤ n) (h1 : n < 256) : IntKind.wrap .u8 n = n := by
  simp only [IntKind.wrap, IntKind.bits, IntKind.signed]
  simp
  omega
theorem wrapU64 {n : Int} (h0 : 0 ≤ n) (h1 : n < 18446744073709551616) : IntKind.wrap .u64 n = n := by
  simp only [IntKind.wrap, IntKind.bits, IntKind.signed]
  simp
  omega
theorem xorI8 (a b : Nat) (ha : a < 256) (hb : b < 256) : xorI .u8 (a : Int) (b : Int) = ((a ^^^ b : Nat) : Int) := by
  have h : a ^^^ b < 2 ^ 8 := Nat.xor_lt_two_pow (by omega) (by omega)
  show IntKind.wrap .u8 (((BitVec.ofInt 8 (a : Int) ^^^ BitVec.ofInt 8 (b : Int)).toNat : Nat) : Int) = _
  rw [BitVec.toNat_xor, bv8 a ha, bv8 b hb, wrapU8 (by omega) (by omega)]
theorem shlI32 (i : Nat) (hi : i < 32) : shlI .u32 1 (i : Int) = ((2 ^ i : Nat) : Int) := by
  have h : 2 ^ i < 4294967296 := by
    exact Nat.lt_of_lt_of_le (Nat.pow_lt_pow_right (a := 2) (by decide) hi) (by decide)
  simp only [shlI, IntKind.bits, Int.toNat_natCast, Nat.min_eq_left (Nat.le_of_lt hi)]
  have e : ((2 : Int) ^ i) = ((2 ^ i : Nat) : Int) := by rw [Int.natCast_pow]; rfl
  rw [Int.one_mul, e, wrap32 (Int.natCast_nonneg _) (Int.ofNat_lt.2 h)]
theorem shlI8 (i : Nat) (hi : i < 8) : shlI .u8 1 (i : Int) = ((2 ^ i : Nat) : Int) := by
  have : i = 0 ∨ i = 1 ∨ i = 2 ∨ i = 3 ∨ i = 4 ∨ i = 5 ∨ i = 6 ∨ i = 7 := by omega
  rcases this with rfl | rfl | rfl | rfl | rfl | rfl | rfl | rfl <;> rfl
theorem flip8 (c : UInt8) (i : Nat) (hi : i < 8) : ((c ^^^ (1 <<< UInt8.ofNat i)).toNat) = c.toNat ^^^ 2 ^ i := by
  rw [UInt8.toNat_xor]
  congr 1
  have : i = 0 ∨ i = 1 ∨ i = 2 ∨ i = 3 ∨ i = 4 ∨ i = 5 ∨ i = 6 ∨ i = 7 := by omega
  rcases this with rfl | rfl | rfl | rfl | rfl | rfl | rfl | rfl <;> rfl
theorem flip_cell (c : UInt8) (i : Nat) (hi : i < 8) : xorI .u8 (c.toNat : Int) (shlI .u8 1 (i : Int)) = (((c ^^^ (1 <<< UInt8.ofNat i)).toNat : Nat) : Int) := by
  have hc : c.toNat < 256 := c.toNat_lt
  have hp : 2 ^ i < 256 := by
    exact Nat.lt_of_lt_of_le (Nat.pow_lt_pow_right (a := 2) (by decide) hi) (by decide)
  rw [shlI8 i hi, xorI8 _ _ hc hp, flip8 c i hi]
theorem mbit_eq (a i : Nat) (ha : a < 4294967296) (hi : i < 32) : (andI .u32 (shrI .u32 (a : Int) (i : Int)) 1 == 1) = a.testBit i := by
  have hlt : a >>> i < 4294967296 := by rw [Nat.shiftRight_eq_div_pow]; exact Nat.lt_of_le_of_lt (Nat.div_le_self _ _) ha
  rw [shrI32 a i (by omega), show (1 : Int) = ((1 : Nat) : Int) from rfl, andI32 _ _ hlt (by decide), Nat.and_one_is_mod, Nat.shiftRight_eq_div_pow, Nat.testBit_eq_decide_div_mod_eq]
  cases h : decide (a / 2 ^ i % 2 = 1) with
  | true => simp only [decide_eq_true_eq] at h; rw [h]; rfl
  | false =>
    simp only [decide_eq_false_iff_not] at h
    have : a / 2 ^ i % 2 = 0 := by omega
    rw [this]; rfl
theorem mask_bit (a n i : Nat) : (a &&& (2 ^ n - 1)).testBit i = (a.testBit i && decide (i < n)) := by
  rw [Nat.testBit_and, Nat.testBit_two_pow_sub_one]

/- ---- turned bits -/

/-- A bit turned. -/
def flipB (d : List UInt8) (j : Nat) : List UInt8 := d.set (j / 8) (d.getD (j / 8) 0 ^^^ (1 <<< UInt8.ofNat (j % 8)))
/-- The bits that a mask has up to a place, from a bit on. -/
def flips (d : List UInt8) (bit mk : Nat) : Nat → List UInt8
  | 0 => d
  | i + 1 => if mk.testBit i then flipB (flips d bit mk i) (bit + i) else flips d bit mk i
@[simp] theorem flipB_len (d : List UInt8) (j : Nat) : (flipB d j).length = d.length := by simp [flipB]
@[simp] theorem flips_len (d : List UInt8) (bit mk : Nat) : ∀ i, (flips d bit mk i).length = d.length
  | 0 => rfl
  | i + 1 => by
    have := flips_len d bit mk i
    simp only [flips]
    split <;> simp [this]

/-- The mask without the bits behind the sector's end. -/
def tmask (size bit mk : Nat) : Nat := if 8 * size - bit < 32 then mk &&& (2 ^ (8 * size - bit) - 1) else mk

theorem tmask_bit {size bit mk i : Nat} (hb : bit < 8 * size) (hi : i < 32) : (tmask size bit mk).testBit i = (mk.testBit i && decide (bit + i < 8 * size)) := by
  unfold tmask
  split
  · rw [mask_bit]
    congr 1
    apply decide_eq_decide.2
    omega
  · rw [show decide (bit + i < 8 * size) = true by simp; omega, Bool.and_true]
theorem tmask_lt {size bit mk : Nat} (h : mk < 4294967296) : tmask size bit mk < 4294967296 := by
  unfold tmask
  split
  · exact Nat.lt_of_le_of_lt Nat.and_le_left h
  · exact h

section
variable {X : Cx} {S : AS} {L F : List Ent} {b : Nat} {D : DM}

/-- A sector laid. -/
def DM.setS (D : DM) (k : Nat) (x : Sec) : DM := { D with secs := D.secs.set k x }

theorem setS_wf (hwf : D.WF) (k : Nat) (x : Sec) (hx : x.d.length = D.size) : (D.setS k x).WF := by
  refine ⟨hwf.lo, hwf.hi, by simpa [DM.setS] using hwf.n1, by simpa [DM.setS] using hwf.n2, ?_, by simpa [DM.setS] using hwf.q, hwf.ql⟩
  intro y hy
  rcases List.mem_or_eq_of_mem_set hy with hy | rfl
  · exact hwf.s y hy
  · exact hx

theorem setS_setS (D : DM) (k : Nat) (x y : Sec) : (D.setS k x).setS k y = D.setS k y := by simp [DM.setS]

theorem setS_cells (hwf : D.WF) {k : Nat} (hk : k < D.secs.length) {j : Nat} {x : Sec} (hx : D.secs[k]? = some x) {y : Sec} {v : AV} (hj : j < 513) (e : splice (encSec x) j [v] = encSec y) : splice (D.secs.map encSec).flatten (0 + k * 513 + j) [v] = ((D.setS k y).secs.map encSec).flatten := by
  rw [Nat.zero_add, flat_splice_in (j := j) hwf.enc (x := encSec x) (by simp [hx]) (by simp; omega), e, DM.setS, List.map_set]

theorem enc_get (x : Sec) {j : Nat} (hj : j < x.d.length) : (encSec x)[j]? = some (.int .u8 ((x.d.getD j 0).toNat : Nat)) := by
  simp only [encSec]
  rw [List.getElem?_append_left (by simpa using hj)]
  simp [ofBytes, hj]

theorem enc_set (x : Sec) {j : Nat} (hj : j < x.d.length) (c : UInt8) : splice (encSec x) j [.int .u8 (c.toNat : Nat)] = encSec { x with d := x.d.set j c } := by
  simp only [splice, encSec, List.length_set, List.length_singleton]
  rw [List.take_append_of_le_length (by simp; omega), List.drop_append_of_le_length (by simp; omega)]
  rw [← List.append_assoc, ← List.append_assoc]
  congr 1
  simp only [ofBytes, List.map_set]
  rw [List.set_eq_take_append_cons_drop, if_pos (by simpa using hj)]
  simp

theorem turn_loop (call : CallA) (n0 : Nat) {sa : Option Pos} {sl : Nat} {sc : Cap} {qa : Option Pos} {ql : Nat} {qc : Cap} {bs : Nat} {Lq : List Ent} {k bit mk : Nat} {d : List UInt8} (hmk : mk < 4294967296) (hbits : ∀ i, i < 32 → mk.testBit i = true → bit + i < 8 * D.size) (hd0 : d.length = D.size) (hbit : bit < 8 * D.size) (hsa : sa = some (.rw bs, 0)) (hsl : sl = D.secs.length) (hk : k < D.secs.length) (hwf : D.WF) : ∀ (m i : Nat) (S : AS), i ≤ 32 → 32 - i < m →
    Hp X S (C b (hdr D sa sl sc qa ql qc) :: ([C bs ((D.setS k ⟨flips d bit mk i, 2⟩).secs.map encSec).flatten] ++ Lq) ++ F) →
    Ok (J27_l1_1_1_1_1_1_1_1_0_1_0 call n0 m (some (.rw b, 0)) k bit mk i S) fun v S' => v = .int .i64 0 ∧ Hp X S' (C b (hdr D sa sl sc qa ql qc) :: ([C bs ((D.setS k ⟨flips d bit mk 32, 2⟩).secs.map encSec).flatten] ++ Lq) ++ F)
  | 0, i, S, hi, hm, h => by omega
  | m + 1, i, S, hi, hm, h => by
    have hhi := hwf.hi
    rw [J27_l1_1_1_1_1_1_1_1_0_1_0_succ]
    simp only [b27_l1_1_1_1_1_1_1_1_0_1_0, J27_j1_1_1_1_1_1_1_1_0_1_0_0_1_1_1, b27_j1_1_1_1_1_1_1_1_0_1_0_0_1_1_1]
    refine ok_cond (fun hc => ?_) (fun hc => ?_)
    · simp only [decide_eq_true_eq] at hc
      have hlt : i < 32 := by omega
      refine ok_nneg (by omega) ?_
      rw [mbit_eq mk i hmk hlt]
      have ew : IntKind.wrap .i64 ((i : Int) + 1) = ((i + 1 : Nat) : Int) := by rw [wrap64 (by omega) (by omega)]; rfl
      rw [ew]
      refine ok_cond (fun hc2 => ?_) (fun hc2 => ?_)
      · have hb := hbits i hlt hc2
        have eb : IntKind.wrap .i64 ((bit : Int) + (i : Int)) = ((bit + i : Nat) : Int) := by rw [wrap64 (by omega) (by omega)]; rfl
        have e8 : IntKind.wrap .i64 (Int.tdiv ((bit + i : Nat) : Int) 8) = (((bit + i) / 8 : Nat) : Int) := by
          rw [Int.tdiv_eq_ediv_of_nonneg (by omega), wrap64 (by omega) (by omega)]; omega
        have em : Int.tmod ((bit + i : Nat) : Int) 8 = (((bit + i) % 8 : Nat) : Int) := by
          rw [Int.tmod_eq_emod_of_nonneg (by omega)]; omega
        rw [eb, e8, em]
        have hj : (bit + i) / 8 < D.size := by omega
        have hw' : (D.setS k ⟨flips d bit mk i, 2⟩).WF := setS_wf hwf k _ (by simp [hd0])
        have hx' : (D.setS k ⟨flips d bit mk i, 2⟩).secs[k]? = some ⟨flips d bit mk i, 2⟩ := by simp [DM.setS, hk]
        have hk' : k < (D.setS k ⟨flips d bit mk i, 2⟩).secs.length := by simpa [DM.setS] using hk
        have hjd : (bit + i) / 8 < (flips d bit mk i).length := by simpa [hd0] using hj
        subst hsa hsl
        refine ok_gO (ok_ldL h rfl (ok_ixSl (k := k) rfl hk ?_))
        refine ok_ixArr (k := (bit + i) / 8) rfl (by omega) ?_
        refine ok_ldI h (n := (((flips d bit mk i).getD ((bit + i) / 8) 0).toNat : Nat)) ?_ ?_
        · rw [Nat.zero_add, Nat.mul_one, flat_get hw'.enc (x := encSec ⟨flips d bit mk i, 2⟩) (by simp [hx']) (by omega)]
          exact enc_get _ hjd
        refine ok_nneg (by omega) ?_
        refine ok_ixSl (k := k) rfl hk ?_
        refine ok_ixArr (k := (bit + i) / 8) rfl (by omega) ?_
        rw [flip_cell _ _ (Nat.mod_lt _ (by decide))]
        have es := enc_set ⟨flips d bit mk i, 2⟩ hjd ((flips d bit mk i).getD ((bit + i) / 8) 0 ^^^ (1 <<< UInt8.ofNat ((bit + i) % 8)))
        refine ok_stn h (by rw [Nat.mul_one]; exact stn_len hw' hk' (by omega)) (d := ((D.setS k ⟨flips d bit mk (i + 1), 2⟩).secs.map encSec).flatten) ?_ (fun S20 h => ?_)
        · rw [Nat.mul_one, setS_cells hw' hk' hx' (by omega) es, setS_setS]
          simp only [flips, hc2, if_true, flipB]
        exact turn_loop call n0 hmk hbits hd0 hbit rfl rfl hk hwf m (i + 1) S20 (by omega) (by omega) h
      · have e1 : flips d bit mk (i + 1) = flips d bit mk i := by simp [flips, hc2]
        exact turn_loop call n0 hmk hbits hd0 hbit hsa hsl hk hwf m (i + 1) S (by omega) (by omega) (by rw [e1]; exact h)
    · simp only [decide_eq_false_iff_not] at hc
      have : i = 32 := by omega
      subst this
      exact ok_ret ⟨rfl, h⟩

def DM.turnE (D : DM) (at_ bit : Int) (mk : Nat) : Int :=
  if D.inn at_ = false then 2 else if bit < 0 ∨ 8 * (D.size : Int) ≤ bit then 2 else if tmask D.size bit.toNat mk = 0 then 2 else D.hurts at_.toNat
def DM.turn (D : DM) (at_ bit : Int) (mk : Nat) : DM :=
  if D.turnE at_ bit mk = 0 then D.setS at_.toNat ⟨flips (D.stab at_) bit.toNat (tmask D.size bit.toNat mk) 32, 2⟩ else D

theorem turn_ok (n : Nat) (hn : 32 < n) (h : Hp X S (L ++ F)) (hd : Disk b D L) (at_ bit : Int) (mk : Nat) (hmk : mk < 4294967296) :
    Ok (ev (n + 2) (.fn 27) [.ptr (some (.rw b, 0)), .int .i64 at_, .int .i64 bit, .int .u32 mk] S) fun v S' => v = .int .i64 (D.turnE at_ bit mk) ∧ ∃ L', Disk b (D.turn at_ bit mk) L' ∧ Hp X S' (L' ++ F) := by
  have hin := in_eq n h hd at_
  have hd0 := hd
  rw [ev, F27 _ _ _ _ _ _ (oL rfl)]
  simp only [J27, b27_entry]
  refine ok_false rfl ?_
  rw [callB_of hin]
  have same : ∀ e, D.turnE at_ bit mk = e → e ≠ 0 → Ok (some (.int .i64 e, S)) fun v S' => v = .int .i64 (D.turnE at_ bit mk) ∧ ∃ L', Disk b (D.turn at_ bit mk) L' ∧ Hp X S' (L' ++ F) := fun e he h0 =>
    ok_ret ⟨by rw [he], L, by rw [DM.turn, if_neg (by rw [he]; exact h0)]; exact hd0, h⟩
  refine ok_cond (fun hc => same 2 ?_ (by decide)) (fun hc => ?_)
  · simp only [Bool.not_eq_true'] at hc
    rw [DM.turnE, if_pos hc]
  simp only [Bool.not_eq_false'] at hc
  refine ok_cond (fun hc2 => same 2 ?_ (by decide)) (fun hc2 => ?_)
  · simp only [decide_eq_true_eq] at hc2
    rw [DM.turnE, if_neg (by rw [hc]; decide), if_pos (.inl hc2)]
  simp only [decide_eq_false_iff_not] at hc2
  obtain ⟨sa, sl, sc, qa, ql, qc, Ls, Lq, hR, rfl⟩ := hd
  have hwf := hR.wf
  have hhi := hwf.hi
  refine ok_gO (ok_ldI h rfl ?_)
  have e8 : IntKind.wrap .i64 (8 * (D.size : Int)) = 8 * (D.size : Int) := wrap64 (by omega) (by omega)
  rw [e8]
  refine ok_cond (fun hc3 => same 2 ?_ (by decide)) (fun hc3 => ?_)
  · simp only [ge_iff_le, decide_eq_true_eq] at hc3
    rw [DM.turnE, if_neg (by rw [hc]; decide), if_pos (.inr hc3)]
  simp only [ge_iff_le, decide_eq_false_iff_not] at hc3
  obtain ⟨bt, rfl⟩ : ∃ bt : Nat, bit = bt := ⟨bit.toNat, by omega⟩
  have hbit : bt < 8 * D.size := by omega
  refine ok_gO (ok_ldI h rfl ?_)
  rw [e8]
  have en : IntKind.wrap .i64 (8 * (D.size : Int) - (bt : Int)) = ((8 * D.size - bt : Nat) : Int) := by rw [wrap64 (by omega) (by omega)]; omega
  rw [en]
  obtain ⟨k, rfl, hk⟩ := inn_nat hc
  obtain ⟨x, hx⟩ := sec_at hk
  have hst : D.stab k = x.d := by rw [DM.stab, if_neg (by rw [hc]; decide)]; simp [hx]
  -- behind the mask
  have rest : ∀ M : Nat, M = tmask D.size bt mk → Ok (J27_j1_1_1_1 (ev (n + 1)) (n + 1) (some (.rw b, 0)) k bt M S) fun v S' => v = .int .i64 (D.turnE k bt mk) ∧ ∃ L', Disk b (D.turn k bt mk) L' ∧ Hp X S' (L' ++ F) := by
    intro M hM
    have hMl : M < 4294967296 := by rw [hM]; exact tmask_lt hmk
    simp only [J27_j1_1_1_1, b27_j1_1_1_1]
    refine ok_cond (fun hc4 => same 2 ?_ (by decide)) (fun hc4 => ?_)
    · simp only [beq_iff_eq] at hc4
      rw [DM.turnE, if_neg (by rw [hc]; decide), if_neg (by omega), if_pos (by rw [Int.toNat_natCast, ← hM]; omega)]
    simp only [beq_eq_false_iff_ne] at hc4
    have hE : D.turnE k bt mk = D.hurts k := by
      rw [DM.turnE, if_neg (by rw [hc]; decide), if_neg (by omega), if_neg (by rw [Int.toNat_natCast, ← hM]; omega)]; rfl
    rw [callI_of (hurts_eq n h hd0 k hk)]
    refine ok_cond (fun hc5 => same _ hE (by simpa using hc5)) (fun hc5 => ?_)
    simp only [bne_eq_false_iff_eq] at hc5
    obtain ⟨bs, rfl, rfl, hsc, rfl⟩ := hR.secs
    refine ok_gO (ok_ldL h rfl (ok_ixSl (k := k) rfl hk ?_))
    have hsec : D.setH k 2 = D.setS k ⟨x.d, 2⟩ := by
      simp only [DM.setH, DM.setS]
      congr 1
      apply List.ext_getElem?
      intro i
      obtain ⟨hk1, hk2⟩ := List.getElem?_eq_some_iff.1 hx
      by_cases hik : k = i
      · subst hik; simp [List.getElem?_modify, hk1, hk2]
      · simp [List.getElem?_modify, hik]
    refine ok_stn h (stn_len hwf hk (by decide)) (setH_cells hwf hx 2) (fun S12 h => ?_)
    rw [hsec] at h
    have hxd : x.d.length = D.size := hwf.s x (List.mem_of_getElem? hx)
    refine (turn_loop (ev (n + 1)) (n + 1) (d := x.d) hMl (fun i hi ht => ?_) hxd hbit rfl rfl hk hwf (n + 1) 0 S12 (by omega) (by omega) h).mono ?_
    · rw [hM, tmask_bit hbit hi] at ht
      simp only [Bool.and_eq_true, decide_eq_true_eq] at ht
      exact ht.2
    · rintro v S' ⟨rfl, h⟩
      refine ⟨by rw [hE, hc5], ?_⟩
      rw [DM.turn, if_pos (by rw [hE]; exact hc5), hst, Int.toNat_natCast, Int.toNat_natCast, ← hM]
      have hw := setS_wf hwf k ⟨flips x.d bt M 32, 2⟩ (by simp [hxd])
      exact ⟨_, ⟨_, _, _, _, _, _, _, _, ⟨hw, .of hw.enc (by simp [DM.setS]) hsc, hR.hq⟩, rfl⟩, h⟩
  refine ok_cond (fun hc6 => ?_) (fun hc6 => ?_)
  · simp only [decide_eq_true_eq] at hc6
    have hlt : 8 * D.size - bt < 32 := by omega
    refine ok_nneg (by omega) ?_
    rw [shlI32 _ hlt]
    have hp : 2 ^ (8 * D.size - bt) < 4294967296 := Nat.lt_of_lt_of_le (Nat.pow_lt_pow_right (a := 2) (by decide) hlt) (by decide)
    have hp0 : 0 < 2 ^ (8 * D.size - bt) := Nat.pow_pos (by decide)
    have e1 : IntKind.wrap .u32 (((2 ^ (8 * D.size - bt) : Nat) : Int) - 1) = ((2 ^ (8 * D.size - bt) - 1 : Nat) : Int) := by
      generalize 2 ^ (8 * D.size - bt) = p at hp hp0 ⊢
      rw [wrap32 (by omega) (by omega)]; omega
    rw [e1, andI32 _ _ hmk (by omega)]
    exact rest _ (by rw [tmask, if_pos hlt])
  · simp only [decide_eq_false_iff_not] at hc6
    exact rest _ (by rw [tmask, if_neg (by omega)])
end

end Go.Dk
