/- What the functions of package disk do with a heap: injuries, failing, copies. -/
import Derived.Test.YtmehlagfkmnipaaDiskC
set_option linter.unusedVariables false
set_option linter.unusedSimpArgs false
set_option maxRecDepth 4000
namespace Go.Dk
open Go.Gr

section
variable {X : Cx} {S : AS} {L F : List Ent} {b : Nat} {D : DM}

theorem failed_eq (n : Nat) (h : Hp X S (L ++ F)) (hd : Disk b D L) : ev (n + 1) (.fn 31) [.ptr (some (.rw b, 0))] S = some (.bool D.off, S) := by
  obtain ⟨sa, sl, sc, qa, ql, qc, Ls, Lq, hr, rfl⟩ := hd
  apply ok_eq
  rw [ev, F31 _ _ _ (oL rfl)]
  simp only [J31, b31_entry]
  exact ok_true rfl (ok_gO (ok_ldB h rfl (ok_ret ⟨rfl, rfl⟩)))

theorem sectors_eq (n : Nat) (h : Hp X S (L ++ F)) (hd : Disk b D L) : ev (n + 1) (.fn 39) [.ptr (some (.rw b, 0))] S = some (.int .i64 D.secs.length, S) := by
  obtain ⟨sa, sl, sc, qa, ql, qc, Ls, Lq, hr, rfl⟩ := hd
  apply ok_eq
  rw [ev, F39 _ _ _ (oL rfl)]
  simp only [J39, b39_entry]
  refine ok_false rfl (ok_gO (ok_ldL h rfl (ok_ret ⟨?_, rfl⟩)))
  rw [hr.sl_eq]

theorem inn_nat {at_ : Int} (h : D.inn at_ = true) : ∃ k : Nat, at_ = k ∧ k < D.secs.length := by
  simp only [DM.inn, Bool.and_eq_true, decide_eq_true_eq] at h
  exact ⟨at_.toNat, by omega, by omega⟩

theorem sec_at {k : Nat} (h : k < D.secs.length) : ∃ x, D.secs[k]? = some x := ⟨D.secs[k], by simp [h]⟩

/-- Where a sector's injury is read. -/
theorem hurt_cell (hwf : D.WF) {k : Nat} {x : Sec} (hx : D.secs[k]? = some x) : (D.secs.map encSec).flatten[0 + k * 513 + 512]? = some (.int .i64 x.h) := by
  have hxm : x ∈ D.secs := List.mem_of_getElem? hx
  rw [Nat.zero_add, flat_get hwf.enc (x := encSec x) (by simp [hx]) (by decide)]
  have hl := hwf.s x hxm
  have hi := hwf.hi
  simp only [encSec]
  rw [List.getElem?_append_right (by simp; omega), List.getElem?_append_right (by simp)]
  simp

def DM.stab (D : DM) (at_ : Int) : List UInt8 := if D.inn at_ = false then [] else ((D.secs[at_.toNat]?).map (·.d)).getD []

theorem stable_ok (n : Nat) (h : Hp X S (L ++ F)) (hd : Disk b D L) (at_ : Int) :
    Ok (ev (n + 2) (.fn 25) [.ptr (some (.rw b, 0)), .int .i64 at_] S) fun v S' => ∃ a l c L', v = .tup [.sl a l c, .bool (D.inn at_)] ∧ SlR a l c 1 (bxs (D.stab at_)) L' ∧ Hp X S' (L' ++ (L ++ F)) := by
  have hin := in_eq n h hd at_
  obtain ⟨sa, sl, sc, qa, ql, qc, Ls, Lq, hR, rfl⟩ := hd
  have hwf := hR.wf
  rw [ev, F25 _ _ _ _ (oL rfl)]
  simp only [J25, b25_entry]
  refine ok_false rfl ?_
  rw [callB_of hin]
  refine ok_cond (fun hc => ?_) (fun hc => ?_)
  · simp only [Bool.not_eq_true'] at hc
    exact ok_ret ⟨none, 0, .ex 0, [], by rw [hc], by rw [DM.stab, if_pos hc]; exact .nil, h⟩
  simp only [Bool.not_eq_false'] at hc
  obtain ⟨k, rfl, hk⟩ := inn_nat hc
  obtain ⟨x, hx⟩ := sec_at hk
  obtain ⟨bs, rfl, rfl, hsc, rfl⟩ := hR.secs
  refine ok_gO (ok_ldL h rfl (ok_ixSl (k := k) rfl hk (ok_gO (ok_ldI h rfl ?_))))
  rw [slArr_pre (by decide) hwf.hi rfl]
  obtain ⟨v, S45, e, a, l, c, L', rfl, hs, h⟩ := clone_sec (bs := bs) n hwf h k hx (c := .ex 512)
  rw [Nat.zero_add, callL_of e]
  exact ok_ret ⟨a, l, c, L', by rw [hc], by rw [DM.stab, if_neg (by rw [hc]; decide)]; simpa [hx] using hs, h⟩

/-- Numbers as elements of one cell. -/
def ixs (l : List Int) : List (List AV) := l.map fun i => [.int .i64 i]
theorem ixs_all (l : List Int) : ∀ x ∈ ixs l, x.length = 1 := by
  intro x hx
  obtain ⟨y, _, rfl⟩ := List.mem_map.1 hx
  rfl
@[simp] theorem ixs_len (l : List Int) : (ixs l).length = l.length := by simp [ixs]

def DM.hurtAt (D : DM) (i : Nat) : Int := ((D.secs[i]?).map (·.h)).getD 0
/-- The sectors up to a place that are injured. -/
def DM.injTo (D : DM) : Nat → List Int
  | 0 => []
  | i + 1 => if D.hurtAt i ≠ 0 then D.injTo i ++ [(i : Int)] else D.injTo i
def DM.injured (D : DM) : List Int := D.injTo D.secs.length
theorem DM.injTo_len (D : DM) : ∀ i, (D.injTo i).length ≤ i
  | 0 => Nat.le_refl _
  | i + 1 => by
    have := DM.injTo_len D i
    simp only [DM.injTo]
    split
    · simp; omega
    · omega

theorem inj_loop (call : CallA) (n0 : Nat) {sa : Option Pos} {sl : Nat} {sc : Cap} {qa : Option Pos} {ql : Nat} {qc : Cap} {Ls Lq : List Ent} (hR : DiskR b D sa sl sc qa ql qc Ls Lq) : ∀ (m i : Nat) (S : AS) (a : Option Pos) (l : Nat) (c : Cap) (L1 : List Ent), i ≤ D.secs.length → D.secs.length - i < m → SlR a l c 1 (ixs (D.injTo i)) L1 → Hp X S (L1 ++ (C b (hdr D sa sl sc qa ql qc) :: (Ls ++ Lq) ++ F)) →
    Ok (J23_l1_1_0_1_0 call n0 m (some (.rw b, 0)) a l c (D.secs.length : Nat) i S) fun v S' => ∃ a l c L', v = .sl a l c ∧ SlR a l c 1 (ixs D.injured) L' ∧ Hp X S' (L' ++ (C b (hdr D sa sl sc qa ql qc) :: (Ls ++ Lq) ++ F))
  | 0, i, S, a, l, c, L1, hi, hm, hs, h => by omega
  | m + 1, i, S, a, l, c, L1, hi, hm, hs, h => by
    have hwf := hR.wf
    have hn2 := hwf.n2
    have hR' := hR
    rw [J23_l1_1_0_1_0_succ]
    simp only [b23_l1_1_0_1_0, J23_j1_1_0_1_0_0_1_1_1, b23_j1_1_0_1_0_0_1_1_1]
    refine ok_cond (fun hc => ?_) (fun hc => ?_)
    · simp only [decide_eq_true_eq] at hc
      have hlt : i < D.secs.length := by omega
      obtain ⟨x, hx⟩ := sec_at hlt
      obtain ⟨bs, rfl, rfl, hsc, rfl⟩ := hR.secs
      refine ok_gO (ok_ldL h rfl (ok_ixSl (k := i) rfl hlt ?_))
      refine ok_ldI h (hurt_cell hwf hx) ?_
      have hh : D.hurtAt i = x.h := by simp [DM.hurtAt, hx]
      rw [wrap64 (n := (i : Int) + 1) (by omega) (by omega)]
      refine ok_cond (fun hc2 => ?_) (fun hc2 => ?_)
      · simp only [bne_iff_ne, ne_eq] at hc2
        refine ok_newA h (fun b7 S8 h => ?_)
        have h' := h.re (M := L1 ++ (C b7 [.int .i64 i] :: (C b (hdr D (some (.rw bs, 0)) D.secs.length sc qa ql qc) :: ([C bs (D.secs.map encSec).flatten] ++ Lq) ++ F))) (by intro p; simp only [List.countP_append, List.countP_cons, List.cons_append, C]; omega)
        have hle := DM.injTo_len D i
        refine ok_append h' hs (ys := [[.int .i64 i]]) (by simp) rfl (fun K => ?_) (by decide) (by simp [pow46]; omega) (by simp [pow46]; omega) (fun a l c S3 L2 hs' h3 => ?_)
        · have := RdR.first (.rw (X := X) (b := b7) (i := 0) (c := [.int .i64 i]) (cs := [.int .i64 i]) (L := (b7, some (AObj.cells [AV.int IntKind.i64 (i : Int)])) :: (L1 ++ (C b (hdr D (some (.rw bs, 0)) D.secs.length sc qa ql qc) :: ([C bs (D.secs.map encSec).flatten] ++ Lq) ++ F))) List.mem_cons_self (by simp) rfl) h (sz := 1) (n := 1) rfl (by decide) (l := 1) (c := .ex 1) K
          simpa using this
        · have e1 : ixs (D.injTo i) ++ [[.int .i64 (i : Int)]] = ixs (D.injTo (i + 1)) := by
            rw [DM.injTo, if_pos (by rw [hh]; exact hc2)]
            simp [ixs]
          rw [e1] at hs'
          exact inj_loop call n0 hR' m (i + 1) S3 a l c L2 hlt (by omega) hs' (h3.sub (List.Sublist.append (List.Sublist.refl _) (List.sublist_cons_self _ _)))
      · simp only [bne_eq_false_iff_eq] at hc2
        have e1 : ixs (D.injTo i) = ixs (D.injTo (i + 1)) := by rw [DM.injTo, if_neg (by rw [hh, hc2]; simp)]
        rw [e1] at hs
        exact inj_loop call n0 hR' m (i + 1) S a l c L1 hlt (by omega) hs h
    · simp only [decide_eq_false_iff_not] at hc
      have : i = D.secs.length := by omega
      subst this
      exact ok_ret ⟨a, l, c, L1, rfl, hs, h⟩

theorem injured_ok (n : Nat) (hn : 65536 < n) (h : Hp X S (L ++ F)) (hd : Disk b D L) :
    Ok (ev (n + 1) (.fn 23) [.ptr (some (.rw b, 0))] S) fun v S' => ∃ a l c L', v = .sl a l c ∧ SlR a l c 1 (ixs D.injured) L' ∧ Hp X S' (L' ++ (L ++ F)) := by
  obtain ⟨sa, sl, sc, qa, ql, qc, Ls, Lq, hR, rfl⟩ := hd
  rw [ev, F23 _ _ _ (oL rfl)]
  simp only [J23, b23_entry]
  refine ok_false rfl (ok_gO (ok_ldL h rfl ?_))
  have := hR.sl_eq
  subst this
  exact inj_loop _ n hR n 0 S none 0 (.ex 0) [] (Nat.zero_le _) (by have := hR.wf.n2; omega) .nil h

def DM.fail (D : DM) : DM := { D with off := true, q := [] }

theorem fail_ok (n : Nat) (h : Hp X S (L ++ F)) (hd : Disk b D L) :
    Ok (ev (n + 1) (.fn 36) [.ptr (some (.rw b, 0))] S) fun v S' => v = .tup [] ∧ ∃ L', Disk b D.fail L' ∧ Hp X S' (L' ++ F) := by
  obtain ⟨sa, sl, sc, qa, ql, qc, Ls, Lq, hR, rfl⟩ := hd
  have hwf := hR.wf
  rw [ev, F36 _ _ _ (oL rfl)]
  simp only [J36, b36_entry]
  refine ok_true rfl (ok_gO (ok_stn h (by simp [hdr]) (d := hdr { D with off := true } sa sl sc qa ql qc) (by simp [hdr, splice]) (fun S2 h => ?_)))
  refine ok_gO (ok_stn h (by simp [hdr]) (d := hdr D.fail sa sl sc none 0 (.ex 0)) (by simp [hdr, splice, DM.fail]) (fun S4 h => ?_))
  refine ok_ret ⟨rfl, C b (hdr D.fail sa sl sc none 0 (.ex 0)) :: (Ls ++ []), ⟨sa, sl, sc, none, 0, .ex 0, Ls, [], ⟨⟨hwf.lo, hwf.hi, hwf.n1, hwf.n2, hwf.s, by simp [DM.fail], by simp [DM.fail]⟩, hR.hs, .nil⟩, rfl⟩, ?_⟩
  refine h.sub ?_
  simp only [List.append_nil, List.cons_append]
  exact (List.Sublist.append (List.sublist_append_left _ _) (List.Sublist.refl _)).cons_cons _

def DM.replace (D : DM) : DM := { D with off := false, q := [], secs := List.replicate D.secs.length ⟨List.replicate D.size 0, 0⟩ }

theorem zsecs (k s : Nat) (h4 : s ≤ 512) : ((List.replicate k (⟨List.replicate s 0, 0⟩ : Sec)).map encSec).flatten = zeros k (List.replicate 512 (AV.int .u8 0 : AV) ++ [AV.int .i64 0]) := by
  have e : ofBytes (List.replicate s 0) = List.replicate s (.int .u8 0) := by simp [ofBytes]
  simp only [List.map_replicate, zeros, encSec, List.length_replicate, e]
  congr 2
  rw [← List.append_assoc, List.replicate_append_replicate]
  congr 2; omega

theorem replace_ok (n : Nat) (h : Hp X S (L ++ F)) (hd : Disk b D L) :
    Ok (ev (n + 1) (.fn 37) [.ptr (some (.rw b, 0))] S) fun v S' => v = .tup [] ∧ ∃ L', Disk b D.replace L' ∧ Hp X S' (L' ++ F) := by
  obtain ⟨sa, sl, sc, qa, ql, qc, Ls, Lq, hR, rfl⟩ := hd
  have hwf := hR.wf
  have hn2 := hwf.n2
  have := hR.sl_eq
  subst this
  rw [ev, F37 _ _ _ (oL rfl)]
  simp only [J37, b37_entry]
  refine ok_true rfl ?_
  refine ok_drawA h [8] (by decide) (by decide) (fun b1 S2 h => ?_)
  simp only [List.map_cons, List.map_nil, List.cons_append, List.nil_append] at h
  refine ok_gO (ok_ldL h rfl ?_)
  refine ok_mkSl (l := D.secs.length) (c := D.secs.length) rfl rfl (Nat.le_refl _) (by simp [pow46]; omega) (by simp [pow46]; omega) ?_
  refine ok_gO (ok_stn h (by simp [hdr]) (d := hdr { D with off := false } sa D.secs.length sc qa ql qc) (by simp [hdr, splice]) (fun S8 h => ?_))
  refine ok_true (by simp [AV.beq]) ?_
  refine ok_gO (ok_stn h (by simp [hdr]) (d := hdr { D with off := false, q := [] } sa D.secs.length sc none 0 (.ex 0)) (by simp [hdr, splice]) (fun S10 h => ?_))
  refine ok_true (by simp [AV.beq]) ?_
  refine ok_gO (ok_layA h (fun S12 h => ?_))
  refine ok_stn h (by simp [hdr]) (d := hdr D.replace (some (.rw (b1 + 8), 0)) D.secs.length (.ex D.secs.length) none 0 (.ex 0)) (by simp [hdr, splice, DM.replace]) (fun S13 h => ?_)
  have hw : D.replace.WF := by
    refine ⟨hwf.lo, hwf.hi, by simpa [DM.replace] using hwf.n1, by simpa [DM.replace] using hwf.n2, ?_, by simp [DM.replace], by simp [DM.replace]⟩
    intro x hx
    simp only [DM.replace] at hx
    rw [List.eq_of_mem_replicate hx]; simp [DM.replace]
  refine ok_ret ⟨rfl, C b (hdr D.replace (some (.rw (b1 + 8), 0)) D.secs.length (.ex D.secs.length) none 0 (.ex 0)) :: ([C (b1 + 8) (D.replace.secs.map encSec).flatten] ++ []), ⟨_, _, _, _, _, _, _, _, ⟨hw, .of hw.enc (by simp [DM.replace]) (.inl rfl), .nil⟩, rfl⟩, ?_⟩
  rw [show D.replace.secs = List.replicate D.secs.length ⟨List.replicate D.size 0, 0⟩ from rfl, zsecs _ _ hwf.hi]
  refine (h.re (M := C b (hdr D.replace (some (.rw (b1 + 8), 0)) D.secs.length (.ex D.secs.length) none 0 (.ex 0)) :: C (b1 + 8) (zeros D.secs.length (List.replicate 512 (AV.int .u8 0 : AV) ++ [AV.int .i64 0])) :: ((Ls ++ Lq) ++ F)) (by intro p; simp only [List.countP_append, List.countP_cons, List.cons_append, C]; omega)).sub ?_
  exact ((List.sublist_append_right (Ls ++ Lq) F).cons_cons _).cons_cons _

def DM.hurts (D : DM) (k : Nat) : Int := if D.off = true then 41 else if D.hurtAt k ≠ 0 then 8 else 0

theorem hurts_eq (n : Nat) (h : Hp X S (L ++ F)) (hd : Disk b D L) (k : Nat) (hk : k < D.secs.length) : ev (n + 1) (.fn 48) [.ptr (some (.rw b, 0)), .int .i64 k] S = some (.int .i64 (D.hurts k), S) := by
  obtain ⟨sa, sl, sc, qa, ql, qc, Ls, Lq, hR, rfl⟩ := hd
  apply ok_eq
  rw [ev, F48 _ _ _ _ (oL rfl)]
  simp only [J48, b48_entry]
  refine ok_gO (ok_ldB h rfl (ok_cond (fun hc => ?_) (fun hc => ?_)))
  · exact ok_ret ⟨by simp [DM.hurts, hc], rfl⟩
  obtain ⟨x, hx⟩ := sec_at hk
  obtain ⟨bs, rfl, rfl, hsc, rfl⟩ := hR.secs
  refine ok_gO (ok_ldL h rfl (ok_ixSl (k := k) rfl hk ?_))
  refine ok_ldI h (hurt_cell hR.wf hx) ?_
  have hh : D.hurtAt k = x.h := by simp [DM.hurtAt, hx]
  refine ok_cond (fun hc2 => ?_) (fun hc2 => ?_)
  · simp only [bne_iff_ne, ne_eq] at hc2
    exact ok_ret ⟨by simp [DM.hurts, hc, hh, hc2], rfl⟩
  · simp only [bne_eq_false_iff_eq] at hc2
    exact ok_ret ⟨by simp [DM.hurts, hc, hh, hc2], rfl⟩

/-- A sector's injury set. -/
def DM.setH (D : DM) (k : Nat) (v : Int) : DM := { D with secs := D.secs.modify k fun x => { x with h := v } }

def DM.loseE (D : DM) (at_ : Int) : Int := if D.inn at_ = false then 2 else D.hurts at_.toNat
def DM.lose (D : DM) (at_ : Int) : DM := if D.loseE at_ = 0 then D.setH at_.toNat 1 else D

theorem setH_wf (hwf : D.WF) (k : Nat) (v : Int) : (D.setH k v).WF := by
  refine ⟨hwf.lo, hwf.hi, by simpa [DM.setH] using hwf.n1, by simpa [DM.setH] using hwf.n2, ?_, by simpa [DM.setH] using hwf.q, hwf.ql⟩
  intro x hx
  simp only [DM.setH] at hx
  obtain ⟨i, hi, he⟩ := List.getElem_of_mem hx
  rw [List.getElem_modify] at he
  have hi' : i < D.secs.length := by simpa using hi
  have hx' : x.d = (D.secs[i]).d := by
    split at he
    · rw [← he]
    · rw [← he]
  rw [hx']
  exact hwf.s _ (List.getElem_mem hi')

theorem setH_cells (hwf : D.WF) {k : Nat} {x : Sec} (hx : D.secs[k]? = some x) (v : Int) : splice (D.secs.map encSec).flatten (0 + k * 513 + 512) [.int .i64 v] = ((D.setH k v).secs.map encSec).flatten := by
  have hxm : x ∈ D.secs := List.mem_of_getElem? hx
  have hl := hwf.s x hxm
  have hi := hwf.hi
  rw [Nat.zero_add, flat_splice_in (j := 512) hwf.enc (x := encSec x) (by simp [hx]) (by simp)]
  congr 1
  have e : splice (encSec x) 512 [.int .i64 v] = encSec { x with h := v } := by
    have h512 : (ofBytes x.d ++ List.replicate (512 - x.d.length) (AV.int .u8 0)).length = 512 := by simp; omega
    simp only [splice, encSec, ← List.append_assoc]
    rw [List.take_left' h512, List.drop_of_length_le (by rw [List.length_append, h512]; simp)]
    simp
  rw [e, DM.setH]
  apply List.ext_getElem?
  intro i
  simp only [List.getElem?_map, List.getElem?_set, List.getElem?_modify, List.length_map]
  obtain ⟨hk, hk2⟩ := List.getElem?_eq_some_iff.1 hx
  by_cases hik : k = i
  · subst hik; simp [hk, hk2]
  · simp [hik]

theorem stn_len (hwf : D.WF) {k j : Nat} (hk : k < D.secs.length) (hj : j < 513) : 0 + k * 513 + j + 1 ≤ (D.secs.map encSec).flatten.length := by
  rw [flat_len hwf.enc, List.length_map]
  have := Nat.mul_le_mul_right 513 (Nat.succ_le_of_lt hk)
  omega

theorem lose_ok (n : Nat) (h : Hp X S (L ++ F)) (hd : Disk b D L) (at_ : Int) :
    Ok (ev (n + 2) (.fn 29) [.ptr (some (.rw b, 0)), .int .i64 at_] S) fun v S' => v = .int .i64 (D.loseE at_) ∧ ∃ L', Disk b (D.lose at_) L' ∧ Hp X S' (L' ++ F) := by
  have hin := in_eq n h hd at_
  have hd0 := hd
  rw [ev, F29 _ _ _ _ (oL rfl)]
  simp only [J29, b29_entry]
  refine ok_false rfl ?_
  rw [callB_of hin]
  refine ok_cond (fun hc => ?_) (fun hc => ?_)
  · simp only [Bool.not_eq_true'] at hc
    have he : D.loseE at_ = 2 := by rw [DM.loseE, if_pos hc]
    exact ok_ret ⟨by rw [he], L, by rw [DM.lose, if_neg (by rw [he]; decide)]; exact hd, h⟩
  simp only [Bool.not_eq_false'] at hc
  obtain ⟨k, rfl, hk⟩ := inn_nat hc
  have he : D.loseE k = D.hurts k := by rw [DM.loseE, if_neg (by rw [hc]; decide)]; rfl
  rw [callI_of (hurts_eq n h hd k hk)]
  refine ok_cond (fun hc2 => ?_) (fun hc2 => ?_)
  · simp only [beq_iff_eq] at hc2
    obtain ⟨x, hx⟩ := sec_at hk
    obtain ⟨sa, sl, sc, qa, ql, qc, Ls, Lq, hR, rfl⟩ := hd
    have hwf := hR.wf
    obtain ⟨bs, rfl, rfl, hsc, rfl⟩ := hR.secs
    refine ok_gO (ok_ldL h rfl (ok_ixSl (k := k) rfl hk ?_))
    refine ok_stn h (stn_len hwf hk (by decide)) (setH_cells hwf hx 1) (fun S8 h => ?_)
    refine ok_ret ⟨by rw [he], ?_⟩
    rw [DM.lose, if_pos (by rw [he]; exact hc2)]
    have hw := setH_wf hwf k 1
    exact ⟨_, ⟨_, _, _, _, _, _, _, _, ⟨hw, .of hw.enc (by simp [DM.setH]) hsc, hR.hq⟩, rfl⟩, h⟩
  · simp only [beq_eq_false_iff_ne] at hc2
    exact ok_ret ⟨by rw [he], L, by rw [DM.lose, if_neg (by rw [he]; exact hc2)]; exact hd, h⟩
end

end Go.Dk
