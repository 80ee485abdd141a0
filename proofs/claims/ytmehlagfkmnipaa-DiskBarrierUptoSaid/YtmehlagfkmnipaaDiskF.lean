/- What New does, and what the law's own functions do; the law DiskFull by the evaluator. -/
import Derived.Test.YtmehlagfkmnipaaDiskC
set_option linter.unusedVariables false
set_option linter.unusedSimpArgs false
set_option maxRecDepth 4000
namespace Go.Dk
open Go.Gr

theorem live_eq (n : Nat) (S : AS) : ev (n + 1) (.fn 10) [] S = some (.bool true, S) := by
  simp only [ev, evF, orcL]
  rfl

section
variable {X : Cx} {S : AS} {L F : List Ent} {b : Nat} {D : DM}

theorem zeros_flat (n : Nat) (z : List AV) : (List.replicate n z).flatten = zeros n z := rfl
theorem zeros_one (n : Nat) (v : AV) : zeros n [v] = List.replicate n v := by
  induction n with
  | zero => rfl
  | succ n ih => rw [List.replicate_succ, ← ih]; simp [zeros, List.replicate_succ]

/-- A new disk. -/
def DM.new (sectors size : Nat) : DM := { size, secs := List.replicate sectors ⟨List.replicate size 0, 0⟩, q := [], off := false, writes := 0 }

theorem ofBytes_zeros (n : Nat) : ofBytes (List.replicate n 0) = List.replicate n (.int .u8 0) := by simp [ofBytes]

theorem new_ok (n : Nat) (h : Hp X S L) (k s : Nat) (h1 : 1 ≤ k) (h2 : k ≤ 65536) (h3 : 8 ≤ s) (h4 : s ≤ 512) :
    Ok (ev (n + 1) (.fn 11) [.int .i64 k, .int .i64 s] S) fun v S' => ∃ b L', v = .tup [.ptr (some (.rw b, 0)), .int .i64 0] ∧ Disk b (DM.new k s) L' ∧ Hp X S' (L' ++ L) := by
  rw [ev, F11 _ _ _ _ (oL rfl)]
  simp only [J11, b11_entry]
  refine ok_false (by simp; omega) ?_
  refine ok_false (by simp; omega) ?_
  refine ok_false (by simp; omega) ?_
  refine ok_false (by simp; omega) ?_
  refine ok_mkSl (l := k) (c := k) rfl rfl (Nat.le_refl _) (by simp [pow46]; omega) (by simp [pow46]; omega) ?_
  refine ok_newA h (fun b1 S2 h => ?_)
  refine ok_newA h (fun b5 S6 h => ?_)
  have hwf : (DM.new k s).WF := by
    refine ⟨h3, h4, by simpa [DM.new] using h1, by simpa [DM.new] using h2, ?_, ?_, by simp [DM.new]⟩
    · intro x hx
      simp only [DM.new] at hx
      rw [List.eq_of_mem_replicate hx]; simp [DM.new]
    · intro w hw; simp [DM.new] at hw
  have e1 : ((DM.new k s).secs.map encSec).flatten = zeros k (List.replicate 512 (AV.int .u8 0 : AV) ++ [AV.int .i64 0]) := by
    simp only [DM.new, List.map_replicate, zeros, encSec, List.length_replicate, ofBytes_zeros]
    congr 2
    rw [← List.append_assoc, List.replicate_append_replicate]
    congr 2; omega
  refine ok_ret ⟨b5, C b5 (hdr (DM.new k s) (some (.rw b1, 0)) k (.ex k) none 0 (.ex 0)) :: ([C b1 ((DM.new k s).secs.map encSec).flatten] ++ []), rfl, ⟨_, _, _, _, _, _, _, _, ⟨hwf, .of hwf.enc (by simp [DM.new]) (.inl rfl), .nil⟩, rfl⟩, ?_⟩
  rw [e1]
  exact h

theorem full_loop (n0 : Nat) (call : CallA) (N : Nat) (hN : N < 9223372036854775807) (v : Int) (cp : Cap) (b : Nat) : ∀ (m i : Nat) (S : AS), i ≤ N → N - i < m → Hp X S (C b (List.replicate i (.int .u8 v) ++ List.replicate (N - i) (.int .u8 0)) :: F) →
    Ok (J14_l1_1_0_1_0 call n0 m v (some (.rw b, 0)) N cp i S) fun w S' => w = .sl (some (.rw b, 0)) N cp ∧ Hp X S' (C b (List.replicate N (.int .u8 v)) :: F)
  | 0, i, S, hi, hm, h => by omega
  | m + 1, i, S, hi, hm, h => by
    rw [J14_l1_1_0_1_0_succ]
    simp only [b14_l1_1_0_1_0]
    refine ok_cond (fun hc => ?_) (fun hc => ?_)
    · simp only [decide_eq_true_eq] at hc
      have hlt : i < N := by omega
      refine ok_ixSl (k := i) rfl hlt ?_
      refine ok_stn h (by simp; omega) (d := List.replicate (i + 1) (.int .u8 v) ++ List.replicate (N - (i + 1)) (.int .u8 0)) ?_ (fun S6 h => ?_)
      · obtain ⟨r, hr⟩ : ∃ r, N - i = r + 1 := ⟨N - i - 1, by omega⟩
        rw [hr, show N - (i + 1) = r by omega, List.replicate_succ (n := r), List.replicate_succ' (n := i)]
        simp only [splice, Nat.zero_add, Nat.mul_one, List.length_singleton]
        rw [List.take_left' (by simp), List.append_cons, List.drop_left' (by simp)]
        simp
      rw [wrap64 (by omega) (by omega)]
      exact full_loop n0 call N hN v cp b m (i + 1) S6 hlt (by omega) h
    · simp only [decide_eq_false_iff_not] at hc
      have : i = N := by omega
      subst this
      refine ok_ret ⟨rfl, by simpa using h⟩

theorem full_ok (n : Nat) (h : Hp X S L) (k : Nat) (hk : k < n) (hk2 : k ≤ 65536) (c : UInt8) :
    Ok (ev (n + 1) (.fn 14) [.int .i64 k, .int .u8 (c.toNat : Nat)] S) fun v S' => ∃ a l cp L', v = .sl a l cp ∧ SlR a l cp 1 (bxs (List.replicate k c)) L' ∧ Hp X S' (L' ++ L) := by
  rw [ev, F14 _ _ _ _ (oL rfl)]
  simp only [J14, b14_entry]
  refine ok_mkSl (l := k) (c := k) rfl rfl (Nat.le_refl _) (by simp [pow46]; omega) (by simp [pow46]; omega) ?_
  refine ok_newA h (fun b1 S2 h => ?_)
  rw [zeros_one] at h
  refine (full_loop n (evF E orcL n) k (by omega) c.toNat (.ex k) b1 n 0 S2 (by omega) (by omega) (by simpa using h)).mono ?_
  rintro v S' ⟨rfl, h⟩
  refine ⟨_, _, _, [C b1 (bxs (List.replicate k c)).flatten], rfl, .of (bxs_all _) (by simp) (.inl rfl), ?_⟩
  rw [bxs_flat]
  simpa [ofBytes] using h
end

/-- What has been written behind so many rounds. -/
def wrote (i : Nat) : List (Nat × List UInt8) := (List.range i).map fun j => (j % 2, List.replicate 8 (UInt8.ofNat j))

def DFull (i : Nat) : DM := { DM.new 2 8 with q := wrote i }

theorem DFull_wf {i : Nat} (hi : i ≤ 4096) : (DFull i).WF := by
  refine ⟨by simp [DFull, DM.new], by simp [DFull, DM.new], by simp [DFull, DM.new], by simp [DFull, DM.new], ?_, ?_, by simpa [DFull, wrote] using hi⟩
  · intro x hx
    simp only [DFull, DM.new] at hx
    rw [List.eq_of_mem_replicate hx]; simp [DFull, DM.new]
  · intro w hw
    simp only [DFull, wrote, List.mem_map] at hw
    obtain ⟨j, _, rfl⟩ := hw
    simp [DFull, DM.new]
    omega

theorem DFull_succ {i : Nat} (hi : i < 4096) : (DFull i).writeE ((i % 2 : Nat) : Int) (List.replicate 8 (UInt8.ofNat i)) = 0 ∧ (DFull i).write ((i % 2 : Nat) : Int) (List.replicate 8 (UInt8.ofNat i)) = DFull (i + 1) := by
  have h0 : (DFull i).writeE ((i % 2 : Nat) : Int) (List.replicate 8 (UInt8.ofNat i)) = 0 := by
    have : ((i % 2 : Nat) : Int) < 2 := by omega
    rw [DM.writeE, if_neg (by simp [DM.inn, DFull, DM.new]; omega), if_neg (by simp [DFull, DM.new]), if_neg (by simp [DFull, DM.new]), if_neg (by simp [DFull, wrote]; omega)]
  refine ⟨h0, ?_⟩
  rw [DM.write, if_pos h0]
  simp only [DFull, wrote, List.range_succ, List.map_append, List.map_cons, List.map_nil, Int.toNat_natCast]

theorem DFull_full (at_ : Nat) (h : at_ < 2) (c : UInt8) : (DFull 4096).writeE (at_ : Int) (List.replicate 8 c) = 6 ∧ (DFull 4096).write (at_ : Int) (List.replicate 8 c) = DFull 4096 := by
  have h0 : (DFull 4096).writeE (at_ : Int) (List.replicate 8 c) = 6 := by
    rw [DM.writeE, if_neg (by simp [DM.inn, DFull, DM.new]; omega), if_neg (by simp [DFull, DM.new]), if_neg (by simp [DFull, DM.new]), if_pos (by simp [DFull, wrote])]
  exact ⟨h0, by rw [DM.write, if_neg (by rw [h0]; decide)]⟩

theorem settles_writes : ∀ (ws : List (Nat × List UInt8)) (D : DM), 0 ≤ D.writes → D.writes + ws.length < 9223372036854775807 → (D.settles ws).writes = D.writes + ws.length
  | [], D, _, _ => by simp [DM.settles]
  | w :: ws, D, h0, h => by
    simp only [List.length_cons] at h
    have e : (D.settle w).writes = D.writes + 1 := by simp only [DM.settle]; exact wrap64 (by omega) (by omega)
    have := settles_writes ws (D.settle w) (by omega) (by rw [e]; omega)
    rw [show D.settles (w :: ws) = (D.settle w).settles ws from rfl, this, e, List.length_cons]
    omega

theorem DFull_q (i : Nat) : (DFull i).q = wrote i ∧ (DFull i).off = false ∧ (DFull i).writes = 0 ∧ (DFull i).size = 8 ∧ (DFull i).secs.length = 2 ∧ (wrote i).length = i := ⟨rfl, rfl, rfl, rfl, rfl, by simp [wrote]⟩

theorem DFull_flush (i : Nat) : (DFull i).flush = { (DFull i).settles (wrote i) with q := [] } := by
  obtain ⟨h1, h2, _⟩ := DFull_q i
  rw [DM.flush, if_neg (by rw [h2]; decide), h1]

theorem DFull_writes (i : Nat) (hi : i ≤ 4096) : (DFull i).flush.writes = i := by
  obtain ⟨h1, h2, h3, h4, h5, h6⟩ := DFull_q i
  have h := settles_writes (wrote i) (DFull i) (by rw [h3]; decide) (by rw [h3, h6]; omega)
  rw [DFull_flush]
  simp only [h, h3, h6]
  omega

theorem DFull_again (i : Nat) (hi : i ≤ 4096) : (DFull i).flush.writeE 0 (List.replicate 8 1) = 0 := by
  obtain ⟨h1, h2, h3, h4, h5, h6⟩ := DFull_q i
  obtain ⟨_, g1, g2, g3, _⟩ := DM.settles_wf (sa := none) (ws := (DFull i).q) (DFull_wf hi) (DFull_wf hi).q
  rw [h1] at g1 g2 g3
  rw [DFull_flush, DM.writeE, if_neg (by simp [DM.inn, g3, h5]), if_neg (by simp [g1, h4]), if_neg (by simp [g2, h2]), if_neg (by simp)]

theorem lastOf_hit {at_ : Int} {q : List (Nat × List UInt8)} {k : Nat} {w : Nat × List UInt8} (h : q[k]? = some w) (e : (w.1 : Int) = at_) : lastOf at_ q (k + 1) = some w.2 := by
  simp [lastOf, h, e]

theorem DFull_read (i : Nat) : (DFull (i + 1)).read ((i % 2 : Nat) : Int) = (List.replicate 8 (UInt8.ofNat i), 0) := by
  obtain ⟨h1, h2, h3, h4, h5, h6⟩ := DFull_q (i + 1)
  have hq : (wrote (i + 1))[i]? = some (i % 2, List.replicate 8 (UInt8.ofNat i)) := by
    rw [wrote, List.getElem?_map, List.getElem?_range (by omega)]; rfl
  rw [DM.read, if_neg (by simp [DM.inn, h5]; omega), if_neg (by rw [h2]; decide), h1, h6, lastOf_hit hq rfl]

theorem wrap_u8 (i : Nat) : IntKind.wrap .u8 (i : Int) = ((UInt8.ofNat i).toNat : Nat) := by
  simp only [IntKind.wrap, IntKind.bits, IntKind.signed]
  simp

section
variable {X : Cx} {S : AS} {L F : List Ent} {b : Nat} {D : DM}

/-- The law's loop. -/
theorem dfull_loop (n n0 : Nat) (hn : 70000 < n) (more : Nat) (hm3 : more ≤ 3) (z : Bool) (b : Nat) : ∀ (m i : Nat) (S : AS) (L : List Ent), i ≤ 4096 + more → 4096 + more - i < m → Disk b (DFull (min i 4096)) L → Hp X S (L ++ F) →
    Ok (J3_l1_1_1_1_0_1_0 (ev (n + 3)) n0 m more z (some (.rw b, 0)) i S) fun v S' => v = .bool true
  | 0, i, S, L, hi, hm, hd, h => by omega
  | m + 1, i, S, L, hi, hm, hd, h => by
    rw [J3_l1_1_1_1_0_1_0_succ]
    simp only [b3_l1_1_1_1_0_1_0]
    rw [wrap64 (n := 4096 + (more : Int)) (by omega) (by omega)]
    refine ok_cond (fun hc => ?_) (fun hc => ?_)
    · simp only [decide_eq_true_eq] at hc
      have hlt : i < 4096 + more := by omega
      rw [wrap_u8]
      obtain ⟨v, S11, e, a, l, cp, L1, rfl, hs, h1⟩ := full_ok (n + 2) h 8 (by omega) (by omega) (UInt8.ofNat i)
      rw [show ((8 : Nat) : Int) = 8 from rfl] at e
      rw [callL_of e]
      have h2 := h1.re (M := L ++ (L1 ++ F)) (by intro p; simp only [List.countP_append]; omega)
      obtain ⟨hr, hl⟩ := hs.bytes (X := X) (M := L ++ (L1 ++ F)) (by intro e he; simp [he])
      have e2 : (i : Int).tmod 2 = ((i % 2 : Nat) : Int) := by
        rw [Int.tmod_eq_emod_of_nonneg (by omega)]; omega
      rw [e2]
      obtain ⟨v, S13, e, rfl, L', hd', h3⟩ := write_ok (n + 1) h2 hd ((i % 2 : Nat) : Int) hr hl
      rw [callI_of e, callI_of (num_eq (n + 2) _ S13)]
      have h4 := h3.re (M := L1 ++ (L' ++ F)) (by intro p; simp only [List.countP_append]; omega)
      rw [wrap64 (n := (i : Int) + 1) (by omega) (by omega)]
      by_cases h5 : i < 4096
      · have hmin : min i 4096 = i := by omega
        rw [hmin] at hd' ⊢
        obtain ⟨q1, q2⟩ := DFull_succ h5
        rw [q1]
        rw [q2] at hd'
        refine ok_false (by simp; omega) (ok_false rfl ?_)
        exact dfull_loop n n0 hn more hm3 z b m (i + 1) S13 L' (by omega) (by omega) (by rw [show min (i + 1) 4096 = i + 1 by omega]; exact hd') h4.right
      · have hmin : min i 4096 = 4096 := by omega
        rw [hmin] at hd' ⊢
        obtain ⟨q1, q2⟩ := DFull_full (i % 2) (by omega) (UInt8.ofNat i)
        rw [q1]
        rw [q2] at hd'
        refine ok_false (by simp; omega) (ok_true rfl (ok_false rfl ?_))
        exact dfull_loop n n0 hn more hm3 z b m (i + 1) S13 L' (by omega) (by omega) (by rw [show min (i + 1) 4096 = 4096 by omega]; exact hd') h4.right
    · simp only [decide_eq_false_iff_not] at hc
      obtain ⟨N, hN⟩ : ∃ N, N = 4095 := ⟨_, rfl⟩
      have hN1 : min i 4096 = N + 1 := by omega
      rw [hN1] at hd
      have h2 := read_ok n (by omega) h hd 1
      have hrd := DFull_read N
      rw [show ((N % 2 : Nat) : Int) = 1 by omega, show UInt8.ofNat N = 255 by rw [hN]; rfl] at hrd
      obtain ⟨g1, g2, g3, g4, g5, g6⟩ := DFull_q (N + 1)
      rw [hrd] at h2
      obtain ⟨v, S17, e, xa, xl, xc, L1, rfl, hs1, h3⟩ := h2
      rw [callT_of e]
      simp only [atL, atI, List.getElem?_cons_zero, List.getElem?_cons_succ, gL, gIk, if_true]
      have h4 := h3.re (M := L ++ (L1 ++ F)) (by intro p; simp only [List.countP_append]; omega)
      obtain ⟨v, S21, e, qa, ql, qc, L2, rfl, hs2, h5⟩ := queue_ok (n + 1) h4 hd
      rw [callL_of e]
      have hql : ql = 4096 := by have := hs2.len; rw [List.length_map, g1, g6] at this; omega
      refine ok_true (by rw [hql]; rfl) ?_
      obtain ⟨hr1, hl1⟩ := hs1.bytes (X := X) (M := L2 ++ (L ++ (L1 ++ F))) (by intro e he; simp [he])
      rw [bytesStr_of hr1 h5 hl1]
      obtain ⟨v, S24, e, ya, yl, yc, L3, rfl, hs3, h6⟩ := full_ok (n + 2) h5 8 (by omega) (by omega) 255
      rw [callL_of (show ev (n + 3) _ [.int .i64 8, .int .u8 255] S21 = _ from e)]
      rw [bytesStr_of (hr1.mono (by intro e he; simp only [List.mem_append] at he ⊢; exact .inr he)) h6 hl1]
      refine ok_true (by simp [AV.beq]) ?_
      obtain ⟨hr3, hl3⟩ := hs3.bytes (X := X) (M := L3 ++ (L2 ++ (L ++ (L1 ++ F)))) (by intro e he; simp [he])
      rw [bytesStr_of hr3 h6 hl3]
      refine ok_true (by simp) ?_
      have h7 := h6.re (M := L ++ (L3 ++ (L2 ++ (L1 ++ F)))) (by intro p; simp only [List.countP_append]; omega)
      obtain ⟨v, S28, e, rfl, L4, hd4, h8⟩ := flush_ok (n + 1) (by omega) h7 hd
      have hfe : (DFull (N + 1)).flushE = 0 := by rw [DM.flushE, if_neg (by rw [g2]; decide)]
      rw [hfe] at e
      rw [callI_of e, callI_of (num_eq (n + 2) _ S28)]
      refine ok_true rfl ?_
      rw [callI_of (writes_eq (n + 2) h8 hd4)]
      refine ok_true (by rw [DFull_writes _ (by omega), hN]; rfl) ?_
      obtain ⟨v, S34, e, za, zl, zc, L5, rfl, hs5, h9⟩ := full_ok (n + 2) h8 8 (by omega) (by omega) 1
      rw [callL_of (show ev (n + 3) _ [.int .i64 8, .int .u8 1] S28 = _ from e)]
      have h10 := h9.re (M := L4 ++ (L5 ++ (L3 ++ (L2 ++ (L1 ++ F))))) (by intro p; simp only [List.countP_append]; omega)
      obtain ⟨hr5, hl5⟩ := hs5.bytes (X := X) (M := L4 ++ (L5 ++ (L3 ++ (L2 ++ (L1 ++ F))))) (by intro e he; simp [he])
      obtain ⟨v, S36, e, rfl, L6, hd6, h11⟩ := write_ok (n + 1) h10 hd4 0 hr5 hl5
      rw [DFull_again _ (by omega)] at e
      rw [callI_of e, callI_of (num_eq (n + 2) _ S36)]
      refine ok_true rfl ?_
      rw [callB_of (live_eq (n + 2) S36)]
      exact ok_ret rfl

theorem disk_full (n : Nat) (hn : 70000 < n) (more : Int) (h : Hp X S []) : Ok (ev (n + 4) (.fn 3) [.int .i64 more] S) fun v S' => v = .bool true := by
  rw [ev, F3 _ _ _ (oL rfl)]
  simp only [J3, b3_entry]
  refine ok_cond (fun hc => ?_) (fun hc => ?_)
  · rw [callB_of (live_eq (n + 2) S)]; exact ok_ret rfl
  refine ok_cond (fun hc2 => ?_) (fun hc2 => ?_)
  · rw [callB_of (live_eq (n + 2) S)]; exact ok_ret rfl
  simp only [decide_eq_false_iff_not] at hc hc2
  obtain ⟨k, rfl⟩ : ∃ k : Nat, more = k := ⟨more.toNat, by omega⟩
  obtain ⟨v, S5, e, b, L, rfl, hd, h1⟩ := new_ok (n + 2) h 2 8 (by omega) (by omega) (by omega) (by omega)
  rw [callT_of (show ev (n + 3) _ [.int .i64 2, .int .i64 8] S = _ from e)]
  simp only [atP, atI, List.getElem?_cons_zero, List.getElem?_cons_succ, gP, gIk, if_true]
  rw [callI_of (num_eq (n + 2) _ S5)]
  refine ok_false rfl (ok_false rfl ?_)
  exact dfull_loop n (n + 3) hn k (by omega) false b (n + 3) 0 S5 L (by omega) (by omega) hd h1
end

end Go.Dk
