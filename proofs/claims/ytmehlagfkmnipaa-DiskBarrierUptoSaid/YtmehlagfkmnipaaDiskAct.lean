/- What the law's own functions do with a heap: an act, a list of acts. -/
import Derived.Test.YtmehlagfkmnipaaDiskRef4
set_option linter.unusedVariables false
set_option linter.unusedSimpArgs false
set_option maxRecDepth 4000
namespace Go.Dk
open Go.Gr

/-- What is done with a disk. -/
structure Act where
  kind : Int
  at_ : Int
  bit : Int
  mask : Nat
  data : List UInt8
  keep : List Int

/-- An act as it is read. -/
def ActR (X : Cx) (x : Act) (cs : List AV) : Prop := ∃ da dc ka kc, cs = [.int .i64 x.kind, .int .i64 x.at_, .int .i64 x.bit, .int .u32 x.mask, .sl da x.data.length dc, .sl ka x.keep.length kc] ∧ RdR X [] da (ofBytes x.data) ∧ RdR X [] ka (ics x.keep) ∧ x.mask < 4294967296 ∧ -9223372036854775808 ≤ x.bit ∧ x.bit < 9223372036854775808

def DM.act (D : DM) (x : Act) : DM :=
  if x.kind = 1 then D.write x.at_ x.data else if x.kind = 2 then D.flush else if x.kind = 3 then D.crash x.keep else if x.kind = 4 then D.fail else if x.kind = 5 then D.replace else if x.kind = 6 then D.lose x.at_ else if x.kind = 7 then D.turn x.at_ x.bit x.mask else D

section
variable {X : Cx} {S : AS} {L F G : List Ent}

theorem SlR.empty {b : Nat} {sz : Nat} : SlR (some (.rw b, 0)) 0 (.ex 0) sz [] [C b []] := SlR.blk (xs := []) (fun x hx => by cases hx) (.inl rfl)

theorem spoil_loop (call : CallA) (n0 : Nat) {w0 : Option Pos} {w9 : Bool} {a : Option Pos} {l : Nat} {c : Cap} (hl : l < 9223372036854775807) : ∀ (m i : Nat) (S : AS) (xs : List (List AV)) (L7 : List Ent), i ≤ l → l - i < m → SlR a l c 1 xs L7 → Hp X S (L7 ++ G) →
    Ok (J34_l1_0_1_0_1_0_1_1_0_1_0 call n0 m w0 a l c w9 i S) fun v S' => v = .tup [.ptr w0, .bool w9] ∧ Hp X S' G
  | 0, i, S, xs, L7, hi, hm, hs, h => by omega
  | m + 1, i, S, xs, L7, hi, hm, hs, h => by
    rw [J34_l1_0_1_0_1_0_1_1_0_1_0_succ]
    simp only [b34_l1_0_1_0_1_0_1_1_0_1_0, J34_j1_0_1_0_1_0_1_1_1, b34_j1_0_1_0_1_0_1_1_1]
    refine ok_cond (fun hc => ?_) (fun hc => ok_ret ⟨rfl, h.right⟩)
    simp only [decide_eq_true_eq] at hc
    have hlt : i < l := by omega
    have ew : IntKind.wrap .i64 ((i : Int) + 1) = ((i + 1 : Nat) : Int) := by rw [wrap64 (by omega) (by omega)]; rfl
    rw [ew]
    rcases hs.dest with ⟨_, h2, _⟩ | ⟨b, rfl, h2, h3, rfl, hx⟩
    · omega
    · have hfl := flat_len hx
      refine ok_ixSl (k := i) rfl hlt ?_
      refine ok_stn h (by simp only [List.length_singleton]; rw [hfl]; omega) (d := (xs.set i [.int .u8 63]).flatten) (by rw [Nat.zero_add]; exact flat_splice hx (by omega) rfl) (fun S94 h => ?_)
      refine spoil_loop call n0 hl m (i + 1) S94 (xs.set i [.int .u8 63]) [C b (xs.set i [.int .u8 63]).flatten] (by omega) (by omega) (.of ?_ (by simpa using h2) (by rw [h2]; exact h3)) h
      intro y hy
      rcases List.mem_or_eq_of_mem_set hy with hy | rfl
      · exact hx y hy
      · rfl

/-- What is appended to an empty list. -/
theorem ok_spread {a0 : Option Pos} {l0 : Nat} {c0 : Cap} {bytes b4 : Nat} {ys : List (List AV)} {K : Option Pos → Nat → Cap → AS → Option (AV × AS)} {Q : AV → AS → Prop} (h : Hp X S (C b4 [] :: F)) (hr : RdR X [] a0 ys.flatten) (hy : ∀ y ∈ ys, y.length = 1) (hl : l0 = ys.length) (h1 : ys.length * bytes ≤ pow46) (h2 : ys.length ≤ pow46)
    (ht : ∀ a l c S' L', SlR a l c 1 ys L' → Hp X S' (L' ++ F) → Ok (K a l c S') Q) : Ok (appendA 1 bytes S (some (.rw b4, 0)) 0 (.ex 0) l0 (firstA S 1 l0 (.sl a0 l0 c0)) K) Q := by
  refine ok_append (L := [C b4 []]) (F := F) h SlR.empty hy hl (fun K => ?_) (by decide) (by simpa using h1) (by simpa using h2) (fun a l c S' L' hs h => ht a l c S' L' (by simpa using hs) h)
  exact RdR.first (hr.mono (fun e he => by cases he)) h (by rw [flat_len hy, hl]) (by decide) K

theorem act_ok (n : Nat) (hn : 80000 < n) {b w : Nat} {D : DM} {Ld Lr : List Ent} {x : Act} {cs : List AV} (h : Hp X S (Ld ++ (Lr ++ F))) (hd : Disk b D Ld) (hw : Ref w D Lr) (hx : ActR X x cs) (h1 : x.data.length ≤ 20000) (h2 : x.keep.length ≤ 20000) :
    Ok (ev (n + 4) (.fn 34) [.ptr (some (.rw b, 0)), .ptr (some (.rw w, 0)), .agg cs] S) fun v S' => ∃ b' Ld' Lr', v = .tup [.ptr (some (.rw b', 0)), .bool true] ∧ (x.kind ≠ 8 → b' = b) ∧ Disk b' (D.act x) Ld' ∧ Ref w (D.act x) Lr' ∧ Hp X S' (Ld' ++ (Lr' ++ F)) := by
  obtain ⟨da, dc, ka, kc, rfl, hda, hka, hmk, hb0, hb1⟩ := hx
  rw [ev, F34 _ _ _ _ _ (oL rfl)]
  simp only [J34, b34_entry, J34_j1_1, b34_j1_1]
  refine ok_ifO rfl ?_
  refine ok_newA h (fun b1 S2 h => ?_)
  -- the disk, and the document's, ahead of all
  have ord : ∀ {S : AS} {A B M : List Ent}, Hp X S (A ++ (B ++ M)) → Hp X S (B ++ (A ++ M)) := fun h => h.re (by intro p; simp only [List.countP_append]; omega)
  let cell : List AV := [.int .i64 x.kind, .int .i64 x.at_, .int .i64 x.bit, .int .u32 x.mask, .sl da x.data.length dc, .sl ka x.keep.length kc]
  have h0 : Hp X S2 (Ld ++ (Lr ++ (C b1 cell :: F))) := h.re (by intro p; simp only [List.countP_append, List.countP_cons, C, cell]; omega)
  have fin : ∀ {S : AS} {A B : List Ent}, Hp X S (A ++ (B ++ (C b1 cell :: F))) → Hp X S (A ++ (B ++ F)) := fun h => h.sub (List.Sublist.append (List.Sublist.refl _) (List.Sublist.append (List.Sublist.refl _) (List.sublist_cons_self _ _)))
  refine ok_ldI h0 rfl ?_
  refine ok_cond (fun hk => ?_) (fun hk1 => ?_)
  · -- a write
    simp only [beq_iff_eq] at hk
    have ea : D.act x = D.write x.at_ x.data := by rw [DM.act, if_pos hk]
    rw [ea]
    refine ok_newA h0 (fun b4 S5 h5 => ?_)
    refine ok_ldL h5 rfl ?_
    refine ok_spread (ys := bxs x.data) h5 (by rw [bxs_flat]; exact hda) (bxs_all _) (by simp) (by simp [pow46]; omega) (by simp [pow46]; omega) (fun a l c S8 L7 hs h8 => ?_)
    refine ok_ldI h8 rfl ?_
    obtain ⟨hr7, hl7⟩ := hs.bytes (X := X) (M := Ld ++ (L7 ++ (Lr ++ (C b1 cell :: F)))) (by intro e he; simp [he])
    obtain ⟨v, S10, e, rfl, Ld', hd', h10⟩ := write_ok (n + 1) (ord h8) hd x.at_ hr7 hl7
    rw [callI_of e, callI_of (num_eq (n + 2) _ S10)]
    have hrd : ∀ {S : AS} {M : List Ent}, Hp X S M → ∀ K : List UInt8 → Option (AV × AS), bytesStr S da x.data.length K = K x.data := fun hh K => bytesStr_of (hda.mono (by intro e he; cases he)) hh rfl K
    refine ok_ldI h10 rfl (ok_ldI h10 rfl (ok_true (by simp [AV.beq]) (ok_ldI h8 rfl (ok_true (by simp [AV.beq]) ?_))))
    refine ok_ldL h10 rfl (ok_ldL h10 rfl (ok_true (by simp [AV.beq]) (ok_ldL h8 rfl (ok_true (by simp [AV.beq]) ?_))))
    rw [hrd h10, hrd h10]
    refine ok_true (by simp [AV.beq]) ?_
    rw [hrd h8]
    refine ok_true (by simp [AV.beq]) ?_
    have h11 : Hp X S10 (Lr ++ (Ld' ++ (L7 ++ (C b1 cell :: F)))) := h10.re (by intro p; simp only [List.countP_append]; omega)
    obtain ⟨v, S23, e, rfl, Lr', hw', h23⟩ := rwrite_ok (n + 1) h11 hw x.at_ x.data
    rw [callI_of e]
    rw [show (D.writeE x.at_ x.data == D.writeE x.at_ x.data) = true by simp]
    have h24 : Hp X S23 (L7 ++ (Ld' ++ (Lr' ++ (C b1 cell :: F)))) := h23.re (by intro p; simp only [List.countP_append]; omega)
    have hll : l ≤ 20000 := by rw [hl7]; exact h1
    refine (spoil_loop (ev (n + 3)) (n + 3) (by omega) (n + 3) 0 S23 (bxs x.data) L7 (Nat.zero_le _) (by omega) hs h24).mono ?_
    rintro v S' ⟨rfl, h'⟩
    exact ⟨b, Ld', Lr', rfl, fun _ => rfl, hd', hw', fin h'⟩
  simp only [beq_eq_false_iff_ne] at hk1
  refine ok_cond (fun hk => ?_) (fun hk2 => ?_)
  · simp only [beq_iff_eq] at hk
    have ea : D.act x = D.flush := by rw [DM.act, if_neg hk1, if_pos hk]
    rw [ea]
    obtain ⟨v, S25, e, rfl, Ld', hd', h25⟩ := flush_ok (n + 1) (by omega) h0 hd
    rw [callI_of e, callI_of (num_eq (n + 2) _ S25)]
    obtain ⟨v, S29, e, rfl, Lr', hw', h29⟩ := rflush_ok (n + 1) (by omega) (ord h25) hw
    rw [callI_of e]
    exact ok_ret ⟨b, Ld', Lr', by simp, fun _ => rfl, hd', hw', fin (ord h29)⟩
  simp only [beq_eq_false_iff_ne] at hk2
  refine ok_cond (fun hk => ?_) (fun hk3 => ?_)
  · simp only [beq_iff_eq] at hk
    have ea : D.act x = D.crash x.keep := by rw [DM.act, if_neg hk1, if_neg hk2, if_pos hk]
    rw [ea]
    refine ok_newA h0 (fun b31 S32 h32 => ?_)
    refine ok_ldL h32 rfl ?_
    refine ok_spread (ys := ixs x.keep) h32 (by rw [ixs_flat]; exact hka) (ixs_all _) (by simp) (by simp [pow46]; omega) (by simp [pow46]; omega) (fun a l c S35 L7 hs h35 => ?_)
    have hlk : l = x.keep.length := by rw [hs.len]; simp
    have hrk : RdR X (L7 ++ (Lr ++ (C b1 cell :: F))) a (ics x.keep) := by
      rw [← ixs_flat]; exact hs.rd (by intro e he; simp [he])
    obtain ⟨v, S36, e, rfl, Ld', hd', h36⟩ := crash_ok (n + 1) (by omega) (ord h35) hd hrk hlk (by omega)
    rw [callT_of e]
    refine ok_ldL h36 rfl ?_
    have h37 : Hp X S36 (Lr ++ (Ld' ++ (L7 ++ (C b1 cell :: F)))) := h36.re (by intro p; simp only [List.countP_append]; omega)
    obtain ⟨v, S39, e, rfl, Lr', hw', h39⟩ := rcrash_ok (n + 1) (by omega) h37 hw (hka.mono (by intro e he; cases he)) rfl (by omega)
    rw [callT_of e]
    refine ok_ret ⟨b, Ld', Lr', rfl, fun _ => rfl, hd', hw', ?_⟩
    exact fin ((h39.re (M := L7 ++ (Ld' ++ (Lr' ++ (C b1 cell :: F)))) (by intro p; simp only [List.countP_append]; omega)).right)
  simp only [beq_eq_false_iff_ne] at hk3
  refine ok_cond (fun hk => ?_) (fun hk4 => ?_)
  · simp only [beq_iff_eq] at hk
    have ea : D.act x = D.fail := by rw [DM.act, if_neg hk1, if_neg hk2, if_neg hk3, if_pos hk]
    rw [ea]
    obtain ⟨v, S41, e, rfl, Ld', hd', h41⟩ := fail_ok (n + 2) h0 hd
    rw [callT_of e]
    obtain ⟨v, S43, e, rfl, Lr', hw', h43⟩ := rfail_ok (n + 2) (ord h41) hw
    rw [callT_of e]
    exact ok_ret ⟨b, Ld', Lr', rfl, fun _ => rfl, hd', hw', fin (ord h43)⟩
  simp only [beq_eq_false_iff_ne] at hk4
  refine ok_cond (fun hk => ?_) (fun hk5 => ?_)
  · simp only [beq_iff_eq] at hk
    have ea : D.act x = D.replace := by rw [DM.act, if_neg hk1, if_neg hk2, if_neg hk3, if_neg hk4, if_pos hk]
    rw [ea]
    obtain ⟨v, S45, e, rfl, Ld', hd', h45⟩ := replace_ok (n + 2) h0 hd
    rw [callT_of e]
    obtain ⟨v, S47, e, rfl, Lr', hw', h47⟩ := rreplace_ok (n + 1) (by omega) (ord h45) hw
    rw [callT_of e]
    exact ok_ret ⟨b, Ld', Lr', rfl, fun _ => rfl, hd', hw', fin (ord h47)⟩
  simp only [beq_eq_false_iff_ne] at hk5
  refine ok_cond (fun hk => ?_) (fun hk6 => ?_)
  · simp only [beq_iff_eq] at hk
    have ea : D.act x = D.lose x.at_ := by rw [DM.act, if_neg hk1, if_neg hk2, if_neg hk3, if_neg hk4, if_neg hk5, if_pos hk]
    rw [ea]
    refine ok_ldI h0 rfl ?_
    obtain ⟨v, S50, e, rfl, Ld', hd', h50⟩ := lose_ok (n + 1) h0 hd x.at_
    rw [callI_of e, callI_of (num_eq (n + 2) _ S50)]
    refine ok_ldI h50 rfl (ok_ldI h50 rfl (ok_true (by simp [AV.beq]) (ok_ldI h0 rfl (ok_true (by simp [AV.beq]) ?_))))
    obtain ⟨v, S57, e, rfl, Lr', hw', h57⟩ := rlose_ok n (ord h50) hw x.at_
    rw [callI_of e]
    exact ok_ret ⟨b, Ld', Lr', by simp, fun _ => rfl, hd', hw', fin (ord h57)⟩
  simp only [beq_eq_false_iff_ne] at hk6
  refine ok_cond (fun hk => ?_) (fun hk7 => ?_)
  · simp only [beq_iff_eq] at hk
    have ea : D.act x = D.turn x.at_ x.bit x.mask := by rw [DM.act, if_neg hk1, if_neg hk2, if_neg hk3, if_neg hk4, if_neg hk5, if_neg hk6, if_pos hk]
    rw [ea]
    refine ok_ldI h0 rfl (ok_ldI h0 rfl (ok_ldI h0 rfl ?_))
    obtain ⟨v, S62, e, rfl, Ld', hd', h62⟩ := turn_ok (n + 1) (by omega) h0 hd x.at_ x.bit x.mask hmk
    rw [callI_of e, callI_of (num_eq (n + 2) _ S62)]
    refine ok_ldI h62 rfl (ok_ldI h62 rfl (ok_true (by simp [AV.beq]) (ok_ldI h0 rfl (ok_true (by simp [AV.beq]) ?_))))
    refine ok_ldI h62 rfl (ok_ldI h62 rfl (ok_true (by simp [AV.beq]) (ok_ldI h0 rfl (ok_true (by simp [AV.beq]) ?_))))
    refine ok_ldI h62 rfl (ok_ldI h62 rfl (ok_true (by simp [AV.beq]) (ok_ldI h0 rfl (ok_true (by simp [AV.beq]) ?_))))
    obtain ⟨v, S75, e, rfl, Lr', hw', h75⟩ := rturn_ok n (by omega) (ord h62) hw x.at_ x.bit hb0 hb1 x.mask hmk
    rw [callI_of e]
    exact ok_ret ⟨b, Ld', Lr', by simp, fun _ => rfl, hd', hw', fin (ord h75)⟩
  simp only [beq_eq_false_iff_ne] at hk7
  have ea : D.act x = D := by rw [DM.act, if_neg hk1, if_neg hk2, if_neg hk3, if_neg hk4, if_neg hk5, if_neg hk6, if_neg hk7]
  rw [ea]
  refine ok_cond (fun hk => ?_) (fun hk8 => ok_ret ⟨b, Ld, Lr, rfl, fun _ => rfl, hd, hw, fin h0⟩)
  obtain ⟨v, S77, e, b', Lc, rfl, hc', h77⟩ := copy_ok (n + 1) h0 hd
  rw [callP_of e]
  refine ok_false rfl ?_
  obtain ⟨r, e, hr⟩ := same_eq (n + 1) (by omega) h77 hc' hd (by intro e he; simp [he]) (by intro e he; simp [he])
  have hrt : r = true := hr.2 ⟨rfl, rfl, rfl, rfl⟩
  subst hrt
  rw [callB_of e]
  refine ok_false rfl ?_
  have h78 : Hp X S77 (Ld ++ (Lc ++ (Lr ++ (C b1 cell :: F)))) := ord h77
  have hq : D.WF := by obtain ⟨_, _, _, _, _, _, _, _, hR, _⟩ := hd; exact hR.wf
  have hhi := hq.hi
  rw [callI_of (size_eq (n + 2) h78 hd)]
  obtain ⟨v, S83, e, za, zl, zc, L5, rfl, hs5, h9⟩ := full_ok (n + 2) h78 D.size (by omega) (by omega) 63
  rw [callL_of (show ev (n + 3) _ [.int .i64 D.size, .int .u8 63] S77 = _ from e)]
  have h10 := ord h9
  obtain ⟨hr5, hl5⟩ := hs5.bytes (X := X) (M := Ld ++ (L5 ++ (Lc ++ (Lr ++ (C b1 cell :: F))))) (by intro e he; simp [he])
  obtain ⟨v, S85, e, rfl, La, hda', h85⟩ := write_ok (n + 1) h10 hd 0 hr5 hl5
  rw [callI_of e]
  obtain ⟨v, S87, e, rfl, Lb, hdb', h87⟩ := flush_ok (n + 1) (by omega) h85 hda'
  rw [callI_of e]
  obtain ⟨v, S89, e, rfl, Lcc, hdc', h89⟩ := lose_ok (n + 1) h87 hdb' 0
  rw [callI_of e]
  obtain ⟨v, S91, e, rfl, Ldd, hdd', h91⟩ := fail_ok (n + 2) h89 hdc'
  rw [callT_of e]
  exact ok_ret ⟨b', Lc, Lr, rfl, fun h => absurd (by simpa using hk) h, hc', hw, fin h91.right.right⟩
end

end Go.Dk
