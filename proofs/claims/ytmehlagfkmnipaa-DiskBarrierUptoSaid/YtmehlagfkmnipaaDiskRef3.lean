/- What the functions of the document's answer for the disk do with a heap: new disks, replacing, crashes, lists. -/
import Derived.Test.YtmehlagfkmnipaaDiskRef2
set_option linter.unusedVariables false
set_option linter.unusedSimpArgs false
set_option maxRecDepth 4000
namespace Go.Dk
open Go.Gr

def DM.setTo (D : DM) (x : Sec) : Nat → DM
  | 0 => D
  | i + 1 => (D.setTo x i).setS i x
theorem setTo_same (D : DM) (x : Sec) : ∀ i, (D.setTo x i).size = D.size ∧ (D.setTo x i).off = D.off ∧ (D.setTo x i).q = D.q ∧ (D.setTo x i).writes = D.writes ∧ (D.setTo x i).secs.length = D.secs.length
  | 0 => ⟨rfl, rfl, rfl, rfl, rfl⟩
  | i + 1 => by
    obtain ⟨a, b, c, d, e⟩ := setTo_same D x i
    exact ⟨a, b, c, d, by simp only [DM.setTo, DM.setS, List.length_set, e]⟩
theorem setTo_secs (D : DM) (x : Sec) : ∀ i, i ≤ D.secs.length → (D.setTo x i).secs = List.replicate i x ++ D.secs.drop i
  | 0, _ => by simp [DM.setTo]
  | i + 1, h => by
    rw [DM.setTo, DM.setS]
    simp only
    have hd := List.drop_eq_getElem_cons (show i < D.secs.length by omega)
    rw [setTo_secs D x i (by omega), List.set_append_right _ _ (by simp), List.length_replicate, Nat.sub_self, hd, List.set_cons_zero, List.replicate_succ']
    simp
theorem setTo_all (D : DM) (x : Sec) : D.setTo x D.secs.length = { D with secs := List.replicate D.secs.length x } := by
  have h := setTo_secs D x D.secs.length (Nat.le_refl _)
  obtain ⟨a, b, c, d, e⟩ := setTo_same D x D.secs.length
  rw [List.drop_length, List.append_nil] at h
  cases hD : D.setTo x D.secs.length with
  | mk s1 s2 s3 s4 s5 =>
    rw [hD] at a b c d h
    simp only at a b c d h
    subst a b c d h
    rfl

section
variable {X : Cx} {S : AS} {L F : List Ent} {w : Nat} {D : DM}

theorem zeros_ok (n : Nat) (h : Hp X S L) (k : Nat) (hk : k ≤ 65536) :
    Ok (ev (n + 1) (.fn 50) [.int .i64 k] S) fun v S' => v = .str (List.replicate k 0) ∧ Hp X S' L := by
  rw [ev, F50 _ _ _ (oL rfl)]
  simp only [J50, b50_entry]
  refine ok_mkSl (l := k) (c := k) rfl rfl (Nat.le_refl _) (by simp [pow46]; omega) (by simp [pow46]; omega) ?_
  refine ok_newA h (fun b1 S2 h => ?_)
  have e : zeros k [AV.int .u8 0] = ofBytes (List.replicate k 0) := by rw [zeros_one]; simp [ofBytes]
  rw [e] at h
  rw [bytesStr_of (X := X) (s := List.replicate k 0) (.rw List.mem_cons_self (by simp) (by rw [List.drop_zero, List.take_length])) h (by simp)]
  exact ok_ret ⟨rfl, h.drop1⟩

theorem new_err (n : Nat) (k s : Int) (hbad : ¬ (1 ≤ k ∧ k ≤ 65536 ∧ 8 ≤ s ∧ s ≤ 512)) : ev (n + 1) (.fn 11) [.int .i64 k, .int .i64 s] S = some (.tup [.ptr none, .int .i64 2], S) := by
  apply ok_eq
  rw [ev, F11 _ _ _ _ (oL rfl)]
  simp only [J11, b11_entry]
  refine ok_cond (fun _ => ok_ret ⟨rfl, rfl⟩) (fun h1 => ok_cond (fun _ => ok_ret ⟨rfl, rfl⟩) (fun h2 => ok_cond (fun _ => ok_ret ⟨rfl, rfl⟩) (fun h3 => ok_cond (fun _ => ok_ret ⟨rfl, rfl⟩) (fun h4 => ?_))))
  simp only [decide_eq_false_iff_not] at h1 h2 h3 h4
  exact absurd ⟨by omega, by omega, by omega, by omega⟩ hbad
theorem rnew_err (n : Nat) (k s : Int) (hbad : ¬ (1 ≤ k ∧ k ≤ 65536 ∧ 8 ≤ s ∧ s ≤ 512)) : ev (n + 1) (.fn 33) [.int .i64 k, .int .i64 s] S = some (.tup [.ptr none, .int .i64 2], S) := by
  apply ok_eq
  rw [ev, F33 _ _ _ _ (oL rfl)]
  simp only [J33, b33_entry]
  refine ok_cond (fun _ => ok_ret ⟨rfl, rfl⟩) (fun h1 => ok_cond (fun _ => ok_ret ⟨rfl, rfl⟩) (fun h2 => ok_cond (fun _ => ok_ret ⟨rfl, rfl⟩) (fun h3 => ok_cond (fun _ => ok_ret ⟨rfl, rfl⟩) (fun h4 => ?_))))
  simp only [decide_eq_false_iff_not] at h1 h2 h3 h4
  exact absurd ⟨by omega, by omega, by omega, by omega⟩ hbad

theorem new_wf (k s : Nat) (h1 : 1 ≤ k) (h2 : k ≤ 65536) (h3 : 8 ≤ s) (h4 : s ≤ 512) : (DM.new k s).WF := by
  refine ⟨h3, h4, by simpa [DM.new] using h1, by simpa [DM.new] using h2, ?_, ?_, by simp [DM.new]⟩
  · intro x hx
    simp only [DM.new] at hx
    rw [List.eq_of_mem_replicate hx]; simp [DM.new]
  · intro w hw; simp [DM.new] at hw

theorem rnew_ok (n : Nat) (hn : 70000 < n) (h : Hp X S L) (k s : Nat) (h1 : 1 ≤ k) (h2 : k ≤ 65536) (h3 : 8 ≤ s) (h4 : s ≤ 512) :
    Ok (ev (n + 2) (.fn 33) [.int .i64 k, .int .i64 s] S) fun v S' => ∃ w L', v = .tup [.ptr (some (.rw w, 0)), .int .i64 0] ∧ Ref w (DM.new k s) L' ∧ Hp X S' (L' ++ L) := by
  rw [ev, F33 _ _ _ _ (oL rfl)]
  simp only [J33, b33_entry]
  refine ok_false (by simp; omega) ?_
  refine ok_false (by simp; omega) ?_
  refine ok_false (by simp; omega) ?_
  refine ok_false (by simp; omega) ?_
  refine ok_drawA h [6, 3, 1] (by decide) (by decide) (fun b1 S2 h => ?_)
  simp only [List.map_cons, List.map_nil, List.cons_append, List.nil_append] at h
  refine ok_mkSl (l := k) (c := k) rfl rfl (Nat.le_refl _) (by simp [pow46]; omega) (by simp [pow46]; omega) ?_
  refine ok_mkSl (l := k) (c := k) rfl rfl (Nat.le_refl _) (by simp [pow46]; omega) (by simp [pow46]; omega) ?_
  refine ok_layA h (fun S7 h => ok_layA h (fun S8 h => ok_layA h (fun S9 h => ?_)))
  obtain ⟨v, S10, e, rfl, h⟩ := zeros_ok n h s (by omega)
  rw [callS_of e]
  let D0 : DM := { size := s, secs := List.replicate k ⟨[], 0⟩, q := [], off := false, writes := 0 }
  let x : Sec := ⟨List.replicate s 0, 0⟩
  have hD0 : D0.secs.length = k := by simp [D0]
  have e1 : zeros k [AV.str []] = dcells D0 := by simp [dcells, D0, encD, zeros]
  have e2 : zeros k [AV.int .i64 0] = hcells D0 := by simp [hcells, D0, encH, zeros]
  rw [e1, e2] at h
  have hset : ∀ i, hcells (D0.setTo x i) = hcells D0 := by
    intro i
    induction i with
    | zero => rfl
    | succ i ih =>
      rw [DM.setTo]
      by_cases hi : i < D0.secs.length
      · rw [← ih]
        have hs := setTo_secs D0 x i (by omega)
        simp only [hcells, DM.setS, hs, D0, List.map_set, List.map_append, List.map_replicate, List.drop_replicate]
        congr 1
        have : encH x = encH ⟨[], 0⟩ := rfl
        rw [this]
        apply List.ext_getElem?
        intro j
        simp only [List.replicate_append_replicate, List.getElem?_set, List.getElem?_replicate, List.length_replicate]
        by_cases hij : i = j
        · subst hij; simp
        · simp [hij]
      · have : (D0.setTo x i).setS i x = D0.setTo x i := by
          simp only [DM.setS]
          rw [List.set_eq_of_length_le (by rw [(setTo_same D0 x i).2.2.2.2]; omega)]
        rw [this]; exact ih
  have loop : ∀ (m i : Nat) (S : AS), i ≤ k → k - i < m → Hp X S (C (b1 + 6) [(.sl (some (.rw (b1 + 1), 0)) k (.ex k)), (.sl (some (.rw (b1 + 3), 0)) k (.ex k)), (.sl none 0 (.ex 0)), (.bool false), (.int .i64 0), (.int .i64 s)] :: C (b1 + 3) (hcells D0) :: C (b1 + 1) (dcells (D0.setTo x i)) :: L) →
      Ok (J33_l1_1_1_1_0_1_0 (ev (n + 1)) (n + 1) m k (some (.rw (b1 + 6), 0)) (List.replicate s 0) i S) fun v S' => ∃ w L', v = .tup [.ptr (some (.rw w, 0)), .int .i64 0] ∧ Ref w (DM.new k s) L' ∧ Hp X S' (L' ++ L) := by
    intro m
    induction m with
    | zero => intro i S _ hm; omega
    | succ m ih =>
      intro i S hi hm h
      rw [J33_l1_1_1_1_0_1_0_succ]
      simp only [b33_l1_1_1_1_0_1_0]
      refine ok_cond (fun hc => ?_) (fun hc => ?_)
      · simp only [decide_eq_true_eq] at hc
        have ew : IntKind.wrap .i64 ((i : Int) + 1) = ((i + 1 : Nat) : Int) := by rw [wrap64 (by omega) (by omega)]; rfl
        rw [ew]
        have hl : i < (D0.setTo x i).secs.length := by rw [(setTo_same D0 x i).2.2.2.2]; omega
        refine ok_gO (ok_ldL h rfl (ok_ixSl (k := i) rfl (by omega) ?_))
        exact ok_stn h (by simp; omega) (dcells_set hl x) (fun S15 h => ih (i + 1) S15 (by omega) (by omega) h)
      · simp only [decide_eq_false_iff_not] at hc
        have : i = k := by omega
        subst this
        simp only [J33_j1_1_1_1_1, b33_j1_1_1_1_1]
        have eD : D0.setTo x i = DM.new i s := by
          have := setTo_all D0 x
          rw [hD0] at this
          rw [this]; rfl
        have hh := hset i
        rw [eD] at h hh
        refine ok_ret ⟨b1 + 6, _, rfl, ⟨b1 + 1, .ex i, b1 + 3, .ex i, none, 0, .ex 0, [], ⟨new_wf i s h1 h2 h3 h4, by simp [DM.new], by simp [DM.new], .nil⟩, rfl⟩, ?_⟩
        have er : rhdr (DM.new i s) (some (.rw (b1 + 1), 0)) (.ex i) (some (.rw (b1 + 3), 0)) (.ex i) none 0 (.ex 0) = [(.sl (some (.rw (b1 + 1), 0)) i (.ex i)), (.sl (some (.rw (b1 + 3), 0)) i (.ex i)), (.sl none 0 (.ex 0)), (.bool false), (.int .i64 0), (.int .i64 s)] := by simp [rhdr, DM.new]
        rw [er, hh]
        exact h.re (by intro p; simp only [List.countP_append, List.countP_cons, List.countP_nil, List.cons_append, C]; omega)
  exact loop (n + 1) 0 S10 (Nat.zero_le _) (by omega) h

theorem rreplace_ok (n : Nat) (hn : 70000 < n) (h : Hp X S (L ++ F)) (hd : Ref w D L) :
    Ok (ev (n + 2) (.fn 55) [.ptr (some (.rw w, 0))] S) fun v S' => v = .tup [] ∧ ∃ L', Ref w D.replace L' ∧ Hp X S' (L' ++ F) := by
  obtain ⟨bs, sc, bh, hk, qa, ql, qc, Lq, hR, rfl⟩ := hd
  have hwf := hR.wf
  have hhi := hwf.hi
  have hn2 := hwf.n2
  rw [ev, F55 _ _ _ (oL rfl)]
  simp only [J55, b55_entry]
  let D1 : DM := { D with off := false, q := [] }
  let x : Sec := ⟨List.replicate D.size 0, 0⟩
  refine ok_gO (ok_stn h (by simp [rhdr]) (d := rhdr { D with off := false } (some (.rw bs, 0)) sc (some (.rw bh, 0)) hk qa ql qc) (by simp [rhdr, splice]) (fun S2 h => ?_))
  refine ok_gO (ok_stn h (by simp [rhdr]) (d := rhdr D1 (some (.rw bs, 0)) sc (some (.rw bh, 0)) hk none 0 (.ex 0)) (by simp [rhdr, splice, D1]) (fun S4 h => ?_))
  refine ok_gO (ok_ldI h rfl ?_)
  obtain ⟨v, S7, e, rfl, h⟩ := zeros_ok n h D.size (by omega)
  rw [callS_of (show ev (n + 1) _ [.int .i64 D1.size] S4 = _ from e)]
  have hD1 : D1.secs.length = D.secs.length := rfl
  have h0 : Hp X S7 (C w (rhdr D1 (some (.rw bs, 0)) sc (some (.rw bh, 0)) hk none 0 (.ex 0)) :: C bs (dcells (D1.setTo x 0)) :: C bh (hcells (D1.setTo x 0)) :: F) := by
    refine h.sub ?_
    exact (((List.sublist_append_right Lq F).cons_cons _).cons_cons _).cons_cons _
  have loop : ∀ (m i : Nat) (S : AS), i ≤ D.secs.length → D.secs.length - i < m → Hp X S (C w (rhdr D1 (some (.rw bs, 0)) sc (some (.rw bh, 0)) hk none 0 (.ex 0)) :: C bs (dcells (D1.setTo x i)) :: C bh (hcells (D1.setTo x i)) :: F) →
      Ok (J55_l1_1_1_1_0 (ev (n + 1)) (n + 1) m (some (.rw w, 0)) (List.replicate D.size 0) i S) fun v S' => v = .tup [] ∧ ∃ L', Ref w D.replace L' ∧ Hp X S' (L' ++ F) := by
    intro m
    induction m with
    | zero => intro i S _ hm; omega
    | succ m ih =>
      intro i S hi hm h
      rw [J55_l1_1_1_1_0_succ]
      simp only [b55_l1_1_1_1_0]
      refine ok_gO (ok_ldL h rfl ?_)
      refine ok_cond (fun hc => ?_) (fun hc => ?_)
      · simp only [decide_eq_true_eq] at hc
        have hlt : i < D1.secs.length := by omega
        have ew : IntKind.wrap .i64 ((i : Int) + 1) = ((i + 1 : Nat) : Int) := by rw [wrap64 (by omega) (by omega)]; rfl
        rw [ew]
        have hl : i < (D1.setTo x i).secs.length := by rw [(setTo_same D1 x i).2.2.2.2]; exact hlt
        refine ok_gO (ok_ldL h rfl (ok_ixSl (k := i) rfl hlt ?_))
        refine ok_stn h (by simp; omega) (dcells_set hl x) (fun S14 h => ?_)
        refine ok_gO (ok_ldL h rfl (ok_ixSl (k := i) rfl hlt ?_))
        exact ok_stn h (by simp; omega) (hcells_set hl x) (fun S18 h => ih (i + 1) S18 (by omega) (by omega) h)
      · simp only [decide_eq_false_iff_not] at hc
        have hik : i = D1.secs.length := by omega
        subst hik
        rw [setTo_all] at h
        have eD : ({ D1 with secs := List.replicate D1.secs.length x } : DM) = D.replace := rfl
        rw [eD] at h
        have hw : D.replace.WF := by
          refine ⟨hwf.lo, hwf.hi, by simpa [DM.replace] using hwf.n1, by simpa [DM.replace] using hwf.n2, ?_, by simp [DM.replace], by simp [DM.replace]⟩
          intro x hx
          simp only [DM.replace] at hx
          rw [List.eq_of_mem_replicate hx]; simp [DM.replace]
        refine ok_ret ⟨rfl, _, ⟨bs, sc, bh, hk, none, 0, .ex 0, [], ⟨hw, by simpa [DM.replace] using hR.cs, by simpa [DM.replace] using hR.ch, .nil⟩, rfl⟩, ?_⟩
        have er : rhdr D.replace (some (.rw bs, 0)) sc (some (.rw bh, 0)) hk none 0 (.ex 0) = rhdr D1 (some (.rw bs, 0)) sc (some (.rw bh, 0)) hk none 0 (.ex 0) := by simp [rhdr, DM.replace, D1]
        rw [er]; exact h
  exact loop (n + 1) 0 S7 (Nat.zero_le _) (by omega) h0
end

end Go.Dk
