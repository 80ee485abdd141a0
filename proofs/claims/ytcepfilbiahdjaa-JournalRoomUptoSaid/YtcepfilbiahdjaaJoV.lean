/- The law JournalRoom as the evaluator runs it. -/
import Derived.Test.YtcepfilbiahdjaaJoT
set_option linter.unusedVariables false
set_option linter.unusedSimpArgs false
set_option maxRecDepth 4000
namespace Go.Jn
open Go.Gr

/-- Numbers of which some at the head were left. -/
def NdR (a : Option Pos) (l : Nat) (c : Cap) (ns : List Int) (L : List Ent) : Prop :=
  (a = none ∧ l = 0 ∧ c = .ex 0 ∧ ns = [] ∧ L = []) ∨ ∃ (b : Nat) (pre : List Int), a = some (.rw b, pre.length) ∧ l = ns.length ∧ c = .op 1 ns.length ∧ L = [C b ((pre ++ ns).map (AV.int .i64))]
theorem NdR.len {a : Option Pos} {l : Nat} {c : Cap} {ns : List Int} {L : List Ent} (h : NdR a l c ns L) : l = ns.length := by
  rcases h with ⟨_, rfl, _, rfl, _⟩ | ⟨_, _, _, rfl, _⟩ <;> rfl

section
variable {X : Cx} {S : AS} {L F G Lj Ls : List Ent} {b bj sb : Nat} {Q : AV → AS → Prop} {J : JM} {k : Nat} {t : St}

theorem nd_push {ns : List Int} {x : Int} {a : Option Pos} {l : Nat} {c : Cap} {Ln : List Ent} {b5 : Nat} {K : Option Pos → Nat → Cap → AS → Option (AV × AS)} (hq : ns.length ≤ 100000) (hs : NdR a l c ns Ln) (h : Hp X S (Ln ++ (C b5 [.int .i64 x] :: F)))
    (ht : ∀ a' l' c' L' S', NdR a' l' c' (ns ++ [x]) L' → Hp X S' (L' ++ F) → Ok (K a' l' c' S') Q) : Ok (appendA 1 8 S a l c 1 (firstA S 1 1 (.sl (some (.rw b5, 0)) 1 (.ex 1))) K) Q := by
  have hl := hs.len
  have hsrc : ∀ (K : List AV → Option (AV × AS)), firstA S 1 1 (.sl (some (.rw b5, 0)) 1 (.ex 1)) K = K [.int .i64 x] := fun K =>
    RdR.first (.rw (X := X) (b := b5) (i := 0) (c := [.int .i64 x]) (cs := [.int .i64 x]) (L := _) (List.mem_append_right Ln List.mem_cons_self) (by simp) rfl) h (sz := 1) (n := 1) rfl (by decide) (l := 1) (c := .ex 1) K
  have h1 : (l + 1) * 8 ≤ pow46 := by simp [pow46]; omega
  have h2 : l + 1 ≤ pow46 := by simp [pow46]; omega
  rcases hs with ⟨rfl, rfl, rfl, rfl, rfl⟩ | ⟨bn, pre, rfl, rfl, rfl, rfl⟩
  · simp only [appendA, forceL_eq, if_pos h1, if_pos h2, show ¬ (0 + 1 ≤ 0) by omega, if_false]
    have e : firstA S 1 0 (.sl none 0 (.ex 0)) (fun old => firstA S 1 1 (.sl (some (.rw b5, 0)) 1 (.ex 1)) fun new => K (some (.rw S.next, 0)) (0 + 1) (.op 1 (0 + 1)) (S.new (.cells (old ++ new)))) = firstA S 1 1 (.sl (some (.rw b5, 0)) 1 (.ex 1)) fun new => K (some (.rw S.next, 0)) (0 + 1) (.op 1 (0 + 1)) (S.new (.cells ([] ++ new))) := rfl
    rw [e, hsrc]
    refine ht _ _ _ [C S.next [.int .i64 x]] _ (.inr ⟨S.next, [], rfl, rfl, rfl, rfl⟩) ((h.right.drop1).new _)
  · have hp' : Hp X S (C bn ((pre ++ ns).map (AV.int .i64)) :: C b5 [.int .i64 x] :: F) := h
    have hne : ¬ (ns.length + 1 ≤ ns.length) := by omega
    simp only [appendA, forceL_eq, if_pos h1, if_pos h2, if_neg hne, if_true]
    rw [if_neg (by decide)]
    have hle0 : pre.length + ns.length * 1 ≤ ((pre ++ ns).map (AV.int .i64)).length := by simp
    have htk : (((pre ++ ns).map (AV.int .i64)).drop pre.length).take (ns.length * 1) = ns.map (AV.int .i64) := by
      rw [List.map_append, List.drop_left' (by simp), Nat.mul_one, List.take_of_length_le (by simp)]
    have e : ∀ (K' : List AV → Option (AV × AS)), S.ldn (.rw bn) pre.length (ns.length * 1) K' = K' (ns.map (AV.int .i64)) := fun K' => by
      simp only [AS.ldn_eq, hp'.blk bn, if_pos hle0, htk]
    rw [e, hsrc]
    have hk : Hp X (S.kill bn) F := by
      have hn := hp'.nd
      simp only [List.map_cons, List.nodup_cons] at hn
      have h3 := hp'.drop1.drop1
      refine ⟨h3.ro, h3.lp, h3.nd, fun b1 o1 hm => ?_, h3.lt⟩
      simp only [AS.kill, Tr.get_set]
      rw [if_neg (fun he => hn.1 (by rw [← he]; exact List.mem_cons_of_mem _ (List.mem_map_of_mem hm)))]
      exact h3.got b1 o1 hm
    have hh := hk.new (.cells (ns.map (AV.int .i64) ++ [.int .i64 x]))
    refine ht _ _ _ [C S.next ((ns ++ [x]).map (AV.int .i64))] _ (.inr ⟨S.next, [], rfl, by simp, by simp, rfl⟩) ?_
    have e0 : (ns ++ [x]).map (AV.int .i64) = ns.map (AV.int .i64) ++ [.int .i64 x] := by simp
    rw [e0]
    exact hh

/-- An act as it is read. -/
structure Ac where
  k : Int
  ta : Option Pos
  tc : Cap
  tx : List Pr
  lsn : Int
  ka : Option Pos
  kl : Nat
  kc : Cap
  fl : Int
def acrow (y : Ac) : List AV := [.int .i64 y.k, .sl y.ta y.tx.length y.tc, .int .u64 y.lsn, .sl y.ka y.kl y.kc, .int .i64 y.fl]
def acrows (l : List Ac) : List (List AV) := l.map acrow
@[simp] theorem acrows_len (l : List Ac) : (acrows l).length = l.length := by simp [acrows]
theorem acrows_all (l : List Ac) : ∀ x ∈ acrows l, x.length = 5 := fun x hx => by
  obtain ⟨s, _, rfl⟩ := List.mem_map.1 hx; rfl
theorem acrows_at {l : List Ac} {i : Nat} {e : Ac} (h : l[i]? = some e) : (acrows l)[i]? = some (acrow e) := by
  rw [acrows, List.getElem?_map, h]; rfl
structure AcB (X : Cx) (F : List Ent) (y : Ac) : Prop where
  rt : RdR X F y.ta (prows y.tx).flatten
  vt : PsV X F y.tx
  lt : ∀ p ∈ y.tx, p.d.length ≤ 1048576
  ll : u64B y.lsn
  lx : y.tx.length ≤ 1048576
  lk : y.kl ≤ 1048576

theorem af_L {acts : List Ac} {i j : Nat} {y : Ac} {p : Pos} {a : Option Pos} {l : Nat} {c : Cap} {K : Option Pos → Nat → Cap → Option (AV × AS)} (h : RdR X L (some p) (acrows acts).flatten) (hp : Hp X S L) (hi : acts[i]? = some y) (hj : j < 5) (hv : (acrow y)[j]? = some (.sl a l c)) : ldL S p.1 (p.2 + i * 5 + j) K = K a l c := by
  rw [Nat.add_assoc]
  exact rd_ldL h hp (by rw [flat_get (acrows_all acts) (acrows_at hi) hj]; exact hv)
theorem ac_some {a : Option Pos} {acts : List Ac} {i : Nat} (h : RdR X L a (acrows acts).flatten) (hi : i < acts.length) : ∃ p, a = some p :=
  h.some_of (by intro he; have := congrArg List.length he; rw [flat_len (acrows_all acts), acrows_len] at this; simp only [List.length_nil] at this; omega)

def wt (y : Ac) : Nat := y.kl + y.tx.length
def wts (l : List Ac) (i : Nat) : Nat := ((l.take i).map wt).sum
theorem wts_succ {l : List Ac} {i : Nat} {y : Ac} (h : l[i]? = some y) : wts l (i + 1) = wts l i + wt y := by
  rw [wts, List.take_add_one, h, List.map_append, List.sum_append]; simp [wts]
theorem wts_mem {l : List Ac} {y : Ac} (h : y ∈ l) : wt y ≤ wts l l.length := by
  rw [wts, List.take_length]
  induction l with
  | nil => cases h
  | cons x l ih =>
    simp only [List.map_cons, List.sum_cons]
    rcases List.mem_cons.1 h with rfl | h
    · omega
    · have := ih h; omega

def Bd (w B : Int) (j k : Nat) : Prop := 0 ≤ w ∧ w ≤ B + (j : Int) * (k : Int)
theorem long_in (n0 : Nat) (call : CallA) {nx : Option Pos → Nat → Cap → Int → Int → Int → AS → Option (AV × AS)} {a : Option Pos} {c : Cap} {acts : List Ac} {i : Nat} {y : Ac} (hy : acts[i]? = some y) (hB : AcB X F y) (hr : RdR X F a (acrows acts).flatten) (h : Hp X S F) {w3 B0 : Int} (hB0 : 0 ≤ B0 ∧ B0 ≤ 1000000000000)
    (fin : ∀ w4 : Int, 0 ≤ w4 → w4 ≤ B0 + 104857600 → Ok (J6_j1_1_0_1_0_0_1_1 call n0 nx a acts.length c w3 w4 i S) Q) :
    ∀ (m j : Nat) (w4 : Int), j ≤ 100 → 100 - j < m → Bd w4 B0 j 1048576 → Ok (J6_l1_1_0_1_0_0_1_0_0_1_1_0 call n0 nx m a acts.length c w3 w4 i j S) Q
  | 0, j, w4, hj, hm, hbd => by omega
  | m + 1, j, w4, hj, hm, hbd => by
    obtain ⟨h0, h1⟩ := hbd
    have hlt : i < acts.length := (List.getElem?_eq_some_iff.1 hy).1
    obtain ⟨p, hp⟩ := ac_some hr hlt
    have hr2 : ∀ {M : List Ent} {cs : List AV}, RdR X M a cs → RdR X M (some p) cs := fun h => by rw [← hp]; exact h
    rw [J6_l1_1_0_1_0_0_1_0_0_1_1_0_succ]
    simp only [b6_l1_1_0_1_0_0_1_0_0_1_1_0]
    rw [show ixSl 5 a acts.length (i : Int) = ixSl 5 (some p) acts.length (i : Int) by rw [hp]]
    rw [ixSl_at rfl hlt, af_L (hr2 hr) h hy (j := 1) (by decide) rfl]
    refine ok_cond (fun hc => ok_cond (fun hc2 => ?_) (fun hc2 => fin w4 h0 (by omega))) (fun hc => fin w4 h0 (by omega))
    simp only [decide_eq_true_eq] at hc hc2
    rw [ixSl_at rfl hlt, af_L (hr2 hr) h hy (j := 1) (by decide) rfl]
    have hjt : j < y.tx.length := by omega
    obtain ⟨x, hx⟩ : ∃ x, y.tx[j]? = some x := ⟨_, List.getElem?_eq_getElem hjt⟩
    have hxl := hB.lt x (List.mem_of_getElem? hx)
    obtain ⟨q, hq⟩ := ps_some hB.rt hjt
    have hr3 : ∀ {M : List Ent} {cs : List AV}, RdR X M y.ta cs → RdR X M (some q) cs := fun h => by rw [← hq]; exact h
    rw [show ixSl 2 y.ta y.tx.length (j : Int) = ixSl 2 (some q) y.tx.length (j : Int) by rw [hq]]
    rw [ixSl_at rfl hjt, pf_L (hr3 hB.rt) h hx]
    rw [wz (x := w4 + ((x.d.length : Nat) : Int)) rfl (by omega) (by omega), wn (x := (j : Int) + 1) (n := j + 1) (by omega) (by omega)]
    exact long_in n0 call hy hB hr h hB0 fin m (j + 1) _ (by omega) (by omega) ⟨by omega, by omega⟩

theorem long_loop (n0 : Nat) (hn0 : 1000 < n0) (call : CallA) {a : Option Pos} {c : Cap} {acts : List Ac} (hB : ∀ y ∈ acts, AcB X F y) (hl : acts.length ≤ 1048576) (hr : RdR X F a (acrows acts).flatten) (h : Hp X S F) :
    ∀ (m i : Nat) (w4 : Int), i ≤ acts.length → i ≤ 31 → 32 - i ≤ m → wts acts i ≤ i * 2097152 → Bd w4 0 i 104857600 → Ok (J6_l1_1_0_1_0 call n0 m a acts.length c (wts acts i : Nat) w4 i S) fun v S' => ∃ r : Bool, v = .bool r ∧ S' = S ∧ (r = false → acts.length ≤ 30 ∧ wts acts acts.length ≤ 300)
  | 0, i, w4, hi, h61, hm, hw, hbd => by omega
  | m + 1, i, w4, hi, h61, hm, hw, hbd => by
    obtain ⟨h0, h1⟩ := hbd
    rw [J6_l1_1_0_1_0_succ]
    simp only [b6_l1_1_0_1_0]
    have fin : acts.length = i ∨ 31 ≤ i → Ok (J6_j1_1_1 call n0 a acts.length c (wts acts i : Nat) w4 S) fun v S' => ∃ r : Bool, v = .bool r ∧ S' = S ∧ (r = false → acts.length ≤ 30 ∧ wts acts acts.length ≤ 300) := by
      intro hh
      simp only [J6_j1_1_1, b6_j1_1_1]
      refine ok_cond (fun hc => ok_ret ⟨true, rfl, rfl, by simp⟩) (fun hc => ok_cond (fun hc2 => ok_ret ⟨true, rfl, rfl, by simp⟩) (fun hc2 => ok_ret ⟨_, rfl, rfl, fun he => ?_⟩))
      simp only [gt_iff_lt, decide_eq_false_iff_not] at hc hc2
      rcases hh with rfl | hh
      · omega
      · omega
    refine ok_cond (fun hc => ok_cond (fun hc2 => ?_) (fun hc2 => ?_)) (fun hc => ?_)
    · simp only [decide_eq_true_eq] at hc hc2
      have hlt : i < acts.length := by omega
      obtain ⟨y, hy⟩ : ∃ y, acts[i]? = some y := ⟨_, List.getElem?_eq_getElem hlt⟩
      have hb := hB y (List.mem_of_getElem? hy)
      have hbx := hb.lx
      have hbk := hb.lk
      obtain ⟨p, hp⟩ := ac_some hr hlt
      have hr2 : ∀ {M : List Ent} {cs : List AV}, RdR X M a cs → RdR X M (some p) cs := fun h => by rw [← hp]; exact h
      rw [show ixSl 5 a acts.length (i : Int) = ixSl 5 (some p) acts.length (i : Int) by rw [hp]]
      rw [ixSl_at rfl hlt, af_L (hr2 hr) h hy (j := 3) (by decide) rfl, ixSl_at rfl hlt, af_L (hr2 hr) h hy (j := 1) (by decide) rfl]
      have hs := wts_succ hy
      unfold wt at hs
      rw [wn (x := (wts acts i : Int) + (y.kl : Nat)) (n := wts acts i + y.kl) (by omega) (by omega), wn (x := ((wts acts i + y.kl : Nat) : Int) + (y.tx.length : Nat)) (n := wts acts (i + 1)) (by omega) (by omega)]
      refine long_in n0 call hy hb hr h (B0 := w4) (by omega) (fun w5 h5 h6 => ?_) n0 0 w4 (by omega) (by omega) ⟨h0, by omega⟩
      simp only [J6_j1_1_0_1_0_0_1_1, b6_j1_1_0_1_0_0_1_1]
      rw [wn (x := (i : Int) + 1) (n := i + 1) (by omega) (by omega)]
      exact long_loop n0 hn0 call hB hl hr h m (i + 1) w5 (by omega) (by omega) (by omega) (by omega) ⟨h5, by omega⟩
    · simp only [decide_eq_false_iff_not] at hc2
      exact fin (.inr (by omega))
    · simp only [decide_eq_false_iff_not] at hc
      exact fin (.inl (by omega))

theorem long_ok (n : Nat) (hn : 1000 < n) {a : Option Pos} {c : Cap} {acts : List Ac} (hB : ∀ y ∈ acts, AcB X F y) (hl : acts.length ≤ 1048576) (hr : RdR X F a (acrows acts).flatten) (h : Hp X S F) :
    Ok (ev (n + 1) (.fn 6) [.sl a acts.length c] S) fun v S' => ∃ r : Bool, v = .bool r ∧ S' = S ∧ (r = false → acts.length ≤ 30 ∧ wts acts acts.length ≤ 300) := by
  rw [ev, F6 _ _ _ _ _ (oL rfl)]
  simp only [J6, b6_entry]
  exact long_loop n hn (evF E orcL n) hB hl hr h n 0 0 (by omega) (by omega) (by omega) (by simp [wts]) ⟨by omega, by omega⟩

theorem ok_atP {l : List AV} {i : Nat} {a : Option Pos} {K : Option Pos → Option (AV × AS)} (h : l[i]? = some (.ptr a)) (ht : Ok (K a) Q) : Ok (atP l i K) Q := by simp only [atP, h, gP]; exact ht

theorem begun_ok (n : Nat) (hn : 1000010 < n) {count : Nat} (hc : 6 ≤ count) (h40 : count ≤ 40) (h : Hp X S F) :
    Ok (ev (n + 8) (.fn 8) [.int .i64 count] S) fun v S' => ∃ sb bj t Ls Lj, v = .tup [.ptr (some (.rw sb, 0)), .ptr (some (.rw bj, 0))] ∧ StB sb t Ls ∧ SI t count 0 ∧ JB bj sb (J1 count) Lj ∧ Hp X S' (Ls ++ (Lj ++ F)) := by
  rw [ev, F8 _ _ _ (oL rfl)]
  simp only [J8, b8_entry]
  refine ok_false (by simp; omega) (ok_false (by simp; omega) ?_)
  obtain ⟨v, S1, e1, sb, L1, rfl, hb1, h1⟩ : Ok (evF E orcL (n + 7) (.fn 18) [.int .i64 count] S) _ := newStore_ok (n + 6) (by omega) (by omega) h
  rw [callP_of e1]
  obtain ⟨v, S2, e2, rfl, L2, hb2, h2⟩ : Ok (evF E orcL (n + 7) (.fn 19) [dev sb, .int .i64 0, .int .i64 count] S1) _ := format_ok (n + 3) (by omega) hc (by omega) hb1 h1
  rw [callI_of e2, callI_of (num_eq (n + 6) _ S2)]
  refine ok_false rfl ?_
  obtain ⟨v, S3, e3, bj, t', L3, Lj, rfl, hb3, hSI, hj, h3⟩ : Ok (evF E orcL (n + 7) (.fn 25) [dev sb, .int .i64 0, .int .i64 count] S2) _ := open_ok n hn hc h40 h2 hb2
  rw [callT_of e3]
  refine ok_atP rfl (ok_atL rfl (ok_atI rfl ?_))
  rw [callI_of (num_eq (n + 6) _ S3)]
  exact ok_false rfl (ok_ret ⟨sb, bj, t', L3, Lj, rfl, hb3, hSI, hj, h3⟩)

end

end Go.Jn
