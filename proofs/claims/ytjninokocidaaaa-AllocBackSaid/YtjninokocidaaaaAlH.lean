/- What the law's own functions do with a heap: an allocator behind a list of acts. -/
import Derived.Test.YtjninokocidaaaaAlG
set_option linter.unusedVariables false
set_option linter.unusedSimpArgs false
set_option maxRecDepth 4000
namespace Go.Al
open Go.Gr

/-- An act as it lies in a list. -/
def arow (x : Int × Int) : List AV := [.int .i64 x.1, .int .i64 x.2]
def ActsR (X : Cx) (a : Option Pos) (acts : List (Int × Int)) : Prop := RdR X [] a (acts.map arow).flatten

theorem AM.plays_snoc (A : AM) (acts : List (Int × Int)) (y : Int × Int) : A.plays (acts ++ [y]) = if y.1 = 9 then A.plays acts else (A.plays acts).act y.1 y.2 := by
  simp only [AM.plays, List.foldl_append, List.foldl_cons, List.foldl_nil]

section
variable {X : Cx} {S : AS} {L F : List Ent} {b : Nat} {A : AM} {Q : AV → AS → Prop}

theorem acts_at {a : Option Pos} {acts : List (Int × Int)} (h : ActsR X a acts) (hp : Hp X S L) {i : Nat} (hi : i < acts.length) : ∃ x p, acts[i]? = some x ∧ a = some p ∧ (∀ {β : Type} (K : List AV → Option β), S.ldn p.1 (p.2 + i * 2) 2 K = K (arow x)) ∧
    (∀ (K : Int → Option (AV × AS)), ldI .i64 S p.1 (p.2 + i * 2) K = K x.1) ∧ (∀ (K : Int → Option (AV × AS)), ldI .i64 S p.1 (p.2 + i * 2 + 1) K = K x.2) := by
  have hx : acts[i]? = some acts[i] := List.getElem?_eq_getElem hi
  have hr : (acts.map arow)[i]? = some (arow acts[i]) := by rw [List.getElem?_map, hx]; rfl
  have hall : ∀ r ∈ acts.map arow, r.length = 2 := fun r hr => by obtain ⟨z, _, rfl⟩ := List.mem_map.1 hr; rfl
  obtain ⟨p, rfl⟩ := RdR.some_of h (by
    intro he
    have := flat_len hall
    rw [he] at this; simp at this; omega)
  have h' : RdR X L (some p) (acts.map arow).flatten := RdR.mono h (by intro e he; cases he)
  refine ⟨acts[i], p, hx, rfl, fun K => h'.elem hp hall hr K, fun K => ?_, fun K => ?_⟩
  · exact h'.ldI hp (by have := flat_get (j := 0) hall hr (by omega); exact this)
  · rw [Nat.add_assoc]
    exact h'.ldI hp (by have := flat_get (j := 1) hall hr (by omega); exact this)

/-- An allocator behind a list of acts. -/
abbrev BegQ (X : Cx) (F : List Ent) (x : Int) (acts : List (Int × Int)) : AV → AS → Prop := fun v S' => (¬ right x ∧ v = .ptr none ∧ Hp X S' F) ∨ (right x ∧ ∃ (b : Nat) (A : AM) (L M : List Ent), v = .ptr (some (.rw b, 0)) ∧ Alloc b A L ∧ A.WF ∧ A.s.length = x.toNat ∧ A.h ≤ 80 ∧ A = AM.plays ⟨List.replicate x.toNat 0, [], [], 0, 0⟩ acts ∧ Hp X S' (L ++ (M ++ F)))

theorem begun_loop (n0 n : Nat) (hn : 1000000 < n) {x : Int} (hx : right x) (hx2 : x ≤ 200) {a : Option Pos} {c : Cap} {acts : List (Int × Int)} (ha : ActsR X a acts) (h80 : acts.length ≤ 80) {b b2 N : Nat} (hN : N ≤ 256) :
    ∀ (m i : Nat) (A : AM) (L L2 M : List Ent) (S : AS), i ≤ acts.length → acts.length - i < m → Alloc b A L → A.WF → A.s.length = x.toNat → A.h ≤ i → A = AM.plays ⟨List.replicate x.toNat 0, [], [], 0, 0⟩ (acts.take i) → RefB b2 N i L2 → Hp X S (L ++ (L2 ++ (M ++ F))) →
      Ok (J17_l1_1_1_1_0_1_0 (evF E orcL (n + 302)) n0 m a acts.length c (some (.rw b, 0)) (some (.rw b2, 0)) i S) (BegQ X F x acts)
  | 0, i, A, L, L2, M, S, hi, hm, hal, hw, hl, hh, hpl, hr, h => by omega
  | m + 1, i, A, L, L2, M, S, hi, hm, hal, hw, hl, hh, hpl, hr, h => by
    rw [J17_l1_1_1_1_0_1_0_succ]
    simp only [b17_l1_1_1_1_0_1_0]
    refine ok_cond (fun hc => ?_) (fun hc => ok_ret (.inr ⟨hx, b, A, L, L2 ++ M, rfl, hal, hw, hl, by omega, by simp only [decide_eq_false_iff_not] at hc; rw [hpl, List.take_of_length_le (by omega)], by rw [List.append_assoc]; exact h⟩))
    simp only [decide_eq_true_eq] at hc
    have hlt : i < acts.length := by omega
    obtain ⟨y, p, hy, rfl, hld, hk, _⟩ := acts_at ha h hlt
    have next : ∀ (A : AM) (L L2 M : List Ent) (S : AS), Alloc b A L → A.WF → A.s.length = x.toNat → A.h ≤ i + 1 → A = AM.plays ⟨List.replicate x.toNat 0, [], [], 0, 0⟩ (acts.take (i + 1)) → RefB b2 N (i + 1) L2 → Hp X S (L ++ (L2 ++ (M ++ F))) →
        Ok (J17_j1_1_1_1_0_1_0_0_1_1 (evF E orcL (n + 302)) n0 (J17_l1_1_1_1_0_1_0 (evF E orcL (n + 302)) n0 m) (some p) acts.length c (some (.rw b, 0)) (some (.rw b2, 0)) i S) (BegQ X F x acts) := by
      intro A L L2 M S h1 h2 h3 h4 h45 h5 h6
      simp only [J17_j1_1_1_1_0_1_0_0_1_1, b17_j1_1_1_1_0_1_0_0_1_1]
      rw [wn (x := (i : Int) + 1) (n := i + 1) (by omega) (by omega)]
      exact begun_loop n0 n hn hx hx2 ha h80 hN m (i + 1) A L L2 M S (by omega) (by omega) h1 h2 h3 h4 h45 h5 h6
    have htk : acts.take (i + 1) = acts.take i ++ [y] := by rw [List.take_add_one, hy]; rfl
    have hst : AM.plays ⟨List.replicate x.toNat 0, [], [], 0, 0⟩ (acts.take (i + 1)) = if y.1 = 9 then A else A.act y.1 y.2 := by
      rw [htk, AM.plays_snoc, ← hpl]
    rw [ixSl_at rfl hlt, hk]
    refine ok_cond (fun hne => ?_) (fun heq => next A L L2 M S hal hw hl (by omega) (by simp only [bne_eq_false_iff_eq] at heq; rw [hst, if_pos heq]) (hr.more (Nat.le_succ _)) h)
    simp only [bne_iff_ne, ne_eq] at hne
    rw [ixSl_at rfl hlt, hld]
    have hxx := hx
    unfold right at hxx
    obtain ⟨v, S1, e, q, L1, L21, M1, rfl, e1, e2, e3, e4, e5, e6⟩ := act_ok n hn h hal hw (by omega) (by omega) hr (by omega) hN (k := y.1) (x := y.2) hne
    have e' : evF E orcL (n + 302) (.fn 31) [.ptr (some (.rw b, 0)), .ptr (some (.rw b2, 0)), .agg (arow y)] S = some (.tup [.ptr (some (.rw b, 0)), .bool q], S1) := e
    rw [callT_of e']
    exact next _ L1 L21 (M1 ++ M) S1 e1 e2 (by omega) (by omega) (by rw [hst, if_neg hne]) e5 (by rw [List.append_assoc]; exact e6)

theorem begun_ok (n : Nat) (hn : 1000000 < n) (h : Hp X S F) {x : Int} (hx2 : x ≤ 200) {a : Option Pos} {c : Cap} {acts : List (Int × Int)} (ha : ActsR X a acts) (h80 : acts.length ≤ 80) :
    Ok (ev (n + 303) (.fn 17) [.int .i64 x, .sl a acts.length c] S) (BegQ X F x acts) := by
  rw [ev, F17 _ _ _ _ _ _ (oL rfl)]
  simp only [J17, b17_entry]
  obtain ⟨v, S1, e, hA⟩ : Ok (evF E orcL (n + 302) (.fn 10) [.int .i64 x] S) _ := new_ok (n + 301) h x
  rcases hA with ⟨hx, rfl, rfl⟩ | ⟨hx, b, L, rfl, hal, h1⟩
  · rw [callT_of e]
    refine ok_atP rfl (ok_atI rfl ?_)
    obtain ⟨v, S2, e, hB⟩ : Ok (evF E orcL (n + 302) (.fn 41) [.int .i64 x] S1) _ := rnew_ok (n + 301) h x
    rcases hB with ⟨_, rfl, rfl⟩ | ⟨hx', _⟩
    · rw [callT_of e]
      refine ok_atP rfl (ok_atI rfl ?_)
      rw [callI_of (num_eq (n + 301) 2 S2)]
      exact ok_true rfl (ok_ret (.inl ⟨hx, rfl, h⟩))
    · exact absurd hx' hx
  · rw [callT_of e]
    refine ok_atP rfl (ok_atI rfl ?_)
    obtain ⟨v, S2, e, hB⟩ : Ok (evF E orcL (n + 302) (.fn 41) [.int .i64 x] S1) _ := rnew_ok (n + 301) h1 x
    rcases hB with ⟨hx', _⟩ | ⟨_, b2, L2, rfl, hr, h2⟩
    · exact absurd hx hx'
    · rw [callT_of e]
      refine ok_atP rfl (ok_atI rfl ?_)
      rw [callI_of (num_eq (n + 301) 0 S2)]
      refine ok_false rfl (ok_false rfl (ok_false rfl ?_))
      have hxx := hx
      unfold right at hxx
      refine begun_loop (n + 302) n hn hx hx2 ha h80 (N := x.toNat) (by omega) (n + 302) 0 _ L L2 [] S2 (by omega) (by omega) hal ?_ (by simp) (by simp) rfl hr (h2.re (by intro p; simp only [List.countP_append, List.countP_nil]; omega))
      refine ⟨by simp, fun b => ?_, by simp, fun b => ?_, by simp, by simp; omega, by simp⟩
      · simp [List.getElem?_replicate]
      · simp [List.getElem?_replicate]

end

end Go.Al

namespace Go.Al
open Go.Gr

abbrev TrueQ : AV → AS → Prop := fun v S' => v = .bool true

theorem live_ok (n : Nat) (S : AS) : Ok (callB (evF E orcL (n + 1)) 12 [] S fun v S => some (.bool v, S)) TrueQ := by
  have e : evF E orcL (n + 1) (.fn 12) [] S = some (.bool true, S) := by simp [evF, orcL]
  rw [callB_of e]; exact ok_ret rfl

theorem AM.res_r (A : AM) (x : Int) : A.r - 1 ≤ (A.res x).r := by unfold AM.res AM.takes; split <;> simp
theorem AM.take_r (A : AM) (x : Int) : (A.take x).r = A.r := by unfold AM.take AM.takes; split <;> simp

section
variable {X : Cx} {S : AS} {L F : List Ent} {b : Nat} {A : AM} {Q : AV → AS → Prop}

theorem res_inner (n0 n : Nat) (hn : 1000000 < n) {bl : Nat} (h1 : 1 ≤ bl) (h2 : bl ≤ 200) {bet : Int} (hbet : bet ≤ 10) {cnt : Int} {i : Nat} (hi : i ≤ 200) {b : Nat} {Lo : AV → Int → Int → Int → Option Pos → Int → AS → Option (AV × AS)} {r : Nat} (hr0 : 0 < r)
    (hout : ∀ (A : AM) (L M : List Ent) (S : AS), Alloc b A L → A.WF → A.s.length = bl → r - 1 ≤ A.r → Hp X S (L ++ (M ++ F)) → Ok (Lo .undef bl cnt bet (some (.rw b, 0)) ((i + 1 : Nat) : Int) S) TrueQ) :
    ∀ (m j : Nat) (A : AM) (L M : List Ent) (S : AS), 10 - j < m → j ≤ 10 → Alloc b A L → A.WF → A.s.length = bl → r ≤ A.r → Hp X S (L ++ (M ++ F)) →
      Ok (J5_l1_1_1_1_1_1_0_1_0_0_1_0_0_0_1_0 (evF E orcL (n + 303)) n0 Lo m bl cnt bet (some (.rw b, 0)) i j S) TrueQ
  | 0, j, A, L, M, S, hm, hj, hal, hw, hl, hr, h => by omega
  | m + 1, j, A, L, M, S, hm, hj, hal, hw, hl, hr, h => by
    rw [J5_l1_1_1_1_1_1_0_1_0_0_1_0_0_0_1_0_succ]
    simp only [b5_l1_1_1_1_1_1_0_1_0_0_1_0_0_0_1_0]
    have hwt := hw.tl
    have hmod : (0 : Int) ≤ Int.tmod (i : Int) (bl : Int) ∧ Int.tmod (i : Int) (bl : Int) < bl := by
      rw [Int.tmod_eq_emod_of_nonneg (by omega)]
      exact ⟨Int.emod_nonneg _ (by omega), Int.emod_lt_of_pos _ (by omega)⟩
    refine ok_cond (fun hc => ?_) (fun hc => ?_)
    · simp only [decide_eq_true_eq] at hc
      refine ok_nz (by omega) ?_
      obtain ⟨v, S1, e, rfl, L1, ha1, h1'⟩ : Ok (evF E orcL (n + 303) (.fn 13) [.ptr (some (.rw b, 0)), .int .i64 (Int.tmod (i : Int) (bl : Int))] S) _ := take_ok (n + 300) (by omega) h hal (by omega) _
      rw [callT_of e, wn (x := (j : Int) + 1) (n := j + 1) (by omega) (by omega)]
      exact res_inner n0 n hn h1 h2 hbet hi hr0 hout m (j + 1) _ L1 M S1 (by omega) (by omega) ha1 (hw.take _) (by simpa using hl) (by rw [AM.take_r]; exact hr) h1'
    · simp only [J5_j1_1_1_1_1_1_0_1_0_0_1_0_0_1, b5_j1_1_1_1_1_1_0_1_0_0_1_0_0_1]
      refine ok_nz (by omega) ?_
      obtain ⟨v, S1, e, rfl, L1, ha1, h1'⟩ : Ok (evF E orcL (n + 303) (.fn 20) [.ptr (some (.rw b, 0)), .int .i64 (Int.tmod (i : Int) (bl : Int))] S) _ := res_ok (n + 300) (by omega) h hal hw _
      have he : A.resE (Int.tmod (i : Int) (bl : Int)) = 0 := by
        unfold AM.resE
        rw [if_neg (by rw [hl]; omega), if_neg (by omega)]
      rw [callT_of e]
      refine ok_atI rfl (ok_atI rfl ?_)
      rw [callI_of (num_eq (n + 302) _ S1), he]
      refine ok_false rfl ?_
      rw [wn (x := (i : Int) + 1) (n := i + 1) (by omega) (by omega)]
      have := A.res_r (Int.tmod (i : Int) (bl : Int))
      exact hout _ L1 M S1 ha1 (hw.res _) (by simpa using hl) (by omega) h1'

theorem res_outer (n0 n : Nat) (hn : 1000000 < n) (hn0 : 10 < n0) {bl : Nat} (h1 : 1 ≤ bl) (h2 : bl ≤ 200) {bet : Int} (hbet : bet ≤ 10) {cnt : Int} (hcnt : cnt ≤ 200) {b : Nat} :
    ∀ (m i : Nat) (w2 : AV) (A : AM) (L M : List Ent) (S : AS), 200 - i < m → i ≤ 200 → Alloc b A L → A.WF → A.s.length = bl → cnt ≤ (A.r : Int) + i → Hp X S (L ++ (M ++ F)) →
      Ok (J5_l1_1_1_1_1_1_0_1_0 (evF E orcL (n + 303)) n0 m w2 bl cnt bet (some (.rw b, 0)) i S) TrueQ
  | 0, i, w2, A, L, M, S, hm, hi, hal, hw, hl, hr, h => by omega
  | m + 1, i, w2, A, L, M, S, hm, hi, hal, hw, hl, hr, h => by
    rw [J5_l1_1_1_1_1_1_0_1_0_succ]
    simp only [b5_l1_1_1_1_1_1_0_1_0]
    refine ok_cond (fun hc => ?_) (fun hc => live_ok (n + 302) S)
    simp only [decide_eq_true_eq] at hc
    exact res_inner n0 n hn h1 h2 hbet hi (r := A.r) (by omega) (fun A1 L1 M1 S1 e1 e2 e3 e4 e5 => res_outer n0 n hn hn0 h1 h2 hbet hcnt m (i + 1) .undef A1 L1 M1 S1 (by omega) (by omega) e1 e2 e3 (by omega) e5) n0 0 A L M S (by omega) (by omega) hal hw hl (Nat.le_refl _) h

theorem reserved_run (n : Nat) (hn : 1000000 < n) (h : Hp X S F) {a : Option Pos} {c : Cap} {acts : List (Int × Int)} (ha : ActsR X a acts) (bl cnt bet : Int) :
    Ok (ev (n + 304) (.fn 5) [.agg [.int .i64 bl, .sl a acts.length c, .int .i64 cnt, .int .i64 bet]] S) TrueQ := by
  rw [ev, F5 _ _ _ (oL rfl)]
  simp only [J5, b5_entry]
  refine ok_ifO rfl (ok_newA h (fun b1 S2 h1 => ok_ldI h1 rfl (ok_ldL h1 rfl (ok_ldI h1 rfl (ok_ldI h1 rfl ?_)))))
  refine ok_cond (fun _ => live_ok (n + 302) S2) (fun c1 => ok_cond (fun _ => live_ok (n + 302) S2) (fun c2 => ok_cond (fun _ => live_ok (n + 302) S2) (fun c3 => ok_cond (fun _ => live_ok (n + 302) S2) (fun c4 => ok_cond (fun _ => live_ok (n + 302) S2) (fun c5 => ok_cond (fun _ => live_ok (n + 302) S2) (fun c6 => ?_))))))
  simp only [gt_iff_lt, decide_eq_false_iff_not] at c1 c2 c3 c4 c5 c6
  obtain ⟨v, S3, e, hB⟩ := begun_ok n hn h1 (x := bl) (by omega) (c := c) ha (by omega)
  rcases hB with ⟨hx, rfl, h3⟩ | ⟨hx, b, A, L, M, rfl, hal, hw, hl, hh, hpl, h3⟩
  · rw [callP_of e]
    refine ok_true rfl (ok_true ?_ (live_ok (n + 302) S3))
    unfold right at hx
    simp only [decide_eq_true_eq]; omega
  · rw [callP_of e]
    refine ok_false rfl ?_
    unfold right at hx
    obtain ⟨v, S4, e, rfl, L4, ha4, h4⟩ : Ok (evF E orcL (n + 303) (.fn 22) [.ptr (some (.rw b, 0)), .int .i64 cnt] S3) _ := reserve_ok (n + 302) h3 hal hw cnt
    rw [callI_of e, callI_of (num_eq (n + 302) _ S4)]
    refine ok_cond (fun hc => ?_) (fun hc => ?_)
    · simp only [bne_iff_ne, ne_eq] at hc
      have hgt : cnt > (A.s.count 0 : Nat) - (A.r : Int) := by
        unfold AM.reserveE at hc
        rw [if_neg (by omega)] at hc
        split at hc
        · assumption
        · exact absurd rfl hc
      have hs : A.reserve cnt = A := by unfold AM.reserve; rw [if_neg hc]
      rw [hs] at ha4
      have hrf := hw.rf
      have hcl : A.s.count 0 ≤ A.s.length := List.count_le_length
      rw [callI_of (show evF E orcL (n + 303) (.fn 15) [.ptr (some (.rw b, 0))] S4 = _ from free_eq (n + 302) h4 ha4), callI_of (show evF E orcL (n + 303) (.fn 23) [.ptr (some (.rw b, 0))] S4 = _ from reserved_eq (n + 302) h4 ha4)]
      rw [wz (z := ((A.s.count 0 : Nat) : Int) - (A.r : Int)) rfl (by omega) (by omega)]
      exact ok_true (by simp only [decide_eq_true_eq]; omega) (live_ok (n + 302) S4)
    · simp only [bne_eq_false_iff_eq] at hc
      have hs : A.reserve cnt = { A with r := A.r + cnt.toNat } := by unfold AM.reserve; rw [if_pos hc]
      have hwr := hw.reserve cnt
      rw [hs] at ha4 hwr
      obtain ⟨bn, rfl⟩ : ∃ k : Nat, bl = (k : Int) := ⟨bl.toNat, by omega⟩
      exact res_outer (n + 303) n hn (by omega) (by omega) (by omega) (by omega) (by omega) (n + 303) 0 _ _ L4 M S4 (by omega) (by omega) ha4 hwr (by simpa using hl) (by show cnt ≤ ((A.r + cnt.toNat : Nat) : Int) + (0 : Nat); omega) h4

end

end Go.Al
