/- What the functions of package disk do with a heap: reading. -/
import Derived.Test.YtmehlagfkmnipaaDiskB
set_option linter.unusedVariables false
set_option linter.unusedSimpArgs false
set_option maxRecDepth 4000
namespace Go.Dk
open Go.Gr

/-- The loop over the queue, as it is kept. -/
noncomputable def LR (k : Nat) (x : AV) (qa : Option Pos) (ql : Nat) (qc : Cap) (b b1 b3 b5 : Nat) : ALoop :=
  { id := k, fn := 15, T := [(25, x), (24, .sl qa ql qc), (23, .ptr (some (.rw b, 2))), (22, .ptr (some (.rw b, 0))), (21, .ptr (some (.rw b, 0))), (0, .ptr (some (.rw b, 0))), (3, .ptr (some (.rw b1, 0))), (4, .ptr (some (.rw b3, 0))), (5, .ptr (some (.rw b5, 0)))],
    params := [26, 27], assign := E.at 15 [1, 1, 0, 1, 0, 0], body := E.at 15 [1, 1, 0, 1, 0, 1], st := .ready, pend := none }

section
variable {ro : Nat → Option (List AV)} {lp : List ALoop} {S : AS} {F : List Ent}

theorem read_yield (n : Nat) {k : Nat} {x : AV} {qa : Option Pos} {ql : Nat} {qc : Cap} {b b1 b3 b5 : Nat} {at_ : Int} {w : Nat × List UInt8} (i : Int) {c3 c5 : AV} (hw : w.2.length ≤ pow46)
    (h : Hp ⟨ro, LR k x qa ql qc b b1 b3 b5 :: lp⟩ S (C b1 [.int .i64 at_] :: C b3 [c3] :: C b5 [c5] :: F)) :
    Ok (ev (n + 1) (.yld k) [.int .i64 i, .agg (encW w)] S) fun v S' =>
      ((w.1 : Int) ≠ at_ ∧ v = .bool true ∧ Hp ⟨ro, LR k x qa ql qc b b1 b3 b5 :: lp⟩ S' (C b1 [.int .i64 at_] :: C b3 [c3] :: C b5 [c5] :: F)) ∨
      ((w.1 : Int) = at_ ∧ v = .bool false ∧ ∃ b58, Hp ⟨ro, { LR k x qa ql qc b b1 b3 b5 with st := .done, pend := some .ret } :: lp⟩ S' (C b58 (ofBytes w.2) :: C b1 [.int .i64 at_] :: C b3 [.sl (some (.rw b58, 0)) w.2.length (.op 1 w.2.length)] :: C b5 [.int .i64 0] :: F)) := by
  have hy := yld_run (E := E) (o := orcL) (n := n) (args := [.int .i64 i, .agg (encW w)]) h.lp rfl rfl
  rw [show (LR k x qa ql qc b b1 b3 b5).id = k from rfl] at hy
  rw [ev, hy]
  simp only [LR]
  rw [ya15_1_1_0_1_0]
  simp only [y15_1_1_0_1_0A]
  refine ok_newA h (fun b51 S52 h => ?_)
  refine ok_ifO rfl ?_
  refine ok_stn h (by simp [encW]) (d := encW w) (by simp [encW, splice]) (fun S53 h => ?_)
  have hn := yA_normal (E := E) (call := evF E orcL n) (n := n) (L := LR k x qa ql qc b b1 b3 b5) (ls := lp) (S := S53)
    (U := [(7, (.ptr (some ((.rw b51), 0)))), (27, (.agg (encW w))), (26, .int .i64 i), (25, x), (24, .sl qa ql qc), (23, .ptr (some (.rw b, 2))), (22, .ptr (some (.rw b, 0))), (21, .ptr (some (.rw b, 0))), (0, .ptr (some (.rw b, 0))), (3, .ptr (some (.rw b1, 0))), (4, .ptr (some (.rw b3, 0))), (5, .ptr (some (.rw b5, 0)))]) h.lp rfl
  simp only [LR] at hn
  rw [hn, yb15_1_1_0_1_0]
  simp only [y15_1_1_0_1_0B]
  have h' := h.loops (lp' := { LR k x qa ql qc b b1 b3 b5 with st := .busy } :: lp)
  refine ok_ldI h' rfl ?_
  refine ok_gO (ok_ldI h' rfl ?_)
  refine ok_cond (fun hc => ?_) (fun hc => ?_)
  · simp only [beq_iff_eq] at hc
    refine ok_ldS h' rfl ?_
    refine ok_ifO hw ?_
    refine ok_newA h' (fun b58 S59 h => ?_)
    refine ok_gO (ok_stn h (by simp) (d := [.sl (some (.rw b58, 0)) w.2.length (.op 1 w.2.length)]) (by simp [splice]) (fun S60 h => ?_))
    refine ok_gO (ok_stn h (by simp) (d := [.int .i64 0]) (by simp [splice]) (fun S62 h => ?_))
    have hk := yK_ret (L := { LR k x qa ql qc b b1 b3 b5 with st := .busy }) (ls := lp) (S := S62) h.lp
    simp only [LR] at hk
    rw [hk]
    refine ok_ret (.inr ⟨hc, rfl, b58, ?_⟩)
    have h2 := h.loops (lp' := { LR k x qa ql qc b b1 b3 b5 with st := .done, pend := some .ret } :: lp)
    exact (h2.re (M := C b51 (encW w) :: C b58 (ofBytes w.2) :: C b1 [.int .i64 at_] :: C b3 [.sl (some (.rw b58, 0)) w.2.length (.op 1 w.2.length)] :: C b5 [.int .i64 0] :: F) (by intro p; simp only [List.countP_append, List.countP_cons, C]; omega)).drop1
  · simp only [beq_eq_false_iff_ne] at hc
    have hk := yK_normal (L := { LR k x qa ql qc b b1 b3 b5 with st := .busy }) (ls := lp) (S := { S53 with loops := { LR k x qa ql qc b b1 b3 b5 with st := .busy } :: lp }) rfl
    simp only [LR] at hk
    rw [hk]
    exact ok_ret (.inl ⟨hc, rfl, (h'.loops (lp' := LR k x qa ql qc b b1 b3 b5 :: lp)).drop1⟩)
def lastOf (at_ : Int) (q : List (Nat × List UInt8)) : Nat → Option (List UInt8)
  | 0 => none
  | k + 1 => match q[k]? with
    | some w => if (w.1 : Int) = at_ then some w.2 else lastOf at_ q k
    | none => lastOf at_ q k

theorem ok_of_eq {q q' : Option (AV × AS)} {Q : AV → AS → Prop} (e : q = q') (h : Ok q' Q) : Ok q Q := by subst e; exact h

theorem callFB_yld {call : CallA} {k : Nat} {args : List AV} {S S' : AS} {v : Bool} {K : Bool → AS → Option (AV × AS)} (e : call (.yld k) args S = some (.bool v, S')) : callFB call (.yld k) args S K = K v S' := by
  simp [callFB, e, gB]

theorem back_loop (n n0 : Nat) {kk : Nat} {x : AV} {xa : Option Pos} {xl : Nat} {xc : Cap} {b b1 b3 b5 : Nat} {at_ : Int} (q : List (Nat × List UInt8)) (hq : ∀ w ∈ q, w.2.length ≤ 512) (hql : q.length ≤ 4096) {bc bq : Nat} {qc : Cap} {G : List Ent} {c3 c5 : AV} : ∀ (m k : Nat) (S : AS), k ≤ q.length → k < m →
    Hp ⟨ro, LR kk x xa xl xc b b1 b3 b5 :: lp⟩ S (C b1 [.int .i64 at_] :: C b3 [c3] :: C b5 [c5] :: C bc [.sl (some (.rw bq, 0)) q.length qc] :: C bq (q.map encW).flatten :: G) →
    Ok (J59_l1_0 (ev (n + 1)) n0 m (.yld kk) (.ptr (some (.rw bc, 0))) ((k : Int) - 1) S) fun v S' => v = .tup [] ∧
      ((lastOf at_ q k = none ∧ Hp ⟨ro, LR kk x xa xl xc b b1 b3 b5 :: lp⟩ S' (C b1 [.int .i64 at_] :: C b3 [c3] :: C b5 [c5] :: C bc [.sl (some (.rw bq, 0)) q.length qc] :: C bq (q.map encW).flatten :: G)) ∨
       ∃ s b58, lastOf at_ q k = some s ∧ Hp ⟨ro, { LR kk x xa xl xc b b1 b3 b5 with st := .done, pend := some .ret } :: lp⟩ S' (C b58 (ofBytes s) :: C b1 [.int .i64 at_] :: C b3 [.sl (some (.rw b58, 0)) s.length (.op 1 s.length)] :: C b5 [.int .i64 0] :: C bc [.sl (some (.rw bq, 0)) q.length qc] :: C bq (q.map encW).flatten :: G))
  | 0, k, S, hk, hm, h => by omega
  | m + 1, 0, S, hk, hm, h => by
    rw [J59_l1_0_succ]
    simp only [b59_l1_0]
    refine ok_false (by simp) ?_
    exact ok_ret ⟨rfl, .inl ⟨rfl, h⟩⟩
  | m + 1, k + 1, S, hk, hm, h => by
    rw [J59_l1_0_succ]
    simp only [b59_l1_0]
    have hlt : k < q.length := by omega
    obtain ⟨w, hw⟩ : ∃ w, q[k]? = some w := ⟨q[k], by simp [hlt]⟩
    have hmem : w ∈ q := List.mem_of_getElem? hw
    have hkm : (q.map encW)[k]? = some (encW w) := by simp [hw]
    have hfl := flat_len (encW_all q)
    rw [List.length_map] at hfl
    have ek : ((k + 1 : Nat) : Int) - 1 = (k : Nat) := by omega
    rw [ek]
    refine ok_true (by simp) ?_
    refine ok_gA (ok_ldL h rfl ?_)
    refine ok_ixSl (k := k) rfl hlt ?_
    refine ok_ldn h (by rw [hfl]; omega) (d := encW w) (by rw [Nat.zero_add]; exact flat_at (encW_all q) hkm) ?_
    obtain ⟨v, S7, e, hr⟩ := read_yield n (w := w) (k : Nat) (by have := hq w hmem; simp [pow46]; omega) h
    rcases hr with ⟨hne, rfl, h⟩ | ⟨heq, rfl, b58, h⟩
    · rw [callFB_yld e, wrap64 (by omega) (by omega)]
      refine ok_false rfl ?_
      refine (back_loop n n0 q hq hql m k S7 (by omega) (by omega) h).mono (fun v S' hh => ?_)
      have el : lastOf at_ q (k + 1) = lastOf at_ q k := by simp [lastOf, hw, hne]
      rw [el]; exact hh
    · rw [callFB_yld e]
      refine ok_true rfl (ok_ret ⟨rfl, .inr ⟨w.2, b58, by simp [lastOf, hw, heq], h⟩⟩)

/-- What Read tells: the bytes, the error. -/
def DM.read (D : DM) (at_ : Int) : List UInt8 × Int :=
  if D.inn at_ = false then ([], 2) else if D.off = true then ([], 41) else
  match lastOf at_ D.q D.q.length with
  | some s => (s, 0)
  | none => match D.secs[at_.toNat]? with
    | some x => if x.h = 1 then ([], 42) else (x.d, 0)
    | none => ([], 2)

variable {X : Cx} {L : List Ent} {b : Nat} {D : DM}

theorem pre_sec (x : Sec) : ((encSec x).take x.d.length) = ofBytes x.d := by
  simp only [encSec]
  rw [List.take_append_of_le_length (by simp)]
  rw [List.take_of_length_le (by simp)]

/-- A sector's bytes, cloned. -/
theorem clone_sec (n : Nat) {bs : Nat} {U : Option AObj → List Ent} (hwf : D.WF) (h : Hp X S L) [Sel bs L (some (.cells (D.secs.map encSec).flatten)) U] (k : Nat) {x : Sec} (hx : D.secs[k]? = some x) {c : Cap} :
    Ok (ev (n + 1) (.fn 42) [.sl (some (.rw bs, k * 513)) D.size c] S) fun v S' => ∃ a l c L', v = .sl a l c ∧ SlR a l c 1 (bxs x.d) L' ∧ Hp X S' (L' ++ L) := by
  have hm : x ∈ D.secs := List.mem_of_getElem? hx
  have hxl := hwf.s x hm
  have hmem : C bs (D.secs.map encSec).flatten ∈ L := by
    obtain ⟨M, p, _⟩ := Sel.out (b := bs) (L := L) (o := some (.cells (D.secs.map encSec).flatten)) (U := U)
    exact p.mem_iff.2 List.mem_cons_self
  have hat : (((D.secs.map encSec).flatten).drop (k * 513)).take 513 = encSec x := flat_at hwf.enc (by simp [hx])
  have hlt : k < D.secs.length := (List.getElem?_eq_some_iff.1 hx).1
  have hfl := flat_len hwf.enc
  rw [List.length_map] at hfl
  have hhi := hwf.hi
  rw [ev, F42 _ _ _ _ _ (oL rfl)]
  simp only [J42, b42_entry]
  refine ok_clone (xs := bxs x.d) h (.rw hmem ?_ ?_) (bxs_all _) (by simp [hxl]) (by decide) (by simp [pow46]; omega) (by simp [pow46]; omega) rfl (fun a l c S' L' hs h => ⟨a, l, c, L', rfl, hs, h⟩)
  · rw [bxs_flat, ofBytes_len, hfl]
    have := Nat.mul_le_mul_right 513 (Nat.succ_le_of_lt hlt)
    omega
  · rw [bxs_flat, ofBytes_len]
    rw [← pre_sec x, ← hat, List.take_take, Nat.min_eq_left (by omega)]
    

theorem read_ok (n : Nat) (hn : 4097 < n) (h : Hp X S (L ++ F)) (hd : Disk b D L) (at_ : Int) :
    Ok (ev (n + 3) (.fn 15) [.ptr (some (.rw b, 0)), .int .i64 at_] S) fun v S' => ∃ a l c L', v = .tup [.sl a l c, .int .i64 (D.read at_).2] ∧ SlR a l c 1 (bxs (D.read at_).1) L' ∧ Hp X S' (L' ++ (L ++ F)) := by
  have hd0 := hd
  obtain ⟨sa, sl, sc, qa, ql, qc, Ls, Lq, hR, rfl⟩ := hd
  have hql := hR.ql_eq
  have hwf := hR.wf
  rw [ev, F15 _ _ _ _ (oL rfl)]
  simp only [J15, b15_entry]
  refine ok_newA h (fun b1 S2 h => ?_)
  refine ok_newA h (fun b3 S4 h => ?_)
  refine ok_newA h (fun b5 S6 h => ?_)
  refine ok_false rfl ?_
  refine ok_ldI h rfl ?_
  have hp := h.re (M := (C b (hdr D sa sl sc qa ql qc) :: (Ls ++ Lq)) ++ (C b1 [.int .i64 at_] :: C b3 [.sl none 0 (.ex 0)] :: C b5 [.int .i64 0] :: F)) (by intro p; simp only [List.countP_append, List.countP_cons, List.cons_append, C]; omega)
  rw [callB_of (in_eq (n + 1) hp hd0 at_)]
  -- an error
  have err : ∀ e : Int, D.read at_ = ([], e) → ∀ S0 (c5 : AV), Hp X S0 (C b3 [.sl none 0 (.ex 0)] :: C b5 [c5] :: (C b (hdr D sa sl sc qa ql qc) :: (Ls ++ Lq)) ++ F) → Ok (S0.stn (.rw b3) 0 [.sl none 0 (.ex 0)] fun S8 => S8.stn (.rw b5) 0 [.int .i64 e] fun S9 => ldL S9 (.rw b3) 0 fun a l c => ldI .i64 S9 (.rw b5) 0 fun v => some (.tup [.sl a l c, .int .i64 v], S9)) fun v S' => ∃ a l c L', v = .tup [.sl a l c, .int .i64 (D.read at_).2] ∧ SlR a l c 1 (bxs (D.read at_).1) L' ∧ Hp X S' (L' ++ ((C b (hdr D sa sl sc qa ql qc) :: (Ls ++ Lq)) ++ F)) := by
    intro e he S0 c5 h
    refine ok_stn h (by simp) (d := [.sl none 0 (.ex 0)]) (by simp [splice]) (fun S8 h => ?_)
    refine ok_stn h (by simp) (d := [.int .i64 e]) (by simp [splice]) (fun S9 h => ?_)
    refine ok_ldL h rfl (ok_ldI h rfl (ok_ret ⟨none, 0, .ex 0, [], by rw [he], by rw [he]; exact .nil, h.drop1.drop1⟩))
  have h3 := h.re (M := C b1 [.int .i64 at_] :: (C b3 [.sl none 0 (.ex 0)] :: C b5 [.int .i64 0] :: (C b (hdr D sa sl sc qa ql qc) :: (Ls ++ Lq)) ++ F)) (by intro p; simp only [List.countP_append, List.countP_cons, List.cons_append, C]; omega)
  refine ok_cond (fun hc => err 2 (by simp only [Bool.not_eq_true'] at hc; simp [DM.read, hc]) _ _ h3.drop1) (fun hc => ?_)
  simp only [Bool.not_eq_false'] at hc
  refine ok_gO (ok_ldB h rfl ?_)
  refine ok_cond (fun hc2 => err 41 (by simp [DM.read, hc, hc2]) _ _ h3.drop1) (fun hc2 => ?_)
  refine ok_gO (ok_ldL h rfl ?_)
  have hBW : Ok (ev (n + 2) (.fn 41) [.sl qa ql qc] S6) fun v S' => ∃ bc, v = .fn 59 [] [.ptr (some (.rw bc, 0))] ∧ Hp X S' (C bc [.sl qa ql qc] :: C b5 [.int .i64 0] :: C b3 [.sl none 0 (.ex 0)] :: C b1 [.int .i64 at_] :: ((C b (hdr D sa sl sc qa ql qc) :: (Ls ++ Lq)) ++ F)) := by
    rw [ev, F41 _ _ _ _ _ (oL rfl)]
    simp only [J41, b41_entry]
    exact ok_newA h (fun bc S2 h => ok_ret ⟨bc, rfl, h⟩)
  obtain ⟨v27, S26, e27, bc, rfl, h⟩ := hBW
  rw [callV_of e27]
  obtain ⟨k, hk⟩ : ∃ k : Nat, at_ = k := by
    simp only [DM.inn, Bool.and_eq_true, decide_eq_true_eq] at hc
    exact ⟨at_.toNat, by omega⟩
  subst hk
  have hkl : k < D.secs.length := by
    simp only [DM.inn, Bool.and_eq_true, decide_eq_true_eq] at hc
    omega
  obtain ⟨x, hx⟩ : ∃ x, D.secs[k]? = some x := ⟨D.secs[k], by simp [hkl]⟩
  obtain ⟨bs, rfl, rfl, hsc, rfl⟩ := hR.secs
  -- what is done when the queue has nothing of it
  have rest : lastOf k D.q D.q.length = none → ∀ S28 F', F.Sublist F' → Hp X S28 (C b5 [.int .i64 0] :: C b3 [.sl none 0 (.ex 0)] :: C b1 [.int .i64 k] :: ((C b (hdr D (some (.rw bs, 0)) D.secs.length sc qa ql qc) :: ([C bs (D.secs.map encSec).flatten] ++ Lq)) ++ F')) →
      Ok (gO (some (Bid.rw b, 0)) fun p29 => ldL S28 p29.1 (p29.2 + 1) fun v30a v30l v30c => ldI .i64 S28 (.rw b1) 0 fun v31 => ixSl 513 v30a v30l v31 fun p32 => ldI .i64 S28 p32.1 (p32.2 + 512) fun v33 => cond (v33 == 1) (
        S28.stn (.rw b3) 0 [(.sl none 0 (.ex 0))] fun S34 => S34.stn (.rw b5) 0 [(.int .i64 42)] fun S35 => ldL S35 (.rw b3) 0 fun v36a v36l v36c => ldI .i64 S35 (.rw b5) 0 fun v37 => some (.tup [(.sl v36a v36l v36c), (.int .i64 v37)], S35)) (
        gO (some (Bid.rw b, 0)) fun p38 => ldL S28 p38.1 (p38.2 + 1) fun v39a v39l v39c => ldI .i64 S28 (.rw b1) 0 fun v40 => ixSl 513 v39a v39l v40 fun p41 => gO (some (Bid.rw b, 0)) fun p42 => ldI .i64 S28 p42.1 p42.2 fun v43 =>
        slArr 1 p41 512 none (some v43) none fun v44a v44l v44c => callL (ev (n + 2)) 42 [(.sl v44a v44l v44c)] S28 fun v46a v46l v46c S45 =>
        S45.stn (.rw b3) 0 [(.sl v46a v46l v46c)] fun S47 => S47.stn (.rw b5) 0 [(.int .i64 0)] fun S48 => ldL S48 (.rw b3) 0 fun v49a v49l v49c => ldI .i64 S48 (.rw b5) 0 fun v50 => some (.tup [(.sl v49a v49l v49c), (.int .i64 v50)], S48)))
        fun v S' => ∃ a l c L', v = .tup [.sl a l c, .int .i64 (D.read k).2] ∧ SlR a l c 1 (bxs (D.read k).1) L' ∧ Hp X S' (L' ++ ((C b (hdr D (some (.rw bs, 0)) D.secs.length sc qa ql qc) :: ([C bs (D.secs.map encSec).flatten] ++ Lq)) ++ F)) := by
    intro hno S28 F' hsub h
    have hrd : D.read k = if x.h = 1 then ([], 42) else (x.d, 0) := by simp [DM.read, hc, hc2, hno, hx]
    have hxm : x ∈ D.secs := List.mem_of_getElem? hx
    have hex := encSec_len (hwf.s x hxm) hwf.hi
    have hfl := flat_len hwf.enc
    rw [List.length_map] at hfl
    refine ok_gO (ok_ldL h rfl (ok_ldI h rfl ?_))
    refine ok_ixSl (k := k) rfl hkl ?_
    refine ok_ldI h (n := x.h) ?_ ?_
    · rw [Nat.zero_add, flat_get hwf.enc (x := encSec x) (by simp [hx]) (by decide)]
      have hl := hwf.s x hxm
      have hi := hwf.hi
      simp only [encSec]
      rw [List.getElem?_append_right (by simp; omega), List.getElem?_append_right (by simp)]
      simp
    refine ok_cond (fun hc3 => ?_) (fun hc3 => ?_)
    · simp only [beq_iff_eq] at hc3
      refine err 42 (by rw [hrd, if_pos hc3]) S28 (.int .i64 0) ?_
      refine (h.re (M := C b1 [.int .i64 k] :: (C b3 [.sl none 0 (.ex 0)] :: C b5 [.int .i64 0] :: (C b (hdr D (some (.rw bs, 0)) D.secs.length sc qa ql qc) :: ([C bs (D.secs.map encSec).flatten] ++ Lq)) ++ F')) (by intro p; simp only [List.countP_append, List.countP_cons, List.cons_append, C]; omega)).drop1.sub ?_
      exact List.Sublist.append (List.Sublist.refl _) hsub
    · simp only [beq_eq_false_iff_ne] at hc3
      refine ok_gO (ok_ldL h rfl (ok_ldI h rfl ?_))
      refine ok_ixSl (k := k) rfl hkl ?_
      refine ok_gO (ok_ldI h rfl ?_)
      rw [slArr_pre (by decide) hwf.hi rfl]
      obtain ⟨v, S45, e, a, l, c, L', rfl, hs, h⟩ := clone_sec (bs := bs) (n + 1) hwf h k hx (c := .ex 512)
      rw [Nat.zero_add, callL_of e]
      refine ok_stn h (by simp) (d := [.sl a l c]) (by simp [splice]) (fun S47 h => ?_)
      refine ok_stn h (by simp) (d := [.int .i64 0]) (by simp [splice]) (fun S48 h => ?_)
      refine ok_ldL h rfl (ok_ldI h rfl (ok_ret ⟨a, l, c, L', by rw [hrd, if_neg hc3], by rw [hrd, if_neg hc3]; exact hs, ?_⟩))
      refine Hp.sub (L := L' ++ ((C b (hdr D (some (.rw bs, 0)) D.secs.length sc qa ql qc) :: ([C bs (D.secs.map encSec).flatten] ++ Lq)) ++ F')) ?_ (List.Sublist.append (List.Sublist.refl _) (List.Sublist.append (List.Sublist.refl _) hsub))
      exact (h.re (M := C b5 [.int .i64 0] :: C b3 [.sl a l c] :: C b1 [.int .i64 k] :: (L' ++ ((C b (hdr D (some (.rw bs, 0)) D.secs.length sc qa ql qc) :: ([C bs (D.secs.map encSec).flatten] ++ Lq)) ++ F'))) (by intro p; simp only [List.countP_append, List.countP_cons, List.cons_append, C]; omega)).drop1.drop1.drop1
  refine ok_rangeF (ro := X.ro) (lp := X.lp) h (fun kk S' h => ?_)
  show Ok (ev (n + 2) (.fn 59) [.yld kk, .ptr (some (.rw bc, 0))] S') _
  change Hp ⟨X.ro, LR kk (.fn 59 [] [.ptr (some (.rw bc, 0))]) qa ql qc b b1 b3 b5 :: X.lp⟩ S' _ at h
  rw [ev, F59 _ _ _ _ (oL rfl)]
  simp only [J59, b59_entry]
  refine ok_gA (ok_ldL h rfl ?_)
  have hq5 : ∀ w ∈ D.q, w.2.length ≤ 512 := fun w hw => by rw [(hwf.q w hw).2]; exact hwf.hi
  have hq4 := hwf.ql
  rw [wrap64 (by omega) (by omega)]
  rcases hR.queue with ⟨rfl, hq0, rfl, hq, rfl⟩ | ⟨bq, rfl, _, hqc, rfl⟩
  · subst hq0
    rw [J59_l1_0_succ]
    simp only [b59_l1_0]
    refine ok_false (by simp) (ok_ret (.inl ⟨_, h, fun S3 h3 => ?_⟩))
    refine rest (by rw [hq]; rfl) S3 F (List.Sublist.refl _) h3.drop1
  · subst hql
    have h' := h.re (M := C b1 [.int .i64 k] :: C b3 [.sl none 0 (.ex 0)] :: C b5 [.int .i64 0] :: C bc [.sl (some (.rw bq, 0)) D.q.length qc] :: C bq (D.q.map encW).flatten :: (C b (hdr D (some (.rw bs, 0)) D.secs.length sc (some (.rw bq, 0)) D.q.length qc) :: C bs (D.secs.map encSec).flatten :: F)) (by intro p; simp only [List.countP_append, List.countP_cons, List.countP_nil, List.cons_append, C]; omega)
    refine (back_loop n (n + 1) D.q hq5 hq4 (n + 1) D.q.length S' (Nat.le_refl _) (by omega) h').mono ?_
    rintro v S'' ⟨rfl, ⟨hno, h2⟩ | ⟨s, b58, hs, h2⟩⟩
    · refine .inl ⟨_, h2, fun S3 h3 => ?_⟩
      refine rest hno S3 F (List.Sublist.refl _) ?_
      exact (h3.re (M := C bc [.sl (some (.rw bq, 0)) D.q.length qc] :: (C b5 [.int .i64 0] :: C b3 [.sl none 0 (.ex 0)] :: C b1 [.int .i64 k] :: ((C b (hdr D (some (.rw bs, 0)) D.secs.length sc (some (.rw bq, 0)) D.q.length qc) :: ([C bs (D.secs.map encSec).flatten] ++ [C bq (D.q.map encW).flatten])) ++ F))) (by intro p; simp only [List.countP_append, List.countP_cons, List.countP_nil, List.cons_append, C]; omega)).drop1
    · refine .inr ⟨.ret, _, h2, fun S3 h3 => ?_⟩
      have hy := yr15_1_1_0_1_0 (ev (n + 2)) (n + 2) (.fn 59 [] [.ptr (some (.rw bc, 0))]) (some (.rw bq, 0)) D.q.length qc (some (.rw b, 2)) (some (.rw b, 0)) (some (.rw b, 0)) (some (.rw b, 0)) (some (.rw b1, 0)) (some (.rw b3, 0)) (some (.rw b5, 0)) S3
      refine ok_of_eq hy ?_
      have hrd : D.read k = (s, 0) := by simp [DM.read, hc, hc2, hs]
      refine ok_gO (ok_ldL h3 rfl (ok_gO (ok_ldI h3 rfl (ok_ret ⟨some (.rw b58, 0), s.length, .op 1 s.length, [C b58 (bxs s).flatten], by rw [hrd], by rw [hrd]; exact .of (bxs_all s) (by simp) (.inr rfl), ?_⟩))))
      rw [bxs_flat]
      exact (h3.re (M := C b1 [.int .i64 k] :: C b3 [.sl (some (.rw b58, 0)) s.length (.op 1 s.length)] :: C b5 [.int .i64 0] :: C bc [.sl (some (.rw bq, 0)) D.q.length qc] :: ([C b58 (ofBytes s)] ++ ((C b (hdr D (some (.rw bs, 0)) D.secs.length sc (some (.rw bq, 0)) D.q.length qc) :: ([C bs (D.secs.map encSec).flatten] ++ [C bq (D.q.map encW).flatten])) ++ F))) (by intro p; simp only [List.countP_append, List.countP_cons, List.countP_nil, List.cons_append, C]; omega)).drop1.drop1.drop1.drop1
end

end Go.Dk
