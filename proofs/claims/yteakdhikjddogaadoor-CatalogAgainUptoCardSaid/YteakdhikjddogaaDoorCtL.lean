/- What the functions of package catalog do with a heap: ticks kept, by the program. -/
import Derived.Test.YteakdhikjddogaaDoorCtK
set_option linter.unusedVariables false
set_option linter.unusedSimpArgs false
set_option maxRecDepth 4000
namespace Go.Ct
open Go.Gr

/-- The loop over the ticks, as it is kept. -/
noncomputable def KR (k : Nat) (v : AV) (ta : Option Pos) (tl : Nat) (tc : Cap) (b7 b27 b32 : Nat) (ra : Option Pos) (rl : Nat) (rc : Cap) (rn ri : Int) : ALoop :=
  { id := k, fn := 11, T := [(50, v), (49, .sl ta tl tc), (1, .sl ta tl tc), (5, .ptr (some (.rw b7, 0))), (9, .ptr (some (.rw b27, 0))), (10, .ptr (some (.rw b32, 0))), (42, .sl ra rl rc), (43, .int .i64 rn), (44, .int .i64 ri)],
    params := [51, 52], assign := E.at 11 [1, 1, 1, 1, 1, 0, 1, 0, 0, 1, 1, 0, 0, 1, 1, 1, 0, 0], body := E.at 11 [1, 1, 1, 1, 1, 0, 1, 0, 0, 1, 1, 0, 0, 1, 1, 1, 0, 1], st := .ready, pend := none }

/-- Boxes that were met. -/
def bmap (bx : List Int) : List (AV × AV) := bx.map fun q => (AV.int .u64 q, AV.bool true)
@[simp] theorem bmap_len (bx : List Int) : (bmap bx).length = bx.length := by simp [bmap]
theorem findA_bmap (q : Int) : ∀ bx : List Int, findA (.int .u64 q) (bmap bx) = if q ∈ bx then some (.bool true) else none
  | [] => rfl
  | x :: bx => by
    have ih := findA_bmap q bx
    simp only [bmap, List.map_cons, findA, AV.beq, decide_true, Bool.true_and] at ih ⊢
    by_cases h : q = x
    · simp [h]
    · have hb : (q == x) = false := by simpa using h
      rw [hb, cond_false, ih]
      simp [h]
theorem updA_bmap {q : Int} : ∀ {bx : List Int}, q ∉ bx → updA (.int .u64 q) (.bool true) (bmap bx) = bmap (bx ++ [q])
  | [], _ => rfl
  | x :: bx, h => by
    simp only [List.mem_cons, not_or] at h
    have ih := updA_bmap (bx := bx) h.2
    simp only [bmap, List.map_cons, List.cons_append, updA, AV.beq, decide_true, Bool.true_and] at ih ⊢
    have hb : (q == x) = false := by simpa using h.1
    rw [hb, cond_false, ih]

theorem ok_of_eq {q q' : Option (AV × AS)} {Q : AV → AS → Prop} (e : q = q') (h : Ok q' Q) : Ok q Q := by rw [e]; exact h
theorem ok_gB {x : Bool} {K : Bool → Option (AV × AS)} {Q : AV → AS → Prop} (h : Ok (K x) Q) : Ok (gB (.bool x) K) Q := h
theorem callFB_yld {β : Type} {call : CallA} {k : Nat} {args : List AV} {S S' : AS} {v : Bool} {K : Bool → AS → Option β} (e : call (.yld k) args S = some (.bool v, S')) : callFB call (.yld k) args S K = K v S' := by simp [callFB, e, gB]
theorem bool_splice {l : List Bool} {i : Nat} (v : Bool) (h : i < l.length) : splice (l.map AV.bool) i [.bool v] = (l.set i v).map AV.bool := by
  rw [splice, List.set_eq_take_append_cons_drop, if_pos h]
  simp [List.map_take, List.map_drop]

abbrev KB (F : List Ent) (r : Int × Int) (b27 b32 b30 b7 b3 len : Nat) (bx : List Int) (o : List Bool) : List Ent :=
  C b27 (rrow r) :: C b32 [.mp (some b30)] :: (b30, some (.map (.int .u64) (bmap bx))) :: C b7 [.sl (some (.rw b3, 0)) len (.ex len)] :: C b3 (o.map AV.bool) :: F

section
variable {ro : Nat → Option (List AV)} {lp : List ALoop} {S : AS} {F : List Ent}

theorem keep_yield (n : Nat) {k : Nat} {v : AV} {ta : Option Pos} {tl : Nat} {tc : Cap} {b7 b27 b32 b30 b3 : Nat} {ra : Option Pos} {rl : Nat} {rc : Cap} {rn ri : Int} {r : Int × Int} {bx : List Int} {o : List Bool} {len : Nat} (hr0 : 0 < r.1) {i : Nat} (hi : i < len) (ho : o.length = len) (hlen : len ≤ 300) {t : Int} (ht : 0 ≤ t) (ht2 : t < 18446744073709551616) (E0 : List Ent)
    (h : Hp ⟨ro, KR k v ta tl tc b7 b27 b32 ra rl rc rn ri :: lp⟩ S (E0 ++ KB F r b27 b32 b30 b7 b3 len bx o)) :
    Ok (ev (n + 1) (.yld k) [.int .i64 i, .int .u64 t] S) fun w S' =>
      (r.2 ≤ (bx.length : Int) ∧ w = .bool false ∧ Hp ⟨ro, { KR k v ta tl tc b7 b27 b32 ra rl rc rn ri with st := .done, pend := some (.exit 4) } :: lp⟩ S' (E0 ++ KB F r b27 b32 b30 b7 b3 len bx o)) ∨
      (¬ r.2 ≤ (bx.length : Int) ∧ w = .bool true ∧ Hp ⟨ro, KR k v ta tl tc b7 b27 b32 ra rl rc rn ri :: lp⟩ S' (E0 ++ KB F r b27 b32 b30 b7 b3 len (if Int.tdiv t r.1 ∈ bx then bx else bx ++ [Int.tdiv t r.1]) (if Int.tdiv t r.1 ∈ bx then o else o.set i true))) := by
  have hy := yld_run (E := E) (o := orcL) (n := n) (args := [.int .i64 i, .int .u64 t]) h.lp rfl rfl
  rw [show (KR k v ta tl tc b7 b27 b32 ra rl rc rn ri).id = k from rfl] at hy
  rw [ev, hy]
  simp only [KR]
  rw [ya11_1_1_1_1_1_0_1_0_0_1_1_0_0_1_1_1_0]
  simp only [y11_1_1_1_1_1_0_1_0_0_1_1_0_0_1_1_1_0A]
  have hn := yA_normal (E := E) (call := evF E orcL n) (n := n) (L := KR k v ta tl tc b7 b27 b32 ra rl rc rn ri) (ls := lp) (S := S)
    (U := [(12, (.int .u64 t)), (11, (.int .i64 i)), (52, (.int .u64 t)), (51, (.int .i64 i)), (50, v), (49, (.sl ta tl tc)), (1, (.sl ta tl tc)), (5, (.ptr (some (.rw b7, 0)))), (9, (.ptr (some (.rw b27, 0)))), (10, (.ptr (some (.rw b32, 0)))), (42, (.sl ra rl rc)), (43, (.int .i64 rn)), (44, (.int .i64 ri))]) h.lp rfl
  simp only [KR] at hn
  rw [hn, yb11_1_1_1_1_1_0_1_0_0_1_1_0_0_1_1_1_0]
  simp only [y11_1_1_1_1_1_0_1_0_0_1_1_0_0_1_1_1_0B]
  have h' := h.loops (lp' := { KR k v ta tl tc b7 b27 b32 ra rl rc rn ri with st := .busy } :: lp)
  refine ok_gO (ok_ldM h' rfl (ok_mapLen h' (ok_gO (ok_ldI h' rfl ?_))))
  rw [bmap_len]
  refine ok_cond (fun hc => ?_) (fun hc => ?_)
  · simp only [ge_iff_le, decide_eq_true_eq] at hc
    have hk := yK_exit (L := { KR k v ta tl tc b7 b27 b32 ra rl rc rn ri with st := .busy }) (ls := lp) (S := { S with loops := { KR k v ta tl tc b7 b27 b32 ra rl rc rn ri with st := .busy } :: lp }) (i := 4) rfl
    simp only [KR] at hk
    rw [hk]
    exact ok_ret (.inl ⟨hc, rfl, h'.loops⟩)
  · simp only [ge_iff_le, decide_eq_false_iff_not] at hc
    have hq0 := tdiv_lo (d := r.1) ht (by omega)
    have hq1 := tdiv_le (d := r.1) ht (by omega)
    refine ok_gO (ok_ldI h' rfl (ok_nz (by omega) (ok_gO (ok_ldM h' rfl ?_))))
    rw [wu64 hq0 (by omega)]
    refine ok_mapAt h' rfl rfl (v := .bool (decide (Int.tdiv t r.1 ∈ bx))) ?_ rfl (ok_gB ?_)
    · rw [findA_bmap]
      by_cases hm : Int.tdiv t r.1 ∈ bx
      · simp [hm]
      · simp [hm]; rfl
    · refine ok_cond (fun hm => ?_) (fun hm => ?_)
      · simp only [Bool.not_eq_true', decide_eq_false_iff_not] at hm
        refine ok_gO (ok_ldM h' rfl (ok_mapUp h' rfl (fun S2 h2 => ?_)))
        rw [updA_bmap hm] at h2
        refine ok_gO (ok_ldL h2 rfl (ok_ixSl (k := i) rfl hi ?_))
        simp only [Nat.zero_add, Nat.mul_one]
        refine ok_stn h2 (by simp; omega) (d := (o.set i true).map AV.bool) (bool_splice true (by omega)) (fun S3 h3 => ?_)
        have hk := yK_normal (L := { KR k v ta tl tc b7 b27 b32 ra rl rc rn ri with st := .busy }) (ls := lp) (S := S3) h3.lp
        simp only [KR] at hk
        rw [hk]
        rw [if_neg hm, if_neg hm]
        exact ok_ret (.inr ⟨hc, rfl, h3.loops⟩)
      · simp only [Bool.not_eq_false', decide_eq_true_eq] at hm
        have hk := yK_normal (L := { KR k v ta tl tc b7 b27 b32 ra rl rc rn ri with st := .busy }) (ls := lp) (S := { S with loops := { KR k v ta tl tc b7 b27 b32 ra rl rc rn ri with st := .busy } :: lp }) rfl
        simp only [KR] at hk
        rw [hk]
        rw [if_pos hm, if_pos hm]
        exact ok_ret (.inr ⟨hc, rfl, h'.loops⟩)

theorem back_loop (n0 n : Nat) {k : Nat} {v : AV} {ta : Option Pos} {tc : Cap} {ts : List Int} (hup : Up ts) {bc b7 b27 b32 b30 b3 : Nat} {ra : Option Pos} {rl : Nat} {rc : Cap} {rn ri : Int} {r : Int × Int} (hr0 : 0 < r.1) (hta : RdR ⟨ro, lp⟩ F ta (u64s ts)) :
    ∀ (m i : Nat) (bx : List Int) (o : List Bool) (S : AS), i ≤ ts.length → i < m → o.length = ts.length → Hp ⟨ro, KR k v ta ts.length tc b7 b27 b32 ra rl rc rn ri :: lp⟩ S ([C bc [.sl ta ts.length tc]] ++ KB F r b27 b32 b30 b7 b3 ts.length bx o) →
      Ok (J50_l1_0 (evF E orcL (n + 1)) n0 m (.yld k) (.ptr (some (.rw bc, 0))) ((i : Int) - 1) S) fun w S' => w = .tup [] ∧ ∃ bx',
        (Hp ⟨ro, KR k v ta ts.length tc b7 b27 b32 ra rl rc rn ri :: lp⟩ S' ([C bc [.sl ta ts.length tc]] ++ KB F r b27 b32 b30 b7 b3 ts.length bx' (kst r.2 (qt r ts) i bx o)) ∨
         Hp ⟨ro, { KR k v ta ts.length tc b7 b27 b32 ra rl rc rn ri with st := .done, pend := some (.exit 4) } :: lp⟩ S' ([C bc [.sl ta ts.length tc]] ++ KB F r b27 b32 b30 b7 b3 ts.length bx' (kst r.2 (qt r ts) i bx o)))
  | 0, i, bx, o, S, hi, hm, ho, h => by omega
  | m + 1, i, bx, o, S, hi, hm, ho, h => by
    have hlen := hup.n
    rw [J50_l1_0_succ]
    simp only [b50_l1_0]
    cases i with
    | zero =>
      refine ok_false (by simp) (ok_ret ⟨rfl, bx, .inl h⟩)
    | succ i =>
      have hw : ((i + 1 : Nat) : Int) - 1 = (i : Nat) := by omega
      rw [hw]
      refine ok_true (by simp) (ok_gA (ok_ldL h rfl ?_))
      have hlt : i < ts.length := by omega
      obtain ⟨t, ht⟩ : ∃ t, ts[i]? = some t := ⟨_, List.getElem?_eq_getElem hlt⟩
      have htm := List.mem_of_getElem? ht
      obtain ⟨p, hp⟩ := ts_some hta hlt
      have hta' : RdR ⟨ro, lp⟩ F (some p) (u64s ts) := by rw [← hp]; exact hta
      have hrm : RdR ⟨ro, KR k v ta ts.length tc b7 b27 b32 ra rl rc rn ri :: lp⟩ ([C bc [.sl ta ts.length tc]] ++ KB F r b27 b32 b30 b7 b3 ts.length bx o) (some p) (u64s ts) := rd_lp (hta'.mono (fun e he => by simp [he]))
      rw [show ixSl 1 ta ts.length (i : Int) = ixSl 1 (some p) ts.length (i : Int) by rw [hp]]
      rw [ixSl_at rfl hlt]
      simp only [Nat.mul_one]
      rw [hrm.ldI h (u64s_at ht)]
      have hq : (qt r ts).getD i 0 = Int.tdiv t r.1 := by simp [List.getD_eq_getElem?_getD, qt_at ht]
      obtain ⟨w, S2, e, hy⟩ := keep_yield n hr0 hlt ho hlen (hup.lo t htm) (hup.hi t htm) _ h
      rcases hy with ⟨hc, rfl, h2⟩ | ⟨hc, rfl, h2⟩
      · rw [callFB_yld e]
        refine ok_true rfl (ok_ret ⟨rfl, bx, .inr ?_⟩)
        rw [kst, if_pos hc]
        exact h2
      · rw [callFB_yld e]
        refine ok_false rfl ?_
        rw [wz (z := (i : Int) - 1) rfl (by omega) (by omega)]
        refine (back_loop n0 n hup hr0 hta m i _ _ S2 (by omega) (by omega) (by split <;> simpa using ho) h2).mono (fun w S' hw => ?_)
        rw [kst, if_neg hc, hq]
        by_cases hm2 : Int.tdiv t r.1 ∈ bx
        · rw [if_pos hm2, if_pos hm2] at hw
          rw [if_pos hm2]
          exact hw
        · rw [if_neg hm2, if_neg hm2] at hw
          rw [if_neg hm2]
          exact hw
end

section
variable {X : Cx} {S : AS} {L F : List Ent} {b : Nat} {Q : AV → AS → Prop}

/-- What Keep leaves. -/
abbrev KeepQ (X : Cx) (F : List Ent) (b3 len : Nat) (f : Nat → Bool) : AV → AS → Prop := fun v S' => v = .sl (some (.rw b3, 0)) len (.ex len) ∧ ∃ o : List Bool, o.length = len ∧ (∀ j, j < len → o[j]? = some (f j)) ∧ Hp X S' (C b3 (o.map AV.bool) :: F)

theorem any_drop_cons {rs : List (Int × Int)} {i : Nat} {r : Int × Int} (h : rs[i]? = some r) (f : Int × Int → Bool) (x : Bool) : (x || (rs.drop i).any f) = ((x || f r) || (rs.drop (i + 1)).any f) := by
  rw [any_cons_drop h, Bool.or_assoc]

theorem rules_loop (n0 n : Nat) (hn : 1000 < n) {ra : Option Pos} {rc : Cap} {rs : List (Int × Int)} {ta : Option Pos} {tc : Cap} {ts : List Int} (hup : Up ts) (hrs : ∀ r ∈ rs, 0 < r.1) (hrl : rs.length ≤ 8) (hra : RdR X F ra (rrows rs).flatten) (hta : RdR X F ta (u64s ts)) {b7 b3 : Nat} {f : Nat → Bool} :
    ∀ (m i : Nat) (o : List Bool) (S : AS), i ≤ rs.length → rs.length - i < m → o.length = ts.length → (∀ j, j < ts.length → f j = ((o.getD j false) || (rs.drop i).any fun r => ruleAt (qt r ts) r.2 j)) → Hp X S (C b7 [.sl (some (.rw b3, 0)) ts.length (.ex ts.length)] :: C b3 (o.map AV.bool) :: F) →
      Ok (J11_l1_1_1_1_1_0_1_0 (evF E orcL (n + 2)) n0 m ta ts.length tc (some (.rw b7, 0)) ra rs.length rc rs.length i S) (KeepQ X F b3 ts.length f)
  | 0, i, o, S, hi, hm, ho, hf, h => by omega
  | m + 1, i, o, S, hi, hm, ho, hf, h => by
    have hlen := hup.n
    rw [J11_l1_1_1_1_1_0_1_0_succ]
    simp only [b11_l1_1_1_1_1_0_1_0]
    refine ok_cond (fun hc => ?_) (fun hc => ?_)
    · simp only [decide_eq_true_eq] at hc
      have hlt : i < rs.length := by omega
      obtain ⟨r, hri⟩ : ∃ r, rs[i]? = some r := ⟨_, List.getElem?_eq_getElem hlt⟩
      have hr0 := hrs r (List.mem_of_getElem? hri)
      obtain ⟨p, hp⟩ := rs_some hra hlt
      have hrm : RdR X (C b7 [.sl (some (.rw b3, 0)) ts.length (.ex ts.length)] :: C b3 (o.map AV.bool) :: F) (some p) (rrows rs).flatten := by rw [← hp]; exact hra.mono (fun e he => by simp [he])
      rw [show ixSl 2 ra rs.length (i : Int) = ixSl 2 (some p) rs.length (i : Int) by rw [hp]]
      rw [ixSl_at rfl hlt, hrm.elem h (rrows_all rs) (rrows_at hri)]
      refine ok_newA h (fun b27 S1 h1 => ok_ifO rfl ?_)
      refine ok_stn h1 (by simp [rrow]) (d := rrow r) (by simp [splice, rrow]) (fun S2 h2 => ?_)
      refine ok_newA h2 (fun b30 S3 h3 => ok_newA h3 (fun b32 S4 h4 => ?_))
      refine ok_stn h4 (by simp) (d := [.mp (some b30)]) (by simp [splice]) (fun S5 h5 => ?_)
      have e34 : Ok (evF E orcL (n + 2) (.fn 34) [.sl ta ts.length tc] S5) fun v S' => ∃ bc, v = .fn 50 [] [.ptr (some (.rw bc, 0))] ∧ Hp X S' (C bc [.sl ta ts.length tc] :: C b32 [.mp (some b30)] :: (b30, some (.map (.int .u64) (bmap []))) :: C b27 (rrow r) :: C b7 [.sl (some (.rw b3, 0)) ts.length (.ex ts.length)] :: C b3 (o.map AV.bool) :: F) := by
        rw [F34 _ _ _ _ _ (oL rfl)]
        simp only [J34, b34_entry]
        exact ok_newA h5 (fun bc S6 h6 => ok_ret ⟨bc, rfl, h6⟩)
      obtain ⟨v, S6, e, bc, rfl, h6⟩ := e34
      rw [callV_of e]
      have h6' : Hp ⟨X.ro, X.lp⟩ S6 ([C bc [.sl ta ts.length tc]] ++ KB F r b27 b32 b30 b7 b3 ts.length [] o) := h6.re (by intro p; simp only [KB, List.countP_append, List.countP_cons, List.countP_nil, C]; omega)
      have next : ∀ (bx' : List Int) (S3 : AS), Hp X S3 ([C bc [.sl ta ts.length tc]] ++ KB F r b27 b32 b30 b7 b3 ts.length bx' (kst r.2 (qt r ts) ts.length [] o)) →
          Ok (J11_j1_1_1_1_1_0_1_0_0_1_1_1 (evF E orcL (n + 2)) n0 (J11_l1_1_1_1_1_0_1_0 (evF E orcL (n + 2)) n0 m) ta ts.length tc (some (.rw b7, 0)) ra rs.length rc rs.length i S3) (KeepQ X F b3 ts.length f) := by
        intro bx' S3 hS3
        simp only [J11_j1_1_1_1_1_0_1_0_0_1_1_1, b11_j1_1_1_1_1_0_1_0_0_1_1_1]
        rw [wn (x := (i : Int) + 1) (n := i + 1) (by omega) (by omega)]
        refine rules_loop n0 n hn hup hrs hrl hra hta m (i + 1) _ S3 (by omega) (by omega) (by rw [kst_len]; exact ho) (fun j hj => ?_) hS3.drop1.drop1.drop1.drop1
        rw [hf j hj, any_drop_cons hri]
        congr 1
        have hk := kst_all (cnt := r.2) (hup.qmono hr0) (o := o) (by simpa using ho) j
        rw [qt_len] at hk
        rw [List.getD_eq_getElem?_getD, List.getD_eq_getElem?_getD, hk, List.getElem?_eq_getElem (by omega)]
        simp
      refine ok_rangeF (ro := X.ro) (lp := X.lp) h6' (fun kk S' h7 => ?_)
      show Ok (ev (n + 2) (.fn 50) [.yld kk, .ptr (some (.rw bc, 0))] S') _
      change Hp ⟨X.ro, KR kk (.fn 50 [] [.ptr (some (.rw bc, 0))]) ta ts.length tc b7 b27 b32 ra rs.length rc rs.length i :: X.lp⟩ S' _ at h7
      rw [ev, F50 _ _ _ _ (oL rfl)]
      simp only [J50, b50_entry]
      refine ok_gA (ok_ldL h7 rfl ?_)
      rw [wz (z := (ts.length : Int) - 1) rfl (by omega) (by omega)]
      refine (back_loop (n + 1) n hup hr0 hta (n + 1) ts.length [] o S' (Nat.le_refl _) (by omega) ho h7).mono ?_
      rintro w S'' ⟨rfl, bx', h8 | h8⟩
      · exact .inl ⟨_, h8, fun S3 hS3 => next bx' S3 hS3⟩
      · refine .inr ⟨.exit 4, _, h8, fun S3 hS3 => ?_⟩
        have hy := yx11_1_1_1_1_1_0_1_0_0_1_1_0_0_1_1_1_0_4 (evF E orcL (n + 2)) n0 m (.fn 50 [] [.ptr (some (.rw bc, 0))]) ta ts.length tc ta ts.length tc (some (.rw b7, 0)) (some (.rw b27, 0)) (some (.rw b32, 0)) ra rs.length rc rs.length i S3
        refine ok_of_eq hy ?_
        simp only [x11_1_1_1_1_1_0_1_0_0_1_1_0_0_1_1_1_0_4]
        exact next bx' S3 hS3
    · simp only [decide_eq_false_iff_not] at hc
      refine ok_gO (ok_ldL h rfl (ok_ret ⟨rfl, o, ho, fun j hj => ?_, h.drop1⟩))
      rw [hf j hj, List.drop_of_length_le (by omega), List.getD_eq_getElem?_getD, List.getElem?_eq_getElem (by omega)]
      simp

/-- The places that are kept whatever the rules. -/
theorem keep_loop1 (n0 : Nat) (call : CallA) {last : Int} (hl1 : -9223372036854775808 ≤ last) (hl2 : last < 9223372036854775808) {ra : Option Pos} {rl : Nat} {rc : Cap} {ta : Option Pos} {tc : Cap} {len : Nat} (hlen : len ≤ 300) {wr : Bool} (hwl : wr = false → 0 ≤ last) {b1 b7 b3 : Nat} :
    ∀ (m i : Nat) (o : List Bool) (S : AS), i ≤ len → len - i < m → o.length = len → (∀ j, j < i → o[j]? = some (wr || decide ((len : Int) - j ≤ last))) → Hp X S (C b1 [.int .i64 last, .sl ra rl rc] :: C b7 [.sl (some (.rw b3, 0)) len (.ex len)] :: C b3 (o.map AV.bool) :: F) →
      (∀ (o : List Bool) (S : AS), o.length = len → (∀ j, j < len → o[j]? = some (wr || decide ((len : Int) - j ≤ last))) → Hp X S (C b1 [.int .i64 last, .sl ra rl rc] :: C b7 [.sl (some (.rw b3, 0)) len (.ex len)] :: C b3 (o.map AV.bool) :: F) → Ok (J11_j1_1_1_1 call n0 ta len tc (some (.rw b1, 0)) (some (.rw b7, 0)) wr S) Q) →
      Ok (J11_l1_1_1_0_1_0 call n0 m ta len tc (some (.rw b1, 0)) (some (.rw b7, 0)) wr len i S) Q
  | 0, i, o, S, hi, hm, ho, hf, h, ht => by omega
  | m + 1, i, o, S, hi, hm, ho, hf, h, ht => by
    rw [J11_l1_1_1_0_1_0_succ]
    simp only [b11_l1_1_1_0_1_0]
    refine ok_cond (fun hc => ?_) (fun hc => ?_)
    · simp only [decide_eq_true_eq] at hc
      have hlt : i < len := by omega
      refine ok_gO (ok_ldL h rfl ?_)
      have next : ∀ (x : Bool) (S : AS), x = (wr || decide ((len : Int) - i ≤ last)) → Hp X S (C b1 [.int .i64 last, .sl ra rl rc] :: C b7 [.sl (some (.rw b3, 0)) len (.ex len)] :: C b3 ((o.set i x).map AV.bool) :: F) →
          Ok (J11_l1_1_1_0_1_0 call n0 m ta len tc (some (.rw b1, 0)) (some (.rw b7, 0)) wr len (IntKind.wrap .i64 (i + 1)) S) Q := by
        intro x S hx h1
        rw [wn (x := (i : Int) + 1) (n := i + 1) (by omega) (by omega)]
        refine keep_loop1 n0 call hl1 hl2 hlen hwl m (i + 1) _ S (by omega) (by omega) (by simpa using ho) (fun j hj => ?_) h1 ht
        rw [List.getElem?_set]
        by_cases hij : i = j
        · subst hij; rw [if_pos rfl, if_pos (by omega), hx]
        · rw [if_neg hij]; exact hf j (by omega)
      refine ok_cond (fun hw => ok_ixSl (k := i) rfl hlt ?_) (fun hw => ok_gO (ok_ldI h rfl (ok_ixSl (k := i) rfl hlt ?_)))
      · simp only [Nat.zero_add, Nat.mul_one]
        exact ok_stn h (by simp; omega) (d := (o.set i true).map AV.bool) (bool_splice true (by omega)) (fun S1 h1 => next true S1 (by rw [hw]; rfl) h1)
      · simp only [Nat.zero_add, Nat.mul_one]
        have h0 := hwl hw
        refine ok_stn h (by simp; omega) (d := (o.set i (decide ((i : Int) ≥ IntKind.wrap .i64 ((len : Int) - last)))).map AV.bool) (bool_splice _ (by omega)) (fun S1 h1 => next _ S1 ?_ h1)
        rw [wrap64 (by omega) (by omega), hw, Bool.false_or]
        exact decide_eq_decide.2 (by omega)
    · simp only [decide_eq_false_iff_not] at hc
      obtain rfl : i = len := by omega
      exact ht o S ho hf h

theorem wrong_false {last : Int} {rs : List (Int × Int)} (h : wrongB last rs = false) : 0 ≤ last ∧ rs.length ≤ 8 ∧ ∀ r ∈ rs, r.1 ≠ 0 ∧ 0 ≤ r.2 := by
  simp only [wrongB, Bool.or_eq_false_iff, decide_eq_false_iff_not] at h
  refine ⟨by omega, by omega, fun r hr => ?_⟩
  have := List.any_eq_false.1 h.2.2 r hr
  simp only [bad, Bool.or_eq_true, decide_eq_true_eq, not_or] at this
  exact ⟨this.1, by omega⟩

theorem keep_ok (n : Nat) (hn : 1000 < n) (h : Hp X S F) {last : Int} {ra : Option Pos} {rc : Cap} {rs : List (Int × Int)} (hB : RsB last rs) (hra : RdR X F ra (rrows rs).flatten) {ta : Option Pos} {tc : Cap} {ts : List Int} (hup : Up ts) (hta : RdR X F ta (u64s ts)) :
    Ok (ev (n + 3) (.fn 11) [.agg [.int .i64 last, .sl ra rs.length rc], .sl ta ts.length tc] S) fun v S' => ∃ b3, v = .sl (some (.rw b3, 0)) ts.length (.ex ts.length) ∧ Hp X S' (C b3 ((keepL last rs ts).map AV.bool) :: F) := by
  have hlen := hup.n
  rw [ev, F11 _ _ _ _ _ _ (oL rfl)]
  simp only [J11, b11_entry]
  refine ok_ifO rfl (ok_newA h (fun b1 S1 h1 => ?_))
  refine ok_mkSl (l := ts.length) (c := ts.length) rfl rfl (Nat.le_refl _) (by simp [pow46]; omega) (by simp [pow46]; omega) ?_
  refine ok_newA h1 (fun b3 S2 h2 => ok_newA h2 (fun b7 S3 h3 => ?_))
  refine ok_stn h3 (by simp) (d := [.sl (some (.rw b3, 0)) ts.length (.ex ts.length)]) (by simp [splice]) (fun S4 h4 => ?_)
  refine ok_ldn h4 (by simp) (d := [.int .i64 last, .sl ra rs.length rc]) rfl ?_
  obtain ⟨v, S5, e, rfl, h5⟩ : Ok (evF E orcL (n + 2) (.fn 16) [.agg [.int .i64 last, .sl ra rs.length rc]] S4) _ := check_ok (n + 1) (by omega) h4 last (hra.mono (fun e he => by simp [he]))
  rw [callI_of e]
  have hz : zeros ts.length [AV.bool false] = (List.replicate ts.length false).map AV.bool := by simp [zeros]
  rw [hz] at h5
  have h5' : Hp X S5 (C b1 [.int .i64 last, .sl ra rs.length rc] :: C b7 [.sl (some (.rw b3, 0)) ts.length (.ex ts.length)] :: C b3 ((List.replicate ts.length false).map AV.bool) :: F) := h5.re (by intro p; simp only [List.countP_cons, C]; omega)
  have hwr : (checkE last rs != 0) = wrongB last rs := by
    unfold checkE
    cases wrongB last rs <;> rfl
  rw [hwr]
  have done : ∀ {v : AV} {S' : AS}, KeepQ X F b3 ts.length (keepAt last rs ts) v S' → ∃ b3, v = .sl (some (.rw b3, 0)) ts.length (.ex ts.length) ∧ Hp X S' (C b3 ((keepL last rs ts).map AV.bool) :: F) := by
    rintro v S' ⟨rfl, o, ho, hf, h⟩
    refine ⟨b3, rfl, ?_⟩
    have : o = keepL last rs ts := by
      apply List.ext_getElem?
      intro j
      by_cases hj : j < ts.length
      · rw [hf j hj, keepL, List.getElem?_map, List.getElem?_range hj]; rfl
      · rw [List.getElem?_eq_none (by omega), List.getElem?_eq_none (by simp; omega)]
    rw [← this]; exact h
  refine Ok.mono ?_ (fun v S' hv => done hv)
  refine keep_loop1 (n + 2) (evF E orcL (n + 2)) hB.l1 hB.l2 hlen (fun hw => (wrong_false hw).1) (n + 2) 0 _ S5 (by omega) (by omega) (by simp) (by omega) h5' (fun o S6 ho hf h6 => ?_)
  simp only [J11_j1_1_1_1, b11_j1_1_1_1]
  refine ok_cond (fun hw => ok_gO (ok_ldL h6 rfl (ok_ret ⟨rfl, o, ho, fun j hj => ?_, h6.drop1.drop1⟩))) (fun hw => ok_gO (ok_ldL h6 rfl ?_))
  · rw [hf j hj, keepAt, hw]; rfl
  · obtain ⟨_, h8, hrr⟩ := wrong_false hw
    refine rules_loop (n + 2) n hn hup (fun r hr => ?_) h8 hra hta (n + 2) 0 o S6 (by omega) (by omega) ho (fun j hj => ?_) h6.drop1
    · have := hB.e1 r hr
      have := (hrr r hr).1
      omega
    · rw [keepAt, hw, Bool.false_or, List.drop_zero, List.getD_eq_getElem?_getD, hf j hj, hw, Bool.false_or]
      rfl

end

end Go.Ct
