/- What the laws' helpers do with a heap: lists of puts copied and compared, entries compared, how many entries a transaction takes, whether there are too many bytes. -/
import Derived.Test.YtcepfilbiahdjaaJmA
set_option linter.unusedVariables false
set_option linter.unusedSimpArgs false
set_option maxRecDepth 4000
namespace Go.Jn
open Go.Gr
section
variable {X : Cx} {S : AS} {L F : List Ent} {b : Nat} {Q : AV → AS → Prop}
abbrev OQ (X : Cx) (F : List Ent) (l : List Pt) : AV → AS → Prop := fun v S' => ∃ (qs : List Pr) (a : OP) (c : Cap) (Lr Ld : List Ent), v = .sl a qs.length c ∧ pts qs = l ∧ SlG a qs.length c 2 (prows qs) Lr ∧ PsV X Ld qs ∧ Hp X S' (Lr ++ (Ld ++ F))
theorem own_loop (n0 : Nat) (call : CallA) {ps : List Pr} {pa : OP} {pc : Cap} (hps : ps.length ≤ 1000) (hr : RdR X F pa (prows ps).flatten) (hv : PsV X F ps) (hB : ∀ p ∈ ps, p.d.length ≤ 1048576) :
 ∀ (m i : Nat) (qs : List Pr) (a : OP) (c : Cap) (Lr Ld : List Ent) (S : AS), i ≤ ps.length → ps.length - i < m → pts qs = (pts ps).take i → SlG a qs.length c 2 (prows qs) Lr → PsV X Ld qs → Hp X S (Lr ++ (Ld ++ F)) →
   Ok (J12_lZAS call n0 m pa ps.length pc a qs.length c i S) (OQ X F (pts ps))
 | 0, i, qs, a, c, Lr, Ld, S, hi, hm, hP, hs, hd, h => by omega
 | m + 1, i, qs, a, c, Lr, Ld, S, hi, hm, hP, hs, hd, h => by
   have hql : qs.length = i := by have := congrArg List.length hP; rw [List.length_take, pts_len, pts_len] at this; omega
   rw [J12_lZAS_succ]
   simp only [b12_lZAS]
   refine ok_cond (fun hc => ?_) (fun hc => ?_)
   ·simp only [decide_eq_true_eq] at hc
    have hlt : i < ps.length := by omega
    obtain ⟨x, hx⟩ : ∃ x, ps[i]? = some x := ⟨_, List.getElem?_eq_getElem hlt⟩
    have hxm := List.mem_of_getElem? hx
    obtain ⟨q, hq⟩ := ps_some hr hlt
    have hr0 : RdR X F (some q) (prows ps).flatten := by rw [← hq]; exact hr
    refine ok_drawA h [6, 14] (by decide) (by simp) (fun b1 S1 h1 => ?_)
    have h1' : Hp X S1 ((b1 + 6, none) :: (b1 + 14, none) :: (Lr ++ (Ld ++ F))) := h1
    rw [show ixSl 2 pa ps.length (i : Int) = ixSl 2 (some q) ps.length (i : Int) by rw [hq]]
    rw [ixSl_at rfl hlt, pf_I (hr0.mono (fun e he => by simp [he])) h1' hx, ixSl_at rfl hlt, pf_L (hr0.mono (fun e he => by simp [he])) h1' hx]
    refine ok_layA (b := b1 + 6) h1' (fun S2 h2 => ?_)
    have h2' : Hp X S2 ([C (b1 + 6) []] ++ ((b1 + 14, none) :: (Lr ++ (Ld ++ F)))) := h2
    have hs0 : SlG (some (.rw (b1 + 6), 0)) 0 (.ex 0) 1 (bxs []) [C (b1 + 6) []] := (SlR.of (xs := []) (by simp) rfl (.inl rfl)).g
    refine ok_bytes h2' hs0 ((hv x hxm).mono (fun e he => by simp [he])) (by simp; exact hB x hxm) (fun a3 c3 L3 S3 hs3 h3 => ?_)
    rw [List.nil_append] at hs3 ⊢
    rw [pf_I (hr0.mono (fun e he => by simp [he])) h3 hx]
    refine ok_true (by simp [AV.beq]) (ok_layA (b := b1 + 14) h3 (fun S4 h4 => ?_))
    have h4' : Hp X S4 (Lr ++ (C (b1 + 14) (prow ⟨x.b, a3, c3, x.d⟩) :: ((L3 ++ Ld) ++ F))) := h4.re (by intro p; simp only [List.countP_append, List.countP_cons, C, prow]; omega)
    refine row_push (by omega) hs h4' (fun a5 c5 L5 S5 hs5 h5 => ?_)
    rw [wn (x := (i : Int) + 1) (n := i + 1) (by omega) (by omega)]
    refine own_loop n0 call hps hr hv hB m (i + 1) _ a5 c5 L5 (L3 ++ Ld) S5 (by omega) (by omega) ?_ hs5 (fun p hp => ?_) h5
    ·rw [pts_append, hP, List.take_add_one, pts_at hx]; rfl
    ·rcases List.mem_append.1 hp with hp | hp
     ·exact (hd p hp).mono (fun e he => by simp [he])
     ·simp only [List.mem_singleton] at hp
      subst hp
      exact slG_vw hs3 (fun e he => by simp [he])
   ·simp only [decide_eq_false_iff_not] at hc
    rw [List.take_of_length_le (by simp; omega)] at hP
    exact ok_ret ⟨qs, a, c, Lr, Ld, rfl, hP, hs, hd, h⟩
theorem same_loop (n0 : Nat) (call : CallA) {ps qs : List Pr} {pa qa : OP} {pc qc : Cap} (hps : ps.length ≤ 1000) (he : pts ps = pts qs) (hr : RdR X L pa (prows ps).flatten) (hv : PsV X L ps) (hr2 : RdR X L qa (prows qs).flatten) (hv2 : PsV X L qs) (h : Hp X S L) :
 ∀ (m i : Nat) (w : Bool), i ≤ ps.length → ps.length - i < m → Ok (J55_lZAS call n0 m pa ps.length pc qa qs.length qc w i S) fun v S' => v = .bool true ∧ S' = S
 | 0, i, w, hi, hm => by omega
 | m + 1, i, w, hi, hm => by
   have hll : ps.length = qs.length := by have := congrArg List.length he; simpa using this
   rw [J55_lZAS_succ]
   simp only [b55_lZAS]
   refine ok_cond (fun hc => ?_) (fun hc => ok_ret ⟨rfl, rfl⟩)
   simp only [decide_eq_true_eq] at hc
   have hlt : i < ps.length := by omega
   have hlt2 : i < qs.length := by omega
   obtain ⟨x, hx⟩ : ∃ x, ps[i]? = some x := ⟨_, List.getElem?_eq_getElem hlt⟩
   obtain ⟨y, hy⟩ : ∃ y, qs[i]? = some y := ⟨_, List.getElem?_eq_getElem hlt2⟩
   have hxy : x.pt = y.pt := by
    have h1 := pts_at hx
    have h2 := pts_at hy
    rw [he, h2] at h1
    exact (Option.some.inj h1).symm
   have hb : x.b = y.b := congrArg Pt.b hxy
   have hd : x.d = y.d := congrArg Pt.d hxy
   obtain ⟨p, rfl⟩ := ps_some hr hlt
   obtain ⟨q, rfl⟩ := ps_some hr2 hlt2
   have vx := hv x (List.mem_of_getElem? hx)
   have vy := hv2 y (List.mem_of_getElem? hy)
   rw [ixSl_at rfl hlt, pf_I hr h hx, ixSl_at rfl hlt2, pf_I hr2 h hy]
   refine ok_false (by simp [hb]) ?_
   rw [ixSl_at rfl hlt, pf_L hr h hx, bytesStr_of vx.r h vx.ln, ixSl_at rfl hlt2, pf_L hr2 h hy, bytesStr_of vy.r h vy.ln]
   refine ok_false (by simp [hd]) ?_
   rw [wn (x := (i : Int) + 1) (n := i + 1) (by omega) (by omega)]
   exact same_loop n0 call hps he hr hv hr2 hv2 h m (i + 1) w (by omega) (by omega)
theorem same_eq (n : Nat) (hn : 2000 < n) {ps qs : List Pr} {pa qa : OP} {pc qc : Cap} (hps : ps.length ≤ 1000) (he : pts ps = pts qs) (hr : RdR X L pa (prows ps).flatten) (hv : PsV X L ps) (hr2 : RdR X L qa (prows qs).flatten) (hv2 : PsV X L qs) (h : Hp X S L) :
 ev (n + 1) (.fn 55) [.sl pa ps.length pc, .sl qa qs.length qc] S = some (.bool true, S) := by
 have hll : ps.length = qs.length := by have := congrArg List.length he; simpa using this
 apply ok_eq
 rw [ev, F55 _ _ _ _ _ _ _ _ (oL rfl)]
 simp only [J55, b55_entry]
 exact ok_false (by simp [hll]) (same_loop n (evF E orcL n) hps he hr hv hr2 hv2 h n 0 false (by omega) (by omega))
theorem need_eq (n : Nat) (x : Int) (S : AS) : ev (n + 1) (.fn 10) [.int .i64 x] S = some (.int .i64 (needI x), S) := by
 apply ok_eq
 rw [ev, F10 _ _ _ (oL rfl)]
 simp only [J10, b10_entry]
 refine ok_cond (fun c1 => ok_ret ⟨?_, rfl⟩) (fun c1 => ok_cond (fun c2 => ok_ret ⟨?_, rfl⟩) (fun c2 => ok_ret ⟨?_, rfl⟩))
 ·simp only [decide_eq_true_eq] at c1; rw [needI, if_pos (by omega)]
 ·simp only [gt_iff_lt, decide_eq_true_eq] at c2; rw [needI, if_pos (by omega)]
 ·simp only [gt_iff_lt, decide_eq_false_iff_not] at c1 c2
  rw [wz (x := x * 388) rfl (by omega) (by omega), wz (x := 4 + x * 388) rfl (by omega) (by omega), wz (x := 4 + x * 388 + 336) rfl (by omega) (by omega), wz (x := 4 + x * 388 + 336 - 1) rfl (by omega) (by omega)]
  rw [Int.tdiv_eq_ediv_of_nonneg (by omega), wz (z := needI x) ?_ (by rw [needI, if_neg (by omega)]; omega) (by rw [needI, if_neg (by omega)]; omega)]
  rw [needI, if_neg (by omega)]
  congr 1
  omega
end
end Go.Jn
namespace Go.Jn
open Go.Gr
structure St where
 s : List (List UInt8)
 q : List (Int × List UInt8)
 f : Int
def strs (l : List (List UInt8)) : List (List AV) := l.map fun x => [.str x]
def qrow (e : Int × List UInt8) : List AV := [.int .i64 e.1, .str e.2]
def qrows (l : List (Int × List UInt8)) : List (List AV) := l.map qrow
@[simp] theorem strs_len (l : List (List UInt8)) : (strs l).length = l.length := by simp [strs]
@[simp] theorem qrows_len (l : List (Int × List UInt8)) : (qrows l).length = l.length := by simp [qrows]
theorem strs_all (l : List (List UInt8)) : ∀ x ∈ strs l, x.length = 1 := fun x hx => by
 obtain ⟨s, _, rfl⟩ := List.mem_map.1 hx; rfl
theorem qrows_all (l : List (Int × List UInt8)) : ∀ x ∈ qrows l, x.length = 2 := fun x hx => by
 obtain ⟨s, _, rfl⟩ := List.mem_map.1 hx; rfl
theorem strs_at {l : List (List UInt8)} {i : Nat} {s : List UInt8} (h : l[i]? = some s) : (strs l)[i]? = some [.str s] := by
 rw [strs, List.getElem?_map, h]; rfl
theorem qrows_at {l : List (Int × List UInt8)} {i : Nat} {e : Int × List UInt8} (h : l[i]? = some e) : (qrows l)[i]? = some (qrow e) := by
 rw [qrows, List.getElem?_map, h]; rfl
theorem strs_append (l m : List (List UInt8)) : strs (l ++ m) = strs l ++ strs m := by simp [strs]
theorem qrows_append (l m : List (Int × List UInt8)) : qrows (l ++ m) = qrows l ++ qrows m := by simp [qrows]
def StB (b : Nat) (t : St) (L : List Ent) : Prop := ∃ sa sl sc qa ql qc Ls Lq, SlG sa sl sc 1 (strs t.s) Ls ∧ SlG qa ql qc 2 (qrows t.q) Lq ∧ L = C b [.sl sa sl sc, .sl qa ql qc, .int .i64 t.f] :: (Ls ++ Lq)
def lkQ (q : List (Int × List UInt8)) (b : Int) : Nat → Option (List UInt8)
 | 0 => none
 | i + 1 => match q[i]? with
   | some e => if e.1 = b then some e.2 else lkQ q b i
   | none => lkQ q b i
def St.rd (t : St) (b : Nat) : List UInt8 := match lkQ t.q b t.q.length with
 | some d => d
 | none => (t.s[b]?).getD []
def flS : List (Int × List UInt8) → List (List UInt8) → List (List UInt8)
 | [], s => s
 | e :: q, s => flS q (s.set e.1.toNat e.2)
def St.fl (t : St) : St := ⟨flS t.q t.s, [], t.f⟩
def St.inr (t : St) : Prop := ∀ e ∈ t.q, 0 ≤ e.1 ∧ e.1 < t.s.length
theorem flS_len : ∀ (q : List (Int × List UInt8)) (s : List (List UInt8)), (flS q s).length = s.length
 | [], s => rfl
 | e :: q, s => by rw [flS, flS_len]; simp
theorem flS_snoc : ∀ (q : List (Int × List UInt8)) (e : Int × List UInt8) (s : List (List UInt8)), flS (q ++ [e]) s = (flS q s).set e.1.toNat e.2
 | [], e, s => rfl
 | x :: q, e, s => by rw [List.cons_append, flS, flS_snoc q, flS]
section
variable {X : Cx} {S : AS} {L F : List Ent} {b : Nat} {Q : AV → AS → Prop}
theorem rd_ldS {p : Pos} {cs : List AV} (h : RdR X L (some p) cs) (hp : Hp X S L) {i : Nat} {v : List UInt8} (hi : cs[i]? = some (.str v)) {K : List UInt8 → RV} : Go.Gr.ldS S p.1 (p.2 + i) K = K v := by
 have hlt : i < cs.length := (List.getElem?_eq_some_iff.1 hi).1
 cases h with
 | rw hm hl hc =>
   rename_i b0 i0 c0
   have e : c0[i0 + i]? = some (.str v) := by rw [← hi, ← hc, List.getElem?_take_of_lt (by omega), List.getElem?_drop]
   simp only [Go.Gr.ldS, AS.ld_eq, AS.blk, hp.got _ _ hm, e, gS]
 | ro hm hl hc =>
   rename_i b0 i0 c0
   have e : c0[i0 + i]? = some (.str v) := by rw [← hi, ← hc, List.getElem?_take_of_lt (by omega), List.getElem?_drop]
   simp only [Go.Gr.ldS, AS.ld_eq, AS.blk, hp.ro, hm, e, gS]
theorem invV_of {call : CallA} {T : TypeId} {v r : AV} {name : String} {args : List AV} {S S' : AS} {g : FuncId} {K : AV → AS → RV} (he : E.meth T name = some g) (hc : call (.fn g) (v :: args) S = some (r, S')) : invV E call (.iface T v) name args S K = K r S' := by
 simp [invV, he, hc]
theorem new_loop (n0 : Nat) (call : CallA) {count : Nat} {b : Nat} (hcount : count ≤ 1000) {z : List UInt8} : ∀ (m i : Nat) (a : OP) (l : Nat) (c : Cap) (Ls : List Ent) (S : AS), i ≤ count → count - i < m → SlG a l c 1 (strs (List.replicate i z)) Ls → Hp X S (C b [.sl a l c, .sl none 0 (.ex 0), .int .i64 (-1)] :: (Ls ++ F)) →
 Ok (J18_lZAW call n0 m count z (some (.rw b, 0)) i S) fun v S' => v = .ptr (some (.rw b, 0)) ∧ ∃ L', StB b ⟨List.replicate count z, [], -1⟩ L' ∧ Hp X S' (L' ++ F)
 | 0, i, a, l, c, Ls, S, hi, hm, hs, h => by omega
 | m + 1, i, a, l, c, Ls, S, hi, hm, hs, h => by
   rw [J18_lZAW_succ]
   simp only [b18_lZAW]
   refine ok_cond (fun hc => ?_) (fun hc => ?_)
   ·simp only [decide_eq_true_eq] at hc
    refine ok_gO (ok_ldL h rfl (ok_newA h (fun b10 S1 h1 => ?_)))
    have h1' : Hp X S1 (Ls ++ (C b10 [.str z] :: C b [.sl a l c, .sl none 0 (.ex 0), .int .i64 (-1)] :: F)) := h1.re (by intro p; simp only [List.countP_append, List.countP_cons, C]; omega)
    refine ok_appendG h1' hs (ys := strs [z]) (strs_all _) rfl (fun K => ?_) (by decide) (by simp [pow46]; omega) (by simp [pow46]; omega) (fun a3 l3 c3 S3 L3 ht' h3 => ?_)
    ·have := RdR.first (.rw (X := X) (b := b10) (i := 0) (c := [.str z]) (cs := [.str z]) (L := _) (List.mem_append_right Ls List.mem_cons_self) (by simp) rfl) h1' (sz := 1) (n := 1) rfl (by decide) (l := 1) (c := .ex 1) K
     simpa [strs] using this
    ·rw [← strs_append, show List.replicate i z ++ [z] = List.replicate (i + 1) z by rw [List.replicate_succ']] at ht'
     refine ok_gO (ok_stn h3 (by simp) (d := [.sl a3 l3 c3, .sl none 0 (.ex 0), .int .i64 (-1)]) (by simp [splice]) (fun S4 h4 => ?_))
     rw [wn (x := (i : Int) + 1) (n := i + 1) (by omega) (by omega)]
     exact new_loop n0 call hcount m (i + 1) a3 l3 c3 L3 S4 (by omega) (by omega) ht' (h4.re (M := C b10 [.str z] :: (C b [.sl a3 l3 c3, .sl none 0 (.ex 0), .int .i64 (-1)] :: (L3 ++ F))) (by intro p; simp only [List.countP_append, List.countP_cons, C]; omega)).drop1
   ·simp only [decide_eq_false_iff_not] at hc
    have : i = count := by omega
    subst this
    exact ok_ret ⟨rfl, _, ⟨a, l, c, none, 0, .ex 0, Ls, [], hs, .nil, rfl⟩, by simpa using h⟩
theorem newStore_ok (n : Nat) (hn : 2000 < n) {count : Nat} (hc : count ≤ 1000) (h : Hp X S F) : Ok (ev (n + 1) (.fn 18) [.int .i64 count] S) fun v S' => ∃ b L', v = .ptr (some (.rw b, 0)) ∧ StB b ⟨List.replicate count (zz 384), [], -1⟩ L' ∧ Hp X S' (L' ++ F) := by
 rw [ev, F18 _ _ _ (oL rfl)]
 simp only [J18, b18_entry]
 refine ok_mkSl (l := 384) (c := 384) rfl rfl (Nat.le_refl _) (by simp [pow46]) (by simp [pow46]) (ok_newA h (fun b1 S1 h1 => ?_))
 have e : zeros 384 [AV.int .u8 0] = ofBytes (zz 384) := by rw [zeros_bxs, bxs_flat]
 rw [e] at h1
 have rd : RdR X (C b1 (ofBytes (zz 384)) :: F) (some (.rw b1, 0)) (ofBytes (zz 384)) := .rw (c := ofBytes (zz 384)) List.mem_cons_self (by simp) (by rw [List.drop_zero, List.take_length])
 rw [bytesStr_of rd h1 (by simp)]
 refine ok_newA h1 (fun b2 S2 h2 => ?_)
 refine (new_loop (F := C b1 (ofBytes (zz 384)) :: F) n (evF E orcL n) hc n 0 none 0 (.ex 0) [] S2 (by omega) (by omega) (by exact (SlG.nil : SlG none 0 (.ex 0) 1 [] [])) h2).mono (fun v S' hv => ?_)
 obtain ⟨rfl, L', hL, hh⟩ := hv
 exact ⟨b2, L', rfl, hL, hh.sub (List.Sublist.append_left (List.sublist_cons_self _ _) L')⟩
theorem len_eq (n : Nat) {t : St} (h : Hp X S (L ++ F)) (hb : StB b t L) : ev (n + 1) (.fn 97) [.ptr (some (.rw b, 0))] S = some (.int .i64 t.s.length, S) := by
 obtain ⟨sa, sl, sc, qa, ql, qc, Ls, Lq, h1, h2, rfl⟩ := hb
 have hl := h1.len
 rw [strs_len] at hl
 subst hl
 apply ok_eq
 rw [ev, F97 _ _ _ (oL rfl)]
 simp only [J97, b97_entry]
 exact ok_gO (ok_ldL h rfl (ok_ret ⟨rfl, rfl⟩))
theorem read_loop (n0 : Nat) (call : CallA) {t : St} {x : Nat} (hx : x < t.s.length) {sa qa : OP} {sc qc : Cap} {Ls Lq : List Ent} (hs1 : SlG sa t.s.length sc 1 (strs t.s) Ls) (hs2 : SlG qa t.q.length qc 2 (qrows t.q) Lq) (h : Hp X S (C b [.sl sa t.s.length sc, .sl qa t.q.length qc, .int .i64 t.f] :: (Ls ++ Lq) ++ F)) (hq : t.q.length ≤ 1000000) (hz : (t.rd x).length ≤ 1000000) {w4a : OP} {w4l : Nat} {w4c : Cap} {w5 : Int} : ∀ (m i : Nat), i ≤ t.q.length → i < m → lkQ t.q x i = lkQ t.q x t.q.length →
 Ok (J59_lZAS call n0 m (some (.rw b, 0)) x w4a w4l w4c w5 ((i : Int) - 1) S) (BQ X (C b [.sl sa t.s.length sc, .sl qa t.q.length qc, .int .i64 t.f] :: (Ls ++ Lq) ++ F) (t.rd x) 0)
 | 0, i, hi, hm, he => by omega
 | m + 1, i, hi, hm, he => by
   rw [J59_lZAS_succ]
   simp only [b59_lZAS]
   have out : ∀ (s : List UInt8), s.length ≤ 1000000 → Ok (ifO (s.length ≤ pow46) (newA S (.cells (ofBytes s)) fun b13 S14 => some (.tup [(.sl (some (.rw b13, 0)) s.length (.op 1 s.length)), (.int .i64 0)], S14))) (BQ X (C b [.sl sa t.s.length sc, .sl qa t.q.length qc, .int .i64 t.f] :: (Ls ++ Lq) ++ F) s 0) := fun s hs => by
    refine ok_ifO (by simp [pow46]; omega) (ok_newA h (fun b13 S14 h14 => ok_ret ⟨some (.rw b13, 0), .op 1 s.length, [C b13 (bxs s).flatten], rfl, ?_, ?_⟩))
    ·have := (SlR.of (b := b13) (xs := bxs s) (c := .op 1 s.length) (bxs_all s) (n := s.length) (by simp) (.inr rfl)).g
     exact this
    ·rw [bxs_flat]; exact h14
   cases i with
   | zero =>
     refine ok_false (by simp) ?_
     simp only [J59_jZAF, b59_jZAF]
     refine ok_gO (ok_ldL h rfl ?_)
     obtain ⟨y, hy⟩ : ∃ y, t.s[x]? = some y := ⟨_, List.getElem?_eq_getElem hx⟩
     have hrd : t.rd x = y := by rw [St.rd, ← he]; simp [lkQ, hy]
     rw [hrd] at hz ⊢
     have hr : RdR X (C b [.sl sa t.s.length sc, .sl qa t.q.length qc, .int .i64 t.f] :: (Ls ++ Lq) ++ F) sa (strs t.s).flatten := hs1.rd (fun e he => by simp [he])
     obtain ⟨p, hp⟩ := hr.some_of (by intro he; have := congrArg List.length he; rw [flat_len (strs_all t.s), strs_len] at this; simp only [List.length_nil] at this; omega)
     have hr2 : ∀ {M : List Ent} {cs : List AV}, RdR X M sa cs → RdR X M (some p) cs := fun h => by rw [← hp]; exact h
     replace hr := hr2 hr
     rw [show ixSl 1 sa t.s.length (x : Int) = ixSl 1 (some p) t.s.length (x : Int) by rw [hp]]
     rw [ixSl_at rfl hx, rd_ldS hr h (i := x * 1) (v := y) (by have := flat_get (strs_all t.s) (strs_at hy) (j := 0) (by decide); simpa using this)]
     exact out y hz
   | succ i =>
     have hw : ((i + 1 : Nat) : Int) - 1 = (i : Nat) := by omega
     rw [hw]
     refine ok_true (by simp) (ok_gO (ok_ldL h rfl ?_))
     have hlt : i < t.q.length := by omega
     obtain ⟨y, hy⟩ : ∃ y, t.q[i]? = some y := ⟨_, List.getElem?_eq_getElem hlt⟩
     have hr : RdR X (C b [.sl sa t.s.length sc, .sl qa t.q.length qc, .int .i64 t.f] :: (Ls ++ Lq) ++ F) qa (qrows t.q).flatten := hs2.rd (fun e he => by simp [he])
     obtain ⟨p, hp⟩ := hr.some_of (by intro he; have := congrArg List.length he; rw [flat_len (qrows_all t.q), qrows_len] at this; simp only [List.length_nil] at this; omega)
     have g0 : (qrows t.q).flatten[i * 2]? = some (.int .i64 y.1) := by have := flat_get (qrows_all t.q) (qrows_at hy) (j := 0) (by decide); simpa [qrow] using this
     have g1 : (qrows t.q).flatten[i * 2 + 1]? = some (.str y.2) := by have := flat_get (qrows_all t.q) (qrows_at hy) (j := 1) (by decide); simpa [qrow] using this
     have hr2 : ∀ {M : List Ent} {cs : List AV}, RdR X M qa cs → RdR X M (some p) cs := fun h => by rw [← hp]; exact h
     replace hr := hr2 hr
     rw [show ixSl 2 qa t.q.length (i : Int) = ixSl 2 (some p) t.q.length (i : Int) by rw [hp]]
     rw [ixSl_at rfl hlt, hr.ldI h g0]
     have hlk : lkQ t.q x (i + 1) = if y.1 = x then some y.2 else lkQ t.q x i := by simp only [lkQ, hy]
     refine ok_cond (fun hc => ?_) (fun hc => ?_)
     ·simp only [beq_iff_eq] at hc
      rw [if_pos hc] at hlk
      have hrd : t.rd x = y.2 := by rw [St.rd, ← he, hlk]
      rw [hrd] at hz ⊢
      refine ok_gO (ok_ldL h rfl ?_)
      rw [show ixSl 2 qa t.q.length (i : Int) = ixSl 2 (some p) t.q.length (i : Int) by rw [hp]]
      rw [ixSl_at rfl hlt, Nat.add_assoc, rd_ldS hr h g1]
      exact out y.2 hz
     ·simp only [beq_eq_false_iff_ne, ne_eq] at hc
      rw [if_neg hc] at hlk
      rw [wz (z := (i : Int) - 1) rfl (by omega) (by omega)]
      exact read_loop n0 call hx hs1 hs2 h hq hz m i (by omega) (by omega) (by rw [← hlk]; exact he)
theorem read_ok (n : Nat) (hn : 1000002 < n) {t : St} {x : Nat} {xi : Int} (hxi : xi = x) (hx : x < t.s.length) (hb : StB b t L) (h : Hp X S (L ++ F)) (hq : t.q.length ≤ 1000000) (hz : (t.rd x).length ≤ 1000000) :
 Ok (ev (n + 1) (.fn 59) [.ptr (some (.rw b, 0)), .int .i64 xi] S) (BQ X (L ++ F) (t.rd x) 0) := by
 subst hxi
 have hb0 := hb
 obtain ⟨sa, sl, sc, qa, ql, qc, Ls, Lq, hs1, hs2, rfl⟩ := hb
 have hl1 := hs1.len
 have hl2 := hs2.len
 rw [strs_len] at hl1
 rw [qrows_len] at hl2
 rw [ev, F59 _ _ _ _ (oL rfl)]
 simp only [J59, b59_entry]
 refine ok_false (by simp) (ok_gO (ok_ldL h rfl (ok_false (by simp; omega) (ok_gO (ok_ldL h rfl ?_)))))
 subst hl1
 subst hl2
 rw [wz (z := (t.q.length : Int) - 1) rfl (by omega) (by omega)]
 exact read_loop n (evF E orcL n) hx hs1 hs2 h hq hz n t.q.length (Nat.le_refl _) (by omega) rfl
end
end Go.Jn
namespace Go.Jn
open Go.Gr
section
variable {X : Cx} {S : AS} {L F : List Ent} {b : Nat} {Q : AV → AS → Prop}
theorem flush_loop (n0 : Nat) (call : CallA) {s0 : List (List UInt8)} {q : List (Int × List UInt8)} {f : Int} {qa : OP} {qc : Cap} {Lq : List Ent} (hr : ∀ e ∈ q, 0 ≤ e.1 ∧ e.1 < s0.length) (hq : q.length ≤ 1000000) (hs2 : SlG qa q.length qc 2 (qrows q) Lq) :
 ∀ (m i : Nat) (sa : OP) (sl : Nat) (sc : Cap) (Ls : List Ent) (S : AS), i ≤ q.length → q.length - i < m → SlG sa sl sc 1 (strs (flS (q.take i) s0)) Ls → Hp X S (C b [.sl sa sl sc, .sl qa q.length qc, .int .i64 f] :: (Ls ++ (Lq ++ F))) →
   Ok (J44_lZAR call n0 m (some (.rw b, 0)) i S) fun v S' => v = .int .i64 0 ∧ ∃ L', StB b ⟨flS q s0, [], f⟩ L' ∧ Hp X S' (L' ++ F)
 | 0, i, sa, sl, sc, Ls, S, hi, hm, hs, h => by omega
 | m + 1, i, sa, sl, sc, Ls, S, hi, hm, hs, h => by
   have hl1 := hs.len
   rw [strs_len, flS_len] at hl1
   rw [J44_lZAR_succ]
   simp only [b44_lZAR]
   refine ok_gO (ok_ldL h rfl (ok_cond (fun hc => ?_) (fun hc => ?_)))
   ·simp only [decide_eq_true_eq] at hc
    have hlt : i < q.length := by omega
    obtain ⟨y, hy⟩ : ∃ y, q[i]? = some y := ⟨_, List.getElem?_eq_getElem hlt⟩
    obtain ⟨hy0, hy1⟩ := hr y (List.mem_of_getElem? hy)
    have hrd : RdR X (C b [.sl sa sl sc, .sl qa q.length qc, .int .i64 f] :: (Ls ++ (Lq ++ F))) qa (qrows q).flatten := hs2.rd (fun e he => by simp [he])
    obtain ⟨p, hp⟩ := hrd.some_of (by intro he; have := congrArg List.length he; rw [flat_len (qrows_all q), qrows_len] at this; simp only [List.length_nil] at this; omega)
    have hrd2 : ∀ {M : List Ent} {cs : List AV}, RdR X M qa cs → RdR X M (some p) cs := fun h => by rw [← hp]; exact h
    replace hrd := hrd2 hrd
    have g0 : (qrows q).flatten[i * 2]? = some (.int .i64 y.1) := by have := flat_get (qrows_all q) (qrows_at hy) (j := 0) (by decide); simpa [qrow] using this
    have g1 : (qrows q).flatten[i * 2 + 1]? = some (.str y.2) := by have := flat_get (qrows_all q) (qrows_at hy) (j := 1) (by decide); simpa [qrow] using this
    refine ok_gO (ok_ldL h rfl (ok_gO (ok_ldL h rfl ?_)))
    rw [show ixSl 2 qa q.length (i : Int) = ixSl 2 (some p) q.length (i : Int) by rw [hp]]
    rw [ixSl_at rfl hlt, hrd.ldI h g0]
    refine ok_gO (ok_ldL h rfl ?_)
    rw [show ixSl 2 qa q.length (i : Int) = ixSl 2 (some p) q.length (i : Int) by rw [hp]]
    rw [ixSl_at rfl hlt, Nat.add_assoc, rd_ldS hrd h g1]
    rcases hs.dest with ⟨_, hz, _, _, _⟩ | ⟨bs, js, rfl, hln, hcc, rfl, hx', hj⟩
    ·omega
    have hk : y.1 = ((y.1.toNat : Nat) : Int) := by omega
    have hklt : y.1.toNat < sl := by omega
    refine ok_ixSl hk hklt ?_
    rw [Nat.zero_add]
    have hsp : splice (strs (flS (q.take i) s0) ++ js).flatten (y.1.toNat * 1) [.str y.2] = (strs (flS (q.take (i + 1)) s0) ++ js).flatten := by
     have hall : ∀ x ∈ strs (flS (q.take i) s0) ++ js, x.length = 1 := fun x hx => by
      rcases List.mem_append.1 hx with hx | hx
      ·exact hx' x hx
      ·exact hj x hx
     rw [flat_splice hall (by rw [List.length_append, strs_len, flS_len]; omega) rfl, List.set_append_left _ _ (by rw [strs_len, flS_len]; omega)]
     have : (strs (flS (q.take i) s0)).set y.1.toNat [.str y.2] = strs (flS (q.take (i + 1)) s0) := by
      rw [List.take_add_one, hy]
      show _ = strs (flS (q.take i ++ [y]) s0)
      rw [flS_snoc, strs, strs, List.map_set]
     rw [this]
    have h' : Hp X S (C bs (strs (flS (q.take i) s0) ++ js).flatten :: (C b [.sl (some (.rw bs, 0)) sl sc, .sl qa q.length qc, .int .i64 f] :: (Lq ++ F))) := h.re (by intro p; simp only [List.countP_append, List.countP_cons, List.countP_nil, C]; omega)
    have hlen : (strs (flS (q.take i) s0) ++ js).flatten.length = (s0.length + js.length) * 1 := by
     rw [flat_len (fun x hx => ?_), List.length_append, strs_len, flS_len]
     rcases List.mem_append.1 hx with hx | hx
     ·exact hx' x hx
     ·exact hj x hx
    refine ok_stn h' (by rw [hlen]; simp; omega) (d := (strs (flS (q.take (i + 1)) s0) ++ js).flatten) hsp (fun S1 h1 => ?_)
    rw [wn (x := (i : Int) + 1) (n := i + 1) (by omega) (by omega)]
    refine flush_loop n0 call hr hq hs2 m (i + 1) (some (.rw bs, 0)) sl sc [C bs (strs (flS (q.take (i + 1)) s0) ++ js).flatten] S1 (by omega) (by omega) ?_ (h1.re (by intro p; simp only [List.countP_append, List.countP_cons, List.countP_nil, C]; omega))
    rw [strs_len, flS_len] at hcc
    have := SlG.blk (b := bs) (xs := strs (flS (q.take (i + 1)) s0)) (js := js) (c := sc) (strs_all _) hj (by rw [strs_len, flS_len]; exact hcc)
    rw [strs_len, flS_len, ← hl1] at this
    exact this
   ·simp only [decide_eq_false_iff_not] at hc
    have : i = q.length := by omega
    subst this
    rw [List.take_length] at hs
    simp only [J44_jZAC, b44_jZAC]
    refine ok_gO (ok_stn h (by simp) (d := [.sl sa sl sc, .sl none 0 (.ex 0), .int .i64 f]) (by simp [splice]) (fun S1 h1 => ok_ret ⟨rfl, C b [.sl sa sl sc, .sl none 0 (.ex 0), .int .i64 f] :: (Ls ++ []), ⟨sa, sl, sc, none, 0, .ex 0, Ls, [], hs, .nil, rfl⟩, ?_⟩))
    rw [List.append_nil]
    exact (h1.re (M := Lq ++ (C b [.sl sa sl sc, .sl none 0 (.ex 0), .int .i64 f] :: Ls ++ F)) (by intro p; simp only [List.countP_append, List.countP_cons, List.cons_append, C]; omega)).right
theorem flush_ok (n : Nat) (hn : 1000002 < n) {t : St} (hr : t.inr) (hq : t.q.length ≤ 1000000) (hb : StB b t L) (h : Hp X S (L ++ F)) :
 Ok (ev (n + 1) (.fn 44) [.ptr (some (.rw b, 0))] S) fun v S' => v = .int .i64 0 ∧ ∃ L', StB b t.fl L' ∧ Hp X S' (L' ++ F) := by
 obtain ⟨sa, sl, sc, qa, ql, qc, Ls, Lq, hs1, hs2, rfl⟩ := hb
 have hl2 := hs2.len
 rw [qrows_len] at hl2
 subst hl2
 rw [ev, F44 _ _ _ (oL rfl)]
 simp only [J44, b44_entry]
 exact flush_loop (b := b) n (evF E orcL n) (s0 := t.s) (q := t.q) (f := t.f) hr hq hs2 n 0 sa sl sc Ls S (by omega) (by omega) (by simpa [flS] using hs1) (by simpa using h)
abbrev dev (b : Nat) : AV := .iface 25 (.ptr (some (.rw b, 0)))
theorem mLen : E.meth 25 "Len" = some 97 := by kernel_rfl
theorem mRead : E.meth 25 "Read" = some 59 := by kernel_rfl
theorem mWrite : E.meth 25 "Write" = some 43 := by kernel_rfl
theorem mFlush : E.meth 25 "Flush" = some 44 := by kernel_rfl
end
end Go.Jn
namespace Go.Jn
open Go.Gr
section
variable {X : Cx} {S : AS} {L F : List Ent} {b : Nat} {Q : AV → AS → Prop}
theorem ifNil_dev {K : Bool → RV} : ifNil E .eql ty73 (dev b) K = K false := rfl
theorem nilV_dev {K : AV → RV} : nilV E (dev b) K = K (dev b) := rfl
theorem mthV_dev {name : String} {K : AV → RV} : mthV (dev b) name K = K (.mth 25 name) := rfl
theorem nilV_write {K : AV → RV} : nilV E (.mth 25 "Write") K = K (.mth 25 "Write") := by
 simp only [nilV, mWrite]
theorem ok_invFlush (n : Nat) (hn : 1000002 < n) {t : St} {K : AV → AS → RV} (hr : t.inr) (hq : t.q.length ≤ 1000000) (hb : StB b t L) (h : Hp X S (L ++ F))
 (ht : ∀ L' S', StB b t.fl L' → Hp X S' (L' ++ F) → Ok (K (.int .i64 0) S') Q) : Ok (invV E (evF E orcL (n + 1)) (dev b) "Flush" [] S K) Q := by
 obtain ⟨v, S', e, rfl, L', hL, hh⟩ : Ok (evF E orcL (n + 1) (.fn 44) [.ptr (some (.rw b, 0))] S) _ := flush_ok n hn hr hq hb h
 rw [invV_of mFlush e]
 exact ht L' S' hL hh
theorem ok_gIk {k : IntKind} {x : Int} {K : Int → RV} (ht : Ok (K x) Q) : Ok (gIk k (.int k x) K) Q := by simpa [gIk] using ht
def su (g : Int) : Su := ⟨g, 1, 0, 0, 0, 0⟩
theorem su_ok {g : Int} (h : g ≠ 0) (h2 : g ≤ 4611686018427387904) : okS (su g) = true := by
 simp [okS, Su.l, su, mxB, h]; omega
theorem su_B {g : Int} (h : 0 ≤ g) (h2 : g ≤ 4611686018427387904) : ∀ y ∈ (su g).l, u64B y := by
 intro y hy
 simp [Su.l, su] at hy
 rcases hy with rfl | rfl | rfl
 all_goals exact ⟨by omega, by omega⟩
def st0 (count : Nat) : St := ⟨((List.replicate count (zz 384)).set 0 (encS (su 1))).set 1 (encS (su 2)), [], -1⟩
@[simp] theorem st0_len (count : Nat) : (st0 count).s.length = count := by simp [st0]
end
end Go.Jn
namespace Go.Jn
open Go.Gr
structure One where
 need : Int
 bo : Int
 se : Int
def orow (o : One) : List AV := [.int .i64 o.need, .int .u64 o.bo, .int .u64 o.se]
def orows (l : List One) : List (List AV) := l.map orow
@[simp] theorem orows_len (l : List One) : (orows l).length = l.length := by simp [orows]
theorem orows_all (l : List One) : ∀ x ∈ orows l, x.length = 3 := fun x hx => by
 obtain ⟨s, _, rfl⟩ := List.mem_map.1 hx; rfl
theorem orows_at {l : List One} {i : Nat} {e : One} (h : l[i]? = some e) : (orows l)[i]? = some (orow e) := by
 rw [orows, List.getElem?_map, h]; rfl
theorem orows_append (l m : List One) : orows (l ++ m) = orows l ++ orows m := by simp [orows]
structure JM where
 count : Nat
 sup : Su
 l : List One
 sy : Int
 se : Int
def sumN (l : List One) : Int := (l.map (·.need)).sum
theorem sumN_cons (o : One) (l : List One) : sumN (o :: l) = o.need + sumN l := by simp [sumN]
theorem sumN_snoc (o : One) (l : List One) : sumN (l ++ [o]) = sumN l + o.need := by simp [sumN]
structure JI (J : JM) (k : Nat) : Prop where
 c6 : 6 ≤ J.count
 c40 : J.count ≤ 40
 g : 1 ≤ J.sup.g ∧ J.sup.g ≤ k
 bo : 1 ≤ J.sup.bo ∧ J.sup.bo ≤ k
 po : 0 ≤ J.sup.po ∧ J.sup.po ≤ 100 * k
 ls : 0 ≤ J.sup.ls ∧ J.sup.ls ≤ k
 ab : 0 ≤ J.sup.ab ∧ J.sup.ab ≤ k
 as_ : 0 ≤ J.sup.as_ ∧ J.sup.as_ ≤ k
 se : 0 ≤ J.se ∧ J.se ≤ k
 sy : J.sup.ls ≤ J.sy ∧ J.sy ≤ J.sup.ls + J.l.length
 ol : ∀ o ∈ J.l, 1 ≤ o.need ∧ o.need ≤ 40 ∧ 0 ≤ o.bo ∧ o.bo ≤ k ∧ 0 ≤ o.se ∧ o.se ≤ k
 rm : sumN J.l + 2 ≤ J.count
 k1 : k ≤ 100000
structure SI (t : St) (n k : Nat) : Prop where
 len : t.s.length = n
 f : t.f = -1
 q : t.q.length ≤ k
 r : t.inr
theorem sumN_ge : ∀ {l : List One}, (∀ o ∈ l, 1 ≤ o.need) → (l.length : Int) ≤ sumN l
 | [], _ => by simp [sumN]
 | o :: l, h => by
   have h1 := h o (by simp)
   have h2 := sumN_ge fun x hx => h x (List.mem_cons_of_mem o hx)
   rw [sumN_cons, List.length_cons]; omega
section
variable {X : Cx} {S : AS} {L F Lj Ls : List Ent} {b bj sb : Nat} {Q : AV → AS → Prop} {J : JM} {k : Nat} {t : St}
theorem sumN_take {l : List One} {i : Nat} {o : One} (h : l[i]? = some o) : sumN (l.take (i + 1)) = sumN (l.take i) + o.need := by
 rw [List.take_add_one, h]; exact sumN_snoc _ _
theorem sumN_le {l : List One} (h : ∀ o ∈ l, 1 ≤ o.need) (i : Nat) : 0 ≤ sumN (l.take i) ∧ sumN (l.take i) ≤ sumN l := by
 have h1 := sumN_ge (l := l.take i) fun o ho => h o (List.mem_of_mem_take ho)
 have h2 := sumN_ge (l := l.drop i) fun o ho => h o (List.mem_of_mem_drop ho)
 have h3 : sumN (l.take i ++ l.drop i) = sumN (l.take i) + sumN (l.drop i) := by
  rw [sumN, List.map_append, List.sum_append]; rfl
 rw [List.take_append_drop] at h3
 omega
theorem room_loop (n0 : Nat) (call : CallA) {l : List One} {a : OP} {c : Cap} {w : Int} (hw : 0 ≤ w ∧ w ≤ 1000) (hl : l.length ≤ 1000) (ho : ∀ o ∈ l, 1 ≤ o.need) (hs0 : sumN l ≤ 1000) (hr : RdR X F a (orows l).flatten) : ∀ (m i : Nat) (M : List Ent) (S : AS), i ≤ l.length → l.length - i < m → Hp X S (M ++ F) →
 Ok (J17_lZAW call n0 m (w - sumN (l.take i)) a l.length c l.length i S) fun v S' => v = .int .i64 (w - sumN l) ∧ Hp X S' F
 | 0, i, M, S, hi, hm, h => by omega
 | m + 1, i, M, S, hi, hm, h => by
   rw [J17_lZAW_succ]
   simp only [b17_lZAW]
   refine ok_cond (fun hc => ?_) (fun hc => ?_)
   ·simp only [decide_eq_true_eq] at hc
    have hlt : i < l.length := by omega
    obtain ⟨x, hx⟩ : ∃ x, l[i]? = some x := ⟨_, List.getElem?_eq_getElem hlt⟩
    have hr' : RdR X (M ++ F) a (orows l).flatten := hr.mono (fun e he => by simp [he])
    obtain ⟨p, hp⟩ := hr'.some_of (by intro he; have := congrArg List.length he; rw [flat_len (orows_all l), orows_len] at this; simp only [List.length_nil] at this; omega)
    rw [hp] at hr'
    rw [show ixSl 3 a l.length (i : Int) = ixSl 3 (some p) l.length (i : Int) by rw [hp]]
    rw [ixSl_at rfl hlt, hr'.elem h (orows_all l) (orows_at hx)]
    refine ok_newA h (fun b7 S1 h1 => ok_ifO rfl (ok_stn h1 (by simp [orow]) (d := orow x) (by simp [splice, orow]) (fun S2 h2 => ok_ldI h2 rfl ?_)))
    have h3 := sumN_take hx
    have h4 := sumN_le ho i
    have h5 := sumN_le ho (i + 1)
    rw [wz (x := w - sumN (l.take i) - x.need) (z := w - sumN (l.take (i + 1))) (by omega) (by omega) (by omega), wn (x := (i : Int) + 1) (n := i + 1) (by omega) (by omega)]
    exact room_loop n0 call hw hl ho hs0 hr m (i + 1) (C b7 (orow x) :: M) S2 (by omega) (by omega) h2
   ·simp only [decide_eq_false_iff_not] at hc
    rw [List.take_of_length_le (by omega)]
    exact ok_ret ⟨rfl, h.right⟩
theorem next_loop (n0 : Nat) (call : CallA) {l : List One} {a : OP} {c : Cap} {w : Int} (hw : 0 ≤ w ∧ w ≤ 100000000) (hl : l.length ≤ 1000) (ho : ∀ o ∈ l, 1 ≤ o.need) (hs0 : sumN l ≤ 1000) (hr : RdR X F a (orows l).flatten) : ∀ (m i : Nat) (M : List Ent) (S : AS), i ≤ l.length → l.length - i < m → Hp X S (M ++ F) →
 Ok (J34_lZAS call n0 m (w + sumN (l.take i)) a l.length c l.length i S) fun v S' => v = .int .u64 (w + sumN l) ∧ Hp X S' F
 | 0, i, M, S, hi, hm, h => by omega
 | m + 1, i, M, S, hi, hm, h => by
   rw [J34_lZAS_succ]
   simp only [b34_lZAS]
   refine ok_cond (fun hc => ?_) (fun hc => ?_)
   ·simp only [decide_eq_true_eq] at hc
    have hlt : i < l.length := by omega
    obtain ⟨x, hx⟩ : ∃ x, l[i]? = some x := ⟨_, List.getElem?_eq_getElem hlt⟩
    have hr' : RdR X (M ++ F) a (orows l).flatten := hr.mono (fun e he => by simp [he])
    obtain ⟨p, hp⟩ := hr'.some_of (by intro he; have := congrArg List.length he; rw [flat_len (orows_all l), orows_len] at this; simp only [List.length_nil] at this; omega)
    rw [hp] at hr'
    rw [show ixSl 3 a l.length (i : Int) = ixSl 3 (some p) l.length (i : Int) by rw [hp]]
    rw [ixSl_at rfl hlt, hr'.elem h (orows_all l) (orows_at hx)]
    refine ok_newA h (fun b7 S1 h1 => ok_ifO rfl (ok_stn h1 (by simp [orow]) (d := orow x) (by simp [splice, orow]) (fun S2 h2 => ok_ldI h2 rfl ?_)))
    have h3 := sumN_take hx
    have h4 := sumN_le ho i
    have h5 := sumN_le ho (i + 1)
    have hx1 := ho x (List.mem_of_getElem? hx)
    rw [wu64 (n := x.need) (by omega) (by omega), wu64 (n := w + sumN (l.take i) + x.need) (by omega) (by omega), show w + sumN (l.take i) + x.need = w + sumN (l.take (i + 1)) by omega, wn (x := (i : Int) + 1) (n := i + 1) (by omega) (by omega)]
    exact next_loop n0 call hw hl ho hs0 hr m (i + 1) (C b7 (orow x) :: M) S2 (by omega) (by omega) h2
   ·simp only [decide_eq_false_iff_not] at hc
    rw [List.take_of_length_le (by omega)]
    exact ok_ret ⟨rfl, h.right⟩
end
end Go.Jn
namespace Go.Jn
open Go.Gr
section
variable {X : Cx} {S : AS} {L F Lj Ls : List Ent} {b bj sb : Nat} {Q : AV → AS → Prop} {J : JM} {k : Nat} {t : St}
theorem ok_invRead (n : Nat) (hn : 1000002 < n) {t : St} {x : Nat} {xi : Int} {K : AV → AS → RV} (hxi : xi = x) (hx : x < t.s.length) (hb : StB b t L) (h : Hp X S (L ++ F)) (hq : t.q.length ≤ 1000000) (hz : (t.rd x).length ≤ 1000000)
 (ht : ∀ (a : OP) (c : Cap) (L' : List Ent) (S' : AS), SlG a (t.rd x).length c 1 (bxs (t.rd x)) L' → Hp X S' (L' ++ (L ++ F)) → Ok (K (.tup [.sl a (t.rd x).length c, .int .i64 0]) S') Q) : Ok (invV E (evF E orcL (n + 1)) (dev b) "Read" [.int .i64 xi] S K) Q := by
 obtain ⟨v, S', e, a, c, L', rfl, hs, hh⟩ : Ok (evF E orcL (n + 1) (.fn 59) [.ptr (some (.rw b, 0)), .int .i64 xi] S) _ := read_ok n hn hxi hx hb h hq hz
 rw [invV_of mRead e]
 exact ht a c L' S' hs hh
theorem ok_atG {n : Nat} {l m : List AV} {i : Nat} {K : List AV → RV} (h : l[i]? = some (.agg m)) (hm : m.length = n) (ht : Ok (K m) Q) : Ok (atG n l i K) Q := by simp only [atG, h, gG, hm, if_true]; exact ht
theorem ok_gT {l : List AV} {K : List AV → RV} (ht : Ok (K l) Q) : Ok (Go.Gr.gT (.tup l) K) Q := by simpa [Go.Gr.gT] using ht
end
end Go.Jn
namespace Go.Jn
open Go.Gr
theorem vl_zz : ∀ n, vl (zz n) = 0
 | 0 => rfl
 | n + 1 => by
   have : zz (n + 1) = 0 :: zz n := rfl
   rw [this, vl_cons, vl_zz n]; simp
theorem win8_zz {n i k : Nat} (h : i + k ≤ n) : win8 (zz n) i k = zz k := by
 rw [win8, zz, List.drop_replicate, List.take_replicate, Nat.min_eq_left (by omega)]; rfl
theorem good_zz : goodE (zz 384) = false := by
 have h1 : (decE (zz 384)).bo = 0 := by
  show ((vl (win8 (zz 384) 4 8) : Nat) : Int) = 0
  rw [win8_zz (by decide), vl_zz]; rfl
 have : okE (decE (zz 384)) = false := okE_false fun h => h.1 h1
 simp [goodE, this]
section
variable {X : Cx} {S : AS} {L F Lj Ls : List Ent} {b bj sb : Nat} {Q : AV → AS → Prop} {J : JM} {k : Nat} {t : St}
end
end Go.Jn
namespace Go.Jn
open Go.Gr
theorem needI_of {n : Int} (h1 : 1 ≤ n) (h2 : n ≤ 64) : needI n = (4 + n * 388 + 335) / 336 := by rw [needI, if_neg (by omega)]
section
variable {X : Cx} {S : AS} {L F G Lj Ls : List Ent} {b bj sb : Nat} {Q : AV → AS → Prop} {J : JM} {k : Nat} {t : St}
end
end Go.Jn
