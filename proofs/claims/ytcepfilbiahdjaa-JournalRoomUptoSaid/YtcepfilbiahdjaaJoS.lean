/- What the device of the statements does with a heap: made, read, written, flushed. -/
import Derived.Test.YtcepfilbiahdjaaJoU
set_option linter.unusedVariables false
set_option linter.unusedSimpArgs false
set_option maxRecDepth 4000
namespace Go.Jn
open Go.Gr

/-- A device: its stable blocks, the writes that wait, the next failure. -/
structure St where
  s : List (List UInt8)
  q : List (Int × List UInt8)
  f : Int
def strs (l : List (List UInt8)) : List (List AV) := l.map fun x => [.str x]
def qrow (e : Int × List UInt8) : List AV := [.int .i64 e.1, .str e.2]
def qrows (l : List (Int × List UInt8)) : List (List AV) := l.map qrow
@[simp] theorem strs_len (l : List (List UInt8)) : (strs l).length = l.length := by simp [strs]
@[simp] theorem qrows_len (l : List (Int × List UInt8)) : (qrows l).length = l.length := by simp [qrows]
theorem strs_all (l : List (List UInt8)) : ∀ x ∈ strs l, x.length = 1 := fun x hx => by
  obtain ⟨s, _, rfl⟩ := List.mem_map.1 hx; rfl
theorem qrows_all (l : List (Int × List UInt8)) : ∀ x ∈ qrows l, x.length = 2 := fun x hx => by
  obtain ⟨s, _, rfl⟩ := List.mem_map.1 hx; rfl
theorem strs_at {l : List (List UInt8)} {i : Nat} {s : List UInt8} (h : l[i]? = some s) : (strs l)[i]? = some [.str s] := by
  rw [strs, List.getElem?_map, h]; rfl
theorem qrows_at {l : List (Int × List UInt8)} {i : Nat} {e : Int × List UInt8} (h : l[i]? = some e) : (qrows l)[i]? = some (qrow e) := by
  rw [qrows, List.getElem?_map, h]; rfl
theorem strs_append (l m : List (List UInt8)) : strs (l ++ m) = strs l ++ strs m := by simp [strs]
theorem qrows_append (l m : List (Int × List UInt8)) : qrows (l ++ m) = qrows l ++ qrows m := by simp [qrows]

def StB (b : Nat) (t : St) (L : List Ent) : Prop := ∃ sa sl sc qa ql qc Ls Lq, SlG sa sl sc 1 (strs t.s) Ls ∧ SlG qa ql qc 2 (qrows t.q) Lq ∧ L = C b [.sl sa sl sc, .sl qa ql qc, .int .i64 t.f] :: (Ls ++ Lq)

/-- The one who waits last for a block. -/
def lkQ (q : List (Int × List UInt8)) (b : Int) : Nat → Option (List UInt8)
  | 0 => none
  | i + 1 => match q[i]? with
    | some e => if e.1 = b then some e.2 else lkQ q b i
    | none => lkQ q b i
def St.rd (t : St) (b : Nat) : List UInt8 := match lkQ t.q b t.q.length with
  | some d => d
  | none => (t.s[b]?).getD []
def flS : List (Int × List UInt8) → List (List UInt8) → List (List UInt8)
  | [], s => s
  | e :: q, s => flS q (s.set e.1.toNat e.2)
def St.fl (t : St) : St := ⟨flS t.q t.s, [], t.f⟩
/-- What waits has a place. -/
def St.inr (t : St) : Prop := ∀ e ∈ t.q, 0 ≤ e.1 ∧ e.1 < t.s.length
theorem flS_len : ∀ (q : List (Int × List UInt8)) (s : List (List UInt8)), (flS q s).length = s.length
  | [], s => rfl
  | e :: q, s => by rw [flS, flS_len]; simp
theorem flS_snoc : ∀ (q : List (Int × List UInt8)) (e : Int × List UInt8) (s : List (List UInt8)), flS (q ++ [e]) s = (flS q s).set e.1.toNat e.2
  | [], e, s => rfl
  | x :: q, e, s => by rw [List.cons_append, flS, flS_snoc q, flS]

section
variable {X : Cx} {S : AS} {L F : List Ent} {b : Nat} {Q : AV → AS → Prop}

theorem rd_ldS {p : Pos} {cs : List AV} (h : RdR X L (some p) cs) (hp : Hp X S L) {i : Nat} {v : List UInt8} (hi : cs[i]? = some (.str v)) {K : List UInt8 → Option (AV × AS)} : Go.Gr.ldS S p.1 (p.2 + i) K = K v := by
  have hlt : i < cs.length := (List.getElem?_eq_some_iff.1 hi).1
  cases h with
  | rw hm hl hc =>
    rename_i b0 i0 c0
    have e : c0[i0 + i]? = some (.str v) := by rw [← hi, ← hc, List.getElem?_take_of_lt (by omega), List.getElem?_drop]
    simp only [Go.Gr.ldS, AS.ld_eq, AS.blk, hp.got _ _ hm, e, gS]
  | ro hm hl hc =>
    rename_i b0 i0 c0
    have e : c0[i0 + i]? = some (.str v) := by rw [← hi, ← hc, List.getElem?_take_of_lt (by omega), List.getElem?_drop]
    simp only [Go.Gr.ldS, AS.ld_eq, AS.blk, hp.ro, hm, e, gS]

theorem invV_of {call : CallA} {T : TypeId} {v r : AV} {name : String} {args : List AV} {S S' : AS} {g : FuncId} {K : AV → AS → Option (AV × AS)} (he : E.meth T name = some g) (hc : call (.fn g) (v :: args) S = some (r, S')) : invV E call (.iface T v) name args S K = K r S' := by
  simp [invV, he, hc]

theorem new_loop (n0 : Nat) (call : CallA) {count : Nat} {b : Nat} (hcount : count ≤ 1000) {z : List UInt8} : ∀ (m i : Nat) (a : Option Pos) (l : Nat) (c : Cap) (Ls : List Ent) (S : AS), i ≤ count → count - i < m → SlG a l c 1 (strs (List.replicate i z)) Ls → Hp X S (C b [.sl a l c, .sl none 0 (.ex 0), .int .i64 (-1)] :: (Ls ++ F)) →
    Ok (J18_l1_1_1_0_1_0 call n0 m count z (some (.rw b, 0)) i S) fun v S' => v = .ptr (some (.rw b, 0)) ∧ ∃ L', StB b ⟨List.replicate count z, [], -1⟩ L' ∧ Hp X S' (L' ++ F)
  | 0, i, a, l, c, Ls, S, hi, hm, hs, h => by omega
  | m + 1, i, a, l, c, Ls, S, hi, hm, hs, h => by
    rw [J18_l1_1_1_0_1_0_succ]
    simp only [b18_l1_1_1_0_1_0]
    refine ok_cond (fun hc => ?_) (fun hc => ?_)
    · simp only [decide_eq_true_eq] at hc
      refine ok_gO (ok_ldL h rfl (ok_newA h (fun b10 S1 h1 => ?_)))
      have h1' : Hp X S1 (Ls ++ (C b10 [.str z] :: C b [.sl a l c, .sl none 0 (.ex 0), .int .i64 (-1)] :: F)) := h1.re (by intro p; simp only [List.countP_append, List.countP_cons, C]; omega)
      refine ok_appendG h1' hs (ys := strs [z]) (strs_all _) rfl (fun K => ?_) (by decide) (by simp [pow46]; omega) (by simp [pow46]; omega) (fun a3 l3 c3 S3 L3 ht' h3 => ?_)
      · have := RdR.first (.rw (X := X) (b := b10) (i := 0) (c := [.str z]) (cs := [.str z]) (L := _) (List.mem_append_right Ls List.mem_cons_self) (by simp) rfl) h1' (sz := 1) (n := 1) rfl (by decide) (l := 1) (c := .ex 1) K
        simpa [strs] using this
      · rw [← strs_append, show List.replicate i z ++ [z] = List.replicate (i + 1) z by rw [List.replicate_succ']] at ht'
        refine ok_gO (ok_stn h3 (by simp) (d := [.sl a3 l3 c3, .sl none 0 (.ex 0), .int .i64 (-1)]) (by simp [splice]) (fun S4 h4 => ?_))
        rw [wn (x := (i : Int) + 1) (n := i + 1) (by omega) (by omega)]
        exact new_loop n0 call hcount m (i + 1) a3 l3 c3 L3 S4 (by omega) (by omega) ht' (h4.re (M := C b10 [.str z] :: (C b [.sl a3 l3 c3, .sl none 0 (.ex 0), .int .i64 (-1)] :: (L3 ++ F))) (by intro p; simp only [List.countP_append, List.countP_cons, C]; omega)).drop1
    · simp only [decide_eq_false_iff_not] at hc
      have : i = count := by omega
      subst this
      exact ok_ret ⟨rfl, _, ⟨a, l, c, none, 0, .ex 0, Ls, [], hs, .nil, rfl⟩, by simpa using h⟩

theorem newStore_ok (n : Nat) (hn : 2000 < n) {count : Nat} (hc : count ≤ 1000) (h : Hp X S F) : Ok (ev (n + 1) (.fn 18) [.int .i64 count] S) fun v S' => ∃ b L', v = .ptr (some (.rw b, 0)) ∧ StB b ⟨List.replicate count (zz 384), [], -1⟩ L' ∧ Hp X S' (L' ++ F) := by
  rw [ev, F18 _ _ _ (oL rfl)]
  simp only [J18, b18_entry]
  refine ok_mkSl (l := 384) (c := 384) rfl rfl (Nat.le_refl _) (by simp [pow46]) (by simp [pow46]) (ok_newA h (fun b1 S1 h1 => ?_))
  have e : zeros 384 [AV.int .u8 0] = ofBytes (zz 384) := by rw [zeros_bxs, bxs_flat]
  rw [e] at h1
  have rd : RdR X (C b1 (ofBytes (zz 384)) :: F) (some (.rw b1, 0)) (ofBytes (zz 384)) := .rw (c := ofBytes (zz 384)) List.mem_cons_self (by simp) (by rw [List.drop_zero, List.take_length])
  rw [bytesStr_of rd h1 (by simp)]
  refine ok_newA h1 (fun b2 S2 h2 => ?_)
  refine (new_loop (F := C b1 (ofBytes (zz 384)) :: F) n (evF E orcL n) hc n 0 none 0 (.ex 0) [] S2 (by omega) (by omega) (by exact (SlG.nil : SlG none 0 (.ex 0) 1 [] [])) h2).mono (fun v S' hv => ?_)
  obtain ⟨rfl, L', hL, hh⟩ := hv
  exact ⟨b2, L', rfl, hL, hh.sub (List.Sublist.append_left (List.sublist_cons_self _ _) L')⟩

theorem len_eq (n : Nat) {t : St} (h : Hp X S (L ++ F)) (hb : StB b t L) : ev (n + 1) (.fn 97) [.ptr (some (.rw b, 0))] S = some (.int .i64 t.s.length, S) := by
  obtain ⟨sa, sl, sc, qa, ql, qc, Ls, Lq, h1, h2, rfl⟩ := hb
  have hl := h1.len
  rw [strs_len] at hl
  subst hl
  apply ok_eq
  rw [ev, F97 _ _ _ (oL rfl)]
  simp only [J97, b97_entry]
  exact ok_gO (ok_ldL h rfl (ok_ret ⟨rfl, rfl⟩))

/-- Bytes of their own are told, and no error. -/
theorem read_loop (n0 : Nat) (call : CallA) {t : St} {x : Nat} (hx : x < t.s.length) {sa qa : Option Pos} {sc qc : Cap} {Ls Lq : List Ent} (hs1 : SlG sa t.s.length sc 1 (strs t.s) Ls) (hs2 : SlG qa t.q.length qc 2 (qrows t.q) Lq) (h : Hp X S (C b [.sl sa t.s.length sc, .sl qa t.q.length qc, .int .i64 t.f] :: (Ls ++ Lq) ++ F)) (hq : t.q.length ≤ 1000000) (hz : (t.rd x).length ≤ 1000000) {w4a : Option Pos} {w4l : Nat} {w4c : Cap} {w5 : Int} : ∀ (m i : Nat), i ≤ t.q.length → i < m → lkQ t.q x i = lkQ t.q x t.q.length →
    Ok (J59_l1_1_0_1_0 call n0 m (some (.rw b, 0)) x w4a w4l w4c w5 ((i : Int) - 1) S) (BQ X (C b [.sl sa t.s.length sc, .sl qa t.q.length qc, .int .i64 t.f] :: (Ls ++ Lq) ++ F) (t.rd x) 0)
  | 0, i, hi, hm, he => by omega
  | m + 1, i, hi, hm, he => by
    rw [J59_l1_1_0_1_0_succ]
    simp only [b59_l1_1_0_1_0]
    have out : ∀ (s : List UInt8), s.length ≤ 1000000 → Ok (ifO (s.length ≤ pow46) (newA S (.cells (ofBytes s)) fun b13 S14 => some (.tup [(.sl (some (.rw b13, 0)) s.length (.op 1 s.length)), (.int .i64 0)], S14))) (BQ X (C b [.sl sa t.s.length sc, .sl qa t.q.length qc, .int .i64 t.f] :: (Ls ++ Lq) ++ F) s 0) := fun s hs => by
      refine ok_ifO (by simp [pow46]; omega) (ok_newA h (fun b13 S14 h14 => ok_ret ⟨some (.rw b13, 0), .op 1 s.length, [C b13 (bxs s).flatten], rfl, ?_, ?_⟩))
      · have := (SlR.of (b := b13) (xs := bxs s) (c := .op 1 s.length) (bxs_all s) (n := s.length) (by simp) (.inr rfl)).g
        exact this
      · rw [bxs_flat]; exact h14
    cases i with
    | zero =>
      refine ok_false (by simp) ?_
      simp only [J59_j1_1_1, b59_j1_1_1]
      refine ok_gO (ok_ldL h rfl ?_)
      obtain ⟨y, hy⟩ : ∃ y, t.s[x]? = some y := ⟨_, List.getElem?_eq_getElem hx⟩
      have hrd : t.rd x = y := by rw [St.rd, ← he]; simp [lkQ, hy]
      rw [hrd] at hz ⊢
      have hr : RdR X (C b [.sl sa t.s.length sc, .sl qa t.q.length qc, .int .i64 t.f] :: (Ls ++ Lq) ++ F) sa (strs t.s).flatten := hs1.rd (fun e he => by simp [he])
      obtain ⟨p, hp⟩ := hr.some_of (by intro he; have := congrArg List.length he; rw [flat_len (strs_all t.s), strs_len] at this; simp only [List.length_nil] at this; omega)
      have hr2 : ∀ {M : List Ent} {cs : List AV}, RdR X M sa cs → RdR X M (some p) cs := fun h => by rw [← hp]; exact h
      replace hr := hr2 hr
      rw [show ixSl 1 sa t.s.length (x : Int) = ixSl 1 (some p) t.s.length (x : Int) by rw [hp]]
      rw [ixSl_at rfl hx, rd_ldS hr h (i := x * 1) (v := y) (by have := flat_get (strs_all t.s) (strs_at hy) (j := 0) (by decide); simpa using this)]
      exact out y hz
    | succ i =>
      have hw : ((i + 1 : Nat) : Int) - 1 = (i : Nat) := by omega
      rw [hw]
      refine ok_true (by simp) (ok_gO (ok_ldL h rfl ?_))
      have hlt : i < t.q.length := by omega
      obtain ⟨y, hy⟩ : ∃ y, t.q[i]? = some y := ⟨_, List.getElem?_eq_getElem hlt⟩
      have hr : RdR X (C b [.sl sa t.s.length sc, .sl qa t.q.length qc, .int .i64 t.f] :: (Ls ++ Lq) ++ F) qa (qrows t.q).flatten := hs2.rd (fun e he => by simp [he])
      obtain ⟨p, hp⟩ := hr.some_of (by intro he; have := congrArg List.length he; rw [flat_len (qrows_all t.q), qrows_len] at this; simp only [List.length_nil] at this; omega)
      have g0 : (qrows t.q).flatten[i * 2]? = some (.int .i64 y.1) := by have := flat_get (qrows_all t.q) (qrows_at hy) (j := 0) (by decide); simpa [qrow] using this
      have g1 : (qrows t.q).flatten[i * 2 + 1]? = some (.str y.2) := by have := flat_get (qrows_all t.q) (qrows_at hy) (j := 1) (by decide); simpa [qrow] using this
      have hr2 : ∀ {M : List Ent} {cs : List AV}, RdR X M qa cs → RdR X M (some p) cs := fun h => by rw [← hp]; exact h
      replace hr := hr2 hr
      rw [show ixSl 2 qa t.q.length (i : Int) = ixSl 2 (some p) t.q.length (i : Int) by rw [hp]]
      rw [ixSl_at rfl hlt, hr.ldI h g0]
      have hlk : lkQ t.q x (i + 1) = if y.1 = x then some y.2 else lkQ t.q x i := by simp only [lkQ, hy]
      refine ok_cond (fun hc => ?_) (fun hc => ?_)
      · simp only [beq_iff_eq] at hc
        rw [if_pos hc] at hlk
        have hrd : t.rd x = y.2 := by rw [St.rd, ← he, hlk]
        rw [hrd] at hz ⊢
        refine ok_gO (ok_ldL h rfl ?_)
        rw [show ixSl 2 qa t.q.length (i : Int) = ixSl 2 (some p) t.q.length (i : Int) by rw [hp]]
        rw [ixSl_at rfl hlt, Nat.add_assoc, rd_ldS hr h g1]
        exact out y.2 hz
      · simp only [beq_eq_false_iff_ne, ne_eq] at hc
        rw [if_neg hc] at hlk
        rw [wz (z := (i : Int) - 1) rfl (by omega) (by omega)]
        exact read_loop n0 call hx hs1 hs2 h hq hz m i (by omega) (by omega) (by rw [← hlk]; exact he)

theorem read_ok (n : Nat) (hn : 1000002 < n) {t : St} {x : Nat} {xi : Int} (hxi : xi = x) (hx : x < t.s.length) (hb : StB b t L) (h : Hp X S (L ++ F)) (hq : t.q.length ≤ 1000000) (hz : (t.rd x).length ≤ 1000000) :
    Ok (ev (n + 1) (.fn 59) [.ptr (some (.rw b, 0)), .int .i64 xi] S) (BQ X (L ++ F) (t.rd x) 0) := by
  subst hxi
  have hb0 := hb
  obtain ⟨sa, sl, sc, qa, ql, qc, Ls, Lq, hs1, hs2, rfl⟩ := hb
  have hl1 := hs1.len
  have hl2 := hs2.len
  rw [strs_len] at hl1
  rw [qrows_len] at hl2
  rw [ev, F59 _ _ _ _ (oL rfl)]
  simp only [J59, b59_entry]
  refine ok_false (by simp) (ok_gO (ok_ldL h rfl (ok_false (by simp; omega) (ok_gO (ok_ldL h rfl ?_)))))
  subst hl1
  subst hl2
  rw [wz (z := (t.q.length : Int) - 1) rfl (by omega) (by omega)]
  exact read_loop n (evF E orcL n) hx hs1 hs2 h hq hz n t.q.length (Nat.le_refl _) (by omega) rfl

end

end Go.Jn

namespace Go.Jn
open Go.Gr

section
variable {X : Cx} {S : AS} {L F : List Ent} {b : Nat} {Q : AV → AS → Prop}

theorem write_ok (n : Nat) {t : St} {x : Int} {p : List UInt8} {a : Option Pos} {l : Nat} {c : Cap} (h0 : 0 ≤ x) (h1 : x < t.s.length) (hp : p.length = 384) (hf : t.f = -1) (hq : t.q.length ≤ 1000000) (hb : StB b t L) (h : Hp X S (L ++ F)) (hv : Vw X F a l c p) :
    Ok (ev (n + 1) (.fn 43) [.ptr (some (.rw b, 0)), .int .i64 x, .sl a l c] S) fun v S' => v = .int .i64 0 ∧ ∃ L', StB b ⟨t.s, t.q ++ [(x, p)], -1⟩ L' ∧ Hp X S' (L' ++ F) := by
  have hln := hv.ln
  obtain ⟨sa, sl, sc, qa, ql, qc, Ls, Lq, hs1, hs2, rfl⟩ := hb
  have hl1 := hs1.len
  have hl2 := hs2.len
  rw [strs_len] at hl1
  rw [qrows_len] at hl2
  rw [ev, F43 _ _ _ _ _ _ _ (oL rfl)]
  simp only [J43, b43_entry]
  refine ok_false (by simp; omega) (ok_gO (ok_ldL h rfl (ok_false (by simp; omega) (ok_false (by simp; omega) (ok_gO (ok_ldI h rfl (ok_false (by simp [hf]) (ok_gO (ok_ldI h rfl (ok_false (by simp [hf]) ?_)))))))))) 
  simp only [J43_j1_1_1_1, b43_j1_1_1_1]
  refine ok_drawA h [9] (by simp) (by simp) (fun b13 S1 h1' => ?_)
  have h1'' : Hp X S1 ((b13 + 9, none) :: (C b [.sl sa sl sc, .sl qa ql qc, .int .i64 t.f] :: (Ls ++ Lq) ++ F)) := h1'
  refine ok_gO (ok_ldL h1'' rfl ?_)
  rw [bytesStr_of (hv.r.mono (fun e he => by simp [he])) h1'' hv.ln]
  refine ok_layA (b := b13 + 9) h1'' (fun S2 h2 => ?_)
  have h2' : Hp X S2 (Lq ++ (C (b13 + 9) (qrow (x, p)) :: C b [.sl sa sl sc, .sl qa ql qc, .int .i64 t.f] :: (Ls ++ F))) := h2.re (by intro p; simp only [List.countP_append, List.countP_cons, List.cons_append, C, qrow]; omega)
  refine ok_appendG h2' hs2 (ys := qrows [(x, p)]) (qrows_all _) rfl (fun K => ?_) (by decide) (by simp [pow46]; omega) (by simp [pow46]; omega) (fun a3 l3 c3 S3 L3 ht' h3 => ?_)
  · have := RdR.first (.rw (X := X) (b := b13 + 9) (i := 0) (c := qrow (x, p)) (cs := qrow (x, p)) (L := _) (List.mem_append_right Lq List.mem_cons_self) (by simp) rfl) h2' (sz := 2) (n := 1) rfl (by decide) (l := 1) (c := .ex 1) K
    simpa [qrows] using this
  · rw [← qrows_append] at ht'
    refine ok_gO (ok_stn h3 (by simp) (d := [.sl sa sl sc, .sl a3 l3 c3, .int .i64 t.f]) (by simp [splice]) (fun S4 h4 => ok_ret ⟨rfl, C b [.sl sa sl sc, .sl a3 l3 c3, .int .i64 (-1)] :: (Ls ++ L3), ⟨sa, sl, sc, a3, l3, c3, Ls, L3, hs1, ht', rfl⟩, ?_⟩))
    rw [hf] at h4
    exact (h4.re (M := C (b13 + 9) (qrow (x, p)) :: (C b [.sl sa sl sc, .sl a3 l3 c3, .int .i64 (-1)] :: (Ls ++ L3) ++ F)) (by intro p; simp only [List.countP_append, List.countP_cons, List.cons_append, C]; omega)).drop1

theorem flush_loop (n0 : Nat) (call : CallA) {s0 : List (List UInt8)} {q : List (Int × List UInt8)} {f : Int} {qa : Option Pos} {qc : Cap} {Lq : List Ent} (hr : ∀ e ∈ q, 0 ≤ e.1 ∧ e.1 < s0.length) (hq : q.length ≤ 1000000) (hs2 : SlG qa q.length qc 2 (qrows q) Lq) :
    ∀ (m i : Nat) (sa : Option Pos) (sl : Nat) (sc : Cap) (Ls : List Ent) (S : AS), i ≤ q.length → q.length - i < m → SlG sa sl sc 1 (strs (flS (q.take i) s0)) Ls → Hp X S (C b [.sl sa sl sc, .sl qa q.length qc, .int .i64 f] :: (Ls ++ (Lq ++ F))) →
      Ok (J44_l1_0_1_0 call n0 m (some (.rw b, 0)) i S) fun v S' => v = .int .i64 0 ∧ ∃ L', StB b ⟨flS q s0, [], f⟩ L' ∧ Hp X S' (L' ++ F)
  | 0, i, sa, sl, sc, Ls, S, hi, hm, hs, h => by omega
  | m + 1, i, sa, sl, sc, Ls, S, hi, hm, hs, h => by
    have hl1 := hs.len
    rw [strs_len, flS_len] at hl1
    rw [J44_l1_0_1_0_succ]
    simp only [b44_l1_0_1_0]
    refine ok_gO (ok_ldL h rfl (ok_cond (fun hc => ?_) (fun hc => ?_)))
    · simp only [decide_eq_true_eq] at hc
      have hlt : i < q.length := by omega
      obtain ⟨y, hy⟩ : ∃ y, q[i]? = some y := ⟨_, List.getElem?_eq_getElem hlt⟩
      obtain ⟨hy0, hy1⟩ := hr y (List.mem_of_getElem? hy)
      have hrd : RdR X (C b [.sl sa sl sc, .sl qa q.length qc, .int .i64 f] :: (Ls ++ (Lq ++ F))) qa (qrows q).flatten := hs2.rd (fun e he => by simp [he])
      obtain ⟨p, hp⟩ := hrd.some_of (by intro he; have := congrArg List.length he; rw [flat_len (qrows_all q), qrows_len] at this; simp only [List.length_nil] at this; omega)
      have hrd2 : ∀ {M : List Ent} {cs : List AV}, RdR X M qa cs → RdR X M (some p) cs := fun h => by rw [← hp]; exact h
      replace hrd := hrd2 hrd
      have g0 : (qrows q).flatten[i * 2]? = some (.int .i64 y.1) := by have := flat_get (qrows_all q) (qrows_at hy) (j := 0) (by decide); simpa [qrow] using this
      have g1 : (qrows q).flatten[i * 2 + 1]? = some (.str y.2) := by have := flat_get (qrows_all q) (qrows_at hy) (j := 1) (by decide); simpa [qrow] using this
      refine ok_gO (ok_ldL h rfl (ok_gO (ok_ldL h rfl ?_)))
      rw [show ixSl 2 qa q.length (i : Int) = ixSl 2 (some p) q.length (i : Int) by rw [hp]]
      rw [ixSl_at rfl hlt, hrd.ldI h g0]
      refine ok_gO (ok_ldL h rfl ?_)
      rw [show ixSl 2 qa q.length (i : Int) = ixSl 2 (some p) q.length (i : Int) by rw [hp]]
      rw [ixSl_at rfl hlt, Nat.add_assoc, rd_ldS hrd h g1]
      rcases hs.dest with ⟨_, hz, _, _, _⟩ | ⟨bs, js, rfl, hln, hcc, rfl, hx', hj⟩
      · omega
      have hk : y.1 = ((y.1.toNat : Nat) : Int) := by omega
      have hklt : y.1.toNat < sl := by omega
      refine ok_ixSl hk hklt ?_
      rw [Nat.zero_add]
      have hsp : splice (strs (flS (q.take i) s0) ++ js).flatten (y.1.toNat * 1) [.str y.2] = (strs (flS (q.take (i + 1)) s0) ++ js).flatten := by
        have hall : ∀ x ∈ strs (flS (q.take i) s0) ++ js, x.length = 1 := fun x hx => by
          rcases List.mem_append.1 hx with hx | hx
          · exact hx' x hx
          · exact hj x hx
        rw [flat_splice hall (by rw [List.length_append, strs_len, flS_len]; omega) rfl, List.set_append_left _ _ (by rw [strs_len, flS_len]; omega)]
        have : (strs (flS (q.take i) s0)).set y.1.toNat [.str y.2] = strs (flS (q.take (i + 1)) s0) := by
          rw [List.take_add_one, hy]
          show _ = strs (flS (q.take i ++ [y]) s0)
          rw [flS_snoc, strs, strs, List.map_set]
        rw [this]
      have h' : Hp X S (C bs (strs (flS (q.take i) s0) ++ js).flatten :: (C b [.sl (some (.rw bs, 0)) sl sc, .sl qa q.length qc, .int .i64 f] :: (Lq ++ F))) := h.re (by intro p; simp only [List.countP_append, List.countP_cons, List.countP_nil, C]; omega)
      have hlen : (strs (flS (q.take i) s0) ++ js).flatten.length = (s0.length + js.length) * 1 := by
        rw [flat_len (fun x hx => ?_), List.length_append, strs_len, flS_len]
        rcases List.mem_append.1 hx with hx | hx
        · exact hx' x hx
        · exact hj x hx
      refine ok_stn h' (by rw [hlen]; simp; omega) (d := (strs (flS (q.take (i + 1)) s0) ++ js).flatten) hsp (fun S1 h1 => ?_)
      rw [wn (x := (i : Int) + 1) (n := i + 1) (by omega) (by omega)]
      refine flush_loop n0 call hr hq hs2 m (i + 1) (some (.rw bs, 0)) sl sc [C bs (strs (flS (q.take (i + 1)) s0) ++ js).flatten] S1 (by omega) (by omega) ?_ (h1.re (by intro p; simp only [List.countP_append, List.countP_cons, List.countP_nil, C]; omega))
      rw [strs_len, flS_len] at hcc
      have := SlG.blk (b := bs) (xs := strs (flS (q.take (i + 1)) s0)) (js := js) (c := sc) (strs_all _) hj (by rw [strs_len, flS_len]; exact hcc)
      rw [strs_len, flS_len, ← hl1] at this
      exact this
    · simp only [decide_eq_false_iff_not] at hc
      have : i = q.length := by omega
      subst this
      rw [List.take_length] at hs
      simp only [J44_j1_1, b44_j1_1]
      refine ok_gO (ok_stn h (by simp) (d := [.sl sa sl sc, .sl none 0 (.ex 0), .int .i64 f]) (by simp [splice]) (fun S1 h1 => ok_ret ⟨rfl, C b [.sl sa sl sc, .sl none 0 (.ex 0), .int .i64 f] :: (Ls ++ []), ⟨sa, sl, sc, none, 0, .ex 0, Ls, [], hs, .nil, rfl⟩, ?_⟩))
      rw [List.append_nil]
      exact (h1.re (M := Lq ++ (C b [.sl sa sl sc, .sl none 0 (.ex 0), .int .i64 f] :: Ls ++ F)) (by intro p; simp only [List.countP_append, List.countP_cons, List.cons_append, C]; omega)).right

theorem flush_ok (n : Nat) (hn : 1000002 < n) {t : St} (hr : t.inr) (hq : t.q.length ≤ 1000000) (hb : StB b t L) (h : Hp X S (L ++ F)) :
    Ok (ev (n + 1) (.fn 44) [.ptr (some (.rw b, 0))] S) fun v S' => v = .int .i64 0 ∧ ∃ L', StB b t.fl L' ∧ Hp X S' (L' ++ F) := by
  obtain ⟨sa, sl, sc, qa, ql, qc, Ls, Lq, hs1, hs2, rfl⟩ := hb
  have hl2 := hs2.len
  rw [qrows_len] at hl2
  subst hl2
  rw [ev, F44 _ _ _ (oL rfl)]
  simp only [J44, b44_entry]
  exact flush_loop (b := b) n (evF E orcL n) (s0 := t.s) (q := t.q) (f := t.f) hr hq hs2 n 0 sa sl sc Ls S (by omega) (by omega) (by simpa [flS] using hs1) (by simpa using h)

/-- The device as it is handed to the journal. -/
abbrev dev (b : Nat) : AV := .iface 25 (.ptr (some (.rw b, 0)))
theorem mLen : E.meth 25 "Len" = some 97 := by kernel_rfl
theorem mRead : E.meth 25 "Read" = some 59 := by kernel_rfl
theorem mWrite : E.meth 25 "Write" = some 43 := by kernel_rfl
theorem mFlush : E.meth 25 "Flush" = some 44 := by kernel_rfl

end

end Go.Jn

namespace Go.Jn
open Go.Gr

section
variable {X : Cx} {S : AS} {L F : List Ent} {b : Nat} {Q : AV → AS → Prop}

theorem ifNil_dev {K : Bool → Option (AV × AS)} : ifNil E .eql ty73 (dev b) K = K false := rfl
theorem nilV_dev {K : AV → Option (AV × AS)} : nilV E (dev b) K = K (dev b) := rfl
theorem mthV_dev {name : String} {K : AV → Option (AV × AS)} : mthV (dev b) name K = K (.mth 25 name) := rfl
theorem nilV_write {K : AV → Option (AV × AS)} : nilV E (.mth 25 "Write") K = K (.mth 25 "Write") := by
  simp only [nilV, mWrite]

theorem ok_invWrite (n : Nat) {t : St} {x : Int} {p : List UInt8} {a : Option Pos} {l : Nat} {c : Cap} {K : AV → AS → Option (AV × AS)} (h0 : 0 ≤ x) (h1 : x < t.s.length) (hp : p.length = 384) (hf : t.f = -1) (hq : t.q.length ≤ 1000000) (hb : StB b t L) (h : Hp X S (L ++ F)) (hv : Vw X F a l c p)
    (ht : ∀ L' S', StB b ⟨t.s, t.q ++ [(x, p)], -1⟩ L' → Hp X S' (L' ++ F) → Ok (K (.int .i64 0) S') Q) : Ok (invV E (evF E orcL (n + 1)) (dev b) "Write" [.int .i64 x, .sl a l c] S K) Q := by
  obtain ⟨v, S', e, rfl, L', hL, hh⟩ : Ok (evF E orcL (n + 1) (.fn 43) [.ptr (some (.rw b, 0)), .int .i64 x, .sl a l c] S) _ := write_ok n h0 h1 hp hf hq hb h hv
  rw [invV_of mWrite e]
  exact ht L' S' hL hh
theorem ok_invFlush (n : Nat) (hn : 1000002 < n) {t : St} {K : AV → AS → Option (AV × AS)} (hr : t.inr) (hq : t.q.length ≤ 1000000) (hb : StB b t L) (h : Hp X S (L ++ F))
    (ht : ∀ L' S', StB b t.fl L' → Hp X S' (L' ++ F) → Ok (K (.int .i64 0) S') Q) : Ok (invV E (evF E orcL (n + 1)) (dev b) "Flush" [] S K) Q := by
  obtain ⟨v, S', e, rfl, L', hL, hh⟩ : Ok (evF E orcL (n + 1) (.fn 44) [.ptr (some (.rw b, 0))] S) _ := flush_ok n hn hr hq hb h
  rw [invV_of mFlush e]
  exact ht L' S' hL hh
theorem ok_gIk {k : IntKind} {x : Int} {K : Int → Option (AV × AS)} (ht : Ok (K x) Q) : Ok (gIk k (.int k x) K) Q := by simpa [gIk] using ht

theorem fits_eq (n : Nat) {t : St} {first count : Nat} (hc : 6 ≤ count) (hf : first + count ≤ t.s.length) (ht : t.s.length ≤ 1000000) (hb : StB b t L) (h : Hp X S (L ++ F)) : ev (n + 2) (.fn 40) [dev b, .int .i64 first, .int .i64 count] S = some (.int .i64 0, S) := by
  apply ok_eq
  rw [ev, F40 _ _ _ _ _ (oL rfl)]
  simp only [J40, b40_entry]
  have el : evF E orcL (n + 1) (.fn 97) [.ptr (some (.rw b, 0))] S = some (.int .i64 t.s.length, S) := len_eq n h hb
  rw [ifNil_dev]
  refine ok_false rfl (ok_false (by simp <;> omega) (ok_false (by simp <;> omega) ?_))
  rw [invV_of mLen el]
  refine ok_gIk (ok_false (by simp; omega) ?_)
  rw [invV_of mLen el]
  refine ok_gIk (ok_false ?_ (ok_ret ⟨rfl, rfl⟩))
  rw [wz (x := ((t.s.length : Nat) : Int) - (first : Nat)) rfl (by omega) (by omega)]
  simp; omega

theorem flS_same {z : List UInt8} {k : Nat} : ∀ (q : List (Int × List UInt8)), (∀ e ∈ q, e.2 = z) → flS q (List.replicate k z) = List.replicate k z
  | [], _ => rfl
  | e :: q, h => by
    rw [flS, h e (by simp)]
    have : (List.replicate k z).set e.1.toNat z = List.replicate k z := by
      apply List.ext_getElem (by simp)
      intro i h1 h2
      simp [List.getElem_set]
    rw [this]
    exact flS_same q fun x hx => h x (by simp [hx])

theorem f_loop1 (n0 n : Nat) {count : Nat} (hcount : count ≤ 1000) {w6 : Int}
    (fin : ∀ (q : List (Int × List UInt8)) (L' : List Ent) (S' : AS), (∀ e ∈ q, e.2 = zz 384 ∧ 0 ≤ e.1 ∧ e.1 < count) → q.length ≤ 1000 → StB b ⟨List.replicate count (zz 384), q, -1⟩ L' → Hp X S' (L' ++ F) → Ok (J19_j1_1_1 (evF E orcL (n + 1)) n0 (dev b) 0 S') Q) :
    ∀ (m i : Nat) (q : List (Int × List UInt8)) (L : List Ent) (S : AS), 2 ≤ i → i ≤ count → count - i < m → (∀ e ∈ q, e.2 = zz 384 ∧ 0 ≤ e.1 ∧ e.1 < count) → q.length + 2 = i → StB b ⟨List.replicate count (zz 384), q, -1⟩ L → Hp X S (L ++ F) →
      Ok (J19_l1_1_0_1_0 (evF E orcL (n + 1)) n0 m (dev b) 0 count w6 i S) Q
  | 0, i, q, L, S, h2i, hi, hm, hq, hql, hb, h => by omega
  | m + 1, i, q, L, S, h2i, hi, hm, hq, hql, hb, h => by
    rw [J19_l1_1_0_1_0_succ]
    simp only [b19_l1_1_0_1_0]
    rw [wn (x := (0 : Int) + (count : Nat)) (n := count) (by omega) (by omega)]
    refine ok_cond (fun hc => ?_) (fun hc => ?_)
    · simp only [decide_eq_true_eq] at hc
      refine ok_drawA h [2] (by simp) (by simp) (fun b3 S1 h1 => ok_mkSl (l := 384) (c := 384) rfl rfl (Nat.le_refl _) (by simp [pow46]) (by simp [pow46]) ?_)
      have h1' : Hp X S1 ((b3 + 2, none) :: (L ++ F)) := h1
      rw [mthV_dev, nilV_write]
      refine ok_layA (b := b3 + 2) h1' (fun S2 h2 => ?_)
      have e : zeros 384 [AV.int .u8 0] = ofBytes (zz 384) := by rw [zeros_bxs, bxs_flat]
      rw [e] at h2
      have h2' : Hp X S2 (L ++ (C (b3 + 2) (ofBytes (zz 384)) :: F)) := h2.re (by intro p; simp only [List.countP_append, List.countP_cons, C]; omega)
      have hv : Vw X (C (b3 + 2) (ofBytes (zz 384)) :: F) (some (.rw (b3 + 2), 0)) 384 (.ex 384) (zz 384) := ⟨.rw (c := ofBytes (zz 384)) List.mem_cons_self (by simp) (by rw [List.drop_zero, List.take_length]), by simp, 384, .inl rfl, Nat.le_refl _⟩
      refine ok_invWrite n (by omega) (by simp; omega) (by simp) rfl (by show q.length ≤ _; omega) hb h2' hv (fun L3 S3 hb3 h3 => ok_gIk (ok_false rfl ?_))
      rw [wn (x := (i : Int) + 1) (n := i + 1) (by omega) (by omega)]
      refine f_loop1 n0 n hcount fin m (i + 1) (q ++ [(((i : Nat) : Int), zz 384)]) L3 S3 (by omega) (by omega) (by omega) (fun e he => ?_) (by simp; omega) hb3 (h3.re (M := C (b3 + 2) (ofBytes (zz 384)) :: (L3 ++ F)) (by intro p; simp only [List.countP_append, List.countP_cons, C]; omega)).drop1
      rcases List.mem_append.1 he with he | he
      · exact hq e he
      · simp only [List.mem_singleton] at he
        subst he
        exact ⟨rfl, by show (0 : Int) ≤ i; omega, by show (i : Int) < count; omega⟩
    · exact fin q L S hq (by omega) hb h

def su (g : Int) : Su := ⟨g, 1, 0, 0, 0, 0⟩
theorem su_ok {g : Int} (h : g ≠ 0) (h2 : g ≤ 4611686018427387904) : okS (su g) = true := by
  simp [okS, Su.l, su, mxB, h]; omega
theorem su_B {g : Int} (h : 0 ≤ g) (h2 : g ≤ 4611686018427387904) : ∀ y ∈ (su g).l, u64B y := by
  intro y hy
  simp [Su.l, su] at hy
  rcases hy with rfl | rfl | rfl
  all_goals exact ⟨by omega, by omega⟩

/-- A new journal's device. -/
def st0 (count : Nat) : St := ⟨((List.replicate count (zz 384)).set 0 (encS (su 1))).set 1 (encS (su 2)), [], -1⟩
@[simp] theorem st0_len (count : Nat) : (st0 count).s.length = count := by simp [st0]
theorem st0_rd0 {count : Nat} (h : 6 ≤ count) : (st0 count).rd 0 = encS (su 1) := by
  have e : (((List.replicate count (zz 384)).set 0 (encS (su 1))).set 1 (encS (su 2)))[0]? = some (encS (su 1)) := by
    rw [List.getElem?_set_ne (by decide), List.getElem?_set_self (by simp; omega)]
  show ((((List.replicate count (zz 384)).set 0 (encS (su 1))).set 1 (encS (su 2)))[0]?).getD [] = _
  rw [e]; rfl
theorem st0_rd1 {count : Nat} (h : 6 ≤ count) : (st0 count).rd 1 = encS (su 2) := by
  have e : (((List.replicate count (zz 384)).set 0 (encS (su 1))).set 1 (encS (su 2)))[1]? = some (encS (su 2)) := by
    rw [List.getElem?_set_self (by simp; omega)]
  show ((((List.replicate count (zz 384)).set 0 (encS (su 1))).set 1 (encS (su 2)))[1]?).getD [] = _
  rw [e]; rfl
theorem st0_rd2 {count : Nat} (h : 6 ≤ count) : (st0 count).rd 2 = zz 384 := by
  have e : (((List.replicate count (zz 384)).set 0 (encS (su 1))).set 1 (encS (su 2)))[2]? = some (zz 384) := by
    rw [List.getElem?_set_ne (by decide), List.getElem?_set_ne (by decide), List.getElem?_replicate, if_pos (by omega)]
  show ((((List.replicate count (zz 384)).set 0 (encS (su 1))).set 1 (encS (su 2)))[2]?).getD [] = _
  rw [e]; rfl

theorem format_ok (n : Nat) (hn : 1000010 < n) {count : Nat} (hc : 6 ≤ count) (hcount : count ≤ 1000) (hb : StB b ⟨List.replicate count (zz 384), [], -1⟩ L) (h : Hp X S (L ++ F)) :
    Ok (ev (n + 4) (.fn 19) [dev b, .int .i64 0, .int .i64 count] S) fun v S' => v = .int .i64 0 ∧ ∃ L', StB b (st0 count) L' ∧ Hp X S' (L' ++ F) := by
  rw [ev, F19 _ _ _ _ _ (oL rfl)]
  simp only [J19, b19_entry]
  rw [callI_of (show evF E orcL (n + 3) (.fn 40) [dev b, .int .i64 0, .int .i64 count] S = _ from fits_eq (n + 1) (first := 0) hc (by simp) (by simp; omega) hb h)]
  refine ok_false rfl ?_
  rw [wn (x := (0 : Int) + 2) (n := 2) rfl (by omega)]
  refine f_loop1 (n + 3) (n + 2) hcount (fun q L1 S1 hq hql hb1 h1 => ?_) (n + 3) 2 [] L S (by omega) (by omega) (by omega) (fun e he => by cases he) rfl hb h
  simp only [J19_j1_1_1, b19_j1_1_1]
  have hfl : St.fl ⟨List.replicate count (zz 384), q, -1⟩ = ⟨List.replicate count (zz 384), [], -1⟩ := by
    rw [St.fl, flS_same q (fun e he => (hq e he).1)]
  refine ok_invFlush (n + 2) (by omega) (fun e he => by have := hq e he; simp; omega) (by show q.length ≤ _; omega) hb1 h1 (fun L2 S2 hb2 h2 => ok_gIk (ok_false rfl ?_))
  rw [hfl] at hb2
  -- the first superblock
  rw [J19_l1_1_1_1_0_1_0_succ]
  simp only [b19_l1_1_1_1_0_1_0]
  refine ok_true (by decide) ?_
  rw [show IntKind.wrap .u64 (IntKind.wrap .i64 ((0 : Int) + 1)) = 1 by decide]
  obtain ⟨v, S3, e3, a3, c3, L3, rfl, hs3, h3⟩ : Ok (evF E orcL (n + 3) (.fn 41) [.agg (srowS (su 1))] S2) _ := putS_ok n (by omega) (su_B (by omega) (by omega)) h2
  rw [callT_of (show evF E orcL (n + 3) (.fn 41) [.agg [.int .u64 1, .int .u64 1, .int .u64 0, .int .u64 0, .int .u64 0, .int .u64 0]] S2 = _ from e3)]
  rw [show putS (su 1) = encS (su 1) by simp [putS, su_ok]] at hs3 ⊢
  refine ok_atL rfl (ok_atI rfl ?_)
  rw [show IntKind.wrap .i64 ((0 : Int) + 0) = 0 by decide]
  refine ok_invWrite (n + 2) (by omega) (by simp; omega) (encS_len _) rfl (by simp) hb2 (h3.re (M := L2 ++ (L3 ++ F)) (by intro p; simp only [List.countP_append]; omega)) (slG_vw hs3 (fun e he => by simp [he])) (fun L4 S4 hb4 h4 => ok_gIk (ok_false rfl ?_))
  rw [show IntKind.wrap .i64 ((0 : Int) + 1) = 1 by decide]
  -- the second one
  have hn2 : n + 3 = (n + 2) + 1 := rfl
  rw [show J19_l1_1_1_1_0_1_0 (evF E orcL (n + 3)) (n + 3) (n + 2) = J19_l1_1_1_1_0_1_0 (evF E orcL (n + 3)) (n + 3) ((n + 1) + 1) from rfl, J19_l1_1_1_1_0_1_0_succ]
  simp only [b19_l1_1_1_1_0_1_0]
  refine ok_true (by decide) ?_
  rw [show IntKind.wrap .u64 (IntKind.wrap .i64 ((1 : Int) + 1)) = 2 by decide]
  obtain ⟨v, S5, e5, a5, c5, L5, rfl, hs5, h5⟩ : Ok (evF E orcL (n + 3) (.fn 41) [.agg (srowS (su 2))] S4) _ := putS_ok n (by omega) (su_B (by omega) (by omega)) h4
  rw [callT_of (show evF E orcL (n + 3) (.fn 41) [.agg [.int .u64 2, .int .u64 1, .int .u64 0, .int .u64 0, .int .u64 0, .int .u64 0]] S4 = _ from e5)]
  rw [show putS (su 2) = encS (su 2) by simp [putS, su_ok]] at hs5 ⊢
  refine ok_atL rfl (ok_atI rfl ?_)
  rw [show IntKind.wrap .i64 ((0 : Int) + 1) = 1 by decide]
  refine ok_invWrite (n + 2) (by omega) (by simp; omega) (encS_len _) rfl (by simp) hb4 (h5.re (M := L4 ++ (L5 ++ (L3 ++ F))) (by intro p; simp only [List.countP_append]; omega)) (slG_vw hs5 (fun e he => by simp [he])) (fun L6 S6 hb6 h6 => ok_gIk (ok_false rfl ?_))
  rw [show IntKind.wrap .i64 ((1 : Int) + 1) = 2 by decide]
  rw [show J19_l1_1_1_1_0_1_0 (evF E orcL (n + 3)) (n + 3) (n + 1) = J19_l1_1_1_1_0_1_0 (evF E orcL (n + 3)) (n + 3) (n + 1) from rfl, J19_l1_1_1_1_0_1_0_succ]
  simp only [b19_l1_1_1_1_0_1_0]
  refine ok_false (by decide) ?_
  simp only [J19_j1_1_1_1_1, b19_j1_1_1_1_1]
  refine ok_invFlush (n + 2) (by omega) (fun e he => ?_) (by simp) hb6 h6 (fun L7 S7 hb7 h7 => ok_gIk (ok_ret ⟨rfl, L7, ?_, h7.sub (List.Sublist.append_left ((List.sublist_append_right L3 F).trans (List.sublist_append_right L5 _)) L7)⟩))
  · simp only [List.nil_append, List.mem_append, List.mem_cons, List.not_mem_nil, or_false] at he
    rcases he with rfl | rfl
    · simp; omega
    · simp; omega
  · have : St.fl ⟨List.replicate count (zz 384), [] ++ [((0 : Int), encS (su 1))] ++ [((1 : Int), encS (su 2))], -1⟩ = st0 count := by simp [St.fl, flS, st0]
    rw [← this]; exact hb7

end

end Go.Jn

namespace Go.Jn
open Go.Gr

/-- A transaction that is not trimmed. -/
structure One where
  need : Int
  bo : Int
  se : Int
def orow (o : One) : List AV := [.int .i64 o.need, .int .u64 o.bo, .int .u64 o.se]
def orows (l : List One) : List (List AV) := l.map orow
@[simp] theorem orows_len (l : List One) : (orows l).length = l.length := by simp [orows]
theorem orows_all (l : List One) : ∀ x ∈ orows l, x.length = 3 := fun x hx => by
  obtain ⟨s, _, rfl⟩ := List.mem_map.1 hx; rfl
theorem orows_at {l : List One} {i : Nat} {e : One} (h : l[i]? = some e) : (orows l)[i]? = some (orow e) := by
  rw [orows, List.getElem?_map, h]; rfl
theorem orows_append (l m : List One) : orows (l ++ m) = orows l ++ orows m := by simp [orows]

/-- A journal at the head of its device. -/
structure JM where
  count : Nat
  sup : Su
  l : List One
  sy : Int
  se : Int
def jrow (d : AV) (J : JM) (a : Option Pos) (l : Nat) (c : Cap) : List AV := [d, .int .i64 0, .int .i64 J.count, .int .u64 J.sup.g, .int .u64 J.sup.bo, .int .u64 J.sup.po, .int .u64 J.sup.ls, .int .u64 J.sup.ab, .int .u64 J.sup.as_, .sl a l c, .int .u64 J.sy, .int .u64 J.se]
def JB (bj sb : Nat) (J : JM) (L : List Ent) : Prop := ∃ a c Ll, SlG a J.l.length c 3 (orows J.l) Ll ∧ L = C bj (jrow (dev sb) J a J.l.length c) :: Ll

def sumN (l : List One) : Int := (l.map (·.need)).sum
theorem sumN_cons (o : One) (l : List One) : sumN (o :: l) = o.need + sumN l := by simp [sumN]
theorem sumN_snoc (o : One) (l : List One) : sumN (l ++ [o]) = sumN l + o.need := by simp [sumN]
/-- Numbers are small. -/
structure JI (J : JM) (k : Nat) : Prop where
  c6 : 6 ≤ J.count
  c40 : J.count ≤ 40
  g : 1 ≤ J.sup.g ∧ J.sup.g ≤ k
  bo : 1 ≤ J.sup.bo ∧ J.sup.bo ≤ k
  po : 0 ≤ J.sup.po ∧ J.sup.po ≤ 100 * k
  ls : 0 ≤ J.sup.ls ∧ J.sup.ls ≤ k
  ab : 0 ≤ J.sup.ab ∧ J.sup.ab ≤ k
  as_ : 0 ≤ J.sup.as_ ∧ J.sup.as_ ≤ k
  se : 0 ≤ J.se ∧ J.se ≤ k
  sy : J.sup.ls ≤ J.sy ∧ J.sy ≤ J.sup.ls + J.l.length
  ol : ∀ o ∈ J.l, 1 ≤ o.need ∧ o.need ≤ 40 ∧ 0 ≤ o.bo ∧ o.bo ≤ k ∧ 0 ≤ o.se ∧ o.se ≤ k
  rm : sumN J.l + 2 ≤ J.count
  k1 : k ≤ 100000
/-- A device that is large enough. -/
structure SI (t : St) (n k : Nat) : Prop where
  len : t.s.length = n
  f : t.f = -1
  q : t.q.length ≤ k
  r : t.inr

theorem sumN_ge : ∀ {l : List One}, (∀ o ∈ l, 1 ≤ o.need) → (l.length : Int) ≤ sumN l
  | [], _ => by simp [sumN]
  | o :: l, h => by
    have h1 := h o (by simp)
    have h2 := sumN_ge fun x hx => h x (List.mem_cons_of_mem o hx)
    rw [sumN_cons, List.length_cons]; omega
theorem JI.lcount {J : JM} {k : Nat} (h : JI J k) : J.l.length ≤ 38 := by
  have h1 := sumN_ge fun o ho => (h.ol o ho).1
  have h2 := h.rm
  have h3 := h.c40
  omega

section
variable {X : Cx} {S : AS} {L F Lj Ls : List Ent} {b bj sb : Nat} {Q : AV → AS → Prop} {J : JM} {k : Nat} {t : St}

theorem last_eq (n : Nat) (hJ : JI J k) (h : Hp X S (Lj ++ F)) (hj : JB bj sb J Lj) : ev (n + 1) (.fn 29) [.ptr (some (.rw bj, 0))] S = some (.int .u64 (J.sup.ls + J.l.length), S) := by
  obtain ⟨a, c, Ll, hs, rfl⟩ := hj
  have h38 := hJ.lcount
  have hls := hJ.ls
  have hk := hJ.k1
  apply ok_eq
  rw [ev, F29 _ _ _ (oL rfl)]
  simp only [J29, b29_entry]
  refine ok_false rfl (ok_gO (ok_ldI h rfl (ok_gO (ok_ldL h rfl (ok_ret ⟨?_, rfl⟩)))))
  rw [wu64 (n := ((J.l.length : Nat) : Int)) (by omega) (by omega), wu64 (by omega) (by omega)]

theorem trimmed_eq (n : Nat) (h : Hp X S (Lj ++ F)) (hj : JB bj sb J Lj) : ev (n + 1) (.fn 15) [.ptr (some (.rw bj, 0))] S = some (.int .u64 J.sup.ls, S) := by
  obtain ⟨a, c, Ll, hs, rfl⟩ := hj
  apply ok_eq
  rw [ev, F15 _ _ _ (oL rfl)]
  simp only [J15, b15_entry]
  exact ok_false rfl (ok_gO (ok_ldI h rfl (ok_ret ⟨rfl, rfl⟩)))

theorem sumN_take {l : List One} {i : Nat} {o : One} (h : l[i]? = some o) : sumN (l.take (i + 1)) = sumN (l.take i) + o.need := by
  rw [List.take_add_one, h]; exact sumN_snoc _ _
theorem sumN_le {l : List One} (h : ∀ o ∈ l, 1 ≤ o.need) (i : Nat) : 0 ≤ sumN (l.take i) ∧ sumN (l.take i) ≤ sumN l := by
  have h1 := sumN_ge (l := l.take i) fun o ho => h o (List.mem_of_mem_take ho)
  have h2 := sumN_ge (l := l.drop i) fun o ho => h o (List.mem_of_mem_drop ho)
  have h3 : sumN (l.take i ++ l.drop i) = sumN (l.take i) + sumN (l.drop i) := by
    rw [sumN, List.map_append, List.sum_append]; rfl
  rw [List.take_append_drop] at h3
  omega

theorem room_loop (n0 : Nat) (call : CallA) {l : List One} {a : Option Pos} {c : Cap} {w : Int} (hw : 0 ≤ w ∧ w ≤ 1000) (hl : l.length ≤ 1000) (ho : ∀ o ∈ l, 1 ≤ o.need) (hs0 : sumN l ≤ 1000) (hr : RdR X F a (orows l).flatten) : ∀ (m i : Nat) (M : List Ent) (S : AS), i ≤ l.length → l.length - i < m → Hp X S (M ++ F) →
    Ok (J17_l1_1_1_0_1_0 call n0 m (w - sumN (l.take i)) a l.length c l.length i S) fun v S' => v = .int .i64 (w - sumN l) ∧ Hp X S' F
  | 0, i, M, S, hi, hm, h => by omega
  | m + 1, i, M, S, hi, hm, h => by
    rw [J17_l1_1_1_0_1_0_succ]
    simp only [b17_l1_1_1_0_1_0]
    refine ok_cond (fun hc => ?_) (fun hc => ?_)
    · simp only [decide_eq_true_eq] at hc
      have hlt : i < l.length := by omega
      obtain ⟨x, hx⟩ : ∃ x, l[i]? = some x := ⟨_, List.getElem?_eq_getElem hlt⟩
      have hr' : RdR X (M ++ F) a (orows l).flatten := hr.mono (fun e he => by simp [he])
      obtain ⟨p, hp⟩ := hr'.some_of (by intro he; have := congrArg List.length he; rw [flat_len (orows_all l), orows_len] at this; simp only [List.length_nil] at this; omega)
      rw [hp] at hr'
      rw [show ixSl 3 a l.length (i : Int) = ixSl 3 (some p) l.length (i : Int) by rw [hp]]
      rw [ixSl_at rfl hlt, hr'.elem h (orows_all l) (orows_at hx)]
      refine ok_newA h (fun b7 S1 h1 => ok_ifO rfl (ok_stn h1 (by simp [orow]) (d := orow x) (by simp [splice, orow]) (fun S2 h2 => ok_ldI h2 rfl ?_)))
      have h3 := sumN_take hx
      have h4 := sumN_le ho i
      have h5 := sumN_le ho (i + 1)
      rw [wz (x := w - sumN (l.take i) - x.need) (z := w - sumN (l.take (i + 1))) (by omega) (by omega) (by omega), wn (x := (i : Int) + 1) (n := i + 1) (by omega) (by omega)]
      exact room_loop n0 call hw hl ho hs0 hr m (i + 1) (C b7 (orow x) :: M) S2 (by omega) (by omega) h2
    · simp only [decide_eq_false_iff_not] at hc
      rw [List.take_of_length_le (by omega)]
      exact ok_ret ⟨rfl, h.right⟩

theorem room_ok (n : Nat) (hn : 2000 < n) (hJ : JI J k) (h : Hp X S (Lj ++ F)) (hj : JB bj sb J Lj) :
    Ok (ev (n + 1) (.fn 17) [.ptr (some (.rw bj, 0))] S) fun v S' => v = .int .i64 (J.count - 2 - sumN J.l) ∧ Hp X S' (Lj ++ F) := by
  obtain ⟨a, c, Ll, hs, rfl⟩ := hj
  have h38 := hJ.lcount
  have h1 := hJ.rm
  have h2 := hJ.c6
  have h3 := hJ.c40
  rw [ev, F17 _ _ _ (oL rfl)]
  simp only [J17, b17_entry]
  refine ok_false rfl (ok_gO (ok_ldI h rfl (ok_gO (ok_ldL h rfl ?_))))
  rw [wz (x := (J.count : Int) - 2) rfl (by omega) (by omega)]
  have := room_loop (X := X) (F := C bj (jrow (dev sb) J a J.l.length c) :: Ll ++ F) (c := c) n (evF E orcL n) (w := (J.count : Int) - 2) (by omega) (by omega) (fun o ho => (hJ.ol o ho).1) (by omega) (hs.rd (fun e he => by simp [he])) n 0 [] S (by omega) (by omega) h
  simpa [sumN] using this

theorem next_loop (n0 : Nat) (call : CallA) {l : List One} {a : Option Pos} {c : Cap} {w : Int} (hw : 0 ≤ w ∧ w ≤ 100000000) (hl : l.length ≤ 1000) (ho : ∀ o ∈ l, 1 ≤ o.need) (hs0 : sumN l ≤ 1000) (hr : RdR X F a (orows l).flatten) : ∀ (m i : Nat) (M : List Ent) (S : AS), i ≤ l.length → l.length - i < m → Hp X S (M ++ F) →
    Ok (J34_l1_1_0_1_0 call n0 m (w + sumN (l.take i)) a l.length c l.length i S) fun v S' => v = .int .u64 (w + sumN l) ∧ Hp X S' F
  | 0, i, M, S, hi, hm, h => by omega
  | m + 1, i, M, S, hi, hm, h => by
    rw [J34_l1_1_0_1_0_succ]
    simp only [b34_l1_1_0_1_0]
    refine ok_cond (fun hc => ?_) (fun hc => ?_)
    · simp only [decide_eq_true_eq] at hc
      have hlt : i < l.length := by omega
      obtain ⟨x, hx⟩ : ∃ x, l[i]? = some x := ⟨_, List.getElem?_eq_getElem hlt⟩
      have hr' : RdR X (M ++ F) a (orows l).flatten := hr.mono (fun e he => by simp [he])
      obtain ⟨p, hp⟩ := hr'.some_of (by intro he; have := congrArg List.length he; rw [flat_len (orows_all l), orows_len] at this; simp only [List.length_nil] at this; omega)
      rw [hp] at hr'
      rw [show ixSl 3 a l.length (i : Int) = ixSl 3 (some p) l.length (i : Int) by rw [hp]]
      rw [ixSl_at rfl hlt, hr'.elem h (orows_all l) (orows_at hx)]
      refine ok_newA h (fun b7 S1 h1 => ok_ifO rfl (ok_stn h1 (by simp [orow]) (d := orow x) (by simp [splice, orow]) (fun S2 h2 => ok_ldI h2 rfl ?_)))
      have h3 := sumN_take hx
      have h4 := sumN_le ho i
      have h5 := sumN_le ho (i + 1)
      have hx1 := ho x (List.mem_of_getElem? hx)
      rw [wu64 (n := x.need) (by omega) (by omega), wu64 (n := w + sumN (l.take i) + x.need) (by omega) (by omega), show w + sumN (l.take i) + x.need = w + sumN (l.take (i + 1)) by omega, wn (x := (i : Int) + 1) (n := i + 1) (by omega) (by omega)]
      exact next_loop n0 call hw hl ho hs0 hr m (i + 1) (C b7 (orow x) :: M) S2 (by omega) (by omega) h2
    · simp only [decide_eq_false_iff_not] at hc
      rw [List.take_of_length_le (by omega)]
      exact ok_ret ⟨rfl, h.right⟩

theorem next_ok (n : Nat) (hn : 2000 < n) (hJ : JI J k) (h : Hp X S (Lj ++ F)) (hj : JB bj sb J Lj) :
    Ok (ev (n + 1) (.fn 34) [.ptr (some (.rw bj, 0))] S) fun v S' => v = .int .u64 (J.sup.po + sumN J.l) ∧ Hp X S' (Lj ++ F) := by
  obtain ⟨a, c, Ll, hs, rfl⟩ := hj
  have h38 := hJ.lcount
  have h1 := hJ.rm
  have h3 := hJ.c40
  have h4 := hJ.po
  have h5 := hJ.k1
  rw [ev, F34 _ _ _ (oL rfl)]
  simp only [J34, b34_entry]
  refine ok_gO (ok_ldI h rfl (ok_gO (ok_ldL h rfl ?_)))
  have := next_loop (X := X) (F := C bj (jrow (dev sb) J a J.l.length c) :: Ll ++ F) (c := c) n (evF E orcL n) (w := J.sup.po) (by omega) (by omega) (fun o ho => (hJ.ol o ho).1) (by omega) (hs.rd (fun e he => by simp [he])) n 0 [] S (by omega) (by omega) h
  simpa [sumN] using this

/-- Where the entry of a position lies. -/
def blkP (J : JM) (p : Int) : Nat := (2 + p % (J.count - 2)).toNat
theorem blkP_lt {p : Int} (h6 : 6 ≤ J.count) (h0 : 0 ≤ p) : blkP J p < J.count ∧ ((blkP J p : Nat) : Int) = 2 + p % (J.count - 2) := by
  have h1 := Int.emod_nonneg p (show (J.count : Int) - 2 ≠ 0 by omega)
  have h2 := Int.emod_lt_of_pos p (show 0 < (J.count : Int) - 2 by omega)
  unfold blkP
  omega
theorem block_eq (n : Nat) {p : Int} (h6 : 6 ≤ J.count) (h40 : J.count ≤ 40) (h0 : 0 ≤ p) (h1 : p < 4611686018427387904) (h : Hp X S (Lj ++ F)) (hj : JB bj sb J Lj) : ev (n + 1) (.fn 37) [.ptr (some (.rw bj, 0)), .int .u64 p] S = some (.int .i64 (blkP J p), S) := by
  obtain ⟨a, c, Ll, hs, rfl⟩ := hj
  apply ok_eq
  rw [ev, F37 _ _ _ _ (oL rfl)]
  simp only [J37, b37_entry]
  obtain ⟨hb1, hb2⟩ := blkP_lt h6 h0
  have e1 : IntKind.wrap .u64 (IntKind.wrap .i64 ((J.count : Int) - 2)) = (J.count : Int) - 2 := by
    rw [wz (x := (J.count : Int) - 2) rfl (by omega) (by omega), wu64 (by omega) (by omega)]
  refine ok_gO (ok_ldI h rfl (ok_gO (ok_ldI h rfl ?_)))
  rw [e1]
  refine ok_nz (by omega) (ok_ret ⟨?_, rfl⟩)
  rw [Int.tmod_eq_emod_of_nonneg h0, wz (x := (0 : Int) + 2) rfl (by omega) (by omega), wz (x := p % ((J.count : Int) - 2)) rfl (by omega) (by omega), wz rfl (by omega) (by omega), hb2]
  simp

end

end Go.Jn
