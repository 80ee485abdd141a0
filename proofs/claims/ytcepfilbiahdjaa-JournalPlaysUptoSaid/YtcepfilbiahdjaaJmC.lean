/- What package journal does with a heap: transactions are trimmed. -/
import Derived.Test.YtcepfilbiahdjaaJmB
set_option linter.unusedVariables false
set_option linter.unusedSimpArgs false
set_option maxRecDepth 4000
namespace Go.Jn
open Go.Gr
theorem sumN_split (l : List One) (i : Nat) : sumN l = sumN (l.take i) + sumN (l.drop i) := by
 have h3 : sumN (l.take i ++ l.drop i) = sumN (l.take i) + sumN (l.drop i) := by
  rw [sumN, List.map_append, List.sum_append]; rfl
 rwa [List.take_append_drop] at h3
section
variable {X : Cx} {S : AS} {L F G Lj Ls : List Ent} {b bj sb : Nat} {Q : AV → AS → Prop} {J : JM} {k : Nat} {t : St}
theorem ok_slHead {sz b N l : Nat} {cap : Cap} {K : OP → Nat → Cap → RV} (hc : cap = .ex N ∨ cap = .op sz N) (hl : l ≤ N) {i : Nat} (hi : i ≤ l) {xi : Int} (h1 : xi = i) (ht : Ok (K (some (.rw b, 0)) i cap) Q) : Ok (slSl sz (some (.rw b, 0)) l cap none (some xi) none K) Q := by
 rw [slG_head (b := b) hc hl hi h1 (K := K)]; exact ht
theorem ok_slTail {sz b N l : Nat} {cap : Cap} {K : OP → Nat → Cap → RV} (hc : cap = .ex N ∨ cap = .op sz N) (hl : l ≤ N) {j : Nat} (hj : j ≤ l) {xj : Int} (h1 : xj = j) (ht : ∀ o c', (o = j * sz ∨ (l = j ∧ o = 0)) → Ok (K (some (.rw b, o)) (l - j) c') Q) : Ok (slSl sz (some (.rw b, 0)) l cap (some xj) none none K) Q := by
 have h := slG_tail (b := b) hc hl hj h1 (K := K)
 rcases h with ⟨o, c', ho, e⟩
 rw [e]; exact ht o c' ho
theorem cloneO_ok (n : Nat) (h : Hp X S F) {l : List One} {a : OP} {c : Cap} (hr : RdR X F a (orows l).flatten) (hl : l.length ≤ 65536) :
 Ok (ev (n + 1) (.fn 39) [.sl a l.length c] S) fun v S' => ∃ (a' : OP) (c' : Cap) (L' : List Ent), v = .sl a' l.length c' ∧ SlG a' l.length c' 3 (orows l) L' ∧ Hp X S' (L' ++ F) := by
 rw [ev, F39 _ _ _ _ _ (oL rfl)]
 simp only [J39, b39_entry]
 cases a with
 | none =>
   have ht : l = [] := by
    by_cases hn : (orows l).flatten = []
    ·have := congrArg List.length hn
     rw [flat_len (orows_all l), orows_len] at this
     simp only [List.length_nil] at this
     exact List.length_eq_zero_iff.1 (by omega)
    ·obtain ⟨p, hp⟩ := hr.some_of hn; cases hp
   subst ht
   exact ok_true rfl (ok_ret ⟨none, .ex 0, [], rfl, .nil, h⟩)
 | some p =>
   refine ok_false rfl (ok_newA h (fun b1 S1 h1 => ?_))
   have hs : SlR (some (.rw b1, 0)) 0 (.ex 0) 3 [] [C b1 []] := .of (xs := []) (by simp) rfl (.inl rfl)
   have h1' : Hp X S1 ([C b1 []] ++ F) := h1
   refine ok_append h1' hs (ys := orows l) (orows_all _) (by simp) (fun K => ?_) (by decide) (by simp [pow46]; omega) (by simp [pow46]; omega) (fun a3 l3 c3 S3 L3 ht' h3 => ?_)
   ·exact (hr.mono (fun e he => by simp [he])).first h1' (sz := 3) (n := l.length) (by rw [flat_len (orows_all l), orows_len]) (by decide) (l := l.length) (c := c) K
   ·rw [List.nil_append] at ht'
    obtain rfl : l3 = l.length := by have := ht'.len; simpa using this
    exact ok_ret ⟨a3, c3, L3, rfl, ht'.g, h3⟩
end
end Go.Jn
namespace Go.Jn.P
open Go.Gr Go.Jn
def wE (t : St) : Int := if t.f = 0 then 61 else 0
def wS (t : St) (x : Int) (p : List UInt8) : St := if t.f = 0 then { t with f := -1 } else ⟨t.s, t.q ++ [(x, p)], if 0 < t.f then t.f - 1 else t.f⟩
section
variable {X : Cx} {S : AS} {L F : List Ent} {b : Nat} {Q : AV → AS → Prop}
theorem writeG_ok (n : Nat) {t : St} {x : Int} {p : List UInt8} {a : OP} {l : Nat} {c : Cap} (h0 : 0 ≤ x) (h1 : x < t.s.length) (hp : p.length = 384) (hf : i64B t.f) (hq : t.q.length ≤ 1000000) (hb : StB b t L) (h : Hp X S (L ++ F)) (hv : Vw X F a l c p) :
 Ok (ev (n + 1) (.fn 43) [.ptr (some (.rw b, 0)), .int .i64 x, .sl a l c] S) fun v S' => v = .int .i64 (wE t) ∧ ∃ L', StB b (wS t x p) L' ∧ Hp X S' (L' ++ F) := by
 have hln := hv.ln
 obtain ⟨sa, sl, sc, qa, ql, qc, Ls, Lq, hs1, hs2, rfl⟩ := hb
 have hl1 := hs1.len
 have hl2 := hs2.len
 rw [strs_len] at hl1
 rw [qrows_len] at hl2
 rw [ev, F43 _ _ _ _ _ _ _ (oL rfl)]
 simp only [J43, b43_entry]
 refine ok_false (by simp; omega) (ok_gO (ok_ldL h rfl (ok_false (by simp; omega) (ok_false (by simp; omega) (ok_gO (ok_ldI h rfl (ok_cond (fun c0 => ?_) (fun c0 => ?_))))))))
 ·simp only [beq_iff_eq] at c0
  refine ok_gO (ok_stn h (by simp) (d := [.sl sa sl sc, .sl qa ql qc, .int .i64 (-1)]) (by simp [splice]) (fun S1 h1 => ok_ret ⟨by rw [wE, if_pos c0], C b [.sl sa sl sc, .sl qa ql qc, .int .i64 (-1)] :: (Ls ++ Lq), ?_, h1⟩))
  rw [wS, if_pos c0]
  exact ⟨sa, sl, sc, qa, ql, qc, Ls, Lq, hs1, hs2, rfl⟩
 simp only [beq_eq_false_iff_ne, ne_eq] at c0
 have fin : ∀ (S : AS) (f' : Int), f' = (if 0 < t.f then t.f - 1 else t.f) → Hp X S (C b [.sl sa sl sc, .sl qa ql qc, .int .i64 f'] :: (Ls ++ Lq) ++ F) → Ok (J43_jZAJ (evF E orcL n) n (some (.rw b, 0)) x a l c S) fun v S' => v = .int .i64 (wE t) ∧ ∃ L', StB b (wS t x p) L' ∧ Hp X S' (L' ++ F) := by
  intro S f' hf' h
  simp only [J43_jZAJ, b43_jZAJ]
  refine ok_drawA h [9] (by simp) (by simp) (fun b13 S1 h1' => ?_)
  have h1'' : Hp X S1 ((b13 + 9, none) :: (C b [.sl sa sl sc, .sl qa ql qc, .int .i64 f'] :: (Ls ++ Lq) ++ F)) := h1'
  refine ok_gO (ok_ldL h1'' rfl ?_)
  rw [bytesStr_of (hv.r.mono (fun e he => by simp [he])) h1'' hv.ln]
  refine ok_layA (b := b13 + 9) h1'' (fun S2 h2 => ?_)
  have h2' : Hp X S2 (Lq ++ (C (b13 + 9) (qrow (x, p)) :: C b [.sl sa sl sc, .sl qa ql qc, .int .i64 f'] :: (Ls ++ F))) := h2.re (by intro p; simp only [List.countP_append, List.countP_cons, List.cons_append, C, qrow]; omega)
  refine ok_appendG h2' hs2 (ys := qrows [(x, p)]) (qrows_all _) rfl (fun K => ?_) (by decide) (by simp [pow46]; omega) (by simp [pow46]; omega) (fun a3 l3 c3 S3 L3 ht' h3 => ?_)
  ·have := RdR.first (.rw (X := X) (b := b13 + 9) (i := 0) (c := qrow (x, p)) (cs := qrow (x, p)) (L := _) (List.mem_append_right Lq List.mem_cons_self) (by simp) rfl) h2' (sz := 2) (n := 1) rfl (by decide) (l := 1) (c := .ex 1) K
   simpa [qrows] using this
  ·rw [← qrows_append] at ht'
   refine ok_gO (ok_stn h3 (by simp) (d := [.sl sa sl sc, .sl a3 l3 c3, .int .i64 f']) (by simp [splice]) (fun S4 h4 => ok_ret ⟨by rw [wE, if_neg c0], C b [.sl sa sl sc, .sl a3 l3 c3, .int .i64 f'] :: (Ls ++ L3), ?_, ?_⟩))
   ·rw [wS, if_neg c0, ← hf']
    exact ⟨sa, sl, sc, a3, l3, c3, Ls, L3, hs1, ht', rfl⟩
   ·exact (h4.re (M := C (b13 + 9) (qrow (x, p)) :: (C b [.sl sa sl sc, .sl a3 l3 c3, .int .i64 f'] :: (Ls ++ L3) ++ F)) (by intro p; simp only [List.countP_append, List.countP_cons, List.cons_append, C]; omega)).drop1
 refine ok_gO (ok_ldI h rfl (ok_cond (fun c1 => ?_) (fun c1 => ?_)))
 ·simp only [gt_iff_lt, decide_eq_true_eq] at c1
  obtain ⟨hf1, hf2⟩ := hf
  refine ok_gO (ok_ldI h rfl (ok_gO ?_))
  rw [wrap64 (n := t.f - 1) (by omega) (by omega)]
  exact ok_stn h (by simp) (d := [.sl sa sl sc, .sl qa ql qc, .int .i64 (t.f - 1)]) (by simp [splice]) (fun S1 h1 => fin S1 _ (by rw [if_pos c1]) h1)
 ·simp only [gt_iff_lt, decide_eq_false_iff_not] at c1
  exact fin S t.f (by rw [if_neg c1]) h
theorem ok_invWriteG (n : Nat) {t : St} {x : Int} {p : List UInt8} {a : OP} {l : Nat} {c : Cap} {K : AV → AS → RV} (h0 : 0 ≤ x) (h1 : x < t.s.length) (hp : p.length = 384) (hf : i64B t.f) (hq : t.q.length ≤ 1000000) (hb : StB b t L) (h : Hp X S (L ++ F)) (hv : Vw X F a l c p)
 (ht : ∀ L' S', StB b (wS t x p) L' → Hp X S' (L' ++ F) → Ok (K (.int .i64 (wE t)) S') Q) : Ok (invV E (evF E orcL (n + 1)) (dev b) "Write" [.int .i64 x, .sl a l c] S K) Q := by
 obtain ⟨v, S', e, rfl, L', hL, hh⟩ : Ok (evF E orcL (n + 1) (.fn 43) [.ptr (some (.rw b, 0)), .int .i64 x, .sl a l c] S) _ := writeG_ok n h0 h1 hp hf hq hb h hv
 rw [invV_of mWrite e]
 exact ht L' S' hL hh
theorem wS_inr {t : St} {x : Int} {p : List UInt8} (h : t.inr) (h0 : 0 ≤ x) (h1 : x < t.s.length) : (wS t x p).inr := by
 unfold wS
 split
 ·exact h
 ·intro e he
  rcases List.mem_append.1 he with he | he
  ·exact h e he
  ·simp only [List.mem_singleton] at he
   subst he
   exact ⟨h0, h1⟩
theorem wS_len (t : St) (x : Int) (p : List UInt8) : (wS t x p).s.length = t.s.length := by unfold wS; split <;> rfl
theorem wS_q (t : St) (x : Int) (p : List UInt8) : (wS t x p).q.length ≤ t.q.length + 1 := by unfold wS; split <;> simp
theorem wS_f {t : St} {x : Int} {p : List UInt8} (h : i64B t.f) : i64B (wS t x p).f := by
 unfold wS
 split
 ·show i64B (-1); exact ⟨by decide, by decide⟩
 ·obtain ⟨h1, h2⟩ := h
  show i64B (if 0 < t.f then t.f - 1 else t.f)
  split
  ·exact ⟨by omega, by omega⟩
  ·exact ⟨h1, h2⟩
end
structure JM where
 first : Nat
 count : Nat
 sup : Su
 l : List One
 sy : Int
 se : Int
def jrow (d : AV) (J : JM) (a : OP) (l : Nat) (c : Cap) : List AV := [d, .int .i64 J.first, .int .i64 J.count, .int .u64 J.sup.g, .int .u64 J.sup.bo, .int .u64 J.sup.po, .int .u64 J.sup.ls, .int .u64 J.sup.ab, .int .u64 J.sup.as_, .sl a l c, .int .u64 J.sy, .int .u64 J.se]
def JB (bj sb : Nat) (J : JM) (L : List Ent) : Prop := ∃ a c Ll, SlG a J.l.length c 3 (orows J.l) Ll ∧ L = C bj (jrow (dev sb) J a J.l.length c) :: Ll
structure JI (J : JM) (k : Nat) : Prop where
 c6 : 6 ≤ J.count
 c40 : J.count ≤ 40
 g : 1 ≤ J.sup.g ∧ J.sup.g ≤ k
 bo : 1 ≤ J.sup.bo ∧ J.sup.bo ≤ k
 po : 0 ≤ J.sup.po ∧ J.sup.po ≤ 100 * k
 ls : 0 ≤ J.sup.ls ∧ J.sup.ls ≤ k
 ab : 0 ≤ J.sup.ab ∧ J.sup.ab ≤ k
 as_ : 0 ≤ J.sup.as_ ∧ J.sup.as_ ≤ k
 se : 0 ≤ J.se ∧ J.se ≤ k
 sy : 0 ≤ J.sy ∧ J.sy ≤ J.sup.ls + J.l.length
 ol : ∀ o ∈ J.l, 1 ≤ o.need ∧ o.need ≤ 40 ∧ 0 ≤ o.bo ∧ o.bo ≤ k ∧ 0 ≤ o.se ∧ o.se ≤ k
 rm : sumN J.l + 2 ≤ J.count
 k1 : k ≤ 100000
 ff : J.first + J.count ≤ 40
structure SI (t : St) (n k : Nat) : Prop where
 len : t.s.length = n
 f : i64B t.f
 q : t.q.length ≤ k
 r : t.inr
theorem JI.lcount {J : JM} {k : Nat} (h : JI J k) : J.l.length ≤ 38 := by
 have h1 := sumN_ge fun o ho => (h.ol o ho).1
 have h2 := h.rm
 have h3 := h.c40
 omega
section
variable {X : Cx} {S : AS} {L F Lj Ls : List Ent} {b bj sb : Nat} {Q : AV → AS → Prop} {J : JM} {k : Nat} {t : St}
theorem last_eq (n : Nat) (hJ : JI J k) (h : Hp X S (Lj ++ F)) (hj : JB bj sb J Lj) : ev (n + 1) (.fn 29) [.ptr (some (.rw bj, 0))] S = some (.int .u64 (J.sup.ls + J.l.length), S) := by
 obtain ⟨a, c, Ll, hs, rfl⟩ := hj
 have h38 := hJ.lcount
 have hls := hJ.ls
 have hk := hJ.k1
 apply ok_eq
 rw [ev, F29 _ _ _ (oL rfl)]
 simp only [J29, b29_entry]
 refine ok_false rfl (ok_gO (ok_ldI h rfl (ok_gO (ok_ldL h rfl (ok_ret ⟨?_, rfl⟩)))))
 rw [wu64 (n := ((J.l.length : Nat) : Int)) (by omega) (by omega), wu64 (by omega) (by omega)]
theorem trimmed_eq (n : Nat) (h : Hp X S (Lj ++ F)) (hj : JB bj sb J Lj) : ev (n + 1) (.fn 15) [.ptr (some (.rw bj, 0))] S = some (.int .u64 J.sup.ls, S) := by
 obtain ⟨a, c, Ll, hs, rfl⟩ := hj
 apply ok_eq
 rw [ev, F15 _ _ _ (oL rfl)]
 simp only [J15, b15_entry]
 exact ok_false rfl (ok_gO (ok_ldI h rfl (ok_ret ⟨rfl, rfl⟩)))
theorem room_ok (n : Nat) (hn : 2000 < n) (hJ : JI J k) (h : Hp X S (Lj ++ F)) (hj : JB bj sb J Lj) :
 Ok (ev (n + 1) (.fn 17) [.ptr (some (.rw bj, 0))] S) fun v S' => v = .int .i64 (J.count - 2 - sumN J.l) ∧ Hp X S' (Lj ++ F) := by
 obtain ⟨a, c, Ll, hs, rfl⟩ := hj
 have h38 := hJ.lcount
 have h1 := hJ.rm
 have h2 := hJ.c6
 have h3 := hJ.c40
 rw [ev, F17 _ _ _ (oL rfl)]
 simp only [J17, b17_entry]
 refine ok_false rfl (ok_gO (ok_ldI h rfl (ok_gO (ok_ldL h rfl ?_))))
 rw [wz (x := (J.count : Int) - 2) rfl (by omega) (by omega)]
 have := room_loop (X := X) (F := C bj (jrow (dev sb) J a J.l.length c) :: Ll ++ F) (c := c) n (evF E orcL n) (w := (J.count : Int) - 2) (by omega) (by omega) (fun o ho => (hJ.ol o ho).1) (by omega) (hs.rd (fun e he => by simp [he])) n 0 [] S (by omega) (by omega) h
 simpa [sumN] using this
theorem next_ok (n : Nat) (hn : 2000 < n) (hJ : JI J k) (h : Hp X S (Lj ++ F)) (hj : JB bj sb J Lj) :
 Ok (ev (n + 1) (.fn 34) [.ptr (some (.rw bj, 0))] S) fun v S' => v = .int .u64 (J.sup.po + sumN J.l) ∧ Hp X S' (Lj ++ F) := by
 obtain ⟨a, c, Ll, hs, rfl⟩ := hj
 have h38 := hJ.lcount
 have h1 := hJ.rm
 have h3 := hJ.c40
 have h4 := hJ.po
 have h5 := hJ.k1
 rw [ev, F34 _ _ _ (oL rfl)]
 simp only [J34, b34_entry]
 refine ok_gO (ok_ldI h rfl (ok_gO (ok_ldL h rfl ?_)))
 have := next_loop (X := X) (F := C bj (jrow (dev sb) J a J.l.length c) :: Ll ++ F) (c := c) n (evF E orcL n) (w := J.sup.po) (by omega) (by omega) (fun o ho => (hJ.ol o ho).1) (by omega) (hs.rd (fun e he => by simp [he])) n 0 [] S (by omega) (by omega) h
 simpa [sumN] using this
def blkP (J : JM) (p : Int) : Nat := (J.first + 2 + p % (J.count - 2)).toNat
theorem blkP_lt {p : Int} (h6 : 6 ≤ J.count) (h0 : 0 ≤ p) : blkP J p < J.first + J.count ∧ ((blkP J p : Nat) : Int) = J.first + 2 + p % (J.count - 2) := by
 have h1 := Int.emod_nonneg p (show (J.count : Int) - 2 ≠ 0 by omega)
 have h2 := Int.emod_lt_of_pos p (show 0 < (J.count : Int) - 2 by omega)
 unfold blkP
 omega
theorem block_eq (n : Nat) {p : Int} (h6 : 6 ≤ J.count) (h40 : J.first + J.count ≤ 40) (h0 : 0 ≤ p) (h1 : p < 4611686018427387904) (h : Hp X S (Lj ++ F)) (hj : JB bj sb J Lj) : ev (n + 1) (.fn 37) [.ptr (some (.rw bj, 0)), .int .u64 p] S = some (.int .i64 (blkP J p), S) := by
 obtain ⟨a, c, Ll, hs, rfl⟩ := hj
 apply ok_eq
 rw [ev, F37 _ _ _ _ (oL rfl)]
 simp only [J37, b37_entry]
 obtain ⟨hb1, hb2⟩ := blkP_lt h6 h0
 have e1 : IntKind.wrap .u64 (IntKind.wrap .i64 ((J.count : Int) - 2)) = (J.count : Int) - 2 := by
  rw [wz (x := (J.count : Int) - 2) rfl (by omega) (by omega), wu64 (by omega) (by omega)]
 refine ok_gO (ok_ldI h rfl (ok_gO (ok_ldI h rfl ?_)))
 rw [e1]
 refine ok_nz (by omega) (ok_ret ⟨?_, rfl⟩)
 rw [Int.tmod_eq_emod_of_nonneg h0, wz (x := (J.first : Int) + 2) rfl (by omega) (by omega), wz (x := p % ((J.count : Int) - 2)) rfl (by omega) (by omega), wz rfl (by omega) (by omega), hb2]
end
end Go.Jn.P
namespace Go.Jn.P
open Go.Gr Go.Jn
def JM.sup! (J : JM) (x : Su) : JM := { J with sup := x }
def wrAt (J : JM) : Int := if Int.tmod (J.sup.g + 1) 2 = 0 then J.first + 1 else J.first
def wrJ (J : JM) (t : St) (x : Su) : JM := if t.f = 0 then J.sup! { J.sup with g := J.sup.g + 1 } else J.sup! { x with g := J.sup.g + 1 }
def wrT (J : JM) (t : St) (x : Su) : St := if t.f = 0 then wS t (wrAt J) (encS { x with g := J.sup.g + 1 }) else (wS t (wrAt J) (encS { x with g := J.sup.g + 1 })).fl
section
variable {X : Cx} {S : AS} {L F Lj Ls : List Ent} {b bj sb : Nat} {Q : AV → AS → Prop} {J : JM} {k : Nat} {t : St}
abbrev WrQ (X : Cx) (F : List Ent) (bj sb : Nat) (J : JM) (t : St) (x : Su) : AV → AS → Prop := fun v S' => v = .int .i64 (wE t) ∧ ∃ L' Lj', StB sb (wrT J t x) L' ∧ JB bj sb (wrJ J t x) Lj' ∧ Hp X S' (L' ++ (Lj' ++ F))
theorem writes_ok (n : Nat) (hn : 1000010 < n) (hJ : JI J k) {x : Su} (hx : ∀ y ∈ x.l, 0 ≤ y ∧ y ≤ 4611686018427387904) (hbo : x.bo ≠ 0) {N : Nat} (hN : J.first + J.count ≤ N) (hSI : SI t N 900000) (h : Hp X S (Ls ++ (Lj ++ F))) (hj : JB bj sb J Lj) (hb : StB sb t Ls) :
 Ok (ev (n + 4) (.fn 38) [.ptr (some (.rw bj, 0)), .agg (srowS x)] S) (WrQ X F bj sb J t x) := by
 obtain ⟨a, c, Ll, hs, rfl⟩ := hj
 have hg := hJ.g
 have hk := hJ.k1
 have hc6 := hJ.c6
 have hxB : ∀ y ∈ ({ x with g := J.sup.g + 1 } : Su).l, 0 ≤ y ∧ y ≤ 4611686018427387904 := by
  intro y hy
  simp only [Su.l, List.mem_cons, List.not_mem_nil, or_false] at hy
  rcases hy with rfl | hy
  ·omega
  ·exact hx y (by simp [Su.l, hy])
 have hok : okS ({ x with g := J.sup.g + 1 } : Su) = true := by
  have : ({ x with g := J.sup.g + 1 } : Su).l.all mxB = true := by
   rw [List.all_eq_true]; intro y hy; simp [mxB]; exact (hxB y hy).2
  simp only [okS, this, Bool.and_true, Bool.and_eq_true, bne_iff_ne, ne_eq]
  exact ⟨by omega, hbo⟩
 rw [ev, F38 _ _ _ _ (oL rfl)]
 simp only [J38, b38_entry]
 refine ok_ifO rfl (ok_newA h (fun b1 S2 h2 => ok_gO (ok_ldI h2 rfl ?_)))
 rw [wu64 (n := J.sup.g + 1) (by omega) (by omega)]
 refine ok_stn h2 (by simp [srowS, Su.l]) (d := srowS { x with g := J.sup.g + 1 }) (by simp [splice, srowS, Su.l]) (fun S5 h5 => ok_ldn h5 (by simp [srowS, Su.l]) (d := srowS { x with g := J.sup.g + 1 }) (by simp [srowS, Su.l]) ?_)
 obtain ⟨v, S7, e7, a7, c7, L7, rfl, hs7, h7⟩ : Ok (evF E orcL (n + 3) (.fn 41) [.agg (srowS { x with g := J.sup.g + 1 })] S5) _ := putS_ok n (by omega) (fun y hy => ⟨(hxB y hy).1, by have := (hxB y hy).2; omega⟩) h5
 rw [callT_of e7]
 rw [show putS ({ x with g := J.sup.g + 1 } : Su) = encS { x with g := J.sup.g + 1 } by simp [putS, hok], show putSe ({ x with g := J.sup.g + 1 } : Su) = 0 by simp [putSe, hok]]
 rw [show putS ({ x with g := J.sup.g + 1 } : Su) = encS { x with g := J.sup.g + 1 } by simp [putS, hok]] at hs7
 refine ok_atL rfl (ok_atI rfl (ok_false rfl (ok_gO (ok_ldI h7 rfl (ok_gO ?_)))))
 rw [wu64 (n := J.sup.g + 1) (by omega) (by omega)]
 refine ok_stn h7 (by simp [jrow]) (d := jrow (dev sb) (J.sup! { J.sup with g := J.sup.g + 1 }) a J.l.length c) (by simp [splice, jrow, JM.sup!]) (fun S14 h14 => ok_gO (ok_ldI h14 rfl (ok_ldI h14 rfl ?_)))
 have tail : ∀ (at_ : Int), at_ = wrAt J → Ok (gO (some (Bid.rw bj, 0)) fun p18 =>
  ldV S14 p18.1 p18.2 fun v19 =>
  invV E (evF E orcL (n + 3)) v19 "Write" [(.int .i64 at_), (.sl a7 (encS { x with g := J.sup.g + 1 }).length c7)] S14 fun v21 S20 =>
  gIk .i64 v21 fun v22 =>
  cond (v22 != 0) (
  some ((.int .i64 v22), S20)) (
  gO (some (Bid.rw bj, 0)) fun p23 =>
  ldV S20 p23.1 p23.2 fun v24 =>
  invV E (evF E orcL (n + 3)) v24 "Flush" [] S20 fun v26 S25 =>
  gIk .i64 v26 fun v27 =>
  cond (v27 != 0) (
  some ((.int .i64 v27), S25)) (
  S25.ldn (.rw b1) 0 6 fun g28 =>
  gO (some (Bid.rw bj, 0)) fun p29 =>
  ifO (g28.length = 6) <|
  S25.stn p29.1 (p29.2 + 3) g28 fun S30 =>
  some ((.int .i64 0), S30)))) (WrQ X F bj sb J t x) := by
  intro at_ hat
  have h0 : 0 ≤ at_ ∧ at_ < N := by
   have := hJ.c6
   unfold wrAt at hat
   split at hat <;> omega
  refine ok_gO (ok_ldV h14 rfl ?_)
  have h14' : Hp X S14 (Ls ++ (L7 ++ (C b1 (srowS { x with g := J.sup.g + 1 }) :: C bj (jrow (dev sb) (J.sup! { J.sup with g := J.sup.g + 1 }) a J.l.length c) :: (Ll ++ F)))) := h14.re (by intro p; simp only [List.countP_append, List.countP_cons, List.cons_append, C]; omega)
  refine ok_invWriteG (n + 2) h0.1 (by rw [hSI.len]; exact h0.2) (encS_len _) hSI.f (by have := hSI.q; omega) hb h14' (slG_vw hs7 (fun e he => by simp [he])) (fun L20 S20 hb20 h20 => ok_gIk (ok_cond (fun hc => ?_) (fun hc => ?_)))
  ·have hw : t.f = 0 := by
    unfold wE at hc
    by_cases hf : t.f = 0
    ·exact hf
    ·rw [if_neg hf] at hc; exact absurd hc (by decide)
   refine ok_ret ⟨rfl, L20, C bj (jrow (dev sb) (J.sup! { J.sup with g := J.sup.g + 1 }) a J.l.length c) :: Ll, ?_, ?_, ?_⟩
   ·rw [wrT, if_pos hw, ← hat]; exact hb20
   ·rw [wrJ, if_pos hw]; exact ⟨a, c, Ll, hs, rfl⟩
   ·exact (h20.re (M := L7 ++ (C b1 (srowS { x with g := J.sup.g + 1 }) :: (L20 ++ (C bj (jrow (dev sb) (J.sup! { J.sup with g := J.sup.g + 1 }) a J.l.length c) :: Ll ++ F)))) (by intro p; simp only [List.countP_append, List.countP_cons, List.cons_append, C]; omega)).right.drop1
  have hw : ¬ t.f = 0 := fun hf => by unfold wE at hc; rw [if_pos hf] at hc; exact absurd hc (by decide)
  refine ok_gO (ok_ldV h20 rfl ?_)
  have hq20 : (wS t at_ (encS { x with g := J.sup.g + 1 })).q.length ≤ 1000000 := by
   have h1 := wS_q t at_ (encS { x with g := J.sup.g + 1 })
   have h2 := hSI.q
   omega
  refine ok_invFlush (n + 2) (by omega) (wS_inr hSI.r h0.1 (by rw [hSI.len]; exact h0.2)) hq20 hb20 h20 (fun L25 S25 hb25 h25 => ok_gIk (ok_false rfl ?_))
  refine ok_ldn h25 (by simp [srowS, Su.l]) (d := srowS { x with g := J.sup.g + 1 }) (by simp [srowS, Su.l]) (ok_gO (ok_ifO rfl (ok_stn h25 (by simp [jrow, srowS, Su.l]) (d := jrow (dev sb) (J.sup! { x with g := J.sup.g + 1 }) a J.l.length c) (by simp [splice, jrow, JM.sup!, srowS, Su.l]) (fun S30 h30 => ok_ret ⟨by rw [wE, if_neg hw], L25, C bj (jrow (dev sb) (J.sup! { x with g := J.sup.g + 1 }) a J.l.length c) :: Ll, ?_, ?_, ?_⟩))))
  ·rw [wrT, if_neg hw, ← hat]; exact hb25
  ·rw [wrJ, if_neg hw]; exact ⟨a, c, Ll, hs, rfl⟩
  ·exact (h30.re (M := L7 ++ (C b1 (srowS { x with g := J.sup.g + 1 }) :: (L25 ++ (C bj (jrow (dev sb) (J.sup! { x with g := J.sup.g + 1 }) a J.l.length c) :: Ll ++ F)))) (by intro p; simp only [List.countP_append, List.countP_cons, List.cons_append, C]; omega)).right.drop1
 have h40 := hJ.ff
 refine ok_cond (fun hc => ?_) (fun hc => ?_)
 ·simp only [beq_iff_eq] at hc
  rw [wn (x := ((J.sup! { J.sup with g := J.sup.g + 1 }).first : Int) + 1) (n := J.first + 1) (by show (J.first : Int) + 1 = _; omega) (by omega)]
  refine tail _ ?_
  show ((J.first + 1 : Nat) : Int) = wrAt J
  have hc' : Int.tmod (J.sup.g + 1) 2 = 0 := hc
  unfold wrAt
  rw [if_pos hc']; omega
 ·simp only [beq_eq_false_iff_ne, ne_eq] at hc
  refine tail _ ?_
  show (J.first : Int) = wrAt J
  have hc' : ¬ Int.tmod (J.sup.g + 1) 2 = 0 := hc
  unfold wrAt
  rw [if_neg hc']
end
end Go.Jn.P
namespace Go.Jn.P
open Go.Gr Go.Jn
def apPart (J : JM) (lsn pos : Int) (need : Nat) (s : List UInt8) (i : Nat) : Le := ⟨J.sup.bo, J.se, pos + (i : Nat), lsn, (i : Nat), (need : Nat), win8 s (i * 336) (min s.length ((i + 1) * 336) - i * 336)⟩
def apRun (J : JM) (lsn pos : Int) (need : Nat) (s : List UInt8) : Nat → Nat → St → Bool × St
 | 0, _, t => (true, t)
 | r + 1, i, t => if t.f = 0 then (false, wS t (blkP J (pos + (i : Nat))) (encE (apPart J lsn pos need s i))) else apRun J lsn pos need s r (i + 1) (wS t (blkP J (pos + (i : Nat))) (encE (apPart J lsn pos need s i)))
theorem JI.up {J : JM} {k m : Nat} (h : JI J k) (hm : k ≤ m) (hm2 : m ≤ 100000) : JI J m := by
 obtain ⟨a1, a2, a3, a4, a5, a6, a7, a8, a9, a10, a11, a12, a13, a14⟩ := h
 refine ⟨a1, a2, ?_, ?_, ?_, ?_, ?_, ?_, ?_, a10, fun o ho => ?_, a12, hm2, a14⟩
 ·omega
 ·omega
 ·omega
 ·omega
 ·omega
 ·omega
 ·omega
 ·have := a11 o ho; omega
section
variable {X : Cx} {S : AS} {L F G Lj Ls : List Ent} {b bj sb : Nat} {Q : AV → AS → Prop} {J : JM} {k : Nat} {t : St}
theorem app_loop (n0 n : Nat) (hn : 1000010 < n) {need : Nat} {lsn pos : Int} {s : List UInt8} {a6 : OP} {l6 : Nat} {c6 : Cap} {w4 w5 : Int} (h6 : 6 ≤ J.count) {N : Nat} (h40 : J.first + J.count ≤ N) (hN : N ≤ 40) (hne : need ≤ 40)
 (hbo : 1 ≤ J.sup.bo ∧ J.sup.bo ≤ 1000000) (hse : 1 ≤ J.se ∧ J.se ≤ 1000000) (hlsn : 1 ≤ lsn ∧ lsn ≤ 1000000) (hpos : 0 ≤ pos ∧ pos ≤ 100000000)
 (hv : Vw X G a6 l6 c6 s) (hs1 : (need - 1) * 336 < s.length) (hs2 : s.length ≤ need * 336) {ja : OP} {jc : Cap} {Ll : List Ent} (hsj : SlG ja J.l.length jc 3 (orows J.l) Ll) :
 ∀ (m i K : Nat) (t : St) (Ls : List Ent) (S : AS), i ≤ need → need - i < m → K + need ≤ 900000 + i → StB sb t Ls → SI t N K → Hp X S (Ls ++ (C bj (jrow (dev sb) J ja J.l.length jc) :: Ll ++ G)) →
   ((apRun J lsn pos need s (need - i) i t).1 = true → ∀ L' S', StB sb (apRun J lsn pos need s (need - i) i t).2 L' → SI (apRun J lsn pos need s (need - i) i t).2 N (K + (need - i)) → Hp X S' (L' ++ (C bj (jrow (dev sb) J ja J.l.length jc) :: Ll ++ G)) → Ok (J11_jZAN (evF E orcL (n + 3)) n0 (some (.rw bj, 0)) need lsn S') Q) →
   ((apRun J lsn pos need s (need - i) i t).1 = false → ∀ L' S', StB sb (apRun J lsn pos need s (need - i) i t).2 L' → SI (apRun J lsn pos need s (need - i) i t).2 N (K + (need - i)) → Hp X S' (L' ++ (C bj (jrow (dev sb) J ja J.l.length jc) :: Ll ++ G)) → Ok (some (AV.tup [.int .u64 0, .int .i64 61], S')) Q) →
   Ok (J11_lZAd (evF E orcL (n + 3)) n0 m (some (.rw bj, 0)) w4 w5 a6 l6 c6 need pos lsn need i S) Q
 | 0, i, K, t, Ls, S, hi, hm, hK, hb, hSI, h, fin, bad => by omega
 | m + 1, i, K, t, Ls, S, hi, hm, hK, hb, hSI, h, fin, bad => by
   have hln := hv.ln
   rw [J11_lZAd_succ]
   simp only [b11_lZAd]
   refine ok_cond (fun hc => ?_) (fun hc => ?_)
   ·simp only [decide_eq_true_eq] at hc
    have hlt : i < need := by omega
    have hil : i * 336 < s.length := by
     have : i * 336 ≤ (need - 1) * 336 := Nat.mul_le_mul_right _ (by omega)
     omega
    rw [wn (x := (i : Int) * 336) (n := i * 336) (by omega) (by omega), wn (x := (i : Int) + 1) (n := i + 1) (by omega) (by omega), wn (x := ((i + 1 : Nat) : Int) * 336) (n := (i + 1) * 336) (by omega) (by omega)]
    have hmin : (if ((l6 : Nat) : Int) < (((i + 1) * 336 : Nat) : Int) then ((l6 : Nat) : Int) else (((i + 1) * 336 : Nat) : Int)) = ((min s.length ((i + 1) * 336) : Nat) : Int) := by
     split <;> omega
    rw [hmin]
    have hvF : Vw X (Ls ++ (C bj (jrow (dev sb) J ja J.l.length jc) :: Ll ++ G)) a6 l6 c6 s := hv.mono (fun e he => by simp [he])
    refine ok_sl hvF (lo := i * 336) (hi := min s.length ((i + 1) * 336)) (by omega) (by omega) rfl rfl (fun a7 c7 w7 => ?_)
    have hj' : JB bj sb J (C bj (jrow (dev sb) J ja J.l.length jc) :: Ll) := ⟨ja, jc, Ll, hsj, rfl⟩
    refine ok_gO (ok_ldI h rfl (ok_gO (ok_ldI h rfl ?_)))
    rw [wu64 (n := ((i : Nat) : Int)) (by omega) (by omega), wu64 (n := pos + ((i : Nat) : Int)) (by omega) (by omega)]
    have hpl : (win8 s (i * 336) (min s.length ((i + 1) * 336) - i * 336)).length = min s.length ((i + 1) * 336) - i * 336 := win8_len (by omega)
    have hpe : apPart J lsn pos need s i = ⟨J.sup.bo, J.se, pos + (i : Nat), lsn, (i : Nat), (need : Nat), win8 s (i * 336) (min s.length ((i + 1) * 336) - i * 336)⟩ := rfl
    generalize hpt : win8 s (i * 336) (min s.length ((i + 1) * 336) - i * 336) = pt at w7 hpl hpe
    have hok : okE ⟨J.sup.bo, J.se, pos + (i : Nat), lsn, (i : Nat), (need : Nat), pt⟩ = true := (okE_iff _).2 ⟨by show J.sup.bo ≠ 0; omega, by show J.se ≠ 0; omega, by show lsn ≠ 0; omega, by show J.sup.bo ≤ _; omega, by show J.se ≤ _; omega, by show lsn ≤ _; omega, by show pos + (i : Int) ≤ _; omega, by show (1 : Int) ≤ (need : Int); omega, by show (need : Int) ≤ 100; omega, by show (0 : Int) ≤ (i : Int); omega, by show (i : Int) < (need : Int); omega, by show 1 ≤ pt.length; omega, by show pt.length ≤ 336; omega⟩
    have hLB : LeB ⟨J.sup.bo, J.se, pos + (i : Nat), lsn, (i : Nat), (need : Nat), pt⟩ := by
     refine ⟨⟨?_, ?_⟩, ⟨?_, ?_⟩, ⟨?_, ?_⟩, ⟨?_, ?_⟩, ⟨?_, ?_⟩, ⟨?_, ?_⟩⟩ <;> simp only <;> omega
    obtain ⟨v, S2, e2, a2, c2, L2, rfl, hs2', h2⟩ : Ok (evF E orcL (n + 3) (.fn 36) [.agg (erow ⟨J.sup.bo, J.se, pos + (i : Nat), lsn, (i : Nat), (need : Nat), pt⟩ a7 (min s.length ((i + 1) * 336) - i * 336) c7)] S) _ := putE_ok n (by omega) hLB h w7
    rw [callT_of (show evF E orcL (n + 3) (.fn 36) [.agg [.int .u64 J.sup.bo, .int .u64 J.se, .int .u64 (pos + (i : Nat)), .int .u64 lsn, .int .i64 (i : Nat), .int .i64 (need : Nat), .sl a7 (min s.length ((i + 1) * 336) - i * 336) c7]] S = _ from e2)]
    rw [show putE ⟨J.sup.bo, J.se, pos + (i : Nat), lsn, (i : Nat), (need : Nat), pt⟩ = encE ⟨J.sup.bo, J.se, pos + (i : Nat), lsn, (i : Nat), (need : Nat), pt⟩ by simp [putE, hok]] at hs2' ⊢
    refine ok_atL rfl (ok_atI rfl (ok_gO (ok_ldV h2 rfl ?_)))
    obtain ⟨hb1, hb2⟩ := blkP_lt (J := J) (p := pos + (i : Nat)) h6 (by omega)
    have h2j : Hp X S2 (C bj (jrow (dev sb) J ja J.l.length jc) :: Ll ++ (L2 ++ (Ls ++ G))) := h2.re (by intro p; simp only [List.countP_append, List.countP_cons, List.cons_append, C]; omega)
    rw [callI_of (show evF E orcL (n + 3) (.fn 37) [.ptr (some (.rw bj, 0)), .int .u64 (pos + (i : Nat))] S2 = _ from block_eq (n + 2) h6 (by omega) (by omega) (by omega) h2j hj')]
    refine ok_ldV h2 rfl (ok_true (by simp [AV.beq]) ?_)
    rw [nilV_dev]
    have h2s : Hp X S2 (Ls ++ (L2 ++ (C bj (jrow (dev sb) J ja J.l.length jc) :: Ll ++ G))) := h2.re (by intro p; simp only [List.countP_append, List.countP_cons, List.cons_append, C]; omega)
    have hr1 : need - i = (need - (i + 1)) + 1 := by omega
    rw [hr1] at fin bad
    have hx1 : ((blkP J (pos + (i : Nat)) : Nat) : Int) < t.s.length := by rw [hSI.len]; omega
    have hSI' : SI (wS t (blkP J (pos + (i : Nat))) (encE (apPart J lsn pos need s i))) N (K + 1) := ⟨by rw [wS_len]; exact hSI.len, wS_f hSI.f, by have h1 := wS_q t (blkP J (pos + (i : Nat))) (encE (apPart J lsn pos need s i)); have h2 := hSI.q; omega, wS_inr hSI.r (by omega) hx1⟩
    refine ok_invWriteG (n + 2) (by omega) hx1 (encE_len (by show pt.length ≤ 336; omega)) hSI.f (by have := hSI.q; omega) hb h2s (slG_vw hs2' (fun e he => by simp [he])) (fun L3 S3 hb3 h3 => ok_gIk (ok_cond (fun cw => ?_) (fun cw => ?_)))
    ·have hw : t.f = 0 := by
      unfold wE at cw
      by_cases hf : t.f = 0
      ·exact hf
      ·rw [if_neg hf] at cw; exact absurd cw (by decide)
     rw [show wE t = 61 by rw [wE, if_pos hw]]
     rw [← hpe] at hb3
     have e1 : apRun J lsn pos need s ((need - (i + 1)) + 1) i t = (false, wS t (blkP J (pos + (i : Nat))) (encE (apPart J lsn pos need s i))) := by rw [apRun, if_pos hw]
     rw [e1] at bad
     have hSI3 : SI (wS t (blkP J (pos + (i : Nat))) (encE (apPart J lsn pos need s i))) N (K + (need - (i + 1) + 1)) := ⟨hSI'.len, hSI'.f, by have := hSI'.q; omega, hSI'.r⟩
     refine bad rfl L3 S3 hb3 hSI3 ?_
     exact (h3.re (M := L2 ++ (L3 ++ (C bj (jrow (dev sb) J ja J.l.length jc) :: Ll ++ G))) (by intro p; simp only [List.countP_append, List.countP_cons, List.cons_append, C]; omega)).right
    ·have hw : ¬ t.f = 0 := fun hf => by unfold wE at cw; rw [if_pos hf] at cw; exact absurd cw (by decide)
     rw [← hpe] at hb3
     have e1 : apRun J lsn pos need s ((need - (i + 1)) + 1) i t = apRun J lsn pos need s (need - (i + 1)) (i + 1) (wS t (blkP J (pos + (i : Nat))) (encE (apPart J lsn pos need s i))) := by rw [apRun, if_neg hw]
     rw [e1, show K + (need - (i + 1) + 1) = K + 1 + (need - (i + 1)) by omega] at fin bad
     exact app_loop n0 n hn h6 h40 hN hne hbo hse hlsn hpos hv hs1 hs2 hsj m (i + 1) (K + 1) _ L3 S3 (by omega) (by omega) (by omega) hb3 hSI' ((h3.re (M := L2 ++ (L3 ++ (C bj (jrow (dev sb) J ja J.l.length jc) :: Ll ++ G))) (by intro p; simp only [List.countP_append, List.countP_cons, List.cons_append, C]; omega)).right) fin bad
   ·simp only [decide_eq_false_iff_not] at hc
    have : i = need := by omega
    subst this
    rw [Nat.sub_self] at fin
    exact fin rfl Ls S hb hSI h
def apGo (J : JM) (p : List Pt) : Bool := okT p && decide (needI p.length ≤ (J.count : Int) - 2 - sumN J.l)
def apR (J : JM) (t : St) (p : List Pt) : Bool × St := apRun { J with se := J.se + 1 } (J.sup.ls + (J.l.length : Nat) + 1) (J.sup.po + sumN J.l) (needI p.length).toNat (encT p) (needI p.length).toNat 0 t
def apE (J : JM) (t : St) (p : List Pt) : Int := if okT p = true then (if apGo J p = true then (if (apR J t p).1 = true then 0 else 61) else 5) else 82
def apN (J : JM) (t : St) (p : List Pt) : Int := if apE J t p = 0 then J.sup.ls + (J.l.length : Nat) + 1 else 0
def apJ (J : JM) (t : St) (p : List Pt) : JM := if apGo J p = true then (if (apR J t p).1 = true then { J with l := J.l ++ [⟨needI p.length, J.sup.bo, J.se + 1⟩], se := J.se + 1 } else { J with se := J.se + 1 }) else J
def apT (J : JM) (t : St) (p : List Pt) : St := if apGo J p = true then (apR J t p).2 else t
theorem apGo_iff {J : JM} {p : List Pt} : apGo J p = true ↔ okT p = true ∧ needI p.length ≤ (J.count : Int) - 2 - sumN J.l := by simp [apGo]
theorem JI.ap {J : JM} {k : Nat} (h : JI J k) (hk : k + 40 ≤ 100000) {t : St} {p : List Pt} : JI (apJ J t p) (k + 40) := by
 unfold apJ
 split
 ·rename_i he
  obtain ⟨h1, h2⟩ := apGo_iff.1 he
  simp only [okT, Bool.and_eq_true, decide_eq_true_eq] at h1
  have h3 := needI_of (n := (p.length : Int)) (by omega) (by omega)
  obtain ⟨a1, a2, a3, a4, a5, a6, a7, a8, a9, a10, a11, a12, a13, a14⟩ := h.up (m := k + 40) (by omega) hk
  have b4 := h.bo
  have b9 := h.se
  have h0 := sumN_ge fun o ho => (h.ol o ho).1
  split
  ·refine ⟨a1, a2, a3, a4, a5, a6, a7, a8, ?_, ?_, fun o ho => ?_, ?_, a13, a14⟩
   ·show 0 ≤ J.se + 1 ∧ J.se + 1 ≤ ((k + 40 : Nat) : Int); omega
   ·show 0 ≤ J.sy ∧ J.sy ≤ J.sup.ls + (J.l ++ [_]).length
    rw [List.length_append, List.length_singleton]; omega
   ·rcases List.mem_append.1 ho with ho | ho
    ·exact a11 o ho
    ·simp only [List.mem_singleton] at ho
     subst ho
     refine ⟨?_, ?_, ?_, ?_, ?_, ?_⟩ <;> simp only <;> omega
   ·show sumN (J.l ++ [_]) + 2 ≤ (J.count : Int)
    rw [sumN_snoc]
    show sumN J.l + needI p.length + 2 ≤ (J.count : Int)
    omega
  ·refine ⟨a1, a2, a3, a4, a5, a6, a7, a8, ?_, a10, a11, a12, a13, a14⟩
   show 0 ≤ J.se + 1 ∧ J.se + 1 ≤ ((k + 40 : Nat) : Int); omega
 ·exact h.up (by omega) hk
theorem append_ok (n : Nat) (hn : 1000010 < n) (hJ : JI J k) {K : Nat} (hK : K ≤ 800000) {N : Nat} (hN : J.first + J.count ≤ N) (hN40 : N ≤ 40) (hSI : SI t N K) {ps : List Pr} {pa : OP} {pc : Cap} (h : Hp X S (Ls ++ (Lj ++ F))) (hj : JB bj sb J Lj) (hb : StB sb t Ls) (hr : RdR X F pa (prows ps).flatten) (hv : PsV X F ps) :
 Ok (ev (n + 4) (.fn 11) [.ptr (some (.rw bj, 0)), .sl pa ps.length pc] S) fun v S' => ∃ (L' Lj' : List Ent), v = .tup [.int .u64 (apN J t (pts ps)), .int .i64 (apE J t (pts ps))] ∧ StB sb (apT J t (pts ps)) L' ∧ SI (apT J t (pts ps)) N (K + 40) ∧ JB bj sb (apJ J t (pts ps)) Lj' ∧ Hp X S' (L' ++ (Lj' ++ F)) := by
 have hln := hJ.lcount
 have q1 := hJ.g
 have q2 := hJ.bo
 have q3 := hJ.po
 have q4 := hJ.ls
 have q5 := hJ.se
 have q6 := hJ.k1
 have q7 := hJ.c40
 have q8 := hJ.rm
 have q9 := sumN_ge fun o ho => (hJ.ol o ho).1
 have hSI' : SI t N (K + 40) := ⟨hSI.len, hSI.f, by have := hSI.q; omega, hSI.r⟩
 rw [ev, F11 _ _ _ _ _ _ (oL rfl)]
 simp only [J11, b11_entry]
 refine ok_false rfl ?_
 obtain ⟨v, S1, e1, a1, c1, L1, rfl, hs1, h1⟩ : Ok (evF E orcL (n + 3) (.fn 33) [.sl pa ps.length pc] S) _ := putT_ok n (by omega) h (hr.mono (fun e he => by simp [he])) (hv.mono (fun e he => by simp [he]))
 rw [callT_of e1]
 refine ok_atL rfl (ok_atI rfl (ok_cond (fun cc => ?_) (fun cc => ?_)))
 ·have hk : okT (pts ps) = false := by
   cases hk : okT (pts ps) with
   | false => rfl
   | true => rw [putTe, if_pos hk] at cc; exact absurd cc (by decide)
  have hgo : apGo J (pts ps) = false := by simp [apGo, hk]
  have he : apE J t (pts ps) = 82 := by simp [apE, hk]
  have he2 : apJ J t (pts ps) = J := by simp [apJ, hgo]
  have he3 : apT J t (pts ps) = t := by simp [apT, hgo]
  have he4 : apN J t (pts ps) = 0 := by simp [apN, he]
  rw [he, he2, he3, he4, show putTe (pts ps) = 82 by simp [putTe, hk]]
  exact ok_ret ⟨Ls, Lj, rfl, hb, hSI', hj, h1.right⟩
 have hk : okT (pts ps) = true := by
  cases hk : okT (pts ps) with
  | true => rfl
  | false => rw [putTe, if_neg (by simp [hk])] at cc; exact absurd cc (by decide)
 have hk2 := hk
 simp only [okT, Bool.and_eq_true, decide_eq_true_eq, List.all_eq_true, pts_len] at hk2
 have hnd := needI_of (n := (ps.length : Int)) (by omega) (by omega)
 have hpl : (encT (pts ps)).length = 4 + 388 * ps.length := by rw [encT, List.length_append, be_len, encPs_len hk2.2, pts_len]
 rw [show putT (pts ps) = encT (pts ps) by simp [putT, hk]] at hs1 ⊢
 rw [callI_of (need_eq (n + 2) _ S1)]
 have h1j : Hp X S1 (Lj ++ (L1 ++ (Ls ++ F))) := h1.re (by intro p; simp only [List.countP_append]; omega)
 obtain ⟨v, S2, e2, rfl, h2⟩ : Ok (evF E orcL (n + 3) (.fn 34) [.ptr (some (.rw bj, 0))] S1) _ := next_ok (n + 2) (by omega) hJ h1j hj
 rw [callI_of e2, callI_of (show evF E orcL (n + 3) (.fn 29) [.ptr (some (.rw bj, 0))] S2 = _ from last_eq (n + 2) hJ h2 hj)]
 obtain ⟨v, S3, e3, rfl, h3⟩ : Ok (evF E orcL (n + 3) (.fn 17) [.ptr (some (.rw bj, 0))] S2) _ := room_ok (n + 2) (by omega) hJ h2 hj
 rw [callI_of e3]
 have h3s : Hp X S3 (Ls ++ (Lj ++ (L1 ++ F))) := h3.re (by intro p; simp only [List.countP_append]; omega)
 refine ok_cond (fun c2 => ?_) (fun c2 => ?_)
 ·simp only [gt_iff_lt, decide_eq_true_eq] at c2
  have hgo : apGo J (pts ps) = false := by
   cases hg : apGo J (pts ps) with
   | false => rfl
   | true => have := (apGo_iff.1 hg).2; rw [pts_len] at this; omega
  have he : apE J t (pts ps) = 5 := by simp [apE, hk, hgo]
  have he2 : apJ J t (pts ps) = J := by simp [apJ, hgo]
  have he3 : apT J t (pts ps) = t := by simp [apT, hgo]
  have he4 : apN J t (pts ps) = 0 := by simp [apN, he]
  rw [he, he2, he3, he4]
  exact ok_ret ⟨Ls, Lj, rfl, hb, hSI', hj, h3s.sub (List.Sublist.append_left (List.Sublist.append_left (List.sublist_append_right L1 F) Lj) Ls)⟩
 simp only [gt_iff_lt, decide_eq_false_iff_not] at c2
 have hgo : apGo J (pts ps) = true := apGo_iff.2 ⟨hk, by rw [pts_len]; omega⟩
 obtain ⟨ja, jc, Ll, hsj, rfl⟩ := hj
 refine ok_gO (ok_ldI h3s rfl ?_)
 rw [wu64 (n := J.sup.ls + (J.l.length : Nat) + 1) (by omega) (by omega), wu64 (n := J.se + 1) (by omega) (by omega), wu64 (n := needI (ps.length : Nat)) (by omega) (by omega), wu64 (n := J.sup.po + sumN J.l + needI (ps.length : Nat)) (by omega) (by omega)]
 refine ok_newA h3s (fun b15 S16 h16 => ?_)
 have rd : RdR X (C b15 [.int .u64 (J.sup.ls + (J.l.length : Nat) + 1), .int .u64 (J.se + 1), .int .u64 (J.sup.po + sumN J.l + needI (ps.length : Nat))] :: (Ls ++ (C bj (jrow (dev sb) J ja J.l.length jc) :: Ll ++ (L1 ++ F)))) (some (.rw b15, 0)) (([J.sup.ls + (J.l.length : Nat) + 1, J.se + 1, J.sup.po + sumN J.l + needI (ps.length : Nat)]).map (AV.int .u64)) := .rw (c := [.int .u64 (J.sup.ls + (J.l.length : Nat) + 1), .int .u64 (J.se + 1), .int .u64 (J.sup.po + sumN J.l + needI (ps.length : Nat))]) List.mem_cons_self (by simp) rfl
 rw [callB_of (show evF E orcL (n + 3) (.fn 35) [.sl (some (.rw b15, 0)) 3 (.ex 3)] S16 = _ from below_eq (n + 2) (by omega) rd h16 (by simp) rfl)]
 refine ok_false (by simp [mxB]; omega) (ok_gO (ok_ldI h16 rfl (ok_gO ?_)))
 rw [wu64 (n := J.se + 1) (by omega) (by omega)]
 refine ok_stn h16 (by simp [jrow]) (d := jrow (dev sb) { J with se := J.se + 1 } ja J.l.length jc) (by simp [splice, jrow]) (fun S22 h22 => ?_)
 obtain ⟨nd, hnd2⟩ : ∃ nd : Nat, needI (ps.length : Nat) = nd := ⟨(needI (ps.length : Nat)).toNat, by omega⟩
 rw [hnd2]
 have h22' : Hp X S22 (Ls ++ (C bj (jrow (dev sb) { J with se := J.se + 1 } ja J.l.length jc) :: Ll ++ (C b15 [.int .u64 (J.sup.ls + (J.l.length : Nat) + 1), .int .u64 (J.se + 1), .int .u64 (J.sup.po + sumN J.l + needI (ps.length : Nat))] :: (L1 ++ F)))) := h22.re (by intro p; simp only [List.countP_append, List.countP_cons, List.cons_append, C]; omega)
 have hj2 : JB bj sb { J with se := J.se + 1 } (C bj (jrow (dev sb) { J with se := J.se + 1 } ja J.l.length jc) :: Ll) := ⟨ja, jc, Ll, hsj, rfl⟩
 have hlen1 : (nd - 1) * 336 < (encT (pts ps)).length := by rw [hpl]; omega
 have hlen2 : (encT (pts ps)).length ≤ nd * 336 := by rw [hpl]; omega
 have hrun : apR J t (pts ps) = apRun { J with se := J.se + 1 } (J.sup.ls + (J.l.length : Nat) + 1) (J.sup.po + sumN J.l) nd (encT (pts ps)) (nd - 0) 0 t := by
  rw [apR, pts_len, hnd2, Int.toNat_natCast, Nat.sub_zero]
 have hT : apT J t (pts ps) = (apR J t (pts ps)).2 := by rw [apT, if_pos hgo]
 have hnd40 : nd ≤ 40 := by omega
 refine app_loop (J := { J with se := J.se + 1 }) (N := N) (G := C b15 [.int .u64 (J.sup.ls + (J.l.length : Nat) + 1), .int .u64 (J.se + 1), .int .u64 (J.sup.po + sumN J.l + needI (ps.length : Nat))] :: (L1 ++ F)) (n + 3) n hn (need := nd) (lsn := J.sup.ls + (J.l.length : Nat) + 1) (pos := J.sup.po + sumN J.l) hJ.c6 hN hN40 hnd40 (by show 1 ≤ J.sup.bo ∧ J.sup.bo ≤ _; omega) (by show 1 ≤ J.se + 1 ∧ J.se + 1 ≤ _; omega) (by omega) (by omega) (slG_vw hs1 (fun e he => by simp [he])) hlen1 hlen2 hsj (n + 3) 0 K t Ls S22 (by omega) (by omega) (by omega) hb hSI h22' (fun hr1 L' S' hb' hSI2 h' => ?_) (fun hr1 L' S' hb' hSI2 h' => ?_)
 ·rw [← hrun] at hr1 hb' hSI2
  rw [← hT] at hb' hSI2
  simp only [J11_jZAN, b11_jZAN]
  refine ok_drawA h' [17] (by simp) (by simp) (fun b41 S42 h42 => ?_)
  have h42' : Hp X S42 ((b41 + 17, none) :: (L' ++ (C bj (jrow (dev sb) { J with se := J.se + 1 } ja J.l.length jc) :: Ll ++ (C b15 [.int .u64 (J.sup.ls + (J.l.length : Nat) + 1), .int .u64 (J.se + 1), .int .u64 (J.sup.po + sumN J.l + needI (ps.length : Nat))] :: (L1 ++ F))))) := h42
  refine ok_gO (ok_ldL h42' rfl (ok_gO (ok_ldI h42' rfl (ok_gO (ok_ldI h42' rfl (ok_layA (b := b41 + 17) h42' (fun S49 h49 => ?_)))))))
  have h49' : Hp X S49 (Ll ++ (C (b41 + 17) (orow ⟨(nd : Int), J.sup.bo, J.se + 1⟩) :: C bj (jrow (dev sb) { J with se := J.se + 1 } ja J.l.length jc) :: (L' ++ F))) := (h49.re (M := C b15 [.int .u64 (J.sup.ls + (J.l.length : Nat) + 1), .int .u64 (J.se + 1), .int .u64 (J.sup.po + sumN J.l + needI (ps.length : Nat))] :: (L1 ++ (Ll ++ (C (b41 + 17) (orow ⟨(nd : Int), J.sup.bo, J.se + 1⟩) :: C bj (jrow (dev sb) { J with se := J.se + 1 } ja J.l.length jc) :: (L' ++ F))))) (by intro p; simp only [List.countP_append, List.countP_cons, List.cons_append, C, orow]; omega)).drop1.right
  have hE : apE J t (pts ps) = 0 := by simp [apE, hk, hgo, hr1]
  have hNn : apN J t (pts ps) = J.sup.ls + (J.l.length : Nat) + 1 := by rw [apN, if_pos hE]
  have hJe : apJ J t (pts ps) = { J with l := J.l ++ [⟨(nd : Int), J.sup.bo, J.se + 1⟩], se := J.se + 1 } := by rw [apJ, if_pos hgo, if_pos hr1, pts_len, hnd2]
  refine ok_appendG h49' hsj (ys := orows [⟨(nd : Int), J.sup.bo, J.se + 1⟩]) (orows_all _) rfl (fun K => ?_) (by decide) (by simp [pow46]; omega) (by simp [pow46]; omega) (fun a3 l3 c3 S51 L3 ht' h51 => ?_)
  ·have := RdR.first (.rw (X := X) (b := b41 + 17) (i := 0) (c := orow ⟨(nd : Int), J.sup.bo, J.se + 1⟩) (cs := orow ⟨(nd : Int), J.sup.bo, J.se + 1⟩) (L := _) (List.mem_append_right Ll List.mem_cons_self) (by simp) rfl) h49' (sz := 3) (n := 1) rfl (by decide) (l := 1) (c := .ex 1) K
   simpa [orows] using this
  ·rw [← orows_append] at ht'
   have hl3 : l3 = (apJ J t (pts ps)).l.length := by have := ht'.len; rw [orows_len] at this; rw [hJe]; exact this
   rw [hE, hNn]
   refine ok_gO (ok_stn h51 (by simp [jrow]) (d := jrow (dev sb) (apJ J t (pts ps)) a3 (apJ J t (pts ps)).l.length c3) (by rw [hJe]; simp [splice, jrow]; rw [hl3, hJe]; simp) (fun S53 h53 => ok_ret ⟨L', C bj (jrow (dev sb) (apJ J t (pts ps)) a3 (apJ J t (pts ps)).l.length c3) :: L3, rfl, hb', ⟨hSI2.len, hSI2.f, by have := hSI2.q; omega, hSI2.r⟩, ⟨a3, c3, L3, ?_, rfl⟩, ?_⟩))
   ·rw [← hl3]
    rw [hJe]
    exact ht'
   ·exact (h53.re (M := C (b41 + 17) (orow ⟨(nd : Int), J.sup.bo, J.se + 1⟩) :: (L' ++ (C bj (jrow (dev sb) (apJ J t (pts ps)) a3 (apJ J t (pts ps)).l.length c3) :: L3 ++ F))) (by intro p; simp only [List.countP_append, List.countP_cons, List.cons_append, C]; omega)).drop1
 ·rw [← hrun] at hr1 hb' hSI2
  rw [← hT] at hb' hSI2
  have hE : apE J t (pts ps) = 61 := by simp [apE, hk, hgo, hr1]
  have hNn : apN J t (pts ps) = 0 := by rw [apN, hE, if_neg (by decide)]
  have hJe : apJ J t (pts ps) = { J with se := J.se + 1 } := by rw [apJ, if_pos hgo, hr1, if_neg (by decide)]
  rw [hE, hNn, hJe]
  exact ok_ret ⟨L', C bj (jrow (dev sb) { J with se := J.se + 1 } ja J.l.length jc) :: Ll, rfl, hb', ⟨hSI2.len, hSI2.f, by have := hSI2.q; omega, hSI2.r⟩, ⟨ja, jc, Ll, hsj, rfl⟩, h'.sub (List.Sublist.append_left (List.Sublist.append_left ((List.sublist_append_right L1 F).cons _) _) L')⟩
def JM.sync (J : JM) : JM := { J with sy := J.sup.ls + J.l.length }
theorem JI.sync {J : JM} {k : Nat} (h : JI J k) : JI J.sync k :=
 ⟨h.c6, h.c40, h.g, h.bo, h.po, h.ls, h.ab, h.as_, h.se, by have := h.ls; show 0 ≤ J.sup.ls + (J.l.length : Nat) ∧ J.sup.ls + (J.l.length : Nat) ≤ J.sup.ls + (J.l.length : Nat); omega, h.ol, h.rm, h.k1, h.ff⟩
theorem sync_ok (n : Nat) (hn : 1000010 < n) (hJ : JI J k) {K N : Nat} (hK : K ≤ 1000000) (hSI : SI t N K) (h : Hp X S (Ls ++ (Lj ++ F))) (hj : JB bj sb J Lj) (hb : StB sb t Ls) :
 Ok (ev (n + 2) (.fn 14) [.ptr (some (.rw bj, 0))] S) fun v S' => v = .int .i64 0 ∧ ∃ (L' Lj' : List Ent), StB sb t.fl L' ∧ SI t.fl N 0 ∧ JB bj sb J.sync Lj' ∧ Hp X S' (L' ++ (Lj' ++ F)) := by
 have hj0 := hj
 obtain ⟨ja, jc, Ll, hsj, rfl⟩ := hj
 rw [ev, F14 _ _ _ (oL rfl)]
 simp only [J14, b14_entry]
 refine ok_false rfl (ok_gO (ok_ldV h rfl ?_))
 refine ok_invFlush n (by omega) hSI.r (by have := hSI.q; omega) hb h (fun L1 S1 hb1 h1 => ok_gIk (ok_true rfl ?_))
 have h1j : Hp X S1 (C bj (jrow (dev sb) J ja J.l.length jc) :: Ll ++ (L1 ++ F)) := h1.re (by intro p; simp only [List.countP_append, List.countP_cons, List.cons_append, C]; omega)
 rw [callI_of (show evF E orcL (n + 1) (.fn 29) [.ptr (some (.rw bj, 0))] S1 = _ from last_eq n hJ h1j hj0)]
 refine ok_gO (ok_stn h1 (by simp [jrow]) (d := jrow (dev sb) J.sync ja J.l.length jc) (by simp [splice, jrow, JM.sync]) (fun S2 h2 => ok_ret ⟨rfl, L1, C bj (jrow (dev sb) J.sync ja J.l.length jc) :: Ll, hb1, ⟨?_, hSI.f, by simp [St.fl], fun e he => by cases he⟩, ⟨ja, jc, Ll, hsj, rfl⟩, h2⟩))
 rw [St.fl]; simp only [flS_len]; exact hSI.len
end
end Go.Jn.P
namespace Go.Jn.P
open Go.Gr Go.Jn
def supT (J : JM) (lsn : Int) : Nat → Su
 | 0 => { J.sup with ls := lsn }
 | i + 1 => match J.l[i]? with
   | some o => { supT J lsn i with po := (supT J lsn i).po + o.need, ab := o.bo, as_ := o.se }
   | none => supT J lsn i
theorem supT_succ {J : JM} {lsn : Int} {i : Nat} {o : One} (h : J.l[i]? = some o) : supT J lsn (i + 1) = { supT J lsn i with po := (supT J lsn i).po + o.need, ab := o.bo, as_ := o.se } := by simp only [supT, h]
theorem supT_facts {J : JM} {k : Nat} (h : JI J k) (lsn : Int) : ∀ i, i ≤ J.l.length → (supT J lsn i).g = J.sup.g ∧ (supT J lsn i).bo = J.sup.bo ∧ (supT J lsn i).ls = lsn ∧ (supT J lsn i).po = J.sup.po + sumN (J.l.take i) ∧ (0 ≤ (supT J lsn i).ab ∧ (supT J lsn i).ab ≤ k) ∧ (0 ≤ (supT J lsn i).as_ ∧ (supT J lsn i).as_ ≤ k)
 | 0, _ => by
   have h1 := h.ab
   have h2 := h.as_
   refine ⟨rfl, rfl, rfl, ?_, h1, h2⟩
   show J.sup.po = _
   simp [sumN]
 | i + 1, hi => by
   obtain ⟨o, ho⟩ : ∃ o, J.l[i]? = some o := ⟨_, List.getElem?_eq_getElem (by omega)⟩
   obtain ⟨h1, h2, h3, h4, h5, h6⟩ := supT_facts h lsn i (by omega)
   have h7 := h.ol o (List.mem_of_getElem? ho)
   rw [supT_succ ho]
   refine ⟨h1, h2, h3, ?_, ⟨h7.2.2.1, h7.2.2.2.1⟩, ⟨h7.2.2.2.2.1, h7.2.2.2.2.2⟩⟩
   show (supT J lsn i).po + o.need = _
   rw [h4, sumN_take ho]; omega
def JM.trE (J : JM) (lsn : Int) : Int := if J.sy < lsn ∨ lsn < J.sup.ls then 2 else 0
def JM.trN (J : JM) (lsn : Int) : Nat := (lsn - J.sup.ls).toNat
def JM.trG (J : JM) (lsn : Int) : Bool := decide (J.trE lsn = 0) && decide (lsn ≠ J.sup.ls)
def trA (J : JM) (t : St) (lsn : Int) : Int := if J.trG lsn = true then wE t else J.trE lsn
def trJ (J : JM) (t : St) (lsn : Int) : JM := if J.trG lsn = true then (if t.f = 0 then J.sup! { J.sup with g := J.sup.g + 1 } else { J with sup := { supT J lsn (J.trN lsn) with g := J.sup.g + 1 }, l := J.l.drop (J.trN lsn), sy := lsn + (J.l.drop (J.trN lsn)).length }) else J
def trT (J : JM) (t : St) (lsn : Int) : St := if J.trG lsn = true then wrT J t (supT J lsn (J.trN lsn)) else t
theorem trG_iff {J : JM} {lsn : Int} : J.trG lsn = true ↔ J.trE lsn = 0 ∧ lsn ≠ J.sup.ls := by simp [JM.trG]
theorem trE_iff {J : JM} {lsn : Int} : J.trE lsn = 0 ↔ J.sup.ls ≤ lsn ∧ lsn ≤ J.sy := by
 unfold JM.trE
 by_cases h : J.sy < lsn ∨ lsn < J.sup.ls
 ·rw [if_pos h]; constructor
  ·intro h2; simp at h2
  ·intro h2; omega
 ·rw [if_neg h]; exact ⟨fun _ => by omega, fun _ => rfl⟩
theorem trN_le {J : JM} {k : Nat} (h : JI J k) {lsn : Int} (he : J.trE lsn = 0) : J.trN lsn ≤ J.l.length ∧ ((J.trN lsn : Nat) : Int) = lsn - J.sup.ls := by
 have h1 := trE_iff.1 he
 have h2 := h.sy
 unfold JM.trN
 omega
theorem JI.tr {J : JM} {k : Nat} (h : JI J k) (hk : k + 40 ≤ 100000) {t : St} {lsn : Int} : JI (trJ J t lsn) (k + 40) := by
 unfold trJ
 split
 ·rename_i hc
  obtain ⟨he, hne⟩ := trG_iff.1 hc
  obtain ⟨h1, h2⟩ := trN_le h he
  have h3 := trE_iff.1 he
  obtain ⟨f1, f2, f3, f4, f5, f6⟩ := supT_facts h lsn (J.trN lsn) h1
  have h38 := h.lcount
  have hg := h.g
  have hpo := h.po
  have hls := h.ls
  have hrm := h.rm
  have h40 := h.c40
  have hbo := h.bo
  have hse := h.se
  have hsum := sumN_le (fun o ho => (h.ol o ho).1) (J.trN lsn)
  have hsp := sumN_split J.l (J.trN lsn)
  have hsy := h.sy
  split
  ·obtain ⟨a1, a2, a3, a4, a5, a6, a7, a8, a9, a10, a11, a12, a13, a14⟩ := h.up (m := k + 40) (by omega) hk
   refine ⟨a1, a2, ?_, a4, a5, a6, a7, a8, a9, a10, a11, a12, a13, a14⟩
   show 1 ≤ J.sup.g + 1 ∧ J.sup.g + 1 ≤ ((k + 40 : Nat) : Int); omega
  refine ⟨h.c6, h.c40, ?_, ?_, ?_, ?_, ?_, ?_, ?_, ?_, fun o ho => ?_, ?_, hk, h.ff⟩
  ·show 1 ≤ J.sup.g + 1 ∧ J.sup.g + 1 ≤ ((k + 40 : Nat) : Int); omega
  ·show 1 ≤ (supT J lsn (J.trN lsn)).bo ∧ (supT J lsn (J.trN lsn)).bo ≤ ((k + 40 : Nat) : Int); omega
  ·show 0 ≤ (supT J lsn (J.trN lsn)).po ∧ (supT J lsn (J.trN lsn)).po ≤ 100 * ((k + 40 : Nat) : Int); omega
  ·show 0 ≤ (supT J lsn (J.trN lsn)).ls ∧ (supT J lsn (J.trN lsn)).ls ≤ ((k + 40 : Nat) : Int); omega
  ·show 0 ≤ (supT J lsn (J.trN lsn)).ab ∧ (supT J lsn (J.trN lsn)).ab ≤ ((k + 40 : Nat) : Int); omega
  ·show 0 ≤ (supT J lsn (J.trN lsn)).as_ ∧ (supT J lsn (J.trN lsn)).as_ ≤ ((k + 40 : Nat) : Int); omega
  ·show 0 ≤ J.se ∧ J.se ≤ ((k + 40 : Nat) : Int); omega
  ·show 0 ≤ lsn + ((J.l.drop (J.trN lsn)).length : Nat) ∧ lsn + ((J.l.drop (J.trN lsn)).length : Nat) ≤ (supT J lsn (J.trN lsn)).ls + ((J.l.drop (J.trN lsn)).length : Nat); omega
  ·have := h.ol o (List.mem_of_mem_drop ho); omega
  ·show sumN (J.l.drop (J.trN lsn)) + 2 ≤ (J.count : Int); omega
 ·exact h.up (by omega) hk
section
variable {X : Cx} {S : AS} {L F G Lj Ls : List Ent} {b bj sb : Nat} {Q : AV → AS → Prop} {J : JM} {k : Nat} {t : St}
theorem tr_loop (n0 n : Nat) (hJ : JI J k) {lsn : Int} {N : Nat} (hN : N ≤ J.l.length) {a : OP} {c : Cap} {b11 : Nat} {w5 : Int} (hr : RdR X F a (orows (J.l.take N)).flatten)
 (fin : ∀ S', Hp X S' (C b11 (srowS (supT J lsn N)) :: F) → Ok (J16_jZAL (evF E orcL n) n0 (some (.rw bj, 0)) w5 (some (.rw b11, 0)) S') Q) :
 ∀ (m i : Nat) (M : List Ent) (S : AS), i ≤ N → N - i < m → Hp X S (M ++ (C b11 (srowS (supT J lsn i)) :: F)) →
   Ok (J16_lZAa (evF E orcL n) n0 m (some (.rw bj, 0)) w5 (some (.rw b11, 0)) a N c N i S) Q
 | 0, i, M, S, hi, hm, h => by omega
 | m + 1, i, M, S, hi, hm, h => by
   have h38 := hJ.lcount
   have hk1 := hJ.k1
   have hpo := hJ.po
   rw [J16_lZAa_succ]
   simp only [b16_lZAa]
   refine ok_cond (fun hc => ?_) (fun hc => ?_)
   ·simp only [decide_eq_true_eq] at hc
    have hlt : i < N := by omega
    obtain ⟨o, ho⟩ : ∃ o, J.l[i]? = some o := ⟨_, List.getElem?_eq_getElem (by omega)⟩
    have hoT : (J.l.take N)[i]? = some o := by rw [List.getElem?_take_of_lt hlt]; exact ho
    have hob := hJ.ol o (List.mem_of_getElem? ho)
    obtain ⟨f1, f2, f3, f4, f5, f6⟩ := supT_facts hJ lsn i (by omega)
    have hsum := sumN_le (fun o ho => (hJ.ol o ho).1) i
    have hrm := hJ.rm
    have h40 := hJ.c40
    have hr' : RdR X (M ++ (C b11 (srowS (supT J lsn i)) :: F)) a (orows (J.l.take N)).flatten := hr.mono (fun e he => by simp [he])
    have hlen : (J.l.take N).length = N := by simp; omega
    obtain ⟨p, hp⟩ := hr'.some_of (by intro he; have := congrArg List.length he; rw [flat_len (orows_all _), orows_len, hlen] at this; simp only [List.length_nil] at this; omega)
    have hr2 : ∀ {M : List Ent} {cs : List AV}, RdR X M a cs → RdR X M (some p) cs := fun h => by rw [← hp]; exact h
    rw [show ixSl 3 a N (i : Int) = ixSl 3 (some p) N (i : Int) by rw [hp]]
    rw [ixSl_at rfl hlt, (hr2 hr').elem h (orows_all _) (orows_at hoT)]
    refine ok_newA h (fun b20 S1 h1 => ok_ifO rfl (ok_stn h1 (by simp [orow]) (d := orow o) (by simp [splice, orow]) (fun S2 h2 => ok_gO (ok_ldI h2 rfl (ok_ldI h2 rfl (ok_gO ?_))))))
    rw [wu64 (n := o.need) (by omega) (by omega), wu64 (n := (supT J lsn i).po + o.need) (by omega) (by omega)]
    refine ok_stn h2 (by simp [srowS, Su.l]) (d := srowS { supT J lsn i with po := (supT J lsn i).po + o.need }) (by simp [splice, srowS, Su.l]) (fun S3 h3 => ok_ldI h3 rfl (ok_ldI h3 rfl (ok_gO ?_)))
    refine ok_stn h3 (by simp [srowS, Su.l]) (d := srowS { supT J lsn i with po := (supT J lsn i).po + o.need, ab := o.bo }) (by simp [splice, srowS, Su.l]) (fun S4 h4 => ok_ldI h4 rfl (ok_true (by simp [AV.beq]) (ok_gO ?_)))
    refine ok_stn h4 (by simp [srowS, Su.l]) (d := srowS (supT J lsn (i + 1))) (by rw [supT_succ ho]; simp [splice, srowS, Su.l]) (fun S5 h5 => ?_)
    rw [wn (x := (i : Int) + 1) (n := i + 1) (by omega) (by omega)]
    exact tr_loop n0 n hJ hN hr fin m (i + 1) (C b20 (orow o) :: M) S5 (by omega) (by omega) h5
   ·simp only [decide_eq_false_iff_not] at hc
    have : i = N := by omega
    subst this
    exact fin S h.right
theorem trim_ok (n : Nat) (hn : 1000020 < n) (hJ : JI J k) {K N : Nat} (hK : K ≤ 800000) (hN0 : J.first + J.count ≤ N) (hSI : SI t N K) {lsn : Int} (hlsn : u64B lsn) (h : Hp X S (Ls ++ (Lj ++ F))) (hj : JB bj sb J Lj) (hb : StB sb t Ls) :
 Ok (ev (n + 5) (.fn 16) [.ptr (some (.rw bj, 0)), .int .u64 lsn] S) fun v S' => v = .int .i64 (trA J t lsn) ∧ ∃ (L' Lj' : List Ent), StB sb (trT J t lsn) L' ∧ SI (trT J t lsn) N (K + 1) ∧ JB bj sb (trJ J t lsn) Lj' ∧ Hp X S' (L' ++ (Lj' ++ F)) := by
 have hj0 := hj
 obtain ⟨ja, jc, Ll, hsj, rfl⟩ := hj
 have h38 := hJ.lcount
 have hk1 := hJ.k1
 have hls := hJ.ls
 obtain ⟨hl0, hl1⟩ := hlsn
 rw [ev, F16 _ _ _ _ (oL rfl)]
 simp only [J16, b16_entry]
 have same : ∀ (S' : AS), J.trG lsn = false → Hp X S' (Ls ++ (C bj (jrow (dev sb) J ja J.l.length jc) :: Ll ++ F)) → Ok (some (AV.int .i64 (trA J t lsn), S')) fun v S' => v = .int .i64 (trA J t lsn) ∧ ∃ (L' Lj' : List Ent), StB sb (trT J t lsn) L' ∧ SI (trT J t lsn) N (K + 1) ∧ JB bj sb (trJ J t lsn) Lj' ∧ Hp X S' (L' ++ (Lj' ++ F)) := fun S' he hh =>
  ok_ret ⟨rfl, Ls, _, by rw [trT, if_neg (by simp [he])]; exact hb, by rw [trT, if_neg (by simp [he])]; exact ⟨hSI.len, hSI.f, by have := hSI.q; omega, hSI.r⟩, by rw [trJ, if_neg (by simp [he])]; exact hj0, hh⟩
 refine ok_false rfl (ok_gO (ok_ldI h rfl (ok_cond (fun c1 => ?_) (fun c1 => ok_gO (ok_ldI h rfl (ok_cond (fun c2 => ?_) (fun c2 => ok_gO (ok_ldI h rfl (ok_cond (fun c3 => ?_) (fun c3 => ?_))))))))))
 ·simp only [gt_iff_lt, decide_eq_true_eq] at c1
  have he : J.trE lsn = 2 := by rw [JM.trE, if_pos (.inl c1)]
  have hg : J.trG lsn = false := by simp [JM.trG, he]
  have := same S hg h
  rwa [show trA J t lsn = 2 by simp [trA, hg, he]] at this ⊢
 ·simp only [decide_eq_true_eq] at c2
  have he : J.trE lsn = 2 := by rw [JM.trE, if_pos (.inr c2)]
  have hg : J.trG lsn = false := by simp [JM.trG, he]
  have := same S hg h
  rwa [show trA J t lsn = 2 by simp [trA, hg, he]] at this ⊢
 ·simp only [gt_iff_lt, decide_eq_false_iff_not, beq_iff_eq] at c1 c2 c3
  have he : J.trE lsn = 0 := trE_iff.2 ⟨by omega, by omega⟩
  have hg : J.trG lsn = false := by simp [JM.trG, c3]
  have := same S hg h
  rwa [show trA J t lsn = 0 by simp [trA, hg, he]] at this ⊢
 simp only [gt_iff_lt, decide_eq_false_iff_not, beq_eq_false_iff_ne, ne_eq] at c1 c2 c3
 have he : J.trE lsn = 0 := trE_iff.2 ⟨by omega, by omega⟩
 obtain ⟨hN, hNi⟩ := trN_le hJ he
 generalize hNN : J.trN lsn = Dn at hN hNi
 have hN1 : 1 ≤ Dn := by omega
 have hgG : J.trG lsn = true := trG_iff.2 ⟨he, c3⟩
 have hA : trA J t lsn = wE t := by rw [trA, if_pos hgG]
 have hTT : trT J t lsn = wrT J t (supT J lsn Dn) := by rw [trT, if_pos hgG, hNN]
 refine ok_gO (ok_ldI h rfl (ok_gO (ok_ldn h (by simp [jrow]) (d := srowS J.sup) rfl (ok_newA h (fun b11 S12 h12 => ok_ifO rfl (ok_stn h12 (by simp [srowS, Su.l]) (d := srowS J.sup) (by simp [splice, srowS, Su.l]) (fun S13 h13 => ok_stn h13 (by simp [srowS, Su.l]) (d := srowS (supT J lsn 0)) (by simp [splice, srowS, Su.l, supT]) (fun S14 h14 => ok_gO (ok_ldL h14 rfl ?_)))))))))
 rw [wu64 (n := lsn - J.sup.ls) (by omega) (by omega), wn (x := lsn - J.sup.ls) (n := Dn) (by omega) (by omega)]
 rcases hsj.dest with ⟨_, hz, _, _, _⟩ | ⟨bl, js, rfl, hln, hcc, rfl, hx', hjs⟩
 ·omega
 rw [orows_len] at hcc
 refine ok_slHead hcc (by omega) hN rfl ?_
 have rdA : ∀ {M : List Ent}, (C bl (orows J.l ++ js).flatten) ∈ M → RdR X M (some (.rw bl, 0)) (orows J.l).flatten := fun hm => hsj.rd (fun e he => by simp only [List.mem_singleton] at he; subst he; exact hm)
 have hfl : (orows J.l).flatten.length = J.l.length * 3 := by rw [flat_len (orows_all _), orows_len]
 have rdH : ∀ {M : List Ent}, (C bl (orows J.l ++ js).flatten) ∈ M → RdR X M (some (.rw bl, 0)) (orows (J.l.take Dn)).flatten := fun hm => by
  have := rd_sub (rdA hm) (lo := 0) (k := Dn * 3) (by rw [hfl]; omega)
  rw [List.drop_zero, flat_take Dn (orows_all _)] at this
  rw [show orows (J.l.take Dn) = (orows J.l).take Dn by simp [orows, List.map_take]]
  exact this
 have h14' : Hp X S14 ([] ++ (C b11 (srowS (supT J lsn 0)) :: (Ls ++ (C bj (jrow (dev sb) J (some (.rw bl, 0)) J.l.length jc) :: [C bl (orows J.l ++ js).flatten] ++ F)))) := h14
 refine tr_loop (n + 4) (n + 4) hJ hN (rdH (by simp)) (fun S15 h15 => ?_) (n + 4) 0 [] S14 (by omega) (by omega) h14'
 simp only [J16_jZAL, b16_jZAL]
 refine ok_gO (ok_ldn h15 (by simp [srowS, Su.l]) (d := srowS (supT J lsn Dn)) (by simp [srowS, Su.l]) ?_)
 obtain ⟨f1, f2, f3, f4, f5, f6⟩ := supT_facts hJ lsn Dn hN
 have hsum := sumN_le (fun o ho => (hJ.ol o ho).1) Dn
 have hrm := hJ.rm
 have h40 := hJ.c40
 have hpo := hJ.po
 have hg := hJ.g
 have hbo := hJ.bo
 have hsy := hJ.sy
 have hb62 : ∀ y ∈ (supT J lsn Dn).l, 0 ≤ y ∧ y ≤ 4611686018427387904 := by
  intro y hy
  simp only [Su.l, List.mem_cons, List.not_mem_nil, or_false] at hy
  rcases hy with rfl | rfl | rfl | rfl | rfl | rfl
  all_goals constructor <;> omega
 have h15' : Hp X S15 (Ls ++ ((C bj (jrow (dev sb) J (some (.rw bl, 0)) J.l.length jc) :: [C bl (orows J.l ++ js).flatten]) ++ (C b11 (srowS (supT J lsn Dn)) :: F))) := h15.re (by intro p; simp only [List.countP_append, List.countP_cons, List.countP_nil, List.cons_append, C]; omega)
 obtain ⟨v, S16, e16, rfl, L', Lj', hb', hj', h16⟩ : Ok (evF E orcL (n + 4) (.fn 38) [.ptr (some (.rw bj, 0)), .agg (srowS (supT J lsn Dn))] S15) _ := writes_ok n (by omega) hJ (x := supT J lsn Dn) hb62 (by omega) hN0 ⟨hSI.len, hSI.f, by have := hSI.q; omega, hSI.r⟩ h15' hj0 hb
 rw [callI_of e16]
 have hat : 0 ≤ wrAt J ∧ wrAt J < t.s.length := by
  have h1 := hJ.c6
  have h2 := hSI.len
  unfold wrAt
  split <;> omega
 have hSI' : SI (trT J t lsn) N (K + 1) := by
  rw [hTT]
  have hq := wS_q t (wrAt J) (encS { supT J lsn Dn with g := J.sup.g + 1 })
  have hq2 := hSI.q
  unfold wrT
  split
  ·exact ⟨by rw [wS_len]; exact hSI.len, wS_f hSI.f, Nat.le_trans (wS_q _ _ _) (by omega), wS_inr hSI.r hat.1 hat.2⟩
  ·refine ⟨?_, wS_f hSI.f, by simp [St.fl], fun e he => by cases he⟩
   rw [St.fl]; simp only [flS_len, wS_len]; exact hSI.len
 by_cases hw : t.f = 0
 ·have hwe : wE t = 61 := by rw [wE, if_pos hw]
  have hJJ : trJ J t lsn = wrJ J t (supT J lsn Dn) := by rw [trJ, if_pos hgG, if_pos hw, wrJ, if_pos hw]
  rw [hA, hwe]
  refine ok_true (by decide) (ok_ret ⟨rfl, L', Lj', by rw [hTT]; exact hb', hSI', by rw [hJJ]; exact hj', h16.sub (List.Sublist.append_left (List.Sublist.append_left (List.sublist_cons_self _ _) Lj') L')⟩)
 have hwe : wE t = 0 := by rw [wE, if_neg hw]
 have hwj : wrJ J t (supT J lsn Dn) = J.sup! { supT J lsn Dn with g := J.sup.g + 1 } := by rw [wrJ, if_neg hw]
 rw [hwj] at hj'
 have htr : trJ J t lsn = { J with sup := { supT J lsn Dn with g := J.sup.g + 1 }, l := J.l.drop Dn, sy := lsn + (J.l.drop Dn).length } := by rw [trJ, if_pos hgG, if_neg hw, hNN]
 obtain ⟨ja2, jc2, Ll2, hsj2, rfl⟩ := hj'
 have hsl : (J.sup! { supT J lsn Dn with g := J.sup.g + 1 }).l = J.l := rfl
 rw [hsl] at hsj2 h16
 rw [hA, hwe]
 refine ok_false rfl (ok_gO (ok_ldL h16 rfl ?_))
 rcases hsj2.dest with ⟨_, hz, _, _, _⟩ | ⟨bl2, js2, rfl, hln2, hcc2, rfl, hx2, hjs2⟩
 ·omega
 rw [orows_len] at hcc2
 refine ok_slTail hcc2 (by omega) hN rfl (fun o c3' ho => ?_)
 have rdT : RdR X (L' ++ (C bj (jrow (dev sb) (J.sup! { supT J lsn Dn with g := J.sup.g + 1 }) (some (.rw bl2, 0)) J.l.length jc2) :: [C bl2 (orows J.l ++ js2).flatten] ++ (C b11 (srowS (supT J lsn Dn)) :: F))) (some (.rw bl2, o)) (orows (J.l.drop Dn)).flatten := by
  have h0 : RdR X (L' ++ (C bj (jrow (dev sb) (J.sup! { supT J lsn Dn with g := J.sup.g + 1 }) (some (.rw bl2, 0)) J.l.length jc2) :: [C bl2 (orows J.l ++ js2).flatten] ++ (C b11 (srowS (supT J lsn Dn)) :: F))) (some (.rw bl2, 0)) (orows J.l).flatten := hsj2.rd (fun e he => by simp only [List.mem_singleton] at he; subst he; simp)
  rcases ho with rfl | ⟨hh, rfl⟩
  ·have := rd_sub h0 (lo := Dn * 3) (k := (J.l.length - Dn) * 3) (by rw [hfl]; omega)
   rw [flat_drop Dn (orows_all _), List.take_of_length_le (by rw [flat_len (fun x hx => orows_all J.l x (List.mem_of_mem_drop hx)), List.length_drop, orows_len]; exact Nat.le_refl _), Nat.zero_add] at this
   rw [show orows (J.l.drop Dn) = (orows J.l).drop Dn by simp [orows, List.map_drop]]
   exact this
  ·rw [List.drop_of_length_le (by omega)]
   exact rd_nil h0
 obtain ⟨v, S42, e42, a42, c42, L42, rfl, hs42, h42⟩ : Ok (evF E orcL (n + 4) (.fn 39) [.sl (some (.rw bl2, o)) (J.l.drop Dn).length c3'] S16) _ := cloneO_ok (n + 3) h16 rdT (by simp; omega)
 rw [List.length_drop] at e42
 rw [callL_of e42]
 have h42' : Hp X S42 (L' ++ (C bj (jrow (dev sb) (J.sup! { supT J lsn Dn with g := J.sup.g + 1 }) (some (.rw bl2, 0)) J.l.length jc2) :: L42 ++ F)) := (h42.re (M := C bl2 (orows J.l ++ js2).flatten :: C b11 (srowS (supT J lsn Dn)) :: (L' ++ (C bj (jrow (dev sb) (J.sup! { supT J lsn Dn with g := J.sup.g + 1 }) (some (.rw bl2, 0)) J.l.length jc2) :: L42 ++ F))) (by intro p; simp only [List.countP_append, List.countP_cons, List.countP_nil, List.cons_append, C]; omega)).drop1.drop1
 have hld : (J.l.drop Dn).length = J.l.length - Dn := List.length_drop
 refine ok_gO (ok_stn h42' (by simp [jrow]) (d := jrow (dev sb) { J with sup := { supT J lsn Dn with g := J.sup.g + 1 }, l := J.l.drop Dn } a42 (J.l.drop Dn).length c42) (by simp [splice, jrow, JM.sup!]) (fun S45 h45 => ?_))
 have hlast : evF E orcL (n + 4) (.fn 29) [.ptr (some (.rw bj, 0))] S45 = some (.int .u64 (lsn + (J.l.drop Dn).length), S45) := by
  apply ok_eq
  rw [F29 _ _ _ (oL rfl)]
  simp only [J29, b29_entry]
  refine ok_false rfl (ok_gO (ok_ldI h45 rfl (ok_gO (ok_ldL h45 rfl (ok_ret ⟨?_, rfl⟩)))))
  show AV.int .u64 (IntKind.wrap .u64 ((supT J lsn Dn).ls + IntKind.wrap .u64 (((J.l.drop Dn).length : Nat) : Int))) = _
  rw [f3, wu64 (n := (((J.l.drop Dn).length : Nat) : Int)) (by omega) (by omega), wu64 (by omega) (by omega)]
 rw [callI_of hlast]
 refine ok_gO (ok_stn h45 (by simp [jrow]) (d := jrow (dev sb) (trJ J t lsn) a42 (trJ J t lsn).l.length c42) (by rw [htr]; simp [splice, jrow]) (fun S49 h49 => ?_))
 refine ok_ret ⟨rfl, L', C bj (jrow (dev sb) (trJ J t lsn) a42 (trJ J t lsn).l.length c42) :: L42, by rw [hTT]; exact hb', hSI', ⟨a42, c42, L42, ?_, rfl⟩, h49⟩
 rw [htr]
 exact hs42
end
end Go.Jn.P
namespace Go.Jn.P
open Go.Gr Go.Jn
theorem rd_mem (t : St) {b : Nat} (h : b < t.s.length) : t.rd b ∈ t.s ∨ ∃ y, (y, t.rd b) ∈ t.q := by
 have lk : ∀ i, (∃ d, lkQ t.q b i = some d ∧ ∃ y, (y, d) ∈ t.q) ∨ lkQ t.q b i = none := by
  intro i
  induction i with
  | zero => exact .inr rfl
  | succ i ih =>
    simp only [lkQ]
    cases he : t.q[i]? with
    | none => exact ih
    | some e =>
      by_cases hb : e.1 = b
      ·simp only [hb, if_true]
       exact .inl ⟨e.2, rfl, e.1, List.mem_of_getElem? he⟩
      ·simp only [hb, if_false]; exact ih
 unfold St.rd
 rcases lk t.q.length with ⟨d, h1, y, h2⟩ | h1
 ·rw [h1]; exact .inr ⟨y, h2⟩
 ·rw [h1, List.getElem?_eq_getElem h]
  exact .inl (List.getElem_mem h)
structure CK (k : Nat) (x : List UInt8) : Prop where
 len : x.length = 384
 s : goodS x = true → (1 ≤ (decS x).g ∧ (decS x).g ≤ k) ∧ (1 ≤ (decS x).bo ∧ (decS x).bo ≤ k) ∧ (decS x).po ≤ 100 * k ∧ (decS x).ls ≤ k ∧ (decS x).ab ≤ k ∧ (decS x).as_ ≤ k
 e : goodE x = true → (decE x).bo ≤ k ∧ (decE x).se ≤ k ∧ (decE x).ls ≤ k ∧ (decE x).po ≤ 100 * k
theorem CK.up {k m : Nat} {x : List UInt8} (h : CK k x) (hm : k ≤ m) : CK m x := by
 refine ⟨h.len, fun hs => ?_, fun he => ?_⟩
 ·have := h.s hs; omega
 ·have := h.e he; omega
def SK (k : Nat) (t : St) : Prop := (∀ x ∈ t.s, CK k x) ∧ ∀ e ∈ t.q, CK k e.2
theorem SK.rd {k : Nat} {t : St} (h : SK k t) {b : Nat} (hb : b < t.s.length) : CK k (t.rd b) := by
 rcases rd_mem t hb with h1 | ⟨y, h1⟩
 ·exact h.1 _ h1
 ·exact h.2 _ h1
theorem SK.up {k m : Nat} {t : St} (h : SK k t) (hm : k ≤ m) : SK m t := ⟨fun x hx => (h.1 x hx).up hm, fun e he => (h.2 e he).up hm⟩
theorem SK.wS {k : Nat} {t : St} (h : SK k t) {x : Int} {p : List UInt8} (hp : CK k p) : SK k (wS t x p) := by
 unfold P.wS
 split
 ·exact h
 ·refine ⟨h.1, fun e he => ?_⟩
  rcases List.mem_append.1 he with he | he
  ·exact h.2 e he
  ·simp only [List.mem_singleton] at he
   subst he; exact hp
theorem flS_mem : ∀ (q : List (Int × List UInt8)) (s : List (List UInt8)) (x : List UInt8), x ∈ flS q s → x ∈ s ∨ ∃ y, (y, x) ∈ q
 | [], s, x, h => .inl h
 | e :: q, s, x, h => by
   rcases flS_mem q _ x h with h | ⟨y, h⟩
   ·rcases List.mem_or_eq_of_mem_set h with h | h
    ·exact .inl h
    ·subst h; exact .inr ⟨e.1, by simp⟩
   ·exact .inr ⟨y, by simp [h]⟩
theorem SK.fl {k : Nat} {t : St} (h : SK k t) : SK k t.fl := by
 refine ⟨fun x hx => ?_, fun e he => by cases he⟩
 rcases flS_mem _ _ _ hx with hx | ⟨y, hx⟩
 ·exact h.1 x hx
 ·exact h.2 _ hx
theorem good_head_s {x : List UInt8} (h : goodS x = true) : x.take 4 = jsup := by
 simp only [goodS, Bool.and_eq_true, decide_eq_true_eq, beq_iff_eq] at h
 rw [← h.2, encS]
 exact List.take_left (l₁ := jsup)
theorem good_head_e {x : List UInt8} (h : goodE x = true) : x.take 4 = jlog := by
 simp only [goodE, Bool.and_eq_true, decide_eq_true_eq, beq_iff_eq] at h
 rw [← h.2, encE, hdE, List.append_assoc]
 exact List.take_left (l₁ := jlog)
theorem CK.encS {k : Nat} {x : Su} (hx : ∀ y ∈ x.l, 0 ≤ y ∧ y ≤ 4611686018427387904) (h1 : 1 ≤ x.g ∧ x.g ≤ k) (h2 : 1 ≤ x.bo ∧ x.bo ≤ k) (h3 : x.po ≤ 100 * k) (h4 : x.ls ≤ k) (h5 : x.ab ≤ k) (h6 : x.as_ ≤ k) : CK k (encS x) := by
 have hok : okS x = true := by
  have : x.l.all mxB = true := by rw [List.all_eq_true]; intro y hy; simp [mxB]; exact (hx y hy).2
  simp only [okS, this, Bool.and_true, Bool.and_eq_true, bne_iff_ne, ne_eq]
  exact ⟨by omega, by omega⟩
 have hg := good_encS hok (fun y hy => ⟨(hx y hy).1, by have := (hx y hy).2; omega⟩)
 refine ⟨encS_len _, fun _ => ?_, fun he => ?_⟩
 ·rw [hg.2]; exact ⟨h1, h2, h3, h4, h5, h6⟩
 ·have e1 := good_head_e he
  have e2 := good_head_s hg.1
  rw [e1] at e2
  exact absurd e2 (by decide)
theorem CK.encE {k : Nat} {x : Le} (hok : okE x = true) (hB : LeB x) (h1 : x.bo ≤ k) (h2 : x.se ≤ k) (h3 : x.ls ≤ k) (h4 : x.po ≤ 100 * k) : CK k (encE x) := by
 have hg := good_enc hok hB
 refine ⟨encE_len ((okE_iff _).1 hok).2.2.2.2.2.2.2.2.2.2.2.2, fun hs => ?_, fun _ => ?_⟩
 ·have e1 := good_head_e hg.1
  have e2 := good_head_s hs
  rw [e1] at e2
  exact absurd e2 (by decide)
 ·rw [hg.2]; exact ⟨h1, h2, h3, h4⟩
theorem CK.zz {k : Nat} : CK k (zz 384) := by
 refine ⟨by simp, fun hs => ?_, fun he => ?_⟩
 ·exact absurd (good_head_s hs) (by decide)
 ·rw [good_zz] at he; cases he
def supA (t : St) (first : Nat) : Option Su :=
 if goodS (t.rd first) = true then (if goodS (t.rd (first + 1)) = true ∧ (decS (t.rd first)).g < (decS (t.rd (first + 1))).g then some (decS (t.rd (first + 1))) else some (decS (t.rd first)))
 else if goodS (t.rd (first + 1)) = true then some (decS (t.rd (first + 1))) else none
def enR (t : St) (J : JM) (p : Int) : Option Le := if goodE (t.rd (blkP J p)) = true ∧ (decE (t.rd (blkP J p))).po = p then some (decE (t.rd (blkP J p))) else none
def rdPs (t : St) (J : JM) (p : Int) (h : Le) : Nat → Nat → List UInt8 → Option (List UInt8)
 | 0, _, s => some s
 | r + 1, i, s => match enR t J (p + (i : Nat)) with
   | some x => if x.pa = (i : Nat) ∧ x.bo = h.bo ∧ x.se = h.se ∧ x.ls = h.ls ∧ x.ps = h.ps then rdPs t J p h r (i + 1) (s ++ x.by_) else none
   | none => none
def hdOk (J : JM) (h : Le) (lsn ab as_ room : Int) : Bool := decide (h.pa = 0) && decide (h.ls = lsn) && decide (h.bo ≤ J.sup.bo) && (decide (ab < h.bo) || (decide (h.bo = ab) && decide (as_ < h.se))) && decide (h.ps ≤ room)
def rdTx (t : St) (J : JM) (p lsn ab as_ room : Int) : Option (List Pt × One) := match enR t J p with
 | some h => if hdOk J h lsn ab as_ room = true then (match rdPs t J p h (h.ps.toNat - 1) 1 h.by_ with
  | some s => if goodT s = true then some (listT s, ⟨h.ps, h.bo, h.se⟩) else none
  | none => none) else none
 | none => none
def rdAll (t : St) : Nat → JM → Int → Int → Int → List (List Pt) → JM × List (List Pt)
 | 0, J, _, _, _, out => (J, out)
 | f + 1, J, p, ab, as_, out => match rdTx t J p (J.sup.ls + (J.l.length : Nat) + 1) ab as_ ((J.count : Int) - 2 - sumN J.l) with
   | some (tx, o) => rdAll t f { J with l := J.l ++ [o] } (p + o.need) o.bo o.se (out ++ [tx])
   | none => (J, out)
section
variable {X : Cx} {S : AS} {L F Lj Ls : List Ent} {b bj sb : Nat} {Q : AV → AS → Prop} {J : JM} {k : Nat} {t : St}
def jz (first count : Nat) (x : Su) : JM := ⟨first, count, x, [], 0, 0⟩
theorem rd_ok1 (n : Nat) (hn : 1000002 < n) {N K : Nat} (hSI : SI t N K) (hK : K ≤ 1000000) (hSK : SK k t) {x : Nat} {xi : Int} (hxi : xi = x) (hx : x < N) (hb : StB b t L) (h : Hp X S (L ++ F)) {K' : AV → AS → RV}
 (ht : ∀ (a : OP) (c : Cap) (L' : List Ent) (S' : AS), SlG a (t.rd x).length c 1 (bxs (t.rd x)) L' → Hp X S' (L' ++ (L ++ F)) → Ok (K' (.tup [.sl a (t.rd x).length c, .int .i64 0]) S') Q) : Ok (invV E (evF E orcL (n + 1)) (dev b) "Read" [.int .i64 xi] S K') Q :=
 ok_invRead n hn hxi (by rw [hSI.len]; exact hx) hb h (by have := hSI.q; omega) (by rw [(hSK.rd (by rw [hSI.len]; exact hx)).len]; decide) ht
end
end Go.Jn.P
namespace Go.Jn.P
open Go.Gr Go.Jn
section
variable {X : Cx} {S : AS} {L F Lj Ls : List Ent} {b bj sb : Nat} {Q : AV → AS → Prop} {J : JM} {k : Nat} {t : St}
def supF (t : St) (first : Nat) : Nat → Option Su
 | 0 => none
 | 1 => if goodS (t.rd first) = true then some (decS (t.rd first)) else none
 | _ => supA t first
abbrev sz : Su := ⟨0, 0, 0, 0, 0, 0⟩
theorem sup_step (n0 n : Nat) (hn : 1000010 < n) {N K first count : Nat} (hSI : SI t N K) (hK : K ≤ 1000000) (hSK : SK k t) (hf : first + 2 ≤ N) (hN : N ≤ 40) (hb : StB sb t Ls)
 (i : Nat) (hi : i < 2) (w2 : AV) (m : Nat)
 (ht : ∀ S', Hp X S' (Ls ++ (C bj (jrow (dev sb) (jz first count ((supF t first (i + 1)).getD sz)) none 0 (.ex 0)) :: F)) → Ok (J53_lZAS (evF E orcL (n + 4)) n0 m (some (.rw bj, 0)) .undef (supF t first (i + 1)).isSome (i + 1 : Nat) S') Q)
 (h : Hp X S (Ls ++ (C bj (jrow (dev sb) (jz first count ((supF t first i).getD sz)) none 0 (.ex 0)) :: F))) :
 Ok (J53_lZAS (evF E orcL (n + 4)) n0 (m + 1) (some (.rw bj, 0)) w2 (supF t first i).isSome i S) Q := by
 rw [J53_lZAS_succ]
 simp only [b53_lZAS]
 refine ok_true (by simp; omega) (ok_gO (ok_ldV h rfl (ok_gO (ok_ldI h rfl ?_))))
 rw [nilV_dev]
 rw [wn (x := ((jz first count ((supF t first i).getD sz)).first : Int) + (i : Nat)) (n := first + i) (by show (first : Int) + i = _; omega) (by omega)]
 refine rd_ok1 (n + 3) (by omega) hSI hK hSK (x := first + i) rfl (by omega) hb h (fun a1 c1 L1 S1 hs1 h1 => ?_)
 have hCK := hSK.rd (b := first + i) (by rw [hSI.len]; omega)
 refine ok_gT (ok_atL rfl (ok_atI rfl (ok_false rfl ?_)))
 obtain ⟨v, S2, e2, rfl, h2⟩ : Ok (evF E orcL (n + 4) (.fn 68) [.sl a1 (t.rd (first + i)).length c1] S1) _ := getS_ok n (by omega) h1 (slG_vw hs1 (fun e he => by simp [he]))
 rw [callT_of e2]
 refine ok_atG rfl rfl (ok_atI rfl (ok_newA h2 (fun b3 S3 h3 => ok_ifO rfl (ok_stn h3 (by simp [srowS, Su.l]) (d := srowS (getS (t.rd (first + i)))) (by simp [splice, srowS, Su.l]) (fun S4 h4 => ?_)))))
 have jump : ∀ (S5 : AS) (x : Su) (f : Bool), x = (supF t first (i + 1)).getD sz → f = (supF t first (i + 1)).isSome → Hp X S5 (C b3 (srowS (getS (t.rd (first + i)))) :: (L1 ++ (Ls ++ (C bj (jrow (dev sb) (jz first count x) none 0 (.ex 0)) :: F)))) → Ok (J53_jZAE (evF E orcL (n + 4)) n0 (J53_lZAS (evF E orcL (n + 4)) n0 m) (some (.rw bj, 0)) f i S5) Q := by
  intro S5 x f hx hf h5
  subst hx; subst hf
  simp only [J53_jZAE, b53_jZAE]
  rw [wn (x := (i : Int) + 1) (n := i + 1) (by omega) (by omega)]
  exact ht S5 h5.drop1.right
 have put : ∀ (S : AS), goodS (t.rd (first + i)) = true → supF t first (i + 1) = some (decS (t.rd (first + i))) → Hp X S (C b3 (srowS (getS (t.rd (first + i)))) :: (L1 ++ (Ls ++ (C bj (jrow (dev sb) (jz first count ((supF t first i).getD sz)) none 0 (.ex 0)) :: F)))) →
  Ok (S.ldn (.rw b3) 0 6 fun g18 => gO (some (Bid.rw bj, 0)) fun p19 => ifO (g18.length = 6) <| S.stn p19.1 (p19.2 + 3) g18 fun S20 => J53_jZAE (evF E orcL (n + 4)) n0 (J53_lZAS (evF E orcL (n + 4)) n0 m) (some (.rw bj, 0)) true i S20) Q := by
  intro S hg he h
  have hgs : getS (t.rd (first + i)) = decS (t.rd (first + i)) := by simp [getS, hg]
  refine ok_ldn h (by simp [srowS, Su.l]) (d := srowS (getS (t.rd (first + i)))) (by simp [srowS, Su.l]) (ok_gO (ok_ifO rfl (ok_stn h (by simp [jrow, srowS, Su.l]) (d := jrow (dev sb) (jz first count (decS (t.rd (first + i)))) none 0 (.ex 0)) (by rw [hgs]; simp [splice, jrow, jz, srowS, Su.l]) (fun S5 h5 => jump S5 _ true (by rw [he]; rfl) (by rw [he]; rfl) h5))))
 refine ok_cond (fun cg => ?_) (fun cg => ?_)
 ·have hg : goodS (t.rd (first + i)) = true := by
   cases hg : goodS (t.rd (first + i)) with
   | true => rfl
   | false => rw [getSe, if_neg (by simp [hg])] at cg; exact absurd cg (by decide)
  have hgs : getS (t.rd (first + i)) = decS (t.rd (first + i)) := by simp [getS, hg]
  refine ok_cond (fun c2 => ?_) (fun c2 => ?_)
  ·have hn : (supF t first i).isSome = false := by simpa using c2
   refine put S4 hg ?_ h4
   match i, hi with
   | 0, _ => simp only [supF, Nat.add_zero] at hg ⊢; rw [if_pos hg]
   | 1, _ =>
     simp only [supF] at hn
     have : goodS (t.rd first) = false := by
      cases hg0 : goodS (t.rd first) with
      | false => rfl
      | true => rw [if_pos hg0] at hn; cases hn
     show supA t first = _
     rw [supA, if_neg (by simp [this]), if_pos hg]
  ·have hn : (supF t first i).isSome = true := by simpa using c2
   match i, hi with
   | 0, _ => simp [supF] at hn
   | 1, _ =>
     have hg0 : goodS (t.rd first) = true := by
      simp only [supF] at hn
      cases hg0 : goodS (t.rd first) with
      | true => rfl
      | false => rw [if_neg (by simp [hg0])] at hn; cases hn
     have e1 : supF t first 1 = some (decS (t.rd first)) := by simp only [supF]; rw [if_pos hg0]
     refine ok_ldI h4 rfl (ok_gO (ok_ldI h4 rfl (ok_cond (fun c3 => ?_) (fun c3 => ?_))))
     ·simp only [gt_iff_lt, decide_eq_true_eq] at c3
      rw [hgs] at c3
      have c4 : (decS (t.rd first)).g < (decS (t.rd (first + 1))).g := by rw [e1] at c3; exact c3
      refine put S4 hg ?_ h4
      show supA t first = _
      rw [supA, if_pos hg0, if_pos ⟨hg, c4⟩]
     ·simp only [gt_iff_lt, decide_eq_false_iff_not] at c3
      rw [hgs] at c3
      have c4 : ¬ (decS (t.rd first)).g < (decS (t.rd (first + 1))).g := by rw [e1] at c3; exact c3
      have e2 : supF t first (1 + 1) = supF t first 1 := by
       rw [e1]
       show supA t first = _
       rw [supA, if_pos hg0, if_neg (fun h => c4 h.2)]
      exact jump S4 _ _ (by rw [e2]) (by rw [e2]) h4
 ·have hg : goodS (t.rd (first + i)) = false := by
   cases hg : goodS (t.rd (first + i)) with
   | false => rfl
   | true => rw [getSe, if_pos hg] at cg; exact absurd cg (by decide)
  have e2 : supF t first (i + 1) = supF t first i := by
   match i, hi with
   | 0, _ => simp only [supF, Nat.add_zero] at hg ⊢; rw [if_neg (by simp [hg])]
   | 1, _ =>
     show supA t first = supF t first 1
     simp only [supF]
     rw [supA, if_neg (show ¬ goodS (t.rd (first + 1)) = true by simp [hg])]
     by_cases h0 : goodS (t.rd first) = true
     ·rw [if_pos h0, if_pos h0, if_neg (fun h => by rw [hg] at h; cases h.1)]
     ·rw [if_neg h0, if_neg h0]
  exact jump S4 _ _ (by rw [e2]) (by rw [e2]) h4
theorem supered_ok (n : Nat) (hn : 1000010 < n) {N K first count : Nat} (hSI : SI t N K) (hK : K ≤ 1000000) (hSK : SK k t) (hf : first + 2 ≤ N) (hN : N ≤ 40) (hb : StB sb t Ls) (h : Hp X S (Ls ++ (C bj (jrow (dev sb) (jz first count sz) none 0 (.ex 0)) :: F))) :
 Ok (ev (n + 5) (.fn 53) [.ptr (some (.rw bj, 0))] S) fun v S' => v = .int .i64 (if (supA t first).isSome = true then 0 else 80) ∧ Hp X S' (Ls ++ (C bj (jrow (dev sb) (jz first count ((supA t first).getD sz)) none 0 (.ex 0)) :: F)) := by
 rw [ev, F53 _ _ _ (oL rfl)]
 simp only [J53, b53_entry]
 refine sup_step (n + 4) n hn hSI hK hSK hf hN hb 0 (by omega) _ (n + 3) (fun S1 h1 => ?_) h
 refine sup_step (n + 4) n hn hSI hK hSK hf hN hb 1 (by omega) _ (n + 2) (fun S2 h2 => ?_) h1
 rw [J53_lZAS_succ]
 simp only [b53_lZAS]
 refine ok_false (by decide) ?_
 simp only [J53_jZAF, b53_jZAF]
 have e : supF t first (1 + 1) = supA t first := rfl
 rw [e] at h2 ⊢
 refine ok_cond (fun c => ?_) (fun c => ?_)
 ·have : (supA t first).isSome = false := by simpa using c
  exact ok_ret ⟨by rw [this]; rfl, h2⟩
 ·have : (supA t first).isSome = true := by simpa using c
  exact ok_ret ⟨by rw [this]; rfl, h2⟩
end
end Go.Jn.P
