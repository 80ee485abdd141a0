/- Rows of operations in the order of the text; code. -/
import Derived.Test.YtcepfilbiahdjaaGrCode1
set_option linter.unusedVariables false
set_option linter.unusedSimpArgs false
set_option linter.unusedSectionVars false
namespace Go.Gr
theorem exists_least (p : Nat → Prop) (h : ∃ n, p n) : ∃ n, p n ∧ ∀ k, p k → n ≤ k := by
 obtain ⟨n, hn⟩ := h
 induction n using Nat.strongRecOn with
 | _ n ih =>
   by_cases hx : ∃ k, k < n ∧ p k
   ·obtain ⟨k, hk, hp⟩ := hx
    exact ih k hk hp
   ·refine ⟨n, hn, fun k hk => ?_⟩
    rcases Nat.lt_or_ge k n with h | h
    ·exact absurd ⟨k, h, hk⟩ hx
    ·exact h
open Classical in
noncomputable def least (p : Nat → Prop) : Nat := if h : ∃ n, p n then Classical.choose (exists_least p h) else 0
theorem least_spec {p : Nat → Prop} {n : Nat} (h : p n) : p (least p) ∧ least p ≤ n := by
 have hx : ∃ n, p n := ⟨n, h⟩
 unfold least
 rw [dif_pos hx]
 have := Classical.choose_spec (exists_least p hx)
 exact ⟨this.1, this.2 n h⟩
def Marks (w0 w : World) (ds : List Deferred) : Prop :=
 ∃ rs : List Nat, ds = rs.map (fun r => { target := .collected r, args := #[] }) ∧ rs.Nodup ∧ ∀ r ∈ rs, w0.heap.size ≤ r ∧ w.heap[r]? = some (.deferred (some []))
theorem not_img {w0 : World} {j : J} {S : AS} {w : World} (h : R w0 j S w) {c : Nat} {o : Obj} (ho : w.heap[c]? = some o) (h1 : ∀ C e fr, o ≠ .cells C e fr) (h2 : ∀ m k, o ≠ .map m k) (h3 : ∀ l, o ≠ .loop l) : ¬ Img j S c := by
 rintro ⟨n, x, hn, hx, rfl⟩
 rcases hn with ⟨p, hp⟩ | ⟨L, hL, rfl⟩
 ·obtain ⟨_, y, hy, _, hr⟩ := h.rw n p hp
  rw [hx] at hy; cases hy
  cases p with
  | cells cs => obtain ⟨⟨C, e', fr, hc, _⟩, _⟩ := hr; rw [hc] at ho; cases ho; exact h1 _ _ _ rfl
  | map kk es => obtain ⟨ms, clk, hc, _⟩ := hr; rw [hc] at ho; cases ho; exact h2 _ _ rfl
 ·obtain ⟨_, y, hy, _, tm, d, pend, fn, hc, _⟩ := h.lp L hL
  rw [hx] at hy; cases hy
  rw [hc] at ho; cases ho; exact h3 _ rfl
theorem Marks.keep {w0 ws : World} {j j' : J} {S S' : AS} {w w' : World} {ds : List Deferred} (hR : R w0 j S w) (hg : Good w0 j S w j' S' w') (h : Marks ws w ds) : Marks ws w' ds := by
 obtain ⟨rs, h1, h2, h3⟩ := h
 refine ⟨rs, h1, h2, fun r hr => ?_⟩
 obtain ⟨h4, h5⟩ := h3 r hr
 refine ⟨h4, ?_⟩
 rw [hg.fr r (Array.getElem?_eq_some_iff.1 h5).1 (not_img hR h5 nofun nofun nofun)]
 exact h5
def RdOk (j : J) (S : AS) (rd : Option Nat) : Prop := ∀ l, rd = some l → ∃ L ∈ S.loops, ∃ x, j (.rw L.id) = some x ∧ x.c = l
theorem RdOk.keep {w0 : World} {j j' : J} {S S' : AS} {w w' : World} {rd : Option Nat} (hg : Good w0 j S w j' S' w') (hl : Lids S S') (h : RdOk j S rd) : RdOk j' S' rd := by
 intro l hl'
 obtain ⟨L, hL, x, hx, hc⟩ := h l hl'
 have : L.id ∈ S'.loops.map (·.id) := by rw [hl]; exact List.mem_map.2 ⟨L, hL, rfl⟩
 obtain ⟨L', h1, h2⟩ := List.mem_map.1 this
 exact ⟨L', h1, x, by rw [h2]; exact hg.le _ _ hx, hc⟩
def CPost {β : Type} (r : β) (w0 ws : World) (rd : Option Nat) (j : J) (S : AS) (w : World) (sz : Nat) (K : Exit → Tm → AS → Option β) : Exit → Act → World → Prop := fun e a' w' =>
 (e = .normal ∨ e = .ret ∨ ∃ i, e = .exit i) ∧ ∃ T' S' j', K e T' S' = some r ∧ Good w0 j S w j' S' w' ∧ TR j' T' a'.tmps ∧ a'.tmps.size = sz ∧ Marks ws w' a'.defers ∧ Lids S S' ∧ (rd.isSome = true → a'.defers = [])
theorem CPost.later {β : Type} {r : β} {w0 ws : World} {rd : Option Nat} {j j1 : J} {S S1 : AS} {w w1 : World} {sz : Nat} {K : Exit → Tm → AS → Option β} (hg : Good w0 j S w j1 S1 w1) (hl : Lids S S1) {e : Exit} {a' : Act} {w' : World} (h : CPost r w0 ws rd j1 S1 w1 sz K e a' w') : CPost r w0 ws rd j S w sz K e a' w' := by
 obtain ⟨h1, T', S', j', h2, h3, h4, h5, h6, h7, h8⟩ := h
 exact ⟨h1, T', S', j', h2, hg.trans h3, h4, h5, h6, h7.trans hl, h8⟩
section
variable {E : Env} {P : Program} (hE : EnvOk E P) {call : CallA} (hC : CallOk P call) {w0 : World} {β : Type} {r : β}
include hE hC
theorem evOps_sound {ops : Array Oper} {rd : Option Nat} {n : Nat} {Q : Exit → Act → World → Prop} {sz : Nat} (hwf : ∀ o ∈ ops.toList, wfOp sz o = true) {K : Tm → AS → Option β} :
 ∀ (rem : List Oper) (k : Nat), rem = ops.toList.drop k → ∀ (T : Tm) (S : AS) (a : Act) (w : World) (j : J), R w0 j S w → TR j T a.tmps → a.tmps.size = sz → evOps E call ops rem T S K = some r →
   (∀ T' S' a' w' j', K T' S' = some r → Good w0 j S w j' S' w' → TR j' T' a'.tmps → a'.tmps.size = sz → a'.defers = a.defers → Lids S S' → Q .normal a' w') →
   wpOpsIn (Fw rd) n P ops Q (List.range' k rem.length) a w
 | [], k, hk, T, S, a, w, j, hR, hT, hs, h, hQ => by
   simp only [List.length_nil, List.range'_zero, wpOpsIn]
   exact hQ T S a w j h (Good.refl hR) hT hs rfl rfl
 | o :: rem, k, hk, T, S, a, w, j, hR, hT, hs, h, hQ => by
   have hlt : k < ops.toList.length := by
    rcases Nat.lt_or_ge k ops.toList.length with h | h
    ·exact h
    ·rw [List.drop_eq_nil_of_le h] at hk; cases hk
   rw [List.drop_eq_getElem_cons hlt] at hk
   simp only [List.cons.injEq] at hk
   obtain ⟨ho, hrem⟩ := hk
   have hget : ops[k]? = some o := by
    rw [ho]; simp at hlt ⊢
   have hmem : o ∈ ops.toList := by rw [ho]; exact List.getElem_mem hlt
   have hw := hwf o hmem
   simp only [List.length_cons, List.range'_succ]
   rw [wpOpsIn_cons]
   unfold wpOpIn
   simp only [hget]
   simp only [evOps] at h
   rcases gdA_sound hT h with ⟨h1, T1, hT1, h2⟩ | ⟨h1, T1, hT1, h2⟩
   ·rw [if_pos h1]
    refine ev1_sound hE hC hR hT1 h2 (by rw [hs]; exact hw) (fun av S' v w' j' hK hg hv hl => ?_)
    have hT2 := TR.put (hT1.mono hg.le) (by rw [hs]; exact hw) hv
    exact evOps_sound hwf rem (k + 1) hrem _ S' _ w' j' hg.rel hT2 (by rw [put_size]; exact hs) hK (fun T2 S2 a2 w2 j2 q1 q2 q3 q4 q5 q6 => hQ T2 S2 a2 w2 j2 q1 (hg.trans q2) q3 q4 (by rw [q5, put_defers]) (q6.trans hl))
   ·rw [if_neg (by rw [h1]; simp)]
    refine ⟨fun _ _ => trivial, ?_⟩
    have hT2 := TR.put hT1 (by rw [hs]; exact hw) (vr_skip j)
    exact evOps_sound hwf rem (k + 1) hrem _ S _ w j hR hT2 (by rw [put_size]; exact hs) h2 (fun T2 S2 a2 w2 j2 q1 q2 q3 q4 q5 q6 => hQ T2 S2 a2 w2 j2 q1 q2 q3 q4 (by rw [q5, put_defers]) q6)
end
theorem mask_tr {j : J} {T : Tm} {tm : Array Value} (h : TR j T tm) (ids : List Nat) : TR j (mask ids T) tm := by
 intro t
 have key : look (mask ids T) t = look T t ∨ look (mask ids T) t = .undef := by
  unfold mask
  induction ids with
  | nil => exact .inr rfl
  | cons i ids ih =>
    simp only [List.map_cons, look]
    cases hb : Nat.beq i t with
    | true => exact .inl (by rw [Nat.eq_of_beq_eq_true hb]; rfl)
    | false => simpa using ih
 rcases key with hk | hk
 ·rw [hk]; exact h t
 ·rw [hk]; exact ⟨by simp [VR], fun hn => absurd rfl hn, (h t).2.2⟩
theorem refine_tr {j : J} {T : Tm} {a : Act} (h : TR j T a.tmps) (c : Operand) (b : Bool) (hc : a.eval c = .bool b) (hu : evalO T c ≠ .undef) : TR j (refine T c b) a.tmps := by
 unfold refine
 split
 ·rename_i t
  have hlt := (h t).2.1 hu
  refine h.again ?_ hlt
  simp only [VR]; exact hc
 ·exact h
def DrawOk (E : Env) (P : Program) (call : CallA) : Prop :=
 ∀ {β : Type} (r : β) (w0 : World) (ops : Array Oper) (rd : Option Nat) (n : Nat) (Q : Exit → Act → World → Prop) (sz : Nat) (K : Tm → AS → Option β) (T : Tm) (S : AS) (a : Act) (w : World) (j : J) (id : Nat),
   (∀ o ∈ ops.toList, wfOp sz o = true) → R w0 j S w → TR j T a.tmps → a.tmps.size = sz → drawOk E ops (Region.before ops) = true →
   evDraw E call ops S.next (Region.before ops) ops.toList 0 T (cond (hasNew E ops) { S with next := S.next + ops.size } S) [] [] [] K = some r →
   (∀ T' S' a' w' j', K T' S' = some r → Good w0 j S w j' S' w' → TR j' T' a'.tmps → a'.tmps.size = sz → a'.defers = a.defers → Lids S S' → Q .normal a' w') →
   (Code.region id ops true).wpIn (Fw rd) n P Q a w
section
variable {E : Env} {P : Program} (hE : EnvOk E P) {call : CallA} (hC : CallOk P call) (hD : DrawOk E P call) {w0 : World} {β : Type} {r : β}
include hE hC hD
theorem evC_sound {ws : World} (hws : w0.heap.size ≤ ws.heap.size) (nf : Nat) (f : FuncId) : ∀ (c : Code) (cur : Nat) (T : Tm) (S : AS) (K : Exit → Tm → AS → Option β) (a : Act) (w : World) (j : J) (rd : Option Nat) (n : Nat),
 evC E call nf f c cur T S K = some r → R w0 j S w → ws.heap.size ≤ w.heap.size → TR j T a.tmps → wfC a.tmps.size c = true → Marks ws w a.defers → RdOk j S rd → (rd.isSome = true → a.defers = []) →
 c.wpIn (Fw rd) n P (CPost r w0 ws rd j S w a.tmps.size K) a w := by
 intro c
 induction c with
 | skip =>
   intro cur T S K a w j rd n h hR hsz hT hwf hM hrd hd
   exact wpIn_skip ⟨.inl rfl, T, S, j, h, Good.refl hR, hT, rfl, hM, rfl, hd⟩
 | label l =>
   intro cur T S K a w j rd n h hR hsz hT hwf hM hrd hd
   exact wpIn_label ⟨.inl rfl, T, S, j, h, Good.refl hR, hT, rfl, hM, rfl, hd⟩
 | exit i =>
   intro cur T S K a w j rd n h hR hsz hT hwf hM hrd hd
   exact wpIn_exit ⟨.inr (.inr ⟨i, rfl⟩), T, S, j, h, Good.refl hR, hT, rfl, hM, rfl, hd⟩
 | ret =>
   intro cur T S K a w j rd n h hR hsz hT hwf hM hrd hd
   exact wpIn_ret ⟨.inr (.inl rfl), T, S, j, h, Good.refl hR, hT, rfl, hM, rfl, hd⟩
 | region id ops draw =>
   intro cur T S K a w j rd n h hR hsz hT hwf hM hrd hd
   simp only [evC] at h
   have hT0 : TR j (match E.cut f id with | some ids => mask ids T | none => T) a.tmps := by
    split
    ·exact mask_tr hT _
    ·exact hT
   have hwf' : ∀ o ∈ ops.toList, wfOp a.tmps.size o = true := by
    simp only [wfC, wfOps] at hwf
    exact fun o ho => List.all_eq_true.1 hwf o ho
   have hfin : ∀ T' S' a' w' j', K .normal T' S' = some r → Good w0 j S w j' S' w' → TR j' T' a'.tmps → a'.tmps.size = a.tmps.size → a'.defers = a.defers → Lids S S' → CPost r w0 ws rd j S w a.tmps.size K .normal a' w' :=
    fun T' S' a' w' j' q1 q2 q3 q4 q5 q6 => ⟨.inl rfl, T', S', j', q1, q2, q3, q4, by rw [q5]; exact hM.keep hR q2, q6, fun hr => by rw [q5]; exact hd hr⟩
   cases draw with
   | true =>
     simp only [cond_true] at h
     obtain ⟨h1, h2⟩ := cond_inv h
     exact hD r w0 ops rd n _ a.tmps.size _ _ S a w j id hwf' hR hT0 rfl h1 h2 hfin
   | false =>
     simp only [cond_false] at h
     refine wpIn_region ?_
     have := evOps_sound (n := n) (rd := rd) hE hC hwf' ops.toList 0 rfl _ S a w j hR hT0 rfl h hfin
     rw [List.range_eq_range']
     simpa using this
 | seq x y ihx ihy =>
   intro cur T S K a w j rd n h hR hsz hT hwf hM hrd hd
   simp only [evC] at h
   simp only [wfC, Bool.and_eq_true] at hwf
   refine wpIn_seq (wpIn_mono (ihx cur T S _ a w j rd n h hR hsz hT hwf.1 hM hrd hd) ?_)
   rintro e a1 w1 ⟨he, T1, S1, j1, h1, h2, h3, h4, h5, h6, h7⟩
   rcases he with rfl | rfl | ⟨i, rfl⟩
   ·simp only at h1
    show Code.wpIn _ _ _ _ _ _ _
    refine wpIn_mono (ihy cur T1 S1 K a1 w1 j1 rd n h1 h2.rel (by have := h2.size; omega) h3 (by rw [h4]; exact hwf.2) h5 (hrd.keep h2 h6) h7) ?_
    intro e a2 w2 hp
    rw [h4] at hp
    exact hp.later h2 h6
   ·exact ⟨.inr (.inl rfl), T1, S1, j1, h1, h2, h3, h4, h5, h6, h7⟩
   ·exact ⟨.inr (.inr ⟨i, rfl⟩), T1, S1, j1, h1, h2, h3, h4, h5, h6, h7⟩
 | cond c x y ihx ihy =>
   intro cur T S K a w j rd n h hR hsz hT hwf hM hrd hd
   simp only [evC] at h
   simp only [wfC, Bool.and_eq_true] at hwf
   obtain ⟨b, hb, h⟩ := gB_inv h
   have hc := evalO_vr hT c
   rw [hb] at hc
   simp only [VR] at hc
   have hrt := refine_tr hT c b hc (by rw [hb]; simp)
   cases b with
   | true => exact wpIn_cond_true hc (ihx cur _ S K a w j rd n h hR hsz hrt hwf.1 hM hrd hd)
   | false => exact wpIn_cond_false hc (ihy cur _ S K a w j rd n h hR hsz hrt hwf.2 hM hrd hd)
 | block id c ih =>
   intro cur T S K a w j rd n h hR hsz hT hwf hM hrd hd
   simp only [evC] at h
   simp only [wfC] at hwf
   refine wpIn_block (wpIn_mono (ih id T S _ a w j rd n h hR hsz hT hwf hM hrd hd) ?_)
   rintro e a1 w1 ⟨he, T1, S1, j1, h1, h2⟩
   rcases he with rfl | rfl | ⟨i, rfl⟩
   ·exact ⟨.inl rfl, T1, S1, j1, h1, h2⟩
   ·exact ⟨.inr (.inl rfl), T1, S1, j1, h1, h2⟩
   ·simp only at h1
    show (if i = id then _ else _)
    cases hb : Nat.beq i id with
    | true =>
      rw [hb] at h1
      rw [if_pos (Nat.eq_of_beq_eq_true hb)]
      exact ⟨.inl rfl, T1, S1, j1, h1, h2⟩
    | false =>
      rw [hb] at h1
      rw [if_neg (Nat.ne_of_beq_eq_false hb)]
      exact ⟨.inr (.inr ⟨i, rfl⟩), T1, S1, j1, h1, h2⟩
 | loop body ih =>
   intro cur T S K a w j rd n h hR hsz hT hwf hM hrd hd
   simp only [evC] at h
   simp only [wfC] at hwf
   let Inv : Act → World → Nat → Prop := fun a1 w1 m => ∃ T1 S1 j1, loopN (evC E call nf f body cur) (E.lcut f cur) m T1 S1 K = some r ∧ Good w0 j S w j1 S1 w1 ∧ TR j1 T1 a1.tmps ∧ a1.tmps.size = a.tmps.size ∧ Marks ws w1 a1.defers ∧ Lids S S1 ∧ (rd.isSome = true → a1.defers = [])
   refine wpIn_loop (fun a1 w1 => ∃ m, Inv a1 w1 m) (fun a1 w1 => least (Inv a1 w1)) ⟨nf, _, S, j, h, Good.refl hR, mask_tr hT _, rfl, hM, rfl, hd⟩ ?_
   rintro a1 w1 ⟨m0, hm0⟩
   obtain ⟨hm, _⟩ := least_spec hm0
   generalize hmm : least (Inv a1 w1) = m at hm
   obtain ⟨T1, S1, j1, h1, h2, h3, h4, h5, h6, h7⟩ := hm
   cases m with
   | zero => simp [loopN] at h1
   | succ m =>
     simp only [loopN] at h1
     refine wpIn_mono (ih cur T1 S1 _ a1 w1 j1 rd n h1 h2.rel (by have := h2.size; omega) h3 (by rw [h4]; exact hwf) h5 (hrd.keep h2 h6) h7) ?_
     rintro e a2 w2 ⟨he, T2, S2, j2, q1, q2, q3, q4, q5, q6, q7⟩
     rcases he with rfl | rfl | ⟨i, rfl⟩
     ·have hinv : Inv a2 w2 m := ⟨_, S2, j2, q1, h2.trans q2, mask_tr q3 _, by rw [q4, h4], q5, q6.trans h6, q7⟩
      refine ⟨⟨m, hinv⟩, ?_⟩
      have := (least_spec hinv).2
      omega
     ·exact ⟨.inr (.inl rfl), _, S2, j2, q1, h2.trans q2, mask_tr q3 _, by rw [q4, h4], q5, q6.trans h6, q7⟩
     ·exact ⟨.inr (.inr ⟨i, rfl⟩), _, S2, j2, q1, h2.trans q2, mask_tr q3 _, by rw [q4, h4], q5, q6.trans h6, q7⟩
 | rangeFunc g ps assign body iha ihb =>
   intro cur T S K a w j rd n h hR hsz hT hwf hM hrd hd
   simp only [evC] at h
   simp only [wfC, Bool.and_eq_true] at hwf
   obtain ⟨⟨hwp, hwa⟩, hwb⟩ := hwf
   split at h
   case h_2 => cases h
   rename_i fh fa fb hg
   have hgv := evalO_vr hT g
   rw [hg] at hgv
   simp only [VR] at hgv
   obtain ⟨A, B, hgv, hA, hB⟩ := hgv
   refine wpIn_rangeFunc fun fn _ => ?_
   have henter : ∃ l mark w₁ d, (Instr.enterLoop fn a.tmps ps assign body (Fw rd).round).run P w = .ok (l, mark) w₁ ∧ w.heap.size ≤ l ∧ w.heap.size ≤ w₁.heap.size ∧ (w₁.os = w.os ∧ w₁.output = w.output ∧ w₁.tape = w.tape) ∧ (∀ c, c < w.heap.size → w₁.heap[c]? = w.heap[c]?) ∧
    w₁.heap[l]? = some (.loop { state := .ready, pending := none, fn := fn, tmps := a.tmps, params := ps, assign := assign, body := body, defers := d }) ∧ Marks ws w₁ (mark ++ a.defers) ∧ (rd.isSome = true → mark = []) := by
    cases rd with
    | none =>
      refine ⟨w.heap.size + 1, [{ target := .collected w.heap.size, args := #[] }], { w with heap := (w.heap.push (.deferred (some []))).push (.loop { state := .ready, pending := none, fn := fn, tmps := a.tmps, params := ps, assign := assign, body := body, defers := w.heap.size }) }, w.heap.size, ?_, by omega, by simp; omega, ⟨rfl, rfl, rfl⟩, fun c hc => ?_, by rw [Array.getElem?_push, if_pos (by simp)], ?_, by simp⟩
      ·simp [Instr.enterLoop, Fw, Fence.wide]; rfl
      ·rw [Array.getElem?_push, if_neg (by simp; omega), Array.getElem?_push, if_neg (by omega)]
      ·obtain ⟨rs, h1, h2, h3⟩ := hM
       refine ⟨w.heap.size :: rs, by simp [h1], ?_, ?_⟩
       ·refine List.nodup_cons.2 ⟨fun hm => ?_, h2⟩
        have := (Array.getElem?_eq_some_iff.1 (h3 _ hm).2).1
        omega
       ·intro q hq
        rcases List.mem_cons.1 hq with rfl | hq
        ·refine ⟨hsz, ?_⟩
         rw [Array.getElem?_push, if_neg (by simp), Array.getElem?_push, if_pos rfl]
        ·obtain ⟨h4, h5⟩ := h3 q hq
         have hlt := (Array.getElem?_eq_some_iff.1 h5).1
         refine ⟨h4, ?_⟩
         rw [Array.getElem?_push, if_neg (by simp; omega), Array.getElem?_push, if_neg (by omega)]
         exact h5
    | some l0 =>
      obtain ⟨L, hL, x, hx, hxc⟩ := hrd l0 rfl
      obtain ⟨_, y, hy, _, tm, d, pend, fn', hrec, _⟩ := hR.lp L hL
      rw [hx] at hy; cases hy
      rw [hxc] at hrec
      have hlt := (Array.getElem?_eq_some_iff.1 hrec).1
      refine ⟨w.heap.size, [], { w with heap := w.heap.push (.loop { state := .ready, pending := none, fn := fn, tmps := a.tmps, params := ps, assign := assign, body := body, defers := d }) }, d, ?_, by omega, by simp, ⟨rfl, rfl, rfl⟩, fun c hc => ?_, by simp, ?_, by simp⟩
      ·simp [Instr.enterLoop, Fw, Fence.wide, Instr.getLoop, getObj, Sem.run, hrec]
      ·rw [Array.getElem?_push, if_neg (by omega)]
      ·obtain ⟨rs, h1, h2, h3⟩ := hM
       refine ⟨rs, by simp [h1], h2, fun q hq => ?_⟩
       obtain ⟨h4, h5⟩ := h3 q hq
       have hlt := (Array.getElem?_eq_some_iff.1 h5).1
       exact ⟨h4, by rw [Array.getElem?_push, if_neg (by omega)]; exact h5⟩
   obtain ⟨l, mark, w₁, dd, hrun, hlc, hsz1, henv1, hh, hrec, hM1, hmk⟩ := henter
   cases hcall : call (.fn fh) (fa ++ (.yld S.next :: fb)) { S with next := S.next + 1, loops := { id := S.next, fn := f, T, params := ps.toList, assign, body, st := .ready, pend := none } :: S.loops } with
   | none => rw [hcall] at h; cases h
   | some res =>
     rw [hcall] at h
     simp only [Option.bind_some] at h
     have hfr := hR.fresh S.next (Nat.le_refl _)
     have hle1 := J.le_upd (j := j) (n := S.next) ⟨l, 0, 0⟩ hfr
     have hpush := R.pushLoop hR (L := { id := S.next, fn := f, T, params := ps.toList, assign, body, st := .ready, pend := none }) (x := ⟨l, 0, 0⟩) (w' := w₁) rfl hlc hsz1 henv1 hh
      ⟨a.tmps, dd, none, fn, by simpa [LSt.conc] using hrec, rfl, hT.mono hle1, hwa, hwb, fun p hp => by
       have := List.all_eq_true.1 hwp p (by simpa using hp)
       exact Nat.le_of_ble_eq_true this⟩
     have hvs : VRs (J.upd j S.next ⟨l, 0, 0⟩) (fa ++ (.yld S.next :: fb)) ((A ++ #[Value.func (.yield l) #[] #[]]) ++ B).toList := by
      have h1 : VRs (J.upd j S.next ⟨l, 0, 0⟩) (.yld S.next :: fb) (Value.func (.yield l) #[] #[] :: B.toList) := by
       simp only [VRs, VR]
       exact ⟨_, _, rfl, ⟨_, J.upd_same _ _ _, rfl⟩, VRs.mono hle1 _ _ hB⟩
      have := VRs.append (VRs.mono hle1 _ _ hA) h1
      simpa using this
     obtain ⟨hfn, hcl⟩ := hC _ _ _ _ hcall w0 _ w₁ ((A ++ #[Value.func (.yield l) #[] #[]]) ++ B) hpush.rel hvs
     refine ⟨l, mark, w₁, { target := .fn (.func fh) B, args := A ++ #[Value.func (.yield l) #[] #[]] }, w₁, fh, (A ++ #[Value.func (.yield l) #[] #[]]) ++ B, w₁, hrun, ?_, fun _ _ => trivial, ?_, fun hd => by simp [Fw, Fence.wide] at hd, ?_⟩
     ·simp only [resolve, rangeCall]
      rw [hgv]
      simp [Deferred.ofValue, Act.eval]
     ·exact callFunc_run hE hC hpush.rel hfn
     ·have hcl' : CallsIn (Fw rd) (n - 1) P fh ((A ++ #[Value.func (.yield l) #[] #[]]) ++ B) w₁ _ := hcl (n - 1)
      refine hcl'.mono ?_
      rintro e w3 ⟨v, j3, rfl, hv, hgd, hlid⟩
      split at h
      case h_2 => cases h
      rename_i L ls hls
      obtain ⟨hid, h⟩ := cond_inv h
      have hid' : L.id = S.next := Nat.eq_of_beq_eq_true hid
      have hxl : j3 (.rw L.id) = some ⟨l, 0, 0⟩ := by rw [hid']; exact hgd.le _ _ (J.upd_same _ _ _)
      obtain ⟨_, y, hy, _, tm, d, pend, fn', hrec3, hjump, hTL, _⟩ := hgd.rel.lp L (by rw [hls]; simp)
      rw [hxl] at hy; cases hy
      simp only at hrec3
      have hnb : L.st ≠ .busy := by
       intro hb
       rw [hb] at h
       simp at h
      have hend : (Instr.endLoop l).run P w3 = .ok pend (World.putBlk w3 l (.loop { state := .exhausted, pending := pend, fn := fn', tmps := tm, params := L.params.toArray, assign := L.assign, body := L.body, defers := d })) := by
       have : L.st.conc ≠ LoopState.busy := by cases hs : L.st <;> first | (simp [LSt.conc]; done) | exact absurd hs hnb
       simp [Instr.endLoop, Instr.getLoop, getObj, setObj, Sem.run, hrec3, this, World.putBlk]
      have hpop := R.popLoop hgd.rel hls hxl (.loop { state := .exhausted, pending := pend, fn := fn', tmps := tm, params := L.params.toArray, assign := L.assign, body := L.body, defers := d })
      have hall := (hpush.trans hgd).trans hpop
      have hl3 : Lids S { res.2 with loops := ls } := by
       have := hlid
       unfold Lids at this ⊢
       rw [hls] at this
       simp only [List.map_cons, List.cons.injEq] at this
       exact this.2
      have hM3 : Marks ws (World.putBlk w3 l (.loop { state := .exhausted, pending := pend, fn := fn', tmps := tm, params := L.params.toArray, assign := L.assign, body := L.body, defers := d })) (mark ++ a.defers) := (hM1.keep hpush.rel hgd).keep hgd.rel hpop
      have hd3 : rd.isSome = true → mark ++ a.defers = [] := fun hr => by rw [hmk hr, hd hr]; rfl
      refine ⟨pend, _, hend, ?_⟩
      have h' : (match L.pend with | none => K .normal T { res.2 with loops := ls } | some x => K x T { res.2 with loops := ls }) = some r := by
       cases hs : L.st <;> simp only [hs] at h <;> first | exact h | cases h
      cases hp : L.pend with
      | none =>
        rw [hp] at hjump h'
        simp only [jumpOf, Option.some.injEq] at hjump
        subst hjump
        exact ⟨.inl rfl, T, _, j3, h', hall, hT.mono hall.le, rfl, hM3, hl3, hd3⟩
      | some x =>
        rw [hp] at hjump h'
        cases x with
        | ret =>
          simp only [jumpOf, Option.some.injEq] at hjump
          subst hjump
          exact wpIn_ret ⟨.inr (.inl rfl), T, _, j3, h', hall, hT.mono hall.le, rfl, hM3, hl3, hd3⟩
        | exit i =>
          simp only [jumpOf, Option.some.injEq] at hjump
          subst hjump
          exact wpIn_exit ⟨.inr (.inr ⟨i, rfl⟩), T, _, j3, h', hall, hT.mono hall.le, rfl, hM3, hl3, hd3⟩
        | _ => simp [jumpOf] at hjump
 | _ =>
   intro cur T S K a w j rd n h hR hsz hT hwf hM hrd hd
   simp [evC] at h
end
end Go.Gr
