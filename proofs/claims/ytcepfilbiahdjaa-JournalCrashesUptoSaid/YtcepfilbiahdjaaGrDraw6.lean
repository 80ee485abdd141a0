/- A drawn region: an operation that writes; all of it. -/
import Derived.Test.YtcepfilbiahdjaaGrDraw5
import Derived.OrdersIn
set_option linter.unusedVariables false
set_option linter.unusedSimpArgs false
set_option linter.unusedSectionVars false
namespace Go.Gr
section
variable {E : Env} {P : Program} {call : CallA} {ops : Array Oper} {w0 ws : World} {j0 : J} {S0 S1 : AS} {base sz : Nat} {T0 : Tm} {rc : Nat → DRec} {d0 : List Deferred}
variable (hS : DrawSpec E ops) (hf : CF E call ops base (Region.before ops) 0 T0 S1 [] [] [] rc)
include hS hf
theorem SI.lay (hR0 : R w0 j0 S0 ws) {listed : Array Bool} {p q : Nat} {j : J} {a : Act} {w : World} (h : SI E ops w0 ws j0 S0 S1 base sz d0 rc listed p j a w) (f : Nat → Bool) (hq : q ≤ ops.size) (hH : (rc q).H = (rc p).H)
 (hL : ∀ b, Laid E ops (Region.before ops) rc p b → Laid E ops (Region.before ops) rc q b) (hfl : ∀ b, b < q → f b = true → listed.getD b false = true) :
 Good w0 j0 S0 ws j (layP f (rc q).pd (rc q).H) w ∧ (∀ c, Img j (layP f (rc q).pd (rc q).H) c → Img j (rc p).H c ∨ ∃ b, b < q ∧ f b = true ∧ AAt E ops rc b ∧ ¬ Laid E ops (Region.before ops) rc p b ∧ ∃ x, j (.rw (base + b)) = some x ∧ x.c = c) ∧
 (layP f (rc q).pd (rc q).H).loops = (rc p).H.loops ∧ (layP f (rc q).pd (rc q).H).next = (rc p).H.next := by
 obtain ⟨h1, h2⟩ := pd_spec hf hS.lt q hq
 rw [hH]
 obtain ⟨r1, r2, r3, r4⟩ := layP_ok hR0 f (rc q).pd (rc p).H h.gd (fun y hy hfy => by
  obtain ⟨b, q1, q2, q3, rfl⟩ := (h1 y).1 hy
  exact h.pn b (hfl b q1 hfy) q2 (fun hl => q3 (hL b hl))) (fun y z hy hz hfy hfz hne x x' hx hx' => by
  obtain ⟨b, q1, q2, q3, rfl⟩ := (h1 y).1 hy
  obtain ⟨b', q1', q2', q3', rfl⟩ := (h1 z).1 hz
  exact h.pd b b' (hfl b q1 hfy) (hfl b' q1' hfz) q2 q2' (fun hl => q3 (hL b hl)) (fun hl => q3' (hL b' hl)) hne x x' hx hx') h2
 refine ⟨r1, fun c hc => ?_, r3, r4⟩
 rcases r2 c hc with hc | ⟨y, hy, hfy, x, hx, hxc⟩
 ·exact .inl hc
 ·obtain ⟨b, q1, q2, q3, rfl⟩ := (h1 y).1 hy
  exact .inr ⟨b, q1, hfy, q2, fun hl => q3 (hL b hl), x, hx, hxc⟩
theorem SI.eff (hE : EnvOk E P) (hC : CallOk P call) (hR0 : R w0 j0 S0 ws) (hn0 : S0.next ≤ base) {listed : Array Bool} {p : Nat} {j : J} {a : Act} {w : World} (h : SI E ops w0 ws j0 S0 S1 base sz d0 rc listed p j a w)
 (hnx : ∀ b, AAt E ops rc b → base + b < S1.next) {i : Nat} {o : Oper} (hu : Up ops listed i o) (hw : wfOp sz o = true) (hEi : isE E o (rc i)) {rd : Option Nat} {n : Nat} {Q : Exit → Act → World → Prop} {next : Act → World → Prop}
 (hnext : ∀ j' a' w', SI E ops w0 ws j0 S0 S1 base sz d0 rc (listed.setIfInBounds i true) (i + 1) j' a' w' → next a' w') : o.wpIn (Fw rd) n P a w next Q := by
 have hlt := (Array.getElem?_eq_some_iff.1 hu.ho).1
 have hil : i < listed.size := by rw [h.lsz]; exact hlt
 have hEi' : EAt E ops rc i := ⟨o, hu.ho, hEi⟩
 have hpi : p ≤ i := by
  rcases Nat.lt_or_ge i p with hh | hh
  ·have := (h.pE i hEi').2 hh
   rw [hu.un] at this; cases this
  ·exact hh
 have hbit : ∀ e, e < i → EAt E ops rc e → Nat.testBit ((Region.before ops).getD i 0) e = true := by
  rintro e he ⟨oe, h1, h2⟩
  rcases hS.pair i e o oe he hu.ho h1 with h3 | ⟨_, h3⟩
  ·exact h3
  ·exact absurd ⟨hEi.2, h2.2⟩ h3
 have hnoE : ∀ e, p ≤ e → e < i → ¬ EAt E ops rc e := fun e h1 h2 h3 => by
  have := (h.pE e h3).1 (hu.bit hS hf h (hbit e h2 h3))
  omega
 have hH : (rc i).H = (rc p).H := H_same hf hpi hnoE (by omega)
 have hL : ∀ b, Laid E ops (Region.before ops) rc i b ↔ Laid E ops (Region.before ops) rc p b := by
  intro b
  constructor
  ·rintro ⟨e, q1, q2, q3⟩
   rcases Nat.lt_or_ge e p with hh | hh
   ·exact ⟨e, hh, q2, q3⟩
   ·exact absurd q2 (hnoE e hh q1)
  ·rintro ⟨e, q1, q2, q3⟩; exact ⟨e, by omega, q2, q3⟩
 obtain ⟨g1, g2, g3, g4⟩ := h.lay hS hf hR0 (Nat.testBit ((Region.before ops).getD i 0)) (q := i) (by omega) hH (fun b hb => (hL b).2 hb) (fun b _ hb => hu.bit hS hf h hb)
 have hev := hf.eff i o (Nat.zero_le _) hu.ho hEi
 rw [layB_eq, ← ev1_congr (agree_mask (ops := ops))] at hev
 refine ev1_sound hE hC g1.rel (hu.tr hS hf h) hev (by rw [h.sz]; exact hw) ?_
 intro av S' v w' j' hK hg hv hl
 simp only [Option.some.injEq, Prod.mk.injEq] at hK
 obtain ⟨rfl, rfl⟩ := hK
 apply hnext j'
 have hA : ∀ b, AAt E ops rc b → b ≠ i := by
  rintro b ⟨o1, h1, h2⟩ rfl
  rw [hu.ho] at h1; cases h1
  have := h2.2; have := hEi.2; omega
 have hnL : ∀ b, ¬ Laid E ops (Region.before ops) rc (i + 1) b → ¬ Laid E ops (Region.before ops) rc p b ∧ Nat.testBit ((Region.before ops).getD i 0) b = false := by
  intro b hb
  refine ⟨fun hl => hb ?_, ?_⟩
  ·obtain ⟨e, q1, q2, q3⟩ := hl
   exact ⟨e, by omega, q2, q3⟩
  ·cases hbb : Nat.testBit ((Region.before ops).getD i 0) b with
   | false => rfl
   | true => exact absurd ⟨i, Nat.lt_succ_self _, hEi', hbb⟩ hb
 have hkeep : ∀ b, listed.getD b false = true → AAt E ops rc b → ¬ Laid E ops (Region.before ops) rc (i + 1) b → ∃ x, j (.rw (base + b)) = some x ∧ Pnd ws j' (rc (i + 1)).H w' (base + b) (rc b).ob x := by
  intro b hb hAb hLb
  obtain ⟨hLp, hbb⟩ := hnL b hLb
  obtain ⟨x, q1, q2, q3, q4, q5, q6⟩ := h.pn b hb hAb hLp
  have hni : ¬ Img j (layP (Nat.testBit ((Region.before ops).getD i 0)) (rc i).pd (rc i).H) x.c := by
   intro hi
   rcases g2 x.c hi with hi | ⟨b', r1, r2, r3, r4, x', r5, r6⟩
   ·exact q6 hi
   ·have hne : b ≠ b' := fun he => by subst he; rw [hbb] at r2; cases r2
    exact h.pd b b' hb (hu.bit hS hf h r2) hAb r3 hLp r4 hne x x' q2 r5 r6.symm
  refine ⟨x, q2, ?_, hg.le _ _ q2, q3, by have := hg.size; omega, q5.mono hg.le (hg.fr _ q4 hni), fun hi => hni (hg.img _ q4 hi)⟩
  have := hg.nx; omega
 have hbitb : ∀ b, AAt E ops rc b → (listed.setIfInBounds i true).getD b false = listed.getD b false := fun b hb => by
  rw [getD_set hil, if_neg (hA b hb)]
 refine ⟨by rw [put_size]; exact h.sz, by rw [put_defers]; exact h.df, by simp [h.lsz], h.dc_step hS hf hu, hlt, fun e he => ?_, g1.trans hg, ?_, ?_, fun b hb hAb hLb => ?_, fun b b' hb hb' hAb hAb' hLb hLb' hne x x' hx hx' => ?_, fun b hAb hb => ?_, h.tm_step hS hf hu hw hg.le hv⟩
 ·rw [getD_set hil]
  split
  ·rename_i hh; subst hh; simp
  ·rename_i hh
   rw [h.pE e he]
   constructor
   ·intro h1; omega
   ·intro h1
    rcases Nat.lt_or_ge e p with h2 | h2
    ·exact h2
    ·exact absurd he (hnoE e h2 (by omega))
 ·have := h.nx; have := hg.nx; omega
 ·have := h.lid
  unfold Lids at this hl ⊢
  rw [hl, g3]; exact this
 ·rw [hbitb b hAb] at hb
  obtain ⟨x, _, hx⟩ := hkeep b hb hAb hLb
  exact ⟨x, hx⟩
 ·rw [hbitb b hAb] at hb
  rw [hbitb b' hAb'] at hb'
  obtain ⟨y, hy, hp⟩ := hkeep b hb hAb hLb
  obtain ⟨y', hy', hp'⟩ := hkeep b' hb' hAb' hLb'
  rw [hp.2.1] at hx; cases hx
  rw [hp'.2.1] at hx'; cases hx'
  exact h.pd b b' hb hb' hAb hAb' (hnL b hLb).1 (hnL b' hLb').1 hne x x' hy hy'
 ·rw [hbitb b hAb] at hb
  refine hg.old _ ?_ (h.un b hAb hb)
  rw [g4]
  have := hnx b hAb; have := h.nx; omega
theorem SI.run (hE : EnvOk E P) (hC : CallOk P call) (hR0 : R w0 j0 S0 ws) (hn0 : S0.next ≤ base) (hnx : ∀ b, AAt E ops rc b → base + b < S1.next) (hwf : ∀ o ∈ ops.toList, wfOp sz o = true) {rd : Option Nat} {n : Nat} {Q : Exit → Act → World → Prop}
 (hQ : ∀ a' w' j', Good w0 j0 S0 ws j' (layAll (rc ops.size).pd (rc ops.size).H) w' → TR j' (rc ops.size).T a'.tmps → a'.tmps.size = sz → a'.defers = d0 → Lids S0 (layAll (rc ops.size).pd (rc ops.size).H) → Q .normal a' w') :
 ∀ (fuel : Nat) (listed : Array Bool) (p : Nat) (j : J) (a : Act) (w : World), SI E ops w0 ws j0 S0 S1 base sz d0 rc listed p j a w → (List.range ops.size).countP (fun k => !listed.getD k false) ≤ fuel →
   wpAnyIn (Fw rd) n P .any ops Q fuel listed a w := by
 have hdone : ∀ (listed : Array Bool) (p : Nat) (j : J) (a : Act) (w : World), SI E ops w0 ws j0 S0 S1 base sz d0 rc listed p j a w → (∀ k, k < ops.size → listed.getD k false = true) → Q .normal a w := by
  intro listed p j a w h hall
  have hpE : ∀ e, EAt E ops rc e → e < p := fun e he => by
   have he' := he
   obtain ⟨o, ho, _⟩ := he'
   exact (h.pE e he).1 (hall e (Array.getElem?_eq_some_iff.1 ho).1)
  have hH : (rc ops.size).H = (rc p).H := H_same hf h.ple (fun e h1 h2 h3 => by have := hpE e h3; omega) (Nat.le_refl _)
  obtain ⟨g1, g2, g3, g4⟩ := h.lay hS hf hR0 (fun _ => true) (q := ops.size) (Nat.le_refl _) hH (fun b ⟨e, q1, q2, q3⟩ => ⟨e, by have := h.ple; omega, q2, q3⟩) (fun b hb _ => hall b hb)
  rw [← layAll_eq] at g1 g3
  refine hQ a w j g1 (fun t => ?_) h.sz h.df ?_
  ·obtain ⟨q, h1, h2, h3⟩ := h.tm t
   have : look (rc q).T t = look (rc ops.size).T t := look_same hf (p := ops.size) (q := q) (Nat.le_refl _) h1 (fun k ok hk hd => by
    have hlt := (Array.getElem?_eq_some_iff.1 hk).1
    have := (h2 k ok hk hd).1 (hall k hlt)
    omega)
   rw [← this]; exact ⟨h3.1, h3.2, h.gd.rel.gl⟩
  ·have := h.lid
   unfold Lids at this ⊢
   rw [g3]; exact this
 have hready : ∀ (listed : Array Bool), listed.size = ops.size → Region.ready .any ops listed = [] → ∀ k, k < ops.size → listed.getD k false = true := by
  intro listed hs hr k
  induction k using Nat.strongRecOn with
  | _ k ih =>
    intro hk
    cases hl : listed.getD k false with
    | true => rfl
    | false =>
      exfalso
      have : k ∈ Region.ready .any ops listed := by
       refine mem_ready.2 ⟨?_, ops[k], by simp, fun e he hb => ?_⟩
       ·simp only [Array.getD_eq_getD_getElem?, Array.getElem?_eq_getElem (show k < listed.size by omega), Option.getD_some] at hl ⊢
        exact hl
       ·have hlt := hS.edge k ops[k] (by simp) e (by simpa using he) hb
        exact ih e.on hlt (by omega)
      rw [hr] at this; cases this
 intro fuel
 induction fuel with
 | zero =>
   intro listed p j a w h hc
   have hall : ∀ k, k < ops.size → listed.getD k false = true := by
    intro k hk
    have h0 : (List.range ops.size).countP (fun k => !listed.getD k false) = 0 := by omega
    rw [List.countP_eq_zero] at h0
    have := h0 k (List.mem_range.2 hk)
    simpa using this
   refine ⟨?_, hdone listed p j a w h hall⟩
   cases hr : Region.ready .any ops listed with
   | nil => rfl
   | cons i rs =>
     exfalso
     obtain ⟨o, hu⟩ := up_of h.lsz (show i ∈ Region.ready .any ops listed by rw [hr]; exact List.mem_cons_self)
     have := hall i (Array.getElem?_eq_some_iff.1 hu.ho).1
     rw [hu.un] at this; cases this
 | succ fuel ih =>
   intro listed p j a w h hc
   refine ⟨fun hr => hdone listed p j a w h (hready listed h.lsz hr), fun i hi => ?_⟩
   obtain ⟨o, hu⟩ := up_of h.lsz hi
   have hlt := (Array.getElem?_eq_some_iff.1 hu.ho).1
   have hil : i < listed.size := by rw [h.lsz]; exact hlt
   have hmem : o ∈ ops.toList := by
    have := (Array.getElem?_eq_some_iff.1 hu.ho)
    obtain ⟨h1, h2⟩ := this
    rw [← h2]; simp
   have hw := hwf o hmem
   have hcnt : (List.range ops.size).countP (fun k => !(listed.setIfInBounds i true).getD k false) ≤ fuel := by
    have := countP_lt (p := fun k => !listed.getD k false) (q := fun k => !(listed.setIfInBounds i true).getD k false) (i := i) (l := List.range ops.size) (fun k hk => by
     simp only [getD_set hil] at hk
     split at hk
     ·cases hk
     ·exact hk) (List.mem_range.2 hlt) (by simp only [hu.un]; rfl) (by simp only [getD_set hil, if_true]; rfl)
    omega
   have hgo : ∀ p' j' a' w', SI E ops w0 ws j0 S0 S1 base sz d0 rc (listed.setIfInBounds i true) p' j' a' w' → wpAnyIn (Fw rd) n P .any ops Q fuel (listed.setIfInBounds i true) a' w' := fun p' j' a' w' h' => ih _ p' j' a' w' h' hcnt
   unfold wpOpIn
   simp only [hu.ho]
   rw [hu.wanted hS hf h]
   cases hsk : (rc i).sk with
   | true =>
     simp only [Bool.not_true, Bool.false_eq_true, if_false]
     refine ⟨fun _ _ => trivial, hgo p j _ w ?_⟩
     have hv := hf.sk i o (Nat.zero_le _) hu.ho hsk
     refine h.plain hS hf hu hw ?_ ?_ (by rw [hv]; exact vr_skip j)
     ·rintro ⟨o', h1, h2⟩; rw [h2.1] at hsk; cases hsk
     ·rintro ⟨o', h1, h2⟩; rw [h2.1] at hsk; cases hsk
   | false =>
     simp only [Bool.not_false, if_true]
     have hTR := hu.tr hS hf h
     have hpure : ∀ (hv : evPure E (rc p).H (rc i).T o.op o.type some = some (rc i).v) (hnE : ¬ EAt E ops rc i) (hnA : ¬ AAt E ops rc i), o.wpIn (Fw rd) n P a w (wpAnyIn (Fw rd) n P .any ops Q fuel (listed.setIfInBounds i true)) Q := by
      intro hv hnE hnA
      rw [← evPure_congr (agree_mask (ops := ops))] at hv
      obtain ⟨av, v, h1, h2, h3⟩ := evPure_sound hE h.gd.rel hTR hv (wfOp_sl hw)
      simp only [Option.some.injEq] at h1
      subst h1
      have hnd : ∀ c, o.op ≠ .defer c := fun c hc => by rw [hc] at hv; simp [evPure] at hv
      refine ⟨fun _ _ => trivial, ?_⟩
      rw [Oper.semAt_eq _ _ _ hnd, h3, Oper.uponIn_value]
      exact hgo p j _ w (h.plain hS hf hu hw hnE hnA h2)
     have hcl : ∀ {o'}, ops[i]? = some o' → o' = o := fun h' => by rw [hu.ho] at h'; cases h'; rfl
     rcases cls_cases E o.op with hcs | hcs | hcs | hcs
     ·refine hpure ?_ ?_ ?_
      ·rw [evPure_free hcs (S' := (rc i).H)]
       exact hf.own i o (Nat.zero_le _) hu.ho hsk (.inl hcs)
      ·rintro ⟨o', h1, h2⟩; cases hcl h1; have := h2.2; omega
      ·rintro ⟨o', h1, h2⟩; cases hcl h1; have := h2.2; omega
     ·refine hpure ?_ ?_ ?_
      ·refine read_at hf hu.ho ⟨hsk, hcs⟩ h.ple (fun e h1 h2 h3 => ?_) (fun e h1 h2 h3 => ?_)
       ·exact hu.nbit hS hf h ((h.pE e h3).2 h2)
       ·cases hb : Nat.testBit ((Region.before ops).getD i 0) e with
        | false => rfl
        | true => have := (h.pE e h3).1 (hu.bit hS hf h hb); omega
      ·rintro ⟨o', h1, h2⟩; cases hcl h1; have := h2.2; omega
      ·rintro ⟨o', h1, h2⟩; cases hcl h1; have := h2.2; omega
     ·have hA : AAt E ops rc i := ⟨o, hu.ho, hsk, hcs⟩
      have hv := hf.new i o (Nat.zero_le _) hu.ho ⟨hsk, hcs⟩
      rw [← evNew_congr (agree_mask (ops := ops))] at hv
      obtain ⟨av, ob, h1, v, obc, dr, tot, h2, h3⟩ := evNew_sound (w := w) hE hTR hv
      simp only [Option.some.injEq, Prod.mk.injEq] at h1
      obtain ⟨rfl, rfl⟩ := h1
      have hnd : ∀ c, o.op ≠ .defer c := fun c hc => by rw [hc] at hv; simp [evNew] at hv
      obtain ⟨q1, q2⟩ := h3 (J.upd j (base + i) ⟨w.heap.size, 0, tot⟩) { w with heap := w.heap.push obc, drawn := dr } (J.le_upd _ (h.un i hA hu.un)) (J.upd_same _ _ _) (by simp)
      refine ⟨fun _ _ => trivial, ?_⟩
      rw [Oper.semAt_eq _ _ _ hnd, h2, Oper.uponIn_value]
      exact hgo p _ _ _ (h.alloc hS hf hu hw hA hn0 (hnx i hA) rfl (by simp) ⟨rfl, rfl, rfl⟩ (fun k hk => by simp [Array.getElem?_push, Nat.ne_of_lt hk]) q1 q2)
     ·exact h.eff hS hf hE hC hR0 hn0 hnx hu hw ⟨hsk, hcs⟩ (fun j' a' w' h' => hgo _ j' a' w' h')
end
theorem draw_ok {E : Env} {P : Program} (hE : EnvOk E P) {call : CallA} (hC : CallOk P call) : DrawOk E P call := by
 intro β r w0 ops rd n Q sz K T S a w j id hwf hR hT hsz hd h hQ
 have hS := drawOk_spec hd
 obtain ⟨l, h1, h2, h3⟩ := draw_trace _ _ _ _ _ _ _ h
 have hf := dok_facts _ _ _ _ _ _ _ _ h1 (by simp)
 simp only [Nat.sub_zero] at hf
 have hK : K ((fun k => l.getD k default) ops.size).T (layAll ((fun k => l.getD k default) ops.size).pd ((fun k => l.getD k default) ops.size).H) = some r := by simpa using h3
 generalize (fun k => l.getD k default) = rc at hf hK
 clear h h1 h2 h3
 have hR' : R w0 j S { w with drawn := w.drawn + 1 } := ⟨hR.size, hR.base, hR.rw, hR.ro, hR.lp, hR.inj, hR.fresh, hR.nd, hR.env, hR.gl⟩
 refine wpIn_region_any hE.mixed ?_
 generalize hS1 : (cond (hasNew E ops) { S with next := S.next + ops.size } S : AS) = S1 at hf
 have hnext : S.next ≤ S1.next ∧ S1.rw = S.rw ∧ S1.ro = S.ro ∧ S1.loops = S.loops := by
  subst hS1
  cases hasNew E ops <;> simp
 have hown : ∀ m, Own S1 m ↔ Own S m := fun m => by unfold Own; rw [hnext.2.1, hnext.2.2.2]
 have hgood : Good w0 j S w j S1 { w with drawn := w.drawn + 1 } := by
  refine ⟨J.le_refl j, ⟨hR.size, hR.base, fun m p hp => ?_, fun m cs hm => ?_, fun L hL => ?_, fun x y z u hx hy => hR.inj x y z u ((hown x).1 hx) ((hown y).1 hy), fun m hm => hR.fresh m (by omega), ?_, hR.env, hR.gl⟩, Nat.le_refl _, fun _ _ _ => rfl, fun c _ ⟨m, x, hm, hx⟩ => ⟨m, x, (hown m).1 hm, hx⟩, hnext.1, fun _ _ h => h⟩
  ·rw [hnext.2.1] at hp
   obtain ⟨q1, q2⟩ := hR.rw m p hp
   exact ⟨by omega, q2⟩
  ·rw [hnext.2.2.1] at hm; exact hR.ro m cs hm
  ·rw [hnext.2.2.2] at hL
   obtain ⟨q1, q2⟩ := hR.lp L hL
   exact ⟨by omega, q2⟩
  ·rw [hnext.2.2.2]; exact hR.nd
 have hnx : ∀ b, AAt E ops rc b → S.next + b < S1.next := by
  rintro b ⟨o, ho, hA⟩
  have hlt := (Array.getElem?_eq_some_iff.1 ho).1
  have : hasNew E ops = true := by
   unfold hasNew
   rw [Array.any_eq_true]
   obtain ⟨h1, h2⟩ := Array.getElem?_eq_some_iff.1 ho
   exact ⟨b, h1, by rw [h2, hA.2]; rfl⟩
  subst hS1
  rw [this]
  simp only [cond_true]; omega
 refine SI.run (T0 := T) (S1 := S1) hS hf hE hC (j0 := j) (S0 := S) (ws := w) hR (Nat.le_refl _) hnx hwf (d0 := a.defers) (fun a' w' j' q1 q2 q3 q4 q5 => hQ _ _ a' w' j' hK q1 q2 q3 q4 q5) ops.size _ 0 j a _ ?_ (by
  refine Nat.le_trans (List.countP_le_length) ?_
  simp)
 have hfal : ∀ k, (Array.replicate ops.size false).getD k false = false := by
  intro k
  simp only [Array.getD_eq_getD_getElem?]
  cases hk : (Array.replicate ops.size false)[k]? with
  | none => rfl
  | some b =>
    obtain ⟨h1, h2⟩ := Array.getElem?_eq_some_iff.1 hk
    simp at h2
    simp [← h2]
 refine ⟨hsz, rfl, by simp, fun k i hk => (by rw [hfal] at hk; cases hk), Nat.zero_le _, fun e _ => by rw [hfal]; simp, ?_, ?_, ?_, fun b hb => (by rw [hfal] at hb; cases hb), fun b b' hb => (by rw [hfal] at hb; cases hb), fun b hA _ => ?_, fun t => ⟨0, Nat.zero_le _, fun k o _ _ => by rw [hfal]; simp, ?_⟩⟩
 ·rw [hf.H0]; exact hgood
 ·rw [hf.H0]; exact Nat.le_refl _
 ·rw [hf.H0]; unfold Lids; rw [hnext.2.2.2]
 ·exact hR.fresh _ (by omega)
 ·rw [hf.T0 t]; exact ⟨(hT t).1, (hT t).2.1⟩
end Go.Gr
