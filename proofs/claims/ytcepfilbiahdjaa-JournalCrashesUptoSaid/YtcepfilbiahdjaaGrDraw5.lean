/- A drawn region, in whatever order. -/
import Derived.Test.YtcepfilbiahdjaaGrDraw4
set_option linter.unusedVariables false
set_option linter.unusedSimpArgs false
set_option linter.unusedSectionVars false
namespace Go.Gr
theorem look_mask {ids : List Nat} {T : Tm} {t : Nat} : look (mask ids T) t = if t ∈ ids then look T t else .undef := by
 unfold mask
 induction ids with
 | nil => rfl
 | cons i ids ih =>
   simp only [List.map_cons, look]
   cases hb : Nat.beq i t with
   | true =>
     have := Nat.eq_of_beq_eq_true hb
     subst this
     simp
   | false =>
     have := Nat.ne_of_beq_eq_false hb
     simp only [cond_false, ih, List.mem_cons, show ¬ t = i from fun h => this h.symm, false_or]
theorem countP_lt {p q : Nat → Bool} {i : Nat} : ∀ {l : List Nat}, (∀ k, q k = true → p k = true) → i ∈ l → p i = true → q i = false → l.countP q < l.countP p
 | [], _, h, _, _ => by cases h
 | k :: l, h, hi, h1, h2 => by
   have hmono : l.countP q ≤ l.countP p := List.countP_mono_left fun x _ hx => h x hx
   rw [List.countP_cons, List.countP_cons]
   by_cases hk : k = i
   ·subst hk
    simp only [h1, h2, if_true]
    simp; omega
   ·have hi' : i ∈ l := by
     rcases List.mem_cons.1 hi with h | h
     ·exact absurd h.symm hk
     ·exact h
    have := countP_lt h hi' h1 h2
    have h3 : (if q k = true then 1 else 0) ≤ (if p k = true then 1 else 0) := by
     cases hq : q k
     ·simp
     ·simp [h k hq]
    omega
section
variable {E : Env} {P : Program} {call : CallA} {ops : Array Oper} {w0 ws : World} {j0 : J} {S0 S1 : AS} {base sz : Nat} {T0 : Tm} {rc : Nat → DRec} {d0 : List Deferred}
structure SI (E : Env) (ops : Array Oper) (w0 ws : World) (j0 : J) (S0 S1 : AS) (base sz : Nat) (d0 : List Deferred) (rc : Nat → DRec) (listed : Array Bool) (p : Nat) (j : J) (a : Act) (w : World) : Prop where
 sz : a.tmps.size = sz
 df : a.defers = d0
 lsz : listed.size = ops.size
 dc : ∀ k i, listed.getD k false = true → Nat.testBit ((Region.before ops).getD k 0) i = true → listed.getD i false = true
 ple : p ≤ ops.size
 pE : ∀ e, EAt E ops rc e → (listed.getD e false = true ↔ e < p)
 gd : Good w0 j0 S0 ws j (rc p).H w
 nx : S1.next ≤ (rc p).H.next
 lid : Lids S0 (rc p).H
 pn : ∀ b, listed.getD b false = true → AAt E ops rc b → ¬ Laid E ops (Region.before ops) rc p b → ∃ x, Pnd ws j (rc p).H w (base + b) (rc b).ob x
 pd : ∀ b b', listed.getD b false = true → listed.getD b' false = true → AAt E ops rc b → AAt E ops rc b' → ¬ Laid E ops (Region.before ops) rc p b → ¬ Laid E ops (Region.before ops) rc p b' → b ≠ b' →
  ∀ x x', j (.rw (base + b)) = some x → j (.rw (base + b')) = some x' → x.c ≠ x'.c
 un : ∀ b, AAt E ops rc b → listed.getD b false = false → j (.rw (base + b)) = none
 tm : ∀ t, ∃ q, q ≤ ops.size ∧ (∀ k o, ops[k]? = some o → o.dst = some t → (listed.getD k false = true ↔ k < q)) ∧ VR j (look (rc q).T t) (a.tmps.getD t undef) ∧ (look (rc q).T t ≠ .undef → t < a.tmps.size)
structure Up (ops : Array Oper) (listed : Array Bool) (i : Nat) (o : Oper) : Prop where
 un : listed.getD i false = false
 ho : ops[i]? = some o
 al : ∀ e ∈ o.after.toList, Region.binds .any e = true → listed.getD e.on false = true
theorem up_of {listed : Array Bool} {i : Nat} (hs : listed.size = ops.size) (h : i ∈ Region.ready .any ops listed) : ∃ o, Up ops listed i o := by
 obtain ⟨h1, o, h2, h3⟩ := mem_ready.1 h
 have hlt := (Array.getElem?_eq_some_iff.1 h2).1
 refine ⟨o, ?_, h2, fun e he hb => h3 e (by simpa using he) hb⟩
 simp only [Array.getD_eq_getD_getElem?, Array.getElem?_eq_getElem (show i < listed.size by omega), Option.getD_some] at h1 ⊢
 exact h1
theorem getD_set {listed : Array Bool} {i : Nat} (hi : i < listed.size) (k : Nat) : (listed.setIfInBounds i true).getD k false = if k = i then true else listed.getD k false := by
 simp only [Array.getD_eq_getD_getElem?, Array.getElem?_setIfInBounds]
 by_cases h : i = k
 ·subst h; simp [hi]
 ·simp [h, show ¬ k = i from fun h' => h h'.symm]
variable (hS : DrawSpec E ops) (hf : CF E call ops base (Region.before ops) 0 T0 S1 [] [] [] rc)
include hS hf
theorem Up.bit {listed : Array Bool} {p : Nat} {j : J} {a : Act} {w : World} (h : SI E ops w0 ws j0 S0 S1 base sz d0 rc listed p j a w) {i : Nat} {o : Oper} (hu : Up ops listed i o) {k : Nat} (hb : Nat.testBit ((Region.before ops).getD i 0) k = true) : listed.getD k false = true := by
 obtain ⟨o', h1, e, h2, h3, h4⟩ := hS.bef i k hb
 rw [hu.ho] at h1; cases h1
 have := hu.al e h2 h3
 rcases h4 with rfl | h4
 ·exact this
 ·exact h.dc e.on k this h4
theorem Up.nbit {listed : Array Bool} {p : Nat} {j : J} {a : Act} {w : World} (h : SI E ops w0 ws j0 S0 S1 base sz d0 rc listed p j a w) {i : Nat} {o : Oper} (hu : Up ops listed i o) {k : Nat} (hk : listed.getD k false = true) : Nat.testBit ((Region.before ops).getD k 0) i = false := by
 cases hb : Nat.testBit ((Region.before ops).getD k 0) i with
 | false => rfl
 | true => have := h.dc k i hk hb; rw [hu.un] at this; cases this
theorem Up.looks {listed : Array Bool} {p : Nat} {j : J} {a : Act} {w : World} (h : SI E ops w0 ws j0 S0 S1 base sz d0 rc listed p j a w) {i : Nat} {o : Oper} (hu : Up ops listed i o) {t : Nat} (ht : t ∈ o.looksAt ops) {k : Nat} {ok : Oper} (hk : ops[k]? = some ok) (hd : ok.dst = some t) : listed.getD k false = true ↔ k < i := by
 rcases Nat.lt_trichotomy k i with hki | rfl | hki
 ·refine ⟨fun _ => hki, fun _ => ?_⟩
  rcases hS.pair i k o ok hki hu.ho hk with h1 | ⟨h1, _⟩
  ·exact hu.bit hS hf h h1
  ·exact absurd ht ((Oper.apart_spec h1).2.2 t hd)
 ·rw [hu.un]; simp
 ·refine ⟨fun hl => ?_, fun _ => by omega⟩
  rcases hS.pair k i ok o hki hk hu.ho with h1 | ⟨h1, _⟩
  ·rw [hu.nbit hS hf h hl] at h1; cases h1
  ·exact absurd ht ((Oper.apart_spec h1).1 t hd)
theorem Up.writes {listed : Array Bool} {p : Nat} {j : J} {a : Act} {w : World} (h : SI E ops w0 ws j0 S0 S1 base sz d0 rc listed p j a w) {i : Nat} {o : Oper} (hu : Up ops listed i o) {t : Nat} (ht : o.dst = some t) {k : Nat} {ok : Oper} (hk : ops[k]? = some ok) (hd : ok.dst = some t) (hne : k ≠ i) : listed.getD k false = true ↔ k < i := by
 rcases Nat.lt_trichotomy k i with hki | hki | hki
 ·refine ⟨fun _ => hki, fun _ => ?_⟩
  rcases hS.pair i k o ok hki hu.ho hk with h1 | ⟨h1, _⟩
  ·exact hu.bit hS hf h h1
  ·exact absurd hd ((Oper.apart_spec h1).2.1 t ht)
 ·exact absurd hki hne
 ·refine ⟨fun hl => ?_, fun _ => by omega⟩
  rcases hS.pair k i ok o hki hk hu.ho with h1 | ⟨h1, _⟩
  ·rw [hu.nbit hS hf h hl] at h1; cases h1
  ·exact absurd ht ((Oper.apart_spec h1).2.1 t hd)
theorem Up.tr1 {listed : Array Bool} {p : Nat} {j : J} {a : Act} {w : World} (h : SI E ops w0 ws j0 S0 S1 base sz d0 rc listed p j a w) {i : Nat} {o : Oper} (hu : Up ops listed i o) {t : Nat} (ht : t ∈ o.looksAt ops) :
 VR j (look (rc i).T t) (a.tmps.getD t undef) ∧ (look (rc i).T t ≠ .undef → t < a.tmps.size) := by
 obtain ⟨q, h1, h2, h3⟩ := h.tm t
 have hlt := (Array.getElem?_eq_some_iff.1 hu.ho).1
 have : look (rc q).T t = look (rc i).T t := look_same hf (p := i) (q := q) (by omega) h1 (fun k ok hk hd => by
  rw [← h2 k ok hk hd, hu.looks hS hf h ht hk hd])
 rw [← this]; exact h3
theorem Up.tr {listed : Array Bool} {p : Nat} {j : J} {a : Act} {w : World} (h : SI E ops w0 ws j0 S0 S1 base sz d0 rc listed p j a w) {i : Nat} {o : Oper} (hu : Up ops listed i o) : TR j (mask (o.looksAt ops) (rc i).T) a.tmps := by
 intro t
 rw [look_mask]
 split
 ·rename_i ht; exact ⟨(hu.tr1 hS hf h ht).1, (hu.tr1 hS hf h ht).2, h.gd.rel.gl⟩
 ·exact ⟨by simp [VR], fun hn => absurd rfl hn, h.gd.rel.gl⟩
omit hS hf in
theorem agree_mask {o : Oper} {T : Tm} : agree o.op (mask (o.looksAt ops) T) T := by
 intro x hx
 cases x with
 | tmp t =>
   simp only [evalO, look_mask]
   rw [if_pos]
   exact List.mem_append_left _ (List.mem_filterMap.2 ⟨.tmp t, by simpa using hx, rfl⟩)
 | _ => rfl
theorem Up.wanted {listed : Array Bool} {p : Nat} {j : J} {a : Act} {w : World} (h : SI E ops w0 ws j0 S0 S1 base sz d0 rc listed p j a w) {i : Nat} {o : Oper} (hu : Up ops listed i o) : Region.wanted o (yielded ops a.tmps) = !(rc i).sk := by
 have hg := hf.gd i o (Nat.zero_le _) hu.ho
 unfold GdOk at hg
 cases hgd : o.guard with
 | none =>
   rw [hgd] at hg
   simp only at hg
   simp [Region.wanted, hgd, hg]
 | some gw =>
   obtain ⟨g, want⟩ := gw
   rw [hgd] at hg
   simp only at hg
   obtain ⟨d, hd, hv⟩ := hg
   have hmem : d ∈ o.looksAt ops := List.mem_append_right _ (by simp [hgd, hd])
   obtain ⟨h1, h2⟩ := hu.tr1 hS hf h hmem
   rcases hv with hv | ⟨hsk, hv⟩
   ·rw [hv] at h1 h2
    simp only [VR] at h1
    have hlt := h2 (by simp)
    have hget : a.tmps[d]? = some (.bool (if (rc i).sk = true then !want else want)) := by
     rw [Array.getElem?_eq_getElem hlt]
     simp only [Array.getD_eq_getD_getElem?, Array.getElem?_eq_getElem hlt, Option.getD_some] at h1
     rw [h1]
    have hy : yielded ops a.tmps g = some (if (rc i).sk = true then !want else want) := by
     unfold yielded
     rw [hd]
     simp [hget]
    simp only [Region.wanted, hgd, hy]
    cases (rc i).sk <;> cases want <;> rfl
   ·rw [hv] at h1
    simp only [VR, VRs] at h1
    obtain ⟨A, h1, hA⟩ := h1
    have hy : yielded ops a.tmps g = none := by
     unfold yielded
     rw [hd]
     simp only [Option.bind_some]
     cases hq : a.tmps[d]? with
     | none => rfl
     | some u =>
       simp only [Array.getD_eq_getD_getElem?, hq, Option.getD_some] at h1
       subst h1; rfl
    simp [Region.wanted, hgd, hy, hsk]
theorem SI.tm_step {listed : Array Bool} {p : Nat} {j j' : J} {a : Act} {w : World} (h : SI E ops w0 ws j0 S0 S1 base sz d0 rc listed p j a w) {i : Nat} {o : Oper} (hu : Up ops listed i o) (hw : wfOp sz o = true) (hle : j.le j') {v : Value} (hv : VR j' (rc i).v v) :
 ∀ t, ∃ q, q ≤ ops.size ∧ (∀ k o, ops[k]? = some o → o.dst = some t → ((listed.setIfInBounds i true).getD k false = true ↔ k < q)) ∧ VR j' (look (rc q).T t) ((a.put o.dst v).tmps.getD t undef) ∧ (look (rc q).T t ≠ .undef → t < (a.put o.dst v).tmps.size) := by
 intro t
 have hlt := (Array.getElem?_eq_some_iff.1 hu.ho).1
 have hil : i < listed.size := by rw [h.lsz]; exact hlt
 by_cases hd : o.dst = some t
 ·refine ⟨i + 1, hlt, fun k ok hk hkd => ?_, ?_, ?_⟩
  ·rw [getD_set hil]
   split
   ·rename_i he; subst he; simp
   ·rename_i he
    rw [hu.writes hS hf h hd hk hkd he]
    omega
  ·rw [look_dst hf hu.ho hd]
   have hts : t < a.tmps.size := by
    rw [h.sz]
    unfold wfOp at hw
    rw [hd] at hw
    simp only [Bool.and_eq_true] at hw
    exact Nat.le_of_ble_eq_true hw.1
   rw [hd]
   simpa [Act.put, hts] using hv
  ·intro _
   rw [put_size, h.sz]
   unfold wfOp at hw
   rw [hd] at hw
   simp only [Bool.and_eq_true] at hw
   exact Nat.le_of_ble_eq_true hw.1
 ·obtain ⟨q, h1, h2, h3, h4⟩ := h.tm t
  refine ⟨q, h1, fun k ok hk hkd => ?_, ?_, ?_⟩
  ·rw [getD_set hil]
   split
   ·rename_i he; subst he
    rw [hu.ho] at hk; cases hk
    exact absurd hkd hd
   ·exact h2 k ok hk hkd
  ·have : (a.put o.dst v).tmps.getD t undef = a.tmps.getD t undef := by
    cases hdd : o.dst with
    | none => rfl
    | some d =>
      have hne : d ≠ t := fun he => hd (by rw [hdd, he])
      simp [Act.put, Array.getElem?_setIfInBounds_ne hne]
   rw [this]
   exact VR.mono hle _ _ h3
  ·rw [put_size]; exact h4
theorem SI.dc_step {listed : Array Bool} {p : Nat} {j : J} {a : Act} {w : World} (h : SI E ops w0 ws j0 S0 S1 base sz d0 rc listed p j a w) {i : Nat} {o : Oper} (hu : Up ops listed i o) :
 ∀ k m, (listed.setIfInBounds i true).getD k false = true → Nat.testBit ((Region.before ops).getD k 0) m = true → (listed.setIfInBounds i true).getD m false = true := by
 have hlt := (Array.getElem?_eq_some_iff.1 hu.ho).1
 have hil : i < listed.size := by rw [h.lsz]; exact hlt
 intro k m hk hb
 rw [getD_set hil] at hk ⊢
 split
 ·rfl
 ·split at hk
  ·rename_i he; subst he; exact hu.bit hS hf h hb
  ·exact h.dc k m hk hb
theorem SI.plain {listed : Array Bool} {p : Nat} {j : J} {a : Act} {w : World} (h : SI E ops w0 ws j0 S0 S1 base sz d0 rc listed p j a w) {i : Nat} {o : Oper} (hu : Up ops listed i o) (hw : wfOp sz o = true) (hnE : ¬ EAt E ops rc i) (hnA : ¬ AAt E ops rc i) {v : Value} (hv : VR j (rc i).v v) :
 SI E ops w0 ws j0 S0 S1 base sz d0 rc (listed.setIfInBounds i true) p j (a.put o.dst v) w := by
 have hlt := (Array.getElem?_eq_some_iff.1 hu.ho).1
 have hil : i < listed.size := by rw [h.lsz]; exact hlt
 have hA : ∀ b, AAt E ops rc b → (listed.setIfInBounds i true).getD b false = listed.getD b false := fun b hb => by
  rw [getD_set hil, if_neg (fun he => by subst he; exact hnA hb)]
 refine ⟨by rw [put_size]; exact h.sz, by rw [put_defers]; exact h.df, by simp [h.lsz], h.dc_step hS hf hu, h.ple, fun e he => ?_, h.gd, h.nx, h.lid, fun b hb hAb => ?_, fun b b' hb hb' hAb hAb' => ?_, fun b hAb hb => ?_, h.tm_step hS hf hu hw (J.le_refl j) hv⟩
 ·rw [getD_set hil, if_neg (fun hh => by subst hh; exact hnE he)]; exact h.pE e he
 ·rw [hA b hAb] at hb; exact h.pn b hb hAb
 ·rw [hA b hAb] at hb; rw [hA b' hAb'] at hb'; exact h.pd b b' hb hb' hAb hAb'
 ·rw [hA b hAb] at hb; exact h.un b hAb hb
theorem SI.alloc {listed : Array Bool} {p : Nat} {j : J} {a : Act} {w w' : World} (h : SI E ops w0 ws j0 S0 S1 base sz d0 rc listed p j a w) {i : Nat} {o : Oper} (hu : Up ops listed i o) (hw : wfOp sz o = true) (hA : AAt E ops rc i) (hn0 : S0.next ≤ base) (hn1 : base + i < S1.next) {v : Value} {x : BI}
 (hx : x.c = w.heap.size) (hs : w'.heap.size = w.heap.size + 1) (henv : w'.os = w.os ∧ w'.output = w.output ∧ w'.tape = w.tape) (hh : ∀ c, c < w.heap.size → w'.heap[c]? = w.heap[c]?) (hv : VR (J.upd j (base + i) x) (rc i).v v) (ho : ObjR (J.upd j (base + i) x) (rc i).ob x w') :
 SI E ops w0 ws j0 S0 S1 base sz d0 rc (listed.setIfInBounds i true) p (J.upd j (base + i) x) (a.put o.dst v) w' := by
 have hlt := (Array.getElem?_eq_some_iff.1 hu.ho).1
 have hil : i < listed.size := by rw [h.lsz]; exact hlt
 have hnone := h.un i hA hu.un
 have hnx := h.nx
 have hle := J.le_upd x hnone
 have hg := h.gd.ext (n := base + i) (x := x) (w' := w') hnone (by omega) (by omega) (by omega) henv hh
 have hno : ∀ m, Own (rc p).H m → m ≠ base + i := by
  intro m hm he
  rcases hm with ⟨ob, hob⟩ | ⟨L, hL, hid⟩
  ·obtain ⟨_, y, hy, _⟩ := h.gd.rel.rw m ob hob; rw [he, hnone] at hy; cases hy
  ·obtain ⟨_, y, hy, _⟩ := h.gd.rel.lp L hL; rw [hid, he, hnone] at hy; cases hy
 have hImg : ∀ c, Img (J.upd j (base + i) x) (rc p).H c → Img j (rc p).H c := by
  rintro c ⟨m, y, hm, hy, hc⟩
  rw [J.upd_ne j x (hno m hm)] at hy
  exact ⟨m, y, hm, hy, hc⟩
 have hnE : ∀ e, EAt E ops rc e → e ≠ i := by
  rintro e ⟨o1, h1, h2⟩ rfl
  obtain ⟨o2, h3, h4⟩ := hA
  rw [h1] at h3; cases h3
  have := h2.2; have := h4.2; omega
 have hold : ∀ b, listed.getD b false = true → AAt E ops rc b → ¬ Laid E ops (Region.before ops) rc p b → ∃ y, j (.rw (base + b)) = some y ∧ y.c < w.heap.size := fun b hb hAb hL => by
  obtain ⟨y, _, h2, _, h4, _⟩ := h.pn b hb hAb hL
  exact ⟨y, h2, h4⟩
 have hget : ∀ b, b ≠ i → J.upd j (base + i) x (.rw (base + b)) = j (.rw (base + b)) := fun b hb => J.upd_ne j x (by omega)
 refine ⟨by rw [put_size]; exact h.sz, by rw [put_defers]; exact h.df, by simp [h.lsz], h.dc_step hS hf hu, h.ple, fun e he => ?_, hg, h.nx, h.lid, fun b hb hAb hL => ?_, fun b b' hb hb' hAb hAb' hL hL' hne y y' hy hy' => ?_, fun b hAb hb => ?_, h.tm_step hS hf hu hw hle hv⟩
 ·rw [getD_set hil, if_neg (hnE e he)]; exact h.pE e he
 ·rw [getD_set hil] at hb
  split at hb
  ·rename_i he; subst he
   refine ⟨x, by omega, J.upd_same _ _ _, by rw [hx]; exact h.gd.size, by omega, ho, fun hi => ?_⟩
   have := (Img.lt h.gd.rel (hImg _ hi)).2
   omega
  ·rename_i he
   obtain ⟨y, h1, h2, h3, h4, h5, h6⟩ := h.pn b hb hAb hL
   exact ⟨y, h1, by rw [hget b he]; exact h2, h3, by omega, h5.mono hle (hh _ h4), fun hi => h6 (hImg _ hi)⟩
 ·rw [getD_set hil] at hb hb'
  split at hb
  ·rename_i he
   split at hb'
   ·rename_i he'; omega
   ·rename_i he'
    obtain ⟨z, hz, hzc⟩ := hold b' hb' hAb' hL'
    rw [hget b' he', hz] at hy'; cases hy'
    rw [he, J.upd_same] at hy; cases hy
    omega
  ·rename_i he
   obtain ⟨z, hz, hzc⟩ := hold b hb hAb hL
   split at hb'
   ·rename_i he'
    rw [hget b he, hz] at hy; cases hy
    rw [he', J.upd_same] at hy'; cases hy'
    omega
   ·rename_i he'
    rw [hget b he] at hy
    rw [hget b' he'] at hy'
    exact h.pd b b' hb hb' hAb hAb' hL hL' hne y y' hy hy'
 ·rw [getD_set hil] at hb
  split at hb
  ·cases hb
  ·rename_i he
   rw [hget b he]; exact h.un b hAb hb
end
end Go.Gr
