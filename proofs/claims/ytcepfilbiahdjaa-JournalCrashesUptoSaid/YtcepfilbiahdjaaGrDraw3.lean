/- A drawn region: what must come before; blocks that are laid late. -/
import Derived.Test.YtcepfilbiahdjaaGrDraw2
set_option linter.unusedVariables false
set_option linter.unusedSimpArgs false
set_option linter.unusedSectionVars false
namespace Go.Gr
def befStep (acc : Array Nat) (o : Oper) : Array Nat :=
 acc.push (o.after.foldl (fun s e => if Region.binds .any e then s ||| 2 ^ e.on ||| acc.getD e.on 0 else s) 0)
theorem inner_bit (acc : Array Nat) (k : Nat) : ∀ (l : List Edge) (s : Nat), Nat.testBit (l.foldl (fun s e => if Region.binds .any e then s ||| 2 ^ e.on ||| acc.getD e.on 0 else s) s) k = true →
 Nat.testBit s k = true ∨ ∃ e ∈ l, Region.binds .any e = true ∧ (k = e.on ∨ Nat.testBit (acc.getD e.on 0) k = true)
 | [], s, h => .inl h
 | e :: l, s, h => by
   simp only [List.foldl_cons] at h
   rcases inner_bit acc k l _ h with h1 | ⟨e', h1, h2⟩
   ·split at h1
    ·rename_i hb
     simp only [Nat.testBit_or, Bool.or_eq_true] at h1
     rcases h1 with (h1 | h1) | h1
     ·exact .inl h1
     ·rw [Nat.testBit_two_pow] at h1
      simp only [decide_eq_true_eq] at h1
      exact .inr ⟨e, List.mem_cons_self, hb, .inl h1.symm⟩
     ·exact .inr ⟨e, List.mem_cons_self, hb, .inr h1⟩
    ·exact .inl h1
   ·exact .inr ⟨e', List.mem_cons_of_mem _ h1, h2⟩
def BefInv (ops : Array Oper) (acc : Array Nat) : Prop :=
 ∀ i k, Nat.testBit (acc.getD i 0) k = true → ∃ o, ops[i]? = some o ∧ ∃ e ∈ o.after.toList, Region.binds .any e = true ∧ (k = e.on ∨ Nat.testBit (acc.getD e.on 0) k = true)
theorem getD_push (acc : Array Nat) (x : Nat) (i : Nat) : (acc.push x).getD i 0 = if i = acc.size then x else acc.getD i 0 := by
 simp only [Array.getD_eq_getD_getElem?, Array.getElem?_push]
 split <;> simp_all
theorem bit_lt {acc : Array Nat} {i k : Nat} (h : Nat.testBit (acc.getD i 0) k = true) : i < acc.size := by
 rcases Nat.lt_or_ge i acc.size with h' | h'
 ·exact h'
 ·simp [Array.getD_eq_getD_getElem?, Array.getElem?_eq_none h'] at h
theorem bef_fold {ops : Array Oper} : ∀ (rem : List Oper) (acc : Array Nat), rem = ops.toList.drop acc.size → BefInv ops acc → BefInv ops (rem.foldl befStep acc)
 | [], acc, _, h => h
 | o :: rem, acc, hr, h => by
   obtain ⟨ho, hrem⟩ := drop_cons hr
   simp only [List.foldl_cons]
   refine bef_fold rem _ (by simp [befStep]; exact hrem) ?_
   have hst : ∀ i k, Nat.testBit (acc.getD i 0) k = true → Nat.testBit ((befStep acc o).getD i 0) k = true := by
    intro i k hb
    have := bit_lt hb
    unfold befStep
    rw [getD_push, if_neg (by omega)]; exact hb
   intro i k hb
   have hb0 := hb
   unfold befStep at hb
   rw [getD_push] at hb
   split at hb
   ·rename_i hi
    rw [← Array.foldl_toList] at hb
    rcases inner_bit acc k _ _ hb with h1 | ⟨e, h1, h2, h3⟩
    ·simp at h1
    ·refine ⟨o, by rw [hi]; exact ho, e, h1, h2, ?_⟩
     rcases h3 with h3 | h3
     ·exact .inl h3
     ·exact .inr (hst _ _ h3)
   ·obtain ⟨o', h1, e, h2, h3, h4⟩ := h i k hb
    refine ⟨o', h1, e, h2, h3, ?_⟩
    rcases h4 with h4 | h4
    ·exact .inl h4
    ·exact .inr (hst _ _ h4)
theorem before_spec {ops : Array Oper} : BefInv ops (Region.before ops) := by
 have : Region.before ops = ops.toList.foldl befStep #[] := by
  unfold Region.before
  rw [← Array.foldl_toList]
  rfl
 rw [this]
 exact bef_fold ops.toList #[] (by simp) (fun i k h => absurd (bit_lt h) (by simp))
structure DrawSpec (E : Env) (ops : Array Oper) : Prop where
 bef : BefInv ops (Region.before ops)
 edge : ∀ i o, ops[i]? = some o → ∀ e ∈ o.after.toList, Region.binds .any e = true → e.on < i
 pair : ∀ i k oi ok, k < i → ops[i]? = some oi → ops[k]? = some ok → Nat.testBit ((Region.before ops).getD i 0) k = true ∨ (oi.apart ops ok = true ∧ ¬ (cls E oi.op = 3 ∧ cls E ok.op = 3))
theorem drawOk_spec {E : Env} {ops : Array Oper} (h : drawOk E ops (Region.before ops) = true) : DrawSpec E ops := by
 unfold drawOk at h
 simp only [Bool.and_eq_true, List.all_eq_true, List.mem_range] at h
 obtain ⟨h1, h2⟩ := h
 have hget : ∀ i o, ops[i]? = some o → i < ops.size ∧ ops.getD i default = o := by
  intro i o ho
  refine ⟨(Array.getElem?_eq_some_iff.1 ho).1, by simp [Array.getD_eq_getD_getElem?, ho]⟩
 refine ⟨before_spec, fun i o ho e he hb => ?_, fun i k oi ok hk hi hko => ?_⟩
 ·obtain ⟨hlt, hd⟩ := hget i o ho
  have := h2 i hlt e (by rw [hd]; exact he)
  simp only [hb, Bool.not_true, Bool.false_or] at this
  exact Nat.le_of_ble_eq_true this
 ·obtain ⟨hlt, hd⟩ := hget i oi hi
  obtain ⟨hlt', hd'⟩ := hget k ok hko
  have := h1 i hlt k hk
  rw [hd, hd'] at this
  simp only [Bool.or_eq_true, Bool.and_eq_true, Bool.not_eq_true', Bool.and_eq_false_iff, beq_eq_false_iff_ne, ne_eq] at this
  rcases this with h | ⟨h, h'⟩
  ·exact .inl h
  ·exact .inr ⟨h, fun hh => h'.elim (fun h' => h' hh.1) (fun h' => h' hh.2)⟩
theorem DrawSpec.lt {E : Env} {ops : Array Oper} (h : DrawSpec E ops) : ∀ i k, Nat.testBit ((Region.before ops).getD i 0) k = true → k < i := by
 intro i
 induction i using Nat.strongRecOn with
 | _ i ih =>
   intro k hb
   obtain ⟨o, ho, e, he, hbi, hk⟩ := h.bef i k hb
   have := h.edge i o ho e he hbi
   rcases hk with rfl | hk
   ·exact this
   ·have := ih e.on this k hk
    omega
def layP (f : Nat → Bool) : Pend → AS → AS
 | [], S => S
 | x :: r, S => cond (f x.1) (layP f r (S.lay x.2)) (layP f r S)
theorem layB_eq (b : Nat) : ∀ (pd : Pend) (S : AS), layB b pd S = layP (Nat.testBit b) pd S
 | [], S => rfl
 | x :: r, S => by simp only [layB, layP, layB_eq b r]
theorem layAll_eq : ∀ (pd : Pend) (S : AS), layAll pd S = layP (fun _ => true) pd S
 | [], S => rfl
 | x :: r, S => by simp only [layAll, layP, layAll_eq r, cond_true]
theorem mem_restB {b : Nat} : ∀ {pd : Pend} {y}, y ∈ restB b pd ↔ y ∈ pd ∧ Nat.testBit b y.1 = false
 | [], y => by simp [restB]
 | x :: r, y => by
   simp only [restB]
   cases hb : Nat.testBit b x.1 with
   | true =>
     simp only [cond_true, mem_restB (pd := r), List.mem_cons]
     constructor
     ·rintro ⟨h1, h2⟩; exact ⟨.inr h1, h2⟩
     ·rintro ⟨rfl | h1, h2⟩
      ·rw [hb] at h2; cases h2
      ·exact ⟨h1, h2⟩
   | false =>
     simp only [cond_false, List.mem_cons, mem_restB (pd := r)]
     constructor
     ·rintro (rfl | ⟨h1, h2⟩)
      ·exact ⟨.inl rfl, hb⟩
      ·exact ⟨.inr h1, h2⟩
     ·rintro ⟨rfl | h1, h2⟩
      ·exact .inl rfl
      ·exact .inr ⟨h1, h2⟩
theorem restB_sub (b : Nat) : ∀ (pd : Pend), (restB b pd).Sublist pd
 | [] => List.Sublist.refl _
 | x :: r => by
   simp only [restB]
   cases Nat.testBit b x.1
   ·simp only [cond_false]; exact (restB_sub b r).cons_cons x
   ·simp only [cond_true]; exact (restB_sub b r).cons x
def Pnd (ws : World) (j : J) (S : AS) (w : World) (n : Nat) (ob : AObj) (x : BI) : Prop :=
 n < S.next ∧ j (.rw n) = some x ∧ ws.heap.size ≤ x.c ∧ x.c < w.heap.size ∧ ObjR j ob x w ∧ ¬ Img j S x.c
theorem Pnd.own {ws : World} {j : J} {S : AS} {w : World} {n : Nat} {ob : AObj} {x : BI} (h : Pnd ws j S w n ob x) : ¬ Own S n :=
 fun ho => h.2.2.2.2.2 ⟨n, x, ho, h.2.1, rfl⟩
theorem own_lay {S : AS} {n m : Nat} {ob : AObj} : Own (S.lay (n, ob)) m → Own S m ∨ m = n := by
 rintro (⟨p, hp⟩ | ⟨L, hL⟩)
 ·simp only [AS.lay, Tr.get_set] at hp
  split at hp
  ·rename_i he; exact .inr he
  ·exact .inl (.inl ⟨p, hp⟩)
 ·exact .inl (.inr ⟨L, hL⟩)
theorem R.lay {w0 ws w : World} {j : J} {S : AS} (h : R w0 j S w) {n : Nat} {ob : AObj} {x : BI} (hp : Pnd ws j S w n ob x) (hs : w0.heap.size ≤ ws.heap.size) : R w0 j (S.lay (n, ob)) w := by
 have hown := hp.own
 obtain ⟨hn, hx, hc, hlt, ho, hi⟩ := hp
 refine ⟨h.size, h.base, fun m p hm => ?_, h.ro, h.lp, fun a b y z ha hb hy hz he => ?_, h.fresh, h.nd, h.env, h.gl⟩
 ·simp only [AS.lay, Tr.get_set] at hm
  split at hm
  ·rename_i he; subst he; cases hm
   exact ⟨hn, x, hx, by omega, ho⟩
  ·exact h.rw m p hm
 ·rcases own_lay ha with ha' | ha' <;> rcases own_lay hb with hb' | hb'
  ·exact h.inj a b y z ha' hb' hy hz he
  ·rw [hb', hx] at hz; cases hz
   exact absurd ⟨a, y, ha', hy, he⟩ hi
  ·rw [ha', hx] at hy; cases hy
   exact absurd ⟨b, z, hb', hz, he.symm⟩ hi
  ·rw [ha', hb']
theorem img_lay {j : J} {S : AS} {n c : Nat} {ob : AObj} {x : BI} (hx : j (.rw n) = some x) (h : Img j (S.lay (n, ob)) c) : Img j S c ∨ c = x.c := by
 obtain ⟨m, y, hm, hy, rfl⟩ := h
 rcases own_lay hm with hm | rfl
 ·exact .inl ⟨m, y, hm, hy, rfl⟩
 ·rw [hx] at hy; cases hy; exact .inr rfl
theorem Good.lay {w0 ws w : World} {j0 j : J} {S0 S : AS} (hr : R w0 j0 S0 ws) (h : Good w0 j0 S0 ws j S w) {n : Nat} {ob : AObj} {x : BI} (hp : Pnd ws j S w n ob x) : Good w0 j0 S0 ws j (S.lay (n, ob)) w :=
 ⟨h.le, h.rel.lay hp hr.size, h.size, h.fr, fun c hc hi => by
  rcases img_lay hp.2.1 hi with hi | rfl
  ·exact h.img c hc hi
  ·have := hp.2.2.1; omega, h.nx, h.old⟩
theorem layP_ok {w0 ws w : World} {j0 j : J} {S0 : AS} (hr : R w0 j0 S0 ws) (f : Nat → Bool) : ∀ (pd : Pend) (S : AS), Good w0 j0 S0 ws j S w →
 (∀ y ∈ pd, f y.1 = true → ∃ x, Pnd ws j S w y.2.1 y.2.2 x) →
 (∀ y z, y ∈ pd → z ∈ pd → f y.1 = true → f z.1 = true → y.1 ≠ z.1 → ∀ x x', j (.rw y.2.1) = some x → j (.rw z.2.1) = some x' → x.c ≠ x'.c) →
 pd.Pairwise (fun y z => y.1 ≠ z.1) →
 Good w0 j0 S0 ws j (layP f pd S) w ∧ (∀ c, Img j (layP f pd S) c → Img j S c ∨ ∃ y ∈ pd, f y.1 = true ∧ ∃ x, j (.rw y.2.1) = some x ∧ x.c = c) ∧ (layP f pd S).loops = S.loops ∧ (layP f pd S).next = S.next
 | [], S, h, _, _, _ => ⟨h, fun c hc => .inl hc, rfl, rfl⟩
 | y :: pd, S, h, hp, hd, hw => by
   rw [List.pairwise_cons] at hw
   simp only [layP]
   cases hf : f y.1 with
   | false =>
     simp only [cond_false]
     obtain ⟨h1, h2, h3, h4⟩ := layP_ok hr f pd S h (fun z hz => hp z (List.mem_cons_of_mem _ hz)) (fun a b ha hb => hd a b (List.mem_cons_of_mem _ ha) (List.mem_cons_of_mem _ hb)) hw.2
     refine ⟨h1, fun c hc => ?_, h3, h4⟩
     rcases h2 c hc with h | ⟨z, hz, h⟩
     ·exact .inl h
     ·exact .inr ⟨z, List.mem_cons_of_mem _ hz, h⟩
   | true =>
     simp only [cond_true]
     obtain ⟨x, hx⟩ := hp y List.mem_cons_self hf
     have hg := h.lay hr hx
     obtain ⟨h1, h2, h3, h4⟩ := layP_ok hr f pd (S.lay y.2) hg (fun z hz hfz => by
      obtain ⟨x', q1, q2, q3, q4, q5, q6⟩ := hp z (List.mem_cons_of_mem _ hz) hfz
      refine ⟨x', q1, q2, q3, q4, q5, fun hi => ?_⟩
      rcases img_lay (ob := y.2.2) hx.2.1 hi with hi | hi
      ·exact q6 hi
      ·exact hd y z List.mem_cons_self (List.mem_cons_of_mem _ hz) hf hfz (hw.1 z hz) x x' hx.2.1 q2 hi.symm) (fun a b ha hb => hd a b (List.mem_cons_of_mem _ ha) (List.mem_cons_of_mem _ hb)) hw.2
     refine ⟨h1, fun c hc => ?_, h3, h4⟩
     rcases h2 c hc with h | ⟨z, hz, h⟩
     ·rcases img_lay (ob := y.2.2) hx.2.1 h with h | h
      ·exact .inl h
      ·exact .inr ⟨y, List.mem_cons_self, hf, x, hx.2.1, h.symm⟩
     ·exact .inr ⟨z, List.mem_cons_of_mem _ hz, h⟩
theorem Good.ext {w0 ws w w' : World} {j0 j : J} {S0 S : AS} (h : Good w0 j0 S0 ws j S w) {n : Nat} {x : BI} (hn : j (.rw n) = none) (h1 : S0.next ≤ n) (h2 : n < S.next) (hs : w.heap.size ≤ w'.heap.size) (he : w'.os = w.os ∧ w'.output = w.output ∧ w'.tape = w.tape) (hh : ∀ c, c < w.heap.size → w'.heap[c]? = w.heap[c]?) :
 Good w0 j0 S0 ws (J.upd j n x) S w' := by
 have hle' := J.le_upd x hn
 have hR := h.rel
 have hno : ∀ m, Own S m → m ≠ n := by
  intro m hm he; subst he
  rcases hm with ⟨o, ho⟩ | ⟨L, hL, rfl⟩
  ·obtain ⟨_, y, hy, _⟩ := hR.rw m o ho; rw [hn] at hy; cases hy
  ·obtain ⟨_, y, hy, _⟩ := hR.lp L hL; rw [hn] at hy; cases hy
 have hlt : ∀ m y, Own S m → j (.rw m) = some y → y.c < w.heap.size := fun m y hm hy => (Img.lt hR ⟨m, y, hm, hy, rfl⟩).2
 refine ⟨J.le_trans h.le hle', ⟨by have := hR.size; omega, fun c hc => ?_, fun m p hp => ?_, fun m cs hm => ?_, fun L hL => ?_, fun a b y z ha hb hy hz he => ?_, fun m hm => ?_, hR.nd, ⟨he.1.trans hR.env.1, he.2.1.trans hR.env.2.1, he.2.2.trans hR.env.2.2⟩, hR.gl.mono hle'⟩, Nat.le_trans h.size hs, fun c hc hi => ?_, fun c hc hi => ?_, h.nx, fun m hm hj => by rw [J.upd_ne j x (by omega)]; exact h.old m hm hj⟩
 ·rw [hh c (by have := hR.size; omega)]; exact hR.base c hc
 ·obtain ⟨h1, y, hy, hb, hr'⟩ := hR.rw m p hp
  exact ⟨h1, y, hle' _ _ hy, hb, hr'.mono hle' (hh _ (hlt m y (.inl ⟨p, hp⟩) hy))⟩
 ·obtain ⟨y, hy, hb, hr'⟩ := hR.ro m cs hm
  exact ⟨y, hle' _ _ hy, hb, hr'.mono hle' (hh _ (by have := hR.size; omega))⟩
 ·obtain ⟨h1, y, hy, hb, hr'⟩ := hR.lp L hL
  exact ⟨h1, y, hle' _ _ hy, hb, hr'.mono hle' (hh _ (hlt L.id y (.inr ⟨L, hL, rfl⟩) hy))⟩
 ·rw [J.upd_ne j x (hno a ha)] at hy
  rw [J.upd_ne j x (hno b hb)] at hz
  exact hR.inj a b y z ha hb hy hz he
 ·rw [J.upd_ne j x (by omega)]; exact hR.fresh m hm
 ·rw [hh c (by have := h.size; omega)]; exact h.fr c hc hi
 ·obtain ⟨m, y, hm, hy, hc'⟩ := hi
  rw [J.upd_ne j x (hno m hm)] at hy
  exact h.img c hc ⟨m, y, hm, hy, hc'⟩
end Go.Gr
