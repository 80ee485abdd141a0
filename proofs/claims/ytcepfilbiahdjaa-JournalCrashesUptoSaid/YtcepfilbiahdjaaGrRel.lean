/- What an abstract state says of a world: values, blocks, loops; how it is kept. -/
import Derived.Test.YtcepfilbiahdjaaGrCore
set_option linter.unusedVariables false
set_option linter.unusedSimpArgs false
namespace Go.Gr
structure BI where
 c : Nat
 off : Nat
 tot : Nat
abbrev J := Bid → Option BI
def J.le (j j' : J) : Prop := ∀ b x, j b = some x → j' b = some x
def GlR (j : J) : Prop := ∀ g, ∃ x, j (.ro (2 * g + 1)) = some x ∧ x.c = g ∧ x.off = 0
theorem GlR.mono {j j' : J} (h : j.le j') (k : GlR j) : GlR j' := fun g => by
 obtain ⟨x, h1, h2⟩ := k g
 exact ⟨x, h _ _ h1, h2⟩
mutual
def VR (j : J) : AV → Value → Prop
 | .undef, _ => True
 | .int k n, v => v = .int k n
 | .bool b, v => v = .bool b
 | .str s, v => v = .string ⟨s.toArray⟩
 | .ptr none, v => v = .pointer none
 | .ptr (some (b, i)), v => ∃ x, j b = some x ∧ v = .pointer (some ⟨x.c, x.off + i, none⟩)
 | .sl none l c, v => l = 0 ∧ c = .ex 0 ∧ v = .slice none 0 0
 | .sl (some (b, i)) l c, v => ∃ (x : BI) (A : Addr) (c' : Nat), j b = some x ∧ v = .slice (some A) l c' ∧ l ≤ c' ∧ (∀ y, c = .ex y → c' = y) ∧ (c' = 0 ∨ A = ⟨x.c, x.off + i, none⟩) ∧ (∀ z m, c = .op z m → x.off + i + c' * z ≤ x.tot ∧ m ≤ c')
 | .mp none, v => v = .map none
 | .mp (some n), v => ∃ x, j (.rw n) = some x ∧ v = .map (some x.c)
 | .fn f a b, v => ∃ A B, v = .func (.func f) A B ∧ VRs j a A.toList ∧ VRs j b B.toList
 | .nilFn, v => v = .nilFunc
 | .yld k, v => ∃ x, j (.rw k) = some x ∧ v = .func (.yield x.c) #[] #[]
 | .iface t x, v => ∃ y, v = .iface t y ∧ VR j x y
 | .nilIface, v => v = .nilIface
 | .mth t name, v => ∃ y, v = .func (.method name) #[.iface t y] #[]
 | .agg l, v => ∃ A, v = .agg A ∧ VRs j l A.toList ∧ ∀ x ∈ A.toList, Value.oneCell' x = true
 | .tup l, v => ∃ A, v = .tuple A ∧ VRs j l A.toList
def VRs (j : J) : List AV → List Value → Prop
 | [], vs => vs = []
 | x :: xs, vs => ∃ v r, vs = v :: r ∧ VR j x v ∧ VRs j xs r
end
mutual
theorem VR.mono {j j' : J} (h : j.le j') : ∀ (x : AV) (v : Value), VR j x v → VR j' x v
 | .undef, _, _ => by simp [VR]
 | .int k n, _, r => by simpa [VR] using r
 | .bool b, _, r => by simpa [VR] using r
 | .str s, _, r => by simpa [VR] using r
 | .ptr none, _, r => by simpa [VR] using r
 | .ptr (some (b, i)), _, r => by
   simp only [VR] at r ⊢
   obtain ⟨x, h1, h2⟩ := r
   exact ⟨x, h _ _ h1, h2⟩
 | .sl none l c, _, r => by simpa [VR] using r
 | .sl (some (b, i)) l c, _, r => by
   simp only [VR] at r ⊢
   obtain ⟨x, o, c', h1, h2⟩ := r
   exact ⟨x, o, c', h _ _ h1, h2⟩
 | .mp none, _, r => by simpa [VR] using r
 | .mp (some n), _, r => by
   simp only [VR] at r ⊢
   obtain ⟨x, h1, h2⟩ := r
   exact ⟨x, h _ _ h1, h2⟩
 | .fn f a b, _, r => by
   simp only [VR] at r ⊢
   obtain ⟨A, B, h1, h2, h3⟩ := r
   exact ⟨A, B, h1, VRs.mono h a _ h2, VRs.mono h b _ h3⟩
 | .nilFn, _, r => by simpa [VR] using r
 | .yld k, _, r => by
   simp only [VR] at r ⊢
   obtain ⟨x, h1, h2⟩ := r
   exact ⟨x, h _ _ h1, h2⟩
 | .iface t x, _, r => by
   simp only [VR] at r ⊢
   obtain ⟨y, h1, h2⟩ := r
   exact ⟨y, h1, VR.mono h x y h2⟩
 | .nilIface, _, r => by simpa [VR] using r
 | .mth t name, _, r => by simpa [VR] using r
 | .agg l, _, r => by
   simp only [VR] at r ⊢
   obtain ⟨A, h1, h2, h3⟩ := r
   exact ⟨A, h1, VRs.mono h l _ h2, h3⟩
 | .tup l, _, r => by
   simp only [VR] at r ⊢
   obtain ⟨A, h1, h2⟩ := r
   exact ⟨A, h1, VRs.mono h l _ h2⟩
theorem VRs.mono {j j' : J} (h : j.le j') : ∀ (xs : List AV) (vs : List Value), VRs j xs vs → VRs j' xs vs
 | [], _, r => by simpa [VRs] using r
 | x :: xs, vs, r => by
   simp only [VRs] at r ⊢
   obtain ⟨v, r', h1, h2, h3⟩ := r
   exact ⟨v, r', h1, VR.mono h x v h2, VRs.mono h xs r' h3⟩
end
theorem J.le_refl (j : J) : j.le j := fun _ _ h => h
theorem J.le_trans {a b c : J} (h : a.le b) (k : b.le c) : a.le c := fun x y r => k x y (h x y r)
theorem VRs.length {j : J} : ∀ {xs : List AV} {vs : List Value}, VRs j xs vs → xs.length = vs.length
 | [], vs, r => by simp only [VRs] at r; simp [r]
 | x :: xs, vs, r => by
   simp only [VRs] at r
   obtain ⟨v, r', rfl, _, h3⟩ := r
   simp [VRs.length h3]
theorem VRs.get {j : J} : ∀ {xs : List AV} {vs : List Value} (i : Nat) (x : AV), VRs j xs vs → xs[i]? = some x → ∃ v, vs[i]? = some v ∧ VR j x v
 | [], _, i, x, _, hx => by simp at hx
 | y :: ys, vs, 0, x, r, hx => by
   simp only [VRs] at r
   obtain ⟨v, r', rfl, h2, _⟩ := r
   simp at hx; subst hx
   exact ⟨v, by simp, h2⟩
 | y :: ys, vs, i + 1, x, r, hx => by
   simp only [VRs] at r
   obtain ⟨v, r', rfl, _, h3⟩ := r
   simpa using VRs.get i x h3 (by simpa using hx)
theorem VRs.of_get {j : J} : ∀ {xs : List AV} {vs : List Value}, xs.length = vs.length → (∀ (i : Nat) (x : AV) (v : Value), xs[i]? = some x → vs[i]? = some v → VR j x v) → VRs j xs vs
 | [], vs, hl, _ => by simp only [VRs]; simpa using hl.symm
 | x :: xs, vs, hl, h => by
   cases vs with
   | nil => simp at hl
   | cons v r =>
     simp only [VRs]
     refine ⟨v, r, rfl, h 0 x v (by simp) (by simp), VRs.of_get (by simpa using hl) fun i y u hy hu => h (i + 1) y u (by simpa using hy) (by simpa using hu)⟩
theorem VRs.append {j : J} : ∀ {xs ys : List AV} {vs ws : List Value}, VRs j xs vs → VRs j ys ws → VRs j (xs ++ ys) (vs ++ ws)
 | [], ys, vs, ws, h, k => by simp only [VRs] at h; subst h; simpa using k
 | x :: xs, ys, vs, ws, h, k => by
   simp only [VRs] at h
   obtain ⟨v, r, rfl, h2, h3⟩ := h
   simp only [List.cons_append, VRs]
   exact ⟨v, r ++ ws, rfl, h2, h3.append k⟩
theorem VRs.take {j : J} {xs : List AV} {vs : List Value} (n : Nat) (h : VRs j xs vs) : VRs j (xs.take n) (vs.take n) := by
 have hl := h.length
 refine VRs.of_get (by simp [hl]) fun i x v hx hv => ?_
 rw [List.getElem?_take] at hx hv
 split at hx
 ·rename_i hi
  simp only [hi, if_true] at hv
  obtain ⟨u, hu, hr⟩ := h.get i x hx
  rw [hu] at hv; cases hv; exact hr
 ·simp at hx
theorem VRs.drop {j : J} {xs : List AV} {vs : List Value} (n : Nat) (h : VRs j xs vs) : VRs j (xs.drop n) (vs.drop n) := by
 have hl := h.length
 refine VRs.of_get (by simp [hl]) fun i x v hx hv => ?_
 rw [List.getElem?_drop] at hx hv
 obtain ⟨u, hu, hr⟩ := h.get _ x hx
 rw [hu] at hv; cases hv; exact hr
theorem VR.oneCell {j : J} : ∀ {x : AV} {v : Value}, VR j x v → (x ≠ .undef) → (∀ l, x ≠ .agg l) → (∀ l, x ≠ .tup l) → Value.oneCell' v = true := by
 intro x v h h1 h2 h3
 cases x with
 | undef => exact absurd rfl h1
 | agg l => exact absurd rfl (h2 l)
 | tup l => exact absurd rfl (h3 l)
 | ptr a => cases a with
   | none => simp only [VR] at h; subst h; rfl
   | some p => obtain ⟨b, i⟩ := p; simp only [VR] at h; obtain ⟨x, _, rfl⟩ := h; rfl
 | sl a l c => cases a with
   | none => simp only [VR] at h; obtain ⟨_, _, rfl⟩ := h; rfl
   | some p => obtain ⟨b, i⟩ := p; simp only [VR] at h; obtain ⟨x, o, c', _, rfl, _⟩ := h; rfl
 | mp r => cases r with
   | none => simp only [VR] at h; subst h; rfl
   | some n => simp only [VR] at h; obtain ⟨x, _, rfl⟩ := h; rfl
 | fn f a b => simp only [VR] at h; obtain ⟨A, B, rfl, _⟩ := h; rfl
 | yld k => simp only [VR] at h; obtain ⟨x, _, rfl⟩ := h; rfl
 | iface t y => simp only [VR] at h; obtain ⟨y, rfl, _⟩ := h; rfl
 | int k n => simp only [VR] at h; subst h; rfl
 | bool b => simp only [VR] at h; subst h; rfl
 | str s => simp only [VR] at h; subst h; rfl
 | nilFn => simp only [VR] at h; subst h; rfl
 | nilIface => simp only [VR] at h; subst h; rfl
 | mth t name => simp only [VR] at h; obtain ⟨y, rfl⟩ := h; rfl
def CellsR (j : J) (cs : List AV) (x : BI) (w : World) : Prop :=
 ∃ C e fr, w.heap[x.c]? = some (.cells C e fr) ∧ C.size = x.tot ∧ x.off + cs.length ≤ x.tot ∧
   ∀ i v, cs[i]? = some v → ∃ u, C[x.off + i]? = some u ∧ VR j v u ∧ Value.oneCell' u = true
def unfrozen (x : BI) (w : World) : Prop := ∀ C e fr, w.heap[x.c]? = some (.cells C e fr) → fr.1 = fr.2 ∨ x.tot ≤ fr.1
def ObjR (j : J) (o : AObj) (x : BI) (w : World) : Prop :=
 match o with
 | .cells cs => CellsR j cs x w ∧ unfrozen x w
 | .map kk es => ∃ ms clk, w.heap[x.c]? = some (.map ms clk) ∧ (∀ e ∈ es, keyFits kk e.1 = true) ∧ VRs j (es.map (·.1)) (ms.toList.map (·.key)) ∧ VRs j (es.map (·.2)) (ms.toList.map (·.val))
def jumpOf : Option Exit → Option (Option Code)
 | none => some none
 | some .ret => some (some .ret)
 | some (.exit i) => some (some (.exit i))
 | _ => none
def LSt.conc : LSt → LoopState
 | .ready => .ready
 | .busy => .busy
 | .done => .done
def TR (j : J) (T : Tm) (tm : Array Value) : Prop := ∀ t, VR j (look T t) (tm.getD t undef) ∧ (look T t ≠ .undef → t < tm.size) ∧ GlR j
def LoopR (j : J) (L : ALoop) (x : BI) (w : World) : Prop :=
 ∃ tm d pend fn, w.heap[x.c]? = some (.loop { state := L.st.conc, pending := pend, fn := fn, tmps := tm, params := L.params.toArray, assign := L.assign, body := L.body, defers := d }) ∧
   jumpOf L.pend = some pend ∧ TR j L.T tm ∧ wfC tm.size L.assign = true ∧ wfC tm.size L.body = true ∧ ∀ p ∈ L.params, p < tm.size
def Own (S : AS) (n : Nat) : Prop := (∃ o, S.rw.get n = some o) ∨ ∃ L ∈ S.loops, L.id = n
def Img (j : J) (S : AS) (c : Nat) : Prop := ∃ n x, Own S n ∧ j (.rw n) = some x ∧ x.c = c
structure R (w0 : World) (j : J) (S : AS) (w : World) : Prop where
 size : w0.heap.size ≤ w.heap.size
 base : ∀ c, c < w0.heap.size → w.heap[c]? = w0.heap[c]?
 rw : ∀ n o, S.rw.get n = some o → n < S.next ∧ ∃ x, j (.rw n) = some x ∧ w0.heap.size ≤ x.c ∧ ObjR j o x w
 ro : ∀ n cs, S.ro n = some cs → ∃ x, j (.ro n) = some x ∧ x.c < w0.heap.size ∧ CellsR j cs x w
 lp : ∀ L ∈ S.loops, L.id < S.next ∧ ∃ x, j (.rw L.id) = some x ∧ w0.heap.size ≤ x.c ∧ LoopR j L x w
 inj : ∀ n m x y, Own S n → Own S m → j (.rw n) = some x → j (.rw m) = some y → x.c = y.c → n = m
 fresh : ∀ n, S.next ≤ n → j (.rw n) = none
 nd : (S.loops.map (·.id)).Nodup
 env : w.os = w0.os ∧ w.output = w0.output ∧ w.tape = w0.tape
 gl : GlR j
structure Good (w0 : World) (j : J) (S : AS) (w : World) (j' : J) (S' : AS) (w' : World) : Prop where
 le : j.le j'
 rel : R w0 j' S' w'
 size : w.heap.size ≤ w'.heap.size
 fr : ∀ c, c < w.heap.size → ¬ Img j S c → w'.heap[c]? = w.heap[c]?
 img : ∀ c, c < w.heap.size → Img j' S' c → Img j S c
 nx : S.next ≤ S'.next
 old : ∀ n, n < S.next → j (.rw n) = none → j' (.rw n) = none
theorem Good.refl {w0 : World} {j : J} {S : AS} {w : World} (h : R w0 j S w) : Good w0 j S w j S w :=
 ⟨J.le_refl j, h, Nat.le_refl _, fun _ _ _ => rfl, fun _ _ h => h, Nat.le_refl _, fun _ _ h => h⟩
theorem Good.trans {w0 : World} {j j' j'' : J} {S S' S'' : AS} {w w' w'' : World} (h : Good w0 j S w j' S' w') (k : Good w0 j' S' w' j'' S'' w'') : Good w0 j S w j'' S'' w'' := by
 refine ⟨J.le_trans h.le k.le, k.rel, Nat.le_trans h.size k.size, fun c hc hi => ?_, fun c hc hi => ?_, Nat.le_trans h.nx k.nx, fun n hn hj => k.old n (Nat.lt_of_lt_of_le hn h.nx) (h.old n hn hj)⟩
 ·rw [k.fr c (Nat.lt_of_lt_of_le hc h.size) (fun hi' => hi (h.img c hc hi')), h.fr c hc hi]
 ·exact h.img c hc (k.img c (Nat.lt_of_lt_of_le hc h.size) hi)
theorem Own.lt {w0 : World} {j : J} {S : AS} {w : World} (h : R w0 j S w) {n : Nat} (ho : Own S n) : n < S.next := by
 rcases ho with ⟨o, ho⟩ | ⟨L, hL, rfl⟩
 ·exact (h.rw n o ho).1
 ·exact (h.lp L hL).1
theorem Img.lt {w0 : World} {j : J} {S : AS} {w : World} (h : R w0 j S w) {c : Nat} (hi : Img j S c) : w0.heap.size ≤ c ∧ c < w.heap.size := by
 obtain ⟨n, x, ho, hx, rfl⟩ := hi
 rcases ho with ⟨o, ho⟩ | ⟨L, hL, rfl⟩
 ·obtain ⟨_, y, hy, hb, hr⟩ := h.rw n o ho
  rw [hx] at hy; cases hy
  refine ⟨hb, ?_⟩
  cases o with
  | cells cs => obtain ⟨⟨C, e', fr, hc, _⟩, _⟩ := hr; exact (Array.getElem?_eq_some_iff.1 hc).1
  | map kk es => obtain ⟨ms, clk, hc, _⟩ := hr; exact (Array.getElem?_eq_some_iff.1 hc).1
 ·obtain ⟨_, y, hy, hb, tm, d, pend, fn, hc, _⟩ := h.lp L hL
  rw [hx] at hy; cases hy
  exact ⟨hb, (Array.getElem?_eq_some_iff.1 hc).1⟩
theorem beq_zero_true {n : Nat} (h : Nat.beq n 0 = true) : n = 0 := Nat.eq_of_beq_eq_true h
theorem beq_zero_false {n : Nat} (h : Nat.beq n 0 = false) : n ≠ 0 := Nat.ne_of_beq_eq_false h
theorem Tr.get_setF : ∀ (f : Nat) (t : Tr) (n m : Nat) (v : Option PObj), n < f → (Tr.setF f t n v).getP m = if m = n then v else t.getP m
 | 0, t, n, m, v, h => by omega
 | f + 1, .nil, 0, m, v, h => by cases m <;> simp [Tr.setF, Tr.getP]
 | f + 1, .nil, n + 1, m, v, h => by
   have hd : n / 2 < f := by omega
   cases m with
   | zero =>
     simp only [Tr.setF]
     cases hb : Nat.beq (n % 2) 0 <;> simp [Tr.getP]
   | succ m =>
     simp only [Tr.setF]
     cases hb : Nat.beq (n % 2) 0 <;> cases hm : Nat.beq (m % 2) 0 <;> simp only [cond_true, cond_false, Tr.getP, hm, Tr.get_setF f .nil (n / 2) (m / 2) v hd]
     all_goals
      first | have hb' := beq_zero_true hb | have hb' := beq_zero_false hb
      first | have hm' := beq_zero_true hm | have hm' := beq_zero_false hm
      (repeat' split) <;> first | rfl | (exfalso; omega)
 | f + 1, .node x l r, 0, m, v, h => by cases m <;> simp [Tr.setF, Tr.getP]
 | f + 1, .node x l r, n + 1, m, v, h => by
   have hd : n / 2 < f := by omega
   cases m with
   | zero =>
     simp only [Tr.setF]
     cases hb : Nat.beq (n % 2) 0 <;> simp [Tr.getP]
   | succ m =>
     simp only [Tr.setF]
     cases hb : Nat.beq (n % 2) 0 <;> cases hm : Nat.beq (m % 2) 0 <;> simp only [cond_true, cond_false, Tr.getP, hm, Tr.get_setF f l (n / 2) (m / 2) v hd, Tr.get_setF f r (n / 2) (m / 2) v hd]
     all_goals
      first | have hb' := beq_zero_true hb | have hb' := beq_zero_false hb
      first | have hm' := beq_zero_true hm | have hm' := beq_zero_false hm
      (repeat' split) <;> first | rfl | (exfalso; omega)
theorem Tr.get_set (t : Tr) (n m : Nat) (v : Option AObj) : (t.set n v).get m = if m = n then v else t.get m := by
 simp only [Tr.get, Tr.set, Tr.setP, Tr.get_setF _ t n m (pkO v) (Nat.lt_succ_self n)]
 split
 ·exact vwO_pkO v
 ·rfl
theorem cell?_of {w : World} {b i : Nat} {C : Array Value} {e : TypeId} {fr : Nat × Nat} (h : w.heap[b]? = some (.cells C e fr)) : w.cell? ⟨b, i, none⟩ = C[i]? := by
 simp [World.cell?, h]
theorem R.blk {w0 : World} {j : J} {S : AS} {w : World} (h : R w0 j S w) {b : Bid} {cs : List AV} (hb : S.blk b = some cs) : ∃ x, j b = some x ∧ CellsR j cs x w := by
 cases b with
 | rw n =>
   simp only [AS.blk] at hb
   cases ho : S.rw.get n with
   | none => simp [ho] at hb
   | some o =>
     cases o with
     | cells c =>
       simp [ho] at hb; subst hb
       obtain ⟨_, x, hx, _, hr⟩ := h.rw n _ ho
       exact ⟨x, hx, hr.1⟩
     | map kk es => simp [ho] at hb
 | ro n =>
   obtain ⟨x, hx, _, hr⟩ := h.ro n cs hb
   exact ⟨x, hx, hr⟩
theorem R.ld {w0 : World} {j : J} {S : AS} {w : World} (h : R w0 j S w) {b : Bid} {i : Nat} {v : AV} (hl : S.ld b i = some v) :
 ∃ x u, j b = some x ∧ w.cell? ⟨x.c, x.off + i, none⟩ = some u ∧ VR j v u ∧ Value.oneCell' u = true := by
 rw [AS.ld_eq] at hl
 cases hb : S.blk b with
 | none => simp [hb] at hl
 | some cs =>
   simp only [hb] at hl
   obtain ⟨x, hx, C, e, fr, hc, ht, hle, hall⟩ := h.blk hb
   obtain ⟨u, hu, hr⟩ := hall i v hl
   exact ⟨x, u, hx, by rw [cell?_of hc]; exact hu, hr⟩
theorem R.ldn {β : Type} {w0 : World} {j : J} {S : AS} {w : World} (h : R w0 j S w) {b : Bid} {i n : Nat} {K : List AV → Option β} {r : β} (hl : S.ldn b i n K = some r) :
 ∃ x l us, j b = some x ∧ K l = some r ∧ l.length = n ∧ us.length = n ∧ (∀ k, k < n → w.cell? ⟨x.c, x.off + i + k, none⟩ = us[k]?) ∧ VRs j l us ∧ ∀ u ∈ us, Value.oneCell' u = true := by
 rw [AS.ldn_eq] at hl
 cases hb : S.blk b with
 | none => simp [hb] at hl
 | some cs =>
   simp only [hb] at hl
   split at hl
   case isFalse => simp at hl
   case isTrue hle =>
   obtain ⟨x, hx, C, e, fr, hc, ht, hle', hall⟩ := h.blk hb
   have hlen : ((C.toList.drop (x.off + i)).take n).length = n := by simp; omega
   have hget : ∀ k, k < n → ((C.toList.drop (x.off + i)).take n)[k]? = C[x.off + i + k]? := by
    intro k hk
    rw [List.getElem?_take, if_pos hk, List.getElem?_drop]
    simp
   refine ⟨x, (cs.drop i).take n, (C.toList.drop (x.off + i)).take n, hx, hl, by simp; omega, hlen, fun k hk => ?_, ?_, ?_⟩
   ·rw [cell?_of hc, hget k hk]
   ·refine VRs.of_get (by rw [hlen]; simp; omega) fun k a v ha hv => ?_
    rw [List.getElem?_take] at ha
    split at ha
    case isFalse => simp at ha
    case isTrue hk =>
    rw [List.getElem?_drop] at ha
    obtain ⟨u, hu, hr, _⟩ := hall _ _ ha
    rw [hget k hk, Nat.add_assoc, hu] at hv
    cases hv; exact hr
   ·intro u hu
    obtain ⟨k, hk, rfl⟩ := List.mem_iff_getElem.1 hu
    have hk' : k < n := by rw [hlen] at hk; exact hk
    have h1 := hget k hk'
    rw [List.getElem?_eq_getElem hk] at h1
    have h2 : cs[i + k]? = some cs[i + k] := List.getElem?_eq_getElem (by omega)
    obtain ⟨u', hu', _, hone⟩ := hall _ _ h2
    rw [Nat.add_assoc, hu'] at h1
    cases h1; exact hone
theorem run_loadCellsFrom (P : Program) (w : World) (a : Addr) : ∀ (n i : Nat) (acc : Array Value) (us : List Value), us.length = n → (∀ k, k < n → w.cell? (a.add (i + k)) = us[k]?) →
 (loadCellsFrom a i n acc).run P w = .ok (acc ++ us.toArray) w
 | 0, i, acc, us, hl, _ => by
   have : us = [] := List.length_eq_zero_iff.1 hl
   subst this
   simp [loadCellsFrom]
 | n + 1, i, acc, us, hl, h => by
   cases us with
   | nil => simp at hl
   | cons u us =>
     have h0 := h 0 (by omega)
     simp at h0
     simp only [loadCellsFrom, Sem.run_bind, run_load, h0, Result.andThen_ok]
     rw [run_loadCellsFrom P w a n (i + 1) (acc.push u) us (by simpa using hl) (fun k hk => by
      have := h (k + 1) (by omega)
      rw [show i + 1 + k = i + (k + 1) by omega, this]; simp)]
     simp
theorem run_loadCells (P : Program) (w : World) (c o n : Nat) (us : List Value) (hl : us.length = n) (h : ∀ k, k < n → w.cell? ⟨c, o + k, none⟩ = us[k]?) :
 (loadCells ⟨c, o, none⟩ n).run P w = .ok us.toArray w := by
 unfold loadCells
 rw [run_loadCellsFrom P w ⟨c, o, none⟩ n 0 #[] us hl (fun k hk => by
  have := h k hk
  rw [← this]; simp only [Addr.add, Nat.zero_add]; split <;> simp_all)]
 simp
theorem splice_length {c : List AV} {i : Nat} {vs : List AV} (h : i + vs.length ≤ c.length) : (splice c i vs).length = c.length := by
 unfold splice; simp; omega
theorem splice_get {c : List AV} {i : Nat} {vs : List AV} (h : i + vs.length ≤ c.length) (k : Nat) :
 (splice c i vs)[k]? = if k < i then c[k]? else if k < i + vs.length then vs[k - i]? else c[k]? := by
 unfold splice
 rw [List.getElem?_append]
 simp only [List.length_take]
 have hm : min i c.length = i := by omega
 rw [hm]
 split
 ·rename_i hk; rw [List.getElem?_take, if_pos hk]
 ·rename_i hk
  rw [List.getElem?_append]
  split
  ·rename_i hk2; rw [if_pos (by omega)]
  ·rename_i hk2
   rw [if_neg (by omega), List.getElem?_drop]
   congr 1; omega
def putCells (C : Array Value) (o : Nat) (us : List Value) : Array Value := (C.toList.take o ++ (us ++ C.toList.drop (o + us.length))).toArray
theorem putCells_size {C : Array Value} {o : Nat} {us : List Value} (h : o + us.length ≤ C.size) : (putCells C o us).size = C.size := by
 unfold putCells; simp; omega
theorem putCells_get {C : Array Value} {o : Nat} {us : List Value} (h : o + us.length ≤ C.size) (k : Nat) :
 (putCells C o us)[k]? = if k < o then C[k]? else if k < o + us.length then us[k - o]? else C[k]? := by
 unfold putCells
 simp only [List.getElem?_toArray]
 rw [List.getElem?_append]
 simp only [List.length_take, Array.length_toList]
 have hm : min o C.size = o := by omega
 rw [hm]
 split
 ·rename_i hk; rw [List.getElem?_take, if_pos hk]; simp
 ·rename_i hk
  rw [List.getElem?_append]
  split
  ·rename_i hk2; rw [if_pos (by omega)]
  ·rename_i hk2
   rw [if_neg (by omega), List.getElem?_drop]
   simp only [Array.getElem?_toList]
   congr 1; omega
theorem setCell_heap {w : World} {b i : Nat} {v : Value} {C : Array Value} {e : TypeId} {fr : Nat × Nat} (h : w.heap[b]? = some (.cells C e fr)) :
 w.setCell ⟨b, i, none⟩ v = { w with heap := w.heap.setIfInBounds b (.cells (C.setIfInBounds i v) e fr) } := by
 have hb := (Array.getElem?_eq_some_iff.1 h)
 obtain ⟨hlt, hg⟩ := hb
 unfold World.setCell
 congr 1
 apply Array.ext_getElem?
 intro k
 simp only [Array.getElem?_modify, Array.getElem?_setIfInBounds]
 by_cases hk : b = k
 ·subst hk; simp [hg, hlt]
 ·simp [hk]
theorem run_storeCells (P : Program) (b o : Nat) : ∀ (us : List Value) (i : Nat) (w : World) (C : Array Value) (e : TypeId) (fr : Nat × Nat), w.heap[b]? = some (.cells C e fr) → o + i + us.length ≤ C.size → (fr.2 ≤ fr.1 ∨ C.size ≤ fr.1) → (∀ u ∈ us, Value.oneCell' u = true) →
 (storeCells ⟨b, o, none⟩ us i).run P w = .ok () { w with heap := w.heap.setIfInBounds b (.cells (putCells C (o + i) us) e fr) }
 | [], i, w, C, e, fr, h, _, _, _ => by
   obtain ⟨hlt, hg⟩ := Array.getElem?_eq_some_iff.1 h
   have hC : putCells C (o + i) [] = C := by unfold putCells; simp
   simp only [storeCells, Sem.run_pure, hC]
   congr 1
   have : w.heap.setIfInBounds b (.cells C e fr) = w.heap := by
    apply Array.ext_getElem?
    intro k
    simp only [Array.getElem?_setIfInBounds]
    by_cases hk : b = k
    ·subst hk; simp [hg, hlt]
    ·simp [hk]
   rw [this]
 | u :: us, i, w, C, e, fr, h, hle, hfr, hone => by
   have hu := hone u (by simp)
   simp only [List.length_cons] at hle
   have ha : Addr.add ⟨b, o, none⟩ i = ⟨b, o + i, none⟩ := by unfold Addr.add; split <;> simp_all
   have hc : w.cell? ⟨b, o + i, none⟩ = some C[o + i] := by rw [cell?_of h]; exact Array.getElem?_eq_getElem (by omega)
   have hz : w.frozen? ⟨b, o + i, none⟩ = false := by
    obtain ⟨lo, hi⟩ := fr
    simp only [World.frozen?, h]
    simp only at hfr
    simp; omega
   simp only [storeCells, Sem.run_bind, ha, run_store P w _ u .plain hu, hc, hz]
   rw [setCell_heap h]
   simp only [Bool.false_eq_true, if_false, Result.andThen_ok]
   obtain ⟨hlt, hg⟩ := Array.getElem?_eq_some_iff.1 h
   rw [run_storeCells P b o us (i + 1) _ (C.setIfInBounds (o + i) u) e fr (by simp [hlt]) (by simp; omega) (by simpa using hfr) (fun x hx => hone x (by simp [hx]))]
   congr 1
   have hp : putCells (C.setIfInBounds (o + i) u) (o + (i + 1)) us = putCells C (o + i) (u :: us) := by
    apply Array.ext
    ·rw [putCells_size (by simp; omega), putCells_size (by simp; omega)]; simp
    ·intro k h1 h2
     have e1 := putCells_get (C := C.setIfInBounds (o + i) u) (o := o + (i + 1)) (us := us) (by simp; omega) k
     have e2 := putCells_get (C := C) (o := o + i) (us := u :: us) (by simp; omega) k
     rw [Array.getElem?_eq_getElem h1] at e1
     rw [Array.getElem?_eq_getElem h2] at e2
     apply Option.some.inj
     rw [e1, e2]
     simp only [List.length_cons, Array.getElem?_setIfInBounds]
     by_cases c1 : k < o + i
     ·rw [if_pos (by omega), if_pos c1, if_neg (by omega)]
     ·by_cases c2 : k = o + i
      ·subst c2
       have h3 : o + i < C.size := by omega
       simp [h3]
      ·rw [if_neg (by omega), if_neg c1]
       by_cases c3 : k < o + (i + 1) + us.length
       ·rw [if_pos c3, if_pos (by omega)]
        rw [show k - (o + i) = (k - (o + (i + 1))) + 1 by omega]; simp
       ·rw [if_neg c3, if_neg (by omega), if_neg (by omega)]
   rw [hp]
   simp
def World.putBlk (w : World) (b : Nat) (o : Obj) : World := { w with heap := w.heap.setIfInBounds b o }
theorem putBlk_get (w : World) (b c : Nat) (o : Obj) (h : b < w.heap.size) : (World.putBlk w b o).heap[c]? = if b = c then some o else w.heap[c]? := by
 unfold World.putBlk
 simp only [Array.getElem?_setIfInBounds]
 split
 ·rename_i hb; subst hb; simp [h]
 ·rfl
@[simp] theorem putBlk_size (w : World) (b : Nat) (o : Obj) : (World.putBlk w b o).heap.size = w.heap.size := by simp [World.putBlk]
theorem CellsR.mono {j j' : J} (h : j.le j') {cs : List AV} {x : BI} {w w' : World} (hw : w'.heap[x.c]? = w.heap[x.c]?) (r : CellsR j cs x w) : CellsR j' cs x w' := by
 obtain ⟨C, e, fr, h1, h2, h3, h4⟩ := r
 exact ⟨C, e, fr, by rw [hw]; exact h1, h2, h3, fun i v hv => let ⟨u, a, b, c⟩ := h4 i v hv; ⟨u, a, VR.mono h _ _ b, c⟩⟩
theorem ObjR.mono {j j' : J} (h : j.le j') {o : AObj} {x : BI} {w w' : World} (hw : w'.heap[x.c]? = w.heap[x.c]?) (r : ObjR j o x w) : ObjR j' o x w' := by
 cases o with
 | cells cs => exact ⟨r.1.mono h hw, fun C e' fr hc => r.2 C e' fr (by rw [← hw]; exact hc)⟩
 | map kk es =>
   obtain ⟨ms, clk, h1, h0, h2, h3⟩ := r
   exact ⟨ms, clk, by rw [hw]; exact h1, h0, VRs.mono h _ _ h2, VRs.mono h _ _ h3⟩
theorem TR.mono {j j' : J} (h : j.le j') {T : Tm} {tm : Array Value} (r : TR j T tm) : TR j' T tm := fun t => ⟨VR.mono h _ _ (r t).1, (r t).2.1, (r t).2.2.mono h⟩
theorem LoopR.mono {j j' : J} (h : j.le j') {L : ALoop} {x : BI} {w w' : World} (hw : w'.heap[x.c]? = w.heap[x.c]?) (r : LoopR j L x w) : LoopR j' L x w' := by
 obtain ⟨tm, d, p, fn, h1, h2, h3, h4⟩ := r
 exact ⟨tm, d, p, fn, by rw [hw]; exact h1, h2, h3.mono h, h4⟩
theorem R.turn {w0 : World} {j : J} {S : AS} {w : World} (h : R w0 j S w) {n : Nat} {o o' : AObj} {x : BI} {ob : Obj} (ho : S.rw.get n = some o) (hx : j (.rw n) = some x)
 (hr : ObjR j o' x (World.putBlk w x.c ob)) : Good w0 j S w j { S with rw := S.rw.set n (some o') } (World.putBlk w x.c ob) := by
 have hown : Own S n := .inl ⟨o, ho⟩
 have hlt := Img.lt h ⟨n, x, hown, hx, rfl⟩
 have hOwn : ∀ m, Own { S with rw := S.rw.set n (some o') } m → Own S m := by
  intro m hm
  rcases hm with ⟨p, hp⟩ | ⟨L, hL⟩
  ·simp only [Tr.get_set] at hp
   split at hp
   ·rename_i he; subst he; exact hown
   ·exact .inl ⟨p, hp⟩
  ·exact .inr ⟨L, hL⟩
 have hne : ∀ m y, Own S m → m ≠ n → j (.rw m) = some y → (World.putBlk w x.c ob).heap[y.c]? = w.heap[y.c]? := by
  intro m y hm hmn hy
  rw [putBlk_get _ _ _ _ hlt.2, if_neg]
  intro he
  exact hmn (h.inj m n y x hm hown hy hx he.symm)
 refine ⟨J.le_refl j, ⟨by simpa using h.size, fun c hc => ?_, fun m p hp => ?_, fun m cs hm => ?_, fun L hL => ?_, fun a b y z ha hb => h.inj a b y z (hOwn a ha) (hOwn b hb), h.fresh, h.nd, h.env, h.gl⟩, by simp, fun c hc hi => ?_, fun c hc hi => ?_, Nat.le_refl _, fun _ _ h => h⟩
 ·rw [putBlk_get _ _ _ _ hlt.2, if_neg (by omega)]; exact h.base c hc
 ·simp only [Tr.get_set] at hp
  split at hp
  ·rename_i he; subst he; cases hp
   exact ⟨(h.rw m o ho).1, x, hx, hlt.1, hr⟩
  ·rename_i he
   obtain ⟨h1, y, hy, hb, hr'⟩ := h.rw m p hp
   exact ⟨h1, y, hy, hb, hr'.mono (J.le_refl j) (hne m y (.inl ⟨p, hp⟩) he hy)⟩
 ·obtain ⟨y, hy, hb, hr'⟩ := h.ro m cs hm
  refine ⟨y, hy, hb, hr'.mono (J.le_refl j) ?_⟩
  rw [putBlk_get _ _ _ _ hlt.2, if_neg (by omega)]
 ·obtain ⟨h1, y, hy, hb, hr'⟩ := h.lp L hL
  refine ⟨h1, y, hy, hb, hr'.mono (J.le_refl j) (hne L.id y (.inr ⟨L, hL, rfl⟩) ?_ hy)⟩
  intro he
  rw [he] at hy
  rw [hx] at hy; cases hy
  obtain ⟨tm, d, p, fn, h2, _⟩ := hr'
  obtain ⟨_, y, hy, _, hob⟩ := h.rw n o ho
  rw [hx] at hy; cases hy
  cases o with
  | cells cs => obtain ⟨⟨C, e', fr, hc, _⟩, _⟩ := hob; rw [hc] at h2; cases h2
  | map kk es => obtain ⟨ms, clk, hc, _⟩ := hob; rw [hc] at h2; cases h2
 ·rw [putBlk_get _ _ _ _ hlt.2, if_neg]
  intro he; subst he; exact hi ⟨n, x, hown, hx, rfl⟩
 ·obtain ⟨m, y, hm, hy, hc'⟩ := hi
  exact ⟨m, y, hOwn m hm, hy, hc'⟩
def J.upd (j : J) (n : Nat) (x : BI) : J := fun b => if b = .rw n then some x else j b
theorem J.upd_same (j : J) (n : Nat) (x : BI) : J.upd j n x (.rw n) = some x := by simp [J.upd]
theorem J.upd_ne (j : J) {n m : Nat} (x : BI) (h : m ≠ n) : J.upd j n x (.rw m) = j (.rw m) := by simp [J.upd, h]
theorem J.le_upd {j : J} {n : Nat} (x : BI) (h : j (.rw n) = none) : j.le (J.upd j n x) := by
 intro b y hb
 unfold J.upd
 split
 ·rename_i he; subst he; rw [h] at hb; cases hb
 ·exact hb
theorem R.add {w0 : World} {j : J} {S : AS} {w w' : World} (h : R w0 j S w) {n nx : Nat} {o : AObj} {x : BI} (hn : j (.rw n) = none) (hge : S.next ≤ n) (hnx : n < nx) (hx : x.c = w.heap.size)
 (hs : w'.heap.size = w.heap.size + 1) (he : w'.os = w.os ∧ w'.output = w.output ∧ w'.tape = w.tape) (hh : ∀ c, c < w.heap.size → w'.heap[c]? = w.heap[c]?) (hr : ObjR (J.upd j n x) o x w') :
 Good w0 j S w (J.upd j n x) { S with rw := S.rw.set n (some o), next := nx } w' := by
 have hle : S.next ≤ nx := by omega
 have hle' := J.le_upd x hn
 have hno : ∀ m, Own S m → m ≠ n := by
  intro m hm he; subst he
  rcases hm with ⟨o, ho⟩ | ⟨L, hL, rfl⟩
  ·obtain ⟨_, y, hy, _⟩ := h.rw m o ho; rw [hn] at hy; cases hy
  ·obtain ⟨_, y, hy, _⟩ := h.lp L hL; rw [hn] at hy; cases hy
 have hOwn : ∀ m, Own { S with rw := S.rw.set n (some o), next := nx } m → Own S m ∨ m = n := by
  intro m hm
  rcases hm with ⟨p, hp⟩ | ⟨L, hL⟩
  ·simp only [Tr.get_set] at hp
   split at hp
   ·rename_i he; exact .inr he
   ·exact .inl (.inl ⟨p, hp⟩)
  ·exact .inl (.inr ⟨L, hL⟩)
 have hlt : ∀ m y, Own S m → j (.rw m) = some y → y.c < w.heap.size := fun m y hm hy => (Img.lt h ⟨m, y, hm, hy, rfl⟩).2
 refine ⟨hle', ⟨by have := h.size; omega, fun c hc => ?_, fun m p hp => ?_, fun m cs hm => ?_, fun L hL => ?_, fun a b y z ha hb hy hz he => ?_, fun m hm => ?_, h.nd, ⟨he.1.trans h.env.1, he.2.1.trans h.env.2.1, he.2.2.trans h.env.2.2⟩, h.gl.mono hle'⟩, by omega, fun c hc _ => hh c hc, fun c hc hi => ?_, hle, fun m hm hj => by rw [J.upd_ne j x (by omega)]; exact hj⟩
 ·rw [hh c (by have := h.size; omega)]; exact h.base c hc
 ·simp only [Tr.get_set] at hp
  split at hp
  ·rename_i he; subst he; cases hp
   exact ⟨hnx, x, J.upd_same j m x, by rw [hx]; exact h.size, hr⟩
  ·rename_i he
   obtain ⟨h1, y, hy, hb, hr'⟩ := h.rw m p hp
   exact ⟨by simp only; omega, y, hle' _ _ hy, hb, hr'.mono hle' (hh _ (hlt m y (.inl ⟨p, hp⟩) hy))⟩
 ·obtain ⟨y, hy, hb, hr'⟩ := h.ro m cs hm
  exact ⟨y, hle' _ _ hy, hb, hr'.mono hle' (hh _ (by have := h.size; omega))⟩
 ·obtain ⟨h1, y, hy, hb, hr'⟩ := h.lp L hL
  exact ⟨by simp only; omega, y, hle' _ _ hy, hb, hr'.mono hle' (hh _ (hlt L.id y (.inr ⟨L, hL, rfl⟩) hy))⟩
 ·rcases hOwn a ha with ha' | rfl
  ·rcases hOwn b hb with hb' | rfl
   ·rw [J.upd_ne j x (hno a ha')] at hy
    rw [J.upd_ne j x (hno b hb')] at hz
    exact h.inj a b y z ha' hb' hy hz he
   ·rw [J.upd_ne j x (hno a ha')] at hy
    rw [J.upd_same] at hz; cases hz
    have := hlt a y ha' hy; omega
  ·rcases hOwn b hb with hb' | rfl
   ·rw [J.upd_ne j x (hno b hb')] at hz
    rw [J.upd_same] at hy; cases hy
    have := hlt b z hb' hz; omega
   ·rfl
 ·simp only at hm
  rw [J.upd_ne j x (by omega)]; exact h.fresh m (by omega)
 ·obtain ⟨m, y, hm, hy, hc'⟩ := hi
  rcases hOwn m hm with hm' | rfl
  ·rw [J.upd_ne j x (hno m hm')] at hy
   exact ⟨m, y, hm', hy, hc'⟩
  ·rw [J.upd_same] at hy; cases hy; omega
theorem R.move {w0 : World} {j : J} {S : AS} {w : World} (h : R w0 j S w) {b : Nat} {o o' : AObj} {x y : BI} {ob : Obj} (ho : S.rw.get b = some o) (hx : j (.rw b) = some x) (hy : y.c = x.c)
 (hr : ObjR (J.upd j S.next y) o' y (World.putBlk w x.c ob)) : Good w0 j S w (J.upd j S.next y) ((S.kill b).new o') (World.putBlk w x.c ob) := by
 have hn : j (.rw S.next) = none := h.fresh _ (Nat.le_refl _)
 have hle' := J.le_upd y hn
 have hbn : b < S.next := (h.rw b o ho).1
 have hown : Own S b := .inl ⟨o, ho⟩
 have hlt := Img.lt h ⟨b, x, hown, hx, rfl⟩
 have hno : ∀ m, Own S m → m ≠ S.next := fun m hm => Nat.ne_of_lt (Own.lt h hm)
 have hOwn : ∀ m, Own ((S.kill b).new o') m → (Own S m ∧ (m ≠ b ∨ ∃ L ∈ S.loops, L.id = m)) ∨ m = S.next := by
  intro m hm
  rcases hm with ⟨p, hp⟩ | ⟨L, hL⟩
  ·simp only [AS.new, AS.kill, Tr.get_set] at hp
   split at hp
   ·rename_i he; exact .inr he
   ·split at hp
    ·cases hp
    ·rename_i he; exact .inl ⟨.inl ⟨p, hp⟩, .inl he⟩
  ·exact .inl ⟨.inr ⟨L, hL⟩, .inr ⟨L, hL⟩⟩
 have hlb : ∀ L ∈ S.loops, L.id ≠ b := by
  intro L hL he
  obtain ⟨_, z, hz, _, hr'⟩ := h.lp L hL
  rw [he, hx] at hz; cases hz
  obtain ⟨tm, d, p, fn, h2, _⟩ := hr'
  obtain ⟨_, z, hz, _, hob⟩ := h.rw b o ho
  rw [hx] at hz; cases hz
  cases o with
  | cells cs => obtain ⟨⟨C, e', fr, hc, _⟩, _⟩ := hob; rw [hc] at h2; cases h2
  | map kk es => obtain ⟨ms, clk, hc, _⟩ := hob; rw [hc] at h2; cases h2
 have hOwn' : ∀ m, Own ((S.kill b).new o') m → (Own S m ∧ m ≠ b) ∨ m = S.next := by
  intro m hm
  rcases hOwn m hm with ⟨h1, h2 | ⟨L, hL, rfl⟩⟩ | h3
  ·exact .inl ⟨h1, h2⟩
  ·exact .inl ⟨h1, hlb L hL⟩
  ·exact .inr h3
 have hne : ∀ m z, Own S m → m ≠ b → j (.rw m) = some z → (World.putBlk w x.c ob).heap[z.c]? = w.heap[z.c]? := by
  intro m z hm hmn hz
  rw [putBlk_get _ _ _ _ hlt.2, if_neg]
  intro he
  exact hmn (h.inj m b z x hm hown hz hx he.symm)
 refine ⟨hle', ⟨by simpa using h.size, fun c hc => ?_, fun m p hp => ?_, fun m cs hm => ?_, fun L hL => ?_, fun a c z t ha hc hz ht he => ?_, fun m hm => ?_, h.nd, h.env, h.gl.mono hle'⟩, by simp, fun c hc hi => ?_, fun c hc hi => ?_, Nat.le_succ _, fun m hm hj => by rw [J.upd_ne j y (by omega)]; exact hj⟩
 ·rw [putBlk_get _ _ _ _ hlt.2, if_neg (by omega)]; exact h.base c hc
 ·simp only [AS.new, AS.kill, Tr.get_set] at hp
  split at hp
  ·rename_i he; subst he; cases hp
   exact ⟨by simp [AS.new, AS.kill], y, J.upd_same j _ y, by rw [hy]; exact hlt.1, hr⟩
  ·split at hp
   ·cases hp
   ·rename_i he1 he2
    obtain ⟨h1, z, hz, hb, hr'⟩ := h.rw m p hp
    exact ⟨by simp only [AS.new, AS.kill]; omega, z, hle' _ _ hz, hb, hr'.mono hle' (hne m z (.inl ⟨p, hp⟩) he2 hz)⟩
 ·obtain ⟨z, hz, hb, hr'⟩ := h.ro m cs hm
  refine ⟨z, hle' _ _ hz, hb, hr'.mono hle' ?_⟩
  rw [putBlk_get _ _ _ _ hlt.2, if_neg (by omega)]
 ·obtain ⟨h1, z, hz, hb, hr'⟩ := h.lp L hL
  exact ⟨by simp only [AS.new, AS.kill]; omega, z, hle' _ _ hz, hb, hr'.mono hle' (hne L.id z (.inr ⟨L, hL, rfl⟩) (hlb L hL) hz)⟩
 ·rcases hOwn' a ha with ⟨ha', hab⟩ | rfl
  ·rw [J.upd_ne j y (hno a ha')] at hz
   rcases hOwn' c hc with ⟨hc', hcb⟩ | rfl
   ·rw [J.upd_ne j y (hno c hc')] at ht
    exact h.inj a c z t ha' hc' hz ht he
   ·rw [J.upd_same] at ht; cases ht
    exact absurd (h.inj a b z x ha' hown hz hx (he.trans hy)) hab
  ·rw [J.upd_same] at hz; cases hz
   rcases hOwn' c hc with ⟨hc', hcb⟩ | rfl
   ·rw [J.upd_ne j y (hno c hc')] at ht
    exact absurd (h.inj c b t x hc' hown ht hx (he.symm.trans hy)) hcb
   ·rfl
 ·simp only [AS.new, AS.kill] at hm
  rw [J.upd_ne j y (by omega)]; exact h.fresh m (by omega)
 ·rw [putBlk_get _ _ _ _ hlt.2, if_neg]
  intro he; subst he; exact hi ⟨b, x, hown, hx, rfl⟩
 ·obtain ⟨m, z, hm, hz, hc'⟩ := hi
  rcases hOwn' m hm with ⟨hm', hmb⟩ | rfl
  ·rw [J.upd_ne j y (hno m hm')] at hz
   exact ⟨m, z, hm', hz, hc'⟩
  ·rw [J.upd_same] at hz; cases hz
   exact ⟨b, x, hown, hx, by rw [← hy]; exact hc'⟩
theorem R.stn {β : Type} {w0 : World} {j : J} {S : AS} {w : World} (P : Program) (h : R w0 j S w) {b : Bid} {i : Nat} {vs : List AV} {us : List Value} {K : AS → Option β} {r : β}
 (hs : S.stn b i vs K = some r) (hv : VRs j vs us) (hone : ∀ u ∈ us, Value.oneCell' u = true) :
 ∃ x S' w', j b = some x ∧ K S' = some r ∧ (storeCells ⟨x.c, x.off + i, none⟩ us).run P w = .ok () w' ∧ Good w0 j S w j S' w' ∧ S'.loops = S.loops ∧ S'.next = S.next := by
 cases b with
 | ro n => simp [AS.stn_eq] at hs
 | rw n =>
   simp only [AS.stn_eq] at hs
   cases ho : S.rw.get n with
   | none => simp [ho] at hs
   | some o =>
     cases o with
     | map kk es => simp [ho] at hs
     | cells cs =>
       simp only [ho] at hs
       split at hs
       case isFalse => simp at hs
       case isTrue hle =>
       obtain ⟨hlt, x, hx, hb, ⟨C, e', fr, hc, ht, hle', hall⟩, hun⟩ := h.rw n _ ho
       have hl := hv.length
       have hun' : fr.2 ≤ fr.1 ∨ C.size ≤ fr.1 := by have := hun C e' fr hc; omega
       have hrun := run_storeCells P x.c (x.off + i) us 0 w C e' fr hc (by omega) hun' hone
       refine ⟨x, _, _, hx, hs, hrun, ?_, rfl, rfl⟩
       have hcs : x.c < w.heap.size := (Array.getElem?_eq_some_iff.1 hc).1
       have hnew : (World.putBlk w x.c (.cells (putCells C (x.off + i) us) e' fr)).heap[x.c]? = some (.cells (putCells C (x.off + i) us) e' fr) := by
        rw [putBlk_get _ _ _ _ hcs]; simp
       refine R.turn h (x := x) (ob := .cells (putCells C (x.off + i) us) e' fr) ho hx ⟨⟨_, e', fr, hnew, ?_, ?_, ?_⟩, ?_⟩
       ·rw [putCells_size (by omega)]; exact ht
       ·rw [splice_length hle]; exact hle'
       ·intro k v hk
        rw [splice_get hle] at hk
        rw [putCells_get (by omega)]
        split at hk
        ·rename_i h1
         rw [if_pos (by omega)]; exact hall k v hk
        ·rename_i h1
         split at hk
         ·rename_i h2
          rw [if_neg (by omega), if_pos (by omega)]
          obtain ⟨u, hu, hr⟩ := hv.get _ _ hk
          refine ⟨u, by rw [← hu]; congr 1; omega, hr, hone u (List.mem_of_getElem? hu)⟩
         ·rename_i h2
          rw [if_neg (by omega), if_neg (by omega)]; exact hall k v hk
       ·intro C2 e2 fr2 h2
        rw [hnew] at h2; cases h2
        have := hun C e' fr hc; exact this
theorem getLp_mem : ∀ {ls : List ALoop} {k : Nat} {L : ALoop}, getLp ls k = some L → L ∈ ls ∧ L.id = k
 | [], k, L, h => by simp [getLp] at h
 | l :: r, k, L, h => by
   simp only [getLp] at h
   cases hb : Nat.beq l.id k with
   | true =>
     rw [hb] at h
     simp only [cond_true, Option.some.injEq] at h
     subst h
     exact ⟨by simp, Nat.eq_of_beq_eq_true hb⟩
   | false =>
     rw [hb] at h
     obtain ⟨h1, h2⟩ := getLp_mem (by simpa using h)
     exact ⟨by simp [h1], h2⟩
theorem setLp_ids : ∀ (ls : List ALoop) (k : Nat) (X : ALoop), X.id = k → (setLp ls k X).map (·.id) = ls.map (·.id)
 | [], k, X, _ => rfl
 | l :: r, k, X, h => by
   simp only [setLp]
   cases hb : Nat.beq l.id k with
   | true => simp only [cond_true, List.map_cons]; rw [h, Nat.eq_of_beq_eq_true hb]
   | false => simp only [cond_false, List.map_cons, setLp_ids r k X h]
theorem setLp_mem : ∀ {ls : List ALoop} {k : Nat} {X L : ALoop}, L ∈ setLp ls k X → (L = X ∧ ∃ L' ∈ ls, L'.id = k) ∨ L ∈ ls
 | [], k, X, L, h => by simp [setLp] at h
 | l :: r, k, X, L, h => by
   simp only [setLp] at h
   cases hb : Nat.beq l.id k with
   | true =>
     rw [hb] at h
     simp only [cond_true, List.mem_cons] at h
     rcases h with rfl | h
     ·exact .inl ⟨rfl, l, by simp, Nat.eq_of_beq_eq_true hb⟩
     ·exact .inr (by simp [h])
   | false =>
     rw [hb] at h
     simp only [cond_false, List.mem_cons] at h
     rcases h with rfl | h
     ·exact .inr (by simp)
     ·rcases setLp_mem h with ⟨h1, L', h2, h3⟩ | h1
      ·exact .inl ⟨h1, L', by simp [h2], h3⟩
      ·exact .inr (by simp [h1])
theorem setLp_uniq : ∀ (ls : List ALoop) (k : Nat) (X L : ALoop), X.id = k → getLp ls k = some L → (ls.map (·.id)).Nodup → ∀ {L' : ALoop}, L' ∈ setLp ls k X → L'.id = k → L' = X
 | [], k, X, L, _, h, _, L', hm, _ => by simp [getLp] at h
 | l :: r, k, X, L, hX, h, hnd, L', hm, hk => by
   simp only [List.map_cons, List.nodup_cons] at hnd
   simp only [getLp] at h
   simp only [setLp] at hm
   cases hb : Nat.beq l.id k with
   | true =>
     rw [hb] at hm
     simp only [cond_true, List.mem_cons] at hm
     rcases hm with h1 | h1
     ·exact h1
     ·have : l.id = k := Nat.eq_of_beq_eq_true hb
      exact absurd (List.mem_map.2 ⟨L', h1, by rw [hk, this]⟩) hnd.1
   | false =>
     rw [hb] at hm h
     simp only [cond_false, List.mem_cons] at hm h
     rcases hm with h1 | h1
     ·subst h1
      exact absurd hk (Nat.ne_of_beq_eq_false hb)
     ·exact setLp_uniq r k X L hX h hnd.2 h1 hk
theorem R.turnLoop {w0 : World} {j : J} {S : AS} {w : World} (h : R w0 j S w) {k : Nat} {L X : ALoop} {x : BI} {ob : Obj} (hL : getLp S.loops k = some L) (hX : X.id = k) (hx : j (.rw k) = some x)
 (hr : LoopR j X x (World.putBlk w x.c ob)) : Good w0 j S w j { S with loops := setLp S.loops k X } (World.putBlk w x.c ob) := by
 obtain ⟨hmem, hid⟩ := getLp_mem hL
 have hown : Own S k := .inr ⟨L, hmem, hid⟩
 have hlt := Img.lt h ⟨k, x, hown, hx, rfl⟩
 have hids := setLp_ids S.loops k X hX
 have hOwn : ∀ m, Own { S with loops := setLp S.loops k X } m → Own S m := by
  intro m hm
  rcases hm with ⟨p, hp⟩ | ⟨L', hL', rfl⟩
  ·exact .inl ⟨p, hp⟩
  ·have : L'.id ∈ (setLp S.loops k X).map (·.id) := List.mem_map.2 ⟨L', hL', rfl⟩
   rw [hids] at this
   obtain ⟨L'', h1, h2⟩ := List.mem_map.1 this
   exact .inr ⟨L'', h1, h2⟩
 have hne : ∀ m y, Own S m → m ≠ k → j (.rw m) = some y → (World.putBlk w x.c ob).heap[y.c]? = w.heap[y.c]? := by
  intro m y hm hmn hy
  rw [putBlk_get _ _ _ _ hlt.2, if_neg]
  intro he
  exact hmn (h.inj m k y x hm hown hy hx he.symm)
 refine ⟨J.le_refl j, ⟨by simpa using h.size, fun c hc => ?_, fun m p hp => ?_, fun m cs hm => ?_, fun L' hL' => ?_, fun a b y z ha hb => h.inj a b y z (hOwn a ha) (hOwn b hb), h.fresh, (by simp only [hids]; exact h.nd), h.env, h.gl⟩, by simp, fun c hc hi => ?_, fun c hc hi => ?_, Nat.le_refl _, fun _ _ h => h⟩
 ·rw [putBlk_get _ _ _ _ hlt.2, if_neg (by omega)]; exact h.base c hc
 ·obtain ⟨h1, y, hy, hb, hr'⟩ := h.rw m p hp
  refine ⟨h1, y, hy, hb, hr'.mono (J.le_refl j) (hne m y (.inl ⟨p, hp⟩) ?_ hy)⟩
  intro he
  subst he
  obtain ⟨_, z, hz, _, tm, d, pend, fn, hc, _⟩ := h.lp L hmem
  rw [hid, hx] at hz; cases hz
  rw [hx] at hy; cases hy
  cases p with
  | cells cs => obtain ⟨⟨C, e', fr, hc', _⟩, _⟩ := hr'; rw [hc'] at hc; cases hc
  | map kk es => obtain ⟨ms, clk, hc', _⟩ := hr'; rw [hc'] at hc; cases hc
 ·obtain ⟨y, hy, hb, hr'⟩ := h.ro m cs hm
  refine ⟨y, hy, hb, hr'.mono (J.le_refl j) ?_⟩
  rw [putBlk_get _ _ _ _ hlt.2, if_neg (by omega)]
 ·by_cases hk : L'.id = k
  ·have := setLp_uniq S.loops k X L hX hL h.nd hL' hk
   subst this
   refine ⟨by rw [hX]; exact Own.lt h hown, x, by rw [hX]; exact hx, hlt.1, hr⟩
  ·rcases setLp_mem hL' with ⟨rfl, _⟩ | hm'
   ·exact absurd hX hk
   ·obtain ⟨h1, y, hy, hb, hr'⟩ := h.lp L' hm'
    exact ⟨h1, y, hy, hb, hr'.mono (J.le_refl j) (hne L'.id y (.inr ⟨L', hm', rfl⟩) hk hy)⟩
 ·rw [putBlk_get _ _ _ _ hlt.2, if_neg]
  intro he; subst he; exact hi ⟨k, x, hown, hx, rfl⟩
 ·obtain ⟨m, y, hm, hy, hc'⟩ := hi
  exact ⟨m, y, hOwn m hm, hy, hc'⟩
theorem R.pushLoop {w0 : World} {j : J} {S : AS} {w w' : World} (h : R w0 j S w) {L : ALoop} {x : BI} (hid : L.id = S.next) (hxc : w.heap.size ≤ x.c) (hs : w.heap.size ≤ w'.heap.size) (he : w'.os = w.os ∧ w'.output = w.output ∧ w'.tape = w.tape) (hh : ∀ c, c < w.heap.size → w'.heap[c]? = w.heap[c]?)
 (hr : LoopR (J.upd j S.next x) L x w') : Good w0 j S w (J.upd j S.next x) { S with next := S.next + 1, loops := L :: S.loops } w' := by
 have hn : j (.rw S.next) = none := h.fresh _ (Nat.le_refl _)
 have hle' := J.le_upd x hn
 have hno : ∀ m, Own S m → m ≠ S.next := fun m hm => Nat.ne_of_lt (Own.lt h hm)
 have hOwn : ∀ m, Own { S with next := S.next + 1, loops := L :: S.loops } m → Own S m ∨ m = S.next := by
  intro m hm
  rcases hm with ⟨p, hp⟩ | ⟨L', hL', rfl⟩
  ·exact .inl (.inl ⟨p, hp⟩)
  ·rcases List.mem_cons.1 hL' with rfl | hL'
   ·exact .inr hid
   ·exact .inl (.inr ⟨L', hL', rfl⟩)
 have hlt : ∀ m y, Own S m → j (.rw m) = some y → y.c < w.heap.size := fun m y hm hy => (Img.lt h ⟨m, y, hm, hy, rfl⟩).2
 have h0 := h.size
 refine ⟨hle', ⟨by omega, fun c hc => ?_, fun m p hp => ?_, fun m cs hm => ?_, fun L' hL' => ?_, fun a b y z ha hb hy hz he => ?_, fun m hm => ?_, ?_, ⟨he.1.trans h.env.1, he.2.1.trans h.env.2.1, he.2.2.trans h.env.2.2⟩, h.gl.mono hle'⟩, hs, fun c hc _ => hh c hc, fun c hc hi => ?_, Nat.le_succ _, fun m hm hj => by rw [J.upd_ne j x (by omega)]; exact hj⟩
 ·rw [hh c (by omega)]; exact h.base c hc
 ·obtain ⟨h1, y, hy, hb, hr'⟩ := h.rw m p hp
  exact ⟨by simp only; omega, y, hle' _ _ hy, hb, hr'.mono hle' (hh _ (hlt m y (.inl ⟨p, hp⟩) hy))⟩
 ·obtain ⟨y, hy, hb, hr'⟩ := h.ro m cs hm
  exact ⟨y, hle' _ _ hy, hb, hr'.mono hle' (hh _ (by omega))⟩
 ·rcases List.mem_cons.1 hL' with rfl | hL'
  ·exact ⟨by simp only [hid]; omega, x, by rw [hid]; exact J.upd_same j _ x, by omega, hr⟩
  ·obtain ⟨h1, y, hy, hb, hr'⟩ := h.lp L' hL'
   exact ⟨by simp only; omega, y, hle' _ _ hy, hb, hr'.mono hle' (hh _ (hlt L'.id y (.inr ⟨L', hL', rfl⟩) hy))⟩
 ·rcases hOwn a ha with ha' | rfl
  ·rw [J.upd_ne j x (hno a ha')] at hy
   rcases hOwn b hb with hb' | rfl
   ·rw [J.upd_ne j x (hno b hb')] at hz
    exact h.inj a b y z ha' hb' hy hz he
   ·rw [J.upd_same] at hz; cases hz
    have := hlt a y ha' hy; omega
  ·rw [J.upd_same] at hy; cases hy
   rcases hOwn b hb with hb' | rfl
   ·rw [J.upd_ne j x (hno b hb')] at hz
    have := hlt b z hb' hz; omega
   ·rfl
 ·simp only at hm
  rw [J.upd_ne j x (by omega)]; exact h.fresh m (by omega)
 ·simp only [List.map_cons, List.nodup_cons]
  refine ⟨fun hm => ?_, h.nd⟩
  obtain ⟨L', h1, h2⟩ := List.mem_map.1 hm
  have := (h.lp L' h1).1
  omega
 ·obtain ⟨m, y, hm, hy, hc'⟩ := hi
  rcases hOwn m hm with hm' | rfl
  ·rw [J.upd_ne j x (hno m hm')] at hy
   exact ⟨m, y, hm', hy, hc'⟩
  ·rw [J.upd_same] at hy; cases hy; omega
theorem R.popLoop {w0 : World} {j : J} {S : AS} {w : World} (h : R w0 j S w) {L : ALoop} {ls : List ALoop} (hl : S.loops = L :: ls) {x : BI} (hx : j (.rw L.id) = some x) (ob : Obj) :
 Good w0 j S w j { S with loops := ls } (World.putBlk w x.c ob) := by
 have hnd0 := h.nd
 rw [hl] at hnd0
 simp only [List.map_cons, List.nodup_cons] at hnd0
 obtain ⟨hnd, hnd2⟩ := hnd0
 have hmem : L ∈ S.loops := by rw [hl]; simp
 have hown : Own S L.id := .inr ⟨L, hmem, rfl⟩
 have hlt := Img.lt h ⟨L.id, x, hown, hx, rfl⟩
 have hnrw : ∀ p, S.rw.get L.id ≠ some p := by
  intro p hp
  obtain ⟨_, z, hz, _, tm, d, pend, fn, hc, _⟩ := h.lp L hmem
  rw [hx] at hz; cases hz
  obtain ⟨_, y, hy, _, hr'⟩ := h.rw _ p hp
  rw [hx] at hy; cases hy
  cases p with
  | cells cs => obtain ⟨⟨C, e', fr, hc', _⟩, _⟩ := hr'; rw [hc'] at hc; cases hc
  | map kk es => obtain ⟨ms, clk, hc', _⟩ := hr'; rw [hc'] at hc; cases hc
 have hOwn : ∀ m, Own { S with loops := ls } m → Own S m ∧ m ≠ L.id := by
  intro m hm
  rcases hm with ⟨p, hp⟩ | ⟨L', hL', rfl⟩
  ·exact ⟨.inl ⟨p, hp⟩, fun he => hnrw p (by rw [← he]; exact hp)⟩
  ·exact ⟨.inr ⟨L', by rw [hl]; simp [show L' ∈ ls from hL'], rfl⟩, fun he => hnd (List.mem_map.2 ⟨L', hL', he⟩)⟩
 have hne : ∀ m y, Own S m → m ≠ L.id → j (.rw m) = some y → (World.putBlk w x.c ob).heap[y.c]? = w.heap[y.c]? := by
  intro m y hm hmn hy
  rw [putBlk_get _ _ _ _ hlt.2, if_neg]
  intro he
  exact hmn (h.inj m L.id y x hm hown hy hx he.symm)
 refine ⟨J.le_refl j, ⟨by simpa using h.size, fun c hc => ?_, fun m p hp => ?_, fun m cs hm => ?_, fun L' hL' => ?_, fun a b y z ha hb => h.inj a b y z (hOwn a ha).1 (hOwn b hb).1, h.fresh, hnd2, h.env, h.gl⟩, by simp, fun c hc hi => ?_, fun c hc hi => ?_, Nat.le_refl _, fun _ _ h => h⟩
 ·rw [putBlk_get _ _ _ _ hlt.2, if_neg (by omega)]; exact h.base c hc
 ·obtain ⟨h1, y, hy, hb, hr'⟩ := h.rw m p hp
  exact ⟨h1, y, hy, hb, hr'.mono (J.le_refl j) (hne m y (.inl ⟨p, hp⟩) (hOwn m (.inl ⟨p, hp⟩)).2 hy)⟩
 ·obtain ⟨y, hy, hb, hr'⟩ := h.ro m cs hm
  refine ⟨y, hy, hb, hr'.mono (J.le_refl j) ?_⟩
  rw [putBlk_get _ _ _ _ hlt.2, if_neg (by omega)]
 ·have hm' : L' ∈ S.loops := by rw [hl]; simp [show L' ∈ ls from hL']
  obtain ⟨h1, y, hy, hb, hr'⟩ := h.lp L' hm'
  exact ⟨h1, y, hy, hb, hr'.mono (J.le_refl j) (hne L'.id y (.inr ⟨L', hm', rfl⟩) (hOwn L'.id (.inr ⟨L', hL', rfl⟩)).2 hy)⟩
 ·rw [putBlk_get _ _ _ _ hlt.2, if_neg]
  intro he; subst he; exact hi ⟨L.id, x, hown, hx, rfl⟩
 ·obtain ⟨m, y, hm, hy, hc'⟩ := hi
  exact ⟨m, y, (hOwn m hm).1, hy, hc'⟩
theorem R.other {w0 : World} {j : J} {S : AS} {w : World} (h : R w0 j S w) {c : Nat} (hc0 : w0.heap.size ≤ c) (hc : c < w.heap.size) (hn : ¬ Img j S c) (ob : Obj) : R w0 j S (World.putBlk w c ob) := by
 have hne : ∀ d, d ≠ c → (World.putBlk w c ob).heap[d]? = w.heap[d]? := fun d hd => by rw [putBlk_get _ _ _ _ hc, if_neg (fun he => hd he.symm)]
 refine ⟨by simpa using h.size, fun d hd => ?_, fun m p hp => ?_, fun m cs hm => ?_, fun L' hL' => ?_, h.inj, h.fresh, h.nd, h.env, h.gl⟩
 ·rw [hne d (by omega)]; exact h.base d hd
 ·obtain ⟨h1, y, hy, hb, hr'⟩ := h.rw m p hp
  exact ⟨h1, y, hy, hb, hr'.mono (J.le_refl j) (hne _ (fun he => hn ⟨m, y, .inl ⟨p, hp⟩, hy, he⟩))⟩
 ·obtain ⟨y, hy, hb, hr'⟩ := h.ro m cs hm
  exact ⟨y, hy, hb, hr'.mono (J.le_refl j) (hne _ (by omega))⟩
 ·obtain ⟨h1, y, hy, hb, hr'⟩ := h.lp L' hL'
  exact ⟨h1, y, hy, hb, hr'.mono (J.le_refl j) (hne _ (fun he => hn ⟨L'.id, y, .inr ⟨L', hL', rfl⟩, hy, he⟩))⟩
end Go.Gr
