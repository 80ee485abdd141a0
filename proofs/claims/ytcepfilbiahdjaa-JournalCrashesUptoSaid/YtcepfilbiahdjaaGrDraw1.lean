/- A drawn region: the canonical run, told place by place. -/
import Derived.Test.YtcepfilbiahdjaaGrNat
set_option linter.unusedVariables false
set_option linter.unusedSimpArgs false
set_option linter.unusedSectionVars false
namespace Go.Gr
mutual
theorem AV.beq_eq : ∀ (a b : AV), AV.beq a b = true → a = b
 | .int k n, b, h => by
   cases b <;> simp [AV.beq] at h
   obtain ⟨rfl, rfl⟩ := h; rfl
 | .bool x, b, h => by cases b <;> simp [AV.beq] at h; subst h; rfl
 | .str x, b, h => by cases b <;> simp [AV.beq] at h; subst h; rfl
 | .ptr none, b, h => by
   cases b with
   | ptr c => cases c <;> simp [AV.beq] at h; rfl
   | _ => simp [AV.beq] at h
 | .ptr (some p), b, h => by
   cases b with
   | ptr c => cases c <;> simp [AV.beq] at h; subst h; rfl
   | _ => simp [AV.beq] at h
 | .sl a l c, b, h => by cases b <;> simp [AV.beq] at h; obtain ⟨⟨rfl, rfl⟩, rfl⟩ := h; rfl
 | .mp x, b, h => by cases b <;> simp [AV.beq] at h; subst h; rfl
 | .nilFn, b, h => by cases b <;> simp [AV.beq] at h; rfl
 | .yld x, b, h => by cases b <;> simp [AV.beq] at h; subst h; rfl
 | .nilIface, b, h => by cases b <;> simp [AV.beq] at h; rfl
 | .agg l, b, h => by
   cases b with
   | agg m => simp only [AV.beq] at h; rw [AV.beqs_eq l m h]
   | _ => simp [AV.beq] at h
 | .tup l, b, h => by
   cases b with
   | tup m => simp only [AV.beq] at h; rw [AV.beqs_eq l m h]
   | _ => simp [AV.beq] at h
 | .undef, b, h => by cases b <;> simp [AV.beq] at h
 | .fn f a c, b, h => by
   cases b with
   | fn f' a' c' =>
     simp only [AV.beq, Bool.and_eq_true] at h
     rw [Nat.eq_of_beq_eq_true h.1, AV.beqs_eq a a' h.2.1, AV.beqs_eq c c' h.2.2]
   | _ => simp [AV.beq] at h
 | .iface t v, b, h => by
   cases b with
   | iface t' v' =>
     simp only [AV.beq, Bool.and_eq_true] at h
     rw [Nat.eq_of_beq_eq_true h.1, AV.beq_eq v v' h.2]
   | _ => simp [AV.beq] at h
 | .mth _ _, b, h => by cases b <;> simp [AV.beq] at h
theorem AV.beqs_eq : ∀ (a b : List AV), AV.beqs a b = true → a = b
 | [], b, h => by cases b <;> simp [AV.beqs] at h; rfl
 | x :: xs, b, h => by
   cases b with
   | nil => simp [AV.beqs] at h
   | cons y ys =>
     simp only [AV.beqs, Bool.and_eq_true] at h
     rw [AV.beq_eq x y h.1, AV.beqs_eq xs ys h.2]
end
structure DRec where
 T : Tm
 sk : Bool
 v : AV
 H : AS
 pd : Pend
 ob : AObj
instance : Inhabited DRec := ⟨⟨[], false, .undef, ⟨.nil, fun _ => none, 0, []⟩, [], .cells []⟩⟩
def isE (E : Env) (o : Oper) (x : DRec) : Prop := x.sk = false ∧ cls E o.op = 3
def isA (E : Env) (o : Oper) (x : DRec) : Prop := x.sk = false ∧ cls E o.op = 2
def isR (E : Env) (o : Oper) (x : DRec) : Prop := x.sk = false ∧ cls E o.op = 1
theorem cls_cases (E : Env) (o : Op) : cls E o = 0 ∨ cls E o = 1 ∨ cls E o = 2 ∨ cls E o = 3 := by
 unfold cls
 repeat' (first | (exact .inl rfl) | (exact .inr (.inl rfl)) | (exact .inr (.inr (.inl rfl))) | (exact .inr (.inr (.inr rfl))) | split)
def GdOk (ops : Array Oper) (o : Oper) (x : DRec) : Prop :=
 match o.guard with
 | none => x.sk = false
 | some (g, w) => ∃ d, (ops[g]?).bind (·.dst) = some d ∧ (look x.T d = .bool (if x.sk then !w else w) ∨ (x.sk = true ∧ look x.T d = .tup []))
def LookEq (T T' : Tm) : Prop := ∀ t, look T t = look T' t
section
variable (E : Env) (call : CallA) (ops : Array Oper) (base : Nat) (bs : Array Nat)
def DOk : List Oper → Nat → Tm → AS → Pend → List (Nat × Oper × Tm × AV) → List (Nat × AS) → List DRec → Prop
 | [], i, T, S, pd, rd, hs, [x] => x.T = T ∧ x.H = S ∧ x.pd = pd
 | o :: r, i, T, S, pd, rd, hs, x :: l =>
   x.H = S ∧ x.pd = pd ∧ LookEq x.T T ∧ GdOk ops o x ∧
   ((x.sk = true ∧ x.v = .tup [] ∧ DOk r (i + 1) (put x.T o.dst x.v) S pd rd hs l) ∨
    (x.sk = false ∧ cls E o.op = 0 ∧ evPure E S x.T o.op o.type some = some x.v ∧ DOk r (i + 1) (put x.T o.dst x.v) S pd rd hs l) ∨
    (x.sk = false ∧ cls E o.op = 1 ∧ evPure E S x.T o.op o.type some = some x.v ∧ (∀ y ∈ hs, Nat.testBit (bs.getD i 0) y.1 = false → evPure E y.2 x.T o.op o.type some = some x.v) ∧ DOk r (i + 1) (put x.T o.dst x.v) S pd ((i, o, x.T, x.v) :: rd) hs l) ∨
    (x.sk = false ∧ cls E o.op = 2 ∧ evNew E (base + i) x.T o.op (fun v ob => some (v, ob)) = some (x.v, x.ob) ∧ DOk r (i + 1) (put x.T o.dst x.v) S ((i, base + i, x.ob) :: pd) rd hs l) ∨
    (x.sk = false ∧ cls E o.op = 3 ∧ ∃ S', ev1 E call x.T (layB (bs.getD i 0) pd S) o (fun v S' => some (v, S')) = some (x.v, S') ∧
     (∀ y ∈ rd, Nat.testBit (bs.getD i 0) y.1 = false → evPure E S' y.2.2.1 y.2.1.op y.2.1.type some = some y.2.2.2) ∧ DOk r (i + 1) (put x.T o.dst x.v) S' (restB (bs.getD i 0) pd) rd ((i, S) :: hs) l))
 | _, _, _, _, _, _, _, _ => False
variable {E call ops base bs}
variable {β : Type} {r : β}
theorem again_inv {b : Nat} {S : AS} : ∀ {rd : List (Nat × Oper × Tm × AV)} {K : Option β}, again E b S rd K = some r →
 K = some r ∧ ∀ y ∈ rd, Nat.testBit b y.1 = false → evPure E S y.2.2.1 y.2.1.op y.2.1.type some = some y.2.2.2
 | [], K, h => ⟨h, by simp⟩
 | (i, o, T, v) :: rd, K, h => by
   simp only [again] at h
   cases hb : Nat.testBit b i with
   | true =>
     rw [hb] at h
     obtain ⟨h1, h2⟩ := again_inv (by simpa using h)
     refine ⟨h1, fun y hy hn => ?_⟩
     rcases List.mem_cons.1 hy with rfl | hy
     ·simp only at hn; rw [hb] at hn; cases hn
     ·exact h2 y hy hn
   | false =>
     rw [hb] at h
     simp only [cond_false] at h
     rw [evPure_nat] at h
     cases hv : evPure E S T o.op o.type some with
     | none => rw [hv] at h; cases h
     | some v' =>
       rw [hv] at h
       simp only [Option.bind_some] at h
       obtain ⟨hq, hh⟩ := cond_inv h
       have := AV.beq_eq _ _ hq
       subst this
       obtain ⟨h1, h2⟩ := again_inv hh
       refine ⟨h1, fun y hy hn => ?_⟩
       rcases List.mem_cons.1 hy with rfl | hy
       ·exact hv
       ·exact h2 y hy hn
theorem before_inv {b : Nat} {o : Oper} {T : Tm} {v : AV} : ∀ {hs : List (Nat × AS)} {K : Option β}, before E b o T v hs K = some r →
 K = some r ∧ ∀ y ∈ hs, Nat.testBit b y.1 = false → evPure E y.2 T o.op o.type some = some v
 | [], K, h => ⟨h, by simp⟩
 | (e, S) :: hs, K, h => by
   simp only [before] at h
   cases hb : Nat.testBit b e with
   | true =>
     rw [hb] at h
     obtain ⟨h1, h2⟩ := before_inv (by simpa using h)
     refine ⟨h1, fun y hy hn => ?_⟩
     rcases List.mem_cons.1 hy with rfl | hy
     ·simp only at hn; rw [hb] at hn; cases hn
     ·exact h2 y hy hn
   | false =>
     rw [hb] at h
     simp only [cond_false] at h
     rw [evPure_nat] at h
     cases hv : evPure E S T o.op o.type some with
     | none => rw [hv] at h; cases h
     | some v' =>
       rw [hv] at h
       simp only [Option.bind_some] at h
       obtain ⟨hq, hh⟩ := cond_inv h
       have := AV.beq_eq _ _ hq
       subst this
       obtain ⟨h1, h2⟩ := before_inv hh
       refine ⟨h1, fun y hy hn => ?_⟩
       rcases List.mem_cons.1 hy with rfl | hy
       ·exact hv
       ·exact h2 y hy hn
theorem look_again {T : Tm} {d : Nat} {v : AV} (h : look T d = v) : LookEq ((d, v) :: T) T := by
 intro t
 simp only [look]
 cases hb : Nat.beq d t with
 | true => rw [← Nat.eq_of_beq_eq_true hb]; exact h.symm
 | false => rfl
theorem gdA_inv {o : Oper} {T : Tm} {run skip : Tm → Option β} (h : gdA ops o T run skip = some r) :
 ∃ T' sk, LookEq T' T ∧ (∀ x : DRec, x.T = T' → x.sk = sk → GdOk ops o x) ∧ (if sk then skip T' else run T') = some r := by
 unfold gdA at h
 cases hg : o.guard with
 | none =>
   rw [hg] at h
   refine ⟨T, false, fun _ => rfl, fun x _ hs => ?_, by simpa using h⟩
   simp only [GdOk, hg]; exact hs
 | some p =>
   obtain ⟨g, w⟩ := p
   rw [hg] at h
   simp only at h
   cases hd : (ops[g]?).bind (·.dst) with
   | none => rw [hd] at h; cases h
   | some d =>
     rw [hd] at h
     simp only at h
     split at h
     ·rename_i b hb
      cases b <;> cases w <;> simp only [cond_true, cond_false] at h
      ·exact ⟨_, false, look_again hb, fun x hx hs => by simp only [GdOk, hg]; exact ⟨d, hd, .inl (by rw [hx, hs, look_again hb d]; exact hb)⟩, by simpa using h⟩
      ·exact ⟨_, true, look_again hb, fun x hx hs => by simp only [GdOk, hg]; exact ⟨d, hd, .inl (by rw [hx, hs, look_again hb d]; exact hb)⟩, by simpa using h⟩
      ·exact ⟨_, true, look_again hb, fun x hx hs => by simp only [GdOk, hg]; exact ⟨d, hd, .inl (by rw [hx, hs, look_again hb d]; exact hb)⟩, by simpa using h⟩
      ·exact ⟨_, false, look_again hb, fun x hx hs => by simp only [GdOk, hg]; exact ⟨d, hd, .inl (by rw [hx, hs, look_again hb d]; exact hb)⟩, by simpa using h⟩
     ·rename_i hb
      exact ⟨T, true, fun _ => rfl, fun x hx hs => by simp only [GdOk, hg]; exact ⟨d, hd, .inr ⟨hs, by rw [hx]; exact hb⟩⟩, by simpa using h⟩
     ·cases h
theorem draw_trace {K : Tm → AS → Option β} : ∀ (rem : List Oper) (i : Nat) (T : Tm) (S : AS) (pd : Pend) (rd : List (Nat × Oper × Tm × AV)) (hs : List (Nat × AS)),
 evDraw E call ops base bs rem i T S pd rd hs K = some r → ∃ l, DOk E call ops base bs rem i T S pd rd hs l ∧ l.length = rem.length + 1 ∧ K (l.getD rem.length default).T (layAll (l.getD rem.length default).pd (l.getD rem.length default).H) = some r
 | [], i, T, S, pd, rd, hs, h => ⟨[⟨T, false, .undef, S, pd, .cells []⟩], ⟨rfl, rfl, rfl⟩, rfl, h⟩
 | o :: rem, i, T, S, pd, rd, hs, h => by
   simp only [evDraw] at h
   obtain ⟨T', sk, hT, hG, h⟩ := gdA_inv h
   cases sk with
   | true =>
     simp only [if_true] at h
     obtain ⟨l, h1, h2, h3⟩ := draw_trace rem _ _ _ _ _ _ h
     exact ⟨⟨T', true, .tup [], S, pd, .cells []⟩ :: l, ⟨rfl, rfl, hT, hG _ rfl rfl, .inl ⟨rfl, rfl, h1⟩⟩, by simp [h2], h3⟩
   | false =>
     simp only [Bool.false_eq_true, if_false] at h
     rcases cls_cases E o.op with hc | hc | hc | hc
     ·rw [hc] at h
      simp only at h
      rw [evPure_nat] at h
      cases hv : evPure E S T' o.op o.type some with
      | none => rw [hv] at h; cases h
      | some v =>
        rw [hv] at h
        obtain ⟨l, h1, h2, h3⟩ := draw_trace rem _ _ _ _ _ _ h
        exact ⟨⟨T', false, v, S, pd, .cells []⟩ :: l, ⟨rfl, rfl, hT, hG _ rfl rfl, .inr (.inl ⟨rfl, hc, hv, h1⟩)⟩, by simp [h2], h3⟩
     ·rw [hc] at h
      simp only at h
      rw [evPure_nat] at h
      cases hv : evPure E S T' o.op o.type some with
      | none => rw [hv] at h; cases h
      | some v =>
        rw [hv] at h
        simp only [Option.bind_some] at h
        obtain ⟨h, hb⟩ := before_inv h
        obtain ⟨l, h1, h2, h3⟩ := draw_trace rem _ _ _ _ _ _ h
        exact ⟨⟨T', false, v, S, pd, .cells []⟩ :: l, ⟨rfl, rfl, hT, hG _ rfl rfl, .inr (.inr (.inl ⟨rfl, hc, hv, hb, h1⟩))⟩, by simp [h2], h3⟩
     ·rw [hc] at h
      simp only at h
      rw [evNew_nat] at h
      cases hv : evNew E (base + i) T' o.op (fun v ob => some (v, ob)) with
      | none => rw [hv] at h; cases h
      | some p =>
        rw [hv] at h
        obtain ⟨l, h1, h2, h3⟩ := draw_trace rem _ _ _ _ _ _ h
        exact ⟨⟨T', false, p.1, S, pd, p.2⟩ :: l, ⟨rfl, rfl, hT, hG _ rfl rfl, .inr (.inr (.inr (.inl ⟨rfl, hc, hv, h1⟩)))⟩, by simp [h2], h3⟩
     ·rw [hc] at h
      simp only at h
      rw [ev1_nat] at h
      cases hv : ev1 E call T' (layB (bs.getD i 0) pd S) o (fun v S' => some (v, S')) with
      | none => rw [hv] at h; cases h
      | some p =>
        rw [hv] at h
        simp only [Option.bind_some] at h
        obtain ⟨h, hb⟩ := again_inv h
        obtain ⟨l, h1, h2, h3⟩ := draw_trace rem _ _ _ _ _ _ h
        exact ⟨⟨T', false, p.1, S, pd, .cells []⟩ :: l, ⟨rfl, rfl, hT, hG _ rfl rfl, .inr (.inr (.inr (.inr ⟨rfl, hc, p.2, hv, hb, h1⟩)))⟩, by simp [h2], h3⟩
end
end Go.Gr
