/- Every operation that only reads. -/
import Derived.Test.YtcepfilbiahdjaaGrOps3
set_option linter.unusedVariables false
set_option linter.unusedSimpArgs false
set_option linter.unusedSectionVars false
namespace Go.Gr
theorem run_mapM_pure {α β : Type} {P : Program} {w : World} (g : α → Sem β) (h : α → β) : ∀ (l : List α), (∀ x ∈ l, (g x).run P w = .ok (h x) w) → (l.mapM g).run P w = .ok (l.map h) w
 | [], _ => by simp
 | x :: l, hx => by
   rw [List.mapM_cons, Sem.run_bind, hx x (by simp), Result.andThen_ok, Sem.run_bind, run_mapM_pure g h l (fun y hy => hx y (by simp [hy]))]
   simp
theorem VRs.of_map {j : J} {T : Tm} {a : Act} (h : TR j T a.tmps) : ∀ (xs : List Operand), VRs j (xs.map (evalO T)) (xs.map a.eval)
 | [] => by simp [VRs]
 | x :: xs => by simp only [List.map_cons, VRs]; exact ⟨_, _, rfl, evalO_vr h x, VRs.of_map h xs⟩
section
variable {E : Env} {P : Program} (hE : EnvOk E P) {w0 w : World} {j : J} {S : AS} (hR : R w0 j S w) {β : Type} {r : β}
include hE
theorem fillA_sound {place : Nat → Option (TypeId × Nat)} {cplace : Nat → Option (Nat × Nat)} (hp : ∀ i t off ti, place i = some (t, off) → E.ty t = some ti → cplace i = some (off, ti.size)) {T : Tm} {a : Act} (hT : TR j T a.tmps) :
 ∀ (parts : List (Nat × Operand)) (cs : List AV) (C : Array Value) (K : List AV → Option β), RowR j cs C → fillA E place cs (parts.map fun p => (p.1, evalO T p.2)) K = some r →
   ∃ cs' C', K cs' = some r ∧ RowR j cs' C' ∧ C'.size = C.size ∧ cs'.length = cs.length ∧ Instr.fill cplace C (parts.map fun p => (p.1, a.eval p.2)) = some C'
 | [], cs, C, K, hr, h => by
   simp only [List.map_nil, fillA] at h
   exact ⟨cs, C, h, hr, rfl, rfl, by simp [Instr.fill]⟩
 | (i, x) :: parts, cs, C, K, hr, h => by
   simp only [List.map_cons, fillA] at h
   split at h
   ·cases h
   rename_i t off hpl
   split at h
   ·cases h
   rename_i ti hti
   obtain ⟨vs, hK, hv, hvl, hone⟩ := cellsOf_inv h (evalO_vr hT x)
   replace hK := ite_inv hK
   obtain ⟨hle, hK⟩ := hK
   have hl := hr.1.length
   have hvl' := hv.length
   simp only [Array.length_toList] at hl hvl'
   obtain ⟨cs', C', h1, h2, h3, h4, h5⟩ := fillA_sound hp hT parts _ _ K (hr.put hv hone hle) hK
   refine ⟨cs', C', h1, h2, ?_, ?_, ?_⟩
   ·rw [h3]; exact putCells_size (by simp; omega)
   ·rw [h4]; exact splice_length hle
   ·simp only [List.map_cons, Instr.fill, hp i t off ti hpl hti]
    have h6 : ((a.eval x).cells.size ≠ ti.size || decide (off + (a.eval x).cells.size > C.size)) = false := by
     simp; omega
    rw [if_neg (by simp only [ne_eq] at h6; simp at h6 ⊢; omega)]
    rw [← Array.foldl_toList, Array.toList_zipIdx]
    have := foldl_put off (a.eval x).cells.toList 0 C (by simp; omega)
    simp only [Nat.add_zero] at this
    rw [this]; exact h5
theorem build_sound {e : TypeId} {te : TI} (hte : E.ty e = some te) {T : Tm} {a : Act} (hT : TR j T a.tmps) {parts : Array (Nat × Operand)} {t : TypeId} {K : AV → Option β} (h : evPure E S T (.build e parts) t K = some r) :
 ∃ av o, K av = some r ∧ VR j av o ∧ (Instr.build e (parts.map fun (i, x) => (i, a.eval x))).run P w = .ok o w := by
 simp only [evPure, hte] at h
 have hparts : (parts.map fun (x : Nat × Operand) => (x.1, a.eval x.2)).toList = parts.toList.map fun p => (p.1, a.eval p.2) := by simp
 split at h
 ·rename_i fs hk
  have hn : noTup te.k = true := by rw [hk]; rfl
  obtain ⟨z, hz1, hz2, hz3, hz4, hz5⟩ := hE.zero hte hn w
  obtain ⟨ff, hu, hff⟩ := hE.uSt hte hk w
  have hrow : RowR j te.zero z.cells := ⟨(zsEq.vrs hz2).1, (zsEq.vrs (j := j) hz2).2⟩
  have hpl : ∃ g : Field → Nat × Nat, (∀ x ∈ ff.toList, (do pure (x.offset, ← sizeOf x.type) : Sem (Nat × Nat)).run P w = .ok (g x) w) ∧ ∀ x ∈ ff.toList, (g x).1 = x.offset ∧ ∀ ti, E.ty x.type = some ti → (g x).2 = ti.size := by
   refine ⟨fun x => (x.offset, ((P.info? x.type).map (·.size)).getD 0), fun x hx => ?_, fun x hx => ⟨rfl, fun ti hti => ?_⟩⟩
   ·have hun : P.underlying e = some (.struct ff) := by
     unfold underlying at hu
     cases hc : P.underlying e with
     | none => simp [hc] at hu
     | some d => simp [hc] at hu; rw [hu]
    obtain ⟨i, hi⟩ := (hE.ty e te hte).flds ff hun x hx
    simp [Go.sizeOf, typeInfo, hi]
   ·obtain ⟨i, z, hi, hs, _⟩ := (hE.ty _ _ hti).info
    simp [hi, hs]
  obtain ⟨g, hg1, hg2⟩ := hpl
  have hm : (ff.mapM fun f => (do pure (f.offset, ← sizeOf f.type) : Sem (Nat × Nat))).run P w = .ok (ff.map g) w := by
   rw [Array.mapM_eq_mapM_toList, Sem.run_map, run_mapM_pure _ g _ hg1]
   simp [← Array.toList_map]
  obtain ⟨cs', C', h1, h2, h3, h4, h5⟩ := fillA_sound hE (place := fun i => fs[i]?) (cplace := fun i => (ff.map g)[i]?) (by
   intro i t off ti hi hti
   rw [← hff] at hi
   simp only [List.getElem?_map, Array.getElem?_toList] at hi
   cases hf : ff[i]? with
   | none => simp [hf] at hi
   | some f =>
     simp [hf] at hi
     obtain ⟨rfl, rfl⟩ := hi
     have hmem : f ∈ ff.toList := by
      have := Array.mem_of_getElem? hf
      simpa using this
     obtain ⟨e1, e2⟩ := hg2 f hmem
     simp only [Array.getElem?_map, hf, Option.map_some]
     rw [← e1, ← e2 ti hti]) hT parts.toList te.zero z.cells _ hrow h
  refine ⟨_, .agg C', h1, by simp only [VR]; exact ⟨C', rfl, h2.1, h2.2⟩, ?_⟩
  simp only [Instr.build, Sem.run_bind, hz1, Result.andThen_ok, hu]
  simp only [Sem.run_bind, hm, Result.andThen_ok, hparts, h5]
  rfl
 ·rename_i n e' hk
  have hn : noTup te.k = true := by rw [hk]; rfl
  obtain ⟨z, hz1, hz2, hz3, hz4, hz5⟩ := hE.zero hte hn w
  have hu := hE.uArr hte hk w
  obtain ⟨ti, hti, h⟩ := sizeT_inv h
  have hrow : RowR j te.zero z.cells := ⟨(zsEq.vrs hz2).1, (zsEq.vrs (j := j) hz2).2⟩
  obtain ⟨cs', C', h1, h2, h3, h4, h5⟩ := fillA_sound hE (place := fun i => some (e', i * ti.size)) (cplace := fun i => some (i * ti.size, ti.size)) (by
   intro i t off tj hi hj
   simp at hi
   obtain ⟨rfl, rfl⟩ := hi
   rw [hti] at hj; cases hj; rfl) hT parts.toList te.zero z.cells _ hrow h
  refine ⟨_, .agg C', h1, by simp only [VR]; exact ⟨C', rfl, h2.1, h2.2⟩, ?_⟩
  simp only [Instr.build, Sem.run_bind, hz1, Result.andThen_ok, hu, hE.size hti w, hparts, h5]
  rfl
 ·cases h
theorem evUn_sound {op : UnOp} {x : AV} {u : Value} (hx : VR j x u) {K : AV → Option β} (h : evUn op x K = some r) : ∃ av o, K av = some r ∧ VR j av o ∧ (Op.unary op u).run P w = .ok o w := by
 unfold evUn at h
 split at h
 ·simp only [VR] at hx; subst hx; exact ⟨_, _, h, vr_int _ _ _, by simp [Op.unary, Op.intArith]⟩
 ·simp only [VR] at hx; subst hx; exact ⟨_, _, h, vr_int _ _ _, by simp [Op.unary, Op.intBits]⟩
 ·simp only [VR] at hx; subst hx; exact ⟨_, _, h, vr_bool _ _, by simp [Op.unary]⟩
 ·cases h
include hR
theorem findNow_sound {kk : TK} {d : TypeDesc} {k : AV} {u : Value} (hs : ∀ x v, VR j x v → keyFits kk x = true → Instr.sameNow d u v = some (AV.beq k x)) :
 ∀ (es : List (AV × AV)) (ms : List MapEntry) (i : Nat), (∀ e ∈ es, keyFits kk e.1 = true) → VRs j (es.map (·.1)) (ms.map (·.key)) → VRs j (es.map (·.2)) (ms.map (·.val)) →
   (findA k es = none ∧ Instr.findNow d u ms i = some none) ∨ ∃ x v n, findA k es = some x ∧ Instr.findNow d u ms i = some (some (n, v)) ∧ VR j x v
 | [], ms, i, _, h1, _ => by
   simp only [List.map_nil, VRs] at h1
   have : ms = [] := by simpa using h1
   subst this
   exact .inl ⟨rfl, rfl⟩
 | (x, v) :: es, ms, i, hpl, h1, h2 => by
   cases ms with
   | nil => simp [VRs] at h1
   | cons m ms =>
     simp only [List.map_cons, VRs] at h1 h2
     obtain ⟨a, b, he1, r1, r2⟩ := h1
     obtain ⟨c, d', he2, s1, s2⟩ := h2
     cases he1; cases he2
     have hs' := hs x m.key r1 (hpl (x, v) (by simp))
     cases hb : AV.beq k x with
     | true =>
       refine .inr ⟨v, m.val, i, by simp [findA, hb], ?_, s1⟩
       simp [Instr.findNow, hs', hb]
     | false =>
       have := findNow_sound hs es ms (i + 1) (fun e he => hpl e (by simp [he])) r2 s2
       simpa [findA, hb, Instr.findNow, hs'] using this
omit hE hR in
theorem sameNow_sound {kk : TK} {d : TypeDesc} (hd : kOk (some d) kk = true) {k x : AV} {u v : Value} (hk : VR j k u) (hx : VR j x v) (fk : keyFits kk k = true) (fx : keyFits kk x = true) : Instr.sameNow d u v = some (AV.beq k x) := by
 cases kk <;> cases k <;> simp [keyFits] at fk <;> cases x <;> simp [keyFits] at fx <;> cases d <;> simp [kOk] at hd
 ·simp only [VR] at hk hx
  subst hk hx
  subst fk fx
  simp [Instr.sameNow, AV.beq]
 ·simp only [VR] at hk hx
  subst hk hx
  simp [Instr.sameNow, AV.beq]
 ·simp only [VR] at hk hx
  subst hk hx
  simp only [Instr.sameNow, AV.beq]
  congr 1
  rw [beq_toListBytes]; simp
omit hE hR in
theorem checkKey_plain' {kk : TK} {t : TypeId} {d : TypeDesc} (hu : (underlying t).run P w = .ok d w) (hd : kOk (some d) kk = true) {k : AV} {u : Value} (hk : VR j k u) (fk : keyFits kk k = true) (b : Bool) (n : Nat) : (Instr.checkKey b (n + 1) t u).run P w = .ok () w := by
 cases kk <;> cases k <;> simp [keyFits] at fk <;> cases d <;> simp [kOk] at hd <;> simp only [VR] at hk <;> subst hk <;> simp [Instr.checkKey, hu]
omit hE hR in
theorem checkKey_plain {kk : TK} {t : TypeId} {d : TypeDesc} (hu : (underlying t).run P w = .ok d w) (hd : kOk (some d) kk = true) {k : AV} {u : Value} (hk : VR j k u) (fk : keyFits kk k = true) (b : Bool) : (Instr.checkKey b 10000 t u).run P w = .ok () w :=
 checkKey_plain' hu hd hk fk b 9999
omit hR in
theorem EnvOk.und' {t : TypeId} {ti : TI} (ht : E.ty t = some ti) (w : World) : ∃ d, (underlying t).run P w = .ok d w ∧ kOk (some d) ti.k = true := by
 have := hE.und ht
 unfold underlying
 cases hc : P.underlying t with
 | none => rw [hc] at this; cases hk' : ti.k <;> simp [hk', kOk] at this
 | some d => rw [hc] at this; exact ⟨d, by simp [hc], this⟩
theorem mapOf_sound {kt : TK} {m : Option Nat} {u : Value} (hm : VR j (.mp m) u) {K : List (AV × AV) → Option β} (h : S.mapOf kt m K = some r) :
 ∃ es ms, K es = some r ∧ (∀ e ∈ es, keyFits kt e.1 = true) ∧ VRs j (es.map (·.1)) (ms.toList.map (·.key)) ∧ VRs j (es.map (·.2)) (ms.toList.map (·.val)) ∧
   ((m = none ∧ u = .map none ∧ ms = #[] ∧ es = []) ∨ ∃ n x clk, m = some n ∧ S.rw.get n = some (.map kt es) ∧ j (.rw n) = some x ∧ u = .map (some x.c) ∧ w.heap[x.c]? = some (.map ms clk)) := by
 unfold AS.mapOf at h
 split at h
 ·simp only [VR] at hm
  exact ⟨[], #[], h, by simp, by simp [VRs], by simp [VRs], .inl ⟨rfl, hm, rfl, rfl⟩⟩
 ·rename_i n
  split at h
  ·rename_i kk es ho
   replace h := ite_inv h
   obtain ⟨rfl, h⟩ := h
   simp only [VR] at hm
   obtain ⟨y, hy, rfl⟩ := hm
   obtain ⟨_, x, hx, _, ms, clk, h1, h2, h3, h4⟩ := hR.rw n _ ho
   rw [hy] at hx; cases hx
   exact ⟨es, ms, h, h2, h3, h4, .inr ⟨n, y, clk, rfl, ho, hy, rfl, h1⟩⟩
  ·cases h
theorem lookup_sound {mt kt et : TypeId} {ti te tk : TI} (hti : E.ty mt = some ti) (hk : ti.k = .mp kt et) (hte : E.ty et = some te) (htk : E.ty kt = some tk) (hn : noTup te.k = true) {m : Option Nat} {k : AV} {u v : Value} (hm : VR j (.mp m) u) (hkv : VR j k v) (fk : keyFits tk.k k = true) {ok : Bool} {es : List (AV × AV)} {ms : Array MapEntry}
 (hkf : ∀ e ∈ es, keyFits tk.k e.1 = true) (h1 : VRs j (es.map (·.1)) (ms.toList.map (·.key))) (h2 : VRs j (es.map (·.2)) (ms.toList.map (·.val)))
 (hw : (u = .map none ∧ ms = #[]) ∨ ∃ c clk, u = .map (some c) ∧ w.heap[c]? = some (.map ms clk)) {K : AV → Option β}
 (h : (fit te ((findA k es).getD (cond (isAgg te.k) (.agg te.zero) (te.zero.headD .undef))) fun v => K (cond ok (.tup [v, .bool (findA k es).isSome]) v)) = some r) :
 ∃ av o, K av = some r ∧ VR j av o ∧ (Instr.lookup mt u v ok).run P w = .ok o w := by
 have hfit := fit_inv h
 obtain ⟨d, hd1, hd2⟩ := EnvOk.und' hE htk w
 have hck := fun b => checkKey_plain (j := j) hd1 hd2 hkv fk b
 have hfind := findNow_sound hE hR (d := d) (u := v) (k := k) (fun x v' hx fx => sameNow_sound hd2 hkv hx fk fx) es ms.toList 0 hkf h1 h2
 have key0 : ∀ z, (zeroValue et).run P w = .ok z w → Instr.findNow d v ms.toList 0 = some none → (Instr.lookup mt u v ok).run P w = .ok (if ok then .tuple #[z, .bool false] else z) w := by
  intro z hz ho
  rcases hw with ⟨rfl, rfl⟩ | ⟨c, clk, rfl, hc⟩
  ·simp only [Instr.lookup, Sem.run_bind, hE.uMap hti hk w, Result.andThen_ok, Sem.run_pure, hck, Instr.findKey, hd1, ho, hz]
  ·simp only [Instr.lookup, Sem.run_bind, hE.uMap hti hk w, Result.andThen_ok, getObj, Sem.run, hc, Sem.run_pure, hck, Instr.findKey, hd1, ho, hz]
 have key1 : ∀ n val, Instr.findNow d v ms.toList 0 = some (some (n, val)) → (Instr.lookup mt u v ok).run P w = .ok (if ok then .tuple #[val, .bool true] else val) w := by
  intro n val ho
  rcases hw with ⟨rfl, rfl⟩ | ⟨c, clk, rfl, hc⟩
  ·simp only [Instr.lookup, Sem.run_bind, hE.uMap hti hk w, Result.andThen_ok, Sem.run_pure, hck, Instr.findKey, hd1, ho]
  ·simp only [Instr.lookup, Sem.run_bind, hE.uMap hti hk w, Result.andThen_ok, getObj, Sem.run, hc, Sem.run_pure, hck, Instr.findKey, hd1, ho]
 rcases hfind with ⟨e1, e2⟩ | ⟨x, val, n, e1, e2, e3⟩
 ·obtain ⟨z, hz1, hz2, hz3, hz4, hz5⟩ := hE.zero hte hn w
  have hrun := key0 z hz1 e2
  rw [e1] at hfit
  simp only [Option.getD_none, Option.isSome_none] at hfit
  have hz : VR j (cond (isAgg te.k) (.agg te.zero) (te.zero.headD .undef)) z := by
   obtain ⟨q1, q2⟩ := zsEq.vrs (j := j) hz2
   cases ha : isAgg te.k with
   | true =>
     rw [ha] at hz3
     cases z <;> simp [isAggV] at hz3
     simp only [cond_true, VR]
     exact ⟨_, rfl, q1, q2⟩
   | false =>
     rw [ha] at hz3
     have hc : z.cells = #[z] := by cases z <;> first | rfl | simp [isAggV] at hz3
     rw [hc] at q1
     cases hzz : te.zero with
     | nil => rw [hzz] at q1; simp [VRs] at q1
     | cons y ys =>
       rw [hzz] at q1
       simp only [VRs] at q1
       obtain ⟨a, b, he, r1, _⟩ := q1
       cases he
       exact r1
  cases ok with
  | true =>
    refine ⟨_, _, hfit, ?_, hrun⟩
    simp only [cond_true, if_true, VR]
    exact ⟨_, rfl, by simp only [VRs]; exact ⟨_, _, rfl, hz, _, _, rfl, vr_bool _ _, rfl⟩⟩
  | false => exact ⟨_, _, hfit, hz, hrun⟩
 ·have hrun := key1 n val e2
  rw [e1] at hfit
  simp only [Option.getD_some, Option.isSome_some] at hfit
  cases ok with
  | true =>
    refine ⟨_, _, hfit, ?_, hrun⟩
    simp only [cond_true, if_true, VR]
    exact ⟨_, rfl, by simp only [VRs]; exact ⟨_, _, rfl, e3, _, _, rfl, vr_bool _ _, rfl⟩⟩
  | false => exact ⟨_, _, hfit, e3, hrun⟩
end
end Go.Gr
