/- Every operation that only reads, as the model carries it out. -/
import Derived.Test.YtcepfilbiahdjaaGrOps4
set_option linter.unusedVariables false
set_option linter.unusedSimpArgs false
set_option linter.unusedSectionVars false
namespace Go.Gr
theorem VRs.one {j : J} {x : AV} {vs : List Value} (h : VRs j [x] vs) : ∃ v, vs = [v] ∧ VR j x v := by
 simp only [VRs] at h
 obtain ⟨v, r, rfl, h1, rfl⟩ := h
 exact ⟨v, rfl, h1⟩
theorem VRs.two {j : J} {x y : AV} {vs : List Value} (h : VRs j [x, y] vs) : ∃ v u, vs = [v, u] ∧ VR j x v ∧ VR j y u := by
 simp only [VRs] at h
 obtain ⟨v, r, rfl, h1, u, r', rfl, h2, rfl⟩ := h
 exact ⟨v, u, rfl, h1, h2⟩
theorem sl_vr {j : J} {a : Option Pos} {l : Nat} {c : Cap} {v : Value} (h : VR j (.sl a l c) v) : ∃ a' c', v = .slice a' l c' ∧ a'.isNone = a.isNone ∧ ∀ z, c = .ex z → c' = z := by
 cases a with
 | none => obtain ⟨rfl, hc, rfl⟩ := sl_nil_vr h; exact ⟨none, 0, rfl, rfl, fun z hz => by rw [hc] at hz; cases hz; rfl⟩
 | some p => obtain ⟨pb, pi⟩ := p; simp only [VR] at h; obtain ⟨y, o, c', _, rfl, _, hc, _⟩ := h; exact ⟨_, _, rfl, rfl, hc⟩
section
variable {E : Env} {P : Program} (hE : EnvOk E P) {w0 w : World} {j : J} {S : AS} (hR : R w0 j S w) {β : Type} {r : β}
include hE hR
theorem evLen_sound {b : Builtin} {argTypes : Array TypeId} {t : TypeId} {consts : Array Bool} {args : List AV} {vs : Array Value} (hv : VRs j args vs.toList) {K : AV → Option β} (h : evLen E S b argTypes args K = some r) :
 ∃ av o, K av = some r ∧ VR j av o ∧ (builtin b argTypes t consts vs).run P w = .ok (.value o) w := by
 unfold evLen at h
 split at h
 ·rename_i x
  obtain ⟨v, he, hx⟩ := hv.one
  have hvs : vs = #[v] := by rw [← Array.toList_inj]; simpa using he
  subst hvs
  split at h
  case h_2 => cases h
  rename_i t' ht'
  split at h
  case h_2 => cases h
  rename_i ti hti
  split at h
  ·rename_i hk
   simp only [VR] at hx; subst hx
   refine ⟨_, _, h, vr_int _ _ _, ?_⟩
   simp [builtin, Builtin.len_, ht', hE.uStr hti hk w, goInt, str_size]
  ·rename_i hk
   refine ⟨_, _, h, vr_int _ _ _, ?_⟩
   obtain ⟨a', c', rfl, _, _⟩ := sl_vr hx
   simp [builtin, Builtin.len_, ht', hE.uSl hti hk w, goInt]
  ·rename_i hk
   unfold AS.mapLen at h
   split at h
   ·simp only [VR] at hx; subst hx
    refine ⟨_, _, h, vr_int _ _ _, ?_⟩
    simp [builtin, Builtin.len_, ht', hE.uMap hti hk w, goInt]
   ·rename_i n
    split at h
    ·rename_i kk es ho
     simp only [VR] at hx
     obtain ⟨y, hy, rfl⟩ := hx
     obtain ⟨_, x, hx, _, ms, clk, h1, h2, h3, h4⟩ := hR.rw n _ ho
     rw [hy] at hx; cases hx
     refine ⟨_, _, h, vr_int _ _ _, ?_⟩
     have hl := h3.length
     simp at hl
     simp [builtin, Builtin.len_, ht', hE.uMap hti hk w, goInt, getObj, Sem.run, h1, hl]
    ·cases h
  ·cases h
 ·rename_i x
  obtain ⟨v, he, hx⟩ := hv.one
  have hvs : vs = #[v] := by rw [← Array.toList_inj]; simpa using he
  subst hvs
  split at h
  case h_2 => cases h
  rename_i t' ht'
  split at h
  case h_2 => cases h
  rename_i ti hti
  split at h
  ·rename_i hk
   refine ⟨_, _, h, vr_int _ _ _, ?_⟩
   obtain ⟨a', c', rfl, _, hc⟩ := sl_vr hx
   have hc' := hc _ rfl
   subst hc'
   simp [builtin, Builtin.cap_, ht', hE.uSl hti hk w, goInt]
  ·cases h
 ·rename_i k a k' b
  replace h := ite_inv h
  obtain ⟨rfl, h⟩ := h
  obtain ⟨v, u, he, hx, hy⟩ := hv.two
  have hvs : vs = #[v, u] := by rw [← Array.toList_inj]; simpa using he
  subst hvs
  simp only [VR] at hx hy; subst hx hy
  refine ⟨_, _, h, vr_int _ _ _, ?_⟩
  simp [builtin, Builtin.min_, Builtin.min2]
 ·rename_i k a k' b
  replace h := ite_inv h
  obtain ⟨rfl, h⟩ := h
  obtain ⟨v, u, he, hx, hy⟩ := hv.two
  have hvs : vs = #[v, u] := by rw [← Array.toList_inj]; simpa using he
  subst hvs
  simp only [VR] at hx hy; subst hx hy
  refine ⟨_, _, h, vr_int _ _ _, ?_⟩
  simp [builtin, Builtin.max_, Builtin.max2]
 ·cases h
theorem evPure_sound {T : Tm} {a : Act} (hT : TR j T a.tmps) {o : Oper} {K : AV → Option β} (h : evPure E S T o.op o.type K = some r) (hsl : ∀ st x lo hi mx, o.op = .slice st x lo hi mx → mx = none ∨ hi ≠ none) :
 ∃ av v, K av = some r ∧ VR j av v ∧ (execOp a.eval o).run P w = .ok (.value v) w := by
 obtain ⟨dst, op, type, pos, after, guard⟩ := o
 simp only at h hsl
 cases op with
 | move x => exact ⟨_, _, h, evalO_vr hT x, rfl⟩
 | assign x => exact ⟨_, _, h, evalO_vr hT x, rfl⟩
 | pick c x y =>
   simp only [evPure] at h
   obtain ⟨b, hb, h⟩ := gB_inv h
   have hc := evalO_vr hT c
   rw [hb] at hc
   simp only [VR] at hc
   cases b with
   | true => exact ⟨_, _, h, evalO_vr hT x, by simp [execOp, hc, asBool]⟩
   | false => exact ⟨_, _, h, evalO_vr hT y, by simp [execOp, hc, asBool]⟩
 | build e parts =>
   cases hte : E.ty e with
   | none => simp [evPure, hte] at h
   | some te =>
     obtain ⟨av, v, h1, h2, h3⟩ := build_sound (w := w) hE hte hT h
     refine ⟨av, v, h1, h2, ?_⟩
     simp only [execOp, run_val]
     exact congrArg (fun q => Result.andThen q (fun v w' => Result.ok (Next.value v) w')) h3
 | load t x =>
   simp only [evPure] at h
   obtain ⟨b, i, hb, h⟩ := gA_inv h
   have hc := evalO_vr hT x
   rw [hb] at hc
   simp only [VR] at hc
   obtain ⟨y, hy, hc⟩ := hc
   obtain ⟨x', av, u, hx, hK, hr, hrun⟩ := ldT_sound hE hR h
   rw [hy] at hx; cases hx
   refine ⟨av, u, hK, hr, ?_⟩
   simp only [execOp, run_val, hc, Instr.loadAt, Instr.sureAddr, Sem.run_bind, Sem.run_pure, Result.andThen_ok, hrun]
 | nilCheck x =>
   simp only [evPure] at h
   have hc := evalO_vr hT x
   split at h
   ·rename_i a' ha
    rw [ha] at hc
    split at h
    ·rename_i p
     obtain ⟨b, i⟩ := p
     refine ⟨_, _, h, hc, ?_⟩
     simp only [VR] at hc
     obtain ⟨y, hy, hc⟩ := hc
     simp [execOp, hc]
    ·cases h
   ·rename_i f c d ha
    rw [ha] at hc
    refine ⟨_, _, h, hc, ?_⟩
    simp only [VR] at hc
    obtain ⟨A, B, hc, _⟩ := hc
    simp [execOp, hc]
   ·rename_i k ha
    rw [ha] at hc
    refine ⟨_, _, h, hc, ?_⟩
    simp only [VR] at hc
    obtain ⟨y, _, hc⟩ := hc
    simp [execOp, hc]
   ·rename_i t' v' ha
    rw [ha] at hc
    refine ⟨_, _, h, hc, ?_⟩
    simp only [VR] at hc
    obtain ⟨y, hc, _⟩ := hc
    simp [execOp, hc]
   ·rename_i t' n' ha
    rw [ha] at hc
    split at h
    ·rename_i g hm
     obtain ⟨ti, _, hmeth⟩ := hE.meth _ _ _ hm
     refine ⟨_, _, h, hc, ?_⟩
     simp only [VR] at hc
     obtain ⟨y, hc⟩ := hc
     simp [execOp, hc, (hmeth y w).2, run_program]
    ·cases h
   ·cases h
 | binOp bop xt x y yt =>
   simp only [evPure] at h
   split at h
   ·rename_i ti hti
    obtain ⟨av, v, h1, h2, h3⟩ := evBin_sound (w := w) hE hti (evalO_vr hT x) (evalO_vr hT y) (xo := x) (yo := y) h
    refine ⟨av, v, h1, h2, ?_⟩
    simp only [execOp, run_val, h3, Result.andThen_ok]
   ·cases h
 | unOp uop t x =>
   simp only [evPure] at h
   obtain ⟨av, v, h1, h2, h3⟩ := evUn_sound (P := P) (w := w) hE (evalO_vr hT x) h
   exact ⟨av, v, h1, h2, by simp only [execOp, run_val, h3, Result.andThen_ok]⟩
 | convert s d x =>
   simp only [evPure] at h
   obtain ⟨av, v, h1, h2, h3⟩ := evConv_sound hE hR (evalO_vr hT x) h
   exact ⟨av, v, h1, h2, by simp only [execOp, run_val, h3, Result.andThen_ok]⟩
 | makeInterface xt x =>
   simp only [evPure] at h
   split at h
   ·rename_i ti hti
    split at h
    ·cases h
    ·rename_i hk
     have hc := evalO_vr hT x
     obtain ⟨d, hd1, hd2⟩ := hE.notIface hti hk w
     have h' : K (.iface xt (evalO T x)) = some r := by
      revert h
      cases evalO T x <;> simp
     refine ⟨_, .iface xt (a.eval x), h', by simp only [VR]; exact ⟨_, rfl, hc⟩, ?_⟩
     simp only [execOp, run_val, Instr.makeInterface, Sem.run_bind, hd1, Result.andThen_ok]
     cases d <;> first | rfl | exact absurd rfl (hd2 _)
   ·cases h
 | makeFunc fn first caps =>
   simp only [evPure] at h
   split at h
   ·rename_i f
    refine ⟨_, .func (.func f) (first.map a.eval) (caps.map a.eval), h, ?_, by simp [execOp, run_val, Instr.makeFunc]⟩
    simp only [VR]
    refine ⟨_, _, rfl, ?_, ?_⟩
    ·simpa using VRs.of_map hT first.toList
    ·simpa using VRs.of_map hT caps.toList
   ·rename_i name
    split at h
    ·rename_i t' v' hfirst hcaps
     refine ⟨_, .func (.method name) (first.map a.eval) (caps.map a.eval), h, ?_, by simp [execOp, run_val, Instr.makeFunc]⟩
     have hv := VRs.of_map hT first.toList
     rw [hfirst] at hv
     obtain ⟨u, hu, hr⟩ := hv.one
     simp only [VR] at hr
     obtain ⟨y, rfl, _⟩ := hr
     simp only [VR]
     refine ⟨y, ?_⟩
     have e1 : first.map a.eval = #[.iface t' y] := by rw [← Array.toList_inj]; simpa using hu
     have e2 : caps = #[] := by rw [← Array.toList_inj]; simpa using hcaps
     rw [e1, e2]; simp
    ·cases h
   ·cases h
 | slice st x lo hi mx =>
   simp only [evPure] at h
   have ho : ∀ z : Option Operand, OptR j (z.map (evalO T)) (z.map a.eval) := by
    intro z
    cases z with
    | none => simp [OptR]
    | some z => simp only [Option.map_some, OptR]; exact evalO_vr hT z
   obtain ⟨av, v, h1, h2, h3⟩ := evSlice_sound hE hR (evalO_vr hT x) (ho lo) (ho hi) (ho mx) (by
    rcases hsl st x lo hi mx rfl with h | h
    ·subst h; exact .inl rfl
    ·refine .inr ?_
     cases hi with
     | none => exact absurd rfl h
     | some z => simp) h
   exact ⟨av, v, h1, h2, by simp only [execOp, run_val, h3, Result.andThen_ok]⟩
 | fieldAddr s x f =>
   simp only [evPure] at h
   obtain ⟨b, i, hb, h⟩ := gA_inv h
   obtain ⟨ti, fs, ft, off, hti, hk, hf, h⟩ := fieldOff_inv h
   obtain ⟨tf, htf, h⟩ := sizeT_inv h
   obtain ⟨hsz, hF⟩ := ite_inv' h
   have hc := evalO_vr hT x
   rw [hb] at hc
   simp only [VR] at hc
   obtain ⟨y, hy, hc⟩ := hc
   obtain ⟨ff, hu, hff⟩ := hE.uSt hti hk w
   have hfo : ∃ fd, ff[f]? = some fd ∧ fd.type = ft ∧ fd.offset = off := by
    rw [← hff] at hf
    simp only [List.getElem?_map, Array.getElem?_toList] at hf
    cases hq : ff[f]? with
    | none => simp [hq] at hf
    | some fd => simp [hq] at hf; exact ⟨fd, rfl, hf⟩
   obtain ⟨fd, hfd, rfl, rfl⟩ := hfo
   refine ⟨_, .pointer (some ⟨y.c, y.off + (i + fd.offset), none⟩), hF, by simp only [VR]; exact ⟨y, hy, rfl⟩, ?_⟩
   simp only [execOp, run_val, Instr.fieldAt, Sem.run_bind, hu, Result.andThen_ok, hfd, hc, Instr.sureAddr, Sem.run_pure, fieldPlace, hE.size htf w, if_neg hsz]
   congr 3
   unfold Addr.add; split <;> simp_all [Nat.add_assoc]
 | field s x f =>
   simp only [evPure] at h
   obtain ⟨l, hb, h⟩ := gG_inv h
   obtain ⟨ti, fs, ft, off, hti, hk, hf, h⟩ := fieldOff_inv h
   have hc := evalO_vr hT x
   rw [hb] at hc
   simp only [VR] at hc
   obtain ⟨A, hc, hA, hone⟩ := hc
   obtain ⟨ff, hu, hff⟩ := hE.uSt hti hk w
   have hfo : ∃ fd, ff[f]? = some fd ∧ fd.type = ft ∧ fd.offset = off := by
    rw [← hff] at hf
    simp only [List.getElem?_map, Array.getElem?_toList] at hf
    cases hq : ff[f]? with
    | none => simp [hq] at hf
    | some fd => simp [hq] at hf; exact ⟨fd, rfl, hf⟩
   obtain ⟨fd, hfd, rfl, rfl⟩ := hfo
   obtain ⟨av, u, h1, h2, h3⟩ := partA_sound hE hR h hA hone
   refine ⟨av, u, h1, h2, ?_⟩
   simp only [execOp, run_val, Instr.field, Sem.run_bind, hu, Result.andThen_ok, hfd, hc, asAgg, Sem.run_pure, h3]
 | indexAddr st x ix =>
   simp only [evPure] at h
   split at h
   case h_2 => cases h
   rename_i ti hti
   have hc := evalO_vr hT x
   have hi := evalO_vr hT ix
   split at h
   ·rename_i n e hk
    obtain ⟨b, i, hb, h⟩ := gA_inv h
    obtain ⟨te, hte, h⟩ := sizeT_inv h
    obtain ⟨k, m, hm, h0, h⟩ := idx_inv h
    replace h := ite_inv h
    obtain ⟨hmn, h⟩ := h
    rw [hb] at hc
    rw [hm] at hi
    simp only [VR] at hc hi
    obtain ⟨y, hy, hc⟩ := hc
    refine ⟨_, .pointer (some ⟨y.c, y.off + (i + m.toNat * te.size), none⟩), h, by simp only [VR]; exact ⟨y, hy, rfl⟩, ?_⟩
    simp only [execOp, run_val, Instr.indexAt, Sem.run_bind, hi, asIntOf, Sem.run_pure, hE.uArr hti hk w, Result.andThen_ok, hc, Instr.sureAddr, hE.size hte w]
    rw [if_pos ⟨h0, by omega⟩]
    simp only [Sem.run_bind, hE.size hte w, Result.andThen_ok, Sem.run_pure]
    congr 3
    unfold Addr.add; split <;> simp_all [Nat.add_assoc]
   ·rename_i e hk
    obtain ⟨a', len, cap, hb, h⟩ := gL_inv h
    obtain ⟨te, hte, h⟩ := sizeT_inv h
    obtain ⟨k, m, hm, h0, h⟩ := idx_inv h
    obtain ⟨hmn, hF⟩ := ite_inv h
    cases a' with
    | none => cases hF
    | some p =>
      obtain ⟨pb, pi⟩ := p
      rw [hb] at hc
      rw [hm] at hi
      simp only [VR] at hc hi
      obtain ⟨y, o, c', hy, hc, hlc, _, ho, _⟩ := hc
      have ho' : o = ⟨y.c, y.off + pi, none⟩ := by
       rcases ho with h | h
       ·omega
       ·exact h
      refine ⟨_, .pointer (some ⟨y.c, y.off + (pi + m.toNat * te.size), none⟩), hF, by simp only [VR]; exact ⟨y, hy, rfl⟩, ?_⟩
      simp only [execOp, run_val, Instr.indexAt, Sem.run_bind, hi, asIntOf, Sem.run_pure, hE.uSl hti hk w, Result.andThen_ok, hc]
      rw [if_pos ⟨h0, by omega⟩]
      simp only [Sem.run_bind, hE.size hte w, Result.andThen_ok, Sem.run_pure]
      congr 3
      rw [ho']
      unfold Addr.add; split <;> simp_all [Nat.add_assoc]
   ·cases h
 | index st x ix =>
   simp only [evPure] at h
   split at h
   case h_2 => cases h
   rename_i ti hti
   have hc := evalO_vr hT x
   have hi := evalO_vr hT ix
   split at h
   ·rename_i n e hk
    obtain ⟨l, hb, h⟩ := gG_inv h
    obtain ⟨te, hte, h⟩ := sizeT_inv h
    obtain ⟨k, m, hm, h0, h⟩ := idx_inv h
    replace h := ite_inv h
    obtain ⟨hmn, h⟩ := h
    rw [hb] at hc
    rw [hm] at hi
    simp only [VR] at hc hi
    obtain ⟨A, hc, hA, hone⟩ := hc
    obtain ⟨av, u, h1, h2, h3⟩ := partA_sound hE hR h hA hone
    refine ⟨av, u, h1, h2, ?_⟩
    simp only [execOp, run_val, Instr.index, Sem.run_bind, hi, asIntOf, Sem.run_pure, hE.uArr hti hk w, Result.andThen_ok, hc]
    rw [if_pos ⟨h0, by omega⟩]
    simp only [Sem.run_bind, hE.size hte w, Result.andThen_ok, h3]
   ·rename_i hk
    obtain ⟨s, hb, h⟩ := gS_inv h
    obtain ⟨k, m, hm, h0, h⟩ := idx_inv h
    split at h
    ·rename_i c hcs
     rw [hb] at hc
     rw [hm] at hi
     simp only [VR] at hc hi
     refine ⟨_, _, h, vr_int _ _ _, ?_⟩
     have hgs : (⟨s.toArray⟩ : ByteArray)[m.toNat]? = some c := by
      obtain ⟨hlt, hcc⟩ := List.getElem?_eq_some_iff.1 hcs
      have hsz : m.toNat < (⟨s.toArray⟩ : ByteArray).size := by rw [str_size]; exact hlt
      have hp := getElem?_pos (⟨s.toArray⟩ : ByteArray) m.toNat hsz
      rw [hp, ← hcc]
      rfl
     simp only [execOp, run_val, Instr.index, Sem.run_bind, hi, asIntOf, Sem.run_pure, hE.uStr hti hk w, Result.andThen_ok, hc, if_pos h0, hgs]
    ·cases h
   ·cases h
 | lookup mt m k ok =>
   simp only [evPure] at h
   split at h
   case h_2 => cases h
   rename_i ti hti
   split at h
   case h_2 => cases h
   rename_i kt et hk
   split at h
   case h_2 => cases h
   rename_i te tk hte htk
   replace h := cond_inv h
   obtain ⟨hn, h⟩ := h
   obtain ⟨mm, hm, h⟩ := gM_inv h
   have hmv := evalO_vr hT m
   rw [hm] at hmv
   obtain ⟨es, ms, h, hkf, h1, h2, hw⟩ := mapOf_sound hE hR hmv h
   replace h := cond_inv h
   obtain ⟨fk, h⟩ := h
   obtain ⟨av, v, q1, q2, q3⟩ := lookup_sound hE hR hti hk hte htk hn hmv (evalO_vr hT k) fk hkf h1 h2 (by
    rcases hw with ⟨_, a1, a2, _⟩ | ⟨n, x, clk, _, _, _, a3, a4⟩
    ·exact .inl ⟨a1, a2⟩
    ·exact .inr ⟨_, _, a3, a4⟩) h
   exact ⟨av, v, q1, q2, by simp only [execOp, run_val, q3, Result.andThen_ok]⟩
 | extract x i =>
   simp only [evPure] at h
   obtain ⟨l, hb, h⟩ := gT_inv h
   split at h
   ·rename_i v hv
    obtain ⟨ti, hti, h⟩ := fitT_inv h
    have hc := evalO_vr hT x
    rw [hb] at hc
    simp only [VR] at hc
    obtain ⟨A, hc, hA⟩ := hc
    obtain ⟨u, hu, hr⟩ := hA.get _ _ hv
    refine ⟨v, u, h, hr, ?_⟩
    have hu' : A[i]? = some u := by simpa using hu
    simp [execOp, run_val, Instr.extract, hc, hu']
   ·cases h
 | call c =>
   simp only [evPure] at h
   split at h
   ·rename_i b hb
    obtain ⟨av, v, h1, h2, h3⟩ := evLen_sound hE hR (t := type) (consts := c.args.map fun | .const _ => true | _ => false) (vs := c.args.map a.eval) (by simpa using VRs.of_map hT c.args.toList) h
    refine ⟨av, v, h1, h2, ?_⟩
    simp only [execOp, resolve, hb, Sem.run_bind, Sem.run_pure, Result.andThen_ok, invoke]
    exact h3
   ·cases h
 | _ => simp [evPure] at h
end
end Go.Gr
