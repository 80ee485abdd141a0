/- Operations that call, and rows of operations. -/
import Derived.Test.YtcepfilbiahdjaaGrOps7
import Derived.OrdersIn
set_option linter.unusedVariables false
set_option linter.unusedSimpArgs false
set_option linter.unusedSectionVars false
namespace Go.Gr
def Fw (r : Option Nat) : Fence := { Fence.wide with round := r }
def Lids (S S' : AS) : Prop := S'.loops.map (·.id) = S.loops.map (·.id)
def CallPost (w0 : World) (j : J) (S : AS) (w : World) (res : AV × AS) : Ending → World → Prop := fun e w' =>
 ∃ v j', e = .returned v ∧ VR j' res.1 v ∧ Good w0 j S w j' res.2 w' ∧ Lids S res.2
def CallOk (P : Program) (call : CallA) : Prop :=
 ∀ (tgt : Tgt) (args : List AV) (S : AS) (res : AV × AS), call tgt args S = some res → ∀ (w0 : World) (j : J) (w : World) (vs : Array Value), R w0 j S w → VRs j args vs.toList →
   match tgt with
   | .fn f => (∃ fn c, P.funcs[f]? = some fn ∧ fn.body = some c ∧ fn.name ≠ "runtime.NumGoroutine") ∧ ∀ n, CallsIn (Fw none) n P f vs w (CallPost w0 j S w res)
   | .yld k => ∀ x, j (.rw k) = some x → ∃ f tmps assign body, (Instr.yield x.c vs).run P w = .ok (.round x.c f tmps assign body) w ∧ ∀ rd n, RoundIn (Fw rd) n P x.c f tmps assign body w (CallPost w0 j S w res)
theorem TR.cons {j : J} {T : Tm} {tm : Array Value} (h : TR j T tm) {d : Nat} {av : AV} {v : Value} (hv : VR j av v) (hd : d < tm.size) : TR j ((d, av) :: T) (tm.setIfInBounds d v) := by
 intro t
 simp only [look]
 cases hb : Nat.beq d t with
 | true =>
   have : d = t := Nat.eq_of_beq_eq_true hb
   subst this
   exact ⟨by simpa [hd] using hv, fun _ => by simpa using hd, (h d).2.2⟩
 | false =>
   have hne : d ≠ t := Nat.ne_of_beq_eq_false hb
   obtain ⟨h1, h2, h3⟩ := h t
   exact ⟨by simpa [Array.getElem?_setIfInBounds_ne hne] using h1, fun hn => by simpa using h2 hn, h3⟩
theorem TR.again {j : J} {T : Tm} {tm : Array Value} (h : TR j T tm) {d : Nat} {av : AV} (hv : VR j av (tm.getD d undef)) (hd : d < tm.size) : TR j ((d, av) :: T) tm := by
 intro t
 simp only [look]
 cases hb : Nat.beq d t with
 | true =>
   have : d = t := Nat.eq_of_beq_eq_true hb
   subst this
   exact ⟨hv, fun _ => hd, (h d).2.2⟩
 | false => exact h t
theorem TR.put {j : J} {T : Tm} {a : Act} (h : TR j T a.tmps) {o : Oper} (hw : wfOp a.tmps.size o = true) {av : AV} {v : Value} (hv : VR j av v) : TR j (Gr.put T o.dst av) (a.put o.dst v).tmps := by
 unfold wfOp at hw
 cases hd : o.dst with
 | none => simpa [Gr.put, Act.put] using h
 | some d =>
   rw [hd] at hw
   simp only [Bool.and_eq_true] at hw
   have : d < a.tmps.size := Nat.le_of_ble_eq_true hw.1
   simpa [Gr.put, Act.put] using h.cons hv this
theorem put_size (a : Act) (dst : Option Tmp) (v : Value) : (a.put dst v).tmps.size = a.tmps.size := by
 cases dst <;> simp [Act.put]
theorem put_defers (a : Act) (dst : Option Tmp) (v : Value) : (a.put dst v).defers = a.defers := by
 cases dst <;> simp [Act.put]
theorem vr_skip (j : J) : VR j (.tup []) undef := by simp only [VR]; exact ⟨#[], rfl, by simp [VRs]⟩
theorem wfOp_sl {n : Nat} {o : Oper} (h : wfOp n o = true) : ∀ st x lo hi mx, o.op = .slice st x lo hi mx → mx = none ∨ hi ≠ none := by
 intro st x lo hi mx ho
 unfold wfOp at h
 rw [ho] at h
 simp only [Bool.and_eq_true, Bool.or_eq_true, Option.isNone_iff_eq_none] at h
 rcases h.2 with h | h
 ·exact .inl h
 ·refine .inr fun hn => ?_
  rw [hn] at h; cases h
theorem extract_one (x : Value) (A : Array Value) : (#[x] ++ A).extract 1 (#[x] ++ A).size = A := by
 apply Array.ext_getElem?
 intro i
 rw [Array.getElem?_extract]
 simp only [Array.size_append, List.size_toArray, List.length_cons, List.length_nil, Nat.zero_add, Array.getElem?_append]
 by_cases h : i < A.size
 ·rw [if_pos (by omega), if_neg (by omega)]; congr 1; omega
 ·rw [if_neg (by omega)]; simp; omega
theorem gdA_sound {β : Type} {r : β} {j : J} {ops : Array Oper} {o : Oper} {T : Tm} {tm : Array Value} (hT : TR j T tm) {run skip : Tm → Option β} (h : gdA ops o T run skip = some r) :
 (Region.wanted o (yielded ops tm) = true ∧ ∃ T', TR j T' tm ∧ run T' = some r) ∨ (Region.wanted o (yielded ops tm) = false ∧ ∃ T', TR j T' tm ∧ skip T' = some r) := by
 unfold gdA at h
 cases hg : o.guard with
 | none => rw [hg] at h; exact .inl ⟨by simp [Region.wanted, hg], T, hT, h⟩
 | some p =>
   obtain ⟨g, want⟩ := p
   rw [hg] at h
   simp only at h
   cases hd : (ops[g]?).bind (·.dst) with
   | none => rw [hd] at h; cases h
   | some d =>
     rw [hd] at h
     simp only at h
     obtain ⟨h1, h2, _⟩ := hT d
     split at h
     ·rename_i b hb
      have hlt := h2 (by rw [hb]; simp)
      rw [hb] at h1
      simp only [VR] at h1
      have hget : tm[d]? = some (.bool b) := by
       rw [Array.getElem?_eq_getElem hlt]
       simp only [Array.getD_eq_getD_getElem?, Array.getElem?_eq_getElem hlt, Option.getD_some] at h1
       rw [h1]
      have hy : yielded ops tm g = some b := by
       unfold yielded
       rw [hd]
       simp [hget]
      have ht : TR j ((d, .bool b) :: T) tm := hT.again (by rw [h1]; simp only [VR]) hlt
      cases b <;> cases want <;> simp only [cond_true, cond_false] at h <;> first
       | exact .inl ⟨by simp [Region.wanted, hg, hy], _, ht, h⟩
       | exact .inr ⟨by simp [Region.wanted, hg, hy], _, ht, h⟩
     ·rename_i hb
      rw [hb] at h1
      simp only [VR, VRs] at h1
      obtain ⟨A, h1, hA⟩ := h1
      have hy : yielded ops tm g = none := by
       unfold yielded
       rw [hd]
       simp only [Option.bind_some]
       cases hq : tm[d]? with
       | none => rfl
       | some u =>
         simp only [Array.getD_eq_getD_getElem?, hq, Option.getD_some] at h1
         subst h1; rfl
      exact .inr ⟨by simp [Region.wanted, hg, hy], T, hT, h⟩
     ·cases h
section
variable {E : Env} {P : Program} (hE : EnvOk E P) {call : CallA} (hC : CallOk P call) {w0 w : World} {j : J} {S : AS} (hR : R w0 j S w) {β : Type} {r : β}
include hE hC hR
theorem callFunc_run {f : FuncId} {args : Array Value} (h : ∃ fn c, P.funcs[f]? = some fn ∧ fn.body = some c ∧ fn.name ≠ "runtime.NumGoroutine") : (callFunc f args).run P w = .ok (.enter f args) w := by
 obtain ⟨fn, c, h1, h2, h3⟩ := h
 simp [callFunc, h1, h2, h3]
theorem ev1_sound {T : Tm} {a : Act} (hT : TR j T a.tmps) {o : Oper} {K : AV → AS → Option β} (h : ev1 E call T S o K = some r) (hw : wfOp a.tmps.size o = true) {rd : Option Nat} {n : Nat} {next : Act → World → Prop} {Q : Exit → Act → World → Prop}
 (hnext : ∀ av S' v w' j', K av S' = some r → Good w0 j S w j' S' w' → VR j' av v → Lids S S' → next (a.put o.dst v) w') : o.wpIn (Fw rd) n P a w next Q := by
 refine ⟨fun _ _ => trivial, ?_⟩
 have hsem : ∀ (hnd : ∀ c, o.op ≠ .defer c), o.semAt (Fw rd).round a.eval = execOp a.eval o := fun hnd => Oper.semAt_eq _ _ _ hnd
 have hpure : evPure E S T o.op o.type (fun v => K v S) = some r → (∀ c, o.op ≠ .defer c) → o.uponIn (Fw rd) n P a next Q ((o.semAt (Fw rd).round a.eval).run P w) := by
  intro h hnd
  obtain ⟨av, v, h1, h2, h3⟩ := evPure_sound hE hR hT h (wfOp_sl hw)
  rw [hsem hnd, h3, Oper.uponIn_value]
  exact hnext av S v w j h1 (Good.refl hR) h2 rfl
 have heff : evEff E S T o.op K = some r → (∀ c, o.op ≠ .defer c) → o.uponIn (Fw rd) n P a next Q ((o.semAt (Fw rd).round a.eval).run P w) := by
  intro h hnd
  obtain ⟨av, S', h1, v, w', j', h2, h3, h4, h5⟩ := evEff_sound hE hR hT h
  have h6 : Lids S S' := by unfold Lids; rw [h5]
  rw [hsem hnd]
  rcases h2 with h2 | ⟨h2, rfl⟩
  ·rw [h2, Oper.uponIn_value]; exact hnext av S' v w' j' h1 h3 h4 h6
  ·rw [h2, Oper.uponIn_skip]; exact hnext av S' _ w' j' h1 h3 h4 h6
 have hnew : evNew E S.next T o.op (fun v ob => K v (S.new ob)) = some r → (∀ c, o.op ≠ .defer c) → o.uponIn (Fw rd) n P a next Q ((o.semAt (Fw rd).round a.eval).run P w) := by
  intro h hnd
  obtain ⟨av, ob, h1, v, obc, dr, tot, h2, h3⟩ := evNew_sound (w := w) hE hT h
  have hfr := hR.fresh S.next (Nat.le_refl _)
  obtain ⟨q1, q2⟩ := h3 (J.upd j S.next ⟨w.heap.size, 0, tot⟩) { w with heap := w.heap.push obc, drawn := dr } (J.le_upd _ hfr) (J.upd_same _ _ _) (by simp)
  have hg := R.add hR (n := S.next) (nx := S.next + 1) (o := ob) (x := ⟨w.heap.size, 0, tot⟩) (w' := { w with heap := w.heap.push obc, drawn := dr }) hfr (Nat.le_refl _) (Nat.lt_succ_self _) rfl (by simp) ⟨rfl, rfl, rfl⟩ (fun k hk => by simp [Array.getElem?_push, Nat.ne_of_lt hk]) q2
  rw [hsem hnd, h2, Oper.uponIn_value]
  exact hnext av _ v _ _ h1 hg q1 rfl
 unfold ev1 at h
 split at h
 ·rename_i c hop
  have hnd : ∀ c, o.op ≠ .defer c := by rw [hop]; simp
  split at h
  ·rename_i f hf
   have hfv := evalO_vr hT f
   have hargs := VRs.of_map hT c.args.toList
   split at h
   ·rename_i g fa fb hg
    rw [hg] at hfv
    simp only [VR] at hfv
    obtain ⟨A, B, hfv, hA, hB⟩ := hfv
    cases hcall : call (.fn g) (fa ++ (c.args.toList.map (evalO T) ++ fb)) S with
    | none => rw [hcall] at h; cases h
    | some res =>
      rw [hcall] at h
      simp only [Option.bind_some] at h
      obtain ⟨ti, hti, hK⟩ := fitT_inv h
      have hvs : VRs j (fa ++ (c.args.toList.map (evalO T) ++ fb)) ((A ++ c.args.map a.eval) ++ B).toList := by
       have := VRs.append hA (VRs.append hargs hB)
       simpa using this
      obtain ⟨hfn, hcl⟩ := hC _ _ _ _ hcall w0 j w ((A ++ c.args.map a.eval) ++ B) hR hvs
      have hrun : (execOp a.eval o).run P w = .ok (.enter g ((A ++ c.args.map a.eval) ++ B)) w := by
       unfold execOp
       simp only [hop, resolve, hf, hfv, Deferred.ofValue, Sem.run_bind, Sem.run_pure, Result.andThen_ok, invoke]
       exact callFunc_run hE hC hR hfn
      rw [hsem hnd, hrun, Oper.uponIn_enter]
      refine ⟨fun hd => by simp [Fw, Fence.wide] at hd, ?_⟩
      have hcl' : CallsIn (Fw rd) (n - 1) P g ((A ++ c.args.map a.eval) ++ B) w (CallPost w0 j S w res) := hcl (n - 1)
      refine hcl'.mono ?_
      rintro e w' ⟨v, j', rfl, hv, hgd, hlid⟩
      exact hnext res.1 res.2 v w' j' hK hgd hv hlid
   ·rename_i k hg
    rw [hg] at hfv
    simp only [VR] at hfv
    obtain ⟨x, hx, hfv⟩ := hfv
    cases hcall : call (.yld k) (c.args.toList.map (evalO T)) S with
    | none => rw [hcall] at h; cases h
    | some res =>
      rw [hcall] at h
      simp only [Option.bind_some] at h
      obtain ⟨b, hb, hK⟩ := gB_inv h
      have hvs : VRs j (c.args.toList.map (evalO T)) (c.args.map a.eval).toList := by simpa using hargs
      obtain ⟨f', tmps, assign, body, hy, hrd⟩ := hC _ _ _ _ hcall w0 j w (c.args.map a.eval) hR hvs x hx
      have hrun : (execOp a.eval o).run P w = .ok (.round x.c f' tmps assign body) w := by
       unfold execOp
       simp only [hop, resolve, hf, hfv, Deferred.ofValue, Sem.run_bind, Sem.run_pure, Result.andThen_ok, invoke]
       have : (#[] : Array Value) ++ Array.map a.eval c.args = Array.map a.eval c.args := by simp
       rw [this]; exact hy
      rw [hsem hnd, hrun, Oper.uponIn_round]
      refine ⟨fun hd => by simp [Fw, Fence.wide] at hd, ?_⟩
      refine (hrd rd (n - 1)).mono ?_
      rintro e w' ⟨v, j', rfl, hv, hgd, hlid⟩
      rw [hb] at hv
      exact hnext (.bool b) res.2 v w' j' hK hgd hv hlid
   ·cases h
  ·rename_i rc name hf
   have hfv := evalO_vr hT rc
   have hargs := VRs.of_map hT c.args.toList
   split at h
   case h_2 => cases h
   rename_i t av hrc
   rw [hrc] at hfv
   simp only [VR] at hfv
   obtain ⟨y, hfv, hy⟩ := hfv
   split at h
   case h_2 => cases h
   rename_i g hm
   obtain ⟨ti, hti, hmeth⟩ := hE.meth _ _ _ hm
   cases hcall : call (.fn g) (av :: c.args.toList.map (evalO T)) S with
   | none => rw [hcall] at h; cases h
   | some res =>
     rw [hcall] at h
     simp only [Option.bind_some] at h
     obtain ⟨ti2, hti2, hK⟩ := fitT_inv h
     have hvs : VRs j (av :: c.args.toList.map (evalO T)) (#[y] ++ c.args.map a.eval).toList := by
      simp only [Array.toList_append, List.cons_append, List.nil_append, Array.toList_map, VRs]
      exact ⟨_, _, rfl, hy, by simpa using hargs⟩
     obtain ⟨hfn, hcl⟩ := hC _ _ _ _ hcall w0 j w (#[y] ++ c.args.map a.eval) hR hvs
     have hrun : (execOp a.eval o).run P w = .ok (.enter g (#[y] ++ c.args.map a.eval)) w := by
      unfold execOp
      have h0 : (#[a.eval rc] ++ Array.map a.eval c.args)[0]? = some (.iface t y) := by rw [hfv, Array.getElem?_append]; rfl
      have h1 : (#[a.eval rc] ++ Array.map a.eval c.args).extract 1 (#[a.eval rc] ++ Array.map a.eval c.args).size = Array.map a.eval c.args := by
       exact extract_one _ _
      simp only [hop, resolve, hf, Sem.run_bind, Sem.run_pure, Result.andThen_ok, invoke, h0, h1, callMethod, run_program, (hmeth y w).1]
      exact callFunc_run hE hC hR hfn
     rw [hsem hnd, hrun, Oper.uponIn_enter]
     refine ⟨fun hd => by simp [Fw, Fence.wide] at hd, ?_⟩
     have hcl' : CallsIn (Fw rd) (n - 1) P g (#[y] ++ c.args.map a.eval) w (CallPost w0 j S w res) := hcl (n - 1)
     refine hcl'.mono ?_
     rintro e w' ⟨v, j', rfl, hv, hgd, hlid⟩
     exact hnext res.1 res.2 v w' j' hK hgd hv hlid
  ·split at h
   ·exact heff h hnd
   ·exact hpure h hnd
 ·rename_i hnc
  have hnd : ∀ c, o.op ≠ .defer c := by
   intro c hc
   have hcl : cls E o.op = 0 := by rw [hc]; rfl
   rw [hcl] at h
   simp only at h
   rw [hc] at h
   simp [evPure] at h
  split at h
  ·exact heff h hnd
  ·exact hnew h hnd
  ·exact hpure h hnd
end
end Go.Gr
