/- Functions, and the rounds of loops over functions. -/
import Derived.Test.YtcepfilbiahdjaaGrCode2
set_option linter.unusedVariables false
set_option linter.unusedSimpArgs false
set_option linter.unusedSectionVars false
namespace Go.Gr
theorem wfOp_mono {n m : Nat} (h : n ≤ m) {o : Oper} (hw : wfOp n o = true) : wfOp m o = true := by
 unfold wfOp at *
 simp only [Bool.and_eq_true] at *
 refine ⟨?_, hw.2⟩
 cases hd : o.dst with
 | none => rfl
 | some d =>
   have := hw.1
   rw [hd] at this
   have h2 : d < n := Nat.le_of_ble_eq_true this
   show Nat.ble (d + 1) m = true
   exact Nat.ble_eq_true_of_le (Nat.lt_of_lt_of_le h2 h)
theorem wfC_mono {n m : Nat} (h : n ≤ m) : ∀ (c : Code), wfC n c = true → wfC m c = true := by
 intro c
 induction c with
 | region id ops d =>
   intro hw
   simp only [wfC, wfOps] at *
   exact List.all_eq_true.2 fun o ho => wfOp_mono h (List.all_eq_true.1 hw o ho)
 | seq a b iha ihb => intro hw; simp only [wfC, Bool.and_eq_true] at *; exact ⟨iha hw.1, ihb hw.2⟩
 | cond c a b iha ihb => intro hw; simp only [wfC, Bool.and_eq_true] at *; exact ⟨iha hw.1, ihb hw.2⟩
 | block i a iha => intro hw; simp only [wfC] at *; exact iha hw
 | loop a iha => intro hw; simp only [wfC] at *; exact iha hw
 | rangeFunc g ps a b iha ihb =>
   intro hw
   simp only [wfC, Bool.and_eq_true] at *
   refine ⟨⟨List.all_eq_true.2 fun p hp => ?_, iha hw.1.2⟩, ihb hw.2⟩
   have h2 : p < n := Nat.le_of_ble_eq_true (List.all_eq_true.1 hw.1.1 p hp)
   show Nat.ble (p + 1) m = true
   exact Nat.ble_eq_true_of_le (Nat.lt_of_lt_of_le h2 h)
 | _ => intro _; rfl
theorem enumT_tr {j : J} : ∀ (args : List AV) (vs : List Value) (k : Nat) (pre : List Value), pre.length = k → VRs j args vs → ∀ (post : List Value) (t : Nat),
 VR j (look (enumT k args) t) (((pre ++ vs) ++ post).getD t undef) ∧ (look (enumT k args) t ≠ .undef → t < (pre ++ vs).length)
 | [], vs, k, pre, hk, h, post, t => by simp [enumT, look, VR]
 | x :: args, vs, k, pre, hk, h, post, t => by
   simp only [VRs] at h
   obtain ⟨v, r, rfl, h1, h2⟩ := h
   simp only [enumT, look]
   cases hb : Nat.beq k t with
   | true =>
     have hkt := Nat.eq_of_beq_eq_true hb
     subst hkt
     simp only [cond_true]
     refine ⟨?_, fun _ => by simp; omega⟩
     have : ((pre ++ v :: r) ++ post).getD k undef = v := by
      simp only [List.getD_eq_getElem?_getD]
      rw [List.getElem?_append_left (by simp; omega), List.getElem?_append_right (by omega)]
      simp [hk]
     rw [this]; exact h1
   | false =>
     have := enumT_tr args r (k + 1) (pre ++ [v]) (by simp [hk]) h2 post t
     simpa using this
theorem putAll_tr {j : J} : ∀ (ps : List Nat) (args : List AV) (vs : List Value) (T : Tm) (tm : Array Value), TR j T tm → VRs j args vs → (∀ p ∈ ps, p < tm.size) →
 TR j (putAll ps args T) ((ps.zip vs).foldl (fun (tm : Array Value) (x : Nat × Value) => tm.setIfInBounds x.1 x.2) tm) ∧ ((ps.zip vs).foldl (fun (tm : Array Value) (x : Nat × Value) => tm.setIfInBounds x.1 x.2) tm).size = tm.size
 | [], args, vs, T, tm, hT, hv, hp => by cases args <;> exact ⟨by simpa [putAll] using hT, by simp⟩
 | p :: ps, [], vs, T, tm, hT, hv, hp => by
   simp only [VRs] at hv
   subst hv
   exact ⟨by simpa [putAll] using hT, by simp⟩
 | p :: ps, x :: args, vs, T, tm, hT, hv, hp => by
   simp only [VRs] at hv
   obtain ⟨v, r, rfl, h1, h2⟩ := hv
   simp only [putAll, List.zip_cons_cons, List.foldl_cons]
   have := putAll_tr ps args r ((p, x) :: T) (tm.setIfInBounds p v) (hT.cons h1 (hp p (by simp))) h2 (fun q hq => by simpa using hp q (by simp [hq]))
   exact ⟨this.1, by rw [this.2]; simp⟩
section
variable {E : Env} {P : Program} (hE : EnvOk E P)
include hE
theorem evRes1_sound {w0 w : World} {j : J} {S : AS} (hR : R w0 j S w) {T : Tm} {tm : Array Value} (hT : TR j T tm) : ∀ (rs : List ResultVar) (K : List AV → Option (AV × AS)) (r : AV × AS), evRes1 E T S rs K = some r →
 ∃ l vs, K l = some r ∧ VRs j l vs ∧ (rs.mapM fun x => (match x with
   | .tmp t => pure (tm.getD t undef)
   | .cell a t => do loadVar t (← asAddr (tm.getD a undef)) : Sem Value)).run P w = .ok vs w
 | [], K, r, h => ⟨[], [], h, by simp [VRs], by simp⟩
 | .tmp t :: rs, K, r, h => by
   simp only [evRes1] at h
   obtain ⟨l, vs, h1, h2, h3⟩ := evRes1_sound hR hT rs _ r h
   refine ⟨_, tm.getD t undef :: vs, h1, by simp only [VRs]; exact ⟨_, _, rfl, (hT t).1, h2⟩, ?_⟩
   rw [List.mapM_cons, Sem.run_bind]
   simp only [Sem.run_pure, Result.andThen_ok, Sem.run_bind, h3]
 | .cell a t :: rs, K, r, h => by
   simp only [evRes1] at h
   obtain ⟨b, i, hb, h⟩ := gA_inv h
   have hc := (hT a).1
   rw [hb] at hc
   simp only [VR] at hc
   obtain ⟨y, hy, hc⟩ := hc
   obtain ⟨x, av, u, hx, hK, hr, hrun⟩ := ldT_sound hE hR h
   rw [hy] at hx; cases hx
   obtain ⟨l, vs, h1, h2, h3⟩ := evRes1_sound hR hT rs _ r hK
   refine ⟨_, u :: vs, h1, by simp only [VRs]; exact ⟨_, _, rfl, hr, h2⟩, ?_⟩
   have hx1 : (do loadVar t (← asAddr (tm.getD a undef)) : Sem Value).run P w = .ok u w := by
    rw [hc, Sem.run_bind]
    simp only [asAddr, Sem.run_pure, Result.andThen_ok, hrun]
   rw [List.mapM_cons, Sem.run_bind]
   show (Sem.run P (do loadVar t (← asAddr (tm.getD a undef)) : Sem Value) w).andThen _ = _
   rw [hx1]
   simp only [Result.andThen_ok, Sem.run_bind]
   rw [h3]
   rfl
theorem evRes_sound {w0 w : World} {j : J} {S : AS} (hR : R w0 j S w) {T : Tm} {tm : Array Value} (hT : TR j T tm) {fn : Func} {r : AV × AS} (h : evRes E fn.results T S = some r) :
 ∃ v, (results fn tm).run P w = .ok v w ∧ VR j r.1 v ∧ r.2 = S := by
 unfold evRes at h
 obtain ⟨l, vs, h1, h2, h3⟩ := evRes1_sound hE hR hT fn.results.toList _ r h
 have hm : (fn.results.mapM fun x => (match x with
  | .tmp t => pure (tm.getD t undef)
  | .cell a t => do loadVar t (← asAddr (tm.getD a undef)) : Sem Value)).run P w = .ok vs.toArray w := by
  rw [Array.mapM_eq_mapM_toList, Sem.run_map, h3]; rfl
 have hres : (results fn tm).run P w = .ok (if h : vs.toArray.size = 1 then vs.toArray[0] else .tuple vs.toArray) w := by
  unfold results
  rw [Sem.run_bind]
  refine (congrArg (fun q => Result.andThen q (fun (vs : Array Value) w' => (pure (if h : vs.size = 1 then vs[0] else .tuple vs) : Sem Value).run P w')) hm).trans ?_
  rfl
 refine ⟨_, hres, ?_⟩
 match l, h1, h2 with
 | [v], h1, h2 =>
   cases h1
   obtain ⟨u, rfl, hu⟩ := h2.one
   exact ⟨by simpa using hu, rfl⟩
 | [], h1, h2 =>
   cases h1
   have hlen := h2.length
   refine ⟨?_, rfl⟩
   rw [dif_neg (by simp at hlen ⊢; omega)]
   simp only [VR]
   exact ⟨_, rfl, h2⟩
 | v :: u :: l, h1, h2 =>
   cases h1
   have hlen := h2.length
   refine ⟨?_, rfl⟩
   rw [dif_neg (by simp at hlen ⊢; omega)]
   simp only [VR]
   exact ⟨_, rfl, h2⟩
theorem leaves_marks {n : Nat} {w0 ws : World} {j : J} {S : AS} {fn : Func} {tm : Array Value} {res : AV × AS} {T : Tm} {jst : J} {Sst : AS} {wst : World} (hws : w0.heap.size ≤ ws.heap.size) (hwst : wst.heap.size ≤ ws.heap.size) (h : evRes E fn.results T S = some res) (hl : Lids Sst S) :
 ∀ (rs : List Nat) (w : World), rs.Nodup → (∀ r ∈ rs, ws.heap.size ≤ r ∧ w.heap[r]? = some (.deferred (some []))) → Good w0 jst Sst wst j S w → TR j T tm →
   LeavesInM (Fw none) n P fn tm (CallPost w0 jst Sst wst res) (rs.map fun r => { target := .collected r, args := #[] }) .returning w
 | [], w, _, _, hg, hT => by
   obtain ⟨v, h1, h2, h3⟩ := evRes_sound hE hg.rel hT h
   exact ⟨v, h1, v, j, rfl, h2, by rw [h3]; exact hg, by rw [h3]; exact hl⟩
 | r :: rs, w, hnd, hall, hg, hT => by
   obtain ⟨h1, h2⟩ := hall r (by simp)
   have hlt := (Array.getElem?_eq_some_iff.1 h2).1
   have hni := not_img hg.rel h2 nofun nofun nofun
   rw [List.nodup_cons] at hnd
   refine ⟨nofun, .inl ⟨r, World.putBlk w r (.deferred none), rfl, ?_, ?_⟩⟩
   ·simp [Instr.takeDeferred, getObj, setObj, Sem.run, h2, World.putBlk]
   ·have hg' : Good w0 jst Sst wst j S (World.putBlk w r (.deferred none)) :=
     ⟨hg.le, R.other hg.rel (by omega) hlt hni _, by simpa using hg.size, fun c hc hi => by rw [putBlk_get _ _ _ _ hlt, if_neg (by omega)]; exact hg.fr c hc hi, hg.img, hg.nx, hg.old⟩
    refine leaves_marks hws hwst h hl rs _ hnd.2 (fun q hq => ?_) hg' hT
    obtain ⟨h3, h4⟩ := hall q (by simp [hq])
    refine ⟨h3, ?_⟩
    rw [putBlk_get _ _ _ _ hlt, if_neg (fun he => hnd.1 (by rw [he]; exact hq))]
    exact h4
def OrcPost (v : AV) (w : World) : Ending → World → Prop := fun e w' =>
 ∃ u, e = .returned u ∧ VR (fun _ => none) v u ∧ w.heap.size ≤ w'.heap.size ∧ (∀ c, c < w.heap.size → w'.heap[c]? = w.heap[c]?) ∧ w'.os = w.os ∧ w'.output = w.output ∧ w'.tape = w.tape
structure OrcOk (o : Orc) (P : Program) : Prop where
 told : ∀ f args v, o f args = some v → (∃ fn c, P.funcs[f]? = some fn ∧ fn.body = some c ∧ fn.name ≠ "runtime.NumGoroutine") ∧
  ∀ (w : World) (j : J) (vs : Array Value), VRs j args vs.toList → ∀ n, CallsIn (Fw none) n P f vs w (OrcPost v w)
omit hE in
theorem OrcPost.call {w0 w w' : World} {j : J} {S : AS} {v : AV} {e : Ending} (h : R w0 j S w) (k : OrcPost v w e w') : CallPost w0 j S w (v, S) e w' := by
 obtain ⟨u, rfl, hu, hs, hh, h1, h2, h3⟩ := k
 have lt : ∀ {n o x}, S.rw.get n = some o → j (.rw n) = some x → w'.heap[x.c]? = w.heap[x.c]? := fun ho hx => hh _ (Img.lt h ⟨_, _, .inl ⟨_, ho⟩, hx, rfl⟩).2
 refine ⟨u, j, rfl, VR.mono (fun _ _ hb => by cases hb) _ _ hu, ⟨J.le_refl j, ⟨Nat.le_trans h.size hs, fun c hc => ?_, fun n o ho => ?_, fun n cs hn => ?_, fun L hL => ?_, h.inj, h.fresh, h.nd, ?_, h.gl⟩, hs, fun c hc _ => hh c hc, fun c _ hi => hi, Nat.le_refl _, fun _ _ hn => hn⟩, rfl⟩
 ·rw [hh c (Nat.lt_of_lt_of_le hc h.size)]; exact h.base c hc
 ·obtain ⟨hn, x, hx, hb, hr⟩ := h.rw n o ho
  exact ⟨hn, x, hx, hb, ObjR.mono (J.le_refl j) (lt ho hx) hr⟩
 ·obtain ⟨x, hx, hb, hr⟩ := h.ro n cs hn
  exact ⟨x, hx, hb, CellsR.mono (J.le_refl j) (hh _ (Nat.lt_of_lt_of_le hb h.size)) hr⟩
 ·obtain ⟨hn, x, hx, hb, hr⟩ := h.lp L hL
  exact ⟨hn, x, hx, hb, LoopR.mono (J.le_refl j) (hh _ (Img.lt h ⟨_, _, .inr ⟨L, hL, rfl⟩, hx, rfl⟩).2) hr⟩
 ·exact ⟨h1.trans h.env.1, h2.trans h.env.2.1, h3.trans h.env.2.2⟩
theorem evF_ok {o : Orc} (hO : OrcOk o P) (hD : ∀ call, CallOk P call → DrawOk E P call) : ∀ n, CallOk P (evF E o n)
 | 0 => fun tgt args S res h => by simp [evF] at h
 | nf + 1 => by
   have hC := evF_ok hO hD nf
   intro tgt args S res h w0 j w vs hR hvs
   cases tgt with
   | fn f =>
     simp only [evF] at h
     split at h
     ·rename_i v hv
      cases h
      obtain ⟨h1, h2⟩ := hO.told f args v hv
      exact ⟨h1, fun n => (h2 w j vs hvs n).mono fun e w' hp => OrcPost.call hR hp⟩
     split at h
     case h_2 => cases h
     rename_i fn hfn
     split at h
     case h_2 => cases h
     rename_i c hc
     obtain ⟨hf1, hf2, hf3⟩ := hE.func f fn hfn
     refine ⟨⟨fn, c, hf1, hc, hf3⟩, fun n => ?_⟩
     refine callsIn_of_wp_marks hf1 hc trivial ?_ rfl
     have hT : TR j (enumT 0 args) (vs ++ Array.replicate (fn.ntmps - vs.size) undef) := by
      intro t
      obtain ⟨h1, h2⟩ := enumT_tr args vs.toList 0 [] rfl hvs (List.replicate (fn.ntmps - vs.size) undef) t
      refine ⟨?_, fun hn => ?_, hR.gl⟩
      ·have : (vs ++ Array.replicate (fn.ntmps - vs.size) undef).getD t undef = (([] ++ vs.toList) ++ List.replicate (fn.ntmps - vs.size) undef).getD t undef := by
        simp only [Array.getD_eq_getD_getElem?, List.getD_eq_getElem?_getD, List.nil_append]
        rw [← Array.getElem?_toList]; simp
       rw [this]; exact h1
      ·have := h2 hn
       simp at this ⊢; omega
     have hwf := wfC_mono (n := fn.ntmps) (m := (vs ++ Array.replicate (fn.ntmps - vs.size) undef).size) (by simp; omega) c (hf2 c hc)
     have := evC_sound hE hC (hD _ hC) (ws := w) hR.size nf f c 0 (enumT 0 args) S (retK E fn) { tmps := vs ++ Array.replicate (fn.ntmps - vs.size) undef, defers := [] } w j none n h hR (Nat.le_refl _) hT hwf ⟨[], rfl, List.nodup_nil, by simp⟩ (by intro l hl; cases hl) (by simp)
     refine wpIn_mono this ?_
     rintro e a1 w1 ⟨he, T1, S1, j1, h1, h2, h3, h4, ⟨rs, h5, h6, h7⟩, h8, _⟩
     rcases he with rfl | rfl | ⟨i, rfl⟩
     ·show LeavesInM _ _ _ _ _ _ _ _ _
      rw [h5]
      exact leaves_marks hE hR.size (Nat.le_refl _) h1 h8 rs w1 h6 h7 h2 h3
     ·show LeavesInM _ _ _ _ _ _ _ _ _
      rw [h5]
      exact leaves_marks hE hR.size (Nat.le_refl _) h1 h8 rs w1 h6 h7 h2 h3
     ·simp [retK] at h1
   | yld k =>
     intro x hx
     simp only [evF] at h
     split at h
     case h_2 => cases h
     rename_i L hL
     split at h
     case h_2 => cases h
     rename_i hst
     obtain ⟨hlen, h⟩ := ite_inv h
     obtain ⟨hmem, hid⟩ := getLp_mem hL
     obtain ⟨_, y, hy, _, tm, d, pend, fn', hrec, hjump, hTL, hwa, hwb, hps⟩ := hR.lp L hmem
     rw [hid, hx] at hy; cases hy
     have hvl := hvs.length
     simp only [Array.length_toList] at hvl
     obtain ⟨hT2, hsz2⟩ := putAll_tr L.params args vs.toList L.T tm hTL hvs hps
     let tm2 := (L.params.zip vs.toList).foldl (fun (tm : Array Value) (x : Nat × Value) => tm.setIfInBounds x.1 x.2) tm
     have htm2 : ((L.params.toArray.zip vs).foldl (fun tmps (x : Nat × Value) => tmps.setIfInBounds x.1 x.2) tm) = tm2 := by
      rw [← Array.foldl_toList, Array.toList_zip]
     refine ⟨fn', tm2, L.assign, L.body, ?_, fun rd n => ?_⟩
     ·simp only [Instr.yield, Instr.getLoop, getObj, Sem.run_bind, Sem.run, hrec, Sem.run_pure, Result.andThen_ok]
      rw [if_neg (by simp; omega)]
      simp only [Sem.run_pure]
      congr 1
      rw [← htm2]
     ·refine roundIn_of_wpIn trivial ?_
      have hrdk : RdOk j S (some x.c) := by
       intro l hl
       cases hl
       exact ⟨L, hmem, x, by rw [hid]; exact hx, rfl⟩
      have hA := evC_sound hE hC (hD _ hC) (ws := w) hR.size nf L.fn L.assign 0 _ S _ { tmps := tm2, defers := [] } w j (some x.c) n h hR (Nat.le_refl _) hT2 (by show wfC tm2.size _ = true; rw [hsz2]; exact hwa) ⟨[], rfl, List.nodup_nil, by simp⟩ hrdk (by simp)
      refine wpIn_mono hA ?_
      rintro e a1 w1 ⟨he, T1, S1, j1, h1, h2, h3, h4, h5, h6, h7⟩
      rcases he with rfl | rfl | ⟨i, rfl⟩
      ·show ∃ w₂, _
       simp only at h1
       split at h1
       case h_2 => cases h1
       rename_i L1 hL1
       split at h1
       case h_2 => cases h1
       rename_i hst1
       obtain ⟨hmem1, hid1⟩ := getLp_mem hL1
       obtain ⟨_, y1, hy1, _, tmB, dB, pendB, fnB, hrecB, hjumpB, hTLB, hwaB, hwbB, hpsB⟩ := h2.rel.lp L1 hmem1
       have hx1 : j1 (.rw k) = some x := h2.le _ _ hx
       rw [hid1, hx1] at hy1; cases hy1
       have hrec1 := (Array.getElem?_eq_some_iff.1 hrecB).1
       let ob1 : Obj := .loop { state := .busy, pending := pendB, fn := fnB, tmps := tmB, params := L1.params.toArray, assign := L1.assign, body := L1.body, defers := dB }
       have hbegin : (Instr.beginRound x.c).run P w1 = .ok () (World.putBlk w1 x.c ob1) := by
        simp [Instr.beginRound, Instr.getLoop, getObj, setObj, Sem.run, hrecB, hst1, LSt.conc, World.putBlk, ob1]
       have hturn := R.turnLoop h2.rel (X := { L1 with st := .busy }) (ob := ob1) hL1 hid1 hx1
        ⟨tmB, dB, pendB, fnB, by rw [putBlk_get _ _ _ _ hrec1, if_pos rfl]; rfl, hjumpB, hTLB, hwaB, hwbB, hpsB⟩
       refine ⟨_, hbegin, ?_⟩
       have hl2 : Lids S1 { S1 with loops := setLp S1.loops k { L1 with st := .busy } } := setLp_ids S1.loops k { L1 with st := .busy } hid1
       have hg2 := h2.trans hturn
       have hB := evC_sound hE hC (hD _ hC) (ws := w) hR.size nf L.fn L.body 0 T1 _ _ a1 _ j1 (some x.c) n h1 hturn.rel (by have := h2.size; simp; omega) h3 (by rw [h4]; show wfC tm2.size _ = true; rw [hsz2]; exact hwb) (h5.keep h2.rel hturn) ((hrdk.keep h2 h6).keep hturn hl2) h7
       refine wpIn_mono hB ?_
       rintro e a3 w3 ⟨he3, T3, S3, j3, q1, q2, q3, q4, q5, q6, q7⟩
       dsimp only at q1
       split at q1
       case h_2 => cases q1
       rename_i L3 hL3
       obtain ⟨hmem3, hid3⟩ := getLp_mem hL3
       obtain ⟨_, y3, hy3, _, tmC, dC, pendC, fnC, hrecC, hjumpC, hTLC, hwaC, hwbC, hpsC⟩ := q2.rel.lp L3 hmem3
       have hx3 : j3 (.rw k) = some x := q2.le _ _ hx1
       rw [hid3, hx3] at hy3; cases hy3
       have hrec3 := (Array.getElem?_eq_some_iff.1 hrecC).1
       have hgall := hg2.trans q2
       have hlall : Lids S S3 := q6.trans (hl2.trans h6)
       have key : ∀ (jump : Option Code) (st : LSt) (pd : Option Exit), jumpOf pd = some jump → (if jump.isNone then LoopState.ready else LoopState.done) = st.conc → some (AV.bool jump.isNone, { S3 with loops := setLp S3.loops k { L3 with st := st, pend := pd } }) = some res →
        ∃ v w', (Instr.endRound x.c jump).run P w3 = .ok v w' ∧ CallPost w0 j S w res (.returned v) w' := by
        intro jump st pd hj hs hres
        cases hres
        let ob3 : Obj := .loop { state := st.conc, pending := jump, fn := fnC, tmps := tmC, params := L3.params.toArray, assign := L3.assign, body := L3.body, defers := dC }
        have hturn3 := R.turnLoop q2.rel (X := { L3 with st := st, pend := pd }) (ob := ob3) hL3 hid3 hx3
         ⟨tmC, dC, jump, fnC, by rw [putBlk_get _ _ _ _ hrec3, if_pos rfl], hj, hTLC, hwaC, hwbC, hpsC⟩
        refine ⟨.bool jump.isNone, World.putBlk w3 x.c ob3, ?_, .bool jump.isNone, j3, rfl, by simp only [VR], hgall.trans hturn3, (setLp_ids S3.loops k { L3 with st := st, pend := pd } hid3).trans hlall⟩
        simp only [Instr.endRound, Instr.getLoop, getObj, setObj, Sem.run_bind, Sem.run, hrecC, Sem.run_pure, Result.andThen_ok, hs]
        rfl
       rcases he3 with rfl | rfl | ⟨i, rfl⟩
       ·exact key none .ready none rfl rfl q1
       ·exact key (some .ret) .done (some .ret) rfl rfl q1
       ·exact key (some (.exit i)) .done (some (.exit i)) rfl rfl q1
      ·cases h1
      ·cases h1
end
end Go.Gr
