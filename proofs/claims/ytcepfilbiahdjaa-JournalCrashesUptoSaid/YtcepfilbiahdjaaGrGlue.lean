/- What the evaluator says, as a contract of the model's calls; a law's row from such a contract. -/
import Derived.Test.YtcepfilbiahdjaaGrFun
import Derived.Test.YtcepfilbiahdjaaGrDraw6
import Derived.Test.YtcepfilbiahdjaaGrPlain
import Derived.Carry
import Derived.OpenShut
import Derived.ProofKit
set_option linter.unusedVariables false
set_option linter.unusedSimpArgs false
set_option linter.unusedSectionVars false
namespace Go.Gr
open Go.RowKit Go.ChangeShapes Go.WideShapes
theorem noOrc_ok (P : Program) : OrcOk noOrc P := ⟨fun _ _ _ h => nomatch h⟩
def S00 : AS := { rw := .nil, ro := fun _ => none, next := 0, loops := [] }
section
variable {E : Env} {P : Program} (hE : EnvOk E P) {o : Orc} (hO : OrcOk o P)
include hE hO
theorem evF_call (n : Nat) : CallOk P (evF E o n) := evF_ok hE hO (fun _ hC => draw_ok hE hC) n
theorem calls_of {n : Nat} {f : FuncId} {args : List AV} {S : AS} {res : AV × AS} (h : evF E o n (.fn f) args S = some res) {w : World} {j : J} {vs : Array Value} (hR : R w j S w) (hv : VRs j args vs.toList) :
 Calls P f vs w fun e w' => ∃ v, e = .returned v ∧ (∃ j', VR j' res.1 v) ∧ Below w.heap.size w w' := by
 have hc := (evF_call hE hO n (.fn f) args S res h w j w vs hR hv).2 0
 have hw : CallsIn Fence.wide 0 P f vs w (CallPost w j S w res) := hc
 refine (callsIn_wide.1 hw).mono ?_
 rintro e w' ⟨v, j', rfl, h1, h2, h3⟩
 refine ⟨v, rfl, ⟨j', h1⟩, h2.rel.env.1, h2.rel.env.2.2, h2.rel.env.2.1, h2.size, fun k hk => h2.fr k hk (fun hi => ?_)⟩
 have := (Img.lt hR hi).1
 omega
def jG (w : World) : J
 | .ro n => if n % 2 = 1 then some ⟨n / 2, 0, match w.heap[n / 2]? with | some (.cells C _ _) => C.size | _ => 0⟩ else none
 | .rw _ => none
omit hE hO in
theorem jG_gl (w : World) : GlR (jG w) := fun g => by
 have h : jG w (.ro (2 * g + 1)) = some ⟨(2 * g + 1) / 2, 0, match w.heap[(2 * g + 1) / 2]? with | some (.cells C _ _) => C.size | _ => 0⟩ := by
  simp only [jG]; rw [if_pos (by omega)]
 refine ⟨_, h, ?_, rfl⟩
 show (2 * g + 1) / 2 = g
 omega
omit hE hO in
theorem R_empty (w : World) : R w (jG w) S00 w := by
 refine ⟨Nat.le_refl _, fun _ _ => rfl, fun n o h => ?_, fun n cs h => ?_, fun L hL => ?_, fun n m x y hn => ?_, fun _ _ => rfl, ?_, ⟨rfl, rfl, rfl⟩, jG_gl w⟩
 ·simp [S00, Tr.get, Tr.getP, vwO] at h
 ·simp [S00] at h
 ·simp [S00] at hL
 ·rcases hn with ⟨o, h⟩ | ⟨L, hL, _⟩
  ·simp [S00, Tr.get, Tr.getP, vwO] at h
  ·simp [S00] at hL
 ·simp [S00]
def isTrue : Option (AV × AS) → Bool
 | some (.bool true, _) => true
 | _ => false
omit hE hO in
theorem isTrue_some {q : Option (AV × AS)} (h : isTrue q = true) : ∃ S, q = some (.bool true, S) := by
 unfold isTrue at h
 split at h
 ·exact ⟨_, rfl⟩
 ·cases h
theorem orc_of {n : Nat} {f : FuncId} {v : AV} (h : isTrue (evF E o n (.fn f) [] S00) = true) (hv : v = .bool true) (w : World) (j : J) (vs : Array Value) (hvs : VRs j [] vs.toList) :
 (∃ fn c, P.funcs[f]? = some fn ∧ fn.body = some c ∧ fn.name ≠ "runtime.NumGoroutine") ∧ ∀ n, CallsIn (Fw none) n P f vs w (OrcPost v w) := by
 subst hv
 obtain ⟨S, hS⟩ := isTrue_some h
 have hvs' : vs = #[] := by simp only [VRs] at hvs; exact Array.toList_inj.1 hvs
 subst hvs'
 have hc := evF_call hE hO n (.fn f) [] S00 _ hS w (jG w) w #[] (R_empty w) (by simp [VRs])
 refine ⟨hc.1, fun m => (hc.2 m).mono ?_⟩
 rintro e w' ⟨u, j', rfl, h1, h2, h3⟩
 refine ⟨u, rfl, ?_, h2.size, fun k hk => h2.fr k hk (fun hi => ?_), h2.rel.env.1, h2.rel.env.2.1, h2.rel.env.2.2⟩
 ·simpa only [VR] using h1
 ·have := (Img.lt (R_empty w) hi).1
  omega
end
theorem post_of_below {H : Type} {enc : TypeId × Value → H} {P : Program} {f : Func} {s : ChangeSpec} {W W' : World} {args : Array Value} {ds gs : List (DataW H)} {before : List MemPlace} {tb : TypeId}
 (hW : DataW.Whole enc P f.params.toList s.vars false W args.toList ds gs before) (hl : laidOutB P = true) (hp : f.params.toList.all (fun t => P.readableRec t && decide (t < P.types.size)) = true)
 (hb : Below W.heap.size W W') (hv : s.vars = []) (hr : f.resultTypes = #[tb]) (hu : P.underlying tb = some .bool) (hfn : s.fn H (ds ++ gs) = { results := [.lit (.bool true)], args := ds }) :
 s.post enc P f false true false false W args (.bool true) W' := by
 obtain ⟨p, q, hA, hV, hpq, hfz, hnd⟩ := hW
 have hWW : DataW.Whole enc P f.params.toList s.vars false W args.toList ds gs before := ⟨p, q, hA, hV, hpq, hfz, hnd⟩
 have hq : q = [] ∧ gs = [] := by
  rw [hv] at hV
  cases gs with
  | nil => exact ⟨hV, rfl⟩
  | cons g gs => exact hV.elim
 obtain ⟨rfl, rfl⟩ := hq
 have hlt : ∀ x ∈ before, x.block < W.heap.size := fun x hx => by simpa using hWW.lt x hx
 have hstay : ∀ (sp : Nat → Bool) (ts : List TypeId) (vs : List Value) (ds : List (DataW H)) (ps : List MemPlace), (ts.all fun t => P.readableRec t && decide (t < P.types.size)) = true → DataW.TrodAll enc P W 0 (fun _ => true) true ts vs ds ps → (∀ x ∈ ps, x.block < W.heap.size) → (∀ x ∈ ps, sp x.block = true) →
  DataW.TrodAll enc P W' 0 sp true ts vs ds ps := by
  intro sp ts
  induction ts with
  | nil =>
    intro vs ds ps _ h _ _
    obtain ⟨rfl, rfl, rfl⟩ := trodAll_nil h
    exact trodAll_mk0
  | cons t ts ih =>
    intro vs ds ps hall h hlt hsp
    simp only [List.all_cons, Bool.and_eq_true, decide_eq_true_eq] at hall
    obtain ⟨v, vs1, d, ds1, a, b, rfl, rfl, rfl, h1, h2⟩ := trodAll_cons h
    refine trodAll_cons_mk ?_ (ih vs1 ds1 b hall.2 h2 (fun x hx => hlt x (List.mem_append_right _ hx)) (fun x hx => hsp x (List.mem_append_right _ hx)))
    exact WideElems.Trod_stays hl hall.1.1 hall.1.2 h1 (fun x hx => hb.same (hlt x (List.mem_append_left _ hx))) (fun x hx => hsp x (List.mem_append_left _ hx))
 have hold : ∀ x ∈ before, (fun b => decide (b < W.heap.size)) x.block = true := fun x hx => by simpa using hlt x hx
 have hpb : before = p := by simpa using hpq
 have hargs : ∀ sp : Nat → Bool, (∀ x ∈ before, sp x.block = true) → DataW.TrodAll enc P W' 0 sp true f.params.toList args.toList (s.fn H (ds ++ [])).args p := by
  intro sp hsp
  rw [hfn]
  exact hstay sp _ _ _ _ hp hA (fun x hx => hlt x (by rw [hpb]; exact hx)) (fun x hx => hsp x (by rw [hpb]; exact hx))
 have hvars : ∀ sp : Nat → Bool, DataW.TrodVars enc P W' sp s.vars (s.fn H (ds ++ [])).vars [] := by
  intro sp; rw [hv, hfn]; exact rfl
 have hres : ∀ (b : Nat) (sp : Nat → Bool) (hd : Bool), DataW.TrodAll enc P W' b sp hd f.resultTypes.toList ((Value.bool true).resultList f.resultTypes.size) (s.fn H (ds ++ [])).results [] := by
  intro b sp hd
  rw [hfn, hr]
  exact trodAll_cons_mk (shut_bool hu _) trodAll_mk0
 refine ⟨ds, [], before, [], p, [], hWW, hres _ _ _, hargs _ hold, hvars _, World.keptBut_mono (fun x hx => ⟨hx, ?_⟩) (hb.frame (· ∈ before)), fun _ => ?_⟩
 ·rw [hpb] at hx
  exact .inr (by simpa using hx)
 ·refine ⟨ok_one hr rfl (okWide_bool_mk hu _), _, _, ([] ++ p) ++ [], ⟨[] ++ p, [], trodAll_append (hargs _ (fun _ _ => rfl)) (hres _ _ _), hvars _, rfl, ?_, ?_⟩, ?_⟩
  ·intro b off hx
   have hx' : MemPlace.cell b off ∈ before := by rw [hpb]; simpa using hx
   rw [hb.frozen (p := ⟨b, off, none⟩) (hlt _ hx')]
   exact hfz b off hx'
  ·intro ha; cases ha
  ·intro x hx _
   rw [hpb]
   simpa using hx
end Go.Gr
namespace Go.Gr
def BT.All {α : Type} (p : Nat → α → Prop) : BT α → Prop
 | .nil => True
 | .node k v l r => p k v ∧ l.All p ∧ r.All p
theorem BT.All.find {α : Type} {p : Nat → α → Prop} : ∀ {t : BT α}, t.All p → ∀ {n : Nat} {v : α}, t.find n = some v → p n v
 | .nil, _, n, v, h => by simp [BT.find] at h
 | .node k x l r, ha, n, v, h => by
   simp only [BT.All] at ha
   simp only [BT.find] at h
   cases hb : Nat.beq n k with
   | true =>
     rw [hb] at h
     simp only [cond_true, Option.some.injEq] at h
     rw [Nat.eq_of_beq_eq_true hb, ← h]; exact ha.1
   | false =>
     rw [hb] at h
     simp only [cond_false] at h
     cases hc : Nat.ble n k with
     | true => rw [hc] at h; exact ha.2.1.find h
     | false => rw [hc] at h; exact ha.2.2.find h
def fnB (fn : Func) : Bool := (match fn.body with | some c => wfC fn.ntmps c | none => true) && !(fn.name == "runtime.NumGoroutine")
structure FnOk (P : Program) (f : FuncId) (fn : Func) : Prop where
 told : P.funcs[f]? = some fn ∧ (∀ c, fn.body = some c → wfC fn.ntmps c = true) ∧ fn.name ≠ "runtime.NumGoroutine"
theorem FnOk.of {P : Program} {f : FuncId} {fn : Func} (h1 : P.funcs[f]? = some fn) (h2 : fnB fn = true) : FnOk P f fn := by
 unfold fnB at h2
 simp only [Bool.and_eq_true, Bool.not_eq_true', beq_eq_false_iff_ne] at h2
 refine ⟨h1, fun c hc => ?_, h2.2⟩
 rw [hc] at h2
 exact h2.1
end Go.Gr
