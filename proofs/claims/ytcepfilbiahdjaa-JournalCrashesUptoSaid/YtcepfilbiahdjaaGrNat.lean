/- The evaluator hands its value on, whatever stands behind; and looks at its operands alone. -/
import Derived.Test.YtcepfilbiahdjaaGrFun
set_option linter.unusedVariables false
set_option linter.unusedSimpArgs false
set_option linter.unusedSectionVars false
namespace Go.Gr
section
variable {β : Type} {E : Env}
theorem fit_nat (ti : TI) (v : AV) (K : AV → Option β) : fit ti v K = (fit ti v some).bind K := by
 unfold fit
 cases ti.k <;> simp only [gIk, gB, gS, gP, gL, gG, gM, gT] <;> repeat' (first | rfl | split)
theorem fitT_nat (t : TypeId) (v : AV) (K : AV → Option β) : fitT E t v K = (fitT E t v some).bind K := by
 unfold fitT
 split
 ·exact fit_nat _ _ _
 ·rfl
theorem ldT_nat (S : AS) (t : TypeId) (p : Pos) (K : AV → Option β) : ldT E S t p K = (ldT E S t p some).bind K := by
 unfold ldT
 split
 ·rfl
 ·rename_i ti _
  cases isAgg ti.k with
  | true =>
    simp only [cond_true, AS.ldn_eq]
    split
    ·split <;> rfl
    ·rfl
  | false =>
    simp only [cond_false]
    split
    ·exact fit_nat _ _ _
    ·rfl
theorem partA_nat (t : TypeId) (l : List AV) (off : Nat) (K : AV → Option β) : partA E t l off K = (partA E t l off some).bind K := by
 unfold partA
 split
 ·rfl
 ·rename_i ti _
  cases isAgg ti.k with
  | true => simp only [cond_true]; split <;> rfl
  | false =>
    simp only [cond_false]
    split
    ·exact fit_nat _ _ _
    ·rfl
theorem cellsOf_nat {γ : Type} (ti : TI) (v : AV) (K : List AV → Option γ) (L : γ → Option β) : cellsOf ti v (fun l => (K l).bind L) = (cellsOf ti v K).bind L := by
 unfold cellsOf
 cases isAgg ti.k with
 | true =>
   simp only [cond_true, gG]
   repeat' (first | rfl | split)
 | false =>
   simp only [cond_false]
   repeat' (first | rfl | split)
theorem fillA_nat {γ : Type} (place : Nat → Option (TypeId × Nat)) : ∀ (parts : List (Nat × AV)) (cs : List AV) (K : List AV → Option γ) (L : γ → Option β), fillA E place cs parts (fun l => (K l).bind L) = (fillA E place cs parts K).bind L
 | [], cs, K, L => rfl
 | (i, v) :: r, cs, K, L => by
   simp only [fillA]
   split
   ·rfl
   ·split
    ·rfl
    ·rw [← cellsOf_nat]
     congr 1
     funext vs
     split
     ·exact fillA_nat place r _ K L
     ·rfl
theorem evBin_nat (op : BinOp) (ti : TI) (x y : AV) (c : Bool) (K : AV → Option β) : evBin E op ti x y c K = (evBin E op ti x y c some).bind K := by
 obtain ⟨tk, tz, tb, tzr, pl⟩ := ti
 cases pl <;> cases x <;> cases y <;> (try rfl) <;> cases op <;> simp only [evBin] <;> (try rfl)
 all_goals
  (try cases c)
  (try simp only [cond_true, cond_false])
  repeat' (first | rfl | split)
theorem evUn_nat (op : UnOp) (x : AV) (K : AV → Option β) : evUn op x K = (evUn op x some).bind K := by
 cases op <;> cases x <;> rfl
theorem evConv_nat (S : AS) (s d : TypeId) (x : AV) (K : AV → Option β) : evConv E S s d x K = (evConv E S s d x some).bind K := by
 unfold evConv
 simp only [AS.ldn_eq]
 repeat' (first | rfl | split)
theorem idx_nat {γ : Type} (v : AV) (K : Nat → Option γ) (L : γ → Option β) : idx v (fun n => (K n).bind L) = (idx v K).bind L := by
 simp only [idx, gI]
 repeat' (first | rfl | split)
theorem optIdx_nat {γ : Type} (v : Option AV) (d : Nat) (K : Nat → Option γ) (L : γ → Option β) : optIdx v d (fun n => (K n).bind L) = (optIdx v d K).bind L := by
 cases v with
 | none => rfl
 | some v => exact idx_nat v K L
theorem ite_nat {γ : Type} (c : Prop) [Decidable c] (X : Option γ) (L : γ → Option β) : (if c then X.bind L else none) = (if c then X else none).bind L := by split <;> rfl
theorem evSlice_nat (S : AS) (t : TypeId) (x : AV) (lo hi mx : Option AV) (K : AV → Option β) : evSlice E S t x lo hi mx K = (evSlice E S t x lo hi mx some).bind K := by
 have hs : ∀ v : AV, K v = (some v).bind K := fun _ => rfl
 have hp : ∀ (c : Prop) [Decidable c] (X : Option AV), (if c then X.bind K else none) = (if c then X else none).bind K := fun c _ X => ite_nat c X K
 unfold evSlice
 split
 ·rfl
 ·split
  ·simp only [gA, sizeT]
   repeat' (first | rfl | (simp only [hs, hp, optIdx_nat]; done) | split)
  ·simp only [gS]
   repeat' (first | rfl | (simp only [hs, hp, optIdx_nat]; done) | split)
  ·simp only [gL, sizeT]
   repeat' (first | rfl | (simp only [hs, hp, optIdx_nat, idx_nat]; done) | split)
  ·rfl
theorem evLen_nat (S : AS) (b : Builtin) (at_ : Array TypeId) (args : List AV) (K : AV → Option β) : evLen E S b at_ args K = (evLen E S b at_ args some).bind K := by
 simp only [evLen, AS.mapLen]
 repeat' (first | rfl | split)
theorem evPure_nat (S : AS) (T : Tm) (o : Op) (t : TypeId) (K : AV → Option β) : evPure E S T o t K = (evPure E S T o t some).bind K := by
 cases o with
 | build e parts =>
   simp only [evPure, sizeT]
   have h : ∀ (pl : Nat → Option (TypeId × Nat)) (z : List AV) (ps : List (Nat × AV)), fillA E pl z ps (fun cs => K (.agg cs)) = (fillA E pl z ps (fun cs => some (.agg cs))).bind K := fun pl z ps => fillA_nat pl ps z (fun cs => some (.agg cs)) K
   repeat' (first | rfl | exact h _ _ _ | split)
 | load ty a =>
   simp only [evPure, gA]
   repeat' (first | rfl | exact ldT_nat _ _ _ _ | split)
 | binOp op xt x y yt =>
   simp only [evPure]
   repeat' (first | rfl | exact evBin_nat _ _ _ _ _ _ | split)
 | unOp op xt x => exact evUn_nat _ _ _
 | convert s d x => exact evConv_nat _ _ _ _ _
 | slice st x lo hi mx => exact evSlice_nat S _ _ _ _ _ _
 | field s x f =>
   simp only [evPure, gG, fieldOff]
   repeat' (first | rfl | exact partA_nat _ _ _ _ | split)
 | index st x i =>
   simp only [evPure, gG, gS, sizeT, idx, gI]
   repeat' (first | rfl | exact partA_nat _ _ _ _ | split)
 | lookup mt m k ok =>
   simp only [evPure, gM, AS.mapOf]
   have h : ∀ (te : TI) (v : AV) (K' : AV → AV), fit te v (fun v => K (K' v)) = (fit te v (fun v => some (K' v))).bind K := fun te v K' => by
    rw [fit_nat te v (fun v => K (K' v)), fit_nat te v (fun v => some (K' v))]
    cases fit te v some <;> rfl
   simp only [Bool.cond_eq_ite] at h ⊢
   repeat' (first | rfl | exact h _ _ _ | split)
 | extract x i =>
   simp only [evPure, gT]
   repeat' (first | rfl | exact fitT_nat _ _ _ | split)
 | call c =>
   simp only [evPure]
   repeat' (first | rfl | exact evLen_nat _ _ _ _ _ | split)
 | _ =>
   simp only [evPure, gA, gB, gG, gT, gM, gS, gL, fieldOff, sizeT, idx, gI]
   (try simp only [Bool.cond_eq_ite])
   repeat' (first | rfl | split)
theorem evNew_nat (nx : Nat) (T : Tm) (o : Op) (K : AV → AObj → Option β) : evNew E nx T o K = (evNew E nx T o fun v ob => some (v, ob)).bind fun p => K p.1 p.2 := by
 cases o with
 | box e x =>
   simp only [evNew]
   split
   ·exact cellsOf_nat _ _ (fun cs => some (AV.ptr (some (Bid.rw nx, 0)), AObj.cells cs)) (fun p : AV × AObj => K p.1 p.2)
   ·rfl
 | buildSlice e n parts =>
   simp only [evNew, Bool.cond_eq_ite]
   repeat' (first | rfl | exact fillA_nat _ _ _ (fun cs => some (AV.sl (some (Bid.rw nx, 0)) n (Cap.ex n), AObj.cells cs)) (fun p : AV × AObj => K p.1 p.2) | split)
 | _ =>
   simp only [evNew, gS, gI, idx, Bool.cond_eq_ite]
   repeat' (first | rfl | split)
theorem firstA_nat {γ : Type} (S : AS) (sz n : Nat) (x : AV) (K : List AV → Option γ) (L : γ → Option β) : firstA S sz n x (fun l => (K l).bind L) = (firstA S sz n x K).bind L := by
 simp only [firstA, AS.ldn_eq]
 repeat' (first | rfl | split)
theorem ldn_nat {γ : Type} (S : AS) (b : Bid) (i n : Nat) (K : List AV → Option γ) (L : γ → Option β) : S.ldn b i n (fun l => (K l).bind L) = (S.ldn b i n K).bind L := by
 simp only [AS.ldn_eq]
 repeat' (first | rfl | split)
theorem stn_nat {γ : Type} (S : AS) (b : Bid) (i : Nat) (vs : List AV) (K : AS → Option γ) (L : γ → Option β) : S.stn b i vs (fun l => (K l).bind L) = (S.stn b i vs K).bind L := by
 simp only [AS.stn_eq, forceL_eq]
 repeat' (first | rfl | split)
theorem lenOfA_nat {γ : Type} (x : AV) (K : Nat → Option γ) (L : γ → Option β) : lenOfA x (fun l => (K l).bind L) = (lenOfA x K).bind L := by
 unfold lenOfA
 repeat' (first | rfl | split)
theorem gL_nat {γ : Type} (x : AV) (K : Option Pos → Nat → Cap → Option γ) (L : γ → Option β) : gL x (fun a l c => (K a l c).bind L) = (gL x K).bind L := by
 unfold gL
 repeat' (first | rfl | split)
theorem apG_nat (S : AS) (te : TI) (a : Option Pos) (len : Nat) (cap : Cap) (n : Nat) {src : ∀ {γ : Type}, (List AV → Option γ) → Option γ} (hs : ∀ {γ δ : Type} (K : List AV → Option γ) (L : γ → Option δ), src (fun l => (K l).bind L) = (src K).bind L) (K : AV → AS → Option β) : apG S te a len cap n src K = (apG S te a len cap n src fun v S' => some (v, S')).bind fun p => K p.1 p.2 := by
 unfold apG
 simp only [forceL_eq]
 repeat' (first
  | rfl
  | (rw [← hs]; congr 1; funext new; (repeat' (first | rfl | (rw [← stn_nat]; rfl) | split)); done)
  | (rw [← firstA_nat]; congr 1; funext old; rw [← hs]; rfl)
  | (rw [← ldn_nat]; congr 1; funext old; rw [← hs]; rfl)
  | split)
theorem evAppend_nat (S : AS) (t : TypeId) (s x : AV) (K : AV → AS → Option β) : evAppend E S t s x K = (evAppend E S t s x fun v S' => some (v, S')).bind fun p => K p.1 p.2 := by
 unfold evAppend
 split
 ·rfl
 ·split
  case h_2 => rfl
  split
  ·rfl
  ·rename_i te _
   rw [← gL_nat]
   congr 1
   funext a len cap
   rw [← lenOfA_nat]
   congr 1
   funext n
   simp only [Bool.cond_eq_ite]
   repeat' (first
    | rfl
    | exact apG_nat S te a len cap n (src := fun K => firstA S te.size n x K) (fun K L => firstA_nat S te.size n x K L) K
    | split)
theorem evAppendZ_nat (S : AS) (t : TypeId) (s x : AV) (K : AV → AS → Option β) : evAppendZ E S t s x K = (evAppendZ E S t s x fun v S' => some (v, S')).bind fun p => K p.1 p.2 := by
 unfold evAppendZ
 split
 ·rfl
 ·split
  case h_2 => rfl
  split
  ·rfl
  ·rename_i te _
   rw [← gL_nat]
   congr 1
   funext a len cap
   rw [← idx_nat]
   congr 1
   funext n
   simp only [Bool.cond_eq_ite]
   repeat' (first
    | rfl
    | exact apG_nat S te a len cap n (src := fun K => K (zeros n te.zero)) (fun K L => rfl) K
    | split)
theorem evCopy_nat (S : AS) (t : TypeId) (s x : AV) (K : AV → AS → Option β) : evCopy E S t s x K = (evCopy E S t s x fun v S' => some (v, S')).bind fun p => K p.1 p.2 := by
 unfold evCopy
 split
 ·rfl
 ·split
  case h_2 => rfl
  ·simp only [sizeT]
   split
   ·rw [← gL_nat]
    congr 1
    funext a len cap
    rw [← lenOfA_nat]
    congr 1
    funext n
    repeat' (first
     | rfl
     | (rw [← firstA_nat]; congr 1; funext new; (repeat' (first | rfl | (rw [← stn_nat]; rfl) | split)); done)
     | split)
   ·rfl
theorem stT_nat {γ : Type} (S : AS) (t : TypeId) (p : Pos) (v : AV) (K : AS → Option γ) (L : γ → Option β) : stT E S t p v (fun S' => (K S').bind L) = (stT E S t p v K).bind L := by
 simp only [stT]
 split
 ·rfl
 ·rw [← cellsOf_nat]
  congr 1
  funext vs
  rw [← stn_nat]
theorem evClear_nat (S : AS) (t : TypeId) (d : AV) (K : AV → AS → Option β) : evClear E S t d K = (evClear E S t d fun v S' => some (v, S')).bind fun p => K p.1 p.2 := by
 simp only [evClear, gL, Bool.cond_eq_ite]
 repeat' (first | rfl | (rw [← stn_nat]; rfl) | split)
theorem evDelete_nat (S : AS) (t : TypeId) (m k : AV) (K : AV → AS → Option β) : evDelete E S t m k K = (evDelete E S t m k fun v S' => some (v, S')).bind fun p => K p.1 p.2 := by
 simp only [evDelete, gM, AS.mapOf, Bool.cond_eq_ite]
 repeat' (first | rfl | split)
theorem evEff_nat (S : AS) (T : Tm) (o : Op) (K : AV → AS → Option β) : evEff E S T o K = (evEff E S T o fun v S' => some (v, S')).bind fun p => K p.1 p.2 := by
 cases o with
 | store t a x =>
   simp only [evEff, gA]
   repeat' (first | rfl | (rw [← stT_nat]; rfl) | split)
 | mapUpdate mt m k x =>
   simp only [evEff, gM, AS.mapOf, Bool.cond_eq_ite]
   have h : ∀ (t : TypeId) (v : AV) (F : AV → AS), fitT E t v (fun v => K (.tup []) (F v)) = (fitT E t v (fun v => some (AV.tup [], F v))).bind (fun p => K p.1 p.2) := fun t v F => by
    rw [fitT_nat (β := β) t v (fun v => K (.tup []) (F v)), fitT_nat t v (fun v => some (AV.tup [], F v))]
    cases fitT E t v some <;> rfl
   repeat' (first | rfl | exact h _ _ _ | split)
 | convert s d x =>
   simp only [evEff, gL]
   repeat' (first | rfl | split)
 | call c =>
   simp only [evEff, evGrow]
   repeat' (first | rfl | exact evAppend_nat _ _ _ _ _ | exact evAppendZ_nat _ _ _ _ _ | exact evCopy_nat _ _ _ _ _ | exact evClear_nat _ _ _ _ | exact evDelete_nat _ _ _ _ _ | split)
 | _ => rfl
theorem fitT_nat2 {γ : Type} (t : TypeId) (v : AV) (K : AV → Option γ) (L : γ → Option β) : fitT E t v (fun v => (K v).bind L) = (fitT E t v K).bind L := by
 rw [fitT_nat (β := β) t v (fun v => (K v).bind L), fitT_nat t v K]
 cases fitT E t v some <;> rfl
theorem ev1_nat (call : CallA) (T : Tm) (S : AS) (o : Oper) (K : AV → AS → Option β) : ev1 E call T S o K = (ev1 E call T S o fun v S' => some (v, S')).bind fun p => K p.1 p.2 := by
 have hb : ∀ (q : Option (AV × AS)) (t : TypeId), (q.bind fun r => fitT E t r.1 fun v => K v r.2) = (q.bind fun r => fitT E t r.1 fun v => some (v, r.2)).bind fun p => K p.1 p.2 := fun q t => by
  cases q with
  | none => rfl
  | some r => exact fitT_nat2 t r.1 (fun v => some (v, r.2)) (fun p => K p.1 p.2)
 have hg : ∀ (q : Option (AV × AS)), (q.bind fun r => gB r.1 fun v => K (.bool v) r.2) = (q.bind fun r => gB r.1 fun v => some (AV.bool v, r.2)).bind fun p => K p.1 p.2 := fun q => by
  cases q with
  | none => rfl
  | some r => obtain ⟨v, s⟩ := r; cases v <;> rfl
 have hp : ∀ (t : TypeId), evPure E S T o.op t (fun v => K v S) = (evPure E S T o.op t fun v => some (v, S)).bind fun p => K p.1 p.2 := fun t => by
  rw [evPure_nat S T o.op t (fun v => K v S), evPure_nat S T o.op t (fun v => some (v, S))]
  cases evPure E S T o.op t some <;> rfl
 have hn : evNew E S.next T o.op (fun v ob => K v (S.new ob)) = (evNew E S.next T o.op fun v ob => some (v, S.new ob)).bind fun p => K p.1 p.2 := by
  rw [evNew_nat S.next T o.op (fun v ob => K v (S.new ob)), evNew_nat S.next T o.op (fun v ob => some (v, S.new ob))]
  cases evNew E S.next T o.op (fun v ob => some (v, ob)) <;> rfl
 unfold ev1
 repeat' (first | rfl | exact hb _ _ | exact hg _ | exact hp _ | exact hn | exact evEff_nat _ _ _ _ | split)
end
def agree (o : Op) (T T' : Tm) : Prop := ∀ x ∈ o.operands, evalO T x = evalO T' x
section
variable {β : Type} {E : Env}
theorem map_congr {T T' : Tm} {xs : List Operand} (h : ∀ x ∈ xs, evalO T x = evalO T' x) : xs.map (evalO T) = xs.map (evalO T') := List.map_congr_left h
theorem parts_congr {T T' : Tm} {ps : List (Nat × Operand)} (h : ∀ x ∈ ps.map (·.2), evalO T x = evalO T' x) : ps.map (fun p => (p.1, evalO T p.2)) = ps.map (fun p => (p.1, evalO T' p.2)) :=
 List.map_congr_left fun p hp => by rw [h p.2 (List.mem_map.2 ⟨p, hp, rfl⟩)]
theorem opt_congr {T T' : Tm} {x : Option Operand} (h : ∀ y ∈ x.toArray, evalO T y = evalO T' y) : x.map (evalO T) = x.map (evalO T') := by
 cases x with
 | none => rfl
 | some y => simp only [Option.map_some]; rw [h y (by simp)]
theorem evPure_congr {S : AS} {T T' : Tm} {o : Op} (h : agree o T T') (t : TypeId) (K : AV → Option β) : evPure E S T o t K = evPure E S T' o t K := by
 unfold agree at h
 cases o with
 | build e parts =>
   have := parts_congr (ps := parts.toList) (T := T) (T' := T') (by simpa [Op.operands] using h)
   simp only [evPure, this]
 | makeFunc fn first caps =>
   have h1 := map_congr (xs := first.toList) (T := T) (T' := T') (fun x hx => h x (by simp [Op.operands]; exact .inl (by simpa using hx)))
   have h2 := map_congr (xs := caps.toList) (T := T) (T' := T') (fun x hx => h x (by simp [Op.operands]; exact .inr (by simpa using hx)))
   simp only [evPure, h1, h2]
 | slice st x lo hi mx =>
   have h1 := h x (by simp [Op.operands])
   have h2 := opt_congr (x := lo) (T := T) (T' := T') (fun y hy => h y (by simp [Op.operands] at hy ⊢; simp [hy]))
   have h3 := opt_congr (x := hi) (T := T) (T' := T') (fun y hy => h y (by simp [Op.operands] at hy ⊢; simp [hy]))
   have h4 := opt_congr (x := mx) (T := T) (T' := T') (fun y hy => h y (by simp [Op.operands] at hy ⊢; simp [hy]))
   simp only [evPure, h1, h2, h3, h4]
 | call c =>
   have h1 := map_congr (xs := c.args.toList) (T := T) (T' := T') (fun x hx => h x (by simp [Op.operands, Call.operands]; exact .inr (by simpa using hx)))
   simp only [evPure, h1]
 | _ =>
   first
   | rfl
   | (simp only [Op.operands] at h
      simp at h
      simp only [evPure, h])
theorem evNew_congr {nx : Nat} {T T' : Tm} {o : Op} (h : agree o T T') (K : AV → AObj → Option β) : evNew E nx T o K = evNew E nx T' o K := by
 unfold agree at h
 cases o with
 | buildSlice e n parts =>
   have := parts_congr (ps := parts.toList) (T := T) (T' := T') (by simpa [Op.operands] using h)
   simp only [evNew, this]
 | makeMap mt r =>
   cases r with
   | none => rfl
   | some x => have := h x (by simp [Op.operands]); simp only [evNew, this]
 | _ =>
   first
   | rfl
   | (simp only [Op.operands] at h
      simp at h
      simp only [evNew, h])
theorem evEff_congr {S : AS} {T T' : Tm} {o : Op} (h : agree o T T') (K : AV → AS → Option β) : evEff E S T o K = evEff E S T' o K := by
 unfold agree at h
 cases o with
 | call c =>
   have h1 := map_congr (xs := c.args.toList) (T := T) (T' := T') (fun x hx => h x (by simp [Op.operands, Call.operands]; exact .inr (by simpa using hx)))
   simp only [evEff, h1]
 | _ =>
   first
   | rfl
   | (simp only [Op.operands] at h
      simp at h
      simp only [evEff, h])
theorem ev1_congr {call : CallA} {S : AS} {T T' : Tm} {o : Oper} (h : agree o.op T T') (K : AV → AS → Option β) : ev1 E call T S o K = ev1 E call T' S o K := by
 have hp : ∀ (t : TypeId) (K : AV → Option β), evPure E S T o.op t K = evPure E S T' o.op t K := fun t K => evPure_congr h t K
 have hn : ∀ (nx : Nat) (K : AV → AObj → Option β), evNew E nx T o.op K = evNew E nx T' o.op K := fun nx K => evNew_congr h K
 have he : ∀ (K : AV → AS → Option β), evEff E S T o.op K = evEff E S T' o.op K := fun K => evEff_congr h K
 unfold ev1
 simp only [hp, hn, he]
 split
 ·rename_i c hop
  unfold agree at h
  rw [hop] at h
  have h1 := map_congr (xs := c.args.toList) (T := T) (T' := T') (fun x hx => h x (by simp [Op.operands, Call.operands]; exact .inr (by simpa using hx)))
  split
  ·rename_i f hf
   have h2 := h f (by simp [Op.operands, Call.operands, hf])
   rw [h1, h2]
  ·rename_i rc nm hf
   have h2 := h rc (by simp [Op.operands, Call.operands, hf])
   rw [h1, h2]
  ·rfl
 ·rfl
theorem evLen_free {S S' : AS} {b : Builtin} (hb : b ≠ .len) (at_ : Array TypeId) (args : List AV) (K : AV → Option β) : evLen E S b at_ args K = evLen E S' b at_ args K := by
 unfold evLen
 split
 ·exact absurd rfl hb
 ·rfl
 ·rfl
 ·rfl
 ·rfl
theorem evPure_free {S S' : AS} {T : Tm} {o : Op} (h : cls E o = 0) (t : TypeId) (K : AV → Option β) : evPure E S T o t K = evPure E S' T o t K := by
 cases o with
 | convert s d x =>
   simp only [cls] at h
   simp only [evPure, evConv]
   cases hs : E.ty s with
   | none => rfl
   | some ts =>
     cases hd : E.ty d with
     | none => rfl
     | some td =>
       rw [hs, hd] at h
       simp only at h ⊢
       cases hk : td.k <;> simp only
       cases evalO T x <;> simp only
       cases hk2 : ts.k <;> simp only
       rw [hk2, hk] at h
       simp at h
 | call c =>
   simp only [cls] at h
   simp only [evPure]
   split
   ·rename_i b hb
    rw [hb] at h
    refine evLen_free (fun he => ?_) _ _ _
    subst he
    simp at h
   ·rfl
 | load _ _ => simp [cls] at h
 | lookup _ _ _ _ => simp [cls] at h
 | _ => rfl
end
end Go.Gr
