/- Operations that neither make nor write anything: what the evaluator says is what the model does. -/
import Derived.Test.YtcepfilbiahdjaaGrEnv
set_option linter.unusedVariables false
set_option linter.unusedSimpArgs false
set_option linter.unusedSectionVars false
namespace Go.Gr
section inv
variable {β : Type} {r : β}
theorem gI_inv {v : AV} {K : IntKind → Int → Option β} (h : gI v K = some r) : ∃ k n, v = .int k n ∧ K k n = some r := by
 unfold gI at h; split at h; exact ⟨_, _, rfl, h⟩; cases h
theorem gIk_inv {k : IntKind} {v : AV} {K : Int → Option β} (h : gIk k v K = some r) : ∃ n, v = .int k n ∧ K n = some r := by
 unfold gIk at h; split at h
 ·split at h
  ·rename_i he; subst he; exact ⟨_, rfl, h⟩
  ·cases h
 ·cases h
theorem gB_inv {v : AV} {K : Bool → Option β} (h : gB v K = some r) : ∃ b, v = .bool b ∧ K b = some r := by
 unfold gB at h; split at h; exact ⟨_, rfl, h⟩; cases h
theorem gS_inv {v : AV} {K : List UInt8 → Option β} (h : gS v K = some r) : ∃ s, v = .str s ∧ K s = some r := by
 unfold gS at h; split at h; exact ⟨_, rfl, h⟩; cases h
theorem gP_inv {v : AV} {K : Option Pos → Option β} (h : gP v K = some r) : ∃ a, v = .ptr a ∧ K a = some r := by
 unfold gP at h; split at h; exact ⟨_, rfl, h⟩; cases h
theorem gA_inv {v : AV} {K : Pos → Option β} (h : gA v K = some r) : ∃ b i, v = .ptr (some (b, i)) ∧ K (b, i) = some r := by
 unfold gA at h; split at h
 ·split at h
  ·rename_i p; exact ⟨p.1, p.2, rfl, h⟩
  ·cases h
 ·cases h
theorem gL_inv {v : AV} {K : Option Pos → Nat → Cap → Option β} (h : gL v K = some r) : ∃ a l c, v = .sl a l c ∧ K a l c = some r := by
 unfold gL at h; split at h; exact ⟨_, _, _, rfl, h⟩; cases h
theorem gG_inv {v : AV} {K : List AV → Option β} (h : gG v K = some r) : ∃ l, v = .agg l ∧ K l = some r := by
 unfold gG at h; split at h; exact ⟨_, rfl, h⟩; cases h
theorem gT_inv {v : AV} {K : List AV → Option β} (h : gT v K = some r) : ∃ l, v = .tup l ∧ K l = some r := by
 unfold gT at h; split at h; exact ⟨_, rfl, h⟩; cases h
theorem gM_inv {v : AV} {K : Option Nat → Option β} (h : gM v K = some r) : ∃ a, v = .mp a ∧ K a = some r := by
 unfold gM at h; split at h; exact ⟨_, rfl, h⟩; cases h
theorem ite_inv {c : Prop} [Decidable c] {x : Option β} (h : (if c then x else none) = some r) : c ∧ x = some r := by
 split at h
 ·exact ⟨by assumption, h⟩
 ·cases h
theorem ite_inv' {c : Prop} [Decidable c] {x : Option β} (h : (if c then none else x) = some r) : ¬ c ∧ x = some r := by
 split at h
 ·cases h
 ·exact ⟨by assumption, h⟩
theorem cond_inv {c : Bool} {x : Option β} (h : cond c x none = some r) : c = true ∧ x = some r := by
 cases c
 ·cases h
 ·exact ⟨rfl, h⟩
theorem idx_inv {v : AV} {K : Nat → Option β} (h : idx v K = some r) : ∃ k n, v = .int k n ∧ 0 ≤ n ∧ K n.toNat = some r := by
 obtain ⟨k, n, rfl, h⟩ := gI_inv h
 obtain ⟨h1, h2⟩ := ite_inv h
 exact ⟨k, n, rfl, h1, h2⟩
theorem fit_inv {ti : TI} {v : AV} {K : AV → Option β} (h : fit ti v K = some r) : K v = some r := by
 unfold fit at h
 split at h
 ·obtain ⟨n, rfl, hK⟩ := gIk_inv h; exact hK
 ·obtain ⟨n, rfl, hK⟩ := gB_inv h; exact hK
 ·obtain ⟨n, rfl, hK⟩ := gS_inv h; exact hK
 ·obtain ⟨n, rfl, hK⟩ := gP_inv h; exact hK
 ·obtain ⟨a, l, c, rfl, hK⟩ := gL_inv h; exact hK
 ·obtain ⟨l, rfl, hK⟩ := gG_inv h; exact (ite_inv hK).2
 ·obtain ⟨l, rfl, hK⟩ := gG_inv h; exact (ite_inv hK).2
 ·obtain ⟨a, rfl, hK⟩ := gM_inv h; exact hK
 ·obtain ⟨a, rfl, hK⟩ := gT_inv h; exact hK
 ·exact h
theorem fitT_inv {E : Env} {t : TypeId} {v : AV} {K : AV → Option β} (h : fitT E t v K = some r) : ∃ ti, E.ty t = some ti ∧ K v = some r := by
 unfold fitT at h
 split at h
 ·rename_i ti ht; exact ⟨ti, ht, fit_inv h⟩
 ·cases h
theorem sizeT_inv {E : Env} {t : TypeId} {K : Nat → Option β} (h : sizeT E t K = some r) : ∃ ti, E.ty t = some ti ∧ K ti.size = some r := by
 unfold sizeT at h
 split at h
 ·rename_i ti ht; exact ⟨ti, ht, h⟩
 ·cases h
theorem fieldOff_inv {E : Env} {s : TypeId} {f : Nat} {K : TypeId → Nat → Option β} (h : fieldOff E s f K = some r) :
 ∃ ti fs t off, E.ty s = some ti ∧ ti.k = .st fs ∧ fs[f]? = some (t, off) ∧ K t off = some r := by
 unfold fieldOff at h
 split at h
 ·rename_i ti ht
  split at h
  ·rename_i fs hk
   split at h
   ·rename_i t off hf; exact ⟨ti, fs, t, off, ht, hk, hf, h⟩
   ·cases h
  ·cases h
 ·cases h
theorem cellsOf_inv {j : J} {ti : TI} {v : AV} {u : Value} {K : List AV → Option β} (h : cellsOf ti v K = some r) (hr : VR j v u) :
 ∃ cs, K cs = some r ∧ VRs j cs u.cells.toList ∧ cs.length = ti.size ∧ ∀ c ∈ u.cells.toList, Value.oneCell' c = true := by
 unfold cellsOf at h
 cases ha : isAgg ti.k with
 | true =>
   rw [ha] at h
   obtain ⟨l, hv, hK⟩ := gG_inv h
   subst hv
   obtain ⟨hl, hK'⟩ := ite_inv hK
   simp only [VR] at hr
   obtain ⟨A, rfl, hr, hone⟩ := hr
   exact ⟨l, hK', hr, hl, hone⟩
 | false =>
   rw [ha] at h
   simp only [cond_false] at h
   have key : ∀ (h1 : v ≠ .undef) (h2 : ∀ l, v ≠ .agg l) (h3 : ∀ l, v ≠ .tup l), (if ti.size = 1 then K [v] else none) = some r →
    ∃ cs, K cs = some r ∧ VRs j cs u.cells.toList ∧ cs.length = ti.size ∧ ∀ c ∈ u.cells.toList, Value.oneCell' c = true := by
    intro h1 h2 h3 h
    obtain ⟨hs, h⟩ := ite_inv h
    have hone := hr.oneCell h1 h2 h3
    have hc : u.cells = #[u] := by cases u <;> first | rfl | simp [Value.oneCell'] at hone
    rw [hc]
    refine ⟨[v], h, ?_, by simp [hs], by simpa using hone⟩
    simp only [VRs]
    exact ⟨u, [], rfl, hr, rfl⟩
   cases v <;> first
    | (cases h; done)
    | exact key nofun nofun nofun h
end inv
theorem cv1_vr {j : J} (v : Value) : VR j (cv1 v) v := by
 unfold cv1
 split <;> simp [VR]
theorem cv1s_vr {j : J} : ∀ (vs : List Value), VRs j (vs.map cv1) vs
 | [] => by simp [VRs]
 | v :: vs => by simp only [List.map_cons, VRs]; exact ⟨v, vs, rfl, cv1_vr v, cv1s_vr vs⟩
theorem cv_vr {j : J} (v : Value) : VR j (cv v) v := by
 unfold cv
 split
 ·rename_i cs
  cases h : cs.toList.all Value.oneCell' with
  | false => simp [VR]
  | true =>
    simp only [cond_true, VR]
    exact ⟨cs, rfl, cv1s_vr _, fun x hx => List.all_eq_true.1 h x hx⟩
 ·rename_i cs
  split
  ·rename_i h
   simp only [VR, VRs]
   exact ⟨cs, rfl, by simpa using h⟩
  ·simp [VR]
 ·exact cv1_vr v
theorem evalO_vr {j : J} {T : Tm} {a : Act} (h : TR j T a.tmps) (x : Operand) : VR j (evalO T x) (a.eval x) := by
 cases x with
 | tmp t => exact (h t).1
 | const v => exact cv_vr v
 | global g =>
   obtain ⟨x, h1, h2, h3⟩ := (h 0).2.2 g
   simp only [evalO, VR]
   exact ⟨x, h1, by simp [Act.eval, h2, h3]⟩
 | func f => simp only [evalO, VR, Act.eval]; exact ⟨#[], #[], rfl, by simp [VRs], by simp [VRs]⟩
theorem run_val (P : Program) (w : World) (s : Sem Value) : (do pure (Next.value (← s)) : Sem Next).run P w = (s.run P w).andThen fun v w' => .ok (.value v) w' := by
 rw [Sem.run_bind]; rfl
section
variable {E : Env} {P : Program} (hE : EnvOk E P) {w0 w : World} {j : J} {S : AS} (hR : R w0 j S w) {β : Type} {r : β}
include hE hR
theorem ldT_sound {t : TypeId} {b : Bid} {i : Nat} {K : AV → Option β} (h : ldT E S t (b, i) K = some r) :
 ∃ x av u, j b = some x ∧ K av = some r ∧ VR j av u ∧ (loadVar t ⟨x.c, x.off + i, none⟩).run P w = .ok u w := by
 unfold ldT at h
 split at h
 ·cases h
 rename_i ti ht
 cases ha : isAgg ti.k with
 | true =>
   rw [ha] at h
   simp only [cond_true] at h
   obtain ⟨x, l, us, hx, hK, hl, hu, hc, hv, hone⟩ := hR.ldn h
   refine ⟨x, .agg l, .agg us.toArray, hx, hK, ?_, ?_⟩
   ·simp only [VR]; exact ⟨us.toArray, rfl, by simpa using hv, by simpa using hone⟩
   ·simp only [loadVar, Sem.run_bind, hE.agg ht, ha, Result.andThen_ok, if_true, hE.size ht]
    rw [run_loadCells P w x.c (x.off + i) ti.size us hu hc]
    rfl
 | false =>
   rw [ha] at h
   simp only [cond_false] at h
   split at h
   ·rename_i v hv
    obtain ⟨x, u, hx, hc, hr, hone⟩ := hR.ld hv
    refine ⟨x, v, u, hx, fit_inv h, hr, ?_⟩
    simp [loadVar, hE.agg ht, ha, hc]
   ·cases h
theorem partA_sound {t : TypeId} {l : List AV} {A : Array Value} {off : Nat} {K : AV → Option β} (h : partA E t l off K = some r) (hl : VRs j l A.toList) (hone : ∀ x ∈ A.toList, Value.oneCell' x = true) :
 ∃ av u, K av = some r ∧ VR j av u ∧ (part t A off).run P w = .ok u w := by
 unfold partA at h
 split at h
 ·cases h
 rename_i ti ht
 have hlen := hl.length
 cases ha : isAgg ti.k with
 | true =>
   rw [ha] at h
   simp only [cond_true] at h
   obtain ⟨hle, h⟩ := ite_inv h
   refine ⟨_, .agg (A.extract off (off + ti.size)), h, ?_, ?_⟩
   ·simp only [VR]
    refine ⟨_, rfl, ?_, ?_⟩
    ·have := (hl.drop off).take ti.size
     simpa [List.extract_eq_take_drop] using this
    ·intro x hx
     apply hone
     simp only [Array.toList_extract, List.extract_eq_take_drop] at hx
     exact List.mem_of_mem_drop (List.mem_of_mem_take hx)
   ·simp [part, hE.agg ht, ha, hE.size ht]
 | false =>
   rw [ha] at h
   simp only [cond_false] at h
   split at h
   ·rename_i v hv
    obtain ⟨u, hu, hr⟩ := hl.get _ _ hv
    refine ⟨v, u, fit_inv h, hr, ?_⟩
    have hu' : A[off]? = some u := by simpa using hu
    simp [part, hE.agg ht, ha, hu']
   ·cases h
end
end Go.Gr
