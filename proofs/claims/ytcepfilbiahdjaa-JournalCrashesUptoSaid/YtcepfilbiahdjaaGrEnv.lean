/- The tables of the evaluator agree with a program's own. -/
import Derived.Test.YtcepfilbiahdjaaGrRel
set_option linter.unusedVariables false
set_option linter.unusedSimpArgs false
namespace Go.Gr
def kOk (d : Option TypeDesc) (k : TK) : Bool :=
 match d, k with
 | some (.int a), .int b => decide (a = b)
 | some .bool, .bool => true
 | some .string, .str => true
 | some (.pointer e), .ptr e' => decide (e = e')
 | some (.slice e), .sl e' => decide (e = e')
 | some (.array n e), .arr n' e' => decide (n = n') && decide (e = e')
 | some (.struct fs), .st l => decide (fs.toList.map (fun f => (f.type, f.offset)) = l)
 | some (.map k e), .mp k' e' => decide (k = k') && decide (e = e')
 | some (.func ..), .fn => true
 | some (.interface _), .iface => true
 | some (.tuple _), .tup => true
 | _, _ => false
def zEq : AV → Value → Bool
 | .undef, v => v.oneCell'
 | .int k n, .int k' n' => decide (k = k') && decide (n = n')
 | .bool a, .bool b => a == b
 | .str [], .string s => s.size == 0
 | .ptr none, .pointer none => true
 | .sl none 0 (.ex 0), .slice none 0 0 => true
 | .mp none, .map none => true
 | .nilFn, .nilFunc => true
 | .nilIface, .nilIface => true
 | _, _ => false
def zsEq : List AV → List Value → Bool
 | [], [] => true
 | x :: xs, v :: vs => zEq x v && zsEq xs vs
 | _, _ => false
def isAggV : Value → Bool
 | .agg _ => true
 | _ => false
def tyOkB (P : Program) (t : TypeId) (ti : TI) : Bool :=
 kOk (P.underlying t) ti.k &&
 (match P.info? t with
  | some i => Nat.beq i.size ti.size && Nat.beq i.bytes ti.bytes &&
    (match P.underlying t with
     | some (.struct fs) => fs.toList.all fun f => (P.info? f.type).isSome
     | _ => true) &&
    (match i.zero with
     | some z => !(noTup ti.k) || (zsEq ti.zero z.cells.toList && (isAggV z == isAgg ti.k) && Nat.beq ti.zero.length ti.size)
     | none => false)
  | none => false)
structure TyOk (P : Program) (t : TypeId) (ti : TI) : Prop where
 und : kOk (P.underlying t) ti.k = true
 info : ∃ i z, P.info? t = some i ∧ i.size = ti.size ∧ i.bytes = ti.bytes ∧ i.zero = some z ∧
  (noTup ti.k = true → zsEq ti.zero z.cells.toList = true ∧ isAggV z = isAgg ti.k ∧ ti.zero.length = ti.size)
 flds : ∀ fs, P.underlying t = some (.struct fs) → ∀ f ∈ fs.toList, ∃ i, P.info? f.type = some i
 plain : ti.plain = true → ∀ (j : J) (l m : List AV) (A B : Array Value) (w : World), fitZ ti.zero l = true → fitZ ti.zero m = true → VRs j l A.toList → VRs j m B.toList →
  (Op.equal t (.agg A) (.agg B)).run P w = .ok (AV.beqs l m) w ∧ P.eqGuardType P.depth t = false
theorem TyOk.of {P : Program} {t : TypeId} {ti : TI} (h : tyOkB P t ti = true) (hp : ti.plain = true → ∀ (j : J) (l m : List AV) (A B : Array Value) (w : World), fitZ ti.zero l = true → fitZ ti.zero m = true → VRs j l A.toList → VRs j m B.toList →
 (Op.equal t (.agg A) (.agg B)).run P w = .ok (AV.beqs l m) w ∧ P.eqGuardType P.depth t = false) : TyOk P t ti := by
 unfold tyOkB at h
 simp only [Bool.and_eq_true] at h
 obtain ⟨h1, h2⟩ := h
 cases hi : P.info? t with
 | none => simp [hi] at h2
 | some i =>
   simp only [hi, Bool.and_eq_true] at h2
   obtain ⟨⟨⟨h3, h4⟩, h45⟩, h5⟩ := h2
   refine ⟨h1, ?_, ?_, hp⟩
   ·cases hz : i.zero with
    | none => simp [hz] at h5
    | some z =>
      simp only [hz, Bool.or_eq_true, Bool.and_eq_true] at h5
      refine ⟨i, z, hi, Nat.eq_of_beq_eq_true h3, Nat.eq_of_beq_eq_true h4, hz, fun hn => ?_⟩
      rcases h5 with h5 | ⟨⟨h5, h6⟩, h7⟩
      ·simp [hn] at h5
      ·exact ⟨h5, by simpa using h6, Nat.eq_of_beq_eq_true h7⟩
   ·intro fs hfs f hf
    rw [hfs] at h45
    have := List.all_eq_true.1 h45 f hf
    exact Option.isSome_iff_exists.1 this
theorem zEq.vr {j : J} : ∀ {x : AV} {v : Value}, zEq x v = true → VR j x v ∧ Value.oneCell' v = true := by
 intro x v h
 unfold zEq at h
 split at h
 ·exact ⟨by simp [VR], h⟩
 ·simp at h; obtain ⟨rfl, rfl⟩ := h; exact ⟨by simp [VR], rfl⟩
 ·simp at h; subst h; exact ⟨by simp [VR], rfl⟩
 ·rename_i s
  have hs : s.size = 0 := by simpa using h
  have he : s = ⟨([] : List UInt8).toArray⟩ := by
   apply ByteArray.ext
   exact Array.eq_empty_of_size_eq_zero hs
  subst he
  exact ⟨by simp only [VR], rfl⟩
 ·exact ⟨by simp [VR], rfl⟩
 ·exact ⟨by simp [VR], rfl⟩
 ·exact ⟨by simp [VR], rfl⟩
 ·exact ⟨by simp [VR], rfl⟩
 ·exact ⟨by simp [VR], rfl⟩
 ·simp at h
theorem zsEq.vrs {j : J} : ∀ {xs : List AV} {vs : List Value}, zsEq xs vs = true → VRs j xs vs ∧ ∀ u ∈ vs, Value.oneCell' u = true
 | [], [], _ => ⟨by simp [VRs], by simp⟩
 | [], _ :: _, h => by simp [zsEq] at h
 | _ :: _, [], h => by simp [zsEq] at h
 | x :: xs, v :: vs, h => by
   simp only [zsEq, Bool.and_eq_true] at h
   obtain ⟨h1, h2⟩ := h
   obtain ⟨a, b⟩ := zEq.vr (j := j) h1
   obtain ⟨c, d⟩ := zsEq.vrs (j := j) h2
   refine ⟨by simp only [VRs]; exact ⟨v, vs, rfl, a, c⟩, ?_⟩
   intro u hu
   rcases List.mem_cons.1 hu with rfl | hu
   ·exact b
   ·exact d u hu
structure EnvOk (E : Env) (P : Program) : Prop where
 ty : ∀ t ti, E.ty t = some ti → TyOk P t ti
 func : ∀ f fn, E.func f = some fn → P.funcs[f]? = some fn ∧ (∀ c, fn.body = some c → wfC fn.ntmps c = true) ∧ fn.name ≠ "runtime.NumGoroutine"
 meth : ∀ t name f, E.meth t name = some f → (∃ ti, E.ty t = some ti ∧ ∀ (v : Value) (w : World), (method (P.types.size + Made.depth) t v name).run P w = .ok (f, v) w ∧ (nilAhead (P.types.size + Made.depth) t v name).run P w = .ok (some false) w)
 mixed : P.follows .mixedOrders = true
section
variable {E : Env} {P : Program} (h : EnvOk E P)
include h
theorem EnvOk.size {t : TypeId} {ti : TI} (ht : E.ty t = some ti) (w : World) : (sizeOf t).run P w = .ok ti.size w := by
 obtain ⟨i, z, hi, hs, _⟩ := (h.ty t ti ht).info
 simp [Go.sizeOf, typeInfo, hi, hs]
theorem EnvOk.bytes {t : TypeId} {ti : TI} (ht : E.ty t = some ti) (w : World) : ∃ i, (typeInfo t).run P w = .ok i w ∧ i.size = ti.size ∧ i.bytes = ti.bytes := by
 obtain ⟨i, z, hi, hs, hb, _⟩ := (h.ty t ti ht).info
 exact ⟨i, by simp [typeInfo, hi], hs, hb⟩
theorem EnvOk.zero {t : TypeId} {ti : TI} (ht : E.ty t = some ti) (hn : noTup ti.k = true) (w : World) : ∃ z, (zeroValue t).run P w = .ok z w ∧ zsEq ti.zero z.cells.toList = true ∧ isAggV z = isAgg ti.k ∧ ti.zero.length = ti.size ∧ z.cells.size = ti.size := by
 obtain ⟨i, z, hi, hs, hb, hz, hh⟩ := (h.ty t ti ht).info
 obtain ⟨a, b, c⟩ := hh hn
 refine ⟨z, by simp [zeroValue, typeInfo, hi, hz], a, b, c, ?_⟩
 have := (zsEq.vrs (j := fun _ => none) a).1.length
 rw [c] at this
 simpa using this.symm
theorem EnvOk.zeroAll {t : TypeId} {ti : TI} (ht : E.ty t = some ti) (hn : noTup ti.k = true) : ∃ z, (∀ w, (zeroValue t).run P w = .ok z w) ∧ zsEq ti.zero z.cells.toList = true ∧ z.cells.size = ti.size := by
 obtain ⟨i, z, hi, hs, hb, hz, hh⟩ := (h.ty t ti ht).info
 obtain ⟨a, b, c⟩ := hh hn
 refine ⟨z, fun w => by simp [zeroValue, typeInfo, hi, hz], a, ?_⟩
 have := (zsEq.vrs (j := fun _ => none) a).1.length
 rw [c] at this
 simpa using this.symm
theorem EnvOk.und {t : TypeId} {ti : TI} (ht : E.ty t = some ti) : kOk (P.underlying t) ti.k = true := (h.ty t ti ht).und
theorem EnvOk.uInt {t : TypeId} {ti : TI} {k : IntKind} (ht : E.ty t = some ti) (hk : ti.k = .int k) (w : World) : (underlying t).run P w = .ok (.int k) w := by
 have := h.und ht
 rw [hk] at this
 unfold kOk at this
 split at this <;> simp_all [underlying]
theorem EnvOk.uBool {t : TypeId} {ti : TI} (ht : E.ty t = some ti) (hk : ti.k = .bool) (w : World) : (underlying t).run P w = .ok .bool w := by
 have := h.und ht
 rw [hk] at this
 unfold kOk at this
 split at this <;> simp_all [underlying]
theorem EnvOk.uStr {t : TypeId} {ti : TI} (ht : E.ty t = some ti) (hk : ti.k = .str) (w : World) : (underlying t).run P w = .ok .string w := by
 have := h.und ht
 rw [hk] at this
 unfold kOk at this
 split at this <;> simp_all [underlying]
theorem EnvOk.uPtr {t e : TypeId} {ti : TI} (ht : E.ty t = some ti) (hk : ti.k = .ptr e) (w : World) : (underlying t).run P w = .ok (.pointer e) w := by
 have := h.und ht
 rw [hk] at this
 unfold kOk at this
 split at this <;> simp_all [underlying]
theorem EnvOk.uSl {t e : TypeId} {ti : TI} (ht : E.ty t = some ti) (hk : ti.k = .sl e) (w : World) : (underlying t).run P w = .ok (.slice e) w := by
 have := h.und ht
 rw [hk] at this
 unfold kOk at this
 split at this <;> simp_all [underlying]
theorem EnvOk.uArr {t e : TypeId} {n : Nat} {ti : TI} (ht : E.ty t = some ti) (hk : ti.k = .arr n e) (w : World) : (underlying t).run P w = .ok (.array n e) w := by
 have := h.und ht
 rw [hk] at this
 unfold kOk at this
 split at this <;> simp_all [underlying]
theorem EnvOk.uMap {t k e : TypeId} {ti : TI} (ht : E.ty t = some ti) (hk : ti.k = .mp k e) (w : World) : (underlying t).run P w = .ok (.map k e) w := by
 have := h.und ht
 rw [hk] at this
 unfold kOk at this
 split at this <;> simp_all [underlying]
theorem EnvOk.uFn {t : TypeId} {ti : TI} (ht : E.ty t = some ti) (hk : ti.k = .fn) (w : World) : ∃ a b c, (underlying t).run P w = .ok (.func a b c) w := by
 have := h.und ht
 rw [hk] at this
 unfold kOk at this
 split at this <;> simp_all [underlying]
theorem EnvOk.uIface {t : TypeId} {ti : TI} (ht : E.ty t = some ti) (hk : ti.k = .iface) (w : World) : ∃ a, (underlying t).run P w = .ok (.interface a) w := by
 have := h.und ht
 rw [hk] at this
 unfold kOk at this
 split at this <;> simp_all [underlying]
theorem EnvOk.uSt {t : TypeId} {l : List (TypeId × Nat)} {ti : TI} (ht : E.ty t = some ti) (hk : ti.k = .st l) (w : World) : ∃ fs : Array Field, (underlying t).run P w = .ok (.struct fs) w ∧ fs.toList.map (fun f => (f.type, f.offset)) = l := by
 have := h.und ht
 rw [hk] at this
 unfold kOk at this
 split at this <;> simp_all [underlying]
theorem EnvOk.agg {t : TypeId} {ti : TI} (ht : E.ty t = some ti) (w : World) : (Go.isAgg t).run P w = .ok (isAgg ti.k) w := by
 have hu := h.und ht
 unfold Go.isAgg underlying
 cases hd : P.underlying t with
 | none => rw [hd] at hu; cases hk : ti.k <;> simp [hk, kOk] at hu
 | some d =>
   rw [hd] at hu
   cases d <;> cases hk : ti.k <;> simp [hk, kOk] at hu <;> simp [hd, isAgg]
theorem EnvOk.notIface {t : TypeId} {ti : TI} (ht : E.ty t = some ti) (hk : ti.k ≠ .iface) (w : World) : ∃ d, (underlying t).run P w = .ok d w ∧ ∀ m, d ≠ .interface m := by
 have hu := h.und ht
 unfold underlying
 cases hd : P.underlying t with
 | none => rw [hd] at hu; cases hk : ti.k <;> simp [hk, kOk] at hu
 | some d =>
   refine ⟨d, by simp [hd], fun m he => ?_⟩
   subst he
   rw [hd] at hu
   cases hk' : ti.k <;> simp [hk', kOk] at hu
   exact hk hk'
end
end Go.Gr
