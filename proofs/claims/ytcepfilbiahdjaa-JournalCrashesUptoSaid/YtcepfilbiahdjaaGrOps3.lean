/- Aggregates, indexes, slices, conversions, maps: what is read. -/
import Derived.Test.YtcepfilbiahdjaaGrOps2
set_option linter.unusedVariables false
set_option linter.unusedSimpArgs false
set_option linter.unusedSectionVars false
namespace Go.Gr
def RowR (j : J) (cs : List AV) (C : Array Value) : Prop := VRs j cs C.toList ∧ ∀ u ∈ C.toList, Value.oneCell' u = true
theorem RowR.put {j : J} {cs vs : List AV} {C : Array Value} {us : List Value} {off : Nat} (h : RowR j cs C) (hv : VRs j vs us) (hone : ∀ u ∈ us, Value.oneCell' u = true) (hle : off + vs.length ≤ cs.length) : RowR j (splice cs off vs) (putCells C off us) := by
 have hl := h.1.length
 have hvl := hv.length
 simp only [Array.length_toList] at hl
 have hsz := putCells_size (C := C) (o := off) (us := us) (by omega)
 refine ⟨VRs.of_get (by rw [splice_length hle]; simp [hsz, hl]) fun i x v hx hv' => ?_, fun u hu => ?_⟩
 ·rw [splice_get hle] at hx
  have hv2 : (putCells C off us)[i]? = some v := by simpa using hv'
  rw [putCells_get (by omega)] at hv2
  split at hx
  ·rename_i h1
   rw [if_pos h1] at hv2
   obtain ⟨u, hu, hr⟩ := h.1.get _ _ hx
   have : C[i]? = some u := by simpa using hu
   rw [this] at hv2; cases hv2; exact hr
  ·rename_i h1
   rw [if_neg h1] at hv2
   split at hx
   ·rename_i h2
    rw [if_pos (by omega)] at hv2
    obtain ⟨u, hu, hr⟩ := hv.get _ _ hx
    rw [hu] at hv2; cases hv2; exact hr
   ·rename_i h2
    rw [if_neg (by omega)] at hv2
    obtain ⟨u, hu, hr⟩ := h.1.get _ _ hx
    have : C[i]? = some u := by simpa using hu
    rw [this] at hv2; cases hv2; exact hr
 ·unfold putCells at hu
  simp only [List.mem_append] at hu
  rcases hu with hu | hu | hu
  ·exact h.2 u (List.mem_of_mem_take hu)
  ·exact hone u hu
  ·exact h.2 u (List.mem_of_mem_drop hu)
theorem foldl_put (off : Nat) : ∀ (us : List Value) (k : Nat) (C : Array Value), off + k + us.length ≤ C.size →
 (us.zipIdx k).foldl (fun cs (x : Value × Nat) => cs.setIfInBounds (off + x.2) x.1) C = putCells C (off + k) us
 | [], k, C, h => by simp [putCells]
 | u :: us, k, C, h => by
   simp only [List.length_cons] at h
   simp only [List.zipIdx_cons, List.foldl_cons]
   rw [foldl_put off us (k + 1) _ (by simp; omega)]
   apply Array.ext_getElem?
   intro i
   rw [putCells_get (by simp; omega), putCells_get (by simp; omega)]
   simp only [List.length_cons, Array.getElem?_setIfInBounds]
   by_cases c1 : i < off + k
   ·rw [if_pos (by omega), if_pos c1, if_neg (by omega)]
   ·by_cases c2 : i = off + k
    ·subst c2
     have h3 : off + k < C.size := by omega
     simp [h3]
    ·rw [if_neg (by omega), if_neg c1]
     by_cases c3 : i < off + (k + 1) + us.length
     ·rw [if_pos c3, if_pos (by omega)]
      rw [show i - (off + k) = (i - (off + (k + 1))) + 1 by omega]; simp
     ·rw [if_neg c3, if_neg (by omega), if_neg (by omega)]
theorem zeros_row {j : J} {z : List AV} {Z : Array Value} (h : RowR j z Z) (n : Nat) : RowR j (zeros n z) ((Array.range (n * Z.size)).map (Z[· % Z.size]!)) := by
 have hl := h.1.length
 simp only [Array.length_toList] at hl
 have hlen : (zeros n z).length = n * Z.size := by unfold zeros; simp [hl]
 have hget : ∀ i, i < n * Z.size → (zeros n z)[i]? = z[i % Z.size]? := by
  intro i hi
  unfold zeros
  clear hlen
  induction n generalizing i with
  | zero => simp at hi
  | succ n ih =>
    rw [List.replicate_succ, List.flatten_cons, List.getElem?_append]
    rw [Nat.add_mul, Nat.one_mul] at hi
    split
    ·rename_i h1; rw [Nat.mod_eq_of_lt (by omega)]
    ·rename_i h1
     rw [ih (i - z.length) (by omega)]
     rw [hl]
     rw [← Nat.mod_eq_sub_mod (by omega)]
 refine ⟨VRs.of_get (by simp [hlen]) fun i x v hx hv => ?_, fun u hu => ?_⟩
 ·have hi : i < n * Z.size := by
   rw [← hlen]
   exact (List.getElem?_eq_some_iff.1 hx).1
  rw [hget i hi] at hx
  have hp : 0 < Z.size := by
   rcases Nat.eq_zero_or_pos Z.size with h0 | h0
   ·rw [h0] at hi; simp at hi
   ·exact h0
  have hm := Nat.mod_lt i hp
  simp [hi] at hv
  obtain ⟨u, hu, hr⟩ := h.1.get _ _ hx
  have hu' : Z[i % Z.size]? = some u := by simpa using hu
  rw [getElem!_pos Z (i % Z.size) hm] at hv
  rw [Array.getElem?_eq_getElem hm] at hu'
  cases hu'
  rw [← hv]; exact hr
 ·simp only [Array.toList_map, List.mem_map, Array.mem_toList_iff, Array.mem_range] at hu
  obtain ⟨i, hi, rfl⟩ := hu
  have hp : 0 < Z.size := by
   rcases Nat.eq_zero_or_pos Z.size with h0 | h0
   ·rw [h0] at hi; simp at hi
   ·exact h0
  have hm := Nat.mod_lt i hp
  rw [getElem!_pos Z (i % Z.size) hm]
  exact h.2 _ (Array.mem_toList_iff.2 (Array.getElem_mem hm))
theorem b2s_loop {j : J} {P : Program} {w : World} : ∀ {l : List AV} {us : List Value} {s : List UInt8}, bytesOf l = some s → VRs j l us → ∀ acc : ByteArray,
 (forIn us acc (fun c (s : ByteArray) => (match c with
  | .int .u8 n => pure (ForInStep.yield (s.push (UInt8.ofNat n.toNat)))
  | _ => do (stuck "bytesToString: byte expected" : Sem PUnit); pure (ForInStep.yield s) : Sem (ForInStep ByteArray)))).run P w = .ok ⟨acc.data ++ s.toArray⟩ w
 | [], us, s, h, hv, acc => by
   simp [bytesOf] at h; subst h
   simp only [VRs] at hv; subst hv
   simp
 | x :: l, us, s, h, hv, acc => by
   simp only [VRs] at hv
   obtain ⟨v, r, rfl, h1, h2⟩ := hv
   cases x with
   | int k n =>
     cases k with
     | u8 =>
       cases hb : bytesOf l with
       | none => simp [bytesOf, hb] at h
       | some t =>
         simp [bytesOf, hb] at h; subst h
         simp only [VR] at h1; subst h1
         simp only [List.forIn_cons, Sem.run_bind, Sem.run_pure, Result.andThen_ok]
         rw [b2s_loop hb h2]
         simp
     | _ => simp [bytesOf] at h
   | _ => simp [bytesOf] at h
theorem optIdx_inv {β : Type} {r : β} {v : Option AV} {d : Nat} {K : Nat → Option β} (h : optIdx v d K = some r) : ∃ n, K n = some r ∧ ((v = none ∧ n = d) ∨ ∃ k i, v = some (.int k i) ∧ 0 ≤ i ∧ n = i.toNat) := by
 unfold optIdx at h
 split at h
 ·exact ⟨d, h, .inl ⟨rfl, rfl⟩⟩
 ·rename_i x
  obtain ⟨k, i, rfl, hi, hK⟩ := idx_inv h
  exact ⟨_, hK, .inr ⟨k, i, rfl, hi, rfl⟩⟩
theorem sl_nil_vr {j : J} {l : Nat} {c : Cap} {v : Value} (h : VR j (.sl none l c) v) : l = 0 ∧ c = .ex 0 ∧ v = .slice none 0 0 := by
 simpa only [VR] using h
section
variable {E : Env} {P : Program} (hE : EnvOk E P) {w0 w : World} {j : J} {S : AS} (hR : R w0 j S w) {β : Type} {r : β}
include hE hR
theorem evConv_sound {src dst : TypeId} {x : AV} {u : Value} (hx : VR j x u) {K : AV → Option β} (h : evConv E S src dst x K = some r) :
 ∃ av o, K av = some r ∧ VR j av o ∧ (convert src dst u).run P w = .ok o w := by
 unfold evConv at h
 split at h
 case h_2 => cases h
 rename_i ts td hs hd
 split at h
 ·rename_i k hk
  split at h
  case h_2 => cases h
  rename_i k' n
  simp only [VR] at hx; subst hx
  obtain ⟨d, hd1, _⟩ : ∃ d, (underlying src).run P w = .ok d w ∧ True := by
   have := hE.und hs
   unfold underlying
   cases hc : P.underlying src with
   | none => rw [hc] at this; cases hk' : ts.k <;> simp [hk', kOk] at this
   | some d => exact ⟨d, by simp [hc], trivial⟩
  refine ⟨_, _, h, vr_int _ _ _, ?_⟩
  simp only [convert, Sem.run_bind, hd1, Result.andThen_ok, hE.uInt hd hk w]
  simp [Conv.intToInt]
 ·rename_i hk
  obtain ⟨d, hd1, _⟩ : ∃ d, (underlying src).run P w = .ok d w ∧ True := by
   have := hE.und hs
   unfold underlying
   cases hc : P.underlying src with
   | none => rw [hc] at this; cases hk' : ts.k <;> simp [hk', kOk] at this
   | some d => exact ⟨d, by simp [hc], trivial⟩
  split at h
  ·rename_i s
   simp only [VR] at hx; subst hx
   refine ⟨_, _, h, vr_str _ _, ?_⟩
   simp only [convert, Sem.run_bind, hd1, Result.andThen_ok, hE.uStr hd hk w]
   simp
  ·rename_i a len cap
   split at h
   case h_2 => cases h
   rename_i e hke
   split at h
   case h_2 => cases h
   rename_i te hte
   split at h
   case h_2 => cases h
   rename_i hku
   have hconv : ∀ (a' : Option Addr) (l c : Nat), (convert src dst (.slice a' l c)).run P w = (Conv.bytesToString (.slice a' l c)).run P w := by
    intro a' l c
    simp only [convert, Sem.run_bind, hE.uSl hs hke w, Result.andThen_ok, hE.uStr hd hk w, hE.uInt hte hku w]
   split at h
   ·simp only [VR] at hx
    obtain ⟨rfl, _, rfl⟩ := hx
    refine ⟨_, _, h, vr_str _ _, ?_⟩
    rw [hconv]
    simp [Conv.bytesToString]
    rfl
   ·rename_i p
    obtain ⟨pb, pi⟩ := p
    simp only [VR] at hx
    obtain ⟨y, o, c', hy, rfl, hlc, _, ho, _⟩ := hx
    obtain ⟨x, l, us, hx1, hK, hl, hul, hc, hv, hone⟩ := hR.ldn h
    rw [hy] at hx1; cases hx1
    split at hK
    case h_2 => cases hK
    rename_i s hs'
    refine ⟨_, _, hK, vr_str _ _, ?_⟩
    rw [hconv]
    have hload : (loadCells o len).run P w = .ok us.toArray w := by
     rcases ho with h0 | h0
     ·have hz : len = 0 := by omega
      have hu0 : us = [] := List.length_eq_zero_iff.1 (by omega)
      subst hz hu0
      simp [loadCells, loadCellsFrom]
     ·subst h0
      exact run_loadCells P w _ _ _ us hul hc
    simp only [Conv.bytesToString, Sem.run_bind, hload, Result.andThen_ok]
    have := b2s_loop (P := P) (w := w) hs' hv ByteArray.empty
    simp only [List.forIn_toArray]
    exact (congrArg (fun q => Result.andThen q (fun (a : ByteArray) w' => Sem.run P (pure (Value.string a)) w')) this).trans (by simp)
  ·cases h
 ·cases h
omit hE hR in
theorem run_sliceBound {k : IntKind} {i : Int} {y : Nat} (code : BoundsCode) (h0 : 0 ≤ i) (h1 : i.toNat ≤ y) : (Instr.sliceBound (.int k i) y code).run P w = .ok i.toNat w := by
 simp only [Instr.sliceBound, asIntOf, Sem.run_bind, Sem.run_pure, Result.andThen_ok]
 rw [if_pos ⟨h0, by omega⟩]; rfl
omit hE hR in
theorem run_sliceBounds {isSlice : Bool} {len cap m h' l : Nat} {lo hi mx : Option AV} {lo' hi' mx' : Option Value}
 (hm : (mx = none ∧ m = cap) ∨ ∃ k i, mx = some (.int k i) ∧ 0 ≤ i ∧ m = i.toNat) (hmc : m ≤ cap)
 (hh : (hi = none ∧ h' = len) ∨ ∃ k i, hi = some (.int k i) ∧ 0 ≤ i ∧ h' = i.toNat) (hhm : h' ≤ m)
 (hl : (lo = none ∧ l = 0) ∨ ∃ k i, lo = some (.int k i) ∧ 0 ≤ i ∧ l = i.toNat) (hlh : l ≤ h') (hhi : mx = none ∨ hi ≠ none)
 (rm : ∀ k i, mx = some (.int k i) → mx' = some (.int k i)) (rmn : mx = none → mx' = none) (rh : ∀ k i, hi = some (.int k i) → hi' = some (.int k i)) (rhn : hi = none → hi' = none) (rl : ∀ k i, lo = some (.int k i) → lo' = some (.int k i)) (rln : lo = none → lo' = none) :
 (Instr.sliceBounds isSlice len cap lo' hi' mx').run P w = .ok (l, h', m) w := by
 unfold Instr.sliceBounds
 rcases hm with ⟨rfl, rfl⟩ | ⟨k1, i1, rfl, h1, rfl⟩
 ·rw [rmn rfl]
  rcases hh with ⟨rfl, rfl⟩ | ⟨k2, i2, rfl, h2, rfl⟩
  ·rw [rhn rfl]
   rcases hl with ⟨rfl, rfl⟩ | ⟨k3, i3, rfl, h3, rfl⟩
   ·rw [rln rfl]; simp
   ·rw [rl _ _ rfl]; simp [run_sliceBound _ h3 hlh]
  ·rw [rh _ _ rfl]
   rcases hl with ⟨rfl, rfl⟩ | ⟨k3, i3, rfl, h3, rfl⟩
   ·rw [rln rfl]; simp [run_sliceBound _ h2 hhm]
   ·rw [rl _ _ rfl]; simp [run_sliceBound _ h2 hhm, run_sliceBound _ h3 hlh]
 ·rw [rm _ _ rfl]
  rcases hh with ⟨rfl, rfl⟩ | ⟨k2, i2, rfl, h2, rfl⟩
  ·rcases hhi with hhi | hhi
   ·cases hhi
   ·exact absurd rfl hhi
  ·rw [rh _ _ rfl]
   rcases hl with ⟨rfl, rfl⟩ | ⟨k3, i3, rfl, h3, rfl⟩
   ·rw [rln rfl]; simp [run_sliceBound _ h1 hmc, run_sliceBound _ h2 hhm]
   ·rw [rl _ _ rfl]; simp [run_sliceBound _ h1 hmc, run_sliceBound _ h2 hhm, run_sliceBound _ h3 hlh]
def OptR (j : J) : Option AV → Option Value → Prop
 | none, none => True
 | some x, some v => VR j x v
 | _, _ => False
omit hE hR in
theorem OptR.int {a : Option AV} {b : Option Value} (h : OptR j a b) : (∀ k i, a = some (.int k i) → b = some (.int k i)) ∧ (a = none → b = none) := by
 cases a <;> cases b <;> simp only [OptR] at h
 ·exact ⟨by simp, fun _ => rfl⟩
 ·refine ⟨fun k i he => ?_, by simp⟩
  cases he
  simp only [VR] at h
  rw [h]
theorem evSlice_sound {t : TypeId} {x : AV} {u : Value} {lo hi mx : Option AV} {lo' hi' mx' : Option Value} (hx : VR j x u) (hlo : OptR j lo lo') (hhi : OptR j hi hi') (hmx : OptR j mx mx') (hhm : mx = none ∨ hi ≠ none) {K : AV → Option β} (h : evSlice E S t x lo hi mx K = some r) :
 ∃ av o, K av = some r ∧ VR j av o ∧ (Instr.sliceAt t u lo' hi' mx').run P w = .ok o w := by
 obtain ⟨rl, rln⟩ := hlo.int
 obtain ⟨rh, rhn⟩ := hhi.int
 obtain ⟨rm, rmn⟩ := hmx.int
 unfold evSlice at h
 split at h
 ·cases h
 rename_i ti ht
 split at h
 ·rename_i n e hk
  replace h := gA_inv h
  obtain ⟨b, i, rfl, h⟩ := h
  replace h := sizeT_inv h
  obtain ⟨te, hte, h⟩ := h
  obtain ⟨m, h, hm⟩ := optIdx_inv h
  replace h := ite_inv h
  obtain ⟨hmn, h⟩ := h
  obtain ⟨hh, h, hhv⟩ := optIdx_inv h
  replace h := ite_inv h
  obtain ⟨hhm', h⟩ := h
  obtain ⟨l, h, hlv⟩ := optIdx_inv h
  replace h := ite_inv h
  obtain ⟨hlh, h⟩ := h
  simp only [VR] at hx
  obtain ⟨y, hy, rfl⟩ := hx
  have hb := run_sliceBounds (P := P) (w := w) (isSlice := false) (len := n) (cap := n) hm hmn hhv hhm' hlv hlh hhm rm rmn rh rhn rl rln
  refine ⟨_, .slice (some (if m = l then ⟨y.c, y.off + i, none⟩ else Addr.add ⟨y.c, y.off + i, none⟩ (l * te.size))) (hh - l) (m - l), h, ?_, ?_⟩
  rotate_left
  ·simp only [Instr.sliceAt, Sem.run_bind, hE.uArr ht hk w, Result.andThen_ok, Instr.sureAddr, Sem.run_pure, hb, hE.size hte w]
  ·split
   ·rename_i he
    simp only [VR]
    exact ⟨y, _, _, hy, rfl, by omega, by intro z hz; cases hz; rfl, .inl (by omega), by intro z m hz; cases hz⟩
   ·rename_i he
    simp only [VR]
    refine ⟨y, ⟨y.c, y.off + i + l * te.size, none⟩, m - l, hy, ?_, by omega, by intro z hz; cases hz; rfl, .inr (by rw [Nat.add_assoc]), by intro z m hz; cases hz⟩
    congr 2
    unfold Addr.add; split <;> simp_all
 ·rename_i hk
  split at h
  case h_2 => cases h
  replace h := gS_inv h
  obtain ⟨s, rfl, h⟩ := h
  obtain ⟨hh, h, hhv⟩ := optIdx_inv h
  replace h := ite_inv h
  obtain ⟨hhm', h⟩ := h
  obtain ⟨l, h, hlv⟩ := optIdx_inv h
  replace h := ite_inv h
  obtain ⟨hlh, h⟩ := h
  simp only [VR] at hx; subst hx
  have hb := run_sliceBounds (P := P) (w := w) (isSlice := false) (len := s.length) (cap := s.length) (mx := none) (mx' := none) (.inl ⟨rfl, rfl⟩) (Nat.le_refl _) hhv hhm' hlv hlh (.inl rfl) (by simp) (by simp) rh rhn rl rln
  refine ⟨_, _, h, vr_str _ _, ?_⟩
  have hu := hE.uStr ht hk w
  rw [rmn rfl]
  simp only [Instr.sliceAt, Instr.slice, Sem.run_bind, hu, Result.andThen_ok, Option.isSome_none, Bool.false_eq_true, if_false, str_size, hb, Sem.run_pure]
  congr 2
  apply ByteArray.ext
  rw [ByteArray.data_extract]
  apply Array.toList_inj.1
  simp [List.extract_eq_take_drop]
 ·rename_i e hk
  replace h := gL_inv h
  obtain ⟨a, len, cap, rfl, h⟩ := h
  replace h := sizeT_inv h
  obtain ⟨te, hte, h⟩ := h
  have hu := hE.uSl ht hk w
  split at h
  ·rename_i c
   obtain ⟨m, h, hm⟩ := optIdx_inv h
   replace h := ite_inv h
   obtain ⟨hmn, h⟩ := h
   obtain ⟨hh, h, hhv⟩ := optIdx_inv h
   replace h := ite_inv h
   obtain ⟨hhm', h⟩ := h
   obtain ⟨l, h, hlv⟩ := optIdx_inv h
   replace h := ite_inv h
   obtain ⟨hlh, h⟩ := h
   have hb := run_sliceBounds (P := P) (w := w) (isSlice := true) (len := len) (cap := c) hm hmn hhv hhm' hlv hlh hhm rm rmn rh rhn rl rln
   cases a with
   | none =>
     have hfin := h
     obtain ⟨rfl, hc, rfl⟩ := sl_nil_vr hx
     cases hc
     refine ⟨_, .slice (if m = l then none else (none : Option Addr).map (·.add (l * te.size))) (hh - l) (m - l), hfin, ?_, ?_⟩
     rotate_left
     ·simp only [Instr.sliceAt, Sem.run_bind, hu, Result.andThen_ok, Instr.slice, hb, hE.size hte w]
      rfl
     ·have h1 : m = 0 := by omega
      have h2 : l = 0 := by omega
      have h3 : hh = 0 := by omega
      subst h1 h2 h3
      simp [VR]
   | some p =>
     obtain ⟨pb, pi⟩ := p
     simp only [VR] at hx
     obtain ⟨y, o, c', hy, rfl, hlc, hcap, ho, hcn⟩ := hx
     have hcc := hcap c rfl
     have hfin := h
     subst hcc
     refine ⟨_, .slice (if m = l then some o else (some (o : Addr)).map (·.add (l * te.size))) (hh - l) (m - l), hfin, ?_, ?_⟩
     rotate_left
     ·simp only [Instr.sliceAt, Sem.run_bind, hu, Result.andThen_ok, Instr.slice, hb, hE.size hte w]
      rfl
     ·split
      ·rename_i he
       simp only [VR]
       exact ⟨y, _, _, hy, rfl, by omega, by intro z hz; cases hz; rfl, .inl (by omega), by intro z m hz; cases hz⟩
      ·rename_i he
       simp only [Option.map_some, VR]
       rcases ho with h0 | rfl
       ·omega
       refine ⟨y, ⟨y.c, y.off + pi + l * te.size, none⟩, m - l, hy, ?_, by omega, by intro z hz; cases hz; rfl, .inr (by rw [Nat.add_assoc]), by intro z m hz; cases hz⟩
       congr 2
       unfold Addr.add; split <;> simp_all
  ·rename_i ez
   replace h := ite_inv h
   obtain ⟨hez, h⟩ := h
   subst hez
   cases a with
   | none => obtain ⟨_, hc, _⟩ := sl_nil_vr hx; cases hc
   | some p =>
   obtain ⟨pb, pi⟩ := p
   simp only [VR] at hx
   obtain ⟨y, o, c', hy, rfl, hlc, hcap, ho, hcn⟩ := hx
   obtain ⟨hcn', hlo'⟩ := hcn _ _ rfl
   split at h
   ·replace h := optIdx_inv h
    obtain ⟨hh, h, hhv⟩ := h
    replace h := ite_inv h
    obtain ⟨hhm', h⟩ := h
    replace h := optIdx_inv h
    obtain ⟨l, h, hlv⟩ := h
    replace h := ite_inv h
    obtain ⟨hlh, h⟩ := h
    have hb := run_sliceBounds (P := P) (w := w) (isSlice := true) (len := len) (cap := c') (mx := none) (mx' := mx') (m := c') (.inl ⟨rfl, rfl⟩) (Nat.le_refl _) hhv (by omega) hlv hlh (.inl rfl) (by simp) rmn rh rhn rl rln
    refine ⟨_, .slice (if c' = l then some o else (some (o : Addr)).map (·.add (l * te.size))) (hh - l) (c' - l), h, ?_, ?_⟩
    rotate_left
    ·simp only [Instr.sliceAt, Sem.run_bind, hu, Result.andThen_ok, Instr.slice, hb, hE.size hte w]
     rfl
    ·have hhc : hh ≤ c' := by omega
     have hm : (pi + l * te.size) + (c' - l) * te.size = pi + c' * te.size := by
      rw [Nat.add_assoc, ← Nat.add_mul]; congr 2; omega
     split
     ·rename_i he
      simp only [Option.map_some, VR]
      exact ⟨y, _, _, hy, rfl, by omega, (fun z hz => by cases hz), .inl (by omega), by intro z m hz; cases hz; exact ⟨by omega, by omega⟩⟩
     ·rename_i he
      simp only [Option.map_some, VR]
      rcases ho with h0 | rfl
      ·omega
      have hm'' : y.off + (pi + l * te.size) + (c' - l) * te.size = y.off + pi + c' * te.size := by omega
      refine ⟨y, ⟨y.c, y.off + pi + l * te.size, none⟩, c' - l, hy, ?_, Nat.sub_le_sub_right hhc l, (fun z hz => by cases hz), .inr (by rw [Nat.add_assoc]), by intro z m hz; cases hz; exact ⟨by rw [hm'']; exact hcn', Nat.sub_le_sub_right hlo' l⟩⟩
      congr 2
      unfold Addr.add; split <;> simp_all
   ·rename_i mv
    replace h := idx_inv h
    obtain ⟨km, im, rfl, hm0, h⟩ := h
    replace h := ite_inv h
    obtain ⟨hml, h⟩ := h
    replace h := optIdx_inv h
    obtain ⟨hh, h, hhv⟩ := h
    replace h := ite_inv h
    obtain ⟨hhm', h⟩ := h
    replace h := optIdx_inv h
    obtain ⟨l, h, hlv⟩ := h
    replace h := ite_inv h
    obtain ⟨hlh, h⟩ := h
    have hb := run_sliceBounds (P := P) (w := w) (isSlice := true) (len := len) (cap := c') (m := im.toNat) (.inr ⟨km, im, rfl, hm0, rfl⟩) (by omega) hhv hhm' hlv hlh hhm rm rmn rh rhn rl rln
    refine ⟨_, .slice (if im.toNat = l then some o else (some (o : Addr)).map (·.add (l * te.size))) (hh - l) (im.toNat - l), h, ?_, ?_⟩
    rotate_left
    ·simp only [Instr.sliceAt, Sem.run_bind, hu, Result.andThen_ok, Instr.slice, hb, hE.size hte w]
     rfl
    ·split
     ·rename_i he
      simp only [VR]
      exact ⟨y, _, _, hy, rfl, by omega, by intro z hz; cases hz; rfl, .inl (by omega), by intro z m hz; cases hz⟩
     ·rename_i he
      simp only [Option.map_some, VR]
      rcases ho with h0 | rfl
      ·omega
      refine ⟨y, ⟨y.c, y.off + pi + l * te.size, none⟩, im.toNat - l, hy, ?_, by omega, by intro z hz; cases hz; rfl, .inr (by rw [Nat.add_assoc]), by intro z m hz; cases hz⟩
      congr 2
      unfold Addr.add; split <;> simp_all
 ·cases h
end
end Go.Gr
