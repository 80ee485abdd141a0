/- A law's arguments: the world in which it is called, as a state in which all is only read. -/
import Derived.Test.YtcepfilbiahdjaaGrSep
import Derived.ChangeArms
import Derived.DataReads
set_option linter.unusedVariables false
set_option linter.unusedSimpArgs false
set_option linter.unusedSectionVars false
namespace Go.Gr
def osz : Obj → Nat
 | .cells C _ _ => C.size
 | _ => 0
theorem osz_le : ∀ (l : List Obj) (o : Obj), o ∈ l → osz o ≤ (l.map osz).sum
 | [], o, h => by cases h
 | x :: l, o, h => by
   rcases List.mem_cons.1 h with rfl | h
   ·simp
   ·have := osz_le l o h; simp; omega
section
variable (w : World)
def cellsAt (b : Nat) : Option (Array Value) := match w.heap[b]? with
 | some (.cells C _ _) => some C
 | _ => none
def wK : Nat := (w.heap.toList.map osz).sum + 1
theorem cellsAt_some {b : Nat} {C : Array Value} (h : cellsAt w b = some C) : ∃ e fr, w.heap[b]? = some (.cells C e fr) := by
 unfold cellsAt at h
 split at h
 ·rename_i C' e fr he; cases h; exact ⟨e, fr, he⟩
 ·cases h
theorem cellsAt_lt {b : Nat} {C : Array Value} (h : cellsAt w b = some C) : C.size < wK w := by
 obtain ⟨e, fr, he⟩ := cellsAt_some w h
 have hm : Obj.cells C e fr ∈ w.heap.toList := by
  rw [Array.mem_toList_iff]; exact Array.mem_of_getElem? he
 have := osz_le _ _ hm
 simp only [osz] at this
 unfold wK; omega
def rdV (N0 : Nat) : Value → AV
 | .int k n => .int k n
 | .bool b => .bool b
 | .string s => .str s.data.toList
 | .slice none l c => if l = 0 ∧ c = 0 then .sl none 0 (.ex 0) else .undef
 | .slice (some A) l c => if c = 0 then (if l = 0 then .sl (some (.ro N0, 0)) 0 (.ex 0) else .undef) else
  if A.off < wK w ∧ A.spot = none ∧ l ≤ c then .sl (some (.ro (2 * (A.block * wK w + A.off)), 0)) l (.ex c) else .undef
 | _ => .undef
def win (N0 b o : Nat) : Option (List AV) := match cellsAt w b with
 | some C => if o ≤ C.size then some (((C.toList.drop o).takeWhile Value.oneCell').map (rdV w N0)) else none
 | none => none
def spB (n : Nat) : Nat := if n % 2 = 1 then n / 2 else n / 2 / wK w
def spO (n : Nat) : Nat := if n % 2 = 1 then 0 else n / 2 % wK w
def Sw (N0 : Nat) : AS := { rw := .nil, ro := fun n => win w N0 (spB w n) (spO w n), next := 0, loops := [] }
def Xw (N0 : Nat) : Cx := ⟨(Sw w N0).ro, []⟩
def jw : J
 | .ro n => some ⟨spB w n, spO w n, match cellsAt w (spB w n) with | some C => C.size | none => 0⟩
 | .rw _ => none
theorem code_div {b o : Nat} (h : o < wK w) : spB w (2 * (b * wK w + o)) = b := by
 have : 0 < wK w := by unfold wK; omega
 rw [spB, if_neg (by omega), Nat.mul_div_cancel_left _ (by decide : 0 < 2), Nat.add_comm, Nat.add_mul_div_right _ _ this, Nat.div_eq_of_lt h, Nat.zero_add]
theorem code_mod {b o : Nat} (h : o < wK w) : spO w (2 * (b * wK w + o)) = o := by
 rw [spO, if_neg (by omega), Nat.mul_div_cancel_left _ (by decide : 0 < 2), Nat.add_comm, Nat.add_mul_mod_self_right, Nat.mod_eq_of_lt h]
theorem vr_slice (N0 : Nat) (A : Addr) (l c : Nat) (hA : A.off < wK w) (hs : A.spot = none) (hl : l ≤ c) : VR (jw w) (.sl (some (.ro (2 * (A.block * wK w + A.off)), 0)) l (.ex c)) (.slice (some A) l c) := by
 simp only [VR]
 refine ⟨_, A, c, rfl, rfl, hl, fun y hy => by cases hy; rfl, .inr ?_, fun z m hz => by cases hz⟩
 obtain ⟨b, o, s⟩ := A
 simp only at hA hs
 subst hs
 simp only [code_div w hA, code_mod w hA, Nat.add_zero]
theorem vr_none (N0 : Nat) (A : Addr) : VR (jw w) (.sl (some (.ro N0, 0)) 0 (.ex 0)) (.slice (some A) 0 0) := by
 simp only [VR]
 exact ⟨_, A, 0, rfl, rfl, Nat.le_refl _, fun y hy => by cases hy; rfl, .inl rfl, fun z m hz => by cases hz⟩
theorem vr_cv1 (N0 : Nat) : ∀ (v : Value), Value.oneCell' v = true → VR (jw w) (rdV w N0 v) v := by
 intro v hv
 cases v with
 | int k n => simp [rdV, VR]
 | bool b => simp [rdV, VR]
 | string s => simp [rdV, VR]
 | slice A l c =>
   cases A with
   | none =>
     simp only [rdV]
     split
     ·rename_i h; obtain ⟨rfl, rfl⟩ := h; simp [VR]
     ·simp [VR]
   | some A =>
     simp only [rdV]
     split
     ·rename_i hc; subst hc
      split
      ·rename_i hl; subst hl; exact vr_none w N0 A
      ·simp [VR]
     ·split
      ·rename_i h; exact vr_slice w N0 A l c h.1 h.2.1 h.2.2
      ·simp [VR]
 | agg cs => simp [Value.oneCell'] at hv
 | _ => simp [rdV, VR]
theorem vrs_cv (N0 : Nat) : ∀ (vs : List Value), (∀ v ∈ vs, Value.oneCell' v = true) → VRs (jw w) (vs.map (rdV w N0)) vs
 | [], _ => by simp [VRs]
 | v :: vs, h => by
   simp only [List.map_cons, VRs]
   exact ⟨v, vs, rfl, vr_cv1 w N0 v (h v (by simp)), vrs_cv N0 vs fun u hu => h u (by simp [hu])⟩
theorem vr_agg (N0 : Nat) (cs : Array Value) (h : ∀ v ∈ cs.toList, Value.oneCell' v = true) : VR (jw w) (.agg (cs.toList.map (rdV w N0))) (.agg cs) := by
 simp only [VR]
 exact ⟨cs, rfl, vrs_cv w N0 _ h, h⟩
theorem takeWhile_all {α : Type} (p : α → Bool) : ∀ (l : List α), ∀ u ∈ l.takeWhile p, p u = true
 | [], u, h => by cases h
 | x :: l, u, h => by
   simp only [List.takeWhile_cons] at h
   split at h
   ·rename_i hx
    rcases List.mem_cons.1 h with rfl | h
    ·exact hx
    ·exact takeWhile_all p l u h
   ·cases h
theorem takeWhile_get {α : Type} (p : α → Bool) : ∀ (l : List α) (i : Nat) (u : α), (l.takeWhile p)[i]? = some u → l[i]? = some u
 | [], i, u, h => by simp at h
 | x :: l, i, u, h => by
   simp only [List.takeWhile_cons] at h
   split at h
   ·cases i with
    | zero => simpa using h
    | succ i => simpa using takeWhile_get p l i u (by simpa using h)
   ·simp at h
theorem takeWhile_take {α : Type} (p : α → Bool) : ∀ (l : List α) (m : Nat), m ≤ l.length → (∀ u ∈ l.take m, p u = true) → m ≤ (l.takeWhile p).length ∧ (l.takeWhile p).take m = l.take m
 | l, 0, _, _ => by simp
 | [], m + 1, h, _ => by simp at h
 | x :: l, m + 1, h, k => by
   have hx : p x = true := k x (by simp)
   have := takeWhile_take p l m (by simpa using h) (fun u hu => k u (by simp [hu]))
   simp only [List.takeWhile_cons, hx, if_true, List.length_cons, List.take_succ_cons, this.2]
   exact ⟨by omega, trivial⟩
theorem R_w (N0 : Nat) : R w (jw w) (Sw w N0) w := by
 refine ⟨Nat.le_refl _, fun _ _ => rfl, fun n o h => ?_, fun n cs h => ?_, fun L hL => ?_, fun n m x y hn => ?_, fun _ _ => rfl, ?_, ⟨rfl, rfl, rfl⟩, fun g => ?_⟩
 ·simp [Sw, Tr.get, Tr.getP, vwO] at h
 ·simp only [Sw, win] at h
  split at h
  case h_2 => cases h
  rename_i C hC
  split at h
  case isFalse => cases h
  rename_i ho
  cases h
  obtain ⟨e, fr, he⟩ := cellsAt_some w hC
  refine ⟨_, rfl, (Array.getElem?_eq_some_iff.1 he).1, C, e, fr, he, by simp [hC], ?_, fun i v hv => ?_⟩
  ·simp only [hC, List.length_map]
   have := (List.takeWhile_prefix (l := C.toList.drop (spO w n)) Value.oneCell').length_le
   simp at this; omega
  ·rw [List.getElem?_map] at hv
   cases hu : ((C.toList.drop (spO w n)).takeWhile Value.oneCell')[i]? with
   | none => rw [hu] at hv; cases hv
   | some u =>
     rw [hu] at hv
     cases hv
     have h1 := takeWhile_get _ _ _ _ hu
     have h2 := takeWhile_all _ _ u (List.mem_of_getElem? hu)
     refine ⟨u, ?_, vr_cv1 w N0 u h2, h2⟩
     rw [List.getElem?_drop] at h1
     simpa using h1
 ·simp [Sw] at hL
 ·rcases hn with ⟨o, h⟩ | ⟨L, hL, _⟩
  ·simp [Sw, Tr.get, Tr.getP, vwO] at h
  ·simp [Sw] at hL
 ·simp [Sw]
 ·refine ⟨_, rfl, ?_, ?_⟩
  ·show spB w (2 * g + 1) = g
   rw [spB, if_pos (by omega)]; omega
  ·show spO w (2 * g + 1) = 0
   rw [spO, if_pos (by omega)]
theorem Hp_w (N0 : Nat) : Hp (Xw w N0) (Sw w N0) [] := ⟨rfl, rfl, by simp, by simp, by simp⟩
def Room (N0 : Nat) : Prop := ∃ c, (Sw w N0).ro N0 = some c
theorem room_of {b : Nat} {C : Array Value} (h : cellsAt w b = some C) : Room w (2 * (b * wK w + 0)) := by
 have hK : 0 < wK w := by unfold wK; omega
 refine ⟨((C.toList.drop 0).takeWhile Value.oneCell').map (rdV w (2 * (b * wK w + 0))), ?_⟩
 simp only [Sw, win, code_div w hK, code_mod w hK, h, Nat.zero_le, if_true]
theorem cell?_some {a : Addr} {v : Value} (h : w.cell? a = some v) : ∃ C, cellsAt w a.block = some C ∧ a.spot = none ∧ C[a.off]? = some v := by
 unfold World.cell? at h
 split at h
 ·rename_i C e fr he
  split at h
  ·cases h
  ·rename_i hs
   exact ⟨C, by simp [cellsAt, he], by simpa using hs, h⟩
 ·cases h
def dsOf {H : Type} : DataW H → List (DataW H)
 | .slice e _ => e
 | _ => []
variable {H : Type} {enc : TypeId × Value → H} {P : Program}
theorem flat_rows {α : Type} (L : List α) (n : Nat) : ∀ m, m * n ≤ L.length → ((List.range m).map fun i => (L.drop (i * n)).take n).flatten = L.take (m * n)
 | 0, _ => by simp
 | m + 1, h => by
   rw [Nat.succ_mul] at h
   rw [List.range_succ, List.map_append, List.flatten_append, flat_rows L n m (by omega), Nat.succ_mul, List.take_add]
   simp
theorem rd_slice {N0 : Nat} (hN : Room w N0) {t e : TypeId} {n fuel : Nat} {v : Value} {x : DataW H × List MemPlace} (ht : P.underlying t = some (.slice e)) (hn : P.cellsOf e = n) (h0 : 0 < n)
 (hone : ∀ (fuel : Nat) (cs : List Value) (y : DataW H × List MemPlace), DataW.trod enc P w 0 (fun _ => true) true fuel e cs = some y → ∀ u ∈ cs, Value.oneCell' u = true)
 (h : DataW.trod enc P w 0 (fun _ => true) true fuel t [v] = some x) :
 ∃ (a : OP) (c : Cap) (rows : List (List Value)), rdV w N0 v = .sl a rows.length c ∧ Value.oneCell' v = true ∧ RdR (Xw w N0) [] a (rows.map (List.map (rdV w N0))).flatten ∧ (dsOf x.1).length = rows.length ∧
   ((∃ e s, x.1 = .slice e s) ∨ rows = []) ∧
   ∀ (i : Nat) (r : List Value), rows[i]? = some r → r.length = n ∧ ∃ m y, (dsOf x.1)[i]? = some y.1 ∧ DataW.trod enc P w 0 (fun _ => true) true m e r = some y := by
 rcases DataW.trod_slice ht h with ⟨h1, h2⟩ | ⟨A, len, cap, elems, rest, m, _, h1, rfl, _, hlc, _, hel, hE, hS, _⟩
 ·cases h1
  subst h2
  exact ⟨none, .ex 0, [], by simp [rdV], rfl, .nil, rfl, .inr rfl, fun i r hr => by simp at hr⟩
 ·cases h1
  by_cases hc0 : cap = 0
  ·subst hc0
   have : len = 0 := by omega
   subst this
   obtain ⟨c, hc⟩ := hN
   have he0 : elems = [] := List.length_eq_zero_iff.1 hel
   subst he0
   exact ⟨_, _, [], by simp [rdV]; exact ⟨rfl, rfl⟩, rfl, .ro (c := c) hc (by simp) (by simp), by simp [dsOf], .inr rfl, fun i r hr => by simp at hr⟩
  · -- every row that there is room for
    have hrow : ∀ i, i < cap → ∃ cs', w.cells? 0 (A.add (i * n)) n = some cs' := by
     intro i hi
     by_cases hl : i < len
     ·have := hE i hl
      rw [hn, List.getElem?_eq_getElem (by omega)] at this
      obtain ⟨cs', h1, _⟩ := Option.bind_eq_some_iff.1 this
      exact ⟨cs', h1⟩
     ·obtain ⟨hr, hh⟩ := hS rfl
      have := hh (i - len) (by omega)
      rw [hn, show len + (i - len) = i by omega, List.getElem?_eq_getElem (by omega)] at this
      obtain ⟨cs', h1, _⟩ := Option.bind_eq_some_iff.1 this
      exact ⟨cs', h1⟩
    obtain ⟨C, hC, hsp, hoff⟩ : ∃ C, cellsAt w A.block = some C ∧ A.spot = none ∧ A.off < C.size := by
     obtain ⟨cs', h1⟩ := hrow 0 (by omega)
     obtain ⟨_, hlen, hcell⟩ := World.cells?_some h1
     have h2 := hcell 0 h0
     rw [List.getElem?_eq_getElem (by omega)] at h2
     obtain ⟨C, q1, q2, q3⟩ := cell?_some w h2
     simp [Addr.add] at q1 q2 q3
     exact ⟨C, q1, q2, (Array.getElem?_eq_some_iff.1 q3).1⟩
    obtain ⟨b, o, sp⟩ := A
    simp only at hsp hoff hC
    subst hsp
    have hK := cellsAt_lt w hC
    have hadd : ∀ k i, ((⟨b, o, none⟩ : Addr).add k).add i = ⟨b, o + k + i, none⟩ := by
     intro k i
     unfold Addr.add
     split <;> split <;> simp_all [Nat.add_assoc]
    have hcell : ∀ i, w.cell? ⟨b, i, none⟩ = C[i]? := by
     intro i
     obtain ⟨e', fr, he⟩ := cellsAt_some w hC
     simp [World.cell?, he]
    have hcs : ∀ i cs', w.cells? 0 ((⟨b, o, none⟩ : Addr).add (i * n)) n = some cs' → cs' = ((C.toList.drop o).drop (i * n)).take n ∧ i * n + n ≤ (C.toList.drop o).length := by
     intro i cs' h1
     obtain ⟨_, hlen, hc⟩ := World.cells?_some h1
     have hget : ∀ k, k < n → C[o + i * n + k]? = cs'[k]? := fun k hk => by rw [← hc k hk, hadd, hcell]
     refine ⟨?_, ?_⟩
     ·apply List.ext_getElem?
      intro k
      by_cases hk : k < n
      ·rw [List.getElem?_take_of_lt hk, List.getElem?_drop, List.getElem?_drop, ← hget k hk]
       simp [Nat.add_assoc]
      ·rw [List.getElem?_eq_none (by omega), List.getElem?_eq_none (by simp; omega)]
     ·have := hget (n - 1) (by omega)
      rw [List.getElem?_eq_getElem (show n - 1 < cs'.length by omega)] at this
      have := (Array.getElem?_eq_some_iff.1 this).1
      simp; omega
    let L := C.toList.drop o
    have hlast : len * n ≤ L.length := by
     cases len with
     | zero => simp
     | succ k =>
       obtain ⟨cs', h1⟩ := hrow k (by omega)
       have := (hcs k cs' h1).2
       rw [Nat.succ_mul]; exact this
    have hel' : ∀ i, i < len → ∃ y, elems[i]? = some y ∧ DataW.trod enc P w 0 (fun _ => true) true m e ((L.drop (i * n)).take n) = some y := by
     intro i hi
     have := hE i hi
     rw [hn, List.getElem?_eq_getElem (by omega)] at this
     obtain ⟨cs', h1, h2⟩ := Option.bind_eq_some_iff.1 this
     have := (hcs i cs' h1).1
     subst this
     exact ⟨_, List.getElem?_eq_getElem (by omega), h2⟩
    let rows := (List.range len).map fun i => (L.drop (i * n)).take n
    have hrl : rows.length = len := by simp [rows]
    have hflat : (rows.map (List.map (rdV w N0))).flatten = (L.take (len * n)).map (rdV w N0) := by
     rw [← List.map_flatten, flat_rows L n len hlast]
    have hall : ∀ u ∈ L.take (len * n), Value.oneCell' u = true := by
     intro u hu
     rw [← flat_rows L n len hlast] at hu
     obtain ⟨r, hr, hur⟩ := List.mem_flatten.1 hu
     obtain ⟨i, hi, rfl⟩ := List.mem_map.1 hr
     obtain ⟨y, _, hy⟩ := hel' i (List.mem_range.1 hi)
     exact hone _ _ _ hy u hur
    obtain ⟨htw1, htw2⟩ := takeWhile_take Value.oneCell' L (len * n) hlast hall
    have hlen : ((L.take (len * n)).map (rdV w N0)).length = len * n := by simp; omega
    refine ⟨some (.ro (2 * (b * wK w + o)), 0), .ex cap, rows, ?_, rfl, ?_, ?_, .inl ⟨_, _, rfl⟩, ?_⟩
    ·simp only [rdV, hc0, if_false, hrl]
     rw [if_pos ⟨by omega, trivial, hlc⟩]
    ·rw [hflat]
     refine .ro (c := (L.takeWhile Value.oneCell').map (rdV w N0)) ?_ ?_ ?_
     ·simp only [Xw, Sw, win, code_div w (show o < wK w by omega), code_mod w (show o < wK w by omega), hC]
      rw [if_pos (by omega)]
     ·rw [hlen]; simpa using htw1
     ·rw [hlen, List.drop_zero, ← List.map_take, htw2]
    ·simp [dsOf, hrl, hel]
    ·intro i r hr
     simp only [rows, List.getElem?_map] at hr
     cases hi : (List.range len)[i]? with
     | none => rw [hi] at hr; cases hr
     | some k =>
       rw [hi] at hr
       obtain ⟨hlt, he⟩ := List.getElem?_eq_some_iff.1 hi
       simp at he hlt
       subst he
       cases hr
       obtain ⟨y, h1, h2⟩ := hel' i hlt
       refine ⟨?_, m, y, ?_, h2⟩
       ·have hb : i * n + n ≤ len * n := by rw [← Nat.succ_mul]; exact Nat.mul_le_mul_right _ hlt
        simp; omega
       ·simp [dsOf, h1]
theorem one_int {e : TypeId} {k : IntKind} (he : P.underlying e = some (.int k)) : ∀ (fuel : Nat) (cs : List Value) (y : DataW H × List MemPlace), DataW.trod enc P w 0 (fun _ => true) true fuel e cs = some y → ∀ u ∈ cs, Value.oneCell' u = true := by
 intro fuel cs y h u hu
 obtain ⟨n, rfl, _⟩ := DataW.trod_int he h
 simp at hu; subst hu; rfl
theorem rows_ints {N0 : Nat} {k : IntKind} : ∀ (rows : List (List Value)), (∀ r ∈ rows, ∃ n, r = [.int k n] ∧ k.min ≤ n ∧ n ≤ k.max) → ∃ l : List Int, l.length = rows.length ∧ (rows.map (List.map (rdV w N0))).flatten = l.map (AV.int k) ∧ ∀ i ∈ l, k.min ≤ i ∧ i ≤ k.max
 | [], _ => ⟨[], rfl, rfl, fun i h => by cases h⟩
 | r :: rows, h => by
   obtain ⟨n, rfl, h1, h2⟩ := h r (by simp)
   obtain ⟨l, hl, he, hb⟩ := rows_ints (N0 := N0) rows fun r hr => h r (by simp [hr])
   refine ⟨n :: l, by simp [hl], by simp [he, rdV], fun i hi => ?_⟩
   rcases List.mem_cons.1 hi with rfl | hi
   ·exact ⟨h1, h2⟩
   ·exact hb i hi
theorem rd_ints {N0 : Nat} {t e : TypeId} {k : IntKind} {fuel : Nat} {v : Value} {x : DataW H × List MemPlace} (hN : v = .slice none 0 0 ∨ Room w N0) (ht : P.underlying t = some (.slice e)) (he : P.underlying e = some (.int k)) (hc : P.cellsOf e = 1)
 (h : DataW.trod enc P w 0 (fun _ => true) true fuel t [v] = some x) :
 ∃ (a : OP) (c : Cap) (l : List Int), rdV w N0 v = .sl a l.length c ∧ Value.oneCell' v = true ∧ RdR (Xw w N0) [] a (l.map (AV.int k)) ∧ (∀ i ∈ l, k.min ≤ i ∧ i ≤ k.max) ∧ ((∃ e s, x.1 = .slice e s ∧ e.length = l.length) ∨ l = []) := by
 rcases hN with rfl | hN
 ·exact ⟨none, .ex 0, [], by simp [rdV], rfl, .nil, by simp, .inr rfl⟩
 obtain ⟨a, c, rows, h1, h2, h3, h4, h5, h6⟩ := rd_slice w hN ht hc (by omega) (one_int w he) h
 obtain ⟨l, hl, hf, hb⟩ := rows_ints (N0 := N0) w (k := k) rows fun r hr => by
  obtain ⟨i, hi, rfl⟩ := List.getElem_of_mem hr
  obtain ⟨_, m, y, _, hy⟩ := h6 i _ (List.getElem?_eq_getElem hi)
  obtain ⟨n, hn, _, hw⟩ := DataW.trod_int he hy
  simp only [Lit.wf, Bool.and_eq_true, decide_eq_true_eq] at hw
  exact ⟨n, hn, hw⟩
 refine ⟨a, c, l, by rw [hl]; exact h1, h2, by rw [← hf]; exact h3, hb, ?_⟩
 rcases h5 with ⟨e', s, he'⟩ | h5
 ·exact .inl ⟨e', s, he', by rw [he'] at h4; simp [dsOf] at h4; omega⟩
 ·exact .inr (List.length_eq_zero_iff.1 (by rw [hl, h5]; rfl))
theorem bytes_of (l : List Int) (h : ∀ i ∈ l, (0 : Int) ≤ i ∧ i ≤ 255) : ∃ s : List UInt8, s.length = l.length ∧ ofBytes s = l.map (AV.int .u8) := by
 refine ⟨l.map fun i => UInt8.ofNat i.toNat, by simp, ?_⟩
 simp only [ofBytes, List.map_map]
 refine List.map_congr_left fun i hi => ?_
 obtain ⟨h0, h1⟩ := h i hi
 have : (UInt8.ofNat i.toNat).toNat = i.toNat := by
  rw [UInt8.toNat_ofNat']; exact Nat.mod_eq_of_lt (by omega)
 simp only [Function.comp, this]
 congr 1; omega
theorem arg_block {t e : TypeId} {r : Reach} {base : Nat} {A : Addr} {l c : Nat} (ht : P.underlying t = some (.slice e)) (h : Value.okWide P w r base t (.slice (some A) l c)) : ∃ C, cellsAt w A.block = some C := by
 simp only [Value.okWide, ht, Cell.okWide, Cell.ok, World.has] at h
 obtain ⟨_, _, _, _, row, cells, hs, _⟩ := h
 unfold World.shape? at hs
 split at hs
 ·rename_i C e' fr he
  exact ⟨C, by simp [cellsAt, he]⟩
 ·cases hs
theorem okWide_cell {t u e : TypeId} {fs : Array Field} {ts : List TypeId} {r : Reach} {base : Nat} {cs : Array Value} {i : Nat} {v : Value} (ht : P.underlying t = some (.struct fs)) (hts : P.cellTypes P.depth t = some ts) (h : Value.okWide P w r base t (.agg cs)) (hi : cs[i]? = some v) (hu : ts[i]? = some u) (hue : P.underlying u = some (.slice e)) : Value.okWide P w r base u v := by
 simp only [Value.okWide, ht] at h
 obtain ⟨cs', hcs, _, ts', hts', _, hh⟩ := h
 cases hcs
 rw [hts] at hts'
 cases hts'
 obtain ⟨u', hu', hc⟩ := hh i v hi
 have hlt := (List.getElem?_eq_some_iff.1 hu).1
 rw [Nat.mod_eq_of_lt hlt, hu] at hu'
 cases hu'
 simp only [Value.okWide, hue]
 exact hc
end
end Go.Gr
