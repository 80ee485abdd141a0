/- Operations that write. -/
import Derived.Test.YtcepfilbiahdjaaGrOps6
set_option linter.unusedVariables false
set_option linter.unusedSimpArgs false
set_option linter.unusedSectionVars false
namespace Go.Gr
def storeAtBase (base : Option Addr) (k : Nat) (us : List Value) : Sem Unit := match base with
 | some a => storeCells (a.add k) us
 | none => pure ()
theorem growBy_le (newLen : Nat) (hn : 257 ≤ newLen) : ∀ (k c : Nat), c ≤ 2 * newLen → Builtin.growBy newLen k c ≤ 2 * newLen
 | 0, c, h => by simpa [Builtin.growBy] using h
 | k + 1, c, h => by
   simp only [Builtin.growBy]
   split
   ·exact h
   ·rename_i hc
    exact growBy_le newLen hn k _ (by omega)
theorem nextslicecap_le {need cap : Nat} (h : cap < need) : Builtin.nextslicecap need cap ≤ 3 * need := by
 unfold Builtin.nextslicecap
 split
 ·omega
 ·split
  ·omega
  ·have := growBy_le need (by omega) 4 cap (by omega)
   omega
theorem R.kill {w0 : World} {j : J} {S : AS} {w : World} (h : R w0 j S w) (b : Nat) : Good w0 j S w j (S.kill b) w := by
 have hOwn : ∀ m, Own (S.kill b) m → Own S m := by
  intro m hm
  rcases hm with ⟨p, hp⟩ | ⟨L, hL⟩
  ·simp only [AS.kill, Tr.get_set] at hp
   split at hp
   ·cases hp
   ·exact .inl ⟨p, hp⟩
  ·exact .inr ⟨L, hL⟩
 refine ⟨J.le_refl j, ⟨h.size, h.base, fun m p hp => ?_, h.ro, h.lp, fun a c x y ha hc => h.inj a c x y (hOwn a ha) (hOwn c hc), h.fresh, h.nd, h.env, h.gl⟩, Nat.le_refl _, fun _ _ _ => rfl, fun c _ ⟨m, x, hm, hx⟩ => ⟨m, x, hOwn m hm, hx⟩, Nat.le_refl _, fun _ _ h => h⟩
 simp only [AS.kill, Tr.get_set] at hp
 split at hp
 ·cases hp
 ·exact h.rw m p hp
section
variable {E : Env} {P : Program} (hE : EnvOk E P) {w0 w : World} {j : J} {S : AS} (hR : R w0 j S w) {β : Type} {r : β}
include hE hR
theorem lenOfA_sound {x : AV} {v : Value} (hx : VR j x v) {K : Nat → Option β} (h : lenOfA x K = some r) : ∃ n, K n = some r ∧ (Builtin.lenOf v).run P w = .ok n w ∧ ((∃ a c, x = .sl a n c) ∨ ∃ s, x = .str s ∧ n = s.length) := by
 unfold lenOfA at h
 split at h
 ·rename_i a n c
  obtain ⟨a', c', rfl, _, _⟩ := sl_vr hx
  exact ⟨n, h, by simp [Builtin.lenOf], .inl ⟨_, _, rfl⟩⟩
 ·rename_i s
  simp only [VR] at hx; subst hx
  exact ⟨_, h, by simp [Builtin.lenOf, str_size], .inr ⟨_, rfl, rfl⟩⟩
 ·cases h
theorem firstA_sound {sz n : Nat} {x : AV} {v : Value} (hx : VR j x v) (hn : (∃ a l c, x = .sl a l c ∧ n ≤ l) ∨ ∃ s, x = .str s ∧ n ≤ s.length) {K : List AV → Option β} (h : firstA S sz n x K = some r) :
 ∃ cs us, K cs = some r ∧ VRs j cs us ∧ (∀ u ∈ us, Value.oneCell' u = true) ∧ cs.length = n * sz ∧ ∀ w', w'.heap = w.heap → (Builtin.firstCells sz n v).run P w' = .ok us.toArray w' := by
 unfold firstA at h
 split at h
 ·rename_i a l c
  have hnl : n ≤ l := by
   rcases hn with ⟨a', l', c', he, hl⟩ | ⟨s, he, _⟩
   ·cases he; exact hl
   ·cases he
  split at h
  ·rename_i p
   obtain ⟨pb, pi⟩ := p
   obtain ⟨x, cs, us, hx1, hK, hl, hul, hc, hv, hone⟩ := hR.ldn h
   simp only [VR] at hx
   obtain ⟨y, o, c', hy, rfl, hlc, _, ho, _⟩ := hx
   rw [hy] at hx1; cases hx1
   refine ⟨cs, us, hK, hv, hone, hl, fun w' hh => ?_⟩
   simp only [Builtin.firstCells]
   have hcw : ∀ a, w'.cell? a = w.cell? a := fun a => by unfold World.cell?; rw [hh]
   rcases ho with h0 | h0
   ·have hz : n = 0 := by omega
    subst hz
    have hu0 : us = [] := List.length_eq_zero_iff.1 (by simpa using hul)
    subst hu0
    simp [loadCells, loadCellsFrom]
   ·subst h0
    exact run_loadCells P w' _ _ _ us hul (fun k hk => by rw [hcw]; exact hc k hk)
  ·obtain ⟨h0, hF⟩ := ite_inv h
   obtain ⟨rfl, _, rfl⟩ := sl_nil_vr hx
   exact ⟨[], [], hF, by simp [VRs], by simp, by simp [h0], fun w' _ => by simp [Builtin.firstCells]⟩
 ·rename_i s
  have hns : n ≤ s.length := by
   rcases hn with ⟨a', l', c', he, hl⟩ | ⟨s', he, hl⟩
   ·cases he
   ·cases he; exact hl
  obtain ⟨h1, hF⟩ := ite_inv h
  simp only [VR] at hx; subst hx
  refine ⟨_, (s.take n).map fun b => Value.int .u8 (b.toNat : Int), hF, ofBytes_row _, ?_, by simp [ofBytes, h1]; omega, fun w' _ => ?_⟩
  ·intro u hu; obtain ⟨b, _, rfl⟩ := List.mem_map.1 hu; rfl
  ·simp only [Builtin.firstCells, Sem.run_pure]
   congr 1
   rw [ByteArray.data_extract]
   apply Array.toList_inj.1
   simp [List.extract_eq_take_drop]
 ·cases h
def EffRes (P : Program) (w0 : World) (j : J) (S : AS) (w : World) (res : Result Next) (av : AV) (S' : AS) : Prop :=
 ∃ v w' j', (res = .ok (.value v) w' ∨ (res = .ok .skip w' ∧ v = undef)) ∧ Good w0 j S w j' S' w' ∧ VR j' av v ∧ S'.loops = S.loops
theorem stT_sound {t : TypeId} {b : Bid} {i : Nat} {x : AV} {v : Value} (hx : VR j x v) {K : AS → Option β} (h : stT E S t (b, i) x K = some r) :
 ∃ y S' w', j b = some y ∧ K S' = some r ∧ (storeVar t ⟨y.c, y.off + i, none⟩ v).run P w = .ok () w' ∧ Good w0 j S w j S' w' ∧ S'.loops = S.loops := by
 unfold stT at h
 split at h
 ·cases h
 rename_i ti hti
 obtain ⟨cs, hK, hv, hl, hone⟩ := cellsOf_inv h hx
 obtain ⟨y, S', w', hy, hK', hrun, hg, hlp, _⟩ := hR.stn P hK hv hone
 refine ⟨y, S', w', hy, hK', ?_, hg, hlp⟩
 have hsz : v.cells.size = ti.size := by
  have := hv.length
  simp only [Array.length_toList] at this
  omega
 simp only [storeVar, Sem.run_bind, hE.size hti w, Result.andThen_ok]
 rw [if_neg (by simpa using hsz)]
 exact hrun
omit hE hR in
theorem addr_add (c o n : Nat) : (⟨c, o, none⟩ : Addr).add n = ⟨c, o + n, none⟩ := by unfold Addr.add; split <;> simp_all
theorem grow_run {argTypes : Array TypeId} {t u e : TypeId} {ti te tu : TI} (h0 : argTypes[0]? = some t) (h1 : argTypes[1]? = some u) (hti : E.ty t = some ti) (hk : ti.k = .sl e) (hte : E.ty e = some te) (htu : E.ty u = some tu) (hku : (∃ e, tu.k = .sl e) ∨ tu.k = .str) {ty : TypeId}
 {base : Option Addr} {l c n : Nat} {x : Value} (hlen : (Builtin.lenOf x).run P w = .ok n w) (hb : (l + n) * te.bytes ≤ pow46) (hn : l + n ≤ pow46) (hgt : c < l + n) (hnt : noTup te.k = true) {old new : List Value}
 (ho : ∀ w', w'.heap = w.heap → (Builtin.firstCells te.size l (.slice base l c)).run P w' = .ok old.toArray w') (hnew : ∀ w', w'.heap = w.heap → (Builtin.firstCells te.size n x).run P w' = .ok new.toArray w') :
 ∃ cap rest dr, (Builtin.append_ argTypes ty #[.slice base l c, x]).run P w = .ok (.slice (some ⟨w.heap.size, 0, none⟩) (l + n) cap) { w with heap := w.heap.push (.cells (old ++ new ++ rest).toArray e), drawn := dr } ∧ l + n ≤ cap ∧ rest.length = (cap - (l + n)) * te.size := by
 obtain ⟨z, hz1, hz2, hz3, hz4, hz5⟩ := hE.zero hte hnt { w with drawn := w.drawn + 1 }
 let cap := Question.cut (.appendCap (l + n) c e) (w.tape w.drawn (.appendCap (l + n) c e))
 have hcap : l + n ≤ cap := by simp only [cap, Question.cut]; omega
 refine ⟨cap, (Builtin.zeroCells z.cells (cap - (l + n))).toList, w.drawn + 1, ?_, hcap, by simp [Builtin.zeroCells, hz5]⟩
 obtain ⟨i, hi1, hi2, hi3⟩ := hE.bytes hte w
 obtain ⟨i', hi1', hi2', hi3'⟩ := hE.bytes hte { w with drawn := w.drawn + 1 }
 have hzeros : (do pure ((← underlying u) matches .int _) : Sem Bool).run P w = .ok false w := by
  rcases hku with ⟨e', hk'⟩ | hk'
  ·simp [hE.uSl htu hk' w]
  ·simp [hE.uStr htu hk' w]
 have hmax : IntKind.i64.max = 9223372036854775807 := by decide
 unfold pow46 at hb hn
 have hc1 : ¬ (((l + n : Nat) : Int) > IntKind.i64.max ∧ ((false = true) ∨ i.bytes = 0)) := by rw [hmax]; omega
 have hc2 : ¬ (Builtin.nextslicecap (l + n) c * i.bytes > 2 ^ 48) := by
  have h3 := nextslicecap_le hgt
  have h4 : Builtin.nextslicecap (l + n) c * i.bytes ≤ 3 * (l + n) * i.bytes := Nat.mul_le_mul_right _ h3
  rw [hi3] at h4 ⊢
  rw [Nat.mul_assoc] at h4
  omega
 have hold := ho { w with drawn := w.drawn + 1 } rfl
 have hnw := hnew { w with drawn := w.drawn + 1 } rfl
 have ha0 : (#[Value.slice base l c, x] : Array Value)[0]? = some (Value.slice base l c) := rfl
 have ha1 : (#[Value.slice base l c, x] : Array Value)[1]? = some x := rfl
 have hu : ∃ d, (underlying u).run P w = .ok d w ∧ (∀ k, d ≠ .int k) := by
  rcases hku with ⟨e', hk'⟩ | hk'
  ·exact ⟨_, hE.uSl htu hk' w, by simp⟩
  ·exact ⟨_, hE.uStr htu hk' w, by simp⟩
 obtain ⟨d, hd1, hd2⟩ := hu
 have hz0 : (match d with | .int _ => true | _ => false) = false := by
  cases d <;> first | rfl | exact absurd rfl (hd2 _)
 unfold Builtin.append_
 simp only [h0, h1, ha0, ha1, Sem.run_bind, hE.uSl hti hk w, Result.andThen_ok, hE.size hte w, hd1, Sem.run_pure, hz0, Bool.false_eq_true, if_false, hlen, Bool.not_false, if_true]
 rw [if_neg (by omega)]
 simp only [Sem.run_bind, hi1, Result.andThen_ok]
 rw [if_neg (fun hc => by have h9 := hc.1; rw [hmax] at h9; omega)]
 simp only [Sem.run_bind, hi1, Result.andThen_ok]
 rw [if_neg hc2]
 simp only [Sem.run_bind, run_choose, Question.forced, Bool.false_eq_true, if_false, Result.andThen_ok, hi1', run_askRoom, hold, hnw, hz1, newRow, run_newObj, Sem.run_pure]
 congr 4
 apply Array.toList_inj.1
 simp [cap]
theorem room_run {argTypes : Array TypeId} {t u e : TypeId} {ti te tu : TI} (h0 : argTypes[0]? = some t) (h1 : argTypes[1]? = some u) (hti : E.ty t = some ti) (hk : ti.k = .sl e) (hte : E.ty e = some te) (htu : E.ty u = some tu) (hku : (∃ e, tu.k = .sl e) ∨ tu.k = .str) {ty : TypeId}
 {base : Option Addr} {l c n : Nat} {x : Value} (hlen : (Builtin.lenOf x).run P w = .ok n w) (hle : l + n ≤ c) {new : List Value} {w' : World}
 (hnew : (Builtin.firstCells te.size n x).run P w = .ok new.toArray w) (hst : (storeAtBase base (l * te.size) new).run P w = .ok () w') :
 (Builtin.append_ argTypes ty #[.slice base l c, x]).run P w = .ok (.slice base (l + n) c) w' := by
 have ha0 : (#[Value.slice base l c, x] : Array Value)[0]? = some (Value.slice base l c) := rfl
 have ha1 : (#[Value.slice base l c, x] : Array Value)[1]? = some x := rfl
 have hu : ∃ d, (underlying u).run P w = .ok d w ∧ (∀ k, d ≠ .int k) := by
  rcases hku with ⟨e', hk'⟩ | hk'
  ·exact ⟨_, hE.uSl htu hk' w, by simp⟩
  ·exact ⟨_, hE.uStr htu hk' w, by simp⟩
 obtain ⟨d, hd1, hd2⟩ := hu
 have hz0 : (match d with | .int _ => true | _ => false) = false := by
  cases d <;> first | rfl | exact absurd rfl (hd2 _)
 unfold Builtin.append_
 simp only [h0, h1, ha0, ha1, Sem.run_bind, hE.uSl hti hk w, Result.andThen_ok, hE.size hte w, hd1, Sem.run_pure, hz0, Bool.false_eq_true, if_false, hlen, Bool.not_false, if_true]
 rw [if_pos hle]
 simp only [Sem.run_bind, hnew, Result.andThen_ok]
 cases base with
 | none => simp only [storeAtBase, Sem.run_pure, Result.ok.injEq] at hst ⊢; exact ⟨trivial, hst.2⟩
 | some a => simp only [storeAtBase, Sem.run_bind] at hst ⊢; rw [hst]; rfl
theorem apG_sound {te : TI} {e : TypeId} {a : Option Pos} {len n : Nat} {cap : Cap} {sv : Value} (hs : VR j (.sl a len cap) sv) {src : (List AV → Option β) → Option β} {K : AV → AS → Option β} {Ap : List Value → Prop} {App : Value → Sem Value}
 (hsrc : ∀ K', src K' = some r → ∃ newA new, K' newA = some r ∧ VRs j newA new ∧ (∀ u ∈ new, Value.oneCell' u = true) ∧ newA.length = n * te.size ∧ Ap new) (hz : n = 0 → Ap [])
 (hgr : ∀ (base : Option Addr) (c : Nat) (old new : List Value), c < len + n → (∀ w', w'.heap = w.heap → (Builtin.firstCells te.size len (.slice base len c)).run P w' = .ok old.toArray w') → Ap new → ∃ cap rest dr, (App (.slice base len c)).run P w = .ok (.slice (some ⟨w.heap.size, 0, none⟩) (len + n) cap) { w with heap := w.heap.push (.cells (old ++ new ++ rest).toArray e), drawn := dr } ∧ len + n ≤ cap ∧ rest.length = (cap - (len + n)) * te.size)
 (hrm : ∀ (base : Option Addr) (c : Nat) (new : List Value) (w' : World), len + n ≤ c → Ap new → (storeAtBase base (len * te.size) new).run P w = .ok () w' → (App (.slice base len c)).run P w = .ok (.slice base (len + n) c) w')
 (hF : apG S te a len cap n src K = some r) :
 ∃ av S', K av S' = some r ∧ ∃ v w' j', (App sv).run P w = .ok v w' ∧ Good w0 j S w j' S' w' ∧ VR j' av v ∧ S'.loops = S.loops := by
 unfold apG at hF
 simp only [forceL_eq] at hF
 have hgrow : ∀ (S1 : AS) (hR1 : Good w0 j S w j S1 w) (hl1 : S1.loops = S.loops) (hn1 : S1.next = S.next) (base : Option Addr) (c : Nat), c < len + n → ∀ (oldA newA : List AV) (old new : List Value), VRs j oldA old → VRs j newA new → (∀ u ∈ old, Value.oneCell' u = true) → (∀ u ∈ new, Value.oneCell' u = true) → oldA.length = len * te.size → newA.length = n * te.size →
  (∀ w', w'.heap = w.heap → (Builtin.firstCells te.size len (.slice base len c)).run P w' = .ok old.toArray w') → Ap new →
  ∃ v w' j', (App (.slice base len c)).run P w = .ok v w' ∧ Good w0 j S w j' (S1.new (.cells (oldA ++ newA))) w' ∧ VR j' (.sl (some (.rw S1.next, 0)) (len + n) (.op te.size (len + n))) v := by
  intro S1 hR1 hl1 hn1 base c hgt oldA newA old new ho hnw hone1 hone2 hl2 hl3 hrun1 hrun2
  obtain ⟨cap, rest, dr, hrun, hcap, hrest⟩ := hgr base c old new hgt hrun1 hrun2
  have hlo := ho.length
  have hln := hnw.length
  let C : Array Value := (old ++ new ++ rest).toArray
  let x1 : BI := ⟨w.heap.size, 0, C.size⟩
  have hC : C.toList = (old ++ new) ++ rest := by simp [C]
  have hfr : j (.rw S1.next) = none := hR1.rel.fresh _ (Nat.le_refl _)
  have hobj : ObjR (J.upd j S1.next x1) (.cells (oldA ++ newA)) x1 { w with heap := w.heap.push (.cells C e), drawn := dr } := by
   have hlen2 : (oldA ++ newA).length = (old ++ new).length := by simp [hlo, hln]
   have ht : C.toList.take (oldA ++ newA).length = old ++ new := by rw [hC, hlen2]; exact List.take_left
   refine objR_new (e := e) (fr := (0, 0)) (by simp) ?_ ?_ ?_ (.inl rfl)
   ·have : C.size = (old ++ new).length + rest.length := by simp [C]; omega
    omega
   ·rw [ht]; exact VRs.append (VRs.mono (J.le_upd x1 hfr) _ _ ho) (VRs.mono (J.le_upd x1 hfr) _ _ hnw)
   ·rw [ht]; intro u hu
    rcases List.mem_append.1 hu with hu | hu
    ·exact hone1 u hu
    ·exact hone2 u hu
  have hadd := R.add hR1.rel (n := S1.next) (nx := S1.next + 1) (x := x1) (w' := { w with heap := w.heap.push (.cells C e), drawn := dr }) hfr (Nat.le_refl _) (Nat.lt_succ_self _) rfl (by simp) ⟨rfl, rfl, rfl⟩ (fun k hk => by simp [Array.getElem?_push, Nat.ne_of_lt hk]) hobj
  refine ⟨_, _, _, hrun, hR1.trans hadd, ?_⟩
  simp only [VR]
  refine ⟨x1, ⟨x1.c, 0, none⟩, cap, J.upd_same _ _ _, rfl, hcap, (fun y hy => by cases hy), .inr rfl, fun z m hz => ?_⟩
  cases hz
  refine ⟨?_, hcap⟩
  have : C.size = len * te.size + n * te.size + (cap - (len + n)) * te.size := by simp [C]; omega
  show 0 + 0 + cap * te.size ≤ C.size
  rw [this, ← Nat.add_mul, ← Nat.add_mul]
  have : len + n + (cap - (len + n)) = cap := by omega
  rw [this]; omega
 cases cap with
 | ex c =>
   simp only at hF
   split at hF
   ·rename_i hle
    obtain ⟨newA, new, hK, hv, hone, hl, hrun⟩ := hsrc _ hF
    cases a with
    | none =>
      simp only at hK
      obtain ⟨rfl, hc, rfl⟩ := sl_nil_vr hs
      cases hc
      refine ⟨_, _, hK, .slice none (0 + n) 0, w, j, hrm _ _ _ _ hle hrun rfl, Good.refl hR, ?_, rfl⟩
      have : n = 0 := by omega
      subst this
      simp [VR]
    | some p =>
      obtain ⟨pb, pi⟩ := p
      simp only at hK
      simp only [VR] at hs
      obtain ⟨y, o, c', hy, rfl, hlc, hcap, ho, hcn⟩ := hs
      have hcc := hcap c rfl
      obtain ⟨x1, S', w', hx1, hK', hst, hg, hlp, _⟩ := hR.stn P hK hv hone
      rw [hy] at hx1; cases hx1
      have hst' : (storeCells (Addr.add o (len * te.size)) new).run P w = .ok () w' := by
       rcases ho with hz | hz
       ·have hn0 : n = 0 := by omega
        have : new = [] := by
         have := hv.length
         rw [hl, hn0] at this
         exact List.length_eq_zero_iff.1 (by omega)
        subst this
        simpa [storeCells] using hst
       ·rw [hz, addr_add, Nat.add_assoc]; exact hst
      refine ⟨_, _, hK', .slice (some o) (len + n) c', w', j, hrm _ _ _ _ (by omega) hrun hst', hg, ?_, hlp⟩
      simp only [VR]
      exact ⟨y, o, c', hy, rfl, by omega, hcap, ho, hcn⟩
   ·rename_i hgt
    obtain ⟨oldA, old, hK, hv, hone, hl, hrun⟩ := firstA_sound hE hR hs (.inl ⟨_, _, _, rfl, Nat.le_refl _⟩) hF
    obtain ⟨newA, new, hK2, hv2, hone2, hl2, hrun2⟩ := hsrc _ hK
    obtain ⟨base, c', rfl, _, hcc⟩ := sl_vr hs
    have hcc' := hcc c rfl
    obtain ⟨v, w', j', q1, q2, q3⟩ := hgrow S (Good.refl hR) rfl rfl base c' (by omega) oldA newA old new hv hv2 hone hone2 hl hl2 hrun hrun2
    exact ⟨_, _, hK2, v, w', j', q1, q2, q3, rfl⟩
 | op ez m0 =>
   simp only at hF
   split at hF
   ·rename_i hn0
    subst hn0
    obtain ⟨base, c', rfl, _, hcc⟩ := sl_vr hs
    have hlc : len ≤ c' := by
     cases a with
     | none => obtain ⟨_, hc, _⟩ := sl_nil_vr hs; cases hc
     | some p => obtain ⟨pb, pi⟩ := p; simp only [VR] at hs; obtain ⟨y, o, c2, _, he, hl, _⟩ := hs; cases he; exact hl
    have hs2 := hs
    clear hs
    have hst : (storeAtBase base (len * te.size) []).run P w = .ok () w := by
     unfold storeAtBase
     cases base <;> simp [storeCells]
    exact ⟨_, _, hF, .slice base (len + 0) c', w, j, hrm _ _ _ _ (by omega) (hz rfl) hst, Good.refl hR, hs2, rfl⟩
   ·rename_i hn0
    split at hF
    ·rename_i hle
     obtain ⟨newA, new, hK, hv, hone, hl, hrun⟩ := hsrc _ hF
     cases a with
     | none => cases hK
     | some p =>
       obtain ⟨pb, pi⟩ := p
       simp only at hK
       simp only [VR] at hs
       obtain ⟨y, o, c', hy, rfl, hlc, hcap, ho, hcn⟩ := hs
       have hcc := (hcn _ _ rfl).2
       obtain ⟨x1, S', w', hx1, hK', hst, hg, hlp, _⟩ := hR.stn P hK hv hone
       rw [hy] at hx1; cases hx1
       have hst' : (storeCells (Addr.add o (len * te.size)) new).run P w = .ok () w' := by
        rcases ho with hz | hz
        ·omega
        ·rw [hz, addr_add, Nat.add_assoc]; exact hst
       refine ⟨_, _, hK', .slice (some o) (len + n) c', w', j, hrm _ _ _ _ (by omega) hrun hst', hg, ?_, hlp⟩
       simp only [VR]
       exact ⟨y, o, c', hy, rfl, by omega, hcap, ho, hcn⟩
    rename_i hnle
    obtain ⟨hez, hF1⟩ := ite_inv hF
    subst hez
    cases a with
    | none => cases hF1
    | some p =>
    obtain ⟨pb, i⟩ := p
    cases pb with
    | ro m => cases hF1
    | rw b =>
    simp only at hF1
    have hs' := hs
    simp only [VR] at hs'
    obtain ⟨y, o, c', hy, rfl, hlc, _, ho, hcn⟩ := hs'
    have hbd := (hcn _ _ rfl).1
    by_cases hgt : c' < len + n
    ·obtain ⟨oldA, old, hK, hv, hone, hl, hrun⟩ := firstA_sound hE hR (K := fun old => src fun new => K (.sl (some (.rw S.next, 0)) (len + n) (.op te.size (len + n))) ((S.kill b).new (.cells (old ++ new)))) hs (.inl ⟨_, _, _, rfl, Nat.le_refl _⟩) hF1
     obtain ⟨newA, new, hK2, hv2, hone2, hl2, hrun2⟩ := hsrc _ hK
     obtain ⟨v, w', j', q1, q2, q3⟩ := hgrow (S.kill b) (R.kill hR b) rfl rfl (some o) c' hgt oldA newA old new hv hv2 hone hone2 hl hl2 hrun hrun2
     exact ⟨_, _, hK2, v, w', j', q1, q2, q3, rfl⟩
    ·have ho' : o = ⟨y.c, y.off + i, none⟩ := by
      rcases ho with h | h
      ·omega
      ·exact h
     subst ho'
     rw [AS.ldn_eq] at hF1
     cases hb : S.blk (.rw b) with
     | none => simp [hb] at hF1
     | some cs =>
     simp only [hb] at hF1
     obtain ⟨hle, hF2⟩ := ite_inv hF1
     have hget : S.rw.get b = some (.cells cs) := by
      simp only [AS.blk] at hb
      cases hg : S.rw.get b with
      | none => simp [hg] at hb
      | some ob => cases ob <;> simp [hg] at hb; rw [hb]
     obtain ⟨newA, new, hK2, hv2, hone2, hl2, hrun2⟩ := hsrc _ hF2
     obtain ⟨hbn, x1, hx1, hbc, ⟨C, e', fr, hC, ht, hle', hall⟩, hun⟩ := hR.rw b _ hget
     rw [hy] at hx1; cases hx1
     have hnl := hv2.length
     have hmul : len * te.size + n * te.size ≤ c' * te.size := by rw [← Nat.add_mul]; exact Nat.mul_le_mul_right _ (by omega)
     have hun' : fr.2 ≤ fr.1 ∨ C.size ≤ fr.1 := by have := hun C e' fr hC; omega
     have hst := run_storeCells P y.c (y.off + i + len * te.size) new 0 w C e' fr hC (by omega) hun' hone2
     have hcs : y.c < w.heap.size := (Array.getElem?_eq_some_iff.1 hC).1
     let ob : Obj := .cells (putCells C (y.off + i + len * te.size + 0) new) e' fr
     have hnew : (World.putBlk w y.c ob).heap[y.c]? = some ob := by rw [putBlk_get _ _ _ _ hcs]; simp
     have hfr : j (.rw S.next) = none := hR.fresh _ (Nat.le_refl _)
     let y' : BI := ⟨y.c, y.off + i, y.tot⟩
     have hmono := J.le_upd (j := j) (n := S.next) y' hfr
     have hol : ((cs.drop i).take (len * te.size)).length = len * te.size := by simp; omega
     have hobj : ObjR (J.upd j S.next y') (.cells ((cs.drop i).take (len * te.size) ++ newA)) y' (World.putBlk w y.c ob) := by
      refine ⟨⟨_, e', fr, hnew, ?_, ?_, ?_⟩, ?_⟩
      ·rw [putCells_size (by omega)]; exact ht
      ·simp only [List.length_append, hol, hl2]
       show y.off + i + _ ≤ y.tot
       omega
      ·intro k v hk
       show ∃ u, (putCells C (y.off + i + len * te.size + 0) new)[y.off + i + k]? = some u ∧ _
       rw [putCells_get (by omega)]
       rw [List.getElem?_append, hol] at hk
       split at hk
       ·rename_i hk1
        rw [if_pos (by omega)]
        rw [List.getElem?_take, if_pos hk1, List.getElem?_drop] at hk
        obtain ⟨u, hu, hr, ho⟩ := hall _ _ hk
        exact ⟨u, by rw [← hu]; congr 1; omega, VR.mono hmono _ _ hr, ho⟩
       ·rename_i hk1
        have hkl : k - len * te.size < newA.length := (List.getElem?_eq_some_iff.1 hk).1
        rw [if_neg (by omega), if_pos (by omega)]
        obtain ⟨u, hu, hr⟩ := hv2.get _ _ hk
        exact ⟨u, by rw [← hu]; congr 1; omega, VR.mono hmono _ _ hr, hone2 u (List.mem_of_getElem? hu)⟩
      ·intro C2 e2 fr2 h2
       simp only [y', hnew, ob] at h2
       cases h2
       exact hun C e' fr hC
     have hmv := R.move hR (b := b) (y := y') (ob := ob) hget hy rfl hobj
     refine ⟨_, _, hK2, .slice (some ⟨y.c, y.off + i, none⟩) (len + n) c', _, _, hrm _ _ _ _ (by omega) hrun2 (by show (storeCells (Addr.add ⟨y.c, y.off + i, none⟩ (len * te.size)) new).run P w = _; rw [addr_add]; exact hst), hmv, ?_, rfl⟩
     simp only [VR]
     exact ⟨y', ⟨y.c, y.off + i, none⟩, c', J.upd_same _ _ _, rfl, by omega, (fun z hz => by cases hz), .inr rfl, fun z m hz => by cases hz; exact ⟨hbd, by omega⟩⟩
theorem evAppend_sound {argTypes : Array TypeId} {t u ty : TypeId} {tu : TI} (h0 : argTypes[0]? = some t) (h1 : argTypes[1]? = some u) (htu : E.ty u = some tu) (hku : (∃ e, tu.k = .sl e) ∨ tu.k = .str) {s x : AV} {sv xv : Value} (hs : VR j s sv) (hx : VR j x xv) {K : AV → AS → Option β} (h : evAppend E S t s x K = some r) :
 ∃ av S', K av S' = some r ∧ ∃ v w' j', (Builtin.append_ argTypes ty #[sv, xv]).run P w = .ok v w' ∧ Good w0 j S w j' S' w' ∧ VR j' av v ∧ S'.loops = S.loops := by
 unfold evAppend at h
 split at h
 ·cases h
 rename_i ti hti
 split at h
 case h_2 => cases h
 rename_i e hk
 split at h
 ·cases h
 rename_i te hte
 obtain ⟨a, len, cap, rfl, hA⟩ := gL_inv h
 obtain ⟨n, hB, hlen, hform⟩ := lenOfA_sound hE hR hx hA
 obtain ⟨hby, hC⟩ := ite_inv hB
 obtain ⟨hnn, hD⟩ := ite_inv hC
 obtain ⟨hsz, hE1⟩ := ite_inv' hD
 obtain ⟨hnt, hF⟩ := cond_inv hE1
 clear h hA hB hC hD hE1
 have hnx : (∃ a l c, x = .sl a l c ∧ n ≤ l) ∨ ∃ s, x = .str s ∧ n ≤ s.length := by
  rcases hform with ⟨a, c, rfl⟩ | ⟨s, rfl, rfl⟩
  ·exact .inl ⟨_, _, _, rfl, Nat.le_refl _⟩
  ·exact .inr ⟨_, rfl, Nat.le_refl _⟩
 refine apG_sound hE hR hs (e := e) (App := fun sv => Builtin.append_ argTypes ty #[sv, xv]) (Ap := fun new => ∀ w', w'.heap = w.heap → (Builtin.firstCells te.size n xv).run P w' = .ok new.toArray w') (fun K' h => firstA_sound hE hR hx hnx h) ?_ ?_ ?_ hF
 ·rintro rfl w' _
  rcases hform with ⟨a', c2, rfl⟩ | ⟨s', rfl, _⟩
  ·obtain ⟨b2, c3, rfl, _, _⟩ := sl_vr hx
   cases b2 <;> simp [Builtin.firstCells, loadCells, loadCellsFrom]
  ·simp only [VR] at hx; subst hx
   simp only [Builtin.firstCells, Sem.run_pure]
   congr 1
   rw [ByteArray.data_extract]
   apply Array.toList_inj.1
   simp
 ·intro base c old new hgt ho hn
  exact grow_run hE hR h0 h1 hti hk hte htu hku (ty := ty) hlen hby hnn hgt hnt ho hn
 ·intro base c new w' hle hn hst
  exact room_run hE hR h0 h1 hti hk hte htu hku hlen hle (hn w rfl) hst
def zerosOf (e : TypeId) (m : Nat) (n : Nat) : Sem (Array Value) := if n * m = 0 then pure #[] else do pure (Builtin.zeroCells (← zeroValue e).cells n)
theorem growZ_run {argTypes : Array TypeId} {t u e : TypeId} {ti te tu : TI} {ku kx : IntKind} {m : Int} (h0 : argTypes[0]? = some t) (h1 : argTypes[1]? = some u) (hti : E.ty t = some ti) (hk : ti.k = .sl e) (hte : E.ty e = some te) (htu : E.ty u = some tu) (hku : tu.k = .int ku) {ty : TypeId}
 {base : Option Addr} {l c n : Nat} (hm : m = n) (hb : (l + n) * te.bytes ≤ pow46) (hn : l + n ≤ pow46) (hgt : c < l + n) (hnt : noTup te.k = true) {old new : List Value}
 (ho : ∀ w', w'.heap = w.heap → (Builtin.firstCells te.size l (.slice base l c)).run P w' = .ok old.toArray w') (hnew : ∀ w', (zerosOf e te.size n).run P w' = .ok new.toArray w') :
 ∃ cap rest dr, (Builtin.append_ argTypes ty #[.slice base l c, .int kx m]).run P w = .ok (.slice (some ⟨w.heap.size, 0, none⟩) (l + n) cap) { w with heap := w.heap.push (.cells (old ++ new ++ rest).toArray e), drawn := dr } ∧ l + n ≤ cap ∧ rest.length = (cap - (l + n)) * te.size := by
 obtain ⟨z, hz1, hz2, hz5⟩ := hE.zeroAll hte hnt
 let cap := Question.cut (.appendCap (l + n) c e) (w.tape w.drawn (.appendCap (l + n) c e))
 have hcap : l + n ≤ cap := by simp only [cap, Question.cut]; omega
 refine ⟨cap, (Builtin.zeroCells z.cells (cap - (l + n))).toList, w.drawn + 1, ?_, hcap, by simp [Builtin.zeroCells, hz5]⟩
 obtain ⟨i, hi1, hi2, hi3⟩ := hE.bytes hte w
 obtain ⟨i', hi1', hi2', hi3'⟩ := hE.bytes hte { w with drawn := w.drawn + 1 }
 have hmax : IntKind.i64.max = 9223372036854775807 := by decide
 unfold pow46 at hb hn
 have hw : IntKind.i64.wrap m = (n : Int) := by rw [hm]; exact wrap_i64_in _ (by omega) (by omega)
 have hnb : n * te.bytes ≤ 70368744177664 := Nat.le_trans (Nat.mul_le_mul_right _ (by omega)) hb
 have hc2 : ¬ (Builtin.nextslicecap (l + n) c * i.bytes > 2 ^ 48) := by
  have h3 := nextslicecap_le hgt
  have h4 : Builtin.nextslicecap (l + n) c * i.bytes ≤ 3 * (l + n) * i.bytes := Nat.mul_le_mul_right _ h3
  rw [hi3] at h4 ⊢
  rw [Nat.mul_assoc] at h4
  omega
 have hold := ho { w with drawn := w.drawn + 1 } rfl
 have hnw := hnew { w with drawn := w.drawn + 1 }
 unfold zerosOf at hnw
 have ha0 : (#[Value.slice base l c, .int kx m] : Array Value)[0]? = some (Value.slice base l c) := rfl
 have ha1 : (#[Value.slice base l c, .int kx m] : Array Value)[1]? = some (.int kx m) := rfl
 have hsz := hE.size hte w
 unfold Builtin.append_
 simp only [h0, h1, ha0, ha1, Sem.run_bind, hE.uSl hti hk w, Result.andThen_ok, hsz, hE.uInt htu hku w, Sem.run_pure, if_true, asInt, asIntOf, hw, Int.toNat_natCast]
 rw [if_neg (by omega)]
 simp only [Sem.run_bind, Sem.run_pure, Result.andThen_ok, hi1]
 rw [if_neg (by rw [hi3]; have : (n : Int) * (te.bytes : Int) = ((n * te.bytes : Nat) : Int) := by simp
                rw [this]; omega)]
 simp only [Sem.run_bind, Sem.run_pure, Result.andThen_ok, hi1]
 rw [if_neg (by omega)]
 simp only [Sem.run_bind, hi1, Result.andThen_ok]
 rw [if_neg (fun hc => by have h9 := hc.1; rw [hmax] at h9; omega)]
 simp only [Sem.run_bind, hi1, Result.andThen_ok]
 rw [if_neg hc2]
 simp only [Sem.run_bind, run_choose, Question.forced, Bool.false_eq_true, if_false, Result.andThen_ok, hi1', run_askRoom, hold, Bool.not_true, hnw, hz1, newRow, run_newObj, Sem.run_pure]
 congr 4
 apply Array.toList_inj.1
 simp [cap]
theorem roomZ_run {argTypes : Array TypeId} {t u e : TypeId} {ti te tu : TI} {ku kx : IntKind} {m : Int} (h0 : argTypes[0]? = some t) (h1 : argTypes[1]? = some u) (hti : E.ty t = some ti) (hk : ti.k = .sl e) (hte : E.ty e = some te) (htu : E.ty u = some tu) (hku : tu.k = .int ku) {ty : TypeId}
 {base : Option Addr} {l c n : Nat} (hm : m = n) (hb : (l + n) * te.bytes ≤ pow46) (hn : l + n ≤ pow46) (hle : l + n ≤ c) {new : List Value} {w' : World}
 (hnew : ∀ w', (zerosOf e te.size n).run P w' = .ok new.toArray w') (hst : (storeAtBase base (l * te.size) new).run P w = .ok () w') :
 (Builtin.append_ argTypes ty #[.slice base l c, .int kx m]).run P w = .ok (.slice base (l + n) c) w' := by
 obtain ⟨i, hi1, hi2, hi3⟩ := hE.bytes hte w
 unfold pow46 at hb hn
 have hw : IntKind.i64.wrap m = (n : Int) := by rw [hm]; exact wrap_i64_in _ (by omega) (by omega)
 have hnb : n * te.bytes ≤ 70368744177664 := Nat.le_trans (Nat.mul_le_mul_right _ (by omega)) hb
 have hnw := hnew w
 unfold zerosOf at hnw
 have ha0 : (#[Value.slice base l c, .int kx m] : Array Value)[0]? = some (Value.slice base l c) := rfl
 have ha1 : (#[Value.slice base l c, .int kx m] : Array Value)[1]? = some (.int kx m) := rfl
 have hsz := hE.size hte w
 unfold Builtin.append_
 simp only [h0, h1, ha0, ha1, Sem.run_bind, hE.uSl hti hk w, Result.andThen_ok, hsz, hE.uInt htu hku w, Sem.run_pure, if_true, asInt, asIntOf, hw, Int.toNat_natCast]
 rw [if_neg (by omega)]
 simp only [Sem.run_bind, Sem.run_pure, Result.andThen_ok, hi1]
 rw [if_neg (by rw [hi3]; have : (n : Int) * (te.bytes : Int) = ((n * te.bytes : Nat) : Int) := by simp
                rw [this]; omega)]
 simp only [Sem.run_bind, Sem.run_pure, Result.andThen_ok]
 rw [if_pos hle]
 simp only [Sem.run_bind, Bool.not_true, Bool.false_eq_true, if_false, hnw, Result.andThen_ok]
 cases base with
 | none => simp only [storeAtBase, Sem.run_pure, Result.ok.injEq] at hst ⊢; exact ⟨trivial, hst.2⟩
 | some a => simp only [storeAtBase, Sem.run_bind] at hst ⊢; rw [hst]; rfl
theorem evAppendZ_sound {argTypes : Array TypeId} {t u ty : TypeId} {tu : TI} {ku : IntKind} (h0 : argTypes[0]? = some t) (h1 : argTypes[1]? = some u) (htu : E.ty u = some tu) (hku : tu.k = .int ku) {s x : AV} {sv xv : Value} (hs : VR j s sv) (hx : VR j x xv) {K : AV → AS → Option β} (h : evAppendZ E S t s x K = some r) :
 ∃ av S', K av S' = some r ∧ ∃ v w' j', (Builtin.append_ argTypes ty #[sv, xv]).run P w = .ok v w' ∧ Good w0 j S w j' S' w' ∧ VR j' av v ∧ S'.loops = S.loops := by
 unfold evAppendZ at h
 split at h
 ·cases h
 rename_i ti hti
 split at h
 case h_2 => cases h
 rename_i e hk
 split at h
 ·cases h
 rename_i te hte
 obtain ⟨a, len, cap, rfl, hA⟩ := gL_inv h
 obtain ⟨kx, m, rfl, hm0, hB⟩ := idx_inv hA
 obtain ⟨hby, hC⟩ := ite_inv hB
 obtain ⟨hnn, hD⟩ := ite_inv hC
 obtain ⟨hsz, hE1⟩ := ite_inv' hD
 obtain ⟨hnt, hF⟩ := cond_inv hE1
 clear h hA hB hC hD hE1
 simp only [VR] at hx
 subst hx
 obtain ⟨z, hz1, hz2, hz5⟩ := hE.zeroAll hte hnt
 have hrow := zeros_row (j := j) (z := te.zero) (Z := z.cells) ⟨(zsEq.vrs hz2).1, (zsEq.vrs (j := j) hz2).2⟩ m.toNat
 have hzc : (Array.range (m.toNat * z.cells.size)).map (z.cells[· % z.cells.size]!) = Builtin.zeroCells z.cells m.toNat := rfl
 rw [hzc] at hrow
 have hzl : (Builtin.zeroCells z.cells m.toNat).toList.length = m.toNat * te.size := by simp [Builtin.zeroCells, hz5]
 have hap : ∀ w', (zerosOf e te.size m.toNat).run P w' = .ok (Builtin.zeroCells z.cells m.toNat).toList.toArray w' := by
  intro w'
  unfold zerosOf
  split
  ·rename_i h0
   rw [h0] at hzl
   have : Builtin.zeroCells z.cells m.toNat = #[] := Array.eq_empty_of_size_eq_zero (by simpa using hzl)
   rw [this]; rfl
  ·simp [hz1]
 refine apG_sound hE hR hs (e := e) (App := fun sv => Builtin.append_ argTypes ty #[sv, .int kx m]) (Ap := fun new => ∀ w', (zerosOf e te.size m.toNat).run P w' = .ok new.toArray w') (fun K' h => ⟨_, _, h, hrow.1, hrow.2, by rw [hrow.1.length]; exact hzl, hap⟩) ?_ ?_ ?_ hF
 ·intro h0 w'
  simp [zerosOf, h0]
 ·intro base c old new hgt ho hn
  exact growZ_run hE hR h0 h1 hti hk hte htu hku (ty := ty) (Int.toNat_of_nonneg hm0).symm hby hnn hgt hnt ho hn
 ·intro base c new w' hle hn hst
  exact roomZ_run hE hR h0 h1 hti hk hte htu hku (Int.toNat_of_nonneg hm0).symm hby hnn hle hn hst
theorem evCopy_sound {argTypes : Array TypeId} {t ty : TypeId} (h0 : argTypes[0]? = some t) {d x : AV} {dv xv : Value} (hd : VR j d dv) (hx : VR j x xv) {K : AV → AS → Option β} (h : evCopy E S t d x K = some r) :
 ∃ av S', K av S' = some r ∧ ∃ v w' j', (Builtin.copy_ argTypes ty #[dv, xv]).run P w = .ok v w' ∧ Good w0 j S w j' S' w' ∧ VR j' av v ∧ S'.loops = S.loops := by
 unfold evCopy at h
 split at h
 ·cases h
 rename_i ti hti
 split at h
 case h_2 => cases h
 rename_i e hk
 obtain ⟨te, hte, hA⟩ := sizeT_inv h
 obtain ⟨a, len, cap, hde, hB⟩ := gL_inv hA
 rw [hde] at hd
 obtain ⟨n, hC, hlen, hform⟩ := lenOfA_sound hE hR hx hB
 obtain ⟨cs, us, hK, hv, hone, hl, hrun⟩ := firstA_sound hE hR hx (n := Nat.min n len) (by
  rcases hform with ⟨a', c', rfl⟩ | ⟨s', rfl, rfl⟩
  ·exact .inl ⟨_, _, _, rfl, Nat.min_le_left _ _⟩
  ·exact .inr ⟨_, rfl, Nat.min_le_left _ _⟩) hC
 have ha0 : (#[dv, xv] : Array Value)[0]? = some dv := rfl
 have ha1 : (#[dv, xv] : Array Value)[1]? = some xv := rfl
 obtain ⟨base, c', hdv, hbn, _⟩ := sl_vr hd
 have key : ∀ w', (storeAtBase base 0 us).run P w = .ok () w' → (Builtin.copy_ argTypes ty #[dv, xv]).run P w = .ok (.int .i64 ((Nat.min n len : Nat) : Int)) w' := by
  intro w' hst
  subst hdv
  unfold Builtin.copy_
  simp only [h0, ha0, ha1, Sem.run_bind, hE.uSl hti hk w, Result.andThen_ok, hlen, hE.size hte w, hrun w rfl]
  cases base with
  | none => simp only [storeAtBase, Sem.run_pure, Result.ok.injEq] at hst ⊢; exact ⟨by simp [goInt], hst.2⟩
  | some b =>
    simp only [storeAtBase] at hst
    have : Addr.add b 0 = b := by simp [Addr.add]
    rw [this] at hst
    simp only [Sem.run_bind]
    rw [hst]; simp [goInt]
 cases a with
 | none =>
   have hb : base = none := by simpa using hbn
   subst hb
   exact ⟨_, _, hK, _, w, j, key w rfl, Good.refl hR, vr_int _ _ _, rfl⟩
 | some p =>
   obtain ⟨pb, pi⟩ := p
   simp only at hK
   simp only [VR] at hd
   obtain ⟨y, o, c2, hy, hdv2, hlc, hcap, ho, hcn⟩ := hd
   rw [hdv] at hdv2
   cases hdv2
   obtain ⟨x1, S', w', hx1, hK', hst, hg, hlp, _⟩ := hR.stn P hK hv hone
   rw [hy] at hx1; cases hx1
   refine ⟨_, _, hK', _, w', j, key w' ?_, hg, vr_int _ _ _, hlp⟩
   rcases ho with hz | hz
   ·have hn0 : Nat.min n len = 0 := by
     have : Nat.min n len ≤ len := Nat.min_le_right _ _
     omega
    have : us = [] := by
     have := hv.length
     rw [hl, hn0] at this
     exact List.length_eq_zero_iff.1 (by omega)
    subst this
    simpa [storeAtBase, storeCells] using hst
   ·rw [hz]; simp only [storeAtBase, addr_add, Nat.add_zero]; exact hst
theorem evClear_sound {argTypes : Array TypeId} {t ty : TypeId} (h0 : argTypes[0]? = some t) {d : AV} {dv : Value} (hd : VR j d dv) {K : AV → AS → Option β} (h : evClear E S t d K = some r) :
 ∃ av S', K av S' = some r ∧ ∃ v w' j', (Builtin.clear_ argTypes ty #[dv]).run P w = .ok v w' ∧ Good w0 j S w j' S' w' ∧ VR j' av v ∧ S'.loops = S.loops := by
 unfold evClear at h
 split at h
 ·cases h
 rename_i ti hti
 split at h
 case h_2 => cases h
 rename_i e hk
 split at h
 ·cases h
 rename_i te hte
 obtain ⟨a, n, cap, rfl, hA⟩ := gL_inv h
 have hu := hE.uSl hti hk w
 have ha0 : (#[dv] : Array Value)[0]? = some dv := rfl
 have htup : VR j (.tup []) (.tuple #[]) := by simp only [VR]; exact ⟨#[], rfl, by simp [VRs]⟩
 split at hA
 ·rename_i hn
  subst hn
  obtain ⟨base, c', rfl, _, _⟩ := sl_vr hd
  refine ⟨_, _, hA, .tuple #[], w, j, ?_, Good.refl hR, htup, rfl⟩
  unfold Builtin.clear_
  simp only [h0, ha0, Sem.run_bind, hu, Result.andThen_ok]
  cases base <;> simp
 ·rename_i hn
  obtain ⟨hnt, hB⟩ := cond_inv hA
  cases a with
  | none => cases hB
  | some p =>
  obtain ⟨pb, pi⟩ := p
  simp only at hB
  obtain ⟨z, hz1, hz2, hz3, hz4, hz5⟩ := hE.zero hte hnt w
  have hrow := zeros_row (j := j) (z := te.zero) (Z := z.cells) ⟨(zsEq.vrs hz2).1, (zsEq.vrs (j := j) hz2).2⟩ n
  have hzc : (Array.range (n * z.cells.size)).map (z.cells[· % z.cells.size]!) = Builtin.zeroCells z.cells n := rfl
  rw [hzc] at hrow
  simp only [VR] at hd
  obtain ⟨y, o, c', hy, rfl, hlc, hcap, ho, hcn⟩ := hd
  obtain ⟨x1, S', w', hx1, hK', hst, hg, hlp, _⟩ := hR.stn P hB hrow.1 hrow.2
  rw [hy] at hx1; cases hx1
  have ho' : o = ⟨y.c, y.off + pi, none⟩ := by
   rcases ho with h | h
   ·omega
   ·exact h
  refine ⟨_, _, hK', .tuple #[], w', j, ?_, hg, VR.mono hg.le _ _ htup, hlp⟩
  obtain ⟨m, rfl⟩ : ∃ m, n = m + 1 := ⟨n - 1, by omega⟩
  unfold Builtin.clear_
  simp only [h0, ha0, Sem.run_bind, hu, Result.andThen_ok, hz1]
  rw [ho', hst]
  rfl
omit hE hR in
theorem upd_sound {kk : TK} {d : TypeDesc} {k v : AV} {u vv : Value} (hs : ∀ x v, VR j x v → keyFits kk x = true → Instr.sameNow d u v = some (AV.beq k x)) (hku : VR j k u) (hvv : VR j v vv) :
 ∀ (es : List (AV × AV)) (ms : List MapEntry) (i : Nat), (∀ e ∈ es, keyFits kk e.1 = true) → VRs j (es.map (·.1)) (ms.map (·.key)) → VRs j (es.map (·.2)) (ms.map (·.val)) →
   (Instr.findNow d u ms i = some none ∧ updA k v es = es ++ [(k, v)]) ∨ ∃ n e x, Instr.findNow d u ms i = some (some (i + n, x)) ∧ ms[n]? = some e ∧ Instr.sameNow d u e.key = some true ∧
    ∀ b, VRs j ((updA k v es).map (·.1)) ((ms.set n { key := u, val := vv, born := b }).map (·.key)) ∧ VRs j ((updA k v es).map (·.2)) ((ms.set n { key := u, val := vv, born := b }).map (·.val))
 | [], ms, i, _, h1, _ => by
   simp only [List.map_nil, VRs] at h1
   have : ms = [] := by simpa using h1
   subst this
   exact .inl ⟨rfl, rfl⟩
 | (x, y) :: es, ms, i, hpl, h1, h2 => by
   cases ms with
   | nil => simp [VRs] at h1
   | cons m ms =>
     simp only [List.map_cons, VRs] at h1 h2
     obtain ⟨a, b, he1, r1, r2⟩ := h1
     obtain ⟨c, d', he2, s1, s2⟩ := h2
     cases he1; cases he2
     have hs' := hs x m.key r1 (hpl (x, y) (by simp))
     cases hb : AV.beq k x with
     | true =>
       rw [hb] at hs'
       refine .inr ⟨0, m, m.val, by simp [Instr.findNow, hs'], by simp, hs', fun b => ?_⟩
       simp only [updA, hb, cond_true, List.map_cons, List.set_cons_zero, VRs]
       exact ⟨⟨_, _, rfl, hku, r2⟩, ⟨_, _, rfl, hvv, s2⟩⟩
     | false =>
       rw [hb] at hs'
       rcases upd_sound hs hku hvv es ms (i + 1) (fun e he => hpl e (by simp [he])) r2 s2 with ⟨q1, q2⟩ | ⟨n, e, x', q1, q2, q3, q4⟩
       ·exact .inl ⟨by simpa [Instr.findNow, hs'] using q1, by simp [updA, hb, q2]⟩
       ·refine .inr ⟨n + 1, e, x', by rw [show i + (n + 1) = i + 1 + n by omega]; simpa [Instr.findNow, hs'] using q1, by simpa using q2, q3, fun b => ?_⟩
        obtain ⟨p1, p2⟩ := q4 b
        simp only [updA, hb, cond_false, List.map_cons, List.set_cons_succ, VRs]
        exact ⟨⟨_, _, rfl, r1, p1⟩, ⟨_, _, rfl, s1, p2⟩⟩
omit hE hR in
theorem updA_fits {kk : TK} {k v : AV} (hk : keyFits kk k = true) : ∀ (es : List (AV × AV)), (∀ e ∈ es, keyFits kk e.1 = true) → ∀ e ∈ updA k v es, keyFits kk e.1 = true
 | [], _, e, he => by
   simp only [updA, List.mem_singleton] at he
   subst he; exact hk
 | (x, y) :: es, h, e, he => by
   simp only [updA] at he
   cases hb : AV.beq k x with
   | true =>
     rw [hb] at he
     simp only [cond_true, List.mem_cons] at he
     rcases he with rfl | he
     ·exact hk
     ·exact h e (by simp [he])
   | false =>
     rw [hb] at he
     simp only [cond_false, List.mem_cons] at he
     rcases he with rfl | he
     ·exact h _ (by simp)
     ·exact updA_fits hk es (fun e he => h e (by simp [he])) e he
omit hE hR in
theorem sameBits_of {kk : TK} {d : TypeDesc} {k x : AV} {u v : Value} (hd : kOk (some d) kk = true) (hk : VR j k u) (hx : Instr.sameNow d u v = some true) (fk : keyFits kk k = true) (n : Nat) : Instr.sameBits n v u = true := by
 cases kk <;> cases k <;> simp [keyFits] at fk <;> cases d <;> simp [kOk] at hd <;> simp only [VR] at hk <;> subst hk <;> cases v <;> simp [Instr.sameNow] at hx
 ·obtain ⟨rfl, rfl⟩ := hx; simp [Instr.sameBits]
 ·subst hx; simp [Instr.sameBits]
 ·simp only [Instr.sameBits]
  rw [beq_toListBytes] at hx ⊢
  rw [beq_iff_eq] at hx ⊢
  exact hx.symm
theorem mapUpdate_sound {mt kt et : TypeId} {ti tk : TI} (hti : E.ty mt = some ti) (hk : ti.k = .mp kt et) (htk : E.ty kt = some tk) {m : Nat} {k v : AV} {mv kv vv : Value} (hm : VR j (.mp (some m)) mv) (hkv : VR j k kv) (hvv : VR j v vv) (fk : keyFits tk.k k = true) {es : List (AV × AV)} (hes : S.rw.get m = some (.map tk.k es)) :
 ∃ w', (Instr.mapUpdate mt mv kv vv).run P w = .ok () w' ∧ Good w0 j S w j { S with rw := S.rw.set m (some (.map tk.k (updA k v es))) } w' := by
 simp only [VR] at hm
 obtain ⟨y, hy, rfl⟩ := hm
 obtain ⟨hmn, x, hx, hxc, ms, clk, h1, h2, h3, h4⟩ := hR.rw m _ hes
 rw [hy] at hx; cases hx
 obtain ⟨d, hd1, hd2⟩ := EnvOk.und' hE htk w
 have hck := fun b => checkKey_plain (j := j) hd1 hd2 hkv fk b
 have hs : ∀ x v', VR j x v' → keyFits tk.k x = true → Instr.sameNow d kv v' = some (AV.beq k x) := fun x v' hx fx => sameNow_sound hd2 hkv hx fk fx
 have hcs : y.c < w.heap.size := (Array.getElem?_eq_some_iff.1 h1).1
 have hset : ∀ o : Obj, (setObj y.c o).run P w = .ok () (World.putBlk w y.c o) := by
  intro o; simp [setObj, Sem.run, h1, World.putBlk]
 have hnew : ∀ o : Obj, (World.putBlk w y.c o).heap[y.c]? = some o := by intro o; rw [putBlk_get _ _ _ _ hcs]; simp
 have hfits := updA_fits (v := v) fk es h2
 rcases upd_sound hs hkv hvv es ms.toList 0 h2 h3 h4 with ⟨q1, q2⟩ | ⟨n, e, x', q1, q2, q3, q4⟩
 ·let o : Obj := .map (ms.push { key := kv, val := vv, born := clk }) (clk + 1)
  refine ⟨World.putBlk w y.c o, ?_, R.turn hR (x := y) hes hy ⟨_, _, hnew o, hfits, ?_, ?_⟩⟩
  ·simp only [Instr.mapUpdate, Sem.run_bind, hE.uMap hti hk w, Result.andThen_ok, getObj, Sem.run, h1, Sem.run_pure, hck, Instr.findKey, hd1, q1]
   exact hset o
  ·rw [q2]
   simp only [List.map_append, Array.toList_push]
   exact VRs.append h3 (by simp only [List.map_cons, List.map_nil, VRs]; exact ⟨_, _, rfl, hkv, rfl⟩)
  ·rw [q2]
   simp only [List.map_append, Array.toList_push]
   exact VRs.append h4 (by simp only [List.map_cons, List.map_nil, VRs]; exact ⟨_, _, rfl, hvv, rfl⟩)
 ·rw [Nat.zero_add] at q1
  have hge : ms[n]? = some e := by simpa using q2
  let o : Obj := .map (ms.modify n fun e => { e with key := kv, val := vv }) clk
  have hto : (ms.modify n fun e => { e with key := kv, val := vv }).toList = ms.toList.set n { key := kv, val := vv, born := e.born } := by
   apply List.ext_getElem?
   intro i
   simp only [Array.toList_modify, List.getElem?_modify, List.getElem?_set]
   by_cases hi : n = i
   ·subst hi
    obtain ⟨hlt, hgv⟩ := Array.getElem?_eq_some_iff.1 hge
    simp [hlt, hgv]
   ·simp [hi]
  refine ⟨World.putBlk w y.c o, ?_, R.turn hR (x := y) hes hy ⟨_, _, hnew o, hfits, ?_, ?_⟩⟩
  ·simp only [Instr.mapUpdate, Sem.run_bind, hE.uMap hti hk w, Result.andThen_ok, getObj, Sem.run, h1, Sem.run_pure, hck, Instr.findKey, hd1, q1, hge, Option.map_some, Option.getD_some, Instr.keyThatStays, sameBits_of (x := k) hd2 hkv q3 fk, if_true]
   exact hset o
  ·rw [hto]; exact (q4 e.born).1
  ·rw [hto]; exact (q4 e.born).2
omit hE hR in
theorem del_sound {kk : TK} {d : TypeDesc} {k : AV} {u : Value} (hs : ∀ x v, VR j x v → keyFits kk x = true → Instr.sameNow d u v = some (AV.beq k x)) :
 ∀ (es : List (AV × AV)) (ms : List MapEntry) (i : Nat), (∀ e ∈ es, keyFits kk e.1 = true) → VRs j (es.map (·.1)) (ms.map (·.key)) → VRs j (es.map (·.2)) (ms.map (·.val)) →
   (Instr.findNow d u ms i = some none ∧ delA k es = es) ∨ ∃ n x, Instr.findNow d u ms i = some (some (i + n, x)) ∧ n < ms.length ∧
    VRs j ((delA k es).map (·.1)) ((ms.eraseIdx n).map (·.key)) ∧ VRs j ((delA k es).map (·.2)) ((ms.eraseIdx n).map (·.val))
 | [], ms, i, _, h1, _ => by
   simp only [List.map_nil, VRs] at h1
   have : ms = [] := by simpa using h1
   subst this
   exact .inl ⟨rfl, rfl⟩
 | (x, y) :: es, ms, i, hpl, h1, h2 => by
   cases ms with
   | nil => simp [VRs] at h1
   | cons m ms =>
     simp only [List.map_cons, VRs] at h1 h2
     obtain ⟨a, b, he1, r1, r2⟩ := h1
     obtain ⟨c, d', he2, s1, s2⟩ := h2
     cases he1; cases he2
     have hs' := hs x m.key r1 (hpl (x, y) (by simp))
     cases hb : AV.beq k x with
     | true =>
       rw [hb] at hs'
       refine .inr ⟨0, m.val, by simp [Instr.findNow, hs'], by simp, ?_⟩
       simp only [delA, hb, cond_true, List.eraseIdx_cons_zero]
       exact ⟨r2, s2⟩
     | false =>
       rw [hb] at hs'
       rcases del_sound hs es ms (i + 1) (fun e he => hpl e (by simp [he])) r2 s2 with ⟨q1, q2⟩ | ⟨n, x', q1, q2, q3, q4⟩
       ·exact .inl ⟨by simpa [Instr.findNow, hs'] using q1, by simp [delA, hb, q2]⟩
       ·refine .inr ⟨n + 1, x', by rw [show i + (n + 1) = i + 1 + n by omega]; simpa [Instr.findNow, hs'] using q1, by simp; omega, ?_⟩
        simp only [delA, hb, cond_false, List.map_cons, List.eraseIdx_cons_succ, VRs]
        exact ⟨⟨_, _, rfl, r1, q3⟩, ⟨_, _, rfl, s1, q4⟩⟩
omit hE hR in
theorem delA_sub {k : AV} : ∀ (es : List (AV × AV)), ∀ e ∈ delA k es, e ∈ es
 | [], e, he => he
 | (x, y) :: es, e, he => by
   simp only [delA] at he
   cases hb : AV.beq k x with
   | true => rw [hb] at he; exact List.mem_cons_of_mem _ he
   | false =>
     rw [hb] at he
     simp only [cond_false, List.mem_cons] at he
     rcases he with rfl | he
     ·exact List.mem_cons_self
     ·exact List.mem_cons_of_mem _ (delA_sub es e he)
theorem evDelete_sound {argTypes : Array TypeId} {t ty : TypeId} (h0 : argTypes[0]? = some t) {m k : AV} {mv kv : Value} (hm : VR j m mv) (hkv : VR j k kv) {K : AV → AS → Option β} (h : evDelete E S t m k K = some r) :
 ∃ av S', K av S' = some r ∧ ∃ v w' j', (Builtin.delete_ argTypes ty #[mv, kv]).run P w = .ok v w' ∧ Good w0 j S w j' S' w' ∧ VR j' av v ∧ S'.loops = S.loops := by
 unfold evDelete at h
 split at h
 case h_2 => cases h
 rename_i ti hti
 split at h
 case h_2 => cases h
 rename_i kt et hk
 split at h
 case h_2 => cases h
 rename_i tk htk
 obtain ⟨mm, hmm, hA⟩ := gM_inv h
 cases mm with
 | none => cases hA
 | some n =>
 subst hmm
 simp only [AS.mapOf] at hA
 split at hA
 case h_2 => cases hA
 rename_i kk es hes
 obtain ⟨hkk, hB⟩ := ite_inv hA
 subst hkk
 obtain ⟨fk, hC⟩ := cond_inv hB
 simp only [VR] at hm
 obtain ⟨y, hy, rfl⟩ := hm
 obtain ⟨hmn, x, hx, hxc, ms, clk, h1, h2, h3, h4⟩ := hR.rw n _ hes
 rw [hy] at hx; cases hx
 obtain ⟨d, hd1, hd2⟩ := EnvOk.und' hE htk w
 have hck := fun b => checkKey_plain (j := j) hd1 hd2 hkv fk b
 have hs : ∀ x v', VR j x v' → keyFits tk.k x = true → Instr.sameNow d kv v' = some (AV.beq k x) := fun x v' hx fx => sameNow_sound hd2 hkv hx fk fx
 have hcs : y.c < w.heap.size := (Array.getElem?_eq_some_iff.1 h1).1
 have hset : ∀ o : Obj, (setObj y.c o).run P w = .ok () (World.putBlk w y.c o) := by
  intro o; simp [setObj, Sem.run, h1, World.putBlk]
 have hnew : ∀ o : Obj, (World.putBlk w y.c o).heap[y.c]? = some o := by intro o; rw [putBlk_get _ _ _ _ hcs]; simp
 have hfits : ∀ e ∈ delA k es, keyFits tk.k e.1 = true := fun e he => h2 e (delA_sub es e he)
 have ha0 : (#[Value.map (some y.c), kv] : Array Value)[0]? = some (.map (some y.c)) := rfl
 have ha1 : (#[Value.map (some y.c), kv] : Array Value)[1]? = some kv := rfl
 have fin : ∀ o : Obj, ObjR j (.map tk.k (delA k es)) y (World.putBlk w y.c o) → (Builtin.delete_ argTypes ty #[.map (some y.c), kv]).run P w = .ok (.tuple #[]) (World.putBlk w y.c o) → ∃ av S', K av S' = some r ∧ ∃ v w' j', (Builtin.delete_ argTypes ty #[.map (some y.c), kv]).run P w = .ok v w' ∧ Good w0 j S w j' S' w' ∧ VR j' av v ∧ S'.loops = S.loops := fun o ho hr =>
  ⟨_, _, hC, .tuple #[], _, j, hr, R.turn hR (x := y) hes hy ho, by simp [VR, VRs], rfl⟩
 rcases del_sound hs es ms.toList 0 h2 h3 h4 with ⟨q1, q2⟩ | ⟨i, x', q1, q2, q3, q4⟩
 ·refine fin (.map ms clk) ⟨_, _, hnew _, hfits, by rw [q2]; exact h3, by rw [q2]; exact h4⟩ ?_
  simp only [Builtin.delete_, h0, ha0, ha1, Sem.run_bind, hE.uMap hti hk w, Result.andThen_ok, getObj, Sem.run, h1, Sem.run_pure, hck, Instr.findKey, hd1, q1]
  have := hset (.map ms clk)
  rw [this]; rfl
 ·rw [Nat.zero_add] at q1
  have hlt : i < ms.size := by simpa using q2
  have hto : (ms.eraseIdxIfInBounds i).toList = ms.toList.eraseIdx i := by
   rw [Array.toList_eraseIdxIfInBounds]
  refine fin (.map (ms.eraseIdxIfInBounds i) clk) ⟨_, _, hnew _, hfits, by rw [hto]; exact q3, by rw [hto]; exact q4⟩ ?_
  simp only [Builtin.delete_, h0, ha0, ha1, Sem.run_bind, hE.uMap hti hk w, Result.andThen_ok, getObj, Sem.run, h1, Sem.run_pure, hck, Instr.findKey, hd1, q1]
  have := hset (.map (ms.eraseIdxIfInBounds i) clk)
  rw [this]; rfl
omit hE hR in
theorem freeze_put {w : World} {b : Nat} {C : Array Value} {e : TypeId} {fr : Nat × Nat} (h : w.heap[b]? = some (.cells C e fr)) : w.freeze ⟨b, C.size, none⟩ 1 = World.putBlk w b (.cells C e (if fr.1 == fr.2 then (C.size, C.size + 1) else (min fr.1 C.size, max fr.2 (C.size + 1)))) := by
 obtain ⟨lo, hi⟩ := fr
 unfold World.freeze World.putBlk
 rw [if_neg (by decide)]
 congr 1
 apply Array.ext_getElem?
 intro k
 rw [Array.getElem?_modify, Array.getElem?_setIfInBounds]
 have hlt := (Array.getElem?_eq_some_iff.1 h).1
 by_cases hk : b = k
 ·subst hk
  simp only [if_true, if_pos hlt, h, Option.map_some]
 ·simp only [if_neg hk]
theorem evEff_sound {T : Tm} {a : Act} (hT : TR j T a.tmps) {o : Oper} {K : AV → AS → Option β} (h : evEff E S T o.op K = some r) :
 ∃ av S', K av S' = some r ∧ EffRes P w0 j S w ((execOp a.eval o).run P w) av S' := by
 obtain ⟨dst, op, type, pos, after, guard⟩ := o
 simp only at h
 cases op with
 | store t x y =>
   simp only [evEff] at h
   obtain ⟨b, i, hb, hA⟩ := gA_inv h
   have hc := evalO_vr hT x
   rw [hb] at hc
   simp only [VR] at hc
   obtain ⟨y', hy, hc⟩ := hc
   obtain ⟨z, S', w', hz, hK, hrun, hg, hlp⟩ := stT_sound hE hR (evalO_vr hT y) hA
   rw [hy] at hz; cases hz
   refine ⟨_, S', hK, undef, w', j, .inr ⟨?_, rfl⟩, hg, by simp only [VR]; exact ⟨#[], rfl, by simp [VRs]⟩, hlp⟩
   simp only [execOp, Sem.run_bind, Instr.storeAt, hc, Instr.sureAddr, Sem.run_pure, Result.andThen_ok, hrun]
 | convert s d x =>
   simp only [evEff] at h
   split at h
   case h_2 => cases h
   rename_i ts hts
   split at h
   case h_2 => cases h
   rename_i e hk
   obtain ⟨hsd, hA⟩ := ite_inv h
   subst hsd
   split at hA
   case h_2 => cases hA
   rename_i te hte
   split at hA
   case h_2 => cases hA
   rename_i hku
   obtain ⟨aa, l, c, hx, hB⟩ := gL_inv hA
   obtain ⟨hl0, hC⟩ := ite_inv' hB
   split at hC
   case h_2 => cases hC
   rename_i b i
   split at hC
   case h_2 => cases hC
   rename_i cs hget
   have hc := evalO_vr hT x
   rw [hx] at hc
   have hc0 := hc
   simp only [VR] at hc
   obtain ⟨y, o, c', hy, hv, hlc, hcap, ho, hcn⟩ := hc
   have ho' : o = ⟨y.c, y.off + i, none⟩ := by
    rcases ho with h | h
    ·omega
    ·exact h
   subst ho'
   obtain ⟨hbn, x1, hx1, hbc, ⟨C, e', fr, hC1, ht, hle', hall⟩, hun⟩ := hR.rw b _ hget
   rw [hy] at hx1; cases hx1
   have hcs : y.c < w.heap.size := (Array.getElem?_eq_some_iff.1 hC1).1
   let fr' : Nat × Nat := if fr.1 == fr.2 then (C.size, C.size + 1) else (min fr.1 C.size, max fr.2 (C.size + 1))
   let ob : Obj := .cells C e' fr'
   have hfz : w.freeze ⟨y.c, C.size, none⟩ 1 = World.putBlk w y.c ob := freeze_put hC1
   have hnew : (World.putBlk w y.c ob).heap[y.c]? = some ob := by rw [putBlk_get _ _ _ _ hcs]; simp
   have hobj : ObjR j (.cells cs) y (World.putBlk w y.c ob) := by
    refine ⟨⟨C, e', fr', hnew, ht, hle', hall⟩, fun C2 e2 fr2 h2 => ?_⟩
    rw [hnew] at h2
    simp only [ob] at h2
    cases h2
    have hu := hun C e' fr hC1
    by_cases heq : fr.1 = fr.2
    ·simp only [fr', heq, beq_self_eq_true, if_true]; omega
    ·have hb : (fr.1 == fr.2) = false := by simpa using heq
     simp only [fr', hb, Bool.false_eq_true, if_false]; omega
   have hg := R.turn hR (o' := .cells cs) (ob := ob) hget hy hobj
   refine ⟨_, _, hC, .slice (some ⟨y.c, y.off + i, none⟩) l c', _, j, .inl ?_, hg, by rw [← hv]; exact hc0, rfl⟩
   have hms := run_markStringish (P := P) (o := y.off + i) hC1
   simp only [execOp, run_val, hv, convert, Sem.run_bind, hE.uSl hts hk w, Result.andThen_ok, beq_self_eq_true, hE.uInt hte hku w, hms, hfz, Sem.run_pure]
 | mapUpdate mt m k x =>
   simp only [evEff] at h
   split at h
   case h_2 => cases h
   rename_i ti hti
   split at h
   case h_2 => cases h
   rename_i kt et hk
   split at h
   case h_2 => cases h
   rename_i tk htk
   obtain ⟨mm, hm, hA⟩ := gM_inv h
   cases mm with
   | none => cases hA
   | some n =>
   simp only [AS.mapOf] at hA
   split at hA
   case h_2 => cases hA
   rename_i kk es hes
   obtain ⟨hkk, hB⟩ := ite_inv hA
   subst hkk
   obtain ⟨fk, hC⟩ := cond_inv hB
   obtain ⟨te, hte, hD⟩ := fitT_inv hC
   have hmv := evalO_vr hT m
   rw [hm] at hmv
   obtain ⟨w', hrun, hg⟩ := mapUpdate_sound hE hR hti hk htk hmv (evalO_vr hT k) (evalO_vr hT x) fk hes
   refine ⟨_, _, hD, undef, w', j, .inr ⟨?_, rfl⟩, hg, by simp only [VR]; exact ⟨#[], rfl, by simp [VRs]⟩, rfl⟩
   simp only [execOp, Sem.run_bind, hrun, Result.andThen_ok, Sem.run_pure]
 | call c =>
   simp only [evEff] at h
   split at h
   case h_2 => cases h
   rename_i b hb
   have hvs := VRs.of_map hT c.args.toList
   have hexec : (execOp a.eval ⟨dst, .call c, type, pos, after, guard⟩).run P w = (builtin b c.argTypes type (c.args.map fun | .const _ => true | _ => false) (c.args.map a.eval)).run P w := by
    simp only [execOp, resolve, hb, Sem.run_bind, Sem.run_pure, Result.andThen_ok, invoke]
    rfl
   rw [hexec]
   unfold evGrow at h
   split at h
   ·rename_i s x heq
    rw [heq] at hvs
    obtain ⟨sv, xv, he, hs, hx⟩ := hvs.two
    have hargs : c.args.map a.eval = #[sv, xv] := by rw [← Array.toList_inj]; simpa using he
    split at h
    case h_2 => cases h
    rename_i t u h0 h1
    split at h
    case h_2 => cases h
    rename_i tu htu
    have key : ∀ (hku : (∃ e, tu.k = .sl e) ∨ tu.k = .str), evAppend E S t s x K = some r → ∃ av S', K av S' = some r ∧ EffRes P w0 j S w ((builtin .append c.argTypes type (c.args.map fun | .const _ => true | _ => false) (c.args.map a.eval)).run P w) av S' := by
     intro hku h
     obtain ⟨av, S', hK, v, w', j', hrun, hg, hv, hlp⟩ := evAppend_sound hE hR h0 h1 htu hku (ty := type) hs hx h
     refine ⟨av, S', hK, v, w', j', .inl ?_, hg, hv, hlp⟩
     rw [hargs]
     simp only [builtin, run_val, hrun, Result.andThen_ok]
    split at h
    ·rename_i e hk; exact key (.inl ⟨_, hk⟩) h
    ·rename_i hk; exact key (.inr hk) h
    ·rename_i ku hk
     obtain ⟨av, S', hK, v, w', j', hrun, hg, hv, hlp⟩ := evAppendZ_sound hE hR h0 h1 htu hk (ty := type) hs hx h
     refine ⟨av, S', hK, v, w', j', .inl ?_, hg, hv, hlp⟩
     rw [hargs]
     simp only [builtin, run_val, hrun, Result.andThen_ok]
    ·cases h
   ·rename_i d x heq
    rw [heq] at hvs
    obtain ⟨sv, xv, he, hs, hx⟩ := hvs.two
    have hargs : c.args.map a.eval = #[sv, xv] := by rw [← Array.toList_inj]; simpa using he
    split at h
    case h_2 => cases h
    rename_i t h0
    obtain ⟨av, S', hK, v, w', j', hrun, hg, hv, hlp⟩ := evCopy_sound hE hR h0 (ty := type) hs hx h
    refine ⟨av, S', hK, v, w', j', .inl ?_, hg, hv, hlp⟩
    rw [hargs]
    simp only [builtin, run_val, hrun, Result.andThen_ok]
   ·rename_i d heq
    rw [heq] at hvs
    obtain ⟨sv, he, hs⟩ := hvs.one
    have hargs : c.args.map a.eval = #[sv] := by rw [← Array.toList_inj]; simpa using he
    split at h
    case h_2 => cases h
    rename_i t h0
    obtain ⟨av, S', hK, v, w', j', hrun, hg, hv, hlp⟩ := evClear_sound hE hR h0 (ty := type) hs h
    refine ⟨av, S', hK, v, w', j', .inl ?_, hg, hv, hlp⟩
    rw [hargs]
    simp only [builtin, run_val, hrun, Result.andThen_ok]
   ·rename_i m k heq
    rw [heq] at hvs
    obtain ⟨mv, kv, he, hm, hk⟩ := hvs.two
    have hargs : c.args.map a.eval = #[mv, kv] := by rw [← Array.toList_inj]; simpa using he
    split at h
    case h_2 => cases h
    rename_i t h0
    obtain ⟨av, S', hK, v, w', j', hrun, hg, hv, hlp⟩ := evDelete_sound hE hR h0 (ty := type) hm hk h
    refine ⟨av, S', hK, v, w', j', .inl ?_, hg, hv, hlp⟩
    rw [hargs]
    simp only [builtin, run_val, hrun, Result.andThen_ok]
   ·cases h
 | _ => simp [evEff] at h
end
end Go.Gr
