/- Operations that make a block. -/
import Derived.Test.YtcepfilbiahdjaaGrOps5
import Derived.Laws.BitsLemmas
set_option linter.unusedVariables false
set_option linter.unusedSimpArgs false
set_option linter.unusedSectionVars false
namespace Go.Gr
theorem wrap_i64_in (n : Int) (h0 : 0 ≤ n) (h1 : n ≤ 9223372036854775807) : IntKind.i64.wrap n = n := by rw [IntKind.wrap_i64]; omega
theorem ofBytes_row {j : J} (s : List UInt8) : VRs j (ofBytes s) (s.map fun b => Value.int .u8 (b.toNat : Int)) := by
 induction s with
 | nil => simp [ofBytes, VRs]
 | cons b s ih => simp only [ofBytes, List.map_cons, VRs] at ih ⊢; exact ⟨_, _, rfl, vr_int _ _ _, ih⟩
theorem objR_new {j : J} {cs : List AV} {C : Array Value} {e : TypeId} {fr : Nat × Nat} {c : Nat} {w' : World} (hh : w'.heap[c]? = some (.cells C e fr)) (hle : cs.length ≤ C.size) (hv : VRs j cs (C.toList.take cs.length)) (hone : ∀ u ∈ C.toList.take cs.length, Value.oneCell' u = true) (hfr : fr.1 = fr.2 ∨ C.size ≤ fr.1) :
 ObjR j (.cells cs) ⟨c, 0, C.size⟩ w' := by
 refine ⟨⟨C, e, fr, hh, rfl, by simpa using hle, fun i v hi => ?_⟩, fun C' e' fr' h' => ?_⟩
 ·obtain ⟨u, hu, hr⟩ := hv.get _ _ hi
  have hlt : i < cs.length := (List.getElem?_eq_some_iff.1 hi).1
  rw [List.getElem?_take, if_pos hlt] at hu
  refine ⟨u, by simpa using hu, hr, hone u ?_⟩
  apply List.mem_of_getElem? (i := i)
  rw [List.getElem?_take, if_pos hlt]; exact hu
 ·simp only at h'
  rw [hh] at h'; cases h'; exact hfr
theorem objR_row {j : J} {cs : List AV} {C : Array Value} {e : TypeId} {c : Nat} {w' : World} (hh : w'.heap[c]? = some (.cells C e (0, 0))) (hr : RowR j cs C) : ObjR j (.cells cs) ⟨c, 0, C.size⟩ w' := by
 have hl := hr.1.length
 simp only [Array.length_toList] at hl
 have ht : C.toList.take cs.length = C.toList := by rw [hl]; exact List.take_of_length_le (by simp)
 exact objR_new hh (by omega) (by rw [ht]; exact hr.1) (by rw [ht]; exact hr.2) (.inl rfl)
theorem run_markStringish {P : Program} {w : World} {c o : Nat} {e : TypeId} {C : Array Value} {fr : Nat × Nat} (h : w.heap[c]? = some (.cells C e fr)) : (markStringish ⟨c, o, none⟩).run P w = .ok () (w.freeze ⟨c, C.size, none⟩ 1) := by
 simp [markStringish, World.shape?, h]
section
variable {E : Env} {P : Program} (hE : EnvOk E P) {w : World} {j : J} {β : Type} {r : β}
include hE
def NewRes (P : Program) (w : World) (j : J) (nx : Nat) (ρ : Operand → Value) (o : Oper) (av : AV) (ob : AObj) : Prop :=
 ∃ v obc dr tot, (execOp ρ o).run P w = .ok (.value v) { w with heap := w.heap.push obc, drawn := dr } ∧
   ∀ (j' : J) (w' : World), j.le j' → j' (.rw nx) = some ⟨w.heap.size, 0, tot⟩ → w'.heap[w.heap.size]? = some obc → VR j' av v ∧ ObjR j' ob ⟨w.heap.size, 0, tot⟩ w'
theorem RowR.mono {j j' : J} (h : j.le j') {cs : List AV} {C : Array Value} (r : RowR j cs C) : RowR j' cs C := ⟨VRs.mono h _ _ r.1, r.2⟩
theorem evNew_sound {nx : Nat} {T : Tm} {a : Act} (hT : TR j T a.tmps) {o : Oper} {K : AV → AObj → Option β} (h : evNew E nx T o.op K = some r) :
 ∃ av ob, K av ob = some r ∧ NewRes P w j nx a.eval o av ob := by
 obtain ⟨dst, op, type, pos, after, guard⟩ := o
 simp only at h
 cases op with
 | alloc e =>
   simp only [evNew] at h
   split at h
   case h_2 => cases h
   rename_i te hte
   obtain ⟨hn, hF⟩ := cond_inv h
   obtain ⟨z, hz1, hz2, hz3, hz4, hz5⟩ := hE.zero hte hn w
   refine ⟨_, _, hF, .pointer (some ⟨w.heap.size, 0, none⟩), .cells z.cells e, w.drawn, z.cells.size, ?_, ?_⟩
   ·simp [execOp, run_val, Instr.alloc, hz1, newVar, newRow]
   ·intro j' w' hj hx hw'
    refine ⟨by simp only [VR]; exact ⟨_, hx, rfl⟩, objR_row hw' ⟨(zsEq.vrs hz2).1, (zsEq.vrs (j := j') hz2).2⟩⟩
 | box e x =>
   simp only [evNew] at h
   split at h
   case h_2 => cases h
   rename_i te hte
   obtain ⟨cs, hK, hv, hl, hone⟩ := cellsOf_inv h (evalO_vr hT x)
   refine ⟨_, _, hK, .pointer (some ⟨w.heap.size, 0, none⟩), .cells (a.eval x).cells e, w.drawn, (a.eval x).cells.size, ?_, ?_⟩
   ·simp [execOp, run_val, Instr.box, newVar, newRow]
   ·intro j' w' hj hx hw'
    exact ⟨by simp only [VR]; exact ⟨_, hx, rfl⟩, objR_row hw' ⟨VRs.mono hj _ _ hv, hone⟩⟩
 | buildSlice t n parts =>
   simp only [evNew] at h
   split at h
   case h_2 => cases h
   rename_i te hte
   split at h
   case h_2 => cases h
   rename_i e hk
   split at h
   case h_2 => cases h
   rename_i ti hti
   obtain ⟨hlim, h1⟩ := ite_inv h
   obtain ⟨hsz, h2⟩ := ite_inv' h1
   obtain ⟨hn, h3⟩ := cond_inv h2
   obtain ⟨z, hz1, hz2, hz3, hz4, hz5⟩ := hE.zero hti hn w
   have hrow := zeros_row (j := j) (z := ti.zero) (Z := z.cells) ⟨(zsEq.vrs hz2).1, (zsEq.vrs (j := j) hz2).2⟩ n
   rw [hz5] at hrow
   obtain ⟨cs', C', q1, q2, q3, q4, q5⟩ := fillA_sound hE (place := fun i => some (e, i * ti.size)) (cplace := fun i => some (i * ti.size, ti.size)) (by
    intro i t off tj hi hj
    simp at hi
    obtain ⟨rfl, rfl⟩ := hi
    rw [hti] at hj; cases hj; rfl) hT parts.toList _ _ _ hrow h3
   refine ⟨_, _, q1, .slice (some ⟨w.heap.size, 0, none⟩) n n, .cells C' e, w.drawn, C'.size, ?_, ?_⟩
   ·have hparts : (parts.map fun (x : Nat × Operand) => (x.1, a.eval x.2)).toList = parts.toList.map fun p => (p.1, a.eval p.2) := by simp
    have hlim' : ¬ (n * ti.size > 2 ^ 24) := by omega
    have hz : (if n * ti.size = 0 then pure #[] else do pure (← zeroValue e).cells : Sem (Array Value)).run P w = .ok (if n * ti.size = 0 then #[] else z.cells) w := by
     split
     ·rfl
     ·simp [hz1]
    have harr : (Array.range (n * ti.size)).map ((if n * ti.size = 0 then #[] else z.cells : Array Value)[· % (if n * ti.size = 0 then #[] else z.cells : Array Value).size]!) = (Array.range (n * ti.size)).map (z.cells[· % ti.size]!) := by
     split
     ·rename_i h0; rw [h0]; simp
     ·rw [hz5]
    simp only [execOp, run_val]
    have : (Instr.buildSlice t n (parts.map fun (i, x) => (i, a.eval x))).run P w = .ok (.slice (some ⟨w.heap.size, 0, none⟩) n n) { w with heap := w.heap.push (.cells C' e) } := by
     unfold Instr.buildSlice
     simp only [Sem.run_bind, hE.uSl hte hk w, Result.andThen_ok, hE.size hti w]
     rw [if_neg hlim']
     by_cases h0 : n * ti.size = 0
     ·rw [if_pos h0] at harr ⊢
      simp only [Sem.run_bind, Sem.run_pure, Result.andThen_ok, harr, hparts, q5, newRow, run_newObj]
     ·rw [if_neg h0] at harr ⊢
      simp only [Sem.run_bind, hz1, Sem.run_pure, Result.andThen_ok, harr, hparts, q5, newRow, run_newObj]
    rw [this]; rfl
   ·intro j' w' hj hx hw'
    refine ⟨?_, objR_row hw' (RowR.mono hE hj q2)⟩
    simp only [VR]
    exact ⟨_, _, n, hx, rfl, Nat.le_refl _, (fun z hz => by cases hz; rfl), .inr rfl, (fun z m hz => by cases hz)⟩
 | convert src dst x =>
   simp only [evNew] at h
   split at h
   case h_2 => cases h
   rename_i ts td hs hd
   split at h
   case h_2 => cases h
   rename_i e hks hkd
   obtain ⟨s, hb, h⟩ := gS_inv h
   split at h
   case h_2 => cases h
   rename_i te hte
   split at h
   case h_2 => cases h
   rename_i hku
   obtain ⟨hlen, hF⟩ := ite_inv h
   have hc := evalO_vr hT x
   rw [hb] at hc
   simp only [VR] at hc
   let cap := Question.cut (.appendCap s.length 0 e) (w.tape w.drawn (.appendCap s.length 0 e))
   let C : Array Value := (⟨s.toArray⟩ : ByteArray).data.map (fun b => Value.int .u8 (b.toNat : Int)) ++ Array.replicate (cap - s.length) (.int .u8 0)
   have hCl : C.toList = s.map (fun b => Value.int .u8 (b.toNat : Int)) ++ List.replicate (cap - s.length) (.int .u8 0) := by simp [C]
   have hcap : s.length ≤ cap := by simp only [cap, Question.cut]; omega
   have hCs : C.size = cap := by
    have : C.toList.length = cap := by rw [hCl]; simp; omega
    simpa using this
   refine ⟨_, _, hF, .slice (some ⟨w.heap.size, 0, none⟩) s.length cap, .cells C e (C.size, C.size + 1), w.drawn + 1, C.size, ?_, ?_⟩
   ·simp only [execOp, run_val]
    have : (convert src dst (a.eval x)).run P w = .ok (.slice (some ⟨w.heap.size, 0, none⟩) s.length cap) { w with heap := w.heap.push (.cells C e (C.size, C.size + 1)), drawn := w.drawn + 1 } := by
     rw [hc]
     simp only [convert, Sem.run_bind, hE.uStr hs hks w, Result.andThen_ok, hE.uSl hd hkd w, hE.uInt hte hku w, Conv.stringToBytes, run_choose, str_size, Question.forced, Bool.false_eq_true, if_false]
     simp only [newRow, run_newObj, Sem.run_bind, Result.andThen_ok, Sem.run_pure]
     have hget : ({ w with drawn := w.drawn + 1, heap := w.heap.push (.cells C e) } : World).heap[w.heap.size]? = some (.cells C e (0, 0)) := by simp
     have hms := run_markStringish (P := P) (o := 0) hget
     have hpush : World.freeze { w with drawn := w.drawn + 1, heap := w.heap.push (.cells C e) } ⟨w.heap.size, C.size, none⟩ 1 = { w with drawn := w.drawn + 1, heap := w.heap.push (.cells C e (C.size, C.size + 1)) } := by
      unfold World.freeze
      simp only [Nat.one_ne_zero, if_false]
      congr 1
      apply Array.ext_getElem?
      intro k
      simp only [Array.getElem?_modify, Array.getElem?_push]
      by_cases hk : w.heap.size = k
      ·subst hk; simp
      ·have hk' : ¬ k = w.heap.size := fun h => hk h.symm
       simp [hk, hk']
     rw [hpush] at hms
     exact (congrArg (fun q => Result.andThen q (fun (_ : Unit) w' => Result.ok (Value.slice (some ⟨w.heap.size, 0, none⟩) s.length cap) w')) hms)
    rw [this]; rfl
   ·intro j' w' hj hx hw'
    refine ⟨?_, objR_new hw' ?_ ?_ ?_ (.inr (Nat.le_refl _))⟩
    ·simp only [VR]
     exact ⟨_, _, cap, hx, rfl, hcap, (fun z hz => by cases hz), .inr rfl, (fun z m hz => by cases hz; exact ⟨by simp [hCs], hcap⟩)⟩
    ·rw [hCs]; simpa [ofBytes] using hcap
    ·rw [hCl]; simp only [ofBytes, List.length_map]; rw [List.take_append_of_le_length (by simp), List.take_of_length_le (by simp)]; exact ofBytes_row s
    ·rw [hCl]; simp only [ofBytes, List.length_map]; rw [List.take_append_of_le_length (by simp), List.take_of_length_le (by simp)]
     intro u hu; obtain ⟨b, _, rfl⟩ := List.mem_map.1 hu; rfl
 | makeMap mt rs =>
   simp only [evNew] at h
   split at h
   case h_2 => cases h
   rename_i ti hti
   split at h
   case h_2 => cases h
   rename_i kt et hk
   split at h
   case h_2 => cases h
   rename_i tk htk
   have hfin : ∀ (j' : J) (w' : World), j.le j' → j' (.rw nx) = some ⟨w.heap.size, 0, 0⟩ → w'.heap[w.heap.size]? = some (.map #[] 0) → VR j' (.mp (some nx)) (.map (some w.heap.size)) ∧ ObjR j' (.map tk.k []) ⟨w.heap.size, 0, 0⟩ w' := by
    intro j' w' hj hx hw'
    exact ⟨by simp only [VR]; exact ⟨_, hx, rfl⟩, #[], 0, hw', by simp, by simp [VRs], by simp [VRs]⟩
   split at h
   ·exact ⟨_, _, h, .map (some w.heap.size), .map #[] 0, w.drawn, 0, by simp [execOp, run_val, Instr.makeMap], hfin⟩
   ·rename_i x
    obtain ⟨k, n, hb, hF⟩ := gI_inv h
    have hc := evalO_vr hT x
    rw [hb] at hc
    simp only [VR] at hc
    exact ⟨_, _, hF, .map (some w.heap.size), .map #[] 0, w.drawn, 0, by simp [execOp, run_val, Instr.makeMap, hc, asInt, asIntOf, hE.uMap hti hk w], hfin⟩
 | makeSlice t l c =>
   simp only [evNew] at h
   split at h
   case h_2 => cases h
   rename_i te hte
   split at h
   case h_2 => cases h
   rename_i e hk
   split at h
   case h_2 => cases h
   rename_i ti hti
   obtain ⟨k1, n1, hb1, h01, h1⟩ := idx_inv h
   obtain ⟨k2, n2, hb2, h02, h2⟩ := idx_inv h1
   obtain ⟨hlc, h3⟩ := ite_inv h2
   obtain ⟨hby, h4⟩ := ite_inv h3
   obtain ⟨hcm, h5⟩ := ite_inv h4
   obtain ⟨hsz, h6⟩ := ite_inv' h5
   obtain ⟨hn, hF⟩ := cond_inv h6
   obtain ⟨z, hz1, hz2, hz3, hz4, hz5⟩ := hE.zero hti hn w
   have hrow := zeros_row (j := j) (z := ti.zero) (Z := z.cells) ⟨(zsEq.vrs hz2).1, (zsEq.vrs (j := j) hz2).2⟩ n2.toNat
   rw [hz5] at hrow
   have hc1 := evalO_vr hT l
   have hc2 := evalO_vr hT c
   rw [hb1] at hc1
   rw [hb2] at hc2
   simp only [VR] at hc1 hc2
   unfold pow46 at hby hcm
   refine ⟨_, _, hF, .slice (some ⟨w.heap.size, 0, none⟩) n1.toNat n2.toNat, .cells ((Array.range (n2.toNat * ti.size)).map (z.cells[· % ti.size]!)) e, w.drawn, ((Array.range (n2.toNat * ti.size)).map (z.cells[· % ti.size]!)).size, ?_, ?_⟩
   ·obtain ⟨i, hi1, hi2, hi3⟩ := hE.bytes hti w
    have hw1 : IntKind.i64.wrap n1 = n1 := wrap_i64_in n1 h01 (by omega)
    have hw2 : IntKind.i64.wrap n2 = n2 := wrap_i64_in n2 h02 (by omega)
    have hz : (if n2.toNat * ti.size = 0 then pure #[] else do pure (← zeroValue e).cells : Sem (Array Value)).run P w = .ok (if n2.toNat * ti.size = 0 then #[] else z.cells) w := by
     split
     ·rfl
     ·simp [hz1]
    have harr : (Array.range (n2.toNat * ti.size)).map ((if n2.toNat * ti.size = 0 then #[] else z.cells : Array Value)[· % (if n2.toNat * ti.size = 0 then #[] else z.cells : Array Value).size]!) = (Array.range (n2.toNat * ti.size)).map (z.cells[· % ti.size]!) := by
     split
     ·rename_i h0; rw [h0]; simp
     ·rw [hz5]
    have hlarge : (decide (n2 < 0) || decide ((ti.bytes : Int) * n2 > 2 ^ 48)) = false := by
     have h1 : (ti.bytes : Int) * n2 = ((n2.toNat * ti.bytes : Nat) : Int) := by
      rw [Nat.mul_comm, Int.natCast_mul, Int.toNat_of_nonneg h02]
     have h2 : ((n2.toNat * ti.bytes : Nat) : Int) ≤ 70368744177664 := Int.ofNat_le.2 hby
     have h3 : (2 : Int) ^ 48 = 281474976710656 := rfl
     rw [h1, h3]
     simp only [Bool.or_eq_false_iff, decide_eq_false_iff_not]
     omega
    have : (Instr.makeSlice t (a.eval l) (a.eval c)).run P w = .ok (.slice (some ⟨w.heap.size, 0, none⟩) n1.toNat n2.toNat) { w with heap := w.heap.push (.cells ((Array.range (n2.toNat * ti.size)).map (z.cells[· % ti.size]!)) e) } := by
     unfold Instr.makeSlice
     simp only [hc1, hc2, asInt, asIntOf, Sem.run_bind, hE.uSl hte hk w, Result.andThen_ok, Sem.run_pure, hi1, hw1, hw2, hi3, hlarge]
     rw [if_neg (by simp; omega)]
     simp only [Sem.run_bind, run_askRoom, Result.andThen_ok, hE.size hti w]
     by_cases h0 : n2.toNat * ti.size = 0
     ·rw [if_pos h0] at harr ⊢
      simp only [Sem.run_bind, Sem.run_pure, Result.andThen_ok, harr, newRow, run_newObj]
     ·rw [if_neg h0] at harr ⊢
      simp only [Sem.run_bind, hz1, Sem.run_pure, Result.andThen_ok, harr, newRow, run_newObj]
    simp only [execOp, run_val]
    rw [this]; rfl
   ·intro j' w' hj hx hw'
    refine ⟨?_, objR_row hw' (RowR.mono hE hj hrow)⟩
    simp only [VR]
    exact ⟨_, _, n2.toNat, hx, rfl, by omega, (fun z hz => by cases hz; rfl), .inr rfl, (fun z m hz => by cases hz)⟩
 | _ => simp [evNew] at h
end
end Go.Gr
