/- What '==' says of two values of a plain type: whether their cells are the same. -/
import Derived.Test.YtcepfilbiahdjaaGrEnv
import Derived.Laws.StructEq
import Derived.ChangeKeysEq
set_option linter.unusedVariables false
set_option linter.unusedSimpArgs false
set_option linter.unusedSectionVars false
namespace Go.Gr
mutual
def plainB (P : Program) : Nat → TypeId → List AV → Bool
 | 0, _, _ => false
 | d + 1, t, z => match P.underlying t with
   | some (.int k) => (match z with
     | [.int k' _] => decide (k = k')
     | _ => false)
   | some .bool => (match z with
     | [.bool _] => true
     | _ => false)
   | some .string => (match z with
     | [.str _] => true
     | _ => false)
   | some (.struct fs) => !P.stoodInHeld t && plainFs P d fs.toList 0 z
   | some (.array n e) => (match P.info? e with
     | some i => Nat.ble 1 i.size && Nat.beq z.length (n * i.size) && (List.range n).all fun k => plainB P d e ((z.drop (k * i.size)).take i.size)
     | none => false)
   | _ => false
def plainFs (P : Program) : Nat → List Field → Nat → List AV → Bool
 | 0, _, _, _ => false
 | d + 1, [], _, z => z.isEmpty
 | d + 1, f :: fs, off, z => f.name != "_" && Nat.beq f.offset off && (match P.info? f.type with
   | some i => Nat.ble 1 i.size && Nat.ble i.size z.length && plainB P d f.type (z.take i.size) && plainFs P d fs (off + i.size) (z.drop i.size)
   | none => false)
end
def Whole (P : Program) (t : TypeId) (vs : List Value) (x : Value) : Prop :=
 match P.underlying t with
 | some (.struct _) => x = .agg vs.toArray
 | some (.array _ _) => x = .agg vs.toArray
 | _ => vs = [x]
theorem fitZ_len : ∀ {z l : List AV}, fitZ z l = true → z.length = l.length
 | [], [], _ => rfl
 | z :: zs, [], h => by cases z <;> simp [fitZ] at h
 | [], _ :: _, h => by simp [fitZ] at h
 | z :: zs, x :: xs, h => by
   have : fitZ zs xs = true := by
    cases z <;> cases x <;> simp [fitZ] at h <;> first | exact h.2 | exact h
   simp [fitZ_len this]
theorem fitZ_take : ∀ (n : Nat) {z l : List AV}, fitZ z l = true → fitZ (z.take n) (l.take n) = true ∧ fitZ (z.drop n) (l.drop n) = true
 | 0, z, l, h => by simp [fitZ, h]
 | n + 1, [], [], _ => by simp [fitZ]
 | n + 1, z :: zs, [], h => by cases z <;> simp [fitZ] at h
 | n + 1, [], _ :: _, h => by simp [fitZ] at h
 | n + 1, z :: zs, x :: xs, h => by
   have h0 : fitZ zs xs = true := by
    cases z <;> cases x <;> simp [fitZ] at h <;> first | exact h.2 | exact h
   obtain ⟨h1, h2⟩ := fitZ_take n h0
   refine ⟨?_, by simpa using h2⟩
   simp only [List.take_succ_cons]
   cases z <;> cases x <;> simp [fitZ] at h ⊢ <;> first | exact ⟨h.1, h1⟩ | exact h1
theorem beqs_append : ∀ {l1 m1 : List AV} (l2 m2 : List AV), l1.length = m1.length → AV.beqs (l1 ++ l2) (m1 ++ m2) = (AV.beqs l1 m1 && AV.beqs l2 m2)
 | [], [], l2, m2, _ => by simp [AV.beqs]
 | [], _ :: _, _, _, h => by simp at h
 | _ :: _, [], _, _, h => by simp at h
 | x :: xs, y :: ys, l2, m2, h => by
   simp only [List.cons_append, AV.beqs, beqs_append l2 m2 (by simpa using h), Bool.and_assoc]
section
variable {P : Program} {j : J}
theorem run_part {t : TypeId} {i : TypeInfo} (hi : P.info? t = some i) {d : TypeDesc} (hd : P.underlying t = some d) (A : Array Value) (off : Nat) (h : off + i.size ≤ A.size) (h1 : (∀ fs, d ≠ .struct fs) → (∀ n e, d ≠ .array n e) → i.size = 1) (w : World) :
 ∃ x, (part t A off).run P w = .ok x w ∧ Whole P t ((A.toList.drop off).take i.size) x := by
 have hw : ∀ x, ((A.toList.drop off).take 1 = [x]) → A[off]? = some x := by
  intro x hx
  have := congrArg (fun l => l[0]?) hx
  simpa using this
 cases hag : (match d with | .struct _ => true | .array _ _ => true | _ => false) with
 | true =>
   have he : ((A.toList.drop off).take i.size).toArray = A.extract off (off + i.size) := by
    apply Array.ext_getElem?
    intro k
    simp only [List.getElem?_toArray, List.getElem?_take, List.getElem?_drop, Array.getElem?_toList, Array.getElem?_extract]
    by_cases hk : k < i.size
    ·rw [if_pos hk, if_pos (by omega)]
    ·rw [if_neg hk, if_neg (by omega)]
   refine ⟨.agg (A.extract off (off + i.size)), ?_, ?_⟩
   ·cases d <;> simp at hag <;> simp [part, Go.isAgg, underlying, hd, Go.sizeOf, typeInfo, hi]
   ·unfold Whole
    rw [hd]
    cases d <;> simp at hag <;> simp [he]
 | false =>
   have hs : i.size = 1 := h1 (fun fs hh => by subst hh; simp at hag) (fun n e hh => by subst hh; simp at hag)
   have hlt : off < A.size := by omega
   refine ⟨A[off], ?_, ?_⟩
   ·cases d <;> simp at hag <;> simp [part, Go.isAgg, underlying, hd, hlt]
   ·have : (A.toList.drop off).take i.size = [A[off]] := by
     rw [hs, List.drop_eq_getElem_cons (by simpa using hlt)]
     simp
    unfold Whole
    rw [hd]
    cases d <;> simp at hag <;> exact this
theorem plainB_size {d : Nat} {t : TypeId} {z : List AV} {td : TypeDesc} (h : plainB P d t z = true) (hd : P.underlying t = some td) : (∀ fs, td ≠ .struct fs) → (∀ n e, td ≠ .array n e) → z.length = 1 := by
 intro h1 h2
 cases d with
 | zero => simp [plainB] at h
 | succ d =>
   simp only [plainB, hd] at h
   cases td with
   | int k => simp only at h; split at h <;> simp_all
   | bool => simp only at h; split at h <;> simp_all
   | string => simp only at h; split at h <;> simp_all
   | struct fs => exact absurd rfl (h1 fs)
   | array n e => exact absurd rfl (h2 n e)
   | _ => simp at h
theorem plainB_und {d : Nat} {t : TypeId} {z : List AV} (h : plainB P d t z = true) : ∃ td, P.underlying t = some td := by
 cases d with
 | zero => simp [plainB] at h
 | succ d =>
   cases hu : P.underlying t with
   | none => simp [plainB, hu] at h
   | some td => exact ⟨td, rfl⟩
theorem toList_mk (s : List UInt8) : (⟨s.toArray⟩ : ByteArray).toList = s := by
 rw [ByteArray.toList_eq]
theorem split_cells {s : Nat} {z l m : List AV} {vs us : List Value} (hz : s ≤ z.length) (hl : fitZ z l = true) (hm : fitZ z m = true) (hv : VRs j l vs) (hu : VRs j m us) :
 AV.beqs l m = (AV.beqs (l.take s) (m.take s) && AV.beqs (l.drop s) (m.drop s)) ∧ s ≤ vs.length ∧ s ≤ us.length := by
 have h1 := fitZ_len hl
 have h2 := fitZ_len hm
 have h3 := hv.length
 have h4 := hu.length
 refine ⟨?_, by omega, by omega⟩
 rw [← beqs_append _ _ (by simp; omega), List.take_append_drop, List.take_append_drop]
theorem beqs_chunks {sz : Nat} : ∀ (n : Nat) {l m : List AV}, l.length = n * sz → m.length = n * sz → AV.beqs l m = (List.range n).all fun k => AV.beqs ((l.drop (k * sz)).take sz) ((m.drop (k * sz)).take sz)
 | 0, l, m, hl, hm => by
   have h1 : l = [] := List.length_eq_zero_iff.1 (by simpa using hl)
   have h2 : m = [] := List.length_eq_zero_iff.1 (by simpa using hm)
   subst h1 h2
   simp [AV.beqs]
 | n + 1, l, m, hl, hm => by
   have hl' : (l.take (n * sz)).length = n * sz := by rw [List.length_take, hl, Nat.succ_mul]; omega
   have hm' : (m.take (n * sz)).length = n * sz := by rw [List.length_take, hm, Nat.succ_mul]; omega
   have ih := beqs_chunks n hl' hm'
   have e : AV.beqs l m = (AV.beqs (l.take (n * sz)) (m.take (n * sz)) && AV.beqs (l.drop (n * sz)) (m.drop (n * sz))) := by
    rw [← beqs_append _ _ (by omega), List.take_append_drop, List.take_append_drop]
   rw [e, ih, List.range_succ, List.all_append]
   congr 1
   ·rw [Bool.eq_iff_iff, List.all_eq_true, List.all_eq_true]
    have key : ∀ k ∈ List.range n, ∀ (q : List AV), ((q.take (n * sz)).drop (k * sz)).take sz = (q.drop (k * sz)).take sz := by
     intro k hk q
     have hk := List.mem_range.1 hk
     have := Nat.mul_le_mul_right sz (Nat.succ_le_of_lt hk)
     rw [Nat.succ_mul] at this
     rw [List.drop_take, List.take_take, Nat.min_eq_left (by omega)]
    exact ⟨fun h k hk => by rw [← key k hk l, ← key k hk m]; exact h k hk, fun h k hk => by rw [key k hk l, key k hk m]; exact h k hk⟩
   ·have h1 : (l.drop (n * sz)).length = sz := by rw [List.length_drop, hl, Nat.succ_mul]; omega
    have h2 : (m.drop (n * sz)).length = sz := by rw [List.length_drop, hm, Nat.succ_mul]; omega
    simp only [List.all_cons, List.all_nil, Bool.and_true]
    rw [List.take_of_length_le (by omega), List.take_of_length_le (by omega)]
theorem plain_items {d D : Nat} {e : TypeId} {i : TypeInfo} {z l m : List AV} {A B : Array Value} {n : Nat} {w : World} (hi : P.info? e = some i) (h1 : 1 ≤ i.size) (hzl : z.length = n * i.size)
 (ih : ∀ t z, plainB P d t z = true → ∀ D, d ≤ D → ∀ l m vs us x y w, fitZ z l = true → fitZ z m = true → VRs j l vs → VRs j m us → Whole P t vs x → Whole P t us y → (Op.equalIn D t x y).run P w = .ok (AV.beqs l m) w) (hD : d ≤ D)
 (hl : fitZ z l = true) (hm : fitZ z m = true) (hv : VRs j l A.toList) (hu : VRs j m B.toList) : ∀ (is : List Nat), (∀ k ∈ is, k < n ∧ plainB P d e ((z.drop (k * i.size)).take i.size) = true) →
 (Op.eqItems D e i.size A B is).run P w = .ok (is.all fun k => AV.beqs ((l.drop (k * i.size)).take i.size) ((m.drop (k * i.size)).take i.size)) w
 | [], _ => by simp [Op.eqItems]
 | k :: is, h => by
   obtain ⟨hk, hb⟩ := h k List.mem_cons_self
   have hA : A.size = n * i.size := by
    have := hv.length
    have := fitZ_len hl
    simp only [Array.length_toList] at *
    omega
   have hB : B.size = n * i.size := by
    have := hu.length
    have := fitZ_len hm
    simp only [Array.length_toList] at *
    omega
   have hle := Nat.mul_le_mul_right i.size (Nat.succ_le_of_lt hk)
   rw [Nat.succ_mul] at hle
   obtain ⟨td, htd⟩ := plainB_und hb
   have hsz : (∀ fs, td ≠ .struct fs) → (∀ n e, td ≠ .array n e) → i.size = 1 := fun q1 q2 => by
    have := plainB_size hb htd q1 q2
    simp at this; omega
   obtain ⟨x, hx1, hx2⟩ := run_part hi htd A (k * i.size) (by omega) hsz w
   obtain ⟨y, hy1, hy2⟩ := run_part hi htd B (k * i.size) (by omega) hsz w
   have t1 := (fitZ_take i.size (fitZ_take (k * i.size) hl).2).1
   have t2 := (fitZ_take i.size (fitZ_take (k * i.size) hm).2).1
   have hr := ih e _ hb D hD _ _ _ _ x y w t1 t2 ((hv.drop (k * i.size)).take i.size) ((hu.drop (k * i.size)).take i.size) hx2 hy2
   have hr2 := plain_items (w := w) hi h1 hzl ih hD hl hm hv hu is (fun q hq => h q (List.mem_cons_of_mem _ hq))
   simp only [Op.eqItems, Sem.run_bind, hx1, hy1, hr, Result.andThen_ok, List.all_cons]
   cases hbb : AV.beqs ((l.drop (k * i.size)).take i.size) ((m.drop (k * i.size)).take i.size) with
   | true => simp [hr2]
   | false => simp
theorem plain_all : ∀ d,
 (∀ t z, plainB P d t z = true → ∀ D, d ≤ D → ∀ l m vs us x y w, fitZ z l = true → fitZ z m = true → VRs j l vs → VRs j m us → Whole P t vs x → Whole P t us y → (Op.equalIn D t x y).run P w = .ok (AV.beqs l m) w) ∧
 (∀ fs off z, plainFs P d fs off z = true → ∀ D, d ≤ D → ∀ l m (A B : Array Value) w, fitZ z l = true → fitZ z m = true → VRs j l (A.toList.drop off) → VRs j m (B.toList.drop off) → (Op.eqFields D A B fs).run P w = .ok (AV.beqs l m) w)
 | 0 => ⟨fun t z h => by simp [plainB] at h, fun fs off z h => by simp [plainFs] at h⟩
 | d + 1 => by
   obtain ⟨ih1, ih2⟩ := plain_all d
   refine ⟨fun t z h D hD l m vs us x y w hl hm hv hu hx hy => ?_, fun fs off z h D hD l m A B w hl hm hv hu => ?_⟩
   ·obtain ⟨D, rfl⟩ : ∃ D', D = D' + 1 := ⟨D - 1, by omega⟩
    simp only [plainB] at h
    unfold Whole at hx hy
    split at h
    ·rename_i k hk
     rw [hk] at hx hy
     simp only at hx hy
     split at h
     case h_2 => cases h
     rename_i k' n'
     simp only [decide_eq_true_eq] at h
     subst h hx hy
     cases l with
     | nil => simp [fitZ] at hl
     | cons a l => cases m with
       | nil => simp [fitZ] at hm
       | cons b m =>
         simp only [VRs] at hv hu
         obtain ⟨_, _, e1, hv1, hv2⟩ := hv
         obtain ⟨_, _, e2, hu1, hu2⟩ := hu
         simp only [List.cons.injEq] at e1 e2
         obtain ⟨rfl, rfl⟩ := e1
         obtain ⟨rfl, rfl⟩ := e2
         have hl' := hv2.length
         have hm' := hu2.length
         simp at hl' hm'
         subst hl' hm'
         cases a <;> simp [fitZ] at hl
         cases b <;> simp [fitZ] at hm
         subst hl hm
         simp only [VR] at hv1 hu1
         subst hv1 hu1
         rw [run_equalIn_int w D t _ _ _ _ hk]
         simp [AV.beqs, AV.beq]
    ·rename_i hk
     rw [hk] at hx hy
     simp only at hx hy
     split at h
     case h_2 => cases h
     subst hx hy
     cases l with
     | nil => simp [fitZ] at hl
     | cons a l => cases m with
       | nil => simp [fitZ] at hm
       | cons b m =>
         simp only [VRs] at hv hu
         obtain ⟨_, _, e1, hv1, hv2⟩ := hv
         obtain ⟨_, _, e2, hu1, hu2⟩ := hu
         simp only [List.cons.injEq] at e1 e2
         obtain ⟨rfl, rfl⟩ := e1
         obtain ⟨rfl, rfl⟩ := e2
         have hl' := hv2.length
         have hm' := hu2.length
         simp at hl' hm'
         subst hl' hm'
         cases a <;> simp [fitZ] at hl
         cases b <;> simp [fitZ] at hm
         simp only [VR] at hv1 hu1
         subst hv1 hu1
         rw [run_equalIn_bool' w D t _ _ hk]
         simp [AV.beqs, AV.beq]
    ·rename_i hk
     rw [hk] at hx hy
     simp only at hx hy
     split at h
     case h_2 => cases h
     subst hx hy
     cases l with
     | nil => simp [fitZ] at hl
     | cons a l => cases m with
       | nil => simp [fitZ] at hm
       | cons b m =>
         simp only [VRs] at hv hu
         obtain ⟨_, _, e1, hv1, hv2⟩ := hv
         obtain ⟨_, _, e2, hu1, hu2⟩ := hu
         simp only [List.cons.injEq] at e1 e2
         obtain ⟨rfl, rfl⟩ := e1
         obtain ⟨rfl, rfl⟩ := e2
         have hl' := hv2.length
         have hm' := hu2.length
         simp at hl' hm'
         subst hl' hm'
         cases a <;> simp [fitZ] at hl
         cases b <;> simp [fitZ] at hm
         simp only [VR] at hv1 hu1
         subst hv1 hu1
         rw [run_equalIn_string w D t _ _ hk, toList_mk, toList_mk]
         simp [AV.beqs, AV.beq]
    ·rename_i fs hk
     rw [hk] at hx hy
     simp only [Bool.and_eq_true, Bool.not_eq_true'] at hx hy h
     subst hx hy
     have hfo : P.fieldsOf t = fs := by simp [Program.fieldsOf, hk]
     rw [run_equalIn_struct w D t _ _ (by rw [hfo]; exact hk) h.1, hfo]
     exact ih2 fs.toList 0 z h.2 D (by omega) l m _ _ w hl hm (by simpa using hv) (by simpa using hu)
    ·rename_i n e hk
     rw [hk] at hx hy
     simp only at hx hy
     split at h
     case h_2 => cases h
     rename_i i hi
     simp only [Bool.and_eq_true] at h
     obtain ⟨⟨h1, h2⟩, h3⟩ := h
     have h1 : 1 ≤ i.size := Nat.le_of_ble_eq_true h1
     have h2 : z.length = n * i.size := Nat.eq_of_beq_eq_true h2
     subst hx hy
     have hc : P.cellsOf e = i.size := by simp [Program.cellsOf, hi]
     rw [run_equalIn_array w D _ _ hk hi, hc, plain_items hi h1 h2 ih1 (by omega) hl hm (by simpa using hv) (by simpa using hu) (List.range n) (fun k hk => ⟨List.mem_range.1 hk, List.all_eq_true.1 h3 k hk⟩)]
     have hll := fitZ_len hl
     have hml := fitZ_len hm
     rw [beqs_chunks (sz := i.size) n (by omega) (by omega)]
    ·cases h
   ·cases fs with
    | nil =>
      simp only [plainFs, List.isEmpty_iff] at h
      subst h
      cases l <;> simp [fitZ] at hl
      cases m <;> simp [fitZ] at hm
      simp [Op.eqFields, AV.beqs]
    | cons f fs =>
      simp only [plainFs, Bool.and_eq_true] at h
      obtain ⟨⟨hn, ho⟩, h⟩ := h
      split at h
      case h_2 => cases h
      rename_i i hi
      simp only [Bool.and_eq_true] at h
      obtain ⟨⟨⟨h0, h1⟩, h2⟩, h3⟩ := h
      have h0 : 1 ≤ i.size := Nat.le_of_ble_eq_true h0
      have h1 : i.size ≤ z.length := Nat.le_of_ble_eq_true h1
      have ho : f.offset = off := Nat.eq_of_beq_eq_true ho
      obtain ⟨e1, e2, e3⟩ := split_cells h1 hl hm hv hu
      obtain ⟨td, htd⟩ := plainB_und h2
      have hsz : (∀ fs, td ≠ .struct fs) → (∀ n e, td ≠ .array n e) → i.size = 1 := fun q1 q2 => by
       have := plainB_size h2 htd q1 q2
       simp at this; omega
      simp only [List.length_drop, Array.length_toList] at e2 e3
      have hA : off + i.size ≤ A.size := by omega
      have hB : off + i.size ≤ B.size := by omega
      obtain ⟨x, hx1, hx2⟩ := run_part hi htd A off hA hsz w
      obtain ⟨y, hy1, hy2⟩ := run_part hi htd B off hB hsz w
      obtain ⟨t1, t2⟩ := fitZ_take i.size hl
      obtain ⟨t3, t4⟩ := fitZ_take i.size hm
      have hr := ih1 f.type _ h2 D (by omega) _ _ _ _ x y w t1 t3 (hv.take i.size) (hu.take i.size) hx2 hy2
      have hr2 := ih2 fs (off + i.size) _ h3 D (by omega) _ _ A B w t2 t4 (by simpa [List.drop_drop] using hv.drop i.size) (by simpa [List.drop_drop] using hu.drop i.size)
      have hnn : f.name ≠ "_" := by simpa using hn
      simp only [Op.eqFields, hnn, ne_eq, not_false_eq_true, if_true, Sem.run_bind, ho, hx1, hy1, hr, Result.andThen_ok]
      rw [e1]
      cases hb : AV.beqs (l.take i.size) (m.take i.size) with
      | true => simp [hr2]
      | false => simp
theorem plain_ty {ti : TI} {t : TypeId} (h : ti.plain = true → (plainB P 100 t ti.zero && (match P.underlying t with | some (.struct _) => true | some (.array _ _) => true | _ => false) && !P.eqGuardType P.depth t) = true) :
 ti.plain = true → ∀ (j : J) (l m : List AV) (A B : Array Value) (w : World), fitZ ti.zero l = true → fitZ ti.zero m = true → VRs j l A.toList → VRs j m B.toList →
  (Op.equal t (.agg A) (.agg B)).run P w = .ok (AV.beqs l m) w ∧ P.eqGuardType P.depth t = false := by
 intro hp j l m A B w hl hm hA hB
 have := h hp
 simp only [Bool.and_eq_true, Bool.not_eq_true'] at this
 obtain ⟨⟨h1, h2⟩, h3⟩ := this
 refine ⟨?_, h3⟩
 split at h2
 ·rename_i fs hfs
  exact (plain_all (j := j) 100).1 t ti.zero h1 Op.maxDepth (by unfold Op.maxDepth; omega) l m A.toList B.toList _ _ w hl hm hA hB (by unfold Whole; rw [hfs]) (by unfold Whole; rw [hfs])
 ·rename_i n e hfs
  exact (plain_all (j := j) 100).1 t ti.zero h1 Op.maxDepth (by unfold Op.maxDepth; omega) l m A.toList B.toList _ _ w hl hm hA hB (by unfold Whole; rw [hfs]) (by unfold Whole; rw [hfs])
 ·cases h2
end
end Go.Gr
