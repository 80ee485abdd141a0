/- What is known of a heap: a list of blocks, each once; how the evaluator's words turn it. -/
import Derived.Test.YtcepfilbiahdjaaGrRes
set_option linter.unusedVariables false
set_option linter.unusedSimpArgs false
namespace Go.Gr
abbrev Ent := Nat × Option AObj
abbrev C (b : Nat) (c : List AV) : Ent := (b, some (.cells c))
structure Cx where
 ro : Nat → Option (List AV)
 lp : List ALoop
structure Hp (X : Cx) (S : AS) (L : List Ent) : Prop where
 ro : S.ro = X.ro
 lp : S.loops = X.lp
 nd : (L.map (·.1)).Nodup
 got : ∀ b o, (b, some o) ∈ L → S.rw.get b = some o
 lt : ∀ b o, (b, o) ∈ L → b < S.next
def Ok (q : RV) (Q : AV → AS → Prop) : Prop := ∃ v S, q = some (v, S) ∧ Q v S
theorem Ok.mono {q : RV} {Q Q' : AV → AS → Prop} (h : Ok q Q) (k : ∀ v S, Q v S → Q' v S) : Ok q Q' := by
 obtain ⟨v, S, e, hq⟩ := h
 exact ⟨v, S, e, k v S hq⟩
theorem ok_ret {v : AV} {S : AS} {Q : AV → AS → Prop} (h : Q v S) : Ok (some (v, S)) Q := ⟨v, S, rfl, h⟩
theorem Hp.perm {X : Cx} {S : AS} {L M : List Ent} (h : Hp X S L) (p : L.Perm M) : Hp X S M :=
 ⟨h.ro, h.lp, (p.map _).nodup_iff.1 h.nd, fun b o hm => h.got b o (p.mem_iff.2 hm), fun b o hm => h.lt b o (p.mem_iff.2 hm)⟩
theorem Hp.sub {X : Cx} {S : AS} {L M : List Ent} (h : Hp X S L) (p : M.Sublist L) : Hp X S M :=
 ⟨h.ro, h.lp, (p.map _).nodup h.nd, fun b o hm => h.got b o (p.subset hm), fun b o hm => h.lt b o (p.subset hm)⟩
theorem Hp.drop1 {X : Cx} {S : AS} {e : Ent} {L : List Ent} (h : Hp X S (e :: L)) : Hp X S L := h.sub (List.sublist_cons_self e L)
theorem Hp.left {X : Cx} {S : AS} {L M : List Ent} (h : Hp X S (L ++ M)) : Hp X S L := h.sub (List.sublist_append_left L M)
theorem Hp.right {X : Cx} {S : AS} {L M : List Ent} (h : Hp X S (L ++ M)) : Hp X S M := h.sub (List.sublist_append_right L M)
open Classical in
theorem perm_of {L M : List Ent} (h : ∀ p : Ent → Bool, L.countP p = M.countP p) : L.Perm M :=
 List.perm_iff_count.2 fun a => h (fun b => b == a)
theorem Hp.re {X : Cx} {S : AS} {L M : List Ent} (h : Hp X S L) (k : ∀ p : Ent → Bool, L.countP p = M.countP p) : Hp X S M := h.perm (perm_of k)
class Sel (b : Nat) (L : List Ent) (o : outParam (Option AObj)) (U : outParam (Option AObj → List Ent)) : Prop where
 out : ∃ M, L.Perm ((b, o) :: M) ∧ ∀ o', (U o').Perm ((b, o') :: M)
instance Sel.skip {b : Nat} {e : Ent} {L : List Ent} {o : Option AObj} {U : Option AObj → List Ent} [h : Sel b L o U] : Sel b (e :: L) o (fun o' => e :: U o') := by
 obtain ⟨M, p, q⟩ := h.out
 exact ⟨e :: M, (p.cons e).trans (.swap _ _ _), fun o' => ((q o').cons e).trans (.swap _ _ _)⟩
instance Sel.right {b : Nat} {L N : List Ent} {o : Option AObj} {U : Option AObj → List Ent} [h : Sel b N o U] : Sel b (L ++ N) o (fun o' => L ++ U o') := by
 obtain ⟨M, p, q⟩ := h.out
 exact ⟨L ++ M, (p.append_left L).trans List.perm_middle, fun o' => ((q o').append_left L).trans List.perm_middle⟩
instance Sel.left {b : Nat} {L N : List Ent} {o : Option AObj} {U : Option AObj → List Ent} [h : Sel b L o U] : Sel b (L ++ N) o (fun o' => U o' ++ N) := by
 obtain ⟨M, p, q⟩ := h.out
 exact ⟨M ++ N, p.append_right N, fun o' => (q o').append_right N⟩
instance (priority := high) Sel.head {b : Nat} {L : List Ent} {o : Option AObj} : Sel b ((b, o) :: L) o (fun o' => (b, o') :: L) :=
 ⟨L, .refl _, fun _ => .refl _⟩
section
variable {X : Cx} {S : AS} {L : List Ent}
theorem Hp.get (h : Hp X S L) (b : Nat) {c : List AV} {U : Option AObj → List Ent} [s : Sel b L (some (.cells c)) U] : S.rw.get b = some (.cells c) := by
 obtain ⟨M, p, _⟩ := s.out
 exact h.got b _ (p.mem_iff.2 List.mem_cons_self)
theorem Hp.blk (h : Hp X S L) (b : Nat) {c : List AV} {U : Option AObj → List Ent} [s : Sel b L (some (.cells c)) U] : S.blk (.rw b) = some c := by
 simp only [AS.blk, h.get b]
theorem Hp.turn (h : Hp X S L) {b : Nat} {o : Option AObj} (o' : AObj) {U : Option AObj → List Ent} [s : Sel b L o U] : Hp X { S with rw := S.rw.set b (some o') } (U (some o')) := by
 obtain ⟨M, p, q⟩ := s.out
 have h1 := h.perm p
 have hn := h1.nd
 simp only [List.map_cons, List.nodup_cons] at hn
 refine Hp.perm (L := (b, some o') :: M) ⟨h.ro, h.lp, by simpa using hn, fun b1 o1 hm => ?_, fun b1 o1 hm => ?_⟩ (q _).symm
 ·simp only [Tr.get_set]
  rcases List.mem_cons.1 hm with he | hm
  ·cases he; simp
  ·have : b1 ≠ b := fun he => hn.1 (by rw [← he]; exact List.mem_map_of_mem hm)
   rw [if_neg this]
   exact h1.got b1 o1 (List.mem_cons_of_mem _ hm)
 ·rcases List.mem_cons.1 hm with he | hm
  ·cases he; exact h1.lt _ _ List.mem_cons_self
  ·exact h1.lt _ _ (List.mem_cons_of_mem _ hm)
theorem Hp.new (h : Hp X S L) (o : AObj) : Hp X (S.new o) ((S.next, some o) :: L) := by
 refine ⟨h.ro, h.lp, ?_, fun b1 o1 hm => ?_, fun b1 o1 hm => ?_⟩
 ·simp only [List.map_cons, List.nodup_cons]
  refine ⟨fun hm => ?_, h.nd⟩
  obtain ⟨e, he, hb⟩ := List.mem_map.1 hm
  have := h.lt e.1 e.2 he
  omega
 ·simp only [AS.new, Tr.get_set]
  rcases List.mem_cons.1 hm with he | hm
  ·cases he; simp
  ·have := h.lt _ _ hm
   rw [if_neg (by omega)]
   exact h.got b1 o1 hm
 ·simp only [AS.new]
  rcases List.mem_cons.1 hm with he | hm
  ·cases he; omega
  ·have := h.lt _ _ hm; omega
theorem Hp.bump (h : Hp X S L) (n : Nat) (is : List Nat) (hn : is.Nodup) (hl : ∀ i ∈ is, i < n) : Hp X (S.bump n) (is.map (fun i => (S.next + i, none)) ++ L) := by
 refine ⟨h.ro, h.lp, ?_, fun b1 o1 hm => ?_, fun b1 o1 hm => ?_⟩
 ·rw [List.map_append, List.nodup_append]
  refine ⟨?_, h.nd, fun a ha b hb => ?_⟩
  ·rw [List.map_map]
   exact hn.map _ (fun a b hab he => hab (by simpa using he))
  ·obtain ⟨e, he, rfl⟩ := List.mem_map.1 ha
   obtain ⟨i, _, rfl⟩ := List.mem_map.1 he
   obtain ⟨e', he', rfl⟩ := List.mem_map.1 hb
   have := h.lt e'.1 e'.2 he'
   simp only; omega
 ·rcases List.mem_append.1 hm with hm | hm
  ·obtain ⟨i, _, he⟩ := List.mem_map.1 hm; cases he
  ·exact h.got b1 o1 hm
 ·simp only [AS.bump]
  rcases List.mem_append.1 hm with hm | hm
  ·obtain ⟨i, hi, he⟩ := List.mem_map.1 hm
   cases he
   have := hl i hi; omega
  ·have := h.lt _ _ hm; omega
variable {Q : AV → AS → Prop}
theorem ok_cond {c : Bool} {A B : RV} (ht : c = true → Ok A Q) (hf : c = false → Ok B Q) : Ok (cond c A B) Q := by
 cases c
 ·exact hf rfl
 ·exact ht rfl
theorem ok_true {c : Bool} {A B : RV} (hc : c = true) (ht : Ok A Q) : Ok (cond c A B) Q := by subst hc; exact ht
theorem ok_false {c : Bool} {A B : RV} (hc : c = false) (ht : Ok B Q) : Ok (cond c A B) Q := by subst hc; exact ht
theorem ok_ifO {p : Prop} [Decidable p] {A : RV} (hc : p) (ht : Ok A Q) : Ok (ifO p A) Q := by rw [ifO, if_pos hc]; exact ht
theorem ok_nz {b : Int} {A : RV} (hc : b ≠ 0) (ht : Ok A Q) : Ok (nz b A) Q := by rw [nz, if_neg hc]; exact ht
theorem ok_gO {α : Type} {a : α} {K : α → RV} (ht : Ok (K a) Q) : Ok (gO (some a) K) Q := ht
theorem ok_ix {n : Int} {K : Nat → RV} (hn : 0 ≤ n) (ht : Ok (K n.toNat) Q) : Ok (ix n K) Q := by rw [ix, if_pos hn]; exact ht
variable {b i : Nat} {c : List AV} {U : Option AObj → List Ent}
theorem ok_ldI {k : IntKind} {n : Int} {K : Int → RV} (h : Hp X S L) [Sel b L (some (.cells c)) U] (hi : c[i]? = some (.int k n)) (ht : Ok (K n) Q) : Ok (ldI k S (.rw b) i K) Q := by
 simp only [ldI, AS.ld_eq, h.blk b, hi, gIk, if_pos]; exact ht
theorem ok_ldL {a : OP} {l : Nat} {cp : Cap} {K : OP → Nat → Cap → RV} (h : Hp X S L) [Sel b L (some (.cells c)) U] (hi : c[i]? = some (.sl a l cp)) (ht : Ok (K a l cp) Q) : Ok (ldL S (.rw b) i K) Q := by
 simp only [ldL, AS.ld_eq, h.blk b, hi, gL]; exact ht
theorem ok_ldV {x : AV} {K : AV → RV} (h : Hp X S L) [Sel b L (some (.cells c)) U] (hi : c[i]? = some x) (ht : Ok (K x) Q) : Ok (ldV S (.rw b) i K) Q := by
 simp only [ldV, AS.ld_eq, h.blk b, hi]; exact ht
theorem ok_ldn {n : Nat} {K : List AV → RV} (h : Hp X S L) [Sel b L (some (.cells c)) U] (hi : i + n ≤ c.length) {d : List AV} (hd : (c.drop i).take n = d) (ht : Ok (K d) Q) : Ok (S.ldn (.rw b) i n K) Q := by
 simp only [AS.ldn_eq, h.blk b, if_pos hi, hd]; exact ht
theorem ok_stn {vs : List AV} {K : AS → RV} (h : Hp X S L) [Sel b L (some (.cells c)) U] (hi : i + vs.length ≤ c.length) {d : List AV} (hd : splice c i vs = d) (ht : ∀ S', Hp X S' (U (some (.cells d))) → Ok (K S') Q) : Ok (S.stn (.rw b) i vs K) Q := by
 simp only [AS.stn_eq, forceL_eq, h.get b, if_pos hi, hd]
 exact ht _ (h.turn _)
theorem ok_newA {o : AObj} {K : Nat → AS → RV} (h : Hp X S L) (ht : ∀ b S', Hp X S' ((b, some o) :: L) → Ok (K b S') Q) : Ok (newA S o K) Q := ht _ _ (h.new o)
theorem ok_drawA {n : Nat} {K : Nat → AS → RV} (h : Hp X S L) (is : List Nat) (hn : is.Nodup) (hl : ∀ i ∈ is, i < n) (ht : ∀ b S', Hp X S' (is.map (fun i => (b + i, none)) ++ L) → Ok (K b S') Q) : Ok (drawA S n K) Q := ht _ _ (h.bump n is hn hl)
theorem ok_layA {o : AObj} {o0 : Option AObj} {K : AS → RV} (h : Hp X S L) [Sel b L o0 U] (ht : ∀ S', Hp X S' (U (some o)) → Ok (K S') Q) : Ok (layA S b o K) Q := ht _ (h.turn (b := b) o)
end
section
variable {S S' : AS} {call : CallA} {f : Nat} {args : List AV} {β : Type}
theorem callI_of {k : IntKind} {v : Int} {K : Int → AS → Option β} (e : call (.fn f) args S = some (.int k v, S')) : callI k call f args S K = K v S' := by simp [callI, e, gIk]
theorem callB_of {v : Bool} {K : Bool → AS → Option β} (e : call (.fn f) args S = some (.bool v, S')) : callB call f args S K = K v S' := by simp [callB, e, gB]
theorem callP_of {v : OP} {K : OP → AS → Option β} (e : call (.fn f) args S = some (.ptr v, S')) : callP call f args S K = K v S' := by simp [callP, e, gP]
theorem callL_of {a : OP} {l : Nat} {c : Cap} {K : OP → Nat → Cap → AS → Option β} (e : call (.fn f) args S = some (.sl a l c, S')) : callL call f args S K = K a l c S' := by simp [callL, e, gL]
theorem callT_of {l : List AV} {K : List AV → AS → Option β} (e : call (.fn f) args S = some (.tup l, S')) : callT call f args S K = K l S' := by simp [callT, e, gT]
end
theorem flat_len {sz : Nat} : ∀ {xs : List (List AV)}, (∀ x ∈ xs, x.length = sz) → xs.flatten.length = xs.length * sz
 | [], _ => by simp
 | x :: xs, h => by
   have h1 := h x List.mem_cons_self
   have h2 := flat_len (xs := xs) (fun y hy => h y (List.mem_cons_of_mem _ hy))
   simp only [List.flatten_cons, List.length_append, h1, h2, List.length_cons, Nat.succ_mul]; omega
theorem flat_drop {sz : Nat} : ∀ {xs : List (List AV)} (k : Nat), (∀ x ∈ xs, x.length = sz) → xs.flatten.drop (k * sz) = (xs.drop k).flatten
 | xs, 0, _ => by simp
 | [], k + 1, _ => by simp
 | x :: xs, k + 1, h => by
   have h1 := h x List.mem_cons_self
   have h2 := flat_drop (xs := xs) k (fun y hy => h y (List.mem_cons_of_mem _ hy))
   rw [List.flatten_cons, List.drop_succ_cons, ← h2, Nat.succ_mul, Nat.add_comm, ← List.drop_drop]
   congr 1
   rw [← h1, List.drop_left]
theorem flat_take {sz : Nat} : ∀ {xs : List (List AV)} (k : Nat), (∀ x ∈ xs, x.length = sz) → xs.flatten.take (k * sz) = (xs.take k).flatten
 | xs, 0, _ => by simp
 | [], k + 1, _ => by simp
 | x :: xs, k + 1, h => by
   have h1 := h x List.mem_cons_self
   have h2 := flat_take (xs := xs) k (fun y hy => h y (List.mem_cons_of_mem _ hy))
   rw [List.flatten_cons, List.take_succ_cons, List.flatten_cons, ← h2, Nat.succ_mul, Nat.add_comm, List.take_append]
   rw [List.take_of_length_le (by omega)]
   congr 2; omega
theorem flat_at {sz k : Nat} {xs : List (List AV)} {x : List AV} (h : ∀ x ∈ xs, x.length = sz) (hk : xs[k]? = some x) : (xs.flatten.drop (k * sz)).take sz = x := by
 rw [flat_drop k h]
 obtain ⟨hlt, he⟩ := List.getElem?_eq_some_iff.1 hk
 rw [List.drop_eq_getElem_cons hlt, he, List.flatten_cons]
 have hx := h x (by rw [← he]; exact List.getElem_mem hlt)
 rw [← hx, List.take_left]
theorem flat_get {sz k j : Nat} {xs : List (List AV)} {x : List AV} (h : ∀ x ∈ xs, x.length = sz) (hk : xs[k]? = some x) (hj : j < sz) : xs.flatten[k * sz + j]? = x[j]? := by
 have h1 := flat_at h hk
 rw [← h1, List.getElem?_take_of_lt hj, List.getElem?_drop]
theorem flat_splice {sz k : Nat} {xs : List (List AV)} {y : List AV} (h : ∀ x ∈ xs, x.length = sz) (hk : k < xs.length) (hy : y.length = sz) : splice xs.flatten (k * sz) y = (xs.set k y).flatten := by
 have : xs.flatten.drop (k * sz + y.length) = (xs.drop (k + 1)).flatten := by rw [hy, ← Nat.succ_mul, flat_drop _ h]
 rw [splice, this, flat_take k h, List.set_eq_take_append_cons_drop, if_pos hk]
 simp
inductive SlR : (a : OP) → (l : Nat) → (c : Cap) → Nat → List (List AV) → List Ent → Prop
 | nil {sz : Nat} : SlR none 0 (.ex 0) sz [] []
 | blk {b sz : Nat} {xs : List (List AV)} {c : Cap} (hx : ∀ x ∈ xs, x.length = sz) (hc : c = .ex xs.length ∨ c = .op sz xs.length) : SlR (some (.rw b, 0)) xs.length c sz xs [C b xs.flatten]
theorem SlR.len {a l c sz xs L} (h : SlR a l c sz xs L) : l = xs.length := by cases h <;> rfl
theorem SlR.all {a l c sz xs L} (h : SlR a l c sz xs L) : ∀ x ∈ xs, x.length = sz := by
 cases h with
 | nil => intro x hx; cases hx
 | blk hx _ => exact hx
theorem SlR.of {b sz n : Nat} {xs : List (List AV)} {c : Cap} (hx : ∀ x ∈ xs, x.length = sz) (hn : n = xs.length) (hc : c = .ex n ∨ c = .op sz n) : SlR (some (.rw b, 0)) n c sz xs [C b xs.flatten] := by
 subst hn; exact .blk hx hc
inductive RdR (X : Cx) (L : List Ent) : (a : OP) → (cs : List AV) → Prop
 | nil : RdR X L none []
 | rw {b i : Nat} {c cs : List AV} (hm : C b c ∈ L) (hl : i + cs.length ≤ c.length) (hc : (c.drop i).take cs.length = cs) : RdR X L (some (.rw b, i)) cs
 | ro {b i : Nat} {c cs : List AV} (hm : X.ro b = some c) (hl : i + cs.length ≤ c.length) (hc : (c.drop i).take cs.length = cs) : RdR X L (some (.ro b, i)) cs
theorem RdR.mono {X : Cx} {L M : List Ent} {a : OP} {cs : List AV} (h : RdR X L a cs) (k : ∀ e ∈ L, e ∈ M) : RdR X M a cs := by
 cases h with
 | nil => exact .nil
 | rw hm hl hc => exact .rw (k _ hm) hl hc
 | ro hm hl hc => exact .ro hm hl hc
theorem RdR.ldn {X : Cx} {S : AS} {L : List Ent} {p : Pos} {cs : List AV} (h : RdR X L (some p) cs) (hp : Hp X S L) {β : Type} (K : List AV → Option β) : S.ldn p.1 p.2 cs.length K = K cs := by
 cases h with
 | rw hm hl hc => simp only [AS.ldn_eq, AS.blk, hp.got _ _ hm, if_pos hl, hc]
 | ro hm hl hc => simp only [AS.ldn_eq, AS.blk, hp.ro, hm, if_pos hl, hc]
theorem RdR.first {X : Cx} {S : AS} {L : List Ent} {a : OP} {cs : List AV} {l : Nat} {c : Cap} (h : RdR X L a cs) (hp : Hp X S L) {sz n : Nat} (hn : cs.length = n * sz) (hz : 0 < sz) {β : Type} (K : List AV → Option β) : firstA S sz n (.sl a l c) K = K cs := by
 cases a with
 | none =>
   cases h
   have : n = 0 := by
    rcases Nat.eq_zero_or_pos n with h0 | h0
    ·exact h0
    ·have := Nat.mul_pos h0 hz
     simp at hn; omega
   subst this
   simp [firstA]
 | some p =>
   simp only [firstA, ← hn]
   exact h.ldn hp K
theorem RdR.ldI {X : Cx} {S : AS} {L : List Ent} {p : Pos} {cs : List AV} (h : RdR X L (some p) cs) (hp : Hp X S L) {i : Nat} {k : IntKind} {v : Int} (hi : cs[i]? = some (.int k v)) {K : Int → RV} : Go.Gr.ldI k S p.1 (p.2 + i) K = K v := by
 have hlt : i < cs.length := (List.getElem?_eq_some_iff.1 hi).1
 cases h with
 | rw hm hl hc =>
   rename_i b0 i0 c0
   have e : c0[i0 + i]? = some (.int k v) := by rw [← hi, ← hc, List.getElem?_take_of_lt (by omega), List.getElem?_drop]
   simp only [Go.Gr.ldI, AS.ld_eq, AS.blk, hp.got _ _ hm, e, gIk, if_true]
 | ro hm hl hc =>
   rename_i b0 i0 c0
   have e : c0[i0 + i]? = some (.int k v) := by rw [← hi, ← hc, List.getElem?_take_of_lt (by omega), List.getElem?_drop]
   simp only [Go.Gr.ldI, AS.ld_eq, AS.blk, hp.ro, hm, e, gIk, if_true]
theorem RdR.some_of {X : Cx} {L : List Ent} {a : OP} {cs : List AV} (h : RdR X L a cs) (hn : cs ≠ []) : ∃ p, a = some p := by
 cases h with
 | nil => exact absurd rfl hn
 | rw => exact ⟨_, rfl⟩
 | ro => exact ⟨_, rfl⟩
theorem bytesOf_ofBytes : ∀ (s : List UInt8), bytesOf (ofBytes s) = some s
 | [] => rfl
 | c :: s => by
   have h := bytesOf_ofBytes s
   simp only [ofBytes, List.map_cons, bytesOf] at h ⊢
   rw [h]
   simp
@[simp] theorem ofBytes_len (s : List UInt8) : (ofBytes s).length = s.length := by simp [ofBytes]
theorem bytesStr_of {X : Cx} {S : AS} {L : List Ent} {a : OP} {s : List UInt8} {l : Nat} (h : RdR X L a (ofBytes s)) (hp : Hp X S L) (hl : l = s.length) {β : Type} (K : List UInt8 → Option β) : bytesStr S a l K = K s := by
 subst hl
 cases a with
 | none =>
   have : s = [] := by
    cases s with
    | nil => rfl
    | cons c s => simp only [ofBytes, List.map_cons] at h; cases h
   subst this; rfl
 | some p =>
   simp only [bytesStr]
   rw [← ofBytes_len s, h.ldn hp]
   simp only [bytesOf_ofBytes]
theorem ok_append {X : Cx} {S : AS} {L F : List Ent} {a : OP} {l : Nat} {c : Cap} {sz bytes n : Nat} {xs ys : List (List AV)} {src : (List AV → RV) → RV} {K : OP → Nat → Cap → AS → RV} {Q : AV → AS → Prop}
 (hp : Hp X S (L ++ F)) (hs : SlR a l c sz xs L) (hy : ∀ y ∈ ys, y.length = sz) (hn : n = ys.length) (hsrc : ∀ K, src K = K ys.flatten) (hz : 0 < sz) (h1 : (xs.length + ys.length) * bytes ≤ pow46) (h2 : xs.length + ys.length ≤ pow46)
 (ht : ∀ a l c S' L', SlR a l c sz (xs ++ ys) L' → Hp X S' (L' ++ F) → Ok (K a l c S') Q) : Ok (appendA sz bytes S a l c n src K) Q := by
 subst hn
 have hall := hs.all
 have grow : ∀ (S1 : AS), Hp X S1 F → ∀ (K' : OP → Nat → Cap → AS → RV), (∀ a l c S' L', SlR a l c sz (xs ++ ys) L' → Hp X S' (L' ++ F) → Ok (K' a l c S') Q) → Ok (K' (some (.rw S1.next, 0)) (xs.length + ys.length) (.op sz (xs.length + ys.length)) (S1.new (.cells (xs.flatten ++ ys.flatten)))) Q := by
  intro S1 h1 K' ht
  have hlen : (xs ++ ys).length = xs.length + ys.length := List.length_append
  rw [← hlen, ← List.flatten_append]
  refine ht _ _ _ _ [C S1.next (xs ++ ys).flatten] (.blk (fun x hx => ?_) (.inr rfl)) (h1.new _)
  rcases List.mem_append.1 hx with hx | hx
  ·exact hall x hx
  ·exact hy x hx
 cases hs with
 | nil =>
   simp only [List.length_nil] at h1 h2 grow
   simp only [appendA, forceL_eq, if_pos h1, if_pos h2]
   split
   ·rename_i hle
    have : ys = [] := List.length_eq_zero_iff.1 (by omega)
    subst this
    rw [hsrc]
    exact ht _ _ _ _ [] .nil hp
   ·simp only [firstA, List.length_nil, if_true]
    rw [hsrc]
    exact grow S hp.right K ht
 | blk hx hc =>
   rename_i b
   have hp' : Hp X S (C b xs.flatten :: F) := hp
   have hfl := flat_len hx
   simp only [appendA, forceL_eq, if_pos h1, if_pos h2]
   rcases hc with rfl | rfl
   ·simp only
    split
    ·rename_i hle
     have : ys = [] := List.length_eq_zero_iff.1 (by omega)
     subst this
     rw [hsrc]
     simp only [List.flatten_nil]
     refine ok_stn hp' (by simp [hfl]) (d := xs.flatten) ?_ (fun S' h' => ?_)
     ·simp [splice, hfl]
     ·exact ht _ _ _ _ [C b xs.flatten] (by simpa using SlR.blk (b := b) hx (.inl rfl)) h'
    ·have e : firstA S sz xs.length (.sl (some (.rw b, 0)) xs.length (.ex xs.length)) (fun old => src fun new => K (some (.rw S.next, 0)) (xs.length + ys.length) (.op sz (xs.length + ys.length)) (S.new (.cells (old ++ new)))) = src fun new => K (some (.rw S.next, 0)) (xs.length + ys.length) (.op sz (xs.length + ys.length)) (S.new (.cells (xs.flatten ++ new))) :=
      RdR.first (.rw (b := b) (L := C b xs.flatten :: F) (c := xs.flatten) List.mem_cons_self (by omega) (by rw [List.drop_zero, List.take_length])) hp' hfl hz _
     rw [e, hsrc]
     exact grow S hp'.drop1 K ht
   ·simp only
    split
    ·rename_i h0
     have : ys = [] := List.length_eq_zero_iff.1 h0
     subst this
     exact ht _ _ _ _ [C b xs.flatten] (by simpa using SlR.blk (b := b) hx (.inr rfl)) hp
    ·rename_i h0
     rw [if_neg (by omega)]
     simp only [if_true]
     have e : S.ldn (.rw b) 0 (xs.length * sz) (fun old => src fun new => K (some (.rw (S.kill b).next, 0)) (xs.length + ys.length) (.op sz (xs.length + ys.length)) ((S.kill b).new (.cells (old ++ new)))) = src fun new => K (some (.rw (S.kill b).next, 0)) (xs.length + ys.length) (.op sz (xs.length + ys.length)) ((S.kill b).new (.cells (xs.flatten ++ new))) := by
      simp only [AS.ldn_eq, hp'.blk b, hfl, Nat.zero_add, Nat.le_refl, if_true, List.drop_zero]
      rw [← hfl, List.take_length]
     have e2 : S.next = (S.kill b).next := rfl
     rw [e2, e, hsrc]
     refine grow (S.kill b) ?_ K ht
     have hn := hp'.nd
     simp only [List.map_cons, List.nodup_cons] at hn
     have h3 := hp'.drop1
     refine ⟨h3.ro, h3.lp, h3.nd, fun b1 o1 hm => ?_, h3.lt⟩
     simp only [AS.kill, Tr.get_set]
     rw [if_neg (fun he => hn.1 (by rw [← he]; exact List.mem_map_of_mem hm))]
     exact h3.got b1 o1 hm
theorem ok_mkSl {bytes : Nat} {l c : Nat} {K : Nat → Nat → RV} {Q : AV → AS → Prop} {x y : Int} (hx : x = l) (hy : y = c) (hlc : l ≤ c) (h1 : c * bytes ≤ pow46) (h2 : c ≤ pow46) (ht : Ok (K l c) Q) : Ok (mkSl bytes x y K) Q := by
 subst hx hy
 simp only [mkSl, ix, Int.natCast_nonneg, if_true, Int.toNat_natCast, if_pos hlc, if_pos h1, if_pos h2]
 exact ht
theorem ok_ixSl {sz l : Nat} {b : Bid} {o : Nat} {n : Int} {k : Nat} {K : Pos → RV} {Q : AV → AS → Prop} (hn : n = k) (hk : k < l) (ht : Ok (K (b, o + k * sz)) Q) : Ok (ixSl sz (some (b, o)) l n K) Q := by
 subst hn
 simp only [ixSl, Int.natCast_nonneg, if_true, Int.toNat_natCast, if_pos hk]
 exact ht
theorem ok_ixArr {sz l : Nat} {b : Bid} {o : Nat} {n : Int} {k : Nat} {K : Pos → RV} {Q : AV → AS → Prop} (hn : n = k) (hk : k < l) (ht : Ok (K (b, o + k * sz)) Q) : Ok (ixArr sz (b, o) l n K) Q := by
 subst hn
 simp only [ixArr, Int.natCast_nonneg, if_true, Int.toNat_natCast, if_pos hk]
 exact ht
theorem wrap64 {n : Int} (h0 : -9223372036854775808 ≤ n) (h1 : n < 9223372036854775808) : IntKind.wrap .i64 n = n := by
 simp only [IntKind.wrap, IntKind.bits, IntKind.signed]
 simp
 omega
def bxs (s : List UInt8) : List (List AV) := (ofBytes s).map fun x => [x]
@[simp] theorem bxs_flat (s : List UInt8) : (bxs s).flatten = ofBytes s := by
 unfold bxs
 induction ofBytes s with
 | nil => rfl
 | cons x xs ih => simp [ih]
@[simp] theorem bxs_len (s : List UInt8) : (bxs s).length = s.length := by simp [bxs]
theorem bxs_all (s : List UInt8) : ∀ x ∈ bxs s, x.length = 1 := by
 intro x hx
 obtain ⟨y, _, rfl⟩ := List.mem_map.1 hx
 rfl
section
variable {X : Cx} {S : AS} {L : List Ent} {Q : AV → AS → Prop} {b i : Nat} {c : List AV}
theorem Hp.blkM (h : Hp X S L) (hm : C b c ∈ L) : S.blk (.rw b) = some c := by simp only [AS.blk, h.got _ _ hm]
theorem okM_ldL {a : OP} {l : Nat} {cp : Cap} {K : OP → Nat → Cap → RV} (h : Hp X S L) (hm : C b c ∈ L) (hi : c[i]? = some (.sl a l cp)) (ht : Ok (K a l cp) Q) : Ok (ldL S (.rw b) i K) Q := by
 simp only [ldL, AS.ld_eq, h.blkM hm, hi, gL]; exact ht
end
theorem RdR.elem {X : Cx} {S : AS} {L : List Ent} {p : Pos} {xs : List (List AV)} {x : List AV} {sz i : Nat} (h : RdR X L (some p) xs.flatten) (hp : Hp X S L) (hx : ∀ x ∈ xs, x.length = sz) (hi : xs[i]? = some x) {β : Type} (K : List AV → Option β) : S.ldn p.1 (p.2 + i * sz) sz K = K x := by
 have hlt : i < xs.length := (List.getElem?_eq_some_iff.1 hi).1
 have hfl := flat_len hx
 have hat := flat_at hx hi
 have hm := Nat.mul_le_mul_right sz (Nat.succ_le_of_lt hlt)
 rw [Nat.succ_mul] at hm
 cases h with
 | rw hm' hl hc =>
   rename_i b0 i0 c0
   have e : (c0.drop (i0 + i * sz)).take sz = x := by rw [← hat, ← hc, List.drop_take, List.take_take, List.drop_drop, Nat.min_eq_left (by omega)]
   simp only [AS.ldn_eq, AS.blk, hp.got _ _ hm', if_pos (show i0 + i * sz + sz ≤ c0.length by omega), e]
 | ro hm' hl hc =>
   rename_i b0 i0 c0
   have e : (c0.drop (i0 + i * sz)).take sz = x := by rw [← hat, ← hc, List.drop_take, List.take_take, List.drop_drop, Nat.min_eq_left (by omega)]
   simp only [AS.ldn_eq, AS.blk, hp.ro, hm', if_pos (show i0 + i * sz + sz ≤ c0.length by omega), e]
theorem ixSl_at {sz l : Nat} {p : Pos} {n : Int} {k : Nat} {β : Type} {K : Pos → Option β} (hn : n = k) (hk : k < l) : ixSl sz (some p) l n K = K (p.1, p.2 + k * sz) := by
 subst hn
 simp only [ixSl, Int.natCast_nonneg, if_true, Int.toNat_natCast, if_pos hk]
def AV.scal : AV → Prop
 | .int _ _ => True
 | .bool _ => True
 | .str _ => True
 | _ => False
theorem beq_scal {x y : AV} (h : x.scal) : AV.beq x y = true ↔ x = y := by
 cases x <;> simp only [AV.scal] at h <;> cases y <;> simp [AV.beq]
theorem Hp.loops {ro : Nat → Option (List AV)} {lp lp' : List ALoop} {S : AS} {L : List Ent} (h : Hp ⟨ro, lp⟩ S L) : Hp ⟨ro, lp'⟩ { S with loops := lp' } L := ⟨h.ro, rfl, h.nd, h.got, h.lt⟩
end Go.Gr
