/- Slices that own their block and have room behind: how they grow, are cut, are read; integers as elements. -/
import Derived.Test.YtcepfilbiahdjaaGrSep
set_option linter.unusedVariables false
set_option linter.unusedSimpArgs false
namespace Go.Gr
inductive SlG : (a : OP) → (l : Nat) → (c : Cap) → Nat → List (List AV) → List Ent → Prop
 | nil {sz : Nat} : SlG none 0 (.ex 0) sz [] []
 | blk {b sz : Nat} {xs js : List (List AV)} {c : Cap} (hx : ∀ x ∈ xs, x.length = sz) (hj : ∀ x ∈ js, x.length = sz) (hc : c = .ex (xs.length + js.length) ∨ c = .op sz (xs.length + js.length)) : SlG (some (.rw b, 0)) xs.length c sz xs [C b (xs ++ js).flatten]
theorem SlR.g {a l c sz xs L} (h : SlR a l c sz xs L) : SlG a l c sz xs L := by
 cases h with
 | nil => exact .nil
 | blk hx hc => simpa using SlG.blk (js := []) hx (by simp) (by simpa using hc)
theorem SlG.len {a l c sz xs L} (h : SlG a l c sz xs L) : l = xs.length := by cases h <;> rfl
theorem SlG.all {a l c sz xs L} (h : SlG a l c sz xs L) : ∀ x ∈ xs, x.length = sz := by
 cases h with
 | nil => intro x hx; cases hx
 | blk hx _ _ => exact hx
theorem SlG.rd {X : Cx} {M : List Ent} {a l c sz xs L} (h : SlG a l c sz xs L) (hm : ∀ e ∈ L, e ∈ M) : RdR X M a xs.flatten := by
 cases h with
 | nil => exact .nil
 | blk hx hj hc =>
   rename_i b js
   exact .rw (c := (xs ++ js).flatten) (hm _ (by simp)) (by rw [List.flatten_append, List.length_append]; omega) (by rw [List.drop_zero, List.flatten_append, List.take_left])
theorem SlG.dest {a l c sz xs L} (h : SlG a l c sz xs L) : (a = none ∧ l = 0 ∧ c = .ex 0 ∧ xs = [] ∧ L = []) ∨ ∃ b js, a = some (.rw b, 0) ∧ l = xs.length ∧ (c = .ex (xs.length + js.length) ∨ c = .op sz (xs.length + js.length)) ∧ L = [C b (xs ++ js).flatten] ∧ (∀ x ∈ xs, x.length = sz) ∧ (∀ x ∈ js, x.length = sz) := by
 cases h with
 | nil => exact .inl ⟨rfl, rfl, rfl, rfl, rfl⟩
 | blk hx hj hc => exact .inr ⟨_, _, rfl, rfl, hc, rfl, hx, hj⟩
theorem flat_splice_many {sz : Nat} {xs ys zs : List (List AV)} (hx : ∀ x ∈ xs, x.length = sz) (hz : ∀ x ∈ zs, x.length = sz) (hy : ∀ y ∈ ys, y.length = sz) (hl : ys.length ≤ zs.length) : splice (xs ++ zs).flatten (xs.length * sz) ys.flatten = (xs ++ ys ++ zs.drop ys.length).flatten := by
 have h1 := flat_len hx
 have h2 := flat_len hy
 have h3 : ∀ x ∈ xs ++ zs, x.length = sz := fun x h => by
  rcases List.mem_append.1 h with h | h
  ·exact hx x h
  ·exact hz x h
 have e1 : (xs ++ zs).flatten.drop (xs.length * sz + ys.flatten.length) = (zs.drop ys.length).flatten := by
  rw [h2, ← Nat.add_mul, flat_drop _ h3, List.drop_append, List.drop_of_length_le (by omega)]
  simp
 have e2 : (xs ++ zs).flatten.take (xs.length * sz) = xs.flatten := by
  rw [flat_take _ h3, List.take_append]
  simp
 rw [splice, e1, e2]
 simp
theorem ok_appendG {X : Cx} {S : AS} {L F : List Ent} {a : OP} {l : Nat} {c : Cap} {sz bytes n : Nat} {xs ys : List (List AV)} {src : (List AV → RV) → RV} {K : OP → Nat → Cap → AS → RV} {Q : AV → AS → Prop}
 (hp : Hp X S (L ++ F)) (hs : SlG a l c sz xs L) (hy : ∀ y ∈ ys, y.length = sz) (hn : n = ys.length) (hsrc : ∀ K, src K = K ys.flatten) (hz : 0 < sz) (h1 : (xs.length + ys.length) * bytes ≤ pow46) (h2 : xs.length + ys.length ≤ pow46)
 (ht : ∀ a l c S' L', SlG a l c sz (xs ++ ys) L' → Hp X S' (L' ++ F) → Ok (K a l c S') Q) : Ok (appendA sz bytes S a l c n src K) Q := by
 subst hn
 have hall := hs.all
 have grow : ∀ (S1 : AS), Hp X S1 F → ∀ (K' : OP → Nat → Cap → AS → RV), (∀ a l c S' L', SlG a l c sz (xs ++ ys) L' → Hp X S' (L' ++ F) → Ok (K' a l c S') Q) → Ok (K' (some (.rw S1.next, 0)) (xs.length + ys.length) (.op sz (xs.length + ys.length)) (S1.new (.cells (xs.flatten ++ ys.flatten)))) Q := by
  intro S1 h1 K' ht
  have hlen : (xs ++ ys).length = xs.length + ys.length := List.length_append
  rw [← hlen, ← List.flatten_append]
  refine ht _ _ _ _ [C S1.next (xs ++ ys).flatten] (SlR.g (.blk (fun x hx => ?_) (.inr rfl))) (h1.new _)
  rcases List.mem_append.1 hx with hx | hx
  ·exact hall x hx
  ·exact hy x hx
 cases hs with
 | nil =>
   simp only [List.length_nil] at h1 h2 grow
   simp only [appendA, forceL_eq, if_pos h1, if_pos h2]
   split
   ·rename_i hle
    have : ys = [] := List.length_eq_zero_iff.1 (by omega)
    subst this
    rw [hsrc]
    exact ht _ _ _ _ [] .nil hp
   ·simp only [firstA, List.length_nil, if_true]
    rw [hsrc]
    exact grow S hp.right K ht
 | blk hx hj hc =>
   rename_i b js
   have hp' : Hp X S (C b (xs ++ js).flatten :: F) := hp
   have hall2 : ∀ x ∈ xs ++ js, x.length = sz := fun x h => by
    rcases List.mem_append.1 h with h | h
    ·exact hx x h
    ·exact hj x h
   have hfl := flat_len hall2
   have hfx := flat_len hx
   have hfy := flat_len hy
   have htk : (xs ++ js).flatten.take (xs.length * sz) = xs.flatten := by
    rw [flat_take _ hall2, List.take_append]; simp
   have hle0 : xs.length * sz ≤ (xs ++ js).flatten.length := by
    rw [hfl, List.length_append, Nat.add_mul]; omega
   simp only [appendA, forceL_eq, if_pos h1, if_pos h2]
   have inplace : ys.length ≤ js.length → ∀ c' : Cap, (c' = .ex (xs.length + js.length) ∨ c' = .op sz (xs.length + js.length)) → Ok (S.stn (.rw b) (0 + xs.length * sz) ys.flatten fun S' => K (some (.rw b, 0)) (xs.length + ys.length) c' S') Q := by
    intro hle c' hc'
    rw [Nat.zero_add]
    refine ok_stn hp' (d := (xs ++ ys ++ js.drop ys.length).flatten) ?_ (flat_splice_many hx hj hy hle) (fun S' h' => ?_)
    ·rw [hfl, hfy, List.length_append, ← Nat.add_mul]
     exact Nat.mul_le_mul_right sz (by omega)
    ·rw [← List.length_append]
     refine ht _ _ _ _ [C b (xs ++ ys ++ js.drop ys.length).flatten] (SlG.blk (fun x h => ?_) (fun x h => hj x (List.mem_of_mem_drop h)) ?_) h'
     ·rcases List.mem_append.1 h with h | h
      ·exact hx x h
      ·exact hy x h
     ·have : (xs ++ ys).length + (js.drop ys.length).length = xs.length + js.length := by simp; omega
      rw [this]; exact hc'
   rcases hc with rfl | rfl
   ·simp only
    split
    ·rename_i hle
     rw [hsrc]
     exact inplace (by omega) _ (.inl rfl)
    ·have e : firstA S sz xs.length (.sl (some (.rw b, 0)) xs.length (.ex (xs.length + js.length))) (fun old => src fun new => K (some (.rw S.next, 0)) (xs.length + ys.length) (.op sz (xs.length + ys.length)) (S.new (.cells (old ++ new)))) = src fun new => K (some (.rw S.next, 0)) (xs.length + ys.length) (.op sz (xs.length + ys.length)) (S.new (.cells (xs.flatten ++ new))) :=
      RdR.first (.rw (b := b) (L := C b (xs ++ js).flatten :: F) (c := (xs ++ js).flatten) List.mem_cons_self (by rw [Nat.zero_add, hfx]; exact hle0) (by rw [List.drop_zero, hfx, htk])) hp' hfx hz _
     rw [e, hsrc]
     exact grow S hp'.drop1 K ht
   ·simp only
    split
    ·rename_i h0
     have : ys = [] := List.length_eq_zero_iff.1 h0
     subst this
     exact ht _ _ _ _ [C b (xs ++ js).flatten] (by simpa using SlG.blk (b := b) hx hj (.inr rfl)) hp
    ·rename_i h0
     split
     ·rename_i hle
      rw [hsrc]
      exact inplace (by omega) _ (.inr rfl)
     ·rename_i hle
      simp only [if_true]
      have e : S.ldn (.rw b) 0 (xs.length * sz) (fun old => src fun new => K (some (.rw (S.kill b).next, 0)) (xs.length + ys.length) (.op sz (xs.length + ys.length)) ((S.kill b).new (.cells (old ++ new)))) = src fun new => K (some (.rw (S.kill b).next, 0)) (xs.length + ys.length) (.op sz (xs.length + ys.length)) ((S.kill b).new (.cells (xs.flatten ++ new))) := by
       simp only [AS.ldn_eq, hp'.blk b, Nat.zero_add, if_pos hle0, List.drop_zero, htk]
      have e2 : S.next = (S.kill b).next := rfl
      rw [e2, e, hsrc]
      refine grow (S.kill b) ?_ K ht
      have hn := hp'.nd
      simp only [List.map_cons, List.nodup_cons] at hn
      have h3 := hp'.drop1
      refine ⟨h3.ro, h3.lp, h3.nd, fun b1 o1 hm => ?_, h3.lt⟩
      simp only [AS.kill, Tr.get_set]
      rw [if_neg (fun he => hn.1 (by rw [← he]; exact List.mem_map_of_mem hm))]
      exact h3.got b1 o1 hm
def ixs (k : IntKind) (l : List Int) : List (List AV) := l.map fun n => [.int k n]
@[simp] theorem ixs_len (k : IntKind) (l : List Int) : (ixs k l).length = l.length := by simp [ixs]
theorem ixs_all (k : IntKind) (l : List Int) : ∀ x ∈ ixs k l, x.length = 1 := by
 intro x hx
 obtain ⟨n, _, rfl⟩ := List.mem_map.1 hx
 rfl
@[simp] theorem ixs_flat (k : IntKind) (l : List Int) : (ixs k l).flatten = l.map (AV.int k) := by
 induction l with
 | nil => rfl
 | cons x xs ih => simp only [ixs, List.map_cons, List.flatten_cons] at ih ⊢; rw [ih]; rfl
end Go.Gr
