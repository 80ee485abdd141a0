/- Slices with room behind: an element taken out (slices.Delete), whatever the elements. -/
import Derived.Test.YtcepfilbiahdjaaGrSep2
set_option linter.unusedVariables false
set_option linter.unusedSimpArgs false
namespace Go.Gr

theorem slG_cases {β : Type} {sz b N l : Nat} {cap : Cap} (hc : cap = .ex N ∨ cap = .op sz N) (hl : l ≤ N) {i j : Nat} (hij : i ≤ j) (hj : j ≤ l) {xi xj xl : Int} (h1 : xi = i) (h2 : xj = j) (h3 : xl = l) {K : Option Pos → Nat → Cap → Option β} :
    ∃ a' l' c', slSl sz (some (.rw b, 0)) l cap (some xi) (some xj) (some xl) K = K a' l' c' := by
  subst h1 h2 h3
  rcases hc with rfl | rfl
  · exact ⟨_, _, _, by simp only [slSl, optIx, ix, Int.natCast_nonneg, if_true, Int.toNat_natCast, if_pos hl, if_pos hj, if_pos hij]; rfl⟩
  · exact ⟨_, _, _, by simp only [slSl, optIx, ix, Int.natCast_nonneg, if_true, Int.toNat_natCast, Nat.le_refl, if_pos hj, if_pos hij]; rfl⟩

theorem slG_head {β : Type} {sz b N l : Nat} {cap : Cap} (hc : cap = .ex N ∨ cap = .op sz N) (hl : l ≤ N) {i : Nat} (hi : i ≤ l) {xi : Int} (h1 : xi = i) {K : Option Pos → Nat → Cap → Option β} :
    slSl sz (some (.rw b, 0)) l cap none (some xi) none K = K (some (.rw b, 0)) i cap := by
  subst h1
  rcases hc with rfl | rfl
  · have hN : i ≤ N := by omega
    simp [slSl, optIx, ix, hN]
  · simp [slSl, optIx, ix, hi]

theorem slG_tail {β : Type} {sz b N l : Nat} {cap : Cap} (hc : cap = .ex N ∨ cap = .op sz N) (hl : l ≤ N) {j : Nat} (hj : j ≤ l) {xj : Int} (h1 : xj = j) {K : Option Pos → Nat → Cap → Option β} :
    ∃ o c', (o = j * sz ∨ (l = j ∧ o = 0)) ∧ slSl sz (some (.rw b, 0)) l cap (some xj) none none K = K (some (.rw b, o)) (l - j) c' := by
  subst h1
  rcases hc with rfl | rfl
  · by_cases hN : N = j
    · have hlj : l = j := by omega
      subst hlj hN
      refine ⟨0, .ex (N - N), .inr ⟨rfl, rfl⟩, ?_⟩
      simp [slSl, optIx, ix]
    · refine ⟨j * sz, .ex (N - j), .inl rfl, ?_⟩
      simp [slSl, optIx, ix, hl, hj, hN]
  · refine ⟨j * sz, .op sz (N - j), .inl rfl, ?_⟩
    simp [slSl, optIx, ix, hj]

theorem slG_last {β : Type} {sz b N l : Nat} {cap : Cap} (hc : cap = .ex N ∨ cap = .op sz N) (hl : l + 1 ≤ N) {x y : Int} (h1 : x = l) (h2 : y = (l + 1 : Nat)) {K : Option Pos → Nat → Cap → Option β} :
    ∃ c', slSl sz (some (.rw b, 0)) l cap (some x) (some y) none K = K (some (.rw b, l * sz)) 1 c' := by
  subst h1 h2
  rcases hc with rfl | rfl
  · refine ⟨.ex (N - l), ?_⟩
    have h3 : ¬ N = l := by omega
    simp only [slSl, optIx, ix, Int.natCast_nonneg, if_true, Int.toNat_natCast, Nat.le_refl, if_pos hl, if_pos (Nat.le_succ l), if_neg h3, Option.map_some, Nat.zero_add, Nat.add_sub_cancel_left]
  · refine ⟨.op sz (N - l), ?_⟩
    have h3 : l + 1 ≤ l ∨ l + 1 ≤ N := .inr hl
    simp only [slSl, optIx, ix, Int.natCast_nonneg, if_true, Int.toNat_natCast, if_pos h3, if_pos (Nat.le_succ l), Option.map_some, Nat.zero_add, Nat.add_sub_cancel_left]

theorem ok_delete {X : Cx} {S : AS} {L F : List Ent} {sz bytes : Nat} {z : List AV} (hzl : z.length = sz) (hsz : 0 < sz) {xs : List (List AV)} {a : Option Pos} {l : Nat} {c : Cap} (h : Hp X S (L ++ F)) (hs : SlG a l c sz xs L) (hb : xs.length * bytes ≤ pow46) (hb2 : xs.length ≤ pow46) {i : Nat} (hi : i < xs.length) {xi xj : Int} (h1 : xi = i) (h2 : xj = (i + 1 : Nat)) :
    Ok (slSl sz a l c (some xi) (some xj) (some ((l : Nat) : Int)) fun v1a v1l v1c =>
      cond (xi == xj) (some ((.sl a l c), S)) (
      slSl sz a l c none (some xi) none fun v2a v2l v2c =>
      slSl sz a l c (some xj) none none fun v3a v3l v3c =>
      appendA sz bytes S v2a v2l v2c v3l (firstA S sz v3l (.sl v3a v3l v3c)) fun v4a v4l v4c S5 =>
      slSl sz v4a v4l v4c (some ((v4l : Nat) : Int)) (some ((l : Nat) : Int)) none fun v6a v6l v6c =>
      clearA z S5 v6a v6l fun S7 =>
      some ((.sl v4a v4l v4c), S7))) fun v S' => ∃ a' l' c' L', v = .sl a' l' c' ∧ SlG a' l' c' sz (xs.eraseIdx i) L' ∧ Hp X S' (L' ++ F) := by
  rcases hs.dest with ⟨_, _, _, h4, _⟩ | ⟨bt, js, rfl, rfl, hc, rfl, hx, hj⟩
  · rw [h4] at hi; simp at hi
  have hp : Hp X S (C bt (xs ++ js).flatten :: F) := h
  have hall : ∀ x ∈ xs ++ js, x.length = sz := fun x hm => by
    rcases List.mem_append.1 hm with hm | hm
    · exact hx x hm
    · exact hj x hm
  have hfl := flat_len hall
  obtain ⟨a1, l1, c1, e1⟩ := slG_cases (β := AV × AS) (sz := sz) (b := bt) (l := xs.length) hc (by omega) (i := i) (j := i + 1) (by omega) (by omega) h1 h2 rfl (K := fun v1a v1l v1c =>
      cond (xi == xj) (some ((.sl (some (.rw bt, 0)) xs.length c), S)) (
      slSl sz (some (.rw bt, 0)) xs.length c none (some xi) none fun v2a v2l v2c =>
      slSl sz (some (.rw bt, 0)) xs.length c (some xj) none none fun v3a v3l v3c =>
      appendA sz bytes S v2a v2l v2c v3l (firstA S sz v3l (.sl v3a v3l v3c)) fun v4a v4l v4c S5 =>
      slSl sz v4a v4l v4c (some ((v4l : Nat) : Int)) (some ((xs.length : Nat) : Int)) none fun v6a v6l v6c =>
      clearA z S5 v6a v6l fun S7 =>
      some ((.sl v4a v4l v4c), S7)))
  rw [e1]
  refine ok_false (by rw [h1, h2]; simp; omega) ?_
  rw [slG_head hc (by omega) (i := i) (by omega) h1]
  obtain ⟨o, c3, ho, e3⟩ := slG_tail (β := AV × AS) (sz := sz) (b := bt) (l := xs.length) hc (by omega) (j := i + 1) (by omega) h2 (K := fun v3a v3l v3c =>
      appendA sz bytes S (some (.rw bt, 0)) i c v3l (firstA S sz v3l (.sl v3a v3l v3c)) fun v4a v4l v4c S5 =>
      slSl sz v4a v4l v4c (some ((v4l : Nat) : Int)) (some ((xs.length : Nat) : Int)) none fun v6a v6l v6c =>
      clearA z S5 v6a v6l fun S7 =>
      some ((.sl v4a v4l v4c), S7))
  rw [e3]
  have hE : xs.eraseIdx i = xs.take i ++ xs.drop (i + 1) := List.eraseIdx_eq_take_drop_succ xs i
  have hEl : (xs.eraseIdx i).length = xs.length - 1 := by rw [List.length_eraseIdx, if_pos hi]
  obtain ⟨y, hy⟩ : ∃ y, xs[xs.length - 1]? = some y := ⟨_, List.getElem?_eq_getElem (by omega)⟩
  have hdl : xs.drop (xs.length - 1) = [y] := by
    obtain ⟨hlt, he⟩ := List.getElem?_eq_some_iff.1 hy
    rw [List.drop_eq_getElem_cons hlt, he, List.drop_of_length_le (by omega)]
  have hxd : ∀ x ∈ xs.drop (i + 1), x.length = sz := fun x hm => hx x (List.mem_of_mem_drop hm)
  have hfd := flat_len hxd
  rw [List.length_drop] at hfd
  have hrd : firstA S sz (xs.length - (i + 1)) (.sl (some (.rw bt, o)) (xs.length - (i + 1)) c3) = fun (K : List AV → Option (AV × AS)) => K (xs.drop (i + 1)).flatten := by
    funext K
    refine RdR.first (X := X) (L := C bt (xs ++ js).flatten :: F) (cs := (xs.drop (i + 1)).flatten) ?_ hp hfd hsz K
    rcases ho with rfl | ⟨ho, rfl⟩
    · refine .rw (c := (xs ++ js).flatten) List.mem_cons_self ?_ ?_
      · rw [hfl, hfd, ← Nat.add_mul, List.length_append]
        exact Nat.mul_le_mul_right sz (by omega)
      · rw [flat_drop _ hall, List.drop_append_of_le_length (by omega), List.flatten_append, List.take_left]
    · have : (xs.drop (i + 1)).flatten = [] := by
        rw [List.drop_of_length_le (by omega)]; rfl
      rw [this]
      exact .rw (c := (xs ++ js).flatten) List.mem_cons_self (by simp) (by simp)
  have hlen : i + (xs.length - (i + 1)) = xs.length - 1 := by omega
  have hxe : ∀ x ∈ xs.eraseIdx i, x.length = sz := fun x hm => hx x (List.mem_of_mem_eraseIdx hm)
  have hyl : y.length = sz := hx y (List.mem_of_getElem? hy)
  have hyj : ∀ x ∈ y :: js, x.length = sz := fun x hm => by
    rcases List.mem_cons.1 hm with rfl | hm
    · exact hyl
    · exact hj x hm
  have rest : ∀ S5, Hp X S5 (C bt (xs.eraseIdx i ++ (y :: js)).flatten :: F) → Ok (slSl sz (some (.rw bt, 0)) (xs.length - 1) c (some ((xs.length - 1 : Nat) : Int)) (some ((xs.length : Nat) : Int)) none fun v6a v6l v6c => clearA z S5 v6a v6l fun S7 => some ((.sl (some (.rw bt, 0)) (xs.length - 1) c), S7)) fun v S' => ∃ a' l' c' L', v = .sl a' l' c' ∧ SlG a' l' c' sz (xs.eraseIdx i) L' ∧ Hp X S' (L' ++ F) := by
    intro S5 h5
    obtain ⟨c6, e6⟩ := slG_last (β := AV × AS) (sz := sz) (b := bt) (l := xs.length - 1) hc (by omega) (x := ((xs.length - 1 : Nat) : Int)) (y := ((xs.length : Nat) : Int)) rfl (by omega) (K := fun v6a v6l v6c => clearA z S5 v6a v6l fun S7 => some ((.sl (some (.rw bt, 0)) (xs.length - 1) c), S7))
    rw [e6]
    simp only [clearA, if_neg (show ¬ 1 = 0 by decide)]
    have hz1 : zeros 1 z = [z].flatten := by simp [zeros]
    rw [hz1]
    have hsp := flat_splice_many (xs := xs.eraseIdx i) (ys := [z]) (zs := y :: js) hxe hyj (by simpa using hzl) (by simp)
    rw [hEl] at hsp
    have hfe := flat_len (xs := xs.eraseIdx i ++ (y :: js)) (sz := sz) (fun x hm => by
      rcases List.mem_append.1 hm with hm | hm
      · exact hxe x hm
      · exact hyj x hm)
    refine ok_stn h5 ?_ (d := (xs.eraseIdx i ++ (z :: js)).flatten) ?_ (fun S7 h7 => ok_ret ⟨_, _, _, [C bt (xs.eraseIdx i ++ (z :: js)).flatten], rfl, ?_, h7⟩)
    · rw [hfe, List.length_append, hEl, List.length_cons]
      simp only [List.flatten_cons, List.flatten_nil, List.append_nil, hzl, Nat.add_mul, Nat.one_mul]
      omega
    · rw [hsp]; simp
    · rw [← hEl]
      refine SlG.blk (b := bt) (xs := xs.eraseIdx i) (js := z :: js) (c := c) hxe (fun x hm => ?_) ?_
      · rcases List.mem_cons.1 hm with rfl | hm
        · exact hzl
        · exact hj x hm
      · have e : (xs.eraseIdx i).length + (z :: js).length = xs.length + js.length := by simp [hEl]; omega
        rw [e]; exact hc
  have hb1 : (i + (xs.length - (i + 1))) * bytes ≤ pow46 := Nat.le_trans (Nat.mul_le_mul_right bytes (by omega)) hb
  have hb3 : i + (xs.length - (i + 1)) ≤ pow46 := by omega
  have inplace : Ok (S.stn (.rw bt) (0 + i * sz) (xs.drop (i + 1)).flatten fun S5 => slSl sz (some (.rw bt, 0)) (i + (xs.length - (i + 1))) c (some ((i + (xs.length - (i + 1)) : Nat) : Int)) (some ((xs.length : Nat) : Int)) none fun v6a v6l v6c => clearA z S5 v6a v6l fun S7 => some ((.sl (some (.rw bt, 0)) (i + (xs.length - (i + 1))) c), S7)) fun v S' => ∃ a' l' c' L', v = .sl a' l' c' ∧ SlG a' l' c' sz (xs.eraseIdx i) L' ∧ Hp X S' (L' ++ F) := by
    rw [Nat.zero_add, hlen]
    have hti : (xs.take i).length = i := by simp; omega
    have hsp := flat_splice_many (sz := sz) (xs := xs.take i) (ys := xs.drop (i + 1)) (zs := xs.drop i ++ js) (fun x hm => hx x (List.mem_of_mem_take hm)) (fun x hm => by
      rcases List.mem_append.1 hm with hm | hm
      · exact hx x (List.mem_of_mem_drop hm)
      · exact hj x hm) hxd (by simp; omega)
    rw [hti, ← List.append_assoc, List.take_append_drop, List.length_drop, List.drop_append_of_le_length (by simp; omega), List.drop_drop, hlen, hdl, ← hE] at hsp
    refine ok_stn hp ?_ (d := (xs.eraseIdx i ++ (y :: js)).flatten) ?_ (fun S5 h5 => rest S5 h5)
    · rw [hfl, hfd, ← Nat.add_mul, List.length_append]
      exact Nat.mul_le_mul_right sz (by omega)
    · rw [hsp]; simp
  simp only [appendA, forceL_eq, if_pos hb1, if_pos hb3, hrd]
  rcases hc with rfl | rfl
  · simp only
    rw [if_pos (by omega)]
    exact inplace
  · simp only
    split
    · rename_i h0
      have hi1 : i = xs.length - 1 := by omega
      have key := rest S (by
        have : xs.drop (i + 1) = [] := List.drop_of_length_le (by omega)
        have e : xs.eraseIdx i ++ (y :: js) = xs ++ js := by
          rw [hE, this, List.append_nil, hi1]
          have : xs = xs.take (xs.length - 1) ++ [y] := by rw [← hdl, List.take_append_drop]
          conv => rhs; rw [this]
          simp
        rw [e]
        exact hp)
      rw [← hi1] at key
      exact key
    · rw [if_pos (by omega)]
      exact inplace

theorem callFB_of {β : Type} {call : CallA} {g : Nat} {a b args : List AV} {S S' : AS} {v : Bool} {K : Bool → AS → Option β} (e : call (.fn g) (a ++ (args ++ b)) S = some (.bool v, S')) : callFB call (.fn g a b) args S K = K v S' := by simp [callFB, e, gB]

/- ---- maps -/

section
variable {X : Cx} {S : AS} {L : List Ent} {Q : AV → AS → Prop} {b : Nat} {U : Option AObj → List Ent}

theorem Hp.getM (h : Hp X S L) (b : Nat) {kk : TK} {es : List (AV × AV)} {U : Option AObj → List Ent} [s : Sel b L (some (.map kk es)) U] : S.rw.get b = some (.map kk es) := by
  obtain ⟨M, p, _⟩ := s.out
  exact h.got b _ (p.mem_iff.2 List.mem_cons_self)
theorem ok_ldM {c : List AV} {i : Nat} {r : Option Nat} {K : Option Nat → Option (AV × AS)} (h : Hp X S L) [Sel b L (some (.cells c)) U] (hi : c[i]? = some (.mp r)) (ht : Ok (K r) Q) : Ok (ldM S (.rw b) i K) Q := by
  simp only [ldM, ldV, AS.ld_eq, h.blk b, hi, Option.bind_some, gM] at *
  exact ht
theorem ok_mapLen {kk : TK} {es : List (AV × AV)} {K : Nat → Option (AV × AS)} (h : Hp X S L) [Sel b L (some (.map kk es)) U] (ht : Ok (K es.length) Q) : Ok (S.mapLen (some b) K) Q := by
  simp only [AS.mapLen, h.getM b]
  exact ht
theorem ok_mapAt {te : TI} {kk : TK} {es : List (AV × AV)} {k v : AV} {f : Bool} {K : AV → Bool → Option (AV × AS)} (h : Hp X S L) [Sel b L (some (.map kk es)) U] (hn : noTup te.k = true) (hk : keyFits kk k = true)
    (hv : (findA k es).getD (cond (isAgg te.k) (.agg te.zero) (te.zero.headD .undef)) = v) (hf : (findA k es).isSome = f) (ht : Ok (K v f) Q) : Ok (mapAt te kk S (some b) k K) Q := by
  simp only [mapAt, hn, cond_true, AS.mapOf, h.getM b, if_true, hk, hv, hf]
  exact ht
theorem ok_mapUp {kk : TK} {es : List (AV × AV)} {k v : AV} {K : AS → Option (AV × AS)} (h : Hp X S L) [Sel b L (some (.map kk es)) U] (hk : keyFits kk k = true) (ht : ∀ S', Hp X S' (U (some (.map kk (updA k v es)))) → Ok (K S') Q) : Ok (mapUp kk S (some b) k v K) Q := by
  simp only [mapUp, AS.mapOf, h.getM b, if_true, hk, cond_true]
  exact ht _ (h.turn (b := b) _)
end

theorem yK_exit {L : ALoop} {ls : List ALoop} {S : AS} {i : Nat} (hl : S.loops = L :: ls) : yK L.id (.exit i) S = some (.bool false, { S with loops := { L with st := .done, pend := some (.exit i) } :: ls }) := by
  simp only [yK, hl, getLp_head, setLp_head]

end Go.Gr
