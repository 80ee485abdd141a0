/- What package journal does with a heap: transactions are trimmed. -/
import Derived.Test.YtcepfilbiahdjaaJoP
set_option linter.unusedVariables false
set_option linter.unusedSimpArgs false
set_option maxRecDepth 4000
namespace Go.Jn
open Go.Gr

def supT (J : JM) (lsn : Int) : Nat → Su
  | 0 => { J.sup with ls := lsn }
  | i + 1 => match J.l[i]? with
    | some o => { supT J lsn i with po := (supT J lsn i).po + o.need, ab := o.bo, as_ := o.se }
    | none => supT J lsn i
theorem supT_succ {J : JM} {lsn : Int} {i : Nat} {o : One} (h : J.l[i]? = some o) : supT J lsn (i + 1) = { supT J lsn i with po := (supT J lsn i).po + o.need, ab := o.bo, as_ := o.se } := by simp only [supT, h]
theorem supT_facts {J : JM} {k : Nat} (h : JI J k) (lsn : Int) : ∀ i, i ≤ J.l.length → (supT J lsn i).g = J.sup.g ∧ (supT J lsn i).bo = J.sup.bo ∧ (supT J lsn i).ls = lsn ∧ (supT J lsn i).po = J.sup.po + sumN (J.l.take i) ∧ (0 ≤ (supT J lsn i).ab ∧ (supT J lsn i).ab ≤ k) ∧ (0 ≤ (supT J lsn i).as_ ∧ (supT J lsn i).as_ ≤ k)
  | 0, _ => by
    have h1 := h.ab
    have h2 := h.as_
    refine ⟨rfl, rfl, rfl, ?_, h1, h2⟩
    show J.sup.po = _
    simp [sumN]
  | i + 1, hi => by
    obtain ⟨o, ho⟩ : ∃ o, J.l[i]? = some o := ⟨_, List.getElem?_eq_getElem (by omega)⟩
    obtain ⟨h1, h2, h3, h4, h5, h6⟩ := supT_facts h lsn i (by omega)
    have h7 := h.ol o (List.mem_of_getElem? ho)
    rw [supT_succ ho]
    refine ⟨h1, h2, h3, ?_, ⟨h7.2.2.1, h7.2.2.2.1⟩, ⟨h7.2.2.2.2.1, h7.2.2.2.2.2⟩⟩
    show (supT J lsn i).po + o.need = _
    rw [h4, sumN_take ho]; omega

def JM.trE (J : JM) (lsn : Int) : Int := if J.sy < lsn ∨ lsn < J.sup.ls then 2 else 0
def JM.trN (J : JM) (lsn : Int) : Nat := (lsn - J.sup.ls).toNat
def JM.tr (J : JM) (lsn : Int) : JM := if J.trE lsn = 0 ∧ lsn ≠ J.sup.ls then { J with sup := { supT J lsn (J.trN lsn) with g := J.sup.g + 1 }, l := J.l.drop (J.trN lsn), sy := lsn + (J.l.drop (J.trN lsn)).length } else J
theorem trE_iff {J : JM} {lsn : Int} : J.trE lsn = 0 ↔ J.sup.ls ≤ lsn ∧ lsn ≤ J.sy := by
  unfold JM.trE
  by_cases h : J.sy < lsn ∨ lsn < J.sup.ls
  · rw [if_pos h]; constructor
    · intro h2; simp at h2
    · intro h2; omega
  · rw [if_neg h]; exact ⟨fun _ => by omega, fun _ => rfl⟩
theorem trN_le {J : JM} {k : Nat} (h : JI J k) {lsn : Int} (he : J.trE lsn = 0) : J.trN lsn ≤ J.l.length ∧ ((J.trN lsn : Nat) : Int) = lsn - J.sup.ls := by
  have h1 := trE_iff.1 he
  have h2 := h.sy
  unfold JM.trN
  omega
theorem sumN_split (l : List One) (i : Nat) : sumN l = sumN (l.take i) + sumN (l.drop i) := by
  have h3 : sumN (l.take i ++ l.drop i) = sumN (l.take i) + sumN (l.drop i) := by
    rw [sumN, List.map_append, List.sum_append]; rfl
  rwa [List.take_append_drop] at h3
theorem JI.tr {J : JM} {k : Nat} (h : JI J k) (hk : k + 40 ≤ 100000) {lsn : Int} : JI (J.tr lsn) (k + 40) := by
  unfold JM.tr
  split
  · rename_i hc
    obtain ⟨he, hne⟩ := hc
    obtain ⟨h1, h2⟩ := trN_le h he
    have h3 := trE_iff.1 he
    obtain ⟨f1, f2, f3, f4, f5, f6⟩ := supT_facts h lsn (J.trN lsn) h1
    have h38 := h.lcount
    have hg := h.g
    have hpo := h.po
    have hls := h.ls
    have hrm := h.rm
    have h40 := h.c40
    have hbo := h.bo
    have hse := h.se
    have hsum := sumN_le (fun o ho => (h.ol o ho).1) (J.trN lsn)
    have hsp := sumN_split J.l (J.trN lsn)
    have hsy := h.sy
    refine ⟨h.c6, h.c40, ?_, ?_, ?_, ?_, ?_, ?_, ?_, ?_, fun o ho => ?_, ?_, hk⟩
    · show 1 ≤ J.sup.g + 1 ∧ J.sup.g + 1 ≤ ((k + 40 : Nat) : Int); omega
    · show 1 ≤ (supT J lsn (J.trN lsn)).bo ∧ (supT J lsn (J.trN lsn)).bo ≤ ((k + 40 : Nat) : Int); omega
    · show 0 ≤ (supT J lsn (J.trN lsn)).po ∧ (supT J lsn (J.trN lsn)).po ≤ 100 * ((k + 40 : Nat) : Int); omega
    · show 0 ≤ (supT J lsn (J.trN lsn)).ls ∧ (supT J lsn (J.trN lsn)).ls ≤ ((k + 40 : Nat) : Int); omega
    · show 0 ≤ (supT J lsn (J.trN lsn)).ab ∧ (supT J lsn (J.trN lsn)).ab ≤ ((k + 40 : Nat) : Int); omega
    · show 0 ≤ (supT J lsn (J.trN lsn)).as_ ∧ (supT J lsn (J.trN lsn)).as_ ≤ ((k + 40 : Nat) : Int); omega
    · show 0 ≤ J.se ∧ J.se ≤ ((k + 40 : Nat) : Int); omega
    · show (supT J lsn (J.trN lsn)).ls ≤ lsn + ((J.l.drop (J.trN lsn)).length : Nat) ∧ lsn + ((J.l.drop (J.trN lsn)).length : Nat) ≤ (supT J lsn (J.trN lsn)).ls + ((J.l.drop (J.trN lsn)).length : Nat); omega
    · have := h.ol o (List.mem_of_mem_drop ho); omega
    · show sumN (J.l.drop (J.trN lsn)) + 2 ≤ (J.count : Int); omega
  · exact h.up (by omega) hk

section
variable {X : Cx} {S : AS} {L F G Lj Ls : List Ent} {b bj sb : Nat} {Q : AV → AS → Prop} {J : JM} {k : Nat} {t : St}

theorem ok_slHead {sz b N l : Nat} {cap : Cap} {K : Option Pos → Nat → Cap → Option (AV × AS)} (hc : cap = .ex N ∨ cap = .op sz N) (hl : l ≤ N) {i : Nat} (hi : i ≤ l) {xi : Int} (h1 : xi = i) (ht : Ok (K (some (.rw b, 0)) i cap) Q) : Ok (slSl sz (some (.rw b, 0)) l cap none (some xi) none K) Q := by
  rw [slG_head (b := b) hc hl hi h1 (K := K)]; exact ht
theorem ok_slTail {sz b N l : Nat} {cap : Cap} {K : Option Pos → Nat → Cap → Option (AV × AS)} (hc : cap = .ex N ∨ cap = .op sz N) (hl : l ≤ N) {j : Nat} (hj : j ≤ l) {xj : Int} (h1 : xj = j) (ht : ∀ o c', (o = j * sz ∨ (l = j ∧ o = 0)) → Ok (K (some (.rw b, o)) (l - j) c') Q) : Ok (slSl sz (some (.rw b, 0)) l cap (some xj) none none K) Q := by
  have h := slG_tail (b := b) hc hl hj h1 (K := K)
  rcases h with ⟨o, c', ho, e⟩
  rw [e]; exact ht o c' ho

theorem tr_loop (n0 n : Nat) (hJ : JI J k) {lsn : Int} {N : Nat} (hN : N ≤ J.l.length) {a : Option Pos} {c : Cap} {b11 : Nat} {w5 : Int} (hr : RdR X F a (orows (J.l.take N)).flatten)
    (fin : ∀ S', Hp X S' (C b11 (srowS (supT J lsn N)) :: F) → Ok (J16_j1_1_1_1_1_1 (evF E orcL n) n0 (some (.rw bj, 0)) w5 (some (.rw b11, 0)) S') Q) :
    ∀ (m i : Nat) (M : List Ent) (S : AS), i ≤ N → N - i < m → Hp X S (M ++ (C b11 (srowS (supT J lsn i)) :: F)) →
      Ok (J16_l1_1_1_1_1_0_1_0 (evF E orcL n) n0 m (some (.rw bj, 0)) w5 (some (.rw b11, 0)) a N c N i S) Q
  | 0, i, M, S, hi, hm, h => by omega
  | m + 1, i, M, S, hi, hm, h => by
    have h38 := hJ.lcount
    have hk1 := hJ.k1
    have hpo := hJ.po
    rw [J16_l1_1_1_1_1_0_1_0_succ]
    simp only [b16_l1_1_1_1_1_0_1_0]
    refine ok_cond (fun hc => ?_) (fun hc => ?_)
    · simp only [decide_eq_true_eq] at hc
      have hlt : i < N := by omega
      obtain ⟨o, ho⟩ : ∃ o, J.l[i]? = some o := ⟨_, List.getElem?_eq_getElem (by omega)⟩
      have hoT : (J.l.take N)[i]? = some o := by rw [List.getElem?_take_of_lt hlt]; exact ho
      have hob := hJ.ol o (List.mem_of_getElem? ho)
      obtain ⟨f1, f2, f3, f4, f5, f6⟩ := supT_facts hJ lsn i (by omega)
      have hsum := sumN_le (fun o ho => (hJ.ol o ho).1) i
      have hrm := hJ.rm
      have h40 := hJ.c40
      have hr' : RdR X (M ++ (C b11 (srowS (supT J lsn i)) :: F)) a (orows (J.l.take N)).flatten := hr.mono (fun e he => by simp [he])
      have hlen : (J.l.take N).length = N := by simp; omega
      obtain ⟨p, hp⟩ := hr'.some_of (by intro he; have := congrArg List.length he; rw [flat_len (orows_all _), orows_len, hlen] at this; simp only [List.length_nil] at this; omega)
      have hr2 : ∀ {M : List Ent} {cs : List AV}, RdR X M a cs → RdR X M (some p) cs := fun h => by rw [← hp]; exact h
      rw [show ixSl 3 a N (i : Int) = ixSl 3 (some p) N (i : Int) by rw [hp]]
      rw [ixSl_at rfl hlt, (hr2 hr').elem h (orows_all _) (orows_at hoT)]
      refine ok_newA h (fun b20 S1 h1 => ok_ifO rfl (ok_stn h1 (by simp [orow]) (d := orow o) (by simp [splice, orow]) (fun S2 h2 => ok_gO (ok_ldI h2 rfl (ok_ldI h2 rfl (ok_gO ?_))))))
      rw [wu64 (n := o.need) (by omega) (by omega), wu64 (n := (supT J lsn i).po + o.need) (by omega) (by omega)]
      refine ok_stn h2 (by simp [srowS, Su.l]) (d := srowS { supT J lsn i with po := (supT J lsn i).po + o.need }) (by simp [splice, srowS, Su.l]) (fun S3 h3 => ok_ldI h3 rfl (ok_ldI h3 rfl (ok_gO ?_)))
      refine ok_stn h3 (by simp [srowS, Su.l]) (d := srowS { supT J lsn i with po := (supT J lsn i).po + o.need, ab := o.bo }) (by simp [splice, srowS, Su.l]) (fun S4 h4 => ok_ldI h4 rfl (ok_true (by simp [AV.beq]) (ok_gO ?_)))
      refine ok_stn h4 (by simp [srowS, Su.l]) (d := srowS (supT J lsn (i + 1))) (by rw [supT_succ ho]; simp [splice, srowS, Su.l]) (fun S5 h5 => ?_)
      rw [wn (x := (i : Int) + 1) (n := i + 1) (by omega) (by omega)]
      exact tr_loop n0 n hJ hN hr fin m (i + 1) (C b20 (orow o) :: M) S5 (by omega) (by omega) h5
    · simp only [decide_eq_false_iff_not] at hc
      have : i = N := by omega
      subst this
      exact fin S h.right

theorem cloneO_ok (n : Nat) (h : Hp X S F) {l : List One} {a : Option Pos} {c : Cap} (hr : RdR X F a (orows l).flatten) (hl : l.length ≤ 65536) :
    Ok (ev (n + 1) (.fn 39) [.sl a l.length c] S) fun v S' => ∃ (a' : Option Pos) (c' : Cap) (L' : List Ent), v = .sl a' l.length c' ∧ SlG a' l.length c' 3 (orows l) L' ∧ Hp X S' (L' ++ F) := by
  rw [ev, F39 _ _ _ _ _ (oL rfl)]
  simp only [J39, b39_entry]
  cases a with
  | none =>
    have ht : l = [] := by
      by_cases hn : (orows l).flatten = []
      · have := congrArg List.length hn
        rw [flat_len (orows_all l), orows_len] at this
        simp only [List.length_nil] at this
        exact List.length_eq_zero_iff.1 (by omega)
      · obtain ⟨p, hp⟩ := hr.some_of hn; cases hp
    subst ht
    exact ok_true rfl (ok_ret ⟨none, .ex 0, [], rfl, .nil, h⟩)
  | some p =>
    refine ok_false rfl (ok_newA h (fun b1 S1 h1 => ?_))
    have hs : SlR (some (.rw b1, 0)) 0 (.ex 0) 3 [] [C b1 []] := .of (xs := []) (by simp) rfl (.inl rfl)
    have h1' : Hp X S1 ([C b1 []] ++ F) := h1
    refine ok_append h1' hs (ys := orows l) (orows_all _) (by simp) (fun K => ?_) (by decide) (by simp [pow46]; omega) (by simp [pow46]; omega) (fun a3 l3 c3 S3 L3 ht' h3 => ?_)
    · exact (hr.mono (fun e he => by simp [he])).first h1' (sz := 3) (n := l.length) (by rw [flat_len (orows_all l), orows_len]) (by decide) (l := l.length) (c := c) K
    · rw [List.nil_append] at ht'
      obtain rfl : l3 = l.length := by have := ht'.len; simpa using this
      exact ok_ret ⟨a3, c3, L3, rfl, ht'.g, h3⟩

theorem trim_ok (n : Nat) (hn : 1000020 < n) (hJ : JI J k) {K : Nat} (hK : K ≤ 900000) (hSI : SI t J.count K) {lsn : Int} (hlsn : u64B lsn) (h : Hp X S (Ls ++ (Lj ++ F))) (hj : JB bj sb J Lj) (hb : StB sb t Ls) :
    Ok (ev (n + 5) (.fn 16) [.ptr (some (.rw bj, 0)), .int .u64 lsn] S) fun v S' => v = .int .i64 (J.trE lsn) ∧ ∃ (t' : St) (L' Lj' : List Ent), StB sb t' L' ∧ SI t' J.count K ∧ JB bj sb (J.tr lsn) Lj' ∧ Hp X S' (L' ++ (Lj' ++ F)) := by
  have hj0 := hj
  obtain ⟨ja, jc, Ll, hsj, rfl⟩ := hj
  have h38 := hJ.lcount
  have hk1 := hJ.k1
  have hls := hJ.ls
  obtain ⟨hl0, hl1⟩ := hlsn
  rw [ev, F16 _ _ _ _ (oL rfl)]
  simp only [J16, b16_entry]
  have same : ∀ (S' : AS), J.tr lsn = J → Hp X S' (Ls ++ (C bj (jrow (dev sb) J ja J.l.length jc) :: Ll ++ F)) → Ok (some (AV.int .i64 (J.trE lsn), S')) fun v S' => v = .int .i64 (J.trE lsn) ∧ ∃ (t' : St) (L' Lj' : List Ent), StB sb t' L' ∧ SI t' J.count K ∧ JB bj sb (J.tr lsn) Lj' ∧ Hp X S' (L' ++ (Lj' ++ F)) := fun S' he hh =>
    ok_ret ⟨rfl, t, Ls, _, hb, hSI, by rw [he]; exact hj0, hh⟩
  refine ok_false rfl (ok_gO (ok_ldI h rfl (ok_cond (fun c1 => ?_) (fun c1 => ok_gO (ok_ldI h rfl (ok_cond (fun c2 => ?_) (fun c2 => ok_gO (ok_ldI h rfl (ok_cond (fun c3 => ?_) (fun c3 => ?_))))))))))
  · simp only [gt_iff_lt, decide_eq_true_eq] at c1
    have he : J.trE lsn = 2 := by rw [JM.trE, if_pos (.inl c1)]
    have := same S (by rw [JM.tr, he, if_neg (by simp)]) h
    rwa [he] at this ⊢
  · simp only [decide_eq_true_eq] at c2
    have he : J.trE lsn = 2 := by rw [JM.trE, if_pos (.inr c2)]
    have := same S (by rw [JM.tr, he, if_neg (by simp)]) h
    rwa [he] at this ⊢
  · simp only [gt_iff_lt, decide_eq_false_iff_not, beq_iff_eq] at c1 c2 c3
    have he : J.trE lsn = 0 := trE_iff.2 ⟨by omega, by omega⟩
    have := same S (by rw [JM.tr, if_neg (by simp [c3])]) h
    rwa [he] at this ⊢
  simp only [gt_iff_lt, decide_eq_false_iff_not, beq_eq_false_iff_ne, ne_eq] at c1 c2 c3
  have he : J.trE lsn = 0 := trE_iff.2 ⟨by omega, by omega⟩
  obtain ⟨hN, hNi⟩ := trN_le hJ he
  generalize hNN : J.trN lsn = N at hN hNi
  have hN1 : 1 ≤ N := by omega
  have htr : J.tr lsn = { J with sup := { supT J lsn N with g := J.sup.g + 1 }, l := J.l.drop N, sy := lsn + (J.l.drop N).length } := by rw [JM.tr, if_pos ⟨he, c3⟩, hNN]
  refine ok_gO (ok_ldI h rfl (ok_gO (ok_ldn h (by simp [jrow]) (d := srowS J.sup) rfl (ok_newA h (fun b11 S12 h12 => ok_ifO rfl (ok_stn h12 (by simp [srowS, Su.l]) (d := srowS J.sup) (by simp [splice, srowS, Su.l]) (fun S13 h13 => ok_stn h13 (by simp [srowS, Su.l]) (d := srowS (supT J lsn 0)) (by simp [splice, srowS, Su.l, supT]) (fun S14 h14 => ok_gO (ok_ldL h14 rfl ?_)))))))))
  rw [wu64 (n := lsn - J.sup.ls) (by omega) (by omega), wn (x := lsn - J.sup.ls) (n := N) (by omega) (by omega)]
  rcases hsj.dest with ⟨_, hz, _, _, _⟩ | ⟨bl, js, rfl, hln, hcc, rfl, hx', hjs⟩
  · omega
  rw [orows_len] at hcc
  refine ok_slHead hcc (by omega) hN rfl ?_
  have rdA : ∀ {M : List Ent}, (C bl (orows J.l ++ js).flatten) ∈ M → RdR X M (some (.rw bl, 0)) (orows J.l).flatten := fun hm => hsj.rd (fun e he => by simp only [List.mem_singleton] at he; subst he; exact hm)
  have hfl : (orows J.l).flatten.length = J.l.length * 3 := by rw [flat_len (orows_all _), orows_len]
  have rdH : ∀ {M : List Ent}, (C bl (orows J.l ++ js).flatten) ∈ M → RdR X M (some (.rw bl, 0)) (orows (J.l.take N)).flatten := fun hm => by
    have := rd_sub (rdA hm) (lo := 0) (k := N * 3) (by rw [hfl]; omega)
    rw [List.drop_zero, flat_take N (orows_all _)] at this
    rw [show orows (J.l.take N) = (orows J.l).take N by simp [orows, List.map_take]]
    exact this
  have h14' : Hp X S14 ([] ++ (C b11 (srowS (supT J lsn 0)) :: (Ls ++ (C bj (jrow (dev sb) J (some (.rw bl, 0)) J.l.length jc) :: [C bl (orows J.l ++ js).flatten] ++ F)))) := h14
  refine tr_loop (n + 4) (n + 4) hJ hN (rdH (by simp)) (fun S15 h15 => ?_) (n + 4) 0 [] S14 (by omega) (by omega) h14'
  simp only [J16_j1_1_1_1_1_1, b16_j1_1_1_1_1_1]
  refine ok_gO (ok_ldn h15 (by simp [srowS, Su.l]) (d := srowS (supT J lsn N)) (by simp [srowS, Su.l]) ?_)
  obtain ⟨f1, f2, f3, f4, f5, f6⟩ := supT_facts hJ lsn N hN
  have hsum := sumN_le (fun o ho => (hJ.ol o ho).1) N
  have hrm := hJ.rm
  have h40 := hJ.c40
  have hpo := hJ.po
  have hg := hJ.g
  have hbo := hJ.bo
  have hsy := hJ.sy
  have hb62 : ∀ y ∈ (supT J lsn N).l, 0 ≤ y ∧ y ≤ 4611686018427387904 := by
    intro y hy
    simp only [Su.l, List.mem_cons, List.not_mem_nil, or_false] at hy
    rcases hy with rfl | rfl | rfl | rfl | rfl | rfl
    all_goals constructor <;> omega
  have h15' : Hp X S15 (Ls ++ ((C bj (jrow (dev sb) J (some (.rw bl, 0)) J.l.length jc) :: [C bl (orows J.l ++ js).flatten]) ++ (C b11 (srowS (supT J lsn N)) :: F))) := h15.re (by intro p; simp only [List.countP_append, List.countP_cons, List.countP_nil, List.cons_append, C]; omega)
  obtain ⟨v, S16, e16, rfl, t', L', Lj', hb', hSI', hj', h16⟩ : Ok (evF E orcL (n + 4) (.fn 38) [.ptr (some (.rw bj, 0)), .agg (srowS (supT J lsn N))] S15) _ := writes_ok n (by omega) hJ (x := supT J lsn N) hb62 (by omega) ⟨hSI.len, hSI.f, by have := hSI.q; omega, hSI.r⟩ h15' hj0 hb
  rw [callI_of e16]
  obtain ⟨ja2, jc2, Ll2, hsj2, rfl⟩ := hj'
  have hsl : (J.sup! { supT J lsn N with g := J.sup.g + 1 }).l = J.l := rfl
  rw [hsl] at hsj2 h16
  refine ok_false rfl (ok_gO (ok_ldL h16 rfl ?_))
  rcases hsj2.dest with ⟨_, hz, _, _, _⟩ | ⟨bl2, js2, rfl, hln2, hcc2, rfl, hx2, hjs2⟩
  · omega
  rw [orows_len] at hcc2
  refine ok_slTail hcc2 (by omega) hN rfl (fun o c3' ho => ?_)
  have rdT : RdR X (L' ++ (C bj (jrow (dev sb) (J.sup! { supT J lsn N with g := J.sup.g + 1 }) (some (.rw bl2, 0)) J.l.length jc2) :: [C bl2 (orows J.l ++ js2).flatten] ++ (C b11 (srowS (supT J lsn N)) :: F))) (some (.rw bl2, o)) (orows (J.l.drop N)).flatten := by
    have h0 : RdR X (L' ++ (C bj (jrow (dev sb) (J.sup! { supT J lsn N with g := J.sup.g + 1 }) (some (.rw bl2, 0)) J.l.length jc2) :: [C bl2 (orows J.l ++ js2).flatten] ++ (C b11 (srowS (supT J lsn N)) :: F))) (some (.rw bl2, 0)) (orows J.l).flatten := hsj2.rd (fun e he => by simp only [List.mem_singleton] at he; subst he; simp)
    rcases ho with rfl | ⟨hh, rfl⟩
    · have := rd_sub h0 (lo := N * 3) (k := (J.l.length - N) * 3) (by rw [hfl]; omega)
      rw [flat_drop N (orows_all _), List.take_of_length_le (by rw [flat_len (fun x hx => orows_all J.l x (List.mem_of_mem_drop hx)), List.length_drop, orows_len]; exact Nat.le_refl _), Nat.zero_add] at this
      rw [show orows (J.l.drop N) = (orows J.l).drop N by simp [orows, List.map_drop]]
      exact this
    · rw [List.drop_of_length_le (by omega)]
      exact rd_nil h0
  obtain ⟨v, S42, e42, a42, c42, L42, rfl, hs42, h42⟩ : Ok (evF E orcL (n + 4) (.fn 39) [.sl (some (.rw bl2, o)) (J.l.drop N).length c3'] S16) _ := cloneO_ok (n + 3) h16 rdT (by simp; omega)
  rw [List.length_drop] at e42
  rw [callL_of e42]
  have h42' : Hp X S42 (L' ++ (C bj (jrow (dev sb) (J.sup! { supT J lsn N with g := J.sup.g + 1 }) (some (.rw bl2, 0)) J.l.length jc2) :: L42 ++ F)) := (h42.re (M := C bl2 (orows J.l ++ js2).flatten :: C b11 (srowS (supT J lsn N)) :: (L' ++ (C bj (jrow (dev sb) (J.sup! { supT J lsn N with g := J.sup.g + 1 }) (some (.rw bl2, 0)) J.l.length jc2) :: L42 ++ F))) (by intro p; simp only [List.countP_append, List.countP_cons, List.countP_nil, List.cons_append, C]; omega)).drop1.drop1
  have hJ3 : JI { J with sup := { supT J lsn N with g := J.sup.g + 1 }, l := J.l.drop N, sy := lsn + (J.l.drop N).length } (k + 40) ∨ k + 40 > 100000 := by
    by_cases hk40 : k + 40 ≤ 100000
    · left; rw [← htr]; exact hJ.tr hk40
    · right; omega
  have hld : (J.l.drop N).length = J.l.length - N := List.length_drop
  refine ok_gO (ok_stn h42' (by simp [jrow]) (d := jrow (dev sb) { J with sup := { supT J lsn N with g := J.sup.g + 1 }, l := J.l.drop N } a42 (J.l.drop N).length c42) (by simp [splice, jrow, JM.sup!]) (fun S45 h45 => ?_))
  have hlast : evF E orcL (n + 4) (.fn 29) [.ptr (some (.rw bj, 0))] S45 = some (.int .u64 (lsn + (J.l.drop N).length), S45) := by
    apply ok_eq
    rw [F29 _ _ _ (oL rfl)]
    simp only [J29, b29_entry]
    refine ok_false rfl (ok_gO (ok_ldI h45 rfl (ok_gO (ok_ldL h45 rfl (ok_ret ⟨?_, rfl⟩)))))
    show AV.int .u64 (IntKind.wrap .u64 ((supT J lsn N).ls + IntKind.wrap .u64 (((J.l.drop N).length : Nat) : Int))) = _
    rw [f3, wu64 (n := (((J.l.drop N).length : Nat) : Int)) (by omega) (by omega), wu64 (by omega) (by omega)]
  rw [callI_of hlast]
  refine ok_gO (ok_stn h45 (by simp [jrow]) (d := jrow (dev sb) (J.tr lsn) a42 (J.tr lsn).l.length c42) (by rw [htr]; simp [splice, jrow]) (fun S49 h49 => ?_))
  rw [he]
  refine ok_ret ⟨rfl, t', L', C bj (jrow (dev sb) (J.tr lsn) a42 (J.tr lsn).l.length c42) :: L42, hb', ⟨hSI'.len, hSI'.f, by have := hSI'.q; omega, hSI'.r⟩, ⟨a42, c42, L42, ?_, rfl⟩, h49⟩
  rw [htr]
  exact hs42

end

end Go.Jn
