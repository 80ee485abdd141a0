/- The codec of a journal in plain Lean: entries, superblocks and transactions as bytes; there and back. -/
import Derived.Test.YtcepfilbiahdjaaJnO
set_option linter.unusedVariables false
set_option linter.unusedSimpArgs false
namespace Go.Jn
open Go.Gr

theorem win8_mid {p x r : List UInt8} {i n : Nat} (hp : p.length = i) (hx : x.length = n) : win8 (p ++ (x ++ r)) i n = x := by
  subst hp; subst hx
  rw [win8, List.drop_left, List.take_left]

/-- A log entry. -/
structure Le where
  bo : Int
  se : Int
  po : Int
  ls : Int
  pa : Int
  ps : Int
  by_ : List UInt8
def u64B (x : Int) : Prop := 0 ≤ x ∧ x < 18446744073709551616
def i64B (x : Int) : Prop := -9223372036854775808 ≤ x ∧ x < 9223372036854775808
structure LeB (e : Le) : Prop where
  bo : u64B e.bo
  se : u64B e.se
  po : u64B e.po
  ls : u64B e.ls
  pa : i64B e.pa
  ps : i64B e.ps

def zz (n : Nat) : List UInt8 := List.replicate n 0
@[simp] theorem zz_len (n : Nat) : (zz n).length = n := by simp [zz]
def mxB (x : Int) : Bool := decide (x ≤ 4611686018427387904)
def okE (e : Le) : Bool := e.bo != 0 && e.se != 0 && e.ls != 0 && mxB e.bo && mxB e.se && mxB e.ls && mxB e.po && decide (1 ≤ e.ps) && decide (e.ps ≤ 100) && decide (0 ≤ e.pa) && decide (e.pa < e.ps) && decide (1 ≤ e.by_.length) && decide (e.by_.length ≤ 336)
theorem okE_iff (e : Le) : okE e = true ↔ e.bo ≠ 0 ∧ e.se ≠ 0 ∧ e.ls ≠ 0 ∧ e.bo ≤ 4611686018427387904 ∧ e.se ≤ 4611686018427387904 ∧ e.ls ≤ 4611686018427387904 ∧ e.po ≤ 4611686018427387904 ∧ 1 ≤ e.ps ∧ e.ps ≤ 100 ∧ 0 ≤ e.pa ∧ e.pa < e.ps ∧ 1 ≤ e.by_.length ∧ e.by_.length ≤ 336 := by
  simp only [okE, mxB, Bool.and_eq_true, decide_eq_true_eq, bne_iff_ne, ne_eq, and_assoc]
def bes (k : Nat) (l : List Int) : List UInt8 := (l.map fun x => be k x.toNat).flatten
theorem bes_cons (k : Nat) (x : Int) (l : List Int) : bes k (x :: l) = be k x.toNat ++ bes k l := rfl
@[simp] theorem bes_nil (k : Nat) : bes k [] = [] := rfl
@[simp] theorem bes_len (k : Nat) (l : List Int) : (bes k l).length = l.length * k := by
  induction l with
  | nil => simp
  | cons x l ih => rw [bes_cons, List.length_append, be_len, ih, List.length_cons, Nat.add_mul, Nat.one_mul, Nat.add_comm]
def jlog : List UInt8 := [74, 76, 79, 71]
def jsup : List UInt8 := [74, 83, 85, 80]
def hdE (e : Le) : List UInt8 := jlog ++ (be 8 e.bo.toNat ++ (be 8 e.se.toNat ++ (be 8 e.po.toNat ++ (be 8 e.ls.toNat ++ (be 2 e.pa.toNat ++ (be 2 e.ps.toNat ++ (be 2 e.by_.length ++ zz 6)))))))
def encE (e : Le) : List UInt8 := hdE e ++ (e.by_ ++ zz (336 - e.by_.length))
@[simp] theorem hdE_len (e : Le) : (hdE e).length = 48 := by simp [hdE, jlog]
theorem encE_len {e : Le} (h : e.by_.length ≤ 336) : (encE e).length = 384 := by simp [encE]; omega
def decE (b : List UInt8) : Le := ⟨vl (win8 b 4 8), vl (win8 b 12 8), vl (win8 b 20 8), vl (win8 b 28 8), vl (win8 b 36 2), vl (win8 b 38 2), win8 b 48 (min (vl (win8 b 40 2)) 336)⟩

theorem nat_toInt {x : Int} {m : Nat} (h0 : 0 ≤ x) (h1 : x.toNat < 256 ^ m) : ((vl (be m x.toNat) : Nat) : Int) = x := by
  rw [vl_be_lt h1]; omega

theorem win_bo (e : Le) : win8 (encE e) 4 8 = be 8 e.bo.toNat := by
  simp only [encE, hdE, List.append_assoc]
  exact win8_mid (p := jlog) rfl (be_len _ _)
theorem win_se (e : Le) : win8 (encE e) 12 8 = be 8 e.se.toNat := by
  have := win8_mid (p := jlog ++ be 8 e.bo.toNat) (x := be 8 e.se.toNat) (r := be 8 e.po.toNat ++ (be 8 e.ls.toNat ++ (be 2 e.pa.toNat ++ (be 2 e.ps.toNat ++ (be 2 e.by_.length ++ zz 6 ++ (e.by_ ++ zz (336 - e.by_.length))))))) (i := 12) (by simp [jlog]) (be_len _ _)
  simpa only [encE, hdE, List.append_assoc] using this
theorem win_po (e : Le) : win8 (encE e) 20 8 = be 8 e.po.toNat := by
  have := win8_mid (p := jlog ++ be 8 e.bo.toNat ++ be 8 e.se.toNat) (x := be 8 e.po.toNat) (r := (be 8 e.ls.toNat ++ (be 2 e.pa.toNat ++ (be 2 e.ps.toNat ++ (be 2 e.by_.length ++ zz 6 ++ (e.by_ ++ zz (336 - e.by_.length))))))) (i := 20) (by simp [jlog]) (be_len _ _)
  simpa only [encE, hdE, List.append_assoc] using this
theorem win_ls (e : Le) : win8 (encE e) 28 8 = be 8 e.ls.toNat := by
  have := win8_mid (p := jlog ++ be 8 e.bo.toNat ++ be 8 e.se.toNat ++ be 8 e.po.toNat) (x := be 8 e.ls.toNat) (r := (be 2 e.pa.toNat ++ (be 2 e.ps.toNat ++ (be 2 e.by_.length ++ zz 6 ++ (e.by_ ++ zz (336 - e.by_.length)))))) (i := 28) (by simp [jlog]) (be_len _ _)
  simpa only [encE, hdE, List.append_assoc] using this
theorem win_pa (e : Le) : win8 (encE e) 36 2 = be 2 e.pa.toNat := by
  have := win8_mid (p := jlog ++ be 8 e.bo.toNat ++ be 8 e.se.toNat ++ be 8 e.po.toNat ++ be 8 e.ls.toNat) (x := be 2 e.pa.toNat) (r := (be 2 e.ps.toNat ++ (be 2 e.by_.length ++ zz 6 ++ (e.by_ ++ zz (336 - e.by_.length))))) (i := 36) (by simp [jlog]) (be_len _ _)
  simpa only [encE, hdE, List.append_assoc] using this
theorem win_ps (e : Le) : win8 (encE e) 38 2 = be 2 e.ps.toNat := by
  have := win8_mid (p := jlog ++ be 8 e.bo.toNat ++ be 8 e.se.toNat ++ be 8 e.po.toNat ++ be 8 e.ls.toNat ++ be 2 e.pa.toNat) (x := be 2 e.ps.toNat) (r := (be 2 e.by_.length ++ zz 6 ++ (e.by_ ++ zz (336 - e.by_.length)))) (i := 38) (by simp [jlog]) (be_len _ _)
  simpa only [encE, hdE, List.append_assoc] using this
theorem win_n (e : Le) : win8 (encE e) 40 2 = be 2 e.by_.length := by
  have := win8_mid (p := jlog ++ be 8 e.bo.toNat ++ be 8 e.se.toNat ++ be 8 e.po.toNat ++ be 8 e.ls.toNat ++ be 2 e.pa.toNat ++ be 2 e.ps.toNat) (x := be 2 e.by_.length) (r := (zz 6 ++ (e.by_ ++ zz (336 - e.by_.length)))) (i := 40) (by simp [jlog]) (be_len _ _)
  simpa only [encE, hdE, List.append_assoc] using this

theorem dec_enc {e : Le} (h : okE e = true) (hB : LeB e) : decE (encE e) = e := by
  obtain ⟨h1, h2, h3, h4, h5, h6, h7, h8, h9, h10, h11, h12, h13⟩ := (okE_iff e).1 h
  have b1 := hB.bo.1
  have b2 := hB.se.1
  have b3 := hB.po.1
  have b4 := hB.ls.1
  have p8 : (256 : Nat) ^ 8 = 18446744073709551616 := by decide
  have p2 : (256 : Nat) ^ 2 = 65536 := by decide
  unfold decE
  rw [win_bo, win_se, win_po, win_ls, win_pa, win_ps, win_n, vl_be_lt (m := 2) (x := e.by_.length) (by omega), Nat.min_eq_left h13, encE, win8_mid (hdE_len e) rfl]
  rw [nat_toInt b1 (by omega), nat_toInt b2 (by omega), nat_toInt b3 (by omega), nat_toInt b4 (by omega), nat_toInt h10 (by omega), nat_toInt (by omega : 0 ≤ e.ps) (by omega)]

theorem decB (b : List UInt8) : LeB (decE b) := by
  have h8 : ∀ i, vl (win8 b i 8) < 18446744073709551616 := fun i => by
    refine Nat.lt_of_lt_of_le (vl_lt _) (Nat.le_trans (Nat.pow_le_pow_right (by decide) (?_ : _ ≤ 8)) (by decide))
    simp [win8]; omega
  have h2 : ∀ i, vl (win8 b i 2) < 65536 := fun i => by
    refine Nat.lt_of_lt_of_le (vl_lt _) (Nat.le_trans (Nat.pow_le_pow_right (by decide) (?_ : _ ≤ 2)) (by decide))
    simp [win8]; omega
  have a1 := h8 4
  have a2 := h8 12
  have a3 := h8 20
  have a4 := h8 28
  have a5 := h2 36
  have a6 := h2 38
  exact ⟨⟨by simp [decE] <;> omega, by simp [decE]; omega⟩, ⟨by simp [decE] <;> omega, by simp [decE]; omega⟩, ⟨by simp [decE] <;> omega, by simp [decE]; omega⟩, ⟨by simp [decE] <;> omega, by simp [decE]; omega⟩, ⟨by simp [decE] <;> omega, by simp [decE]; omega⟩, ⟨by simp [decE] <;> omega, by simp [decE]; omega⟩⟩

/-- What a reader tells of a block. -/
def goodE (b : List UInt8) : Bool := decide (b.length = 384) && okE (decE b) && encE (decE b) == b
def zE : Le := ⟨0, 0, 0, 0, 0, 0, []⟩
def getE (b : List UInt8) : Le := if goodE b = true then decE b else zE
def getEe (b : List UInt8) : Int := if goodE b = true then 0 else 81
def putE (e : Le) : List UInt8 := if okE e = true then encE e else []
def putEe (e : Le) : Int := if okE e = true then 0 else 81

theorem good_enc {e : Le} (h : okE e = true) (hB : LeB e) : goodE (encE e) = true ∧ decE (encE e) = e := by
  have hd := dec_enc h hB
  refine ⟨?_, hd⟩
  simp only [goodE, hd, h, Bool.and_true, Bool.and_eq_true, decide_eq_true_eq, beq_self_eq_true, and_true]
  exact encE_len ((okE_iff e).1 h).2.2.2.2.2.2.2.2.2.2.2.2
/-- The other reader looks ahead whether too many bytes are told. -/
theorem good_n {b : List UInt8} (h : goodE b = true) : vl (win8 b 40 2) ≤ 336 := by
  simp only [goodE, Bool.and_eq_true, decide_eq_true_eq, beq_iff_eq] at h
  obtain ⟨⟨h1, h2⟩, h3⟩ := h
  have hl := ((okE_iff _).1 h2).2.2.2.2.2.2.2.2.2.2.2.2
  rw [← h3, win_n, vl_be_lt (by have : (256 : Nat) ^ 2 = 65536 := by decide
                                omega)]
  exact hl

/-- A superblock: its six numbers. -/
structure Su where
  g : Int
  bo : Int
  po : Int
  ls : Int
  ab : Int
  as_ : Int
def Su.l (s : Su) : List Int := [s.g, s.bo, s.po, s.ls, s.ab, s.as_]
def okS (s : Su) : Bool := s.g != 0 && s.bo != 0 && s.l.all mxB
def encS (s : Su) : List UInt8 := jsup ++ (bes 8 s.l ++ zz 332)
def decS (b : List UInt8) : Su := ⟨vl (win8 b 4 8), vl (win8 b 12 8), vl (win8 b 20 8), vl (win8 b 28 8), vl (win8 b 36 8), vl (win8 b 44 8)⟩
@[simp] theorem encS_len (s : Su) : (encS s).length = 384 := by simp [encS, jsup, Su.l]
theorem dec_encS {s : Su} (h : okS s = true) (hB : ∀ x ∈ s.l, u64B x) : decS (encS s) = s := by
  have hm : ∀ x ∈ s.l, ((vl (be 8 x.toNat) : Nat) : Int) = x := fun x hx => by
    have := (hB x hx)
    refine nat_toInt this.1 ?_
    have p8 : (256 : Nat) ^ 8 = 18446744073709551616 := by decide
    have := this.2
    omega
  have w1 := win8_mid (p := jsup) (x := be 8 s.g.toNat) (r := be 8 s.bo.toNat ++ (be 8 s.po.toNat ++ (be 8 s.ls.toNat ++ (be 8 s.ab.toNat ++ (be 8 s.as_.toNat ++ zz 332))))) (i := 4) (by simp [jsup]) (be_len _ _)
  have w2 := win8_mid (p := jsup ++ be 8 s.g.toNat) (x := be 8 s.bo.toNat) (r := (be 8 s.po.toNat ++ (be 8 s.ls.toNat ++ (be 8 s.ab.toNat ++ (be 8 s.as_.toNat ++ zz 332))))) (i := 12) (by simp [jsup]) (be_len _ _)
  have w3 := win8_mid (p := jsup ++ be 8 s.g.toNat ++ be 8 s.bo.toNat) (x := be 8 s.po.toNat) (r := ((be 8 s.ls.toNat ++ (be 8 s.ab.toNat ++ (be 8 s.as_.toNat ++ zz 332))))) (i := 20) (by simp [jsup]) (be_len _ _)
  have w4 := win8_mid (p := jsup ++ be 8 s.g.toNat ++ be 8 s.bo.toNat ++ be 8 s.po.toNat) (x := be 8 s.ls.toNat) (r := (((be 8 s.ab.toNat ++ (be 8 s.as_.toNat ++ zz 332))))) (i := 28) (by simp [jsup]) (be_len _ _)
  have w5 := win8_mid (p := jsup ++ be 8 s.g.toNat ++ be 8 s.bo.toNat ++ be 8 s.po.toNat ++ be 8 s.ls.toNat) (x := be 8 s.ab.toNat) (r := ((((be 8 s.as_.toNat ++ zz 332))))) (i := 36) (by simp [jsup]) (be_len _ _)
  have w6 := win8_mid (p := jsup ++ be 8 s.g.toNat ++ be 8 s.bo.toNat ++ be 8 s.po.toNat ++ be 8 s.ls.toNat ++ be 8 s.ab.toNat) (x := be 8 s.as_.toNat) (r := zz 332) (i := 44) (by simp [jsup]) (be_len _ _)
  have he : encS s = jsup ++ (be 8 s.g.toNat ++ (be 8 s.bo.toNat ++ (be 8 s.po.toNat ++ (be 8 s.ls.toNat ++ (be 8 s.ab.toNat ++ (be 8 s.as_.toNat ++ zz 332)))))) := by
    simp only [encS, Su.l, bes_cons, bes_nil, List.append_assoc, List.append_nil, List.nil_append]
  simp only [List.append_assoc] at w1 w2 w3 w4 w5 w6
  rw [← he] at w1 w2 w3 w4 w5 w6
  simp only [decS, w1, w2, w3, w4, w5, w6]
  rw [hm s.g (by simp [Su.l]), hm s.bo (by simp [Su.l]), hm s.po (by simp [Su.l]), hm s.ls (by simp [Su.l]), hm s.ab (by simp [Su.l]), hm s.as_ (by simp [Su.l])]
def goodS (b : List UInt8) : Bool := decide (b.length = 384) && okS (decS b) && encS (decS b) == b
def zS : Su := ⟨0, 0, 0, 0, 0, 0⟩
def getS (b : List UInt8) : Su := if goodS b = true then decS b else zS
def getSe (b : List UInt8) : Int := if goodS b = true then 0 else 81
def putS (s : Su) : List UInt8 := if okS s = true then encS s else []
def putSe (s : Su) : Int := if okS s = true then 0 else 81
theorem good_encS {s : Su} (h : okS s = true) (hB : ∀ x ∈ s.l, u64B x) : goodS (encS s) = true ∧ decS (encS s) = s := by
  have hd := dec_encS h hB
  exact ⟨by simp [goodS, hd, h], hd⟩

/-- A put: a block's number and bytes. -/
structure Pt where
  b : Int
  d : List UInt8
def okP (p : Pt) : Bool := decide (0 ≤ p.b) && decide (p.b < 2147483648) && decide (p.d.length = 384)
def okT (l : List Pt) : Bool := decide (1 ≤ l.length) && decide (l.length ≤ 64) && l.all okP
def encPs (l : List Pt) : List UInt8 := (l.map fun p => be 4 p.b.toNat ++ p.d).flatten
def encT (l : List Pt) : List UInt8 := be 4 l.length ++ encPs l
def putT (l : List Pt) : List UInt8 := if okT l = true then encT l else []
def putTe (l : List Pt) : Int := if okT l = true then 0 else 82
def cks : Nat → List UInt8 → List Pt
  | 0, _ => []
  | k + 1, q => ⟨vl (q.take 4), win8 q 4 384⟩ :: cks k (q.drop 388)
@[simp] theorem cks_len (k : Nat) (q : List UInt8) : (cks k q).length = k := by
  induction k generalizing q with
  | zero => rfl
  | succ k ih => simp [cks, ih]
theorem encPs_cons (p : Pt) (l : List Pt) : encPs (p :: l) = be 4 p.b.toNat ++ p.d ++ encPs l := rfl
theorem encPs_append (l m : List Pt) : encPs (l ++ m) = encPs l ++ encPs m := by simp [encPs]
theorem encPs_len : ∀ {l : List Pt}, (∀ p ∈ l, okP p = true) → (encPs l).length = 388 * l.length
  | [], _ => rfl
  | p :: l, h => by
    have hp := h p (by simp)
    simp only [okP, Bool.and_eq_true, decide_eq_true_eq] at hp
    rw [encPs_cons, List.length_append, List.length_append, be_len, hp.2, encPs_len fun q hq => h q (by simp [hq]), List.length_cons]; omega
theorem cks_enc : ∀ {l : List Pt}, (∀ p ∈ l, okP p = true) → cks l.length (encPs l) = l
  | [], _ => rfl
  | p :: l, h => by
    have hp := h p (by simp)
    simp only [okP, Bool.and_eq_true, decide_eq_true_eq] at hp
    obtain ⟨⟨h1, h2⟩, h3⟩ := hp
    have e1 : (encPs (p :: l)).take 4 = be 4 p.b.toNat := by
      rw [encPs_cons, List.append_assoc, List.take_left' (be_len _ _)]
    have e2 : win8 (encPs (p :: l)) 4 384 = p.d := by
      rw [encPs_cons, List.append_assoc]; exact win8_mid (be_len _ _) h3
    have e3 : (encPs (p :: l)).drop 388 = encPs l := by
      rw [encPs_cons, List.drop_left' (by simp [h3])]
    have p4 : (256 : Nat) ^ 4 = 4294967296 := by decide
    rw [List.length_cons, cks, e1, e2, e3, cks_enc fun q hq => h q (by simp [hq]), nat_toInt h1 (by omega)]
theorem enc_cks : ∀ (k : Nat) (q : List UInt8), q.length = 388 * k → encPs (cks k q) = q
  | 0, q, h => by
    have : q = [] := List.length_eq_zero_iff.1 (by omega)
    subst this; rfl
  | k + 1, q, h => by
    have h4 : (q.take 4).length = 4 := by simp; omega
    have e := be_vl (q.take 4)
    rw [h4] at e
    rw [cks, encPs_cons, enc_cks k (q.drop 388) (by simp; omega)]
    show be 4 (((vl (q.take 4) : Nat) : Int)).toNat ++ win8 q 4 384 ++ _ = _
    rw [Int.toNat_natCast, e, win8]
    rw [show q.drop 388 = (q.drop 4).drop 384 by rw [List.drop_drop]]
    rw [List.append_assoc, List.take_append_drop, List.take_append_drop]
/-- What a reader tells of a transaction's bytes. -/
def cntT (p : List UInt8) : Nat := vl (p.take 4)
def szT (p : List UInt8) : Bool := decide (4 ≤ p.length) && decide (cntT p ≤ 64) && decide (p.length - 4 = 388 * cntT p)
def listT (p : List UInt8) : List Pt := cks (cntT p) (p.drop 4)
def goodT (p : List UInt8) : Bool := szT p && okT (listT p)
def getT (p : List UInt8) : List Pt := if goodT p = true then listT p else []
def getTe (p : List UInt8) : Int := if goodT p = true then 0 else 82
theorem getT_putT {l : List Pt} (h : okT l = true) : goodT (encT l) = true ∧ listT (encT l) = l := by
  simp only [okT, Bool.and_eq_true, decide_eq_true_eq, List.all_eq_true] at h
  obtain ⟨⟨h1, h2⟩, h3⟩ := h
  have p4 : (256 : Nat) ^ 4 = 4294967296 := by decide
  have hc : cntT (encT l) = l.length := by
    rw [cntT, encT, List.take_left' (be_len _ _), vl_be_lt (by omega)]
  have hd : (encT l).drop 4 = encPs l := by rw [encT, List.drop_left' (be_len _ _)]
  have hl : listT (encT l) = l := by rw [listT, hc, hd, cks_enc h3]
  refine ⟨?_, hl⟩
  have hlen : (encT l).length = 4 + 388 * l.length := by rw [encT, List.length_append, be_len, encPs_len h3]
  simp only [goodT, szT, hl, hc, hlen, Bool.and_eq_true, decide_eq_true_eq]
  refine ⟨⟨⟨by omega, by omega⟩, by omega⟩, ?_⟩
  simp only [okT, Bool.and_eq_true, decide_eq_true_eq, List.all_eq_true]
  exact ⟨⟨h1, h2⟩, h3⟩
theorem putT_getT {p : List UInt8} (h : goodT p = true) : okT (listT p) = true ∧ encT (listT p) = p := by
  simp only [goodT, szT, Bool.and_eq_true, decide_eq_true_eq] at h
  obtain ⟨⟨⟨h1, h2⟩, h3⟩, h4⟩ := h
  refine ⟨h4, ?_⟩
  have e := be_vl (p.take 4)
  rw [show (p.take 4).length = 4 by simp; omega] at e
  rw [encT, listT, cks_len, enc_cks _ _ (by simp; omega), cntT, e, List.take_append_drop]
theorem getT_len {p : List UInt8} (h : goodT p = true) : (listT p).length ≤ 64 := by
  simp only [goodT, szT, Bool.and_eq_true, decide_eq_true_eq] at h
  rw [listT, cks_len]; exact h.1.1.2
/-- How many entries a transaction takes. -/
def needI (n : Int) : Int := if n < 1 ∨ 64 < n then 0 else (4 + n * 388 + 335) / 336

end Go.Jn
