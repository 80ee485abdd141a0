/- Numbers in bytes, the highest byte first: laid, read, there and back. -/
import Derived.Test.YtcepfilbiahdjaaGrSep3
import Derived.Test.YtcepfilbiahdjaaRF
set_option linter.unusedVariables false
set_option linter.unusedSimpArgs false
set_option maxRecDepth 4000
namespace Go.Jn
open Go.Gr
def be : Nat → Nat → List UInt8
 | 0, _ => []
 | m + 1, x => UInt8.ofNat (x / 256 ^ m) :: be m x
def vlF (n : Nat) (s : List UInt8) : Nat := s.foldl (fun n c => n * 256 + c.toNat) n
def vl (s : List UInt8) : Nat := vlF 0 s
@[simp] theorem be_len (m x : Nat) : (be m x).length = m := by
 induction m with
 | zero => rfl
 | succ m ih => simp [be, ih]
theorem vlF_cons (n : Nat) (c : UInt8) (s : List UInt8) : vlF n (c :: s) = vlF (n * 256 + c.toNat) s := rfl
theorem vlF_at (n : Nat) (s : List UInt8) : vlF n s = n * 256 ^ s.length + vl s := by
 induction s generalizing n with
 | nil => simp [vlF, vl]
 | cons c s ih =>
   rw [vl, vlF_cons, vlF_cons, ih, ih (0 * 256 + c.toNat), List.length_cons, Nat.pow_succ, Nat.zero_mul, Nat.zero_add, Nat.add_mul, Nat.add_assoc, Nat.mul_assoc, Nat.mul_comm 256]
theorem vl_cons (c : UInt8) (s : List UInt8) : vl (c :: s) = c.toNat * 256 ^ s.length + vl s := by
 rw [vl, vlF_cons, vlF_at]; simp
theorem vl_lt (s : List UInt8) : vl s < 256 ^ s.length := by
 induction s with
 | nil => simp [vl, vlF]
 | cons c s ih =>
   have h : c.toNat < 256 := by simpa using c.toNat_lt
   rw [vl_cons, List.length_cons, Nat.pow_succ]
   have h2 := Nat.mul_le_mul_right (256 ^ s.length) (show c.toNat + 1 ≤ 256 by omega)
   rw [Nat.add_mul, Nat.one_mul, Nat.mul_comm 256] at h2
   omega
theorem vl_snoc (s : List UInt8) (c : UInt8) : vl (s ++ [c]) = vl s * 256 + c.toNat := by
 rw [vl, vlF, List.foldl_append]; rfl
theorem toNat_of (n : Nat) : (UInt8.ofNat n).toNat = n % 256 := by simp
theorem vl_be (m x : Nat) : vl (be m x) = x % 256 ^ m := by
 induction m with
 | zero => simp [be, vl, vlF, Nat.mod_one]
 | succ m ih =>
   rw [be, vl_cons, ih, be_len, toNat_of, Nat.pow_succ, Nat.mod_mul, Nat.mul_comm, Nat.add_comm]
theorem vl_be_lt {m x : Nat} (h : x < 256 ^ m) : vl (be m x) = x := by rw [vl_be, Nat.mod_eq_of_lt h]
theorem be_top {k i x : Nat} (h : i < k) : UInt8.ofNat (x / 256 ^ (k - (i + 1))) :: be (k - (i + 1)) x = be (k - i) x := by
 rw [show k - i = (k - (i + 1)) + 1 by omega, be]
def win8 (s : List UInt8) (i n : Nat) : List UInt8 := (s.drop i).take n
theorem win8_len {s : List UInt8} {i n : Nat} (h : i + n ≤ s.length) : (win8 s i n).length = n := by simp [win8]; omega
end Go.Jn
namespace Go.Jn
open Go.Gr
theorem win8_mid {p x r : List UInt8} {i n : Nat} (hp : p.length = i) (hx : x.length = n) : win8 (p ++ (x ++ r)) i n = x := by
 subst hp; subst hx
 rw [win8, List.drop_left, List.take_left]
structure Le where
 bo : Int
 se : Int
 po : Int
 ls : Int
 pa : Int
 ps : Int
 by_ : List UInt8
def u64B (x : Int) : Prop := 0 ≤ x ∧ x < 18446744073709551616
def i64B (x : Int) : Prop := -9223372036854775808 ≤ x ∧ x < 9223372036854775808
structure LeB (e : Le) : Prop where
 bo : u64B e.bo
 se : u64B e.se
 po : u64B e.po
 ls : u64B e.ls
 pa : i64B e.pa
 ps : i64B e.ps
def zz (n : Nat) : List UInt8 := List.replicate n 0
@[simp] theorem zz_len (n : Nat) : (zz n).length = n := by simp [zz]
def mxB (x : Int) : Bool := decide (x ≤ 4611686018427387904)
def okE (e : Le) : Bool := e.bo != 0 && e.se != 0 && e.ls != 0 && mxB e.bo && mxB e.se && mxB e.ls && mxB e.po && decide (1 ≤ e.ps) && decide (e.ps ≤ 100) && decide (0 ≤ e.pa) && decide (e.pa < e.ps) && decide (1 ≤ e.by_.length) && decide (e.by_.length ≤ 336)
theorem okE_iff (e : Le) : okE e = true ↔ e.bo ≠ 0 ∧ e.se ≠ 0 ∧ e.ls ≠ 0 ∧ e.bo ≤ 4611686018427387904 ∧ e.se ≤ 4611686018427387904 ∧ e.ls ≤ 4611686018427387904 ∧ e.po ≤ 4611686018427387904 ∧ 1 ≤ e.ps ∧ e.ps ≤ 100 ∧ 0 ≤ e.pa ∧ e.pa < e.ps ∧ 1 ≤ e.by_.length ∧ e.by_.length ≤ 336 := by
 simp only [okE, mxB, Bool.and_eq_true, decide_eq_true_eq, bne_iff_ne, ne_eq, and_assoc]
def bes (k : Nat) (l : List Int) : List UInt8 := (l.map fun x => be k x.toNat).flatten
theorem bes_cons (k : Nat) (x : Int) (l : List Int) : bes k (x :: l) = be k x.toNat ++ bes k l := rfl
@[simp] theorem bes_nil (k : Nat) : bes k [] = [] := rfl
@[simp] theorem bes_len (k : Nat) (l : List Int) : (bes k l).length = l.length * k := by
 induction l with
 | nil => simp
 | cons x l ih => rw [bes_cons, List.length_append, be_len, ih, List.length_cons, Nat.add_mul, Nat.one_mul, Nat.add_comm]
def jlog : List UInt8 := [74, 76, 79, 71]
def jsup : List UInt8 := [74, 83, 85, 80]
def hdE (e : Le) : List UInt8 := jlog ++ (be 8 e.bo.toNat ++ (be 8 e.se.toNat ++ (be 8 e.po.toNat ++ (be 8 e.ls.toNat ++ (be 2 e.pa.toNat ++ (be 2 e.ps.toNat ++ (be 2 e.by_.length ++ zz 6)))))))
def encE (e : Le) : List UInt8 := hdE e ++ (e.by_ ++ zz (336 - e.by_.length))
@[simp] theorem hdE_len (e : Le) : (hdE e).length = 48 := by simp [hdE, jlog]
theorem encE_len {e : Le} (h : e.by_.length ≤ 336) : (encE e).length = 384 := by simp [encE]; omega
def decE (b : List UInt8) : Le := ⟨vl (win8 b 4 8), vl (win8 b 12 8), vl (win8 b 20 8), vl (win8 b 28 8), vl (win8 b 36 2), vl (win8 b 38 2), win8 b 48 (min (vl (win8 b 40 2)) 336)⟩
theorem nat_toInt {x : Int} {m : Nat} (h0 : 0 ≤ x) (h1 : x.toNat < 256 ^ m) : ((vl (be m x.toNat) : Nat) : Int) = x := by
 rw [vl_be_lt h1]; omega
theorem win_bo (e : Le) : win8 (encE e) 4 8 = be 8 e.bo.toNat := by
 simp only [encE, hdE, List.append_assoc]
 exact win8_mid (p := jlog) rfl (be_len _ _)
theorem win_se (e : Le) : win8 (encE e) 12 8 = be 8 e.se.toNat := by
 have := win8_mid (p := jlog ++ be 8 e.bo.toNat) (x := be 8 e.se.toNat) (r := be 8 e.po.toNat ++ (be 8 e.ls.toNat ++ (be 2 e.pa.toNat ++ (be 2 e.ps.toNat ++ (be 2 e.by_.length ++ zz 6 ++ (e.by_ ++ zz (336 - e.by_.length))))))) (i := 12) (by simp [jlog]) (be_len _ _)
 simpa only [encE, hdE, List.append_assoc] using this
theorem win_po (e : Le) : win8 (encE e) 20 8 = be 8 e.po.toNat := by
 have := win8_mid (p := jlog ++ be 8 e.bo.toNat ++ be 8 e.se.toNat) (x := be 8 e.po.toNat) (r := (be 8 e.ls.toNat ++ (be 2 e.pa.toNat ++ (be 2 e.ps.toNat ++ (be 2 e.by_.length ++ zz 6 ++ (e.by_ ++ zz (336 - e.by_.length))))))) (i := 20) (by simp [jlog]) (be_len _ _)
 simpa only [encE, hdE, List.append_assoc] using this
theorem win_ls (e : Le) : win8 (encE e) 28 8 = be 8 e.ls.toNat := by
 have := win8_mid (p := jlog ++ be 8 e.bo.toNat ++ be 8 e.se.toNat ++ be 8 e.po.toNat) (x := be 8 e.ls.toNat) (r := (be 2 e.pa.toNat ++ (be 2 e.ps.toNat ++ (be 2 e.by_.length ++ zz 6 ++ (e.by_ ++ zz (336 - e.by_.length)))))) (i := 28) (by simp [jlog]) (be_len _ _)
 simpa only [encE, hdE, List.append_assoc] using this
theorem win_pa (e : Le) : win8 (encE e) 36 2 = be 2 e.pa.toNat := by
 have := win8_mid (p := jlog ++ be 8 e.bo.toNat ++ be 8 e.se.toNat ++ be 8 e.po.toNat ++ be 8 e.ls.toNat) (x := be 2 e.pa.toNat) (r := (be 2 e.ps.toNat ++ (be 2 e.by_.length ++ zz 6 ++ (e.by_ ++ zz (336 - e.by_.length))))) (i := 36) (by simp [jlog]) (be_len _ _)
 simpa only [encE, hdE, List.append_assoc] using this
theorem win_ps (e : Le) : win8 (encE e) 38 2 = be 2 e.ps.toNat := by
 have := win8_mid (p := jlog ++ be 8 e.bo.toNat ++ be 8 e.se.toNat ++ be 8 e.po.toNat ++ be 8 e.ls.toNat ++ be 2 e.pa.toNat) (x := be 2 e.ps.toNat) (r := (be 2 e.by_.length ++ zz 6 ++ (e.by_ ++ zz (336 - e.by_.length)))) (i := 38) (by simp [jlog]) (be_len _ _)
 simpa only [encE, hdE, List.append_assoc] using this
theorem win_n (e : Le) : win8 (encE e) 40 2 = be 2 e.by_.length := by
 have := win8_mid (p := jlog ++ be 8 e.bo.toNat ++ be 8 e.se.toNat ++ be 8 e.po.toNat ++ be 8 e.ls.toNat ++ be 2 e.pa.toNat ++ be 2 e.ps.toNat) (x := be 2 e.by_.length) (r := (zz 6 ++ (e.by_ ++ zz (336 - e.by_.length)))) (i := 40) (by simp [jlog]) (be_len _ _)
 simpa only [encE, hdE, List.append_assoc] using this
theorem dec_enc {e : Le} (h : okE e = true) (hB : LeB e) : decE (encE e) = e := by
 obtain ⟨h1, h2, h3, h4, h5, h6, h7, h8, h9, h10, h11, h12, h13⟩ := (okE_iff e).1 h
 have b1 := hB.bo.1
 have b2 := hB.se.1
 have b3 := hB.po.1
 have b4 := hB.ls.1
 have p8 : (256 : Nat) ^ 8 = 18446744073709551616 := by decide
 have p2 : (256 : Nat) ^ 2 = 65536 := by decide
 unfold decE
 rw [win_bo, win_se, win_po, win_ls, win_pa, win_ps, win_n, vl_be_lt (m := 2) (x := e.by_.length) (by omega), Nat.min_eq_left h13, encE, win8_mid (hdE_len e) rfl]
 rw [nat_toInt b1 (by omega), nat_toInt b2 (by omega), nat_toInt b3 (by omega), nat_toInt b4 (by omega), nat_toInt h10 (by omega), nat_toInt (by omega : 0 ≤ e.ps) (by omega)]
theorem decB (b : List UInt8) : LeB (decE b) := by
 have h8 : ∀ i, vl (win8 b i 8) < 18446744073709551616 := fun i => by
  refine Nat.lt_of_lt_of_le (vl_lt _) (Nat.le_trans (Nat.pow_le_pow_right (by decide) (?_ : _ ≤ 8)) (by decide))
  simp [win8]; omega
 have h2 : ∀ i, vl (win8 b i 2) < 65536 := fun i => by
  refine Nat.lt_of_lt_of_le (vl_lt _) (Nat.le_trans (Nat.pow_le_pow_right (by decide) (?_ : _ ≤ 2)) (by decide))
  simp [win8]; omega
 have a1 := h8 4
 have a2 := h8 12
 have a3 := h8 20
 have a4 := h8 28
 have a5 := h2 36
 have a6 := h2 38
 exact ⟨⟨by simp [decE] <;> omega, by simp [decE]; omega⟩, ⟨by simp [decE] <;> omega, by simp [decE]; omega⟩, ⟨by simp [decE] <;> omega, by simp [decE]; omega⟩, ⟨by simp [decE] <;> omega, by simp [decE]; omega⟩, ⟨by simp [decE] <;> omega, by simp [decE]; omega⟩, ⟨by simp [decE] <;> omega, by simp [decE]; omega⟩⟩
def goodE (b : List UInt8) : Bool := decide (b.length = 384) && okE (decE b) && encE (decE b) == b
def zE : Le := ⟨0, 0, 0, 0, 0, 0, []⟩
def getE (b : List UInt8) : Le := if goodE b = true then decE b else zE
def getEe (b : List UInt8) : Int := if goodE b = true then 0 else 81
def putE (e : Le) : List UInt8 := if okE e = true then encE e else []
def putEe (e : Le) : Int := if okE e = true then 0 else 81
theorem good_enc {e : Le} (h : okE e = true) (hB : LeB e) : goodE (encE e) = true ∧ decE (encE e) = e := by
 have hd := dec_enc h hB
 refine ⟨?_, hd⟩
 simp only [goodE, hd, h, Bool.and_true, Bool.and_eq_true, decide_eq_true_eq, beq_self_eq_true, and_true]
 exact encE_len ((okE_iff e).1 h).2.2.2.2.2.2.2.2.2.2.2.2
structure Su where
 g : Int
 bo : Int
 po : Int
 ls : Int
 ab : Int
 as_ : Int
def Su.l (s : Su) : List Int := [s.g, s.bo, s.po, s.ls, s.ab, s.as_]
def okS (s : Su) : Bool := s.g != 0 && s.bo != 0 && s.l.all mxB
def encS (s : Su) : List UInt8 := jsup ++ (bes 8 s.l ++ zz 332)
def decS (b : List UInt8) : Su := ⟨vl (win8 b 4 8), vl (win8 b 12 8), vl (win8 b 20 8), vl (win8 b 28 8), vl (win8 b 36 8), vl (win8 b 44 8)⟩
@[simp] theorem encS_len (s : Su) : (encS s).length = 384 := by simp [encS, jsup, Su.l]
theorem dec_encS {s : Su} (h : okS s = true) (hB : ∀ x ∈ s.l, u64B x) : decS (encS s) = s := by
 have hm : ∀ x ∈ s.l, ((vl (be 8 x.toNat) : Nat) : Int) = x := fun x hx => by
  have := (hB x hx)
  refine nat_toInt this.1 ?_
  have p8 : (256 : Nat) ^ 8 = 18446744073709551616 := by decide
  have := this.2
  omega
 have w1 := win8_mid (p := jsup) (x := be 8 s.g.toNat) (r := be 8 s.bo.toNat ++ (be 8 s.po.toNat ++ (be 8 s.ls.toNat ++ (be 8 s.ab.toNat ++ (be 8 s.as_.toNat ++ zz 332))))) (i := 4) (by simp [jsup]) (be_len _ _)
 have w2 := win8_mid (p := jsup ++ be 8 s.g.toNat) (x := be 8 s.bo.toNat) (r := (be 8 s.po.toNat ++ (be 8 s.ls.toNat ++ (be 8 s.ab.toNat ++ (be 8 s.as_.toNat ++ zz 332))))) (i := 12) (by simp [jsup]) (be_len _ _)
 have w3 := win8_mid (p := jsup ++ be 8 s.g.toNat ++ be 8 s.bo.toNat) (x := be 8 s.po.toNat) (r := ((be 8 s.ls.toNat ++ (be 8 s.ab.toNat ++ (be 8 s.as_.toNat ++ zz 332))))) (i := 20) (by simp [jsup]) (be_len _ _)
 have w4 := win8_mid (p := jsup ++ be 8 s.g.toNat ++ be 8 s.bo.toNat ++ be 8 s.po.toNat) (x := be 8 s.ls.toNat) (r := (((be 8 s.ab.toNat ++ (be 8 s.as_.toNat ++ zz 332))))) (i := 28) (by simp [jsup]) (be_len _ _)
 have w5 := win8_mid (p := jsup ++ be 8 s.g.toNat ++ be 8 s.bo.toNat ++ be 8 s.po.toNat ++ be 8 s.ls.toNat) (x := be 8 s.ab.toNat) (r := ((((be 8 s.as_.toNat ++ zz 332))))) (i := 36) (by simp [jsup]) (be_len _ _)
 have w6 := win8_mid (p := jsup ++ be 8 s.g.toNat ++ be 8 s.bo.toNat ++ be 8 s.po.toNat ++ be 8 s.ls.toNat ++ be 8 s.ab.toNat) (x := be 8 s.as_.toNat) (r := zz 332) (i := 44) (by simp [jsup]) (be_len _ _)
 have he : encS s = jsup ++ (be 8 s.g.toNat ++ (be 8 s.bo.toNat ++ (be 8 s.po.toNat ++ (be 8 s.ls.toNat ++ (be 8 s.ab.toNat ++ (be 8 s.as_.toNat ++ zz 332)))))) := by
  simp only [encS, Su.l, bes_cons, bes_nil, List.append_assoc, List.append_nil, List.nil_append]
 simp only [List.append_assoc] at w1 w2 w3 w4 w5 w6
 rw [← he] at w1 w2 w3 w4 w5 w6
 simp only [decS, w1, w2, w3, w4, w5, w6]
 rw [hm s.g (by simp [Su.l]), hm s.bo (by simp [Su.l]), hm s.po (by simp [Su.l]), hm s.ls (by simp [Su.l]), hm s.ab (by simp [Su.l]), hm s.as_ (by simp [Su.l])]
def goodS (b : List UInt8) : Bool := decide (b.length = 384) && okS (decS b) && encS (decS b) == b
def zS : Su := ⟨0, 0, 0, 0, 0, 0⟩
def getS (b : List UInt8) : Su := if goodS b = true then decS b else zS
def getSe (b : List UInt8) : Int := if goodS b = true then 0 else 81
def putS (s : Su) : List UInt8 := if okS s = true then encS s else []
def putSe (s : Su) : Int := if okS s = true then 0 else 81
theorem good_encS {s : Su} (h : okS s = true) (hB : ∀ x ∈ s.l, u64B x) : goodS (encS s) = true ∧ decS (encS s) = s := by
 have hd := dec_encS h hB
 exact ⟨by simp [goodS, hd, h], hd⟩
structure Pt where
 b : Int
 d : List UInt8
def okP (p : Pt) : Bool := decide (0 ≤ p.b) && decide (p.b < 2147483648) && decide (p.d.length = 384)
def okT (l : List Pt) : Bool := decide (1 ≤ l.length) && decide (l.length ≤ 64) && l.all okP
def encPs (l : List Pt) : List UInt8 := (l.map fun p => be 4 p.b.toNat ++ p.d).flatten
def encT (l : List Pt) : List UInt8 := be 4 l.length ++ encPs l
def putT (l : List Pt) : List UInt8 := if okT l = true then encT l else []
def putTe (l : List Pt) : Int := if okT l = true then 0 else 82
def cks : Nat → List UInt8 → List Pt
 | 0, _ => []
 | k + 1, q => ⟨vl (q.take 4), win8 q 4 384⟩ :: cks k (q.drop 388)
@[simp] theorem cks_len (k : Nat) (q : List UInt8) : (cks k q).length = k := by
 induction k generalizing q with
 | zero => rfl
 | succ k ih => simp [cks, ih]
theorem encPs_cons (p : Pt) (l : List Pt) : encPs (p :: l) = be 4 p.b.toNat ++ p.d ++ encPs l := rfl
theorem encPs_append (l m : List Pt) : encPs (l ++ m) = encPs l ++ encPs m := by simp [encPs]
theorem encPs_len : ∀ {l : List Pt}, (∀ p ∈ l, okP p = true) → (encPs l).length = 388 * l.length
 | [], _ => rfl
 | p :: l, h => by
   have hp := h p (by simp)
   simp only [okP, Bool.and_eq_true, decide_eq_true_eq] at hp
   rw [encPs_cons, List.length_append, List.length_append, be_len, hp.2, encPs_len fun q hq => h q (by simp [hq]), List.length_cons]; omega
theorem cks_enc : ∀ {l : List Pt}, (∀ p ∈ l, okP p = true) → cks l.length (encPs l) = l
 | [], _ => rfl
 | p :: l, h => by
   have hp := h p (by simp)
   simp only [okP, Bool.and_eq_true, decide_eq_true_eq] at hp
   obtain ⟨⟨h1, h2⟩, h3⟩ := hp
   have e1 : (encPs (p :: l)).take 4 = be 4 p.b.toNat := by
    rw [encPs_cons, List.append_assoc, List.take_left' (be_len _ _)]
   have e2 : win8 (encPs (p :: l)) 4 384 = p.d := by
    rw [encPs_cons, List.append_assoc]; exact win8_mid (be_len _ _) h3
   have e3 : (encPs (p :: l)).drop 388 = encPs l := by
    rw [encPs_cons, List.drop_left' (by simp [h3])]
   have p4 : (256 : Nat) ^ 4 = 4294967296 := by decide
   rw [List.length_cons, cks, e1, e2, e3, cks_enc fun q hq => h q (by simp [hq]), nat_toInt h1 (by omega)]
def cntT (p : List UInt8) : Nat := vl (p.take 4)
def szT (p : List UInt8) : Bool := decide (4 ≤ p.length) && decide (cntT p ≤ 64) && decide (p.length - 4 = 388 * cntT p)
def listT (p : List UInt8) : List Pt := cks (cntT p) (p.drop 4)
def goodT (p : List UInt8) : Bool := szT p && okT (listT p)
def getT (p : List UInt8) : List Pt := if goodT p = true then listT p else []
def getTe (p : List UInt8) : Int := if goodT p = true then 0 else 82
theorem getT_putT {l : List Pt} (h : okT l = true) : goodT (encT l) = true ∧ listT (encT l) = l := by
 simp only [okT, Bool.and_eq_true, decide_eq_true_eq, List.all_eq_true] at h
 obtain ⟨⟨h1, h2⟩, h3⟩ := h
 have p4 : (256 : Nat) ^ 4 = 4294967296 := by decide
 have hc : cntT (encT l) = l.length := by
  rw [cntT, encT, List.take_left' (be_len _ _), vl_be_lt (by omega)]
 have hd : (encT l).drop 4 = encPs l := by rw [encT, List.drop_left' (be_len _ _)]
 have hl : listT (encT l) = l := by rw [listT, hc, hd, cks_enc h3]
 refine ⟨?_, hl⟩
 have hlen : (encT l).length = 4 + 388 * l.length := by rw [encT, List.length_append, be_len, encPs_len h3]
 simp only [goodT, szT, hl, hc, hlen, Bool.and_eq_true, decide_eq_true_eq]
 refine ⟨⟨⟨by omega, by omega⟩, by omega⟩, ?_⟩
 simp only [okT, Bool.and_eq_true, decide_eq_true_eq, List.all_eq_true]
 exact ⟨⟨h1, h2⟩, h3⟩
def needI (n : Int) : Int := if n < 1 ∨ 64 < n then 0 else (4 + n * 388 + 335) / 336
end Go.Jn
namespace Go.Jn
open Go.Gr
def orcL : Orc := fun f args => match args with
 | [] => cond (Nat.beq f 7) (some (.bool true)) none
 | _ => none
theorem oL {f : FuncId} (h : Nat.beq f 7 = false) : ∀ args, orcL f args = none := by
 intro args
 cases args with
 | nil => simp [orcL, h]
 | cons x xs => rfl
noncomputable abbrev ev (n : Nat) : CallA := evF E orcL n
theorem wn {x : Int} {n : Nat} (h : x = n) (hn : n < 4611686018427387904) : IntKind.wrap .i64 x = n := by
 rw [h, wrap64 (by omega) (by omega)]
theorem wz {x z : Int} (h : x = z) (h1 : -4611686018427387904 < z) (h2 : z < 4611686018427387904) : IntKind.wrap .i64 x = z := by
 rw [h, wrap64 (by omega) (by omega)]
theorem wu64 {n : Int} (h0 : 0 ≤ n) (h1 : n < 18446744073709551616) : IntKind.wrap .u64 n = n := by
 simp [IntKind.wrap, IntKind.bits, IntKind.signed]; omega
abbrev TrueQ : AV → AS → Prop := fun v S' => v = .bool true
theorem shr8 (x : Nat) : shrI .u64 (x : Int) 8 = ((x / 256 : Nat) : Int) := by
 simp [shrI, IntKind.bits, Int.fdiv_eq_ediv_of_nonneg]
theorem wu8 (x : Nat) : IntKind.wrap .u8 (x : Int) = ((UInt8.ofNat x).toNat : Int) := by
 simp [IntKind.wrap, IntKind.bits, IntKind.signed]
theorem or8 {w : Nat} (c : UInt8) (h : w < 72057594037927936) : orI .u64 (shlI .u64 (w : Int) 8) (IntKind.wrap .u64 (c.toNat : Int)) = ((w * 256 + c.toNat : Nat) : Int) := by
 have hc : c.toNat < 256 := by simpa using c.toNat_lt
 have e1 : shlI .u64 (w : Int) 8 = ((w * 256 : Nat) : Int) := by
  have : shlI .u64 (w : Int) 8 = IntKind.wrap .u64 ((w : Int) * 256) := by simp [shlI, IntKind.bits]
  rw [this, wu64 (by omega) (by omega)]; omega
 rw [e1, wu64 (by omega) (by omega)]
 have e3 : orI .u64 ((w * 256 : Nat) : Int) (c.toNat : Int) = IntKind.wrap .u64 (((w * 256) % 18446744073709551616 ||| c.toNat % 18446744073709551616 : Nat) : Int) := by
  have : (BitVec.ofInt 64 ((w * 256 : Nat) : Int) ||| BitVec.ofInt 64 (c.toNat : Int)).toNat = ((w * 256) % 18446744073709551616 ||| c.toNat % 18446744073709551616) := by
   rw [BitVec.toNat_or, BitVec.ofInt_natCast, BitVec.ofInt_natCast, BitVec.toNat_ofNat, BitVec.toNat_ofNat]
  rw [← this]; rfl
 rw [e3, Nat.mod_eq_of_lt (by omega), Nat.mod_eq_of_lt (by omega)]
 have e2 : w * 256 ||| c.toNat = w * 256 + c.toNat := by
  have := Nat.shiftLeft_add_eq_or_of_lt (i := 8) (b := c.toNat) (by omega) w
  rw [Nat.shiftLeft_eq] at this
  exact this.symm
 rw [e2, wu64 (by omega) (by omega)]
structure Vw (X : Cx) (L : List Ent) (a : OP) (l : Nat) (c : Cap) (s : List UInt8) : Prop where
 r : RdR X L a (ofBytes s)
 ln : l = s.length
 cp : ∃ N, (c = .ex N ∨ c = .op 1 N) ∧ l ≤ N
theorem Vw.mono {X : Cx} {L M : List Ent} {a : OP} {l : Nat} {c : Cap} {s : List UInt8} (h : Vw X L a l c s) (k : ∀ e ∈ L, e ∈ M) : Vw X M a l c s := ⟨h.r.mono k, h.ln, h.cp⟩
theorem slG_vw {X : Cx} {M L : List Ent} {a : OP} {l : Nat} {c : Cap} {s : List UInt8} (h : SlG a l c 1 (bxs s) L) (hm : ∀ e ∈ L, e ∈ M) : Vw X M a l c s := by
 have hr := h.rd (X := X) hm
 rw [bxs_flat] at hr
 have hl := h.len
 rw [bxs_len] at hl
 refine ⟨hr, hl, ?_⟩
 rcases h.dest with ⟨_, h0, hc, _, _⟩ | ⟨b, js, _, _, hc, _⟩
 ·exact ⟨0, .inl hc, by omega⟩
 ·rw [bxs_len] at hc
  exact ⟨_, hc, by omega⟩
theorem rd_sub {X : Cx} {L : List Ent} {p : Pos} {cs : List AV} (h : RdR X L (some p) cs) {lo k : Nat} (hk : lo + k ≤ cs.length) : RdR X L (some (p.1, p.2 + lo)) ((cs.drop lo).take k) := by
 cases h with
 | rw hm hl hc =>
   rename_i b i c
   refine .rw hm (by simp; omega) ?_
   rw [← hc, List.length_take, List.length_drop, List.length_take, List.length_drop, List.drop_take, List.take_take, List.drop_drop]
   congr 1
   omega
 | ro hm hl hc =>
   rename_i b i c
   refine .ro hm (by simp; omega) ?_
   rw [← hc, List.length_take, List.length_drop, List.length_take, List.length_drop, List.drop_take, List.take_take, List.drop_drop]
   congr 1
   omega
theorem rd_nil {X : Cx} {L : List Ent} {a : OP} {cs : List AV} (h : RdR X L a cs) : RdR X L a [] := by
 cases h with
 | nil => exact .nil
 | rw hm hl hc => exact .rw hm (by simp; omega) rfl
 | ro hm hl hc => exact .ro hm (by simp; omega) rfl
theorem ofBytes_sub (s : List UInt8) (lo k : Nat) : ofBytes ((s.drop lo).take k) = ((ofBytes s).drop lo).take k := by
 simp [ofBytes, List.map_take, List.map_drop]
theorem vw_sl {X : Cx} {L : List Ent} {a : OP} {l : Nat} {c : Cap} {s : List UInt8} (h : Vw X L a l c s) {lo hi : Nat} (h1 : lo ≤ hi) (h2 : hi ≤ l) : ∃ a' c', Vw X L a' (hi - lo) c' (win8 s lo (hi - lo)) ∧
 (∀ {β : Type} (K : OP → Nat → Cap → Option β), slSl 1 a l c (some (lo : Int)) (some (hi : Int)) none K = K a' (hi - lo) c') ∧
 (∀ {β : Type} (K : OP → Nat → Cap → Option β), lo = 0 → slSl 1 a l c none (some (hi : Int)) none K = K a' (hi - lo) c') ∧
 (∀ {β : Type} (K : OP → Nat → Cap → Option β), hi = l → slSl 1 a l c (some (lo : Int)) none none K = K a' (hi - lo) c') := by
 unfold win8
 obtain ⟨N, hc, hN⟩ := h.cp
 have hln := h.ln
 have rdd : RdR X L (a.map fun p => (p.1, p.2 + lo * 1)) (ofBytes ((s.drop lo).take (hi - lo))) := by
  rw [ofBytes_sub, Nat.mul_one]
  cases ha : a with
  | none =>
    have hr := h.r
    rw [ha] at hr
    have : s = [] := by
     generalize hs : ofBytes s = cs at hr
     cases hr
     have := congrArg List.length hs
     simpa using this
    rw [this]
    simp [ofBytes]
    exact .nil
  | some p =>
    have hr := h.r
    rw [ha] at hr
    exact rd_sub hr (by simp; omega)
 have hlen : ((s.drop lo).take (hi - lo)).length = hi - lo := by simp; omega
 rcases hc with rfl | rfl
 ·by_cases hNl : N = lo
  ·have e0 : (s.drop lo).take (hi - lo) = [] := by rw [show hi - lo = 0 by omega]; rfl
   refine ⟨a, .ex (N - lo), ⟨by rw [e0]; exact rd_nil h.r, hlen.symm, N - lo, .inl rfl, by omega⟩, fun K => ?_, fun K hlo => ?_, fun K hhi => ?_⟩
   ·simp [slSl, optIx, ix, show hi ≤ N by omega, h1, hNl]
    intro hx; exact absurd h1 (by omega)
   ·subst hlo
    simp [slSl, optIx, ix, show hi ≤ N by omega, hNl]
    intro hx; omega
   ·subst hhi
    simp [slSl, optIx, ix, show hi ≤ N by omega, h1, hNl]
    intro hx; exact absurd h1 (by omega)
  ·refine ⟨a.map fun p => (p.1, p.2 + lo * 1), .ex (N - lo), ⟨rdd, hlen.symm, N - lo, .inl rfl, by omega⟩, fun K => ?_, fun K hlo => ?_, fun K hhi => ?_⟩
   ·simp [slSl, optIx, ix, show hi ≤ N by omega, h1, hNl]
   ·subst hlo
    simp [slSl, optIx, ix, show hi ≤ N by omega, hNl]
   ·subst hhi
    simp [slSl, optIx, ix, show hi ≤ N by omega, h1, hNl]
 ·refine ⟨a.map fun p => (p.1, p.2 + lo * 1), .op 1 (N - lo), ⟨rdd, hlen.symm, N - lo, .inr rfl, by omega⟩, fun K => ?_, fun K hlo => ?_, fun K hhi => ?_⟩
  ·simp [slSl, optIx, ix, h2, h1]
  ·subst hlo
   simp [slSl, optIx, ix, h2]
  ·subst hhi
   simp [slSl, optIx, ix, h1]
theorem byte_splice {t : List UInt8} {J : List AV} {i : Nat} (y : UInt8) (h : i < t.length) : splice (ofBytes t ++ J) i [.int .u8 (y.toNat : Int)] = ofBytes (t.set i y) ++ J := by
 have e : ofBytes (t.set i y) = (ofBytes t).set i (.int .u8 (y.toNat : Int)) := by simp [ofBytes, List.map_set]
 rw [e, splice, List.set_eq_take_append_cons_drop, if_pos (by simpa using h), List.take_append_of_le_length (by simp; omega), List.length_singleton, List.drop_append_of_le_length (by simp; omega)]
 simp
theorem ok_eq {q : RV} {v : AV} {S : AS} (h : Ok q (fun w S' => w = v ∧ S' = S)) : q = some (v, S) := by
 obtain ⟨w, S', e, rfl, rfl⟩ := h
 exact e
theorem ok_atI {k : IntKind} {l : List AV} {i : Nat} {v : Int} {K : Int → RV} {Q : AV → AS → Prop} (h : l[i]? = some (.int k v)) (ht : Ok (K v) Q) : Ok (atI k l i K) Q := by simp only [atI, h, gIk, if_true]; exact ht
theorem ok_atL {l : List AV} {i : Nat} {a : OP} {m : Nat} {c : Cap} {K : OP → Nat → Cap → RV} {Q : AV → AS → Prop} (h : l[i]? = some (.sl a m c)) (ht : Ok (K a m c) Q) : Ok (atL l i K) Q := by simp only [atL, h, gL]; exact ht
theorem bxs_app (s t : List UInt8) : bxs s ++ bxs t = bxs (s ++ t) := by simp [bxs, ofBytes]
theorem zeros_bxs (k : Nat) : zeros k [AV.int .u8 0] = (bxs (zz k)).flatten := by rw [bxs_flat]; simp [zeros, ofBytes, zz]
section
variable {X : Cx} {S : AS} {L F : List Ent} {b : Nat} {Q : AV → AS → Prop}
theorem num_eq (n : Nat) (x : Int) (S : AS) : ev (n + 1) (.fn 13) [.int .i64 x] S = some (.int .i64 x, S) := by
 rw [ev, F13 _ _ _ (oL rfl)]; rfl
theorem ok_convLL {cs : List AV} {i l : Nat} {c : Cap} {U : Option AObj → List Ent} {K : OP → Nat → Cap → AS → RV} (h : Hp X S L) [Sel b L (some (.cells cs)) U] (hl : l ≠ 0) (ht : ∀ S', Hp X S' (U (some (.cells cs))) → Ok (K (some (.rw b, i)) l c S') Q) : Ok (convLL S (some (.rw b, i)) l c K) Q := by
 simp only [convLL, if_neg hl, h.get b]
 exact ht _ (h.turn (b := b) _)
theorem ok_zeros {s : List UInt8} {a : OP} {l : Nat} {c : Cap} {k : Nat} {ki : Int} {K : OP → Nat → Cap → AS → RV} (h : Hp X S (L ++ F)) (hs : SlG a l c 1 (bxs s) L) (hki : ki = k) (hsl : s.length + k ≤ 1048576)
 (ht : ∀ a' c' L' S', SlG a' (s ++ zz k).length c' 1 (bxs (s ++ zz k)) L' → Hp X S' (L' ++ F) → Ok (K a' (s ++ zz k).length c' S') Q) : Ok (appendZA 1 1 [(.int .u8 0)] S a l c ki K) Q := by
 subst hki
 unfold appendZA
 refine ok_ix (by omega) ?_
 rw [Int.toNat_natCast]
 refine ok_appendG h hs (ys := bxs (zz k)) (bxs_all _) (by simp) (fun K => by rw [zeros_bxs]) (by decide) (by simp [pow46]; omega) (by simp [pow46]; omega) (fun a1 l1 c1 S1 L1 hs1 h1 => ?_)
 rw [bxs_app] at hs1
 obtain rfl : l1 = (s ++ zz k).length := by have := hs1.len; rw [bxs_len] at this; exact this
 exact ht _ _ _ _ hs1 h1
theorem ok_bytes {s t : List UInt8} {a a2 : OP} {l l2 : Nat} {c c2 : Cap} {K : OP → Nat → Cap → AS → RV} (h : Hp X S (L ++ F)) (hs : SlG a l c 1 (bxs s) L) (hv : Vw X F a2 l2 c2 t) (hsl : s.length + t.length ≤ 1048576)
 (ht : ∀ a' c' L' S', SlG a' (s ++ t).length c' 1 (bxs (s ++ t)) L' → Hp X S' (L' ++ F) → Ok (K a' (s ++ t).length c' S') Q) : Ok (appendA 1 1 S a l c l2 (firstA S 1 l2 (.sl a2 l2 c2)) K) Q := by
 have hl2 := hv.ln
 refine ok_appendG h hs (ys := bxs t) (bxs_all _) (by simp [hl2]) (fun K => ?_) (by decide) (by simp [pow46]; omega) (by simp [pow46]; omega) (fun a1 l1 c1 S1 L1 hs1 h1 => ?_)
 ·rw [bxs_flat]
  exact (hv.r.mono (fun e he => by simp [he])).first h (sz := 1) (n := l2) (by simp [hl2]) (by decide) K
 ·rw [bxs_app] at hs1
  obtain rfl : l1 = (s ++ t).length := by have := hs1.len; rw [bxs_len] at this; exact this
  exact ht _ _ _ _ hs1 h1
theorem lay_loop (n0 : Nat) (call : CallA) {bt k x : Nat} {s : List UInt8} {J : List AV} {c : Cap} : ∀ (m i : Nat) (d : List UInt8) (S : AS), i ≤ k → k ≤ 8 → i < m → d.length = k → d.drop i = be (k - i) x → Hp X S (C bt (ofBytes (s ++ d) ++ J) :: F) →
 Ok (J72_lZAQ call n0 m (some (.rw bt, s.length)) k c ((x / 256 ^ (k - i) : Nat) : Int) ((i : Int) - 1) S) fun v S' => v = .tup [] ∧ Hp X S' (C bt (ofBytes (s ++ be k x) ++ J) :: F)
 | 0, i, d, S, hi, hk, hm, hd, hb, h => by omega
 | m + 1, i, d, S, hi, hk, hm, hd, hb, h => by
   rw [J72_lZAQ_succ]
   simp only [b72_lZAQ]
   cases i with
   | zero =>
     rw [List.drop_zero, Nat.sub_zero] at hb
     exact ok_false (by simp) (ok_ret ⟨rfl, by rw [← hb]; exact h⟩)
   | succ i =>
     have hw : ((i + 1 : Nat) : Int) - 1 = (i : Nat) := by omega
     rw [hw, wu8]
     refine ok_true (by simp) (ok_ixSl (k := i) rfl (by omega) ?_)
     rw [Nat.mul_one]
     refine ok_stn h (by simp; omega) (d := ofBytes ((s ++ d).set (s.length + i) (UInt8.ofNat (x / 256 ^ (k - (i + 1))))) ++ J) (byte_splice _ (by simp; omega)) (fun S1 h1 => ?_)
     rw [List.set_append_right _ _ (by omega), Nat.add_sub_cancel_left] at h1
     rw [wz (z := (i : Int) - 1) rfl (by omega) (by omega), shr8, Nat.div_div_eq_div_mul, ← Nat.pow_succ, show (k - (i + 1)).succ = k - i by omega]
     refine lay_loop n0 call m i _ S1 (by omega) hk (by omega) (by simpa using hd) ?_ h1
     rw [← be_top (show i < k by omega), ← hb, List.drop_set, if_neg (by omega), Nat.sub_self, List.drop_eq_getElem_cons (show i < d.length by omega), List.set_cons_zero]
theorem put_ok (n : Nat) (hn : 100 < n) {s : List UInt8} {a : OP} {l : Nat} {c : Cap} (h : Hp X S (L ++ F)) (hs : SlG a l c 1 (bxs s) L) (hsl : s.length ≤ 65536) {x : Nat} {xi : Int} (hxi : xi = x) {k : Nat} (hk0 : 0 < k) (hk : k ≤ 8) (hx : x < 256 ^ k) {ki : Int} (hki : ki = k) :
 Ok (ev (n + 2) (.fn 56) [.sl a l c, .int .u64 xi, .int .i64 ki] S) fun v S' => ∃ (a' : OP) (c' : Cap) (L' : List Ent), v = .sl a' (s ++ be k x).length c' ∧ SlG a' (s ++ be k x).length c' 1 (bxs (s ++ be k x)) L' ∧ Hp X S' (L' ++ F) := by
 subst hki
 subst hxi
 rw [ev, F56 _ _ _ _ _ _ _ (oL rfl)]
 simp only [J56, b56_entry]
 refine ok_zeros h hs rfl (by omega) (fun a1 c1 L1 S1 hs1 h1 => ?_)
 rcases hs1.dest with ⟨_, h0, _, _, _⟩ | ⟨bt, js, rfl, hln, hcc, rfl, hx', hj⟩
 ·simp at h0; omega
 rw [bxs_len] at hcc
 have hl : (s ++ zz k).length = s.length + k := by simp
 rw [hl] at hcc ⊢
 rw [wz (z := (s.length : Int)) (by omega) (by omega) (by omega)]
 obtain ⟨o, c3, ho, e3⟩ := slG_tail (β := AV × AS) (sz := 1) (b := bt) (l := s.length + k) hcc (by omega) (j := s.length) (by omega) rfl (K := fun v3a v3l v3c => callT (evF E orcL (n + 1)) 72 [.sl v3a v3l v3c, .int .u64 (x : Int)] S1 fun v5 S4 => some (.sl (some (.rw bt, 0)) (s.length + k) c1, S4))
 rw [e3]
 have ho' : o = s.length := by
  rcases ho with ho | ⟨ho, _⟩
  ·omega
  ·omega
 subst ho'
 have hcont : (bxs (s ++ zz k) ++ js).flatten = ofBytes (s ++ zz k) ++ js.flatten := by rw [List.flatten_append, bxs_flat]
 rw [hcont] at h1
 have el : Ok (evF E orcL (n + 1) (.fn 72) [.sl (some (.rw bt, s.length)) (s.length + k - s.length) c3, .int .u64 (x : Int)] S1) fun v S' => v = .tup [] ∧ Hp X S' (C bt (ofBytes (s ++ be k x) ++ js.flatten) :: F) := by
  rw [F72 _ _ _ _ _ _ (oL rfl)]
  simp only [J72, b72_entry]
  rw [Nat.add_sub_cancel_left, wz (z := (k : Int) - 1) rfl (by omega) (by omega)]
  have := lay_loop (x := x) (X := X) (F := F) (bt := bt) (J := js.flatten) (s := s) (c := c3) n (evF E orcL n) n k (zz k) S1 (by omega) hk (by omega) (by simp) (by simp [be, zz]) h1
  rwa [Nat.sub_self, Nat.pow_zero, Nat.div_one] at this
 obtain ⟨v, S2, e, rfl, h2⟩ := el
 rw [callT_of e]
 have hb2 : (bxs (s ++ be k x)).length = s.length + k := by simp
 refine ok_ret ⟨some (.rw bt, 0), c1, [C bt (bxs (s ++ be k x) ++ js).flatten], by simp, ?_, ?_⟩
 ·have := SlG.blk (b := bt) (xs := bxs (s ++ be k x)) (js := js) (c := c1) (bxs_all _) hj (by rw [hb2]; exact hcc)
  rw [bxs_len] at this
  exact this
 ·rw [List.flatten_append, bxs_flat]; exact h2
theorem get_loop (n0 : Nat) (call : CallA) {a : OP} {c : Cap} {s : List UInt8} (hr : RdR X L a (ofBytes s)) (h : Hp X S L) (hl : s.length ≤ 8) : ∀ (m i : Nat), i ≤ s.length → s.length - i < m →
 Ok (J77_lZAS call n0 m ((vl (s.take i) : Nat) : Int) a s.length c s.length i S) fun v S' => v = .int .u64 ((vl s : Nat) : Int) ∧ S' = S
 | 0, i, hi, hm => by omega
 | m + 1, i, hi, hm => by
   rw [J77_lZAS_succ]
   simp only [b77_lZAS]
   refine ok_cond (fun hc => ?_) (fun hc => ok_ret ⟨?_, rfl⟩)
   ·simp only [decide_eq_true_eq] at hc
    have hlt : i < s.length := by omega
    obtain ⟨p, rfl⟩ := hr.some_of (by intro he; have := congrArg List.length he; simp at this; rw [this] at hlt; simp at hlt)
    obtain ⟨x, hx⟩ : ∃ x, s[i]? = some x := ⟨_, List.getElem?_eq_getElem hlt⟩
    rw [ixSl_at rfl hlt]
    simp only [Nat.mul_one]
    rw [hr.ldI h (k := .u8) (v := (x.toNat : Int)) (by simp [ofBytes, hx])]
    have hv : vl (s.take i) < 72057594037927936 := by
     refine Nat.lt_of_lt_of_le (vl_lt _) (Nat.le_trans (Nat.pow_le_pow_right (by decide) (?_ : _ ≤ 7)) (by decide))
     simp; omega
    rw [wn (x := (i : Int) + 1) (n := i + 1) (by omega) (by omega), or8 x hv, ← vl_snoc]
    have := get_loop n0 call hr h hl m (i + 1) (by omega) (by omega) (c := c)
    rwa [List.take_add_one, hx] at this
   ·simp only [decide_eq_false_iff_not] at hc
    rw [List.take_of_length_le (by omega)]
theorem get_eq (n : Nat) (hn : 100 < n) {a : OP} {l : Nat} {c : Cap} {s : List UInt8} (hv : Vw X L a l c s) (h : Hp X S L) (hl : s.length ≤ 8) : ev (n + 1) (.fn 77) [.sl a l c] S = some (.int .u64 ((vl s : Nat) : Int), S) := by
 apply ok_eq
 rw [ev, F77 _ _ _ _ _ (oL rfl)]
 simp only [J77, b77_entry, hv.ln]
 exact get_loop n (evF E orcL n) hv.r h hl n 0 (by omega) (by omega)
theorem filled_ok (n : Nat) {s : List UInt8} {a : OP} {l : Nat} {c : Cap} (h : Hp X S (L ++ F)) (hs : SlG a l c 1 (bxs s) L) (hsl : s.length ≤ 384) :
 Ok (ev (n + 1) (.fn 57) [.sl a l c] S) fun v S' => ∃ (a' : OP) (c' : Cap) (L' : List Ent), v = .sl a' (s ++ zz (384 - s.length)).length c' ∧ SlG a' (s ++ zz (384 - s.length)).length c' 1 (bxs (s ++ zz (384 - s.length))) L' ∧ Hp X S' (L' ++ F) := by
 have hl := hs.len
 rw [bxs_len] at hl
 subst hl
 rw [ev, F57 _ _ _ _ _ (oL rfl)]
 simp only [J57, b57_entry]
 exact ok_zeros h hs (k := 384 - s.length) (wz (by omega) (by omega) (by omega)) (by omega) (fun a1 c1 L1 S1 hs1 h1 => ok_ret ⟨a1, c1, L1, rfl, hs1, h1⟩)
theorem clone_ok (n : Nat) (h : Hp X S F) {s : List UInt8} {a : OP} {l : Nat} {c : Cap} (hv : Vw X F a l c s) (hl : s.length ≤ 65536) :
 Ok (ev (n + 1) (.fn 79) [.sl a l c] S) fun v S' => ∃ (a' : OP) (c' : Cap) (L' : List Ent), v = .sl a' s.length c' ∧ SlG a' s.length c' 1 (bxs s) L' ∧ Hp X S' (L' ++ F) := by
 rw [ev, F79 _ _ _ _ _ (oL rfl)]
 simp only [J79, b79_entry]
 have hln := hv.ln
 cases a with
 | none =>
   have ht : s = [] := by
    by_cases hn : ofBytes s = []
    ·have := congrArg List.length hn
     exact List.length_eq_zero_iff.1 (by simpa using this)
    ·obtain ⟨p, hp⟩ := hv.r.some_of hn; cases hp
   subst ht
   exact ok_true rfl (ok_ret ⟨none, .ex 0, [], rfl, .nil, h⟩)
 | some p =>
   refine ok_false rfl (ok_newA h (fun b1 S1 h1 => ?_))
   have hs : SlG (some (.rw b1, 0)) 0 (.ex 0) 1 (bxs []) [C b1 []] := (SlR.of (xs := []) (by simp) rfl (.inl rfl)).g
   have h1' : Hp X S1 ([C b1 []] ++ F) := h1
   exact ok_bytes h1' hs hv (by simp; omega) (fun a3 c3 L3 S3 ht' h3 => ok_ret ⟨a3, c3, L3, rfl, ht', h3⟩)
theorem eq_loop2 (n0 : Nat) (call : CallA) {a a2 : OP} {c c2 : Cap} {s t : List UInt8} (hr : RdR X L a (ofBytes s)) (hr2 : RdR X L a2 (ofBytes t)) (h : Hp X S L) (hlt : s.length = t.length) (hl : s.length ≤ 65536) : ∀ (m i : Nat) (w : Bool), i ≤ s.length → s.length - i < m →
 Ok (J78_lZAS call n0 m a s.length c a2 t.length c2 w s.length i S) fun v S' => v = .bool (s.drop i == t.drop i) ∧ S' = S
 | 0, i, w, hi, hm => by omega
 | m + 1, i, w, hi, hm => by
   rw [J78_lZAS_succ]
   simp only [b78_lZAS]
   refine ok_cond (fun hc => ?_) (fun hc => ok_ret ⟨?_, rfl⟩)
   ·simp only [decide_eq_true_eq] at hc
    have hi1 : i < s.length := by omega
    have hi2 : i < t.length := by omega
    obtain ⟨p, rfl⟩ := hr.some_of (by intro he; have := congrArg List.length he; simp at this; rw [this] at hi1; simp at hi1)
    obtain ⟨q, rfl⟩ := hr2.some_of (by intro he; have := congrArg List.length he; simp at this; rw [this] at hi2; simp at hi2)
    obtain ⟨x, hx⟩ : ∃ x, s[i]? = some x := ⟨_, List.getElem?_eq_getElem hi1⟩
    obtain ⟨y, hy⟩ : ∃ y, t[i]? = some y := ⟨_, List.getElem?_eq_getElem hi2⟩
    rw [ixSl_at rfl hi1]
    simp only [Nat.mul_one]
    rw [hr.ldI h (k := .u8) (v := (x.toNat : Int)) (by simp [ofBytes, hx]), ixSl_at rfl hi2]
    simp only [Nat.mul_one]
    rw [hr2.ldI h (k := .u8) (v := (y.toNat : Int)) (by simp [ofBytes, hy])]
    have hd1 : s.drop i = x :: s.drop (i + 1) := by
     obtain ⟨hlt', he⟩ := List.getElem?_eq_some_iff.1 hx
     rw [List.drop_eq_getElem_cons hlt', he]
    have hd2 : t.drop i = y :: t.drop (i + 1) := by
     obtain ⟨hlt', he⟩ := List.getElem?_eq_some_iff.1 hy
     rw [List.drop_eq_getElem_cons hlt', he]
    refine ok_cond (fun hx => ok_ret ⟨?_, rfl⟩) (fun hx => ?_)
    ·simp only [bne_iff_ne, ne_eq] at hx
     have hxy : x ≠ y := fun he => hx (by rw [he])
     rw [hd1, hd2, List.cons_beq_cons]
     simp [hxy]
    ·simp only [bne_eq_false_iff_eq] at hx
     have hxy : x = y := UInt8.toNat.inj (by omega)
     rw [hd1, hd2, hxy, List.cons_beq_cons, beq_self_eq_true, Bool.true_and]
     rw [wn (x := (i : Int) + 1) (n := i + 1) (by omega) (by omega)]
     exact eq_loop2 n0 call hr hr2 h hlt hl m (i + 1) w (by omega) (by omega)
   ·simp only [decide_eq_false_iff_not] at hc
    rw [List.drop_of_length_le (by omega), List.drop_of_length_le (by omega)]
    rfl
theorem equal_eq (n : Nat) (hn : 70000 < n) {a a2 : OP} {l l2 : Nat} {c c2 : Cap} {s t : List UInt8} (hv : Vw X L a l c s) (hv2 : Vw X L a2 l2 c2 t) (h : Hp X S L) (hl : s.length ≤ 65536) : ev (n + 1) (.fn 78) [.sl a l c, .sl a2 l2 c2] S = some (.bool (s == t), S) := by
 apply ok_eq
 rw [ev, F78 _ _ _ _ _ _ _ _ (oL rfl)]
 simp only [J78, b78_entry, hv.ln, hv2.ln]
 refine ok_cond (fun hc => ok_ret ⟨?_, rfl⟩) (fun hc => ?_)
 ·simp only [bne_iff_ne, ne_eq] at hc
  have : s ≠ t := fun he => hc (by rw [he])
  simp [this]
 ·simp only [bne_eq_false_iff_eq] at hc
  have := eq_loop2 n (evF E orcL n) hv.r hv2.r h (by omega) hl n 0 false (by omega) (by omega) (c := c) (c2 := c2)
  rwa [List.drop_zero, List.drop_zero] at this
theorem below_loop (n0 : Nat) (call : CallA) {a : OP} {c : Cap} {ns : List Int} (hr : RdR X L a (ns.map (AV.int .u64))) (h : Hp X S L) (hl : ns.length ≤ 10) : ∀ (m i : Nat) (w : Bool), i ≤ ns.length → ns.length - i < m →
 Ok (J35_lZAR call n0 m w a ns.length c ns.length i S) fun v S' => v = .bool ((ns.drop i).all mxB) ∧ S' = S
 | 0, i, w, hi, hm => by omega
 | m + 1, i, w, hi, hm => by
   rw [J35_lZAR_succ]
   simp only [b35_lZAR]
   refine ok_cond (fun hc => ?_) (fun hc => ok_ret ⟨?_, rfl⟩)
   ·simp only [decide_eq_true_eq] at hc
    have hlt : i < ns.length := by omega
    obtain ⟨p, rfl⟩ := hr.some_of (by intro he; have := congrArg List.length he; simp at this; rw [this] at hlt; simp at hlt)
    obtain ⟨x, hx⟩ : ∃ x, ns[i]? = some x := ⟨_, List.getElem?_eq_getElem hlt⟩
    rw [ixSl_at rfl hlt]
    simp only [Nat.mul_one]
    rw [hr.ldI h (k := .u64) (v := x) (by rw [List.getElem?_map, hx]; rfl)]
    have hd : ns.drop i = x :: ns.drop (i + 1) := by
     obtain ⟨hlt', he⟩ := List.getElem?_eq_some_iff.1 hx
     rw [List.drop_eq_getElem_cons hlt', he]
    rw [hd, List.all_cons]
    refine ok_cond (fun hx => ok_ret ⟨?_, rfl⟩) (fun hx => ?_)
    ·simp only [gt_iff_lt, decide_eq_true_eq] at hx
     rw [show mxB x = false by simp [mxB]; omega]; rfl
    ·simp only [gt_iff_lt, decide_eq_false_iff_not] at hx
     rw [show mxB x = true by simp [mxB]; omega, Bool.true_and]
     rw [wn (x := (i : Int) + 1) (n := i + 1) (by omega) (by omega)]
     exact below_loop n0 call hr h hl m (i + 1) w (by omega) (by omega)
   ·simp only [decide_eq_false_iff_not] at hc
    rw [List.drop_of_length_le (by omega)]
    rfl
theorem below_eq (n : Nat) (hn : 100 < n) {a : OP} {c : Cap} {ns : List Int} (hr : RdR X L a (ns.map (AV.int .u64))) (h : Hp X S L) (hl : ns.length ≤ 10) {l : Nat} (hll : l = ns.length) : ev (n + 1) (.fn 35) [.sl a l c] S = some (.bool (ns.all mxB), S) := by
 subst hll
 apply ok_eq
 rw [ev, F35 _ _ _ _ _ (oL rfl)]
 simp only [J35, b35_entry]
 have := below_loop n (evF E orcL n) hr h hl n 0 false (by omega) (by omega) (c := c)
 rwa [List.drop_zero] at this
end
end Go.Jn
namespace Go.Jn
open Go.Gr
def erow (e : Le) (a : OP) (l : Nat) (c : Cap) : List AV := [.int .u64 e.bo, .int .u64 e.se, .int .u64 e.po, .int .u64 e.ls, .int .i64 e.pa, .int .i64 e.ps, .sl a l c]
def srowS (s : Su) : List AV := s.l.map (AV.int .u64)
theorem okE_false {e : Le} (h : ¬ (e.bo ≠ 0 ∧ e.se ≠ 0 ∧ e.ls ≠ 0 ∧ e.bo ≤ 4611686018427387904 ∧ e.se ≤ 4611686018427387904 ∧ e.ls ≤ 4611686018427387904 ∧ e.po ≤ 4611686018427387904 ∧ 1 ≤ e.ps ∧ e.ps ≤ 100 ∧ 0 ≤ e.pa ∧ e.pa < e.ps ∧ 1 ≤ e.by_.length ∧ e.by_.length ≤ 336)) : okE e = false := by
 cases hk : okE e with
 | false => rfl
 | true => exact absurd ((okE_iff e).1 hk) h
section
variable {X : Cx} {S : AS} {L F : List Ent} {b : Nat} {Q : AV → AS → Prop}
theorem bes_take {k : Nat} {l : List Int} {i : Nat} {x : Int} (h : l[i]? = some x) : bes k (l.take (i + 1)) = bes k (l.take i) ++ be k x.toNat := by
 rw [List.take_add_one, h]; simp [bes]
abbrev BQ (X : Cx) (F : List Ent) (s : List UInt8) (e : Int) : AV → AS → Prop := fun v S' => ∃ (a : OP) (c : Cap) (L' : List Ent), v = .tup [.sl a s.length c, .int .i64 e] ∧ SlG a s.length c 1 (bxs s) L' ∧ Hp X S' (L' ++ F)
theorem BQ.sub {s : List UInt8} {e : Int} {M : List Ent} (hm : M.Sublist F) {v : AV} {S' : AS} (h : BQ X F s e v S') : BQ X M s e v S' := by
 obtain ⟨a, c, L', rfl, hs, hp⟩ := h
 exact ⟨a, c, L', rfl, hs, hp.sub (List.Sublist.append_left hm L')⟩
theorem e_loop8 (n0 n : Nat) (hn : 100 < n) {ns : List Int} (hB : ∀ x ∈ ns, u64B x) (hns : ns.length ≤ 10) {w1 p : OP} {cp : Cap} {s0 : List UInt8} (hs0 : s0.length ≤ 100) (hr : RdR X F p (ns.map (AV.int .u64)))
 (fin : ∀ a c L' S', SlG a (s0 ++ bes 8 ns).length c 1 (bxs (s0 ++ bes 8 ns)) L' → Hp X S' (L' ++ F) → Ok (J36_jZAJ (evF E orcL (n + 2)) n0 w1 a (s0 ++ bes 8 ns).length c S') Q) :
 ∀ (m i : Nat) (a : OP) (l : Nat) (c : Cap) (L : List Ent) (S : AS), i ≤ ns.length → ns.length - i < m → SlG a l c 1 (bxs (s0 ++ bes 8 (ns.take i))) L → Hp X S (L ++ F) →
   Ok (J36_lZAW (evF E orcL (n + 2)) n0 m w1 a l c p ns.length cp ns.length i S) Q
 | 0, i, a, l, c, L, S, hi, hm, hs, h => by omega
 | m + 1, i, a, l, c, L, S, hi, hm, hs, h => by
   have hl : l = (s0 ++ bes 8 (ns.take i)).length := by have := hs.len; rwa [bxs_len] at this
   rw [J36_lZAW_succ]
   simp only [b36_lZAW]
   refine ok_cond (fun hc => ?_) (fun hc => ?_)
   ·simp only [decide_eq_true_eq] at hc
    have hlt : i < ns.length := by omega
    have hr' : RdR X (L ++ F) p (ns.map (AV.int .u64)) := hr.mono (fun e he => by simp [he])
    obtain ⟨q, rfl⟩ := hr'.some_of (by intro he; have := congrArg List.length he; simp at this; rw [this] at hlt; simp at hlt)
    obtain ⟨x, hx⟩ : ∃ x, ns[i]? = some x := ⟨_, List.getElem?_eq_getElem hlt⟩
    have hxB := hB x (List.mem_of_getElem? hx)
    rw [ixSl_at rfl hlt]
    simp only [Nat.mul_one]
    rw [hr'.ldI h (k := .u64) (v := x) (by rw [List.getElem?_map, hx]; rfl)]
    have p8 : (256 : Nat) ^ 8 = 18446744073709551616 := by decide
    have hlen : (s0 ++ bes 8 (ns.take i)).length ≤ 65536 := by simp; omega
    obtain ⟨h0, h1⟩ := hxB
    obtain ⟨v, S1, e, a1, c1, L1, rfl, hs1, h1⟩ : Ok (evF E orcL (n + 2) (.fn 56) [.sl a l c, .int .u64 x, .int .i64 8] S) _ := put_ok n hn h hs hlen (x := x.toNat) (by omega) (k := 8) (by decide) (by decide) (by omega) rfl
    rw [callL_of e, wn (x := (i : Int) + 1) (n := i + 1) (by omega) (by omega)]
    rw [List.append_assoc, ← bes_take hx] at hs1 ⊢
    exact e_loop8 n0 n hn hB hns hs0 hr fin m (i + 1) a1 _ c1 L1 S1 (by omega) (by omega) hs1 (by exact h1)
   ·simp only [decide_eq_false_iff_not] at hc
    have : i = ns.length := by omega
    subst this
    rw [List.take_length] at hs hl
    subst hl
    exact fin a c L S hs h
theorem e_loop2 (n0 n : Nat) (hn : 100 < n) {ns : List Int} (hB : ∀ x ∈ ns, 0 ≤ x ∧ x < 65536) (hns : ns.length ≤ 10) {w1 p : OP} {cp : Cap} {s0 : List UInt8} (hs0 : s0.length ≤ 100) (hr : RdR X F p (ns.map (AV.int .i64)))
 (fin : ∀ a c L' S', SlG a (s0 ++ bes 2 ns).length c 1 (bxs (s0 ++ bes 2 ns)) L' → Hp X S' (L' ++ F) → Ok (J36_jZAK (evF E orcL (n + 2)) n0 w1 a (s0 ++ bes 2 ns).length c S') Q) :
 ∀ (m i : Nat) (a : OP) (l : Nat) (c : Cap) (L : List Ent) (S : AS), i ≤ ns.length → ns.length - i < m → SlG a l c 1 (bxs (s0 ++ bes 2 (ns.take i))) L → Hp X S (L ++ F) →
   Ok (J36_lZAZ (evF E orcL (n + 2)) n0 m w1 a l c p ns.length cp ns.length i S) Q
 | 0, i, a, l, c, L, S, hi, hm, hs, h => by omega
 | m + 1, i, a, l, c, L, S, hi, hm, hs, h => by
   have hl : l = (s0 ++ bes 2 (ns.take i)).length := by have := hs.len; rwa [bxs_len] at this
   rw [J36_lZAZ_succ]
   simp only [b36_lZAZ]
   refine ok_cond (fun hc => ?_) (fun hc => ?_)
   ·simp only [decide_eq_true_eq] at hc
    have hlt : i < ns.length := by omega
    have hr' : RdR X (L ++ F) p (ns.map (AV.int .i64)) := hr.mono (fun e he => by simp [he])
    obtain ⟨q, rfl⟩ := hr'.some_of (by intro he; have := congrArg List.length he; simp at this; rw [this] at hlt; simp at hlt)
    obtain ⟨x, hx⟩ : ∃ x, ns[i]? = some x := ⟨_, List.getElem?_eq_getElem hlt⟩
    obtain ⟨h0, h1⟩ := hB x (List.mem_of_getElem? hx)
    rw [ixSl_at rfl hlt]
    simp only [Nat.mul_one]
    rw [hr'.ldI h (k := .i64) (v := x) (by rw [List.getElem?_map, hx]; rfl), wu64 h0 (by omega)]
    have p2 : (256 : Nat) ^ 2 = 65536 := by decide
    have hlen : (s0 ++ bes 2 (ns.take i)).length ≤ 65536 := by simp; omega
    obtain ⟨v, S1, e, a1, c1, L1, rfl, hs1, h1⟩ : Ok (evF E orcL (n + 2) (.fn 56) [.sl a l c, .int .u64 x, .int .i64 2] S) _ := put_ok n hn h hs hlen (x := x.toNat) (by omega) (k := 2) (by decide) (by decide) (by omega) rfl
    rw [callL_of e, wn (x := (i : Int) + 1) (n := i + 1) (by omega) (by omega)]
    rw [List.append_assoc, ← bes_take hx] at hs1 ⊢
    exact e_loop2 n0 n hn hB hns hs0 hr fin m (i + 1) a1 _ c1 L1 S1 (by omega) (by omega) hs1 h1
   ·simp only [decide_eq_false_iff_not] at hc
    have : i = ns.length := by omega
    subst this
    rw [List.take_length] at hs hl
    subst hl
    exact fin a c L S hs h
theorem putE_ok (n : Nat) (hn : 100 < n) {e : Le} (hB : LeB e) {a : OP} {l : Nat} {c : Cap} (h : Hp X S F) (hv : Vw X F a l c e.by_) :
 Ok (ev (n + 3) (.fn 36) [.agg (erow e a l c)] S) (BQ X F (putE e) (putEe e)) := by
 have hln := hv.ln
 rw [ev, F36 _ _ _ (oL rfl)]
 simp only [J36, b36_entry]
 have bad : ∀ (S' : AS) (M : List Ent), Hp X S' (M ++ F) → okE e = false → Ok (some (AV.tup [.sl none 0 (.ex 0), .int .i64 81], S')) (BQ X F (putE e) (putEe e)) := fun S' M hh he => by
  have e1 : putE e = [] := by simp [putE, he]
  have e2 : putEe e = 81 := by simp [putEe, he]
  rw [e1, e2]
  exact ok_ret ⟨none, .ex 0, [], rfl, .nil, hh.right⟩
 refine ok_ifO rfl (ok_newA h (fun b1 S1 h1 => ok_ldI h1 rfl (ok_cond (fun c1 => bad _ [_] h1 (okE_false fun hk => ?_)) (fun c1 => ok_ldI h1 rfl (ok_cond (fun c2 => bad _ [_] h1 (okE_false fun hk => ?_)) (fun c2 => ok_ldI h1 rfl (ok_cond (fun c3 => bad _ [_] h1 (okE_false fun hk => ?_)) (fun c3 => ?_))))))))
 ·simp only [beq_iff_eq] at c1; omega
 ·simp only [beq_iff_eq] at c2; omega
 ·simp only [beq_iff_eq] at c3; omega
 refine ok_ldI h1 rfl (ok_ldI h1 rfl (ok_ldI h1 rfl (ok_ldI h1 rfl (ok_newA h1 (fun b2 S2 h2 => ?_)))))
 have rd2 : RdR X (C b2 [.int .u64 e.bo, .int .u64 e.se, .int .u64 e.ls, .int .u64 e.po] :: C b1 (erow e a l c) :: F) (some (.rw b2, 0)) (([e.bo, e.se, e.ls, e.po]).map (AV.int .u64)) := .rw (c := [.int .u64 e.bo, .int .u64 e.se, .int .u64 e.ls, .int .u64 e.po]) List.mem_cons_self (by simp) rfl
 rw [callB_of (show evF E orcL (n + 2) (.fn 35) [.sl (some (.rw b2, 0)) 4 (.ex 4)] S2 = _ from below_eq (n + 1) (by omega) rd2 h2 (by simp) rfl)]
 refine ok_cond (fun c4 => bad _ [_, _] h2 (okE_false fun hk => ?_)) (fun c4 => ?_)
 ·simp only [Bool.not_eq_true', List.all_cons, List.all_nil, mxB, Bool.and_eq_false_iff, decide_eq_false_iff_not] at c4; simp at c4; omega
 have c4' : e.bo ≤ 4611686018427387904 ∧ e.se ≤ 4611686018427387904 ∧ e.ls ≤ 4611686018427387904 ∧ e.po ≤ 4611686018427387904 := by
  simpa [mxB] using c4
 refine ok_ldI h2 rfl (ok_cond (fun c5 => bad _ [_, _] h2 (okE_false fun hk => ?_)) (fun c5 => ok_ldI h2 rfl (ok_cond (fun c6 => bad _ [_, _] h2 (okE_false fun hk => ?_)) (fun c6 => ok_ldI h2 rfl (ok_cond (fun c7 => bad _ [_, _] h2 (okE_false fun hk => ?_)) (fun c7 => ok_ldI h2 rfl (ok_ldI h2 rfl (ok_cond (fun c8 => bad _ [_, _] h2 (okE_false fun hk => ?_)) (fun c8 => ok_ldL h2 rfl (ok_cond (fun c9 => bad _ [_, _] h2 (okE_false fun hk => ?_)) (fun c9 => ok_ldL h2 rfl (ok_cond (fun c10 => bad _ [_, _] h2 (okE_false fun hk => ?_)) (fun c10 => ?_)))))))))))))
 ·simp only [decide_eq_true_eq] at c5; omega
 ·simp only [gt_iff_lt, decide_eq_true_eq] at c6; omega
 ·simp only [decide_eq_true_eq] at c7; omega
 ·simp only [ge_iff_le, decide_eq_true_eq] at c8; omega
 ·simp only [beq_iff_eq] at c9; omega
 ·simp only [gt_iff_lt, decide_eq_true_eq] at c10; omega
 simp only [beq_eq_false_iff_ne, ne_eq, decide_eq_false_iff_not, gt_iff_lt, ge_iff_le] at c1 c2 c3 c5 c6 c7 c8 c9 c10
 obtain ⟨q1, q2, q3, q4⟩ := c4'
 have good : okE e = true := (okE_iff e).2 ⟨c1, c2, c3, q1, q2, q3, q4, by omega, by omega, by omega, by omega, by omega, by omega⟩
 have e1 : putE e = encE e := by simp [putE, good]
 have e2 : putEe e = 0 := by simp [putEe, good]
 rw [e1, e2]
 refine ok_newA h2 (fun b3 S3 h3 => ok_convLL h3 (by decide) (fun S4 h4 => ok_ldI h4 rfl (ok_ldI h4 rfl (ok_ldI h4 rfl (ok_ldI h4 rfl (ok_newA h4 (fun b4 S5 h5 => ?_)))))))
 have h5' : Hp X S5 ([C b3 (bxs jlog).flatten] ++ (C b4 [.int .u64 e.bo, .int .u64 e.se, .int .u64 e.po, .int .u64 e.ls] :: C b2 [.int .u64 e.bo, .int .u64 e.se, .int .u64 e.ls, .int .u64 e.po] :: C b1 (erow e a l c) :: F)) :=
  h5.re (by intro p; simp only [List.countP_append, List.countP_cons, List.countP_nil, C]; simp [jlog, bxs, ofBytes]; omega)
 have rd5 : RdR X (C b4 [.int .u64 e.bo, .int .u64 e.se, .int .u64 e.po, .int .u64 e.ls] :: C b2 [.int .u64 e.bo, .int .u64 e.se, .int .u64 e.ls, .int .u64 e.po] :: C b1 (erow e a l c) :: F) (some (.rw b4, 0)) (([e.bo, e.se, e.po, e.ls]).map (AV.int .u64)) := .rw (c := [.int .u64 e.bo, .int .u64 e.se, .int .u64 e.po, .int .u64 e.ls]) List.mem_cons_self (by simp) rfl
 refine Ok.mono (e_loop8 (Q := BQ X (C b4 [.int .u64 e.bo, .int .u64 e.se, .int .u64 e.po, .int .u64 e.ls] :: C b2 [.int .u64 e.bo, .int .u64 e.se, .int .u64 e.ls, .int .u64 e.po] :: C b1 (erow e a l c) :: F) (encE e) 0) (n + 2) n hn (ns := [e.bo, e.se, e.po, e.ls]) (by simp; exact ⟨hB.bo, hB.se, hB.po, hB.ls⟩) (by simp) (s0 := jlog) (by decide) rd5 (fun a3 c3 L3 S6 hs6 h6 => ?_) (n + 2) 0 (some (.rw b3, 0)) 4 (.ex 4) _ S5 (by omega) (by simp; omega) ?_ h5') (fun v S' hq => hq.sub ((((List.Sublist.refl F).cons _).cons _).cons _))
 ·simp only [J36_jZAJ, b36_jZAJ]
  refine ok_gO (ok_ldI h6 rfl (ok_gO (ok_ldI h6 rfl (ok_gO (ok_ldL h6 rfl (ok_newA h6 (fun b7 S7 h7 => ?_)))))))
  generalize hF7 : (C b4 [.int .u64 e.bo, .int .u64 e.se, .int .u64 e.po, .int .u64 e.ls] :: C b2 [.int .u64 e.bo, .int .u64 e.se, .int .u64 e.ls, .int .u64 e.po] :: C b1 (erow e a l c) :: F : List Ent) = F7 at h7 ⊢
  have h7' : Hp X S7 (L3 ++ (C b7 [.int .i64 e.pa, .int .i64 e.ps, .int .i64 (l : Nat)] :: F7)) := h7.re (by intro p; simp only [List.countP_append, List.countP_cons, C]; omega)
  have rd7 : RdR X (C b7 [.int .i64 e.pa, .int .i64 e.ps, .int .i64 (l : Nat)] :: F7) (some (.rw b7, 0)) (([e.pa, e.ps, (l : Int)]).map (AV.int .i64)) := .rw (c := [.int .i64 e.pa, .int .i64 e.ps, .int .i64 (l : Nat)]) List.mem_cons_self (by simp) rfl
  refine Ok.mono (e_loop2 (Q := BQ X (C b7 [.int .i64 e.pa, .int .i64 e.ps, .int .i64 (l : Nat)] :: F7) (encE e) 0) (n + 2) n hn (ns := [e.pa, e.ps, (l : Int)]) (by simp; omega) (by simp) (s0 := jlog ++ bes 8 [e.bo, e.se, e.po, e.ls]) (by simp [jlog]) rd7 (fun a8 c8 L8 S8 hs8 h8 => ?_) (n + 2) 0 a3 _ c3 L3 S7 (by omega) (by simp; omega) ?_ h7') (fun v S' hq => hq.sub (List.sublist_cons_self _ _))
  ·simp only [J36_jZAK, b36_jZAK]
   have hlen8 : (jlog ++ bes 8 [e.bo, e.se, e.po, e.ls] ++ bes 2 [e.pa, e.ps, (l : Int)]).length = 42 := by simp [jlog]
   refine ok_zeros h8 hs8 (k := 6) (by rw [hlen8]; rfl) (by rw [hlen8]; decide) (fun a9 c9 L9 S9 hs9 h9 => ?_)
   have hm9 : C b1 (erow e a l c) ∈ L9 ++ (C b7 [.int .i64 e.pa, .int .i64 e.ps, .int .i64 (l : Nat)] :: F7) := by rw [← hF7]; simp
   refine ok_gO (okM_ldL h9 hm9 rfl ?_)
   have hv9 : Vw X (C b7 [.int .i64 e.pa, .int .i64 e.ps, .int .i64 (l : Nat)] :: F7) a l c e.by_ := hv.mono (fun x hx => by rw [← hF7]; simp [hx])
   refine ok_bytes h9 hs9 hv9 (by rw [List.length_append, hlen8]; simp; omega) (fun a10 c10 L10 S10 hs10 h10 => ?_)
   have hlen10 : (jlog ++ bes 8 [e.bo, e.se, e.po, e.ls] ++ bes 2 [e.pa, e.ps, (l : Int)] ++ zz 6 ++ e.by_).length = 48 + e.by_.length := by rw [List.length_append, List.length_append, hlen8]; simp
   obtain ⟨v, S11, e11, a11, c11, L11, rfl, hs11, h11⟩ : Ok (evF E orcL (n + 2) (.fn 57) [.sl a10 _ c10] S10) _ := filled_ok (n + 1) h10 hs10 (by rw [hlen10]; omega)
   rw [callL_of e11]
   have he : jlog ++ bes 8 [e.bo, e.se, e.po, e.ls] ++ bes 2 [e.pa, e.ps, (l : Int)] ++ zz 6 ++ e.by_ ++ zz (384 - (jlog ++ bes 8 [e.bo, e.se, e.po, e.ls] ++ bes 2 [e.pa, e.ps, (l : Int)] ++ zz 6 ++ e.by_).length) = encE e := by
    rw [hlen10, show 384 - (48 + e.by_.length) = 336 - e.by_.length by omega, encE, hdE, hln]
    simp only [bes_cons, bes_nil, List.append_assoc, List.append_nil, List.nil_append, Int.toNat_natCast]
   rw [he] at hs11 ⊢
   exact ok_ret ⟨a11, c11, L11, rfl, hs11, h11⟩
  ·simpa using hs6
 ·have := (SlR.of (b := b3) (bxs_all jlog) (n := 4) rfl (.inl rfl)).g
  simpa using this
theorem ok_sl {a : OP} {l : Nat} {c : Cap} {s : List UInt8} {K : OP → Nat → Cap → RV} (h : Vw X L a l c s) {lo hi : Nat} (h1 : lo ≤ hi) (h2 : hi ≤ l) {x y : Int} (hx : x = lo) (hy : y = hi) (ht : ∀ a' c', Vw X L a' (hi - lo) c' (win8 s lo (hi - lo)) → Ok (K a' (hi - lo) c') Q) : Ok (slSl 1 a l c (some x) (some y) none K) Q := by
 subst hx; subst hy
 obtain ⟨a', c', v, e, _, _⟩ := vw_sl h h1 h2
 rw [e]; exact ht _ _ v
theorem ok_sl0 {a : OP} {l : Nat} {c : Cap} {s : List UInt8} {K : OP → Nat → Cap → RV} (h : Vw X L a l c s) {hi : Nat} (h2 : hi ≤ l) {y : Int} (hy : y = hi) (ht : ∀ a' c', Vw X L a' hi c' (s.take hi) → Ok (K a' hi c') Q) : Ok (slSl 1 a l c none (some y) none K) Q := by
 subst hy
 obtain ⟨a', c', v, _, e, _⟩ := vw_sl h (Nat.zero_le hi) h2
 rw [e _ rfl]; exact ht _ _ (by simpa [win8] using v)
theorem ok_slT {a : OP} {l : Nat} {c : Cap} {s : List UInt8} {K : OP → Nat → Cap → RV} (h : Vw X L a l c s) {lo : Nat} (h2 : lo ≤ l) {x : Int} (hx : x = lo) (ht : ∀ a' c', Vw X L a' (l - lo) c' (s.drop lo) → Ok (K a' (l - lo) c') Q) : Ok (slSl 1 a l c (some x) none none K) Q := by
 subst hx
 obtain ⟨a', c', v, _, _, e⟩ := vw_sl h h2 (Nat.le_refl l)
 have hl := h.ln
 rw [e _ rfl]; exact ht _ _ (by rwa [win8, List.take_of_length_le (by simp; omega)] at v)
abbrev GQ (X : Cx) (F : List Ent) (g : Le) (e : Int) : AV → AS → Prop := fun v S' => ∃ (a : OP) (c : Cap) (L' : List Ent), v = .tup [.agg (erow g a g.by_.length c), .int .i64 e] ∧ Vw X L' a g.by_.length c g.by_ ∧ Hp X S' (L' ++ F)
abbrev zrow : List AV := [.int .u64 0, .int .u64 0, .int .u64 0, .int .u64 0, .int .i64 0, .int .i64 0, .sl none 0 (.ex 0)]
theorem vw_nil : Vw X L none 0 (.ex 0) [] := ⟨.nil, rfl, 0, .inl rfl, Nat.le_refl _⟩
theorem win8_le {s : List UInt8} {i k m : Nat} (h : k ≤ m) : (win8 s i k).length ≤ m := by simp [win8]; omega
theorem vl_win2 (s : List UInt8) (i : Nat) : vl (win8 s i 2) < 65536 := by
 refine Nat.lt_of_lt_of_le (vl_lt _) (Nat.le_trans (Nat.pow_le_pow_right (by decide) (?_ : _ ≤ 2)) (by decide))
 simp [win8]; omega
theorem getE_ok (n : Nat) (hn : 70000 < n) {s : List UInt8} {a : OP} {l : Nat} {c : Cap} (h : Hp X S F) (hv : Vw X F a l c s) :
 Ok (ev (n + 4) (.fn 69) [.sl a l c] S) (GQ X F (getE s) (getEe s)) := by
 have hln := hv.ln
 rw [ev, F69 _ _ _ _ _ (oL rfl)]
 simp only [J69, b69_entry]
 have bad : goodE s = false → GQ X F (getE s) (getEe s) = GQ X F zE 81 := fun he => by simp [getE, getEe, he]
 have zer : ∀ (b1 : Nat) (S' : AS) (M : List Ent), goodE s = false → Hp X S' (M ++ (C b1 zrow :: F)) → Ok (S'.stn (.rw b1) 0 zrow fun S3 => S3.ldn (.rw b1) 0 7 fun g4 => some (.tup [(.agg g4), (.int .i64 81)], S3)) (GQ X F (getE s) (getEe s)) := fun b1 S' M he hh => by
  rw [bad he]
  refine ok_stn hh (by simp) (d := zrow) (by simp [splice]) (fun S3 h3 => ok_ldn h3 (by simp) (d := zrow) rfl (ok_ret ⟨none, .ex 0, [], rfl, vw_nil, h3.right.drop1⟩))
 refine ok_newA h (fun b1 S1 h1 => ok_cond (fun c1 => ?_) (fun c1 => ?_))
 ·simp only [bne_iff_ne, ne_eq] at c1
  exact zer b1 S1 [] (by simp [goodE]; omega) h1
 simp only [bne_eq_false_iff_eq] at c1
 have h384 : s.length = 384 := by omega
 have v1 : Vw X (C b1 zrow :: F) a l c s := hv.mono (fun e he => by simp [he])
 refine ok_sl v1 (lo := 40) (hi := 42) (by decide) (by omega) rfl rfl (fun a5 c5 v5 => ?_)
 rw [callI_of (show evF E orcL (n + 3) (.fn 77) [.sl a5 (42 - 40) c5] S1 = _ from get_eq (n + 2) (by omega) v5 h1 (win8_le (by decide)))]
 refine ok_drawA h1 [26] (by simp) (by simp) (fun b8 S9 h9 => ?_)
 have h9' : Hp X S9 ((b8 + 26, none) :: C b1 zrow :: F) := h9
 have v9 : Vw X ((b8 + 26, none) :: C b1 zrow :: F) a l c s := hv.mono (fun e he => by simp [he])
 refine ok_sl v9 (lo := 4) (hi := 12) (by decide) (by omega) rfl rfl (fun a1 c1 w1 => ?_)
 rw [callI_of (show evF E orcL (n + 3) (.fn 77) [.sl a1 (12 - 4) c1] S9 = _ from get_eq (n + 2) (by omega) w1 h9' (win8_le (by decide)))]
 refine ok_sl v9 (lo := 12) (hi := 20) (by decide) (by omega) rfl rfl (fun a1 c1 w1 => ?_)
 rw [callI_of (show evF E orcL (n + 3) (.fn 77) [.sl a1 (20 - 12) c1] S9 = _ from get_eq (n + 2) (by omega) w1 h9' (win8_le (by decide)))]
 refine ok_sl v9 (lo := 20) (hi := 28) (by decide) (by omega) rfl rfl (fun a1 c1 w1 => ?_)
 rw [callI_of (show evF E orcL (n + 3) (.fn 77) [.sl a1 (28 - 20) c1] S9 = _ from get_eq (n + 2) (by omega) w1 h9' (win8_le (by decide)))]
 refine ok_sl v9 (lo := 28) (hi := 36) (by decide) (by omega) rfl rfl (fun a1 c1 w1 => ?_)
 rw [callI_of (show evF E orcL (n + 3) (.fn 77) [.sl a1 (36 - 28) c1] S9 = _ from get_eq (n + 2) (by omega) w1 h9' (win8_le (by decide)))]
 refine ok_sl v9 (lo := 36) (hi := 38) (by decide) (by omega) rfl rfl (fun a1 c1 w1 => ?_)
 rw [callI_of (show evF E orcL (n + 3) (.fn 77) [.sl a1 (38 - 36) c1] S9 = _ from get_eq (n + 2) (by omega) w1 h9' (win8_le (by decide)))]
 refine ok_sl v9 (lo := 38) (hi := 40) (by decide) (by omega) rfl rfl (fun a1 c1 w1 => ?_)
 rw [callI_of (show evF E orcL (n + 3) (.fn 77) [.sl a1 (40 - 38) c1] S9 = _ from get_eq (n + 2) (by omega) w1 h9' (win8_le (by decide)))]
 have k1 := vl_win2 s 40
 have k2 := vl_win2 s 36
 have k3 := vl_win2 s 38
 have kk : (42 : Nat) - 40 = 2 := rfl
 rw [show (42 : Nat) - 40 = 2 from rfl, show (12 : Nat) - 4 = 8 from rfl]
 rw [wn (x := ((vl (win8 s 40 2) : Nat) : Int)) rfl (by omega), wn (x := ((vl (win8 s 36 2) : Nat) : Int)) rfl (by omega), wn (x := ((vl (win8 s 38 2) : Nat) : Int)) rfl (by omega)]
 have hmin : (48 : Int) + (if (336 : Int) < ((vl (win8 s 40 2) : Nat) : Int) then 336 else ((vl (win8 s 40 2) : Nat) : Int)) = ((48 + min (vl (win8 s 40 2)) 336 : Nat) : Int) := by
  split <;> omega
 rw [wn hmin (by omega)]
 refine ok_sl v9 (lo := 48) (hi := 48 + min (vl (win8 s 40 2)) 336) (by omega) (by omega) rfl rfl (fun a2 c2 w2 => ?_)
 rw [Nat.add_sub_cancel_left] at w2 ⊢
 have hby : (decE s).by_ = win8 s 48 (min (vl (win8 s 40 2)) 336) := rfl
 rw [← hby] at w2
 have hbl : (decE s).by_.length = min (vl (win8 s 40 2)) 336 := by rw [hby]; simp [win8]; omega
 obtain ⟨v, S3, e3, a3, c3, L3, rfl, hs3, h3⟩ : Ok (evF E orcL (n + 3) (.fn 79) [.sl a2 (min (vl (win8 s 40 2)) 336) c2] S9) _ := clone_ok (n + 2) h9' w2 (by omega)
 rw [callL_of e3]
 refine ok_layA (b := b8 + 26) h3 (fun S4 h4 => ok_stn h4 (by simp) (d := erow (decE s) a3 (decE s).by_.length c3) (by simp [splice, erow, decE]) (fun S5 h5 => ok_ldn h5 (by simp [erow]) (d := erow (decE s) a3 (decE s).by_.length c3) rfl ?_))
 have hv5 : Vw X (L3 ++ (C (b8 + 26) (erow (decE s) a3 (decE s).by_.length c3) :: C b1 zrow :: F)) a3 (decE s).by_.length c3 (decE s).by_ := slG_vw hs3 (fun e he => by simp [he])
 obtain ⟨v, S6, e6, a6, c6, L6, rfl, hs6, h6⟩ : Ok (evF E orcL (n + 3) (.fn 36) [.agg (erow (decE s) a3 (decE s).by_.length c3)] S5) _ := putE_ok n (by omega) (decB s) h5 hv5
 rw [callT_of e6]
 refine ok_atL rfl (ok_atI rfl (ok_cond (fun cc => ?_) (fun cc => ?_)))
 ·have he : okE (decE s) = false := by
   cases hk : okE (decE s) with
   | false => rfl
   | true => rw [putEe, if_pos hk] at cc; exact absurd cc (by decide)
  exact zer b1 S6 (L6 ++ (L3 ++ [C (b8 + 26) (erow (decE s) a3 (decE s).by_.length c3)])) (by simp [goodE, he]) (by simpa using h6)
 have he : okE (decE s) = true := by
  cases hk : okE (decE s) with
  | true => rfl
  | false => rw [putEe, if_neg (by simp [hk])] at cc; exact absurd cc (by decide)
 rw [show putE (decE s) = encE (decE s) by simp [putE, he]] at hs6 ⊢
 have hv6 : Vw X (L6 ++ (L3 ++ (C (b8 + 26) (erow (decE s) a3 (decE s).by_.length c3) :: C b1 zrow :: F))) a l c s := hv.mono (fun e he => by simp [he])
 rw [callB_of (show evF E orcL (n + 3) (.fn 78) [.sl a6 (encE (decE s)).length c6, .sl a l c] S6 = _ from equal_eq (n + 2) (by omega) (slG_vw hs6 (fun e he => by simp [he])) hv6 h6 (by rw [encE_len (by omega)]; decide))]
 refine ok_cond (fun cc => ?_) (fun cc => ?_)
 ·simp only [Bool.not_eq_true'] at cc
  exact zer b1 S6 (L6 ++ (L3 ++ [C (b8 + 26) (erow (decE s) a3 (decE s).by_.length c3)])) (by simp only [goodE, cc, Bool.and_false]) (by simpa using h6)
 ·simp only [Bool.not_eq_false'] at cc
  have hg : goodE s = true := by simp only [goodE, h384, he, cc, decide_true, Bool.and_self]
  rw [show getE s = decE s by simp [getE, hg], show getEe s = 0 by simp [getEe, hg]]
  refine ok_ldn h6 (by simp [erow]) (d := erow (decE s) a3 (decE s).by_.length c3) rfl (ok_ifO rfl (ok_stn h6 (by simp [erow]) (d := erow (decE s) a3 (decE s).by_.length c3) (by simp [splice, erow]) (fun S7 h7 => ok_ldn h7 (by simp [erow]) (d := erow (decE s) a3 (decE s).by_.length c3) rfl (ok_ret ⟨a3, c3, L3, rfl, slG_vw hs3 (fun e he => he), ?_⟩))))
  exact h7.right.sub (List.Sublist.append_left (((List.Sublist.refl F).cons _).cons _) L3)
end
end Go.Jn
namespace Go.Jn
open Go.Gr
section
variable {X : Cx} {S : AS} {L F : List Ent} {b : Nat} {Q : AV → AS → Prop}
theorem s_loop8 (n0 n : Nat) (hn : 100 < n) {ns : List Int} (hB : ∀ x ∈ ns, u64B x) (hns : ns.length ≤ 10) {p : OP} {cp : Cap} {s0 : List UInt8} (hs0 : s0.length ≤ 100) (hr : RdR X F p (ns.map (AV.int .u64)))
 (fin : ∀ a c L' S', SlG a (s0 ++ bes 8 ns).length c 1 (bxs (s0 ++ bes 8 ns)) L' → Hp X S' (L' ++ F) → Ok (J41_jZAK (evF E orcL (n + 2)) n0 a (s0 ++ bes 8 ns).length c S') Q) :
 ∀ (m i : Nat) (a : OP) (l : Nat) (c : Cap) (L : List Ent) (S : AS), i ≤ ns.length → ns.length - i < m → SlG a l c 1 (bxs (s0 ++ bes 8 (ns.take i))) L → Hp X S (L ++ F) →
   Ok (J41_lZAZ (evF E orcL (n + 2)) n0 m a l c p ns.length cp ns.length i S) Q
 | 0, i, a, l, c, L, S, hi, hm, hs, h => by omega
 | m + 1, i, a, l, c, L, S, hi, hm, hs, h => by
   have hl : l = (s0 ++ bes 8 (ns.take i)).length := by have := hs.len; rwa [bxs_len] at this
   rw [J41_lZAZ_succ]
   simp only [b41_lZAZ]
   refine ok_cond (fun hc => ?_) (fun hc => ?_)
   ·simp only [decide_eq_true_eq] at hc
    have hlt : i < ns.length := by omega
    have hr' : RdR X (L ++ F) p (ns.map (AV.int .u64)) := hr.mono (fun e he => by simp [he])
    obtain ⟨q, rfl⟩ := hr'.some_of (by intro he; have := congrArg List.length he; simp at this; rw [this] at hlt; simp at hlt)
    obtain ⟨x, hx⟩ : ∃ x, ns[i]? = some x := ⟨_, List.getElem?_eq_getElem hlt⟩
    obtain ⟨h0, h1⟩ := hB x (List.mem_of_getElem? hx)
    rw [ixSl_at rfl hlt]
    simp only [Nat.mul_one]
    rw [hr'.ldI h (k := .u64) (v := x) (by rw [List.getElem?_map, hx]; rfl)]
    have p8 : (256 : Nat) ^ 8 = 18446744073709551616 := by decide
    have hlen : (s0 ++ bes 8 (ns.take i)).length ≤ 65536 := by simp; omega
    obtain ⟨v, S1, e, a1, c1, L1, rfl, hs1, h1⟩ : Ok (evF E orcL (n + 2) (.fn 56) [.sl a l c, .int .u64 x, .int .i64 8] S) _ := put_ok n hn h hs hlen (x := x.toNat) (by omega) (k := 8) (by decide) (by decide) (by omega) rfl
    rw [callL_of e, wn (x := (i : Int) + 1) (n := i + 1) (by omega) (by omega)]
    rw [List.append_assoc, ← bes_take hx] at hs1 ⊢
    exact s_loop8 n0 n hn hB hns hs0 hr fin m (i + 1) a1 _ c1 L1 S1 (by omega) (by omega) hs1 h1
   ·simp only [decide_eq_false_iff_not] at hc
    have : i = ns.length := by omega
    subst this
    rw [List.take_length] at hs hl
    subst hl
    exact fin a c L S hs h
theorem putS_ok (n : Nat) (hn : 100 < n) {x : Su} (hB : ∀ y ∈ x.l, u64B y) (h : Hp X S F) :
 Ok (ev (n + 3) (.fn 41) [.agg (srowS x)] S) (BQ X F (putS x) (putSe x)) := by
 rw [ev, F41 _ _ _ (oL rfl)]
 simp only [J41, b41_entry]
 have bad : ∀ (S' : AS) (M : List Ent), Hp X S' (M ++ F) → okS x = false → Ok (some (AV.tup [.sl none 0 (.ex 0), .int .i64 81], S')) (BQ X F (putS x) (putSe x)) := fun S' M hh he => by
  have e1 : putS x = [] := by simp [putS, he]
  have e2 : putSe x = 81 := by simp [putSe, he]
  rw [e1, e2]
  exact ok_ret ⟨none, .ex 0, [], rfl, .nil, hh.right⟩
 refine ok_ifO rfl (ok_newA h (fun b1 S1 h1 => ok_ldI h1 rfl (ok_ldI h1 rfl (ok_ldI h1 rfl (ok_ldI h1 rfl (ok_ldI h1 rfl (ok_ldI h1 rfl (ok_newA h1 (fun b2 S2 h2 => ok_ldI h2 rfl (ok_cond (fun c1 => bad _ [_, _] h2 ?_) (fun c1 => ok_ldI h2 rfl (ok_cond (fun c2 => bad _ [_, _] h2 ?_) (fun c2 => ?_)))))))))))))
 ·simp only [beq_iff_eq] at c1; simp [okS, c1]
 ·simp only [beq_iff_eq] at c2; simp [okS, c2]
 have rd2 : RdR X (C b2 (srowS x) :: C b1 (srowS x) :: F) (some (.rw b2, 0)) (x.l.map (AV.int .u64)) := .rw (c := srowS x) List.mem_cons_self (by simp [srowS]) rfl
 have h2' : Hp X S2 (C b2 (srowS x) :: C b1 (srowS x) :: F) := h2
 rw [callB_of (show evF E orcL (n + 2) (.fn 35) [.sl (some (.rw b2, 0)) 6 (.ex 6)] S2 = _ from below_eq (n + 1) (by omega) rd2 h2' (by simp [Su.l]) rfl)]
 refine ok_cond (fun c4 => bad _ [_, _] h2 ?_) (fun c4 => ?_)
 ·simp only [Bool.not_eq_true'] at c4; simp [okS, c4]
 simp only [beq_eq_false_iff_ne, ne_eq, Bool.not_eq_false'] at c1 c2 c4
 have good : okS x = true := by simp [okS, c1, c2, c4]
 have e1 : putS x = encS x := by simp [putS, good]
 have e2 : putSe x = 0 := by simp [putSe, good]
 rw [e1, e2]
 refine ok_newA h2' (fun b3 S3 h3 => ok_convLL h3 (by decide) (fun S4 h4 => ?_))
 have h5' : Hp X S4 ([C b3 (bxs jsup).flatten] ++ (C b2 (srowS x) :: C b1 (srowS x) :: F)) := h4.re (by intro p; simp only [List.countP_append, List.countP_cons, List.countP_nil, C]; simp [jsup, bxs, ofBytes]; omega)
 refine Ok.mono (s_loop8 (Q := BQ X (C b2 (srowS x) :: C b1 (srowS x) :: F) (encS x) 0) (n + 2) n hn (ns := x.l) hB (by simp [Su.l]) (s0 := jsup) (by decide) rd2 (fun a3 c3 L3 S6 hs6 h6 => ?_) (n + 2) 0 (some (.rw b3, 0)) 4 (.ex 4) _ S4 (by omega) (by simp [Su.l]; omega) ?_ h5') (fun v S' hq => hq.sub (((List.Sublist.refl F).cons _).cons _))
 ·simp only [J41_jZAK, b41_jZAK]
  have hlen : (jsup ++ bes 8 x.l).length = 52 := by simp [jsup, Su.l]
  obtain ⟨v, S11, e11, a11, c11, L11, rfl, hs11, h11⟩ : Ok (evF E orcL (n + 2) (.fn 57) [.sl a3 _ c3] S6) _ := filled_ok (n + 1) h6 hs6 (by rw [hlen]; omega)
  rw [callL_of e11]
  have he : jsup ++ bes 8 x.l ++ zz (384 - (jsup ++ bes 8 x.l).length) = encS x := by
   rw [hlen, encS, List.append_assoc]
  rw [he] at hs11 ⊢
  exact ok_ret ⟨a11, c11, L11, rfl, hs11, h11⟩
 ·have := (SlR.of (b := b3) (bxs_all jsup) (n := 4) rfl (.inl rfl)).g
  simpa using this
theorem map_splice {k : IntKind} {l : List Int} {i : Nat} (v : Int) (h : i < l.length) : splice (l.map (AV.int k)) i [.int k v] = (l.set i v).map (AV.int k) := by
 rw [splice, List.set_eq_take_append_cons_drop, if_pos h]
 simp [List.map_take, List.map_drop]
def arrS (s : List UInt8) (i : Nat) : List Int := (decS s).l.take i ++ List.replicate (6 - i) 0
@[simp] theorem decS_l_len (s : List UInt8) : (decS s).l.length = 6 := rfl
theorem arrS_len (s : List UInt8) {i : Nat} (h : i ≤ 6) : (arrS s i).length = 6 := by simp [arrS]; omega
theorem decS_at (s : List UInt8) {i : Nat} (h : i < 6) : (decS s).l[i]? = some ((vl (win8 s (4 + 8 * i) 8) : Nat) : Int) := by
 match i, h with
 | 0, _ => rfl
 | 1, _ => rfl
 | 2, _ => rfl
 | 3, _ => rfl
 | 4, _ => rfl
 | 5, _ => rfl
theorem arrS_set (s : List UInt8) {i : Nat} (h : i < 6) : (arrS s i).set i ((vl (win8 s (4 + 8 * i) 8) : Nat) : Int) = arrS s (i + 1) := by
 have hl : ((decS s).l.take i).length = i := by simp; omega
 rw [arrS, arrS, List.set_append_right _ _ (by omega), hl, Nat.sub_self, show 6 - i = (6 - (i + 1)) + 1 by omega, List.replicate_succ, List.set_cons_zero, List.take_add_one, decS_at s h]
 simp
theorem ok_ixArr1 {b0 : Bid} {o : Nat} {n : Int} {k : Nat} {K : Pos → RV} (hn : n = k) (hk : k < 6) (ht : Ok (K (b0, o + k)) Q) : Ok (ixArr 1 (b0, o) 6 n K) Q :=
 ok_ixArr hn hk (by rwa [Nat.mul_one])
theorem gs_loop (n0 n : Nat) (hn : 100 < n) {s : List UInt8} {a : OP} {l : Nat} {c : Cap} {b5 : Nat} {w2 : OP} (hl : l = 384) (hv : Vw X F a l c s)
 (fin : ∀ S', Hp X S' (C b5 ((decS s).l.map (AV.int .u64)) :: F) → Ok (J68_jZAJ (evF E orcL (n + 1)) n0 a l c w2 (some (.rw b5, 0)) S') Q) :
 ∀ (m i : Nat) (S : AS), i ≤ 6 → 6 - i < m → Hp X S (C b5 ((arrS s i).map (AV.int .u64)) :: F) →
   Ok (J68_lZAW (evF E orcL (n + 1)) n0 m a l c w2 (some (.rw b5, 0)) i S) Q
 | 0, i, S, hi, hm, h => by omega
 | m + 1, i, S, hi, hm, h => by
   rw [J68_lZAW_succ]
   simp only [b68_lZAW]
   refine ok_cond (fun hc => ?_) (fun hc => ?_)
   ·simp only [decide_eq_true_eq] at hc
    have hlt : i < 6 := by omega
    rw [wn (x := (8 : Int) * i) (n := 8 * i) (by omega) (by omega), wn (x := (4 : Int) + ((8 * i : Nat) : Int)) (n := 4 + 8 * i) (by omega) (by omega), wn (x := (12 : Int) + ((8 * i : Nat) : Int)) (n := 12 + 8 * i) (by omega) (by omega)]
    have hv' : Vw X (C b5 ((arrS s i).map (AV.int .u64)) :: F) a l c s := hv.mono (fun e he => by simp [he])
    refine ok_sl hv' (lo := 4 + 8 * i) (hi := 12 + 8 * i) (by omega) (by omega) rfl rfl (fun a5 c5 v5 => ?_)
    rw [callI_of (show evF E orcL (n + 1) (.fn 77) [.sl a5 (12 + 8 * i - (4 + 8 * i)) c5] S = _ from get_eq n (by omega) v5 h (win8_le (by omega)))]
    rw [show 12 + 8 * i - (4 + 8 * i) = 8 by omega]
    refine ok_gO (ok_ixArr1 rfl hlt ?_)
    rw [Nat.zero_add]
    refine ok_stn h (by simp [arrS_len s hi]; omega) (d := (arrS s (i + 1)).map (AV.int .u64)) (by rw [map_splice _ (by rw [arrS_len s hi]; exact hlt), arrS_set s hlt]) (fun S1 h1 => ?_)
    rw [wn (x := (i : Int) + 1) (n := i + 1) (by omega) (by omega)]
    exact gs_loop n0 n hn hl hv fin m (i + 1) S1 (by omega) (by omega) h1
   ·simp only [decide_eq_false_iff_not] at hc
    have : i = 6 := by omega
    subst this
    exact fin S (by simpa [arrS, List.take_of_length_le] using h)
abbrev zrowS : List AV := [.int .u64 0, .int .u64 0, .int .u64 0, .int .u64 0, .int .u64 0, .int .u64 0]
abbrev GSQ (X : Cx) (F : List Ent) (g : Su) (e : Int) : AV → AS → Prop := fun v S' => v = .tup [.agg (srowS g), .int .i64 e] ∧ Hp X S' F
theorem decSB (b : List UInt8) : ∀ y ∈ (decS b).l, u64B y := by
 intro y hy
 obtain ⟨i, hi, rfl⟩ := List.getElem_of_mem hy
 have h8 : ∀ i, vl (win8 b i 8) < 18446744073709551616 := fun i => by
  refine Nat.lt_of_lt_of_le (vl_lt _) (Nat.le_trans (Nat.pow_le_pow_right (by decide) (?_ : _ ≤ 8)) (by decide))
  simp [win8]; omega
 have := decS_at b (i := i) (by simpa using hi)
 rw [List.getElem?_eq_getElem hi] at this
 rw [Option.some.inj this]
 have := h8 (4 + 8 * i)
 exact ⟨by omega, by omega⟩
theorem getS_ok (n : Nat) (hn : 70000 < n) {s : List UInt8} {a : OP} {l : Nat} {c : Cap} (h : Hp X S F) (hv : Vw X F a l c s) :
 Ok (ev (n + 4) (.fn 68) [.sl a l c] S) (GSQ X F (getS s) (getSe s)) := by
 have hln := hv.ln
 rw [ev, F68 _ _ _ _ _ (oL rfl)]
 simp only [J68, b68_entry]
 have bad : goodS s = false → GSQ X F (getS s) (getSe s) = GSQ X F zS 81 := fun he => by simp [getS, getSe, he]
 have zer : ∀ (b1 : Nat) (S' : AS) (M : List Ent), goodS s = false → Hp X S' (M ++ (C b1 zrowS :: F)) → Ok (S'.stn (.rw b1) 0 zrowS fun S3 => S3.ldn (.rw b1) 0 6 fun g4 => some (.tup [(.agg g4), (.int .i64 81)], S3)) (GSQ X F (getS s) (getSe s)) := fun b1 S' M he hh => by
  rw [bad he]
  exact ok_stn hh (by simp) (d := zrowS) (by simp [splice]) (fun S3 h3 => ok_ldn h3 (by simp) (d := zrowS) rfl (ok_ret ⟨rfl, h3.right.drop1⟩))
 refine ok_newA h (fun b1 S1 h1 => ok_cond (fun c1 => ?_) (fun c1 => ?_))
 ·simp only [bne_iff_ne, ne_eq] at c1
  exact zer b1 S1 [] (by simp [goodS]; omega) h1
 simp only [bne_eq_false_iff_eq] at c1
 have h384 : s.length = 384 := by omega
 refine ok_newA h1 (fun b5 S2 h2 => ?_)
 have v1 : Vw X (C b1 zrowS :: F) a l c s := hv.mono (fun e he => by simp [he])
 refine gs_loop (b5 := b5) (n + 3) (n + 2) (by omega) (s := s) (by omega) v1 (fun S3 h3 => ?_) (n + 3) 0 S2 (by omega) (by omega) h2
 simp only [J68_jZAJ, b68_jZAJ]
 refine ok_gO (ok_ixArr1 (k := 0) rfl (by decide) (ok_ldI h3 rfl ?_))
 refine ok_gO (ok_ixArr1 (k := 1) rfl (by decide) (ok_ldI h3 rfl ?_))
 refine ok_gO (ok_ixArr1 (k := 2) rfl (by decide) (ok_ldI h3 rfl ?_))
 refine ok_gO (ok_ixArr1 (k := 3) rfl (by decide) (ok_ldI h3 rfl ?_))
 refine ok_gO (ok_ixArr1 (k := 4) rfl (by decide) (ok_ldI h3 rfl ?_))
 refine ok_gO (ok_ixArr1 (k := 5) rfl (by decide) (ok_ldI h3 rfl ?_))
 refine ok_newA h3 (fun b31 S4 h4 => ok_stn h4 (by simp) (d := srowS (decS s)) (by simp [splice, srowS, Su.l]) (fun S5 h5 => ok_ldn h5 (by simp [srowS]) (d := srowS (decS s)) (by simp [srowS, Su.l]) ?_))
 obtain ⟨v, S6, e6, a6, c6, L6, rfl, hs6, h6⟩ : Ok (evF E orcL (n + 3) (.fn 41) [.agg (srowS (decS s))] S5) _ := putS_ok n (by omega) (decSB s) h5
 rw [callT_of e6]
 refine ok_atL rfl (ok_atI rfl (ok_cond (fun cc => ?_) (fun cc => ?_)))
 ·have he : okS (decS s) = false := by
   cases hk : okS (decS s) with
   | false => rfl
   | true => rw [putSe, if_pos hk] at cc; exact absurd cc (by decide)
  exact zer b1 S6 (L6 ++ [C b31 (srowS (decS s)), C b5 ((decS s).l.map (AV.int .u64))]) (by simp [goodS, he]) (by simpa using h6)
 have he : okS (decS s) = true := by
  cases hk : okS (decS s) with
  | true => rfl
  | false => rw [putSe, if_neg (by simp [hk])] at cc; exact absurd cc (by decide)
 rw [show putS (decS s) = encS (decS s) by simp [putS, he]] at hs6 ⊢
 have hv6 : Vw X (L6 ++ (C b31 (srowS (decS s)) :: C b5 ((decS s).l.map (AV.int .u64)) :: C b1 zrowS :: F)) a l c s := hv.mono (fun e he => by simp [he])
 rw [callB_of (show evF E orcL (n + 3) (.fn 78) [.sl a6 (encS (decS s)).length c6, .sl a l c] S6 = _ from equal_eq (n + 2) (by omega) (slG_vw hs6 (fun e he => by simp [he])) hv6 h6 (by simp))]
 refine ok_cond (fun cc => ?_) (fun cc => ?_)
 ·simp only [Bool.not_eq_true'] at cc
  exact zer b1 S6 (L6 ++ [C b31 (srowS (decS s)), C b5 ((decS s).l.map (AV.int .u64))]) (by simp only [goodS, cc, Bool.and_false]) (by simpa using h6)
 ·simp only [Bool.not_eq_false'] at cc
  have hg : goodS s = true := by simp only [goodS, h384, he, cc, decide_true, Bool.and_self]
  rw [show getS s = decS s by simp [getS, hg], show getSe s = 0 by simp [getSe, hg]]
  refine ok_ldn h6 (by simp [srowS]) (d := srowS (decS s)) (by simp [srowS, Su.l]) (ok_gO (ok_ifO rfl (ok_stn h6 (by simp [srowS]) (d := srowS (decS s)) (by simp [splice, srowS, Su.l]) (fun S7 h7 => ok_gO (ok_ldn h7 (by simp [srowS]) (d := srowS (decS s)) (by simp [srowS, Su.l]) (ok_ret ⟨rfl, ?_⟩))))))
  exact h7.right.sub ((((List.Sublist.refl F).cons _).cons _).cons _)
end
end Go.Jn
namespace Go.Jn
open Go.Gr
structure Pr where
 b : Int
 a : OP
 c : Cap
 d : List UInt8
def Pr.pt (p : Pr) : Pt := ⟨p.b, p.d⟩
def pts (l : List Pr) : List Pt := l.map Pr.pt
@[simp] theorem pts_len (l : List Pr) : (pts l).length = l.length := by simp [pts]
def prow (p : Pr) : List AV := [.int .i64 p.b, .sl p.a p.d.length p.c]
def prows (l : List Pr) : List (List AV) := l.map prow
@[simp] theorem prows_len (l : List Pr) : (prows l).length = l.length := by simp [prows]
theorem prows_all (l : List Pr) : ∀ x ∈ prows l, x.length = 2 := fun x hx => by
 obtain ⟨s, _, rfl⟩ := List.mem_map.1 hx; rfl
theorem prows_at {l : List Pr} {i : Nat} {s : Pr} (h : l[i]? = some s) : (prows l)[i]? = some (prow s) := by
 rw [prows, List.getElem?_map, h]; rfl
theorem pts_at {l : List Pr} {i : Nat} {s : Pr} (h : l[i]? = some s) : (pts l)[i]? = some s.pt := by
 rw [pts, List.getElem?_map, h]; rfl
theorem prows_append (l m : List Pr) : prows (l ++ m) = prows l ++ prows m := by simp [prows]
theorem pts_append (l m : List Pr) : pts (l ++ m) = pts l ++ pts m := by simp [pts]
def PsV (X : Cx) (L : List Ent) (ps : List Pr) : Prop := ∀ p ∈ ps, Vw X L p.a p.d.length p.c p.d
theorem PsV.mono {X : Cx} {L M : List Ent} {ps : List Pr} (h : PsV X L ps) (k : ∀ e ∈ L, e ∈ M) : PsV X M ps := fun p hp => (h p hp).mono k
theorem rd_ldL {X : Cx} {S : AS} {L : List Ent} {p : Pos} {cs : List AV} (h : RdR X L (some p) cs) (hp : Hp X S L) {i : Nat} {a : OP} {l : Nat} {c : Cap} (hi : cs[i]? = some (.sl a l c)) {K : OP → Nat → Cap → RV} : Go.Gr.ldL S p.1 (p.2 + i) K = K a l c := by
 have hlt : i < cs.length := (List.getElem?_eq_some_iff.1 hi).1
 cases h with
 | rw hm hl hc =>
   rename_i b0 i0 c0
   have e : c0[i0 + i]? = some (.sl a l c) := by rw [← hi, ← hc, List.getElem?_take_of_lt (by omega), List.getElem?_drop]
   simp only [Go.Gr.ldL, AS.ld_eq, AS.blk, hp.got _ _ hm, e, gL]
 | ro hm hl hc =>
   rename_i b0 i0 c0
   have e : c0[i0 + i]? = some (.sl a l c) := by rw [← hi, ← hc, List.getElem?_take_of_lt (by omega), List.getElem?_drop]
   simp only [Go.Gr.ldL, AS.ld_eq, AS.blk, hp.ro, hm, e, gL]
section
variable {X : Cx} {S : AS} {L F : List Ent} {b : Nat} {Q : AV → AS → Prop}
theorem pf_I {ps : List Pr} {i : Nat} {y : Pr} {p : Pos} {K : Int → RV} (h : RdR X L (some p) (prows ps).flatten) (hp : Hp X S L) (hi : ps[i]? = some y) : ldI .i64 S p.1 (p.2 + i * 2) K = K y.b := by
 have := h.ldI hp (i := i * 2 + 0) (k := .i64) (v := y.b) (by rw [flat_get (prows_all ps) (prows_at hi) (by decide)]; rfl) (K := K)
 exact this
theorem pf_L {ps : List Pr} {i : Nat} {y : Pr} {p : Pos} {K : OP → Nat → Cap → RV} (h : RdR X L (some p) (prows ps).flatten) (hp : Hp X S L) (hi : ps[i]? = some y) : ldL S p.1 (p.2 + i * 2 + 1) K = K y.a y.d.length y.c := by
 rw [Nat.add_assoc]
 exact rd_ldL h hp (by rw [flat_get (prows_all ps) (prows_at hi) (by decide)]; rfl)
theorem ps_some {a : OP} {ps : List Pr} {i : Nat} (h : RdR X L a (prows ps).flatten) (hi : i < ps.length) : ∃ p, a = some p :=
 h.some_of (by intro he; have := congrArg List.length he; rw [flat_len (prows_all ps), prows_len] at this; simp at this; omega)
theorem okP_iff (p : Pt) : okP p = true ↔ 0 ≤ p.b ∧ p.b < 2147483648 ∧ p.d.length = 384 := by simp [okP, and_assoc]
theorem okP_false {p : Pr} (h : ¬ (0 ≤ p.b ∧ p.b < 2147483648 ∧ p.d.length = 384)) : okP p.pt = false := by
 cases hk : okP p.pt with
 | false => rfl
 | true => exact absurd ((okP_iff _).1 hk) h
theorem okT_false {l : List Pt} {i : Nat} {p : Pt} (h : l[i]? = some p) (hp : okP p = false) : okT l = false := by
 have : l.all okP = false := by
  rw [List.all_eq_false]
  exact ⟨p, List.mem_of_getElem? h, by simp [hp]⟩
 simp [okT, this]
theorem encPs_take {l : List Pt} {i : Nat} {x : Pt} (h : l[i]? = some x) : encPs (l.take (i + 1)) = encPs (l.take i) ++ (be 4 x.b.toNat ++ x.d) := by
 rw [List.take_add_one, h, encPs_append]
 simp [encPs]
theorem t_loop (n0 n : Nat) (hn : 100 < n) {ps : List Pr} {pa w2a : OP} {pc w2c : Cap} {w2l : Nat} {w3 : Int} (hps : ps.length ≤ 64) (h1ps : 1 ≤ ps.length) (hr : RdR X F pa (prows ps).flatten) (hv : PsV X F ps) :
 ∀ (m i : Nat) (a : OP) (l : Nat) (c : Cap) (L : List Ent) (S : AS), i ≤ ps.length → ps.length - i < m → (∀ p ∈ (pts ps).take i, okP p = true) → SlG a l c 1 (bxs (be 4 ps.length ++ encPs ((pts ps).take i))) L → Hp X S (L ++ F) →
   Ok (J33_lZAW (evF E orcL (n + 2)) n0 m w2a w2l w2c w3 a l c pa ps.length pc ps.length i S) (BQ X F (putT (pts ps)) (putTe (pts ps)))
 | 0, i, a, l, c, L, S, hi, hm, hg, hs, h => by omega
 | m + 1, i, a, l, c, L, S, hi, hm, hg, hs, h => by
   have hl : l = (be 4 ps.length ++ encPs ((pts ps).take i)).length := by have := hs.len; rwa [bxs_len] at this
   have hsz : (be 4 ps.length ++ encPs ((pts ps).take i)).length = 4 + 388 * i := by
    rw [List.length_append, be_len, encPs_len hg, List.length_take, pts_len]; omega
   rw [J33_lZAW_succ]
   simp only [b33_lZAW]
   refine ok_cond (fun hc => ?_) (fun hc => ?_)
   ·simp only [decide_eq_true_eq] at hc
    have hlt : i < ps.length := by omega
    have hr' : RdR X (L ++ F) pa (prows ps).flatten := hr.mono (fun e he => by simp [he])
    obtain ⟨q, hq⟩ := ps_some hr' hlt
    obtain ⟨x, hx⟩ : ∃ x, ps[i]? = some x := ⟨_, List.getElem?_eq_getElem hlt⟩
    have hr2 : RdR X (L ++ F) (some q) (prows ps).flatten := by rw [← hq]; exact hr'
    rw [show ixSl 2 pa ps.length (i : Int) = ixSl 2 (some q) ps.length (i : Int) by rw [hq]]
    rw [ixSl_at rfl hlt, hr2.elem h (prows_all ps) (prows_at hx)]
    refine ok_newA h (fun b5 S1 h1 => ok_ifO rfl (ok_stn h1 (by simp [prow]) (d := prow x) (by simp [splice, prow]) (fun S2 h2 => ?_)))
    have bad : okP x.pt = false → Ok (some (AV.tup [.sl none 0 (.ex 0), .int .i64 82], S2)) (BQ X F (putT (pts ps)) (putTe (pts ps))) := fun hp => by
     have he := okT_false (pts_at hx) hp
     rw [show putT (pts ps) = [] by simp [putT, he], show putTe (pts ps) = 82 by simp [putTe, he]]
     exact ok_ret ⟨none, .ex 0, [], rfl, .nil, h2.drop1.right⟩
    refine ok_ldI h2 rfl (ok_cond (fun c1 => bad ?_) (fun c1 => ok_ldI h2 rfl (ok_cond (fun c2 => bad ?_) (fun c2 => ok_ldL h2 rfl (ok_cond (fun c3 => bad ?_) (fun c3 => ok_ldI h2 rfl ?_))))))
    ·simp only [decide_eq_true_eq] at c1; exact okP_false (by omega)
    ·simp only [ge_iff_le, decide_eq_true_eq] at c2; exact okP_false (by omega)
    ·simp only [bne_iff_ne, ne_eq] at c3; exact okP_false (by omega)
    simp only [ge_iff_le, decide_eq_false_iff_not, bne_eq_false_iff_eq] at c1 c2 c3
    have hok : okP x.pt = true := (okP_iff _).2 (by show 0 ≤ x.b ∧ x.b < _ ∧ x.d.length = _; omega)
    rw [wu64 (by omega) (by omega)]
    have p4 : (256 : Nat) ^ 4 = 4294967296 := by decide
    have h2' : Hp X S2 (L ++ (C b5 (prow x) :: F)) := h2.re (by intro p; simp only [List.countP_append, List.countP_cons, C]; omega)
    obtain ⟨v, S3, e3, a3, c3', L3, rfl, hs3, h3⟩ : Ok (evF E orcL (n + 2) (.fn 56) [.sl a l c, .int .u64 x.b, .int .i64 4] S2) _ := put_ok n hn h2' hs (by omega) (x := x.b.toNat) (by omega) (k := 4) (by decide) (by decide) (by omega) rfl
    rw [callL_of e3]
    refine ok_ldL h3 rfl (ok_ldL h2 rfl (ok_true (by simp [AV.beq]) ?_))
    have hvx : Vw X (C b5 (prow x) :: F) x.a x.d.length x.c x.d := (hv x (List.mem_of_getElem? hx)).mono (fun e he => by simp [he])
    refine ok_bytes h3 hs3 hvx (by rw [List.length_append, hsz, be_len]; omega) (fun a4 c4 L4 S4 hs4 h4 => ?_)
    rw [wn (x := (i : Int) + 1) (n := i + 1) (by omega) (by omega)]
    have he : be 4 ps.length ++ encPs ((pts ps).take i) ++ be 4 x.b.toNat ++ x.d = be 4 ps.length ++ encPs ((pts ps).take (i + 1)) := by
     rw [encPs_take (pts_at hx)]; simp [Pr.pt]
    rw [he] at hs4 ⊢
    refine t_loop n0 n hn hps h1ps hr hv m (i + 1) a4 _ c4 L4 S4 (by omega) (by omega) (fun p hp => ?_) hs4 (h4.re (M := C b5 (prow x) :: (L4 ++ F)) (by intro p; simp only [List.countP_append, List.countP_cons, C]; omega)).drop1
    rw [List.take_add_one, pts_at hx] at hp
    rcases List.mem_append.1 hp with hp | hp
    ·exact hg p hp
    ·simp at hp; subst hp; exact hok
   ·simp only [decide_eq_false_iff_not] at hc
    have : i = ps.length := by omega
    subst this
    simp only [J33_jZAJ, b33_jZAJ]
    have ht : (pts ps).take ps.length = pts ps := List.take_of_length_le (by simp)
    rw [ht] at hg hs hl
    have he : okT (pts ps) = true := by
     simp only [okT, Bool.and_eq_true, decide_eq_true_eq, List.all_eq_true, pts_len]
     exact ⟨⟨h1ps, hps⟩, hg⟩
    rw [show putT (pts ps) = encT (pts ps) by simp [putT, he], show putTe (pts ps) = 0 by simp [putTe, he]]
    subst hl
    refine ok_ret ⟨a, c, L, ?_, ?_, h⟩
    ·simp [encT]
    ·simpa [encT] using hs
theorem putT_ok (n : Nat) (hn : 100 < n) {ps : List Pr} {a : OP} {c : Cap} (h : Hp X S F) (hr : RdR X F a (prows ps).flatten) (hv : PsV X F ps) :
 Ok (ev (n + 3) (.fn 33) [.sl a ps.length c] S) (BQ X F (putT (pts ps)) (putTe (pts ps))) := by
 rw [ev, F33 _ _ _ _ _ (oL rfl)]
 simp only [J33, b33_entry]
 have bad : okT (pts ps) = false → Ok (some (AV.tup [.sl none 0 (.ex 0), .int .i64 82], S)) (BQ X F (putT (pts ps)) (putTe (pts ps))) := fun he => by
  rw [show putT (pts ps) = [] by simp [putT, he], show putTe (pts ps) = 82 by simp [putTe, he]]
  exact ok_ret ⟨none, .ex 0, [], rfl, .nil, h⟩
 refine ok_cond (fun c1 => bad ?_) (fun c1 => ok_cond (fun c2 => bad ?_) (fun c2 => ?_))
 ·simp only [beq_iff_eq] at c1; simp [okT]; omega
 ·simp only [gt_iff_lt, decide_eq_true_eq] at c2; simp [okT]; omega
 simp only [beq_eq_false_iff_ne, ne_eq, gt_iff_lt, decide_eq_false_iff_not] at c1 c2
 rw [wu64 (by omega) (by omega)]
 have p4 : (256 : Nat) ^ 4 = 4294967296 := by decide
 have h' : Hp X S ([] ++ F) := h
 obtain ⟨v, S3, e3, a3, c3, L3, rfl, hs3, h3⟩ : Ok (evF E orcL (n + 2) (.fn 56) [.sl none 0 (.ex 0), .int .u64 (ps.length : Nat), .int .i64 4] S) _ := put_ok n hn h' (s := []) (by exact (SlG.nil : SlG none 0 (.ex 0) 1 [] [])) (by simp) (x := ps.length) rfl (k := 4) (by decide) (by decide) (by omega) rfl
 rw [callL_of e3]
 exact t_loop (n + 2) n hn (by omega) (by omega) hr hv (n + 2) 0 a3 _ c3 L3 S3 (by omega) (by omega) (by simp) (by simpa [encPs] using hs3) h3
abbrev TQ (X : Cx) (F : List Ent) (l : List Pt) (e : Int) : AV → AS → Prop := fun v S' => ∃ (qs : List Pr) (a : OP) (c : Cap) (Lr Ld : List Ent), v = .tup [.sl a qs.length c, .int .i64 e] ∧ pts qs = l ∧ SlG a qs.length c 2 (prows qs) Lr ∧ PsV X Ld qs ∧ Hp X S' (Lr ++ (Ld ++ F))
theorem row_push {qs : List Pr} {x : Pr} {a : OP} {l : Nat} {c : Cap} {Lr : List Ent} {b5 : Nat} {K : OP → Nat → Cap → AS → RV} (hq : qs.length ≤ 100000) (hs : SlG a l c 2 (prows qs) Lr) (h : Hp X S (Lr ++ (C b5 (prow x) :: F)))
 (ht : ∀ a' c' L' S', SlG a' (qs ++ [x]).length c' 2 (prows (qs ++ [x])) L' → Hp X S' (L' ++ F) → Ok (K a' (qs ++ [x]).length c' S') Q) : Ok (appendA 2 32 S a l c 1 (firstA S 2 1 (.sl (some (.rw b5, 0)) 1 (.ex 1))) K) Q := by
 refine ok_appendG h hs (ys := prows [x]) (prows_all _) rfl (fun K => ?_) (by decide) (by simp [pow46]; omega) (by simp [pow46]; omega) (fun a3 l3 c3 S3 L3 ht' h3 => ?_)
 ·have := RdR.first (.rw (X := X) (b := b5) (i := 0) (c := prow x) (cs := prow x) (L := _) (List.mem_append_right Lr List.mem_cons_self) (by simp) rfl) h (sz := 2) (n := 1) rfl (by decide) (l := 1) (c := .ex 1) K
  simpa [prows] using this
 ·rw [← prows_append] at ht'
  obtain rfl : l3 = (qs ++ [x]).length := by have := ht'.len; rw [prows_len] at this; exact this
  exact ht _ _ _ _ ht' (h3.re (M := C b5 (prow x) :: (L3 ++ F)) (by intro p; simp only [List.countP_append, List.countP_cons, C]; omega)).drop1
theorem gt_loop {P0 : List Pt} (n0 n : Nat) (hn : 70000 < n)
 (fin : ∀ (qs : List Pr) (a : OP) (c : Cap) (Lr Ld : List Ent) (S' : AS), pts qs = P0 → SlG a qs.length c 2 (prows qs) Lr → PsV X Ld qs → Hp X S' (Lr ++ (Ld ++ F)) → Ok (J71_jZAL (evF E orcL (n + 1)) n0 a qs.length c S') Q) :
 ∀ (m k : Nat) (qs : List Pr) (q : List UInt8) (qa : OP) (ql : Nat) (qc : Cap) (a : OP) (c : Cap) (Lr Ld : List Ent) (S : AS), k < m → q.length = 388 * k → qs.length + k ≤ 64 → pts qs ++ cks k q = P0 → Vw X F qa ql qc q → SlG a qs.length c 2 (prows qs) Lr → PsV X Ld qs → Hp X S (Lr ++ (Ld ++ F)) →
   Ok (J71_lZAa (evF E orcL (n + 1)) n0 m a qs.length c qa ql qc S) Q
 | 0, k, qs, q, qa, ql, qc, a, c, Lr, Ld, S, hm, hq, hl, hP, hv, hs, hd, h => by omega
 | m + 1, k, qs, q, qa, ql, qc, a, c, Lr, Ld, S, hm, hq, hl, hP, hv, hs, hd, h => by
   have hql := hv.ln
   rw [J71_lZAa_succ]
   simp only [b71_lZAa]
   refine ok_cond (fun hc => ?_) (fun hc => ?_)
   ·simp only [gt_iff_lt, decide_eq_true_eq] at hc
    obtain ⟨k, rfl⟩ : ∃ k', k = k' + 1 := ⟨k - 1, by omega⟩
    refine ok_drawA h [9] (by simp) (by simp) (fun b5 S1 h1 => ?_)
    have h1' : Hp X S1 ((b5 + 9, none) :: (Lr ++ (Ld ++ F))) := h1
    have sub : ∀ e ∈ F, e ∈ (b5 + 9, none) :: (Lr ++ (Ld ++ F)) := fun e he => by simp [he]
    refine ok_sl0 (hv.mono sub) (hi := 4) (by omega) rfl (fun a1 c1 w1 => ?_)
    rw [callI_of (show evF E orcL (n + 1) (.fn 77) [.sl a1 4 c1] S1 = _ from get_eq n (by omega) w1 h1' (by simp; omega))]
    refine ok_sl (hv.mono sub) (lo := 4) (hi := 388) (by decide) (by omega) rfl rfl (fun a2 c2 w2 => ?_)
    rw [show (388 : Nat) - 4 = 384 from rfl] at w2 ⊢
    obtain ⟨v, S3, e3, a3, c3, L3, rfl, hs3, h3⟩ : Ok (evF E orcL (n + 1) (.fn 79) [.sl a2 384 c2] S1) _ := clone_ok n h1' w2 (by simp [win8]; omega)
    rw [callL_of e3]
    have hvl : vl (q.take 4) < 4294967296 := by
     refine Nat.lt_of_lt_of_le (vl_lt _) (Nat.le_trans (Nat.pow_le_pow_right (by decide) (?_ : _ ≤ 4)) (by decide))
     simp; omega
    rw [wn (x := ((vl (q.take 4) : Nat) : Int)) rfl (by omega)]
    refine ok_layA (b := b5 + 9) h3 (fun S4 h4 => ?_)
    have h4' : Hp X S4 (Lr ++ (C (b5 + 9) (prow ⟨((vl (q.take 4) : Nat) : Int), a3, c3, win8 q 4 384⟩) :: ((L3 ++ Ld) ++ F))) := h4.re (by intro p; simp only [List.countP_append, List.countP_cons, C, prow]; omega)
    refine row_push (by omega) hs h4' (fun a5 c5 L5 S5 hs5 h5 => ?_)
    refine ok_slT hv (lo := 388) (by omega) rfl (fun a6 c6 w6 => ?_)
    refine gt_loop n0 n hn fin m k _ (q.drop 388) a6 _ c6 a5 c5 L5 (L3 ++ Ld) S5 (by omega) (by simp; omega) (by simp; omega) ?_ w6 hs5 (fun p hp => ?_) h5
    ·rw [← hP, pts_append, List.append_assoc]; rfl
    ·rcases List.mem_append.1 hp with hp | hp
     ·exact (hd p hp).mono (fun e he => by simp [he])
     ·simp only [List.mem_singleton] at hp
      subst hp
      exact slG_vw hs3 (fun e he => by simp [he])
   ·simp only [gt_iff_lt, decide_eq_false_iff_not] at hc
    have : k = 0 := by omega
    subst this
    rw [cks, List.append_nil] at hP
    exact fin qs a c Lr Ld S hP hs hd h
theorem getT_ok (n : Nat) (hn : 70000 < n) {s : List UInt8} {a : OP} {l : Nat} {c : Cap} (h : Hp X S F) (hv : Vw X F a l c s) (hsl : s.length ≤ 1048576) :
 Ok (ev (n + 4) (.fn 71) [.sl a l c] S) (TQ X F (getT s) (getTe s)) := by
 have hln := hv.ln
 rw [ev, F71 _ _ _ _ _ (oL rfl)]
 simp only [J71, b71_entry]
 have bad : ∀ (S' : AS) (M : List Ent), goodT s = false → Hp X S' (M ++ F) → Ok (some (AV.tup [.sl none 0 (.ex 0), .int .i64 82], S')) (TQ X F (getT s) (getTe s)) := fun S' M he hh => by
  rw [show getT s = [] by simp [getT, he], show getTe s = 82 by simp [getTe, he]]
  exact ok_ret ⟨[], none, .ex 0, [], [], rfl, rfl, .nil, (fun p hp => by cases hp), hh.right⟩
 refine ok_cond (fun c1 => bad S [] ?_ h) (fun c1 => ?_)
 ·simp only [decide_eq_true_eq] at c1; simp [goodT, szT]; omega
 simp only [decide_eq_false_iff_not] at c1
 refine ok_sl0 hv (hi := 4) (by omega) rfl (fun a1 c1' w1 => ?_)
 rw [callI_of (show evF E orcL (n + 3) (.fn 77) [.sl a1 4 c1'] S = _ from get_eq (n + 2) (by omega) w1 h (by simp; omega))]
 have hct : vl (s.take 4) = cntT s := rfl
 rw [hct]
 have hvl : cntT s < 4294967296 := by
  refine Nat.lt_of_lt_of_le (vl_lt _) (Nat.le_trans (Nat.pow_le_pow_right (by decide) (?_ : _ ≤ 4)) (by decide))
  simp; omega
 refine ok_cond (fun c2 => bad S [] ?_ h) (fun c2 => ?_)
 ·simp only [gt_iff_lt, decide_eq_true_eq] at c2; simp [goodT, szT]; omega
 simp only [gt_iff_lt, decide_eq_false_iff_not] at c2
 rw [wz (x := ((l : Nat) : Int) - 4) (z := ((l - 4 : Nat) : Int)) (by omega) (by omega) (by omega), wu64 (n := ((l - 4 : Nat) : Int)) (by omega) (by omega), wu64 (n := ((cntT s : Nat) : Int) * 388) (by omega) (by omega)]
 refine ok_cond (fun c3 => bad S [] ?_ h) (fun c3 => ?_)
 ·simp only [bne_iff_ne, ne_eq] at c3; simp [goodT, szT]; omega
 simp only [bne_eq_false_iff_eq] at c3
 have hsz : szT s = true := by simp [szT]; omega
 refine ok_slT hv (lo := 4) (by omega) rfl (fun a2 c2' w2 => ?_)
 refine gt_loop (P0 := listT s) (n + 3) (n + 2) (by omega) (fun qs a3 c3' Lr Ld S3 hP hs hd h3 => ?_) (n + 3) (cntT s) [] (s.drop 4) a2 _ c2' none (.ex 0) [] [] S (by omega) (by simp; omega) (by simp; omega) rfl w2 (by exact (SlG.nil : SlG none 0 (.ex 0) 2 [] [])) (fun p hp => by cases hp) h
 simp only [J71_jZAL, b71_jZAL]
 obtain ⟨v, S4, e4, a4, c4, L4, rfl, hs4, h4⟩ : Ok (evF E orcL (n + 3) (.fn 33) [.sl a3 qs.length c3'] S3) _ := putT_ok n (by omega) h3 (hs.rd (fun e he => by simp [he])) (hd.mono (fun e he => by simp [he]))
 rw [callT_of e4]
 rw [hP] at hs4 ⊢
 refine ok_atL rfl (ok_atI rfl (ok_cond (fun cc => ?_) (fun cc => ?_)))
 ·have he : okT (listT s) = false := by
   cases hk : okT (listT s) with
   | false => rfl
   | true => rw [putTe, if_pos hk] at cc; exact absurd cc (by decide)
  rw [show putTe (listT s) = 82 by simp [putTe, he]]
  exact bad S4 (L4 ++ (Lr ++ Ld)) (by simp [goodT, he]) (by simpa using h4)
 have he : okT (listT s) = true := by
  cases hk : okT (listT s) with
  | true => rfl
  | false => rw [putTe, if_neg (by simp [hk])] at cc; exact absurd cc (by decide)
 have hg : goodT s = true := by simp [goodT, hsz, he]
 rw [show getT s = listT s by simp [getT, hg], show getTe s = 0 by simp [getTe, hg]]
 exact ok_ret ⟨qs, a3, c3', Lr, Ld, rfl, hP, hs, hd, h4.right⟩
end
end Go.Jn
