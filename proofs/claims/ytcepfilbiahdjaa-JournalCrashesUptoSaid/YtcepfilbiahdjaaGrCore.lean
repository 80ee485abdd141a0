/- The abstract evaluator: a deterministic reading of the model's code over a heap of numbered blocks, in which capacities, orders and addresses are no choice any more. Definitions alone. -/
import Derived.Orders
import Derived.RangeFuncLeaves
import Derived.RangeFuncIn
import Derived.Laws.Sem
import Derived.Laws.World
set_option linter.unusedVariables false
set_option linter.unusedSimpArgs false
namespace Go.Gr
inductive Bid where
 | rw (n : Nat)
 | ro (n : Nat)
 deriving DecidableEq
abbrev Pos := Bid × Nat
inductive Cap where
 | ex (n : Nat)
 | op (esz lo : Nat)
 deriving DecidableEq
inductive AV where
 | undef
 | int (k : IntKind) (n : Int)
 | bool (b : Bool)
 | str (s : List UInt8)
 | ptr (a : Option Pos)
 | sl (a : Option Pos) (len : Nat) (cap : Cap)
 | mp (r : Option Nat)
 | fn (f : FuncId) (first caps : List AV)
 | nilFn
 | yld (k : Nat)
 | iface (t : TypeId) (v : AV)
 | mth (t : TypeId) (name : String)
 | nilIface
 | agg (l : List AV)
 | tup (l : List AV)
instance : Inhabited AV := ⟨.undef⟩
mutual
def AV.beq : AV → AV → Bool
 | .int k n, .int k' n' => decide (k = k') && (n == n')
 | .bool a, .bool b => a == b
 | .str s, .str t => s == t
 | .ptr none, .ptr none => true
 | .ptr (some a), .ptr (some b) => decide (a = b)
 | .sl a l c, .sl a' l' c' => decide (a = a') && decide (l = l') && decide (c = c')
 | .mp a, .mp b => decide (a = b)
 | .nilFn, .nilFn => true
 | .yld a, .yld b => decide (a = b)
 | .nilIface, .nilIface => true
 | .iface t v, .iface t' v' => Nat.beq t t' && AV.beq v v'
 | .fn f a b, .fn f' a' b' => Nat.beq f f' && (AV.beqs a a' && AV.beqs b b')
 | .agg l, .agg m => AV.beqs l m
 | .tup l, .tup m => AV.beqs l m
 | _, _ => false
def AV.beqs : List AV → List AV → Bool
 | [], [] => true
 | x :: xs, y :: ys => AV.beq x y && AV.beqs xs ys
 | _, _ => false
end
inductive TK where
 | int (k : IntKind)
 | bool
 | str
 | ptr (e : TypeId)
 | sl (e : TypeId)
 | arr (n : Nat) (e : TypeId)
 | st (fs : List (TypeId × Nat))
 | mp (k e : TypeId)
 | fn
 | iface
 | tup
 | other
 deriving DecidableEq
inductive AObj where
 | cells (c : List AV)
 | map (kk : TK) (es : List (AV × AV))
def unb : Nat → Nat → List AV
 | 0, _ => []
 | n + 1, N => .int .u8 ((N % 256 : Nat) : Int) :: unb n (N / 256)
def gByte (v : AV) : Option Nat := match v with
 | .int k n => (match k with
   | .u8 => (match n with
     | .ofNat m => cond (Nat.blt m 256) (some m) none
     | .negSucc _ => none)
   | _ => none)
 | _ => none
def pkb : List AV → Option Nat
 | [] => some 0
 | v :: l => match gByte v with
   | some m => (match pkb l with
     | some N => some (m + 256 * N)
     | none => none)
   | none => none
inductive PObj where
 | cells (c : List AV)
 | byt (n N : Nat)
 | map (kk : TK) (es : List (AV × AV))
def PObj.view : PObj → AObj
 | .cells c => .cells c
 | .byt n N => .cells (unb n N)
 | .map kk es => .map kk es
def packB (b : Bool) (c : List AV) (o : Option Nat) : PObj := match b with
 | true => (match o with
   | some N => .byt c.length N
   | none => .cells c)
 | false => .cells c
def packO : AObj → PObj
 | .cells c => packB (Nat.ble 4 c.length) c (pkb c)
 | .map kk es => .map kk es
inductive Tr where
 | nil
 | node (v : Option PObj) (l r : Tr)
def Tr.getP : Tr → Nat → Option PObj
 | .nil, _ => none
 | .node v l r, n => match n with
   | 0 => v
   | m + 1 => cond (Nat.beq (m % 2) 0) (l.getP (m / 2)) (r.getP (m / 2))
def Tr.setF : Nat → Tr → Nat → Option PObj → Tr
 | 0, t, _, _ => t
 | f + 1, t, n, v =>
   match t with
   | .nil => (match n with
     | 0 => .node v .nil .nil
     | m + 1 => cond (Nat.beq (m % 2) 0) (.node none (Tr.setF f .nil (m / 2) v) .nil) (.node none .nil (Tr.setF f .nil (m / 2) v)))
   | .node x l r => (match n with
     | 0 => .node v l r
     | m + 1 => cond (Nat.beq (m % 2) 0) (.node x (Tr.setF f l (m / 2) v) r) (.node x l (Tr.setF f r (m / 2) v)))
def Tr.setP (t : Tr) (n : Nat) (v : Option PObj) : Tr := Tr.setF (n + 1) t n v
def vwO (o : Option PObj) : Option AObj := match o with
 | some p => some p.view
 | none => none
def pkO (o : Option AObj) : Option PObj := match o with
 | some p => some (packO p)
 | none => none
def Tr.get (t : Tr) (n : Nat) : Option AObj := vwO (t.getP n)
def Tr.set (t : Tr) (n : Nat) (v : Option AObj) : Tr := t.setP n (pkO v)
inductive LSt where
 | ready | busy | done
abbrev Tm := List (Nat × AV)
structure ALoop where
 id : Nat
 fn : FuncId
 T : Tm
 params : List Nat
 assign : Code
 body : Code
 st : LSt
 pend : Option Exit
structure AS where
 rw : Tr
 ro : Nat → Option (List AV)
 next : Nat
 loops : List ALoop
def AS.blk (S : AS) : Bid → Option (List AV)
 | .rw n => match S.rw.get n with
   | some (.cells c) => some c
   | _ => none
 | .ro n => S.ro n
def splice (c : List AV) (i : Nat) (vs : List AV) : List AV := c.take i ++ (vs ++ c.drop (i + vs.length))
def forceL {β : Type} : List AV → (List AV → Option β) → Option β
 | [], K => K []
 | x :: l, K => forceL l fun ys => K (x :: ys)
theorem forceL_eq {β : Type} : ∀ (l : List AV) (K : List AV → Option β), forceL l K = K l
 | [], _ => rfl
 | x :: l, K => forceL_eq l fun ys => K (x :: ys)
section cps
variable {β : Type}
def nthA : List AV → Nat → Option AV
 | [], _ => none
 | x :: l, n => match n with
   | 0 => some x
   | m + 1 => nthA l m
theorem nthA_eq : ∀ (l : List AV) (i : Nat), nthA l i = l[i]?
 | [], i => by cases i <;> rfl
 | x :: l, 0 => rfl
 | x :: l, i + 1 => by
   show nthA l i = _
   rw [nthA_eq l i]; rfl
def setA (v : AV) : List AV → Nat → (List AV → Option β) → Option β
 | [], _, _ => none
 | x :: l, n, K => match n with
   | 0 => K (v :: l)
   | m + 1 => setA v l m fun ys => K (x :: ys)
theorem setA_eq (v : AV) : ∀ (l : List AV) (i : Nat) (K : List AV → Option β), setA v l i K = if i + 1 ≤ l.length then K (splice l i [v]) else none
 | [], i, K => by cases i <;> rfl
 | x :: l, 0, K => by
   show K (v :: l) = _
   simp [splice]
 | x :: l, i + 1, K => by
   show setA v l i (fun ys => K (x :: ys)) = _
   rw [setA_eq v l i]
   simp [splice]
def putN (N i k V : Nat) : Nat := N % 256 ^ i + 256 ^ i * (V + 256 ^ k * (N / 256 ^ (i + k)))
def AS.ld (S : AS) (b : Bid) (i : Nat) : Option AV :=
 match b with
 | .rw n => (match S.rw.getP n with
   | some (.cells c) => nthA c i
   | some (.byt l N) => cond (Nat.blt i l) (some (.int .u8 ((N / 256 ^ i % 256 : Nat) : Int))) none
   | _ => none)
 | .ro n => (match S.ro n with
   | some c => nthA c i
   | none => none)
def AS.ldn (S : AS) (b : Bid) (i n : Nat) (K : List AV → Option β) : Option β :=
 match b with
 | .rw m => (match S.rw.getP m with
   | some (.cells c) => if i + n ≤ c.length then K ((c.drop i).take n) else none
   | some (.byt l N) => if i + n ≤ l then K (unb n (N / 256 ^ i)) else none
   | _ => none)
 | .ro m => (match S.ro m with
   | some c => if i + n ≤ c.length then K ((c.drop i).take n) else none
   | none => none)
def stC (S : AS) (n : Nat) (c : List AV) (i : Nat) (vs : List AV) (K : AS → Option β) : Option β :=
 match vs with
 | [v] => setA v c i fun d => K { S with rw := S.rw.set n (some (.cells d)) }
 | vs => if i + vs.length ≤ c.length then forceL (splice c i vs) (fun d => K { S with rw := S.rw.set n (some (.cells d)) }) else none
def AS.stn (S : AS) (b : Bid) (i : Nat) (vs : List AV) (K : AS → Option β) : Option β :=
 match b with
 | .rw n => match S.rw.getP n with
   | some (.cells c) => stC S n c i vs K
   | some (.byt l N) => (match pkb vs with
     | some V => cond (Nat.ble 4 l && Nat.blt N (256 ^ l)) (if i + vs.length ≤ l then K { S with rw := S.rw.setP n (some (.byt l (putN N i vs.length V))) } else none) (stC S n (unb l N) i vs K)
     | none => stC S n (unb l N) i vs K)
   | _ => none
 | .ro _ => none
theorem blt_lt {a b : Nat} (h : Nat.blt a b = true) : a < b := Nat.le_of_ble_eq_true h
theorem lt_blt {a b : Nat} (h : a < b) : Nat.blt a b = true := Nat.ble_eq_true_of_le h
theorem gByte_some {v : AV} {m : Nat} (h : gByte v = some m) : v = .int .u8 (m : Nat) ∧ m < 256 := by
 unfold gByte at h
 split at h
 ·split at h
  ·split at h
   ·rename_i k
    cases hb : Nat.blt k 256 with
    | true => rw [hb] at h; simp only [cond_true, Option.some.injEq] at h; subst h; exact ⟨rfl, blt_lt hb⟩
    | false => rw [hb] at h; cases h
   ·cases h
  ·cases h
 ·cases h
theorem gByte_u8 {m : Nat} (h : m < 256) : gByte (.int .u8 (m : Nat)) = some m := by
 show cond (Nat.blt m 256) (some m) none = some m
 rw [show Nat.blt m 256 = true from lt_blt h]; rfl
theorem pkb_unb : ∀ {c : List AV} {N : Nat}, pkb c = some N → unb c.length N = c ∧ N < 256 ^ c.length
 | [], N, h => by simp only [pkb, Option.some.injEq] at h; subst h; exact ⟨rfl, by simp⟩
 | v :: l, N, h => by
   rw [pkb] at h
   cases hv : gByte v with
   | none => rw [hv] at h; cases h
   | some m =>
     rw [hv] at h
     cases hl : pkb l with
     | none => rw [hl] at h; cases h
     | some M =>
       rw [hl] at h
       simp only [Option.some.injEq] at h
       subst h
       obtain ⟨h1, h2⟩ := gByte_some hv
       obtain ⟨h3, h4⟩ := pkb_unb hl
       refine ⟨?_, ?_⟩
       ·rw [List.length_cons, unb, Nat.add_mul_mod_self_left, Nat.mod_eq_of_lt h2, Nat.add_mul_div_left _ _ (by decide), Nat.div_eq_of_lt h2, Nat.zero_add, h3, h1]
       ·rw [List.length_cons, Nat.pow_succ]
        omega
@[simp] theorem unb_len : ∀ (n N : Nat), (unb n N).length = n
 | 0, _ => rfl
 | n + 1, N => by simp [unb, unb_len n]
theorem pkb_of_unb : ∀ (n N : Nat), pkb (unb n N) = some (N % 256 ^ n)
 | 0, N => by simp [unb, pkb, Nat.mod_one]
 | n + 1, N => by
   rw [unb, pkb, gByte_u8 (Nat.mod_lt _ (by decide)), pkb_of_unb n]
   show some _ = some _
   rw [Nat.pow_succ, Nat.mul_comm (256 ^ n) 256, Nat.mod_mul]
theorem pkb_append : ∀ (a b : List AV) {A B : Nat}, pkb a = some A → pkb b = some B → pkb (a ++ b) = some (A + 256 ^ a.length * B)
 | [], b, A, B, h1, h2 => by simp only [pkb, Option.some.injEq] at h1; subst h1; simp [h2]
 | v :: l, b, A, B, h1, h2 => by
   rw [pkb] at h1
   cases hv : gByte v with
   | none => rw [hv] at h1; cases h1
   | some m =>
     rw [hv] at h1
     cases hl : pkb l with
     | none => rw [hl] at h1; cases h1
     | some M =>
       rw [hl] at h1
       simp only [Option.some.injEq] at h1
       subst h1
       rw [List.cons_append, pkb, hv, pkb_append l b hl h2]
       show some _ = some _
       rw [List.length_cons, Nat.pow_succ, Nat.mul_add, Nat.add_assoc, Nat.mul_comm (256 ^ l.length) 256, Nat.mul_assoc]
theorem unb_get : ∀ (l N i : Nat), (unb l N)[i]? = if i < l then some (.int .u8 ((N / 256 ^ i % 256 : Nat) : Int)) else none
 | 0, N, i => by simp [unb]
 | l + 1, N, 0 => by simp [unb]
 | l + 1, N, i + 1 => by
   rw [unb, List.getElem?_cons_succ, unb_get l (N / 256) i, Nat.div_div_eq_div_mul, Nat.pow_succ, Nat.mul_comm 256]
   simp
theorem unb_drop : ∀ (l N i : Nat), (unb l N).drop i = unb (l - i) (N / 256 ^ i)
 | l, N, 0 => by simp
 | 0, N, i + 1 => by simp [unb]
 | l + 1, N, i + 1 => by
   rw [unb, List.drop_succ_cons, unb_drop l (N / 256) i, Nat.div_div_eq_div_mul, Nat.pow_succ, Nat.mul_comm 256, Nat.succ_sub_succ]
theorem unb_take : ∀ (l N n : Nat), (unb l N).take n = unb (min n l) N
 | l, N, 0 => by simp [unb]
 | 0, N, n + 1 => by simp [unb]
 | l + 1, N, n + 1 => by
   rw [unb, List.take_succ_cons, unb_take l (N / 256) n, Nat.succ_min_succ, unb]
theorem view_packB (b : Bool) (c : List AV) : (packB b c (pkb c)).view = .cells c := by
 cases b with
 | false => rfl
 | true =>
   cases h : pkb c with
   | none => rfl
   | some N =>
     show AObj.cells (unb c.length N) = _
     rw [(pkb_unb h).1]
theorem view_pack (o : AObj) : (packO o).view = o := by
 cases o with
 | map kk es => rfl
 | cells c => exact view_packB _ _
theorem vwO_pkO (o : Option AObj) : vwO (pkO o) = o := by cases o <;> simp [vwO, pkO, view_pack]
theorem pack_put {l N i V : Nat} {vs : List AV} (h4 : 4 ≤ l) (hN : N < 256 ^ l) (hv : pkb vs = some V) (hi : i + vs.length ≤ l) : packO (.cells (splice (unb l N) i vs)) = .byt l (putN N i vs.length V) := by
 have hlen : (splice (unb l N) i vs).length = l := by simp [splice]; omega
 have h1 : pkb ((unb l N).take i) = some (N % 256 ^ i) := by rw [unb_take, Nat.min_eq_left (by omega), pkb_of_unb]
 have h2 : pkb ((unb l N).drop (i + vs.length)) = some (N / 256 ^ (i + vs.length)) := by
  rw [unb_drop, pkb_of_unb, Nat.mod_eq_of_lt]
  refine Nat.div_lt_of_lt_mul ?_
  rw [← Nat.pow_add, show i + vs.length + (l - (i + vs.length)) = l by omega]
  exact hN
 have h3 := pkb_append _ _ h1 (pkb_append _ _ hv h2)
 rw [unb_take, unb_len, Nat.min_eq_left (by omega)] at h3
 have h5 : pkb (splice (unb l N) i vs) = some (putN N i vs.length V) := by
  rw [splice, unb_take, Nat.min_eq_left (by omega)]; exact h3
 show packB (Nat.ble 4 (splice (unb l N) i vs).length) _ _ = _
 rw [hlen, show Nat.ble 4 l = true from Nat.ble_eq_true_of_le h4, h5]
 show PObj.byt (splice (unb l N) i vs).length _ = _
 rw [hlen]
theorem AS.ld_eq (S : AS) (b : Bid) (i : Nat) : S.ld b i = match S.blk b with
 | some c => c[i]?
 | none => none := by
 cases b with
 | ro n =>
   simp only [AS.ld, AS.blk]
   cases S.ro n with
   | none => rfl
   | some c => exact nthA_eq c i
 | rw n =>
   simp only [AS.ld, AS.blk, Tr.get]
   cases S.rw.getP n with
   | none => rfl
   | some o =>
     cases o with
     | cells c => exact nthA_eq c i
     | map kk es => rfl
     | byt l N =>
       simp only [vwO, PObj.view, unb_get]
       by_cases h : i < l
       ·rw [if_pos h, show Nat.blt i l = true from lt_blt h]; rfl
       ·rw [if_neg h, show Nat.blt i l = false from Bool.eq_false_iff.2 (fun e => h (blt_lt e))]; rfl
theorem AS.ldn_eq (S : AS) (b : Bid) (i n : Nat) (K : List AV → Option β) : S.ldn b i n K = match S.blk b with
 | some c => if i + n ≤ c.length then K ((c.drop i).take n) else none
 | none => none := by
 cases b with
 | ro n => rfl
 | rw m =>
   simp only [AS.ldn, AS.blk, Tr.get]
   cases S.rw.getP m with
   | none => rfl
   | some o =>
     cases o with
     | cells c => rfl
     | map kk es => rfl
     | byt l N =>
       simp only [vwO, PObj.view, unb_len]
       by_cases h : i + n ≤ l
       ·rw [if_pos h, if_pos h, unb_drop, unb_take, Nat.min_eq_left (by omega)]
       ·rw [if_neg h, if_neg h]
theorem stC_eq (S : AS) (n : Nat) (c : List AV) (i : Nat) (vs : List AV) (K : AS → Option β) : stC S n c i vs K = if i + vs.length ≤ c.length then K { S with rw := S.rw.set n (some (.cells (splice c i vs))) } else none := by
 unfold stC
 split
 ·rw [setA_eq]; rfl
 ·rw [forceL_eq]
theorem AS.stn_eq (S : AS) (b : Bid) (i : Nat) (vs : List AV) (K : AS → Option β) : S.stn b i vs K = match b with
 | .rw n => (match S.rw.get n with
   | some (.cells c) => if i + vs.length ≤ c.length then K { S with rw := S.rw.set n (some (.cells (splice c i vs))) } else none
   | _ => none)
 | .ro _ => none := by
 cases b with
 | ro n => rfl
 | rw n =>
   simp only [AS.stn, Tr.get]
   cases S.rw.getP n with
   | none => rfl
   | some o =>
     cases o with
     | map kk es => rfl
     | cells c => simp only [vwO, PObj.view, stC_eq]
     | byt l N =>
       simp only [vwO, PObj.view]
       cases hv : pkb vs with
       | none => simp only [stC_eq]
       | some V =>
         simp only [stC_eq]
         cases hb : (Nat.ble 4 l && Nat.blt N (256 ^ l)) with
         | false => rfl
         | true =>
           simp only [Bool.and_eq_true] at hb
           simp only [cond_true, unb_len]
           by_cases h : i + vs.length ≤ l
           ·rw [if_pos h, if_pos h]
            simp only [Tr.set, pkO, pack_put (Nat.le_of_ble_eq_true hb.1) (blt_lt hb.2) hv h]
           ·rw [if_neg h, if_neg h]
def AS.new (S : AS) (o : AObj) : AS := { S with rw := S.rw.set S.next (some o), next := S.next + 1 }
def AS.kill (S : AS) (n : Nat) : AS := { S with rw := S.rw.set n none }
def gI (v : AV) (K : IntKind → Int → Option β) : Option β := match v with | .int k n => K k n | _ => none
def gIk (k : IntKind) (v : AV) (K : Int → Option β) : Option β := match v with | .int k' n => (if k' = k then K n else none) | _ => none
def gB (v : AV) (K : Bool → Option β) : Option β := match v with | .bool b => K b | _ => none
def gS (v : AV) (K : List UInt8 → Option β) : Option β := match v with | .str s => K s | _ => none
def gP (v : AV) (K : Option Pos → Option β) : Option β := match v with | .ptr a => K a | _ => none
def gA (v : AV) (K : Pos → Option β) : Option β := match v with | .ptr a => (match a with | some p => K p | none => none) | _ => none
def gL (v : AV) (K : Option Pos → Nat → Cap → Option β) : Option β := match v with | .sl a l c => K a l c | _ => none
def gG (v : AV) (K : List AV → Option β) : Option β := match v with | .agg l => K l | _ => none
def gT (v : AV) (K : List AV → Option β) : Option β := match v with | .tup l => K l | _ => none
def gM (v : AV) (K : Option Nat → Option β) : Option β := match v with | .mp r => K r | _ => none
end cps
structure TI where
 k : TK
 size : Nat
 bytes : Nat
 zero : List AV
 /-- plain: what '==' says of two values is whether their cells are the same -/
 plain : Bool
inductive BT (α : Type) where
 | nil
 | node (k : Nat) (v : α) (l r : BT α)
def BT.find {α : Type} : BT α → Nat → Option α
 | .nil, _ => none
 | .node k v l r, n => cond (Nat.beq n k) (some v) (cond (Nat.ble n k) (l.find n) (r.find n))
structure Env where
 ty : TypeId → Option TI
 func : FuncId → Option Func
 /-- which temporaries are kept at the head of a region, of a loop -/
 cut : FuncId → Nat → Option (List Nat)
 lcut : FuncId → Nat → List Nat
 meth : TypeId → String → Option FuncId
def methF : List (TypeId × String × FuncId) → TypeId → String → Option FuncId
 | [], _, _ => none
 | x :: r, t, n => cond (Nat.beq x.1 t && (x.2.1 == n)) (some x.2.2) (methF r t n)
def look : Tm → Nat → AV
 | [], _ => .undef
 | (i, v) :: r, t => cond (Nat.beq i t) v (look r t)
def put (T : Tm) (d : Option Nat) (v : AV) : Tm := match d with
 | some d => (d, v) :: T
 | none => T
def mask (ids : List Nat) (T : Tm) : Tm := ids.map fun i => (i, look T i)
def cv1 : Value → AV
 | .int k n => .int k n
 | .bool b => .bool b
 | .string s => .str s.data.toList
 | .pointer none => .ptr none
 | .slice none 0 0 => .sl none 0 (.ex 0)
 | .map none => .mp none
 | .nilFunc => .nilFn
 | .nilIface => .nilIface
 | _ => .undef
def cv : Value → AV
 | .agg cs => cond (cs.toList.all Value.oneCell') (.agg (cs.toList.map cv1)) .undef
 | .tuple cs => if cs.size = 0 then .tup [] else .undef
 | v => cv1 v
def evalO (T : Tm) : Operand → AV
 | .tmp t => look T t
 | .const v => cv v
 | .global g => .ptr (some (.ro (2 * g + 1), 0))
 | .func f => .fn f [] []
section ops
variable {β : Type} (E : Env)
def fit (ti : TI) (v : AV) (K : AV → Option β) : Option β :=
 match ti.k with
 | .int k => gIk k v fun n => K (.int k n)
 | .bool => gB v fun b => K (.bool b)
 | .str => gS v fun s => K (.str s)
 | .ptr _ => gP v fun a => K (.ptr a)
 | .sl _ => gL v fun a l c => K (.sl a l c)
 | .arr .. => gG v fun l => (if l.length = ti.size then K (.agg l) else none)
 | .st _ => gG v fun l => (if l.length = ti.size then K (.agg l) else none)
 | .mp .. => gM v fun r => K (.mp r)
 | .tup => gT v fun l => K (.tup l)
 | _ => K v
def fitT (t : TypeId) (v : AV) (K : AV → Option β) : Option β :=
 match E.ty t with
 | some ti => fit ti v K
 | none => none
def isAgg : TK → Bool
 | .arr .. | .st _ => true
 | _ => false
def noTup : TK → Bool
 | .tup => false
 | _ => true
def ldT (S : AS) (t : TypeId) (p : Pos) (K : AV → Option β) : Option β :=
 match E.ty t with
 | none => none
 | some ti =>
   cond (isAgg ti.k) (S.ldn p.1 p.2 ti.size fun l => K (.agg l))
    (match S.ld p.1 p.2 with
     | some v => fit ti v K
     | none => none)
def cellsOf (ti : TI) (v : AV) (K : List AV → Option β) : Option β :=
 cond (isAgg ti.k) (gG v fun l => (if l.length = ti.size then K l else none))
  (match v with
   | .undef => none
   | .agg _ => none
   | .tup _ => none
   | v => (if ti.size = 1 then K [v] else none))
def stT (S : AS) (t : TypeId) (p : Pos) (v : AV) (K : AS → Option β) : Option β :=
 match E.ty t with
 | none => none
 | some ti => cellsOf ti v fun vs => S.stn p.1 p.2 vs K
def fieldOff (s : TypeId) (f : Nat) (K : TypeId → Nat → Option β) : Option β :=
 match E.ty s with
 | some ti => (match ti.k with
   | .st fs => (match fs[f]? with
     | some (t, off) => K t off
     | none => none)
   | _ => none)
 | none => none
def sizeT (t : TypeId) (K : Nat → Option β) : Option β :=
 match E.ty t with
 | some ti => K ti.size
 | none => none
def partA (t : TypeId) (l : List AV) (off : Nat) (K : AV → Option β) : Option β :=
 match E.ty t with
 | none => none
 | some ti =>
   cond (isAgg ti.k) (if off + ti.size ≤ l.length then K (.agg ((l.drop off).take ti.size)) else none)
    (match l[off]? with
     | some v => fit ti v K
     | none => none)
def fillA : (place : Nat → Option (TypeId × Nat)) → List AV → List (Nat × AV) → (K : List AV → Option β) → Option β
 | _, cs, [], K => K cs
 | place, cs, (i, v) :: r, K =>
   match place i with
   | none => none
   | some (t, off) => (match E.ty t with
     | none => none
     | some ti => cellsOf ti v fun vs => (if off + vs.length ≤ cs.length then fillA place (splice cs off vs) r K else none))
def zeros (n : Nat) (z : List AV) : List AV := (List.replicate n z).flatten
def pow46 : Nat := 70368744177664
def fitZ : List AV → List AV → Bool
 | [], [] => true
 | .int k _ :: z, .int k' _ :: l => decide (k = k') && fitZ z l
 | .bool _ :: z, .bool _ :: l => fitZ z l
 | .str _ :: z, .str _ :: l => fitZ z l
 | _, _ => false
def evBin (op : BinOp) (ti : TI) (x y : AV) (cst : Bool) (K : AV → Option β) : Option β :=
 match x, y with
 | .int k a, .int k' b =>
   (match op with
    | .shl => (if b < 0 then none else K (.int k (k.wrap (a * 2 ^ (min b.toNat k.bits)))))
    | .shr => (if b < 0 then none else K (.int k (a.fdiv (2 ^ (min b.toNat k.bits)))))
    | _ => if k = k' then
      (match op with
       | .add => K (.int k (k.wrap (a + b)))
       | .sub => K (.int k (k.wrap (a - b)))
       | .mul => K (.int k (k.wrap (a * b)))
       | .quo => (if b = 0 then none else K (.int k (k.wrap (a.tdiv b))))
       | .rem => (if b = 0 then none else K (.int k (a.tmod b)))
       | .and => K (.int k (k.wrap (BitVec.ofInt k.bits a &&& BitVec.ofInt k.bits b).toNat))
       | .or => K (.int k (k.wrap (BitVec.ofInt k.bits a ||| BitVec.ofInt k.bits b).toNat))
       | .xor => K (.int k (k.wrap (BitVec.ofInt k.bits a ^^^ BitVec.ofInt k.bits b).toNat))
       | .andNot => K (.int k (k.wrap (BitVec.ofInt k.bits a &&& ~~~ BitVec.ofInt k.bits b).toNat))
       | .eql => K (.bool (a == b))
       | .neq => K (.bool (a != b))
       | .lss => K (.bool (decide (a < b)))
       | .leq => K (.bool (decide (a ≤ b)))
       | .gtr => K (.bool (decide (a > b)))
       | .geq => K (.bool (decide (a ≥ b)))
       | _ => none) else none)
 | .bool a, .bool b => (match ti.k with
   | .bool => (match op with
     | .eql => K (.bool (a == b))
     | .neq => K (.bool (!(a == b)))
     | _ => none)
   | _ => none)
 | .str a, .str b =>
   (match op with
    | .add => (if a.length + b.length ≤ 9223372036854775807 then K (.str (a ++ b)) else none)
    | .eql => K (.bool (a == b))
    | .neq => K (.bool (!(a == b)))
    | .lss => K (.bool (Op.bytesLess a b))
    | .leq => K (.bool (Op.bytesLess a b || a == b))
    | .gtr => K (.bool (!(Op.bytesLess a b || a == b)))
    | .geq => K (.bool (!(Op.bytesLess a b)))
    | _ => none)
 | .ptr a, .ptr b => (match ti.k with
   | .ptr e => (match E.ty e with
     | none => none
     | some te => if te.size = 0 then none else
       (match op with
        | .eql => (match b with
          | none => K (.bool a.isNone)
          | some q => (match a with
            | none => K (.bool false)
            | some p => if p.1 = q.1 then K (.bool (p.2 == q.2)) else none))
        | .neq => (match b with
          | none => K (.bool (!a.isNone))
          | some q => (match a with
            | none => K (.bool true)
            | some p => if p.1 = q.1 then K (.bool (!(p.2 == q.2))) else none))
        | _ => none))
   | _ => none)
 | .sl a _ _, .sl b _ _ => (match ti.k with
   | .sl _ => (match b with
     | none => (match op with
       | .eql => K (.bool a.isNone)
       | .neq => K (.bool (!a.isNone))
       | _ => none)
     | some _ => none)
   | _ => none)
 | .mp a, .mp b => (match ti.k with
   | .mp .. => (match b with
     | none => (match op with
       | .eql => K (.bool a.isNone)
       | .neq => K (.bool (!a.isNone))
       | _ => none)
     | some _ => none)
   | _ => none)
 | .nilFn, .nilFn => (match ti.k with
   | .fn => (match op with
     | .eql => K (.bool true)
     | .neq => K (.bool false)
     | _ => none)
   | _ => none)
 | .fn _ _ _, .nilFn => (match ti.k with
   | .fn => (match op with
     | .eql => K (.bool false)
     | .neq => K (.bool true)
     | _ => none)
   | _ => none)
 | .nilIface, .nilIface => (match ti.k with
   | .iface => cond cst (match op with
     | .eql => K (.bool true)
     | .neq => K (.bool false)
     | _ => none) none
   | _ => none)
 | .iface _ _, .nilIface => (match ti.k with
   | .iface => (match op with
     | .eql => K (.bool false)
     | .neq => K (.bool true)
     | _ => none)
   | _ => none)
 | .agg l, .agg m => cond ti.plain (if fitZ ti.zero l then (if fitZ ti.zero m then
  (match op with
   | .eql => K (.bool (AV.beqs l m))
   | .neq => K (.bool (!(AV.beqs l m)))
   | _ => none) else none) else none) none
 | _, _ => none
def evUn (op : UnOp) (x : AV) (K : AV → Option β) : Option β :=
 match op, x with
 | .neg, .int k n => K (.int k (k.wrap (0 - n)))
 | .xor, .int k n => K (.int k (k.wrap (BitVec.ofInt k.bits (if k.signed then -1 else k.max) ^^^ BitVec.ofInt k.bits n).toNat))
 | .not, .bool b => K (.bool (!b))
 | _, _ => none
def bytesOf : List AV → Option (List UInt8)
 | [] => some []
 | .int .u8 n :: r => (bytesOf r).map fun l => UInt8.ofNat n.toNat :: l
 | _ :: _ => none
def ofBytes (s : List UInt8) : List AV := s.map fun b => .int .u8 (b.toNat : Int)
def evConv (S : AS) (src dst : TypeId) (x : AV) (K : AV → Option β) : Option β :=
 match E.ty src, E.ty dst with
 | some ts, some td =>
   (match td.k with
    | .int k => (match x with
      | .int _ n => K (.int k (k.wrap n))
      | _ => none)
    | .str => (match x with
      | .str s => K (.str s)
      | .sl a len _ => (match ts.k with
        | .sl e => (match E.ty e with
          | some te => (match te.k with
            | .int .u8 => (match a with
              | none => K (.str [])
              | some p => S.ldn p.1 p.2 len fun l => (match bytesOf l with
                | some s => K (.str s)
                | none => none))
            | _ => none)
          | none => none)
        | _ => none)
      | _ => none)
    | _ => none)
 | _, _ => none
def idx (v : AV) (K : Nat → Option β) : Option β := gI v fun _ n => (if 0 ≤ n then K n.toNat else none)
def optIdx (v : Option AV) (d : Nat) (K : Nat → Option β) : Option β :=
 match v with
 | none => K d
 | some v => idx v K
def evSlice (S : AS) (t : TypeId) (x : AV) (lo hi mx : Option AV) (K : AV → Option β) : Option β :=
 match E.ty t with
 | none => none
 | some ti => (match ti.k with
   | .arr n e => gA x fun p => sizeT E e fun sz =>
    optIdx mx n fun m => (if m ≤ n then
    optIdx hi n fun h => (if h ≤ m then
    optIdx lo 0 fun l => (if l ≤ h then
     K (.sl (some (if m = l then p else (p.1, p.2 + l * sz))) (h - l) (.ex (m - l))) else none) else none) else none)
   | .str => (match mx with
     | none => gS x fun s =>
       optIdx hi s.length fun h => (if h ≤ s.length then
       optIdx lo 0 fun l => (if l ≤ h then K (.str ((s.drop l).take (h - l))) else none) else none)
     | some _ => none)
   | .sl e => gL x fun a len cap => sizeT E e fun sz =>
     (match cap with
      | .ex c => optIdx mx c fun m => (if m ≤ c then
       optIdx hi len fun h => (if h ≤ m then
       optIdx lo 0 fun l => (if l ≤ h then
        K (.sl (if m = l then a else a.map fun p => (p.1, p.2 + l * sz)) (h - l) (.ex (m - l))) else none) else none) else none)
      | .op ez m0 => if ez = sz then (match mx with
        | none => optIdx hi len fun h => (if h ≤ len ∨ h ≤ m0 then
         optIdx lo 0 fun l => (if l ≤ h then
          K (.sl (a.map fun p => (p.1, p.2 + l * sz)) (h - l) (.op ez (m0 - l))) else none) else none)
        | some mv => idx mv fun m => (if m ≤ len then
         optIdx hi len fun h => (if h ≤ m then
         optIdx lo 0 fun l => (if l ≤ h then
          K (.sl (if m = l then a else a.map fun p => (p.1, p.2 + l * sz)) (h - l) (.ex (m - l))) else none) else none) else none)) else none)
   | _ => none)
def lenOfA : AV → (Nat → Option β) → Option β
 | .sl _ n _, K => K n
 | .str s, K => K s.length
 | _, _ => none
def firstA (S : AS) (sz n : Nat) (x : AV) (K : List AV → Option β) : Option β :=
 match x with
 | .sl a _ _ => (match a with
   | some p => S.ldn p.1 p.2 (n * sz) K
   | none => if n = 0 then K [] else none)
 | .str s => if sz = 1 then K (ofBytes (s.take n)) else none
 | _ => none
def apG (S : AS) (te : TI) (a : Option Pos) (len : Nat) (cap : Cap) (n : Nat) (src : (List AV → Option β) → Option β) (K : AV → AS → Option β) : Option β :=
 match cap with
 | .ex c => if len + n ≤ c then
  src fun new => (match a with
   | some p => S.stn p.1 (p.2 + len * te.size) new fun S' => K (.sl a (len + n) cap) S'
   | none => K (.sl none (len + n) cap) S)
  else
   firstA S te.size len (.sl a len cap) fun old => src fun new =>
    forceL (old ++ new) fun d => K (.sl (some (.rw S.next, 0)) (len + n) (.op te.size (len + n))) (S.new (.cells d))
 | .op ez m0 => if n = 0 then K (.sl a len cap) S else (if len + n ≤ m0 then
  src fun new => (match a with
   | some p => S.stn p.1 (p.2 + len * te.size) new fun S' => K (.sl a (len + n) cap) S'
   | none => none)
  else (if ez = te.size then (match a with
  | some (.rw b, i) =>
   S.ldn (.rw b) i (len * te.size) fun old => src fun new =>
    forceL (old ++ new) fun d => K (.sl (some (.rw S.next, 0)) (len + n) (.op te.size (len + n))) ((S.kill b).new (.cells d))
  | _ => none) else none))
def evAppend (S : AS) (sT : TypeId) (s x : AV) (K : AV → AS → Option β) : Option β :=
 match E.ty sT with
 | none => none
 | some ti => (match ti.k with
   | .sl e => (match E.ty e with
     | none => none
     | some te => gL s fun a len cap => lenOfA x fun n =>
       if (len + n) * te.bytes ≤ pow46 then (if len + n ≤ pow46 then (if te.size = 0 then none else cond (noTup te.k)
        (apG S te a len cap n (firstA S te.size n x) K) none)
        else none) else none)
   | _ => none)
def evAppendZ (S : AS) (sT : TypeId) (s x : AV) (K : AV → AS → Option β) : Option β :=
 match E.ty sT with
 | none => none
 | some ti => (match ti.k with
   | .sl e => (match E.ty e with
     | none => none
     | some te => gL s fun a len cap => idx x fun n =>
       if (len + n) * te.bytes ≤ pow46 then (if len + n ≤ pow46 then (if te.size = 0 then none else cond (noTup te.k)
        (apG S te a len cap n (fun K => K (zeros n te.zero)) K) none)
        else none) else none)
   | _ => none)
def evCopy (S : AS) (dT : TypeId) (d x : AV) (K : AV → AS → Option β) : Option β :=
 match E.ty dT with
 | none => none
 | some ti => (match ti.k with
   | .sl e => sizeT E e fun sz => gL d fun a len _ => lenOfA x fun m =>
    firstA S sz (Nat.min m len) x fun cs => (match a with
     | some p => S.stn p.1 p.2 cs fun S' => K (.int .i64 (Nat.min m len : Nat)) S'
     | none => K (.int .i64 (Nat.min m len : Nat)) S)
   | _ => none)
def keyFits : TK → AV → Bool
 | .int k, .int k' _ => decide (k = k')
 | .bool, .bool _ => true
 | .str, .str _ => true
 | _, _ => false
def findA (k : AV) : List (AV × AV) → Option AV
 | [] => none
 | (x, v) :: r => cond (AV.beq k x) (some v) (findA k r)
def updA (k v : AV) : List (AV × AV) → List (AV × AV)
 | [] => [(k, v)]
 | (x, u) :: r => cond (AV.beq k x) ((k, v) :: r) ((x, u) :: updA k v r)
def delA (k : AV) : List (AV × AV) → List (AV × AV)
 | [] => []
 | (x, u) :: r => cond (AV.beq k x) r ((x, u) :: delA k r)
def AS.mapOf (S : AS) (kt : TK) (r : Option Nat) (K : List (AV × AV) → Option β) : Option β :=
 match r with
 | none => K []
 | some n => (match S.rw.get n with
   | some (.map kk es) => if kk = kt then K es else none
   | _ => none)
def AS.mapLen (S : AS) (r : Option Nat) (K : Nat → Option β) : Option β :=
 match r with
 | none => K 0
 | some n => (match S.rw.get n with
   | some (.map _ es) => K es.length
   | _ => none)
def evLen (S : AS) (b : Builtin) (argTypes : Array TypeId) (args : List AV) (K : AV → Option β) : Option β :=
 match b, args with
 | .len, [x] => (match argTypes[0]? with
   | some t => (match E.ty t with
     | some ti => (match ti.k, x with
       | .str, .str s => K (.int .i64 (s.length : Nat))
       | .sl _, .sl _ n _ => K (.int .i64 (n : Nat))
       | .mp .., .mp r => S.mapLen r fun n => K (.int .i64 (n : Nat))
       | _, _ => none)
     | none => none)
   | none => none)
 | .cap, [x] => (match argTypes[0]? with
   | some t => (match E.ty t with
     | some ti => (match ti.k, x with
       | .sl _, .sl _ _ (.ex c) => K (.int .i64 (c : Nat))
       | _, _ => none)
     | none => none)
   | none => none)
 | .min, [.int k a, .int k' b] => (if k = k' then K (.int k (if b < a then b else a)) else none)
 | .max, [.int k a, .int k' b] => (if k = k' then K (.int k (if a < b then b else a)) else none)
 | _, _ => none
def evClear (S : AS) (t : TypeId) (s : AV) (K : AV → AS → Option β) : Option β :=
 match E.ty t with
 | none => none
 | some ti => (match ti.k with
   | .sl e => (match E.ty e with
     | none => none
     | some te => gL s fun a n _ => if n = 0 then K (.tup []) S else cond (noTup te.k) (match a with
      | some p => S.stn p.1 p.2 (zeros n te.zero) fun S' => K (.tup []) S'
      | none => none) none)
   | _ => none)
def evDelete (S : AS) (mt : TypeId) (m k : AV) (K : AV → AS → Option β) : Option β :=
 match E.ty mt with
 | some ti => (match ti.k with
   | .mp kt _ => (match E.ty kt with
     | some tk => gM m fun r => (match r with
       | some n => S.mapOf tk.k (some n) fun es => cond (keyFits tk.k k)
        (K (.tup []) { S with rw := S.rw.set n (some (.map tk.k (delA k es))) }) none
       | none => none)
     | none => none)
   | _ => none)
 | none => none
def evGrow (S : AS) (b : Builtin) (argTypes : Array TypeId) (args : List AV) (K : AV → AS → Option β) : Option β :=
 match b, args with
 | .append, [s, x] => (match argTypes[0]?, argTypes[1]? with
   | some t, some u => (match E.ty u with
     | some tu => (match tu.k with
       | .sl _ => evAppend E S t s x K
       | .str => evAppend E S t s x K
       | .int _ => evAppendZ E S t s x K
       | _ => none)
     | none => none)
   | _, _ => none)
 | .copy, [d, x] => (match argTypes[0]? with
   | some t => evCopy E S t d x K
   | none => none)
 | .clear, [s] => (match argTypes[0]? with
   | some t => evClear E S t s K
   | none => none)
 | .delete, [m, k] => (match argTypes[0]? with
   | some t => evDelete E S t m k K
   | none => none)
 | _, _ => none
def evNew (nx : Nat) (T : Tm) (o : Op) (K : AV → AObj → Option β) : Option β :=
 match o with
 | .alloc e => (match E.ty e with
   | some te => cond (noTup te.k) (K (.ptr (some (.rw nx, 0))) (.cells te.zero)) none
   | none => none)
 | .box e x => (match E.ty e with
   | some te => cellsOf te (evalO T x) fun cs => K (.ptr (some (.rw nx, 0))) (.cells cs)
   | none => none)
 | .buildSlice e n parts => (match E.ty e with
   | some te => (match te.k with
     | .sl e' => (match E.ty e' with
       | some t' => if n * t'.size ≤ 1048576 then (if t'.size = 0 then none else cond (noTup t'.k) (
        fillA E (fun i => some (e', i * t'.size)) (zeros n t'.zero) (parts.toList.map fun p => (p.1, evalO T p.2)) fun cs =>
         K (.sl (some (.rw nx, 0)) n (.ex n)) (.cells cs)) none) else none
       | none => none)
     | _ => none)
   | none => none)
 | .convert src dst x => (match E.ty src, E.ty dst with
   | some ts, some td => (match ts.k, td.k with
     | .str, .sl e => gS (evalO T x) fun s => (match E.ty e with
      | some te => (match te.k with
        | .int .u8 => (if s.length ≤ pow46 then K (.sl (some (.rw nx, 0)) s.length (.op 1 s.length)) (.cells (ofBytes s)) else none)
        | _ => none)
      | none => none)
     | _, _ => none)
   | _, _ => none)
 | .makeMap mt r => (match E.ty mt with
   | some ti => (match ti.k with
     | .mp kt _ => (match E.ty kt with
       | some tk => (match r with
         | none => K (.mp (some nx)) (.map tk.k [])
         | some x => gI (evalO T x) fun _ _ => K (.mp (some nx)) (.map tk.k []))
       | none => none)
     | _ => none)
   | none => none)
 | .makeSlice e l c => (match E.ty e with
   | some te => (match te.k with
     | .sl e' => (match E.ty e' with
       | some t' => idx (evalO T l) fun l => idx (evalO T c) fun c =>
        (if l ≤ c then (if c * t'.bytes ≤ pow46 then (if c ≤ pow46 then (if t'.size = 0 then none else cond (noTup t'.k) (
         K (.sl (some (.rw nx, 0)) l (.ex c)) (.cells (zeros c t'.zero))) none) else none) else none) else none)
       | none => none)
     | _ => none)
   | none => none)
 | _ => none
def evPure (S : AS) (T : Tm) (o : Op) (t : TypeId) (K : AV → Option β) : Option β :=
 match o with
 | .move x => K (evalO T x)
 | .assign x => K (evalO T x)
 | .pick c a b => gB (evalO T c) fun c => cond c (K (evalO T a)) (K (evalO T b))
 | .build e parts => (match E.ty e with
   | some te => (match te.k with
     | .st fs => fillA E (fun i => fs[i]?) te.zero (parts.toList.map fun p => (p.1, evalO T p.2)) fun cs => K (.agg cs)
     | .arr _ e' => sizeT E e' fun sz => fillA E (fun i => some (e', i * sz)) te.zero (parts.toList.map fun p => (p.1, evalO T p.2)) fun cs => K (.agg cs)
     | _ => none)
   | none => none)
 | .load t a => gA (evalO T a) fun p => ldT E S t p K
 | .nilCheck x => (match evalO T x with
   | .ptr a => (match a with
     | some p => K (.ptr (some p))
     | none => none)
   | .fn f a b => K (.fn f a b)
   | .yld k => K (.yld k)
   | .iface t v => K (.iface t v)
   | .mth t name => (match E.meth t name with
     | some _ => K (.mth t name)
     | none => none)
   | _ => none)
 | .binOp op xt x y _ => (match E.ty xt with
   | some ti => evBin E op ti (evalO T x) (evalO T y) ((match x with | .const _ => true | _ => false) || (match y with | .const _ => true | _ => false)) K
   | none => none)
 | .unOp op _ x => evUn op (evalO T x) K
 | .convert s d x => evConv E S s d (evalO T x) K
 | .makeInterface xt x => (match E.ty xt with
   | some ti => (match ti.k with
     | .iface => none
     | _ => (match evalO T x with
       | .undef => none
       | v => K (.iface xt v)))
   | none => none)
 | .makeFunc fn first caps => (match fn with
   | .func f => K (.fn f (first.toList.map (evalO T)) (caps.toList.map (evalO T)))
   | .method name => (match first.toList.map (evalO T), caps.toList with
     | [.iface t _], [] => K (.mth t name)
     | _, _ => none)
   | _ => none)
 | .slice st x lo hi mx => evSlice E S st (evalO T x) (lo.map (evalO T)) (hi.map (evalO T)) (mx.map (evalO T)) K
 | .fieldAddr s x f => gA (evalO T x) fun p => fieldOff E s f fun ft off => sizeT E ft fun sz => (if sz = 0 then none else K (.ptr (some (p.1, p.2 + off))))
 | .field s x f => gG (evalO T x) fun l => fieldOff E s f fun ft off => partA E ft l off K
 | .indexAddr st x i => (match E.ty st with
   | some ti => (match ti.k with
     | .arr n e => gA (evalO T x) fun p => sizeT E e fun sz => idx (evalO T i) fun i => (if i < n then K (.ptr (some (p.1, p.2 + i * sz))) else none)
     | .sl e => gL (evalO T x) fun a len _ => sizeT E e fun sz => idx (evalO T i) fun i => (if i < len then (match a with
      | some p => K (.ptr (some (p.1, p.2 + i * sz)))
      | none => none) else none)
     | _ => none)
   | none => none)
 | .index st x i => (match E.ty st with
   | some ti => (match ti.k with
     | .arr n e => gG (evalO T x) fun l => sizeT E e fun sz => idx (evalO T i) fun i => (if i < n then partA E e l (i * sz) K else none)
     | .str => gS (evalO T x) fun s => idx (evalO T i) fun i => (match s[i]? with
      | some b => K (.int .u8 (b.toNat : Nat))
      | none => none)
     | _ => none)
   | none => none)
 | .lookup mt m k ok => (match E.ty mt with
   | some ti => (match ti.k with
     | .mp kt et => (match E.ty et, E.ty kt with
       | some te, some tk => cond (noTup te.k) (gM (evalO T m) fun r => S.mapOf tk.k r fun es => cond (keyFits tk.k (evalO T k))
        (fit te ((findA (evalO T k) es).getD (cond (isAgg te.k) (.agg te.zero) (te.zero.headD .undef)))
         fun v => K (cond ok (.tup [v, .bool (findA (evalO T k) es).isSome]) v)) none) none
       | _, _ => none)
     | _ => none)
   | none => none)
 | .extract x i => gT (evalO T x) fun l => (match l[i]? with
   | some v => fitT E t v K
   | none => none)
 | .call c => (match c.callee with
   | .builtin b => evLen E S b c.argTypes (c.args.toList.map (evalO T)) K
   | _ => none)
 | _ => none
def evEff (S : AS) (T : Tm) (o : Op) (K : AV → AS → Option β) : Option β :=
 match o with
 | .store t a x => gA (evalO T a) fun p => stT E S t p (evalO T x) fun S' => K (.tup []) S'
 | .convert s d x => (match E.ty s with
   | some ts => (match ts.k with
     | .sl e => if s = d then (match E.ty e with
       | some te => (match te.k with
         | .int .u8 => gL (evalO T x) fun a l c => if l = 0 then none else (match a with
           | some (.rw b, i) => (match S.rw.get b with
             | some (.cells cs) => K (.sl (some (.rw b, i)) l c) { S with rw := S.rw.set b (some (.cells cs)) }
             | _ => none)
           | _ => none)
         | _ => none)
       | none => none) else none
     | _ => none)
   | none => none)
 | .mapUpdate mt m k x => (match E.ty mt with
   | some ti => (match ti.k with
     | .mp kt et => (match E.ty kt with
       | some tk => gM (evalO T m) fun r => (match r with
         | some n => S.mapOf tk.k (some n) fun es => cond (keyFits tk.k (evalO T k))
          (fitT E et (evalO T x) fun v => K (.tup []) { S with rw := S.rw.set n (some (.map tk.k (updA (evalO T k) v es))) }) none
         | none => none)
       | none => none)
     | _ => none)
   | none => none)
 | .call c => (match c.callee with
   | .builtin b => evGrow E S b c.argTypes (c.args.toList.map (evalO T)) K
   | _ => none)
 | _ => none
def cls (o : Op) : Nat :=
 match o with
 | .load .. | .lookup .. => 1
 | .convert s d _ => (match E.ty s, E.ty d with
   | some ts, some td => (match ts.k, td.k with
     | .str, .sl _ => 2
     | .sl _, .sl _ => 3
     | .sl _, _ => 1
     | _, _ => 0)
   | _, _ => 0)
 | .alloc _ | .box .. | .buildSlice .. | .makeMap .. | .makeSlice .. => 2
 | .store .. | .mapUpdate .. => 3
 | .call c => (match c.callee with
   | .builtin .len => 1
   | .builtin .cap => 0
   | .builtin .min => 0
   | .builtin .max => 0
   | _ => 3)
 | _ => 0
end ops
inductive Tgt where
 | fn (f : FuncId)
 | yld (k : Nat)
abbrev CallA := Tgt → List AV → AS → Option (AV × AS)
def getLp : List ALoop → Nat → Option ALoop
 | [], _ => none
 | l :: r, k => cond (Nat.beq l.id k) (some l) (getLp r k)
def setLp : List ALoop → Nat → ALoop → List ALoop
 | [], _, _ => []
 | l :: r, k, x => cond (Nat.beq l.id k) (x :: r) (l :: setLp r k x)
section code
variable {β : Type} (E : Env) (call : CallA)
def ev1 (T : Tm) (S : AS) (o : Oper) (K : AV → AS → Option β) : Option β :=
 match o.op with
 | .call c => (match c.callee with
   | .value f => (match evalO T f with
     | .fn g a b => (call (.fn g) (a ++ (c.args.toList.map (evalO T) ++ b)) S).bind fun r => fitT E o.type r.1 fun v => K v r.2
     | .yld k => (call (.yld k) (c.args.toList.map (evalO T)) S).bind fun r => gB r.1 fun v => K (.bool v) r.2
     | _ => none)
   | .invoke rc name => (match evalO T rc with
     | .iface t v => (match E.meth t name with
       | some g => (call (.fn g) (v :: c.args.toList.map (evalO T)) S).bind fun r => fitT E o.type r.1 fun v => K v r.2
       | none => none)
     | _ => none)
   | .builtin _ => (match cls E o.op with
     | 3 => evEff E S T o.op K
     | _ => evPure E S T o.op o.type fun v => K v S))
 | _ => (match cls E o.op with
   | 3 => evEff E S T o.op K
   | 2 => evNew E S.next T o.op fun v ob => K v (S.new ob)
   | _ => evPure E S T o.op o.type fun v => K v S)
def gdA (ops : Array Oper) (o : Oper) (T : Tm) (run skip : Tm → Option β) : Option β :=
 match o.guard with
 | none => run T
 | some (j, w) => (match (ops[j]?).bind (·.dst) with
   | none => none
   | some d => (match look T d with
     | .bool b => cond b (cond w (run ((d, .bool true) :: T)) (skip ((d, .bool true) :: T))) (cond w (skip ((d, .bool false) :: T)) (run ((d, .bool false) :: T)))
     | .tup [] => skip T
     | _ => none))
def evOps (ops : Array Oper) : List Oper → Tm → AS → (Tm → AS → Option β) → Option β
 | [], T, S, K => K T S
 | o :: r, T, S, K => gdA ops o T (fun T => ev1 E call T S o fun v S' => evOps ops r (put T o.dst v) S' K) (fun T => evOps ops r (put T o.dst (.tup [])) S K)
abbrev Pend := List (Nat × Nat × AObj)
def AS.lay (S : AS) (x : Nat × AObj) : AS := { S with rw := S.rw.set x.1 (some x.2) }
def layAll : Pend → AS → AS
 | [], S => S
 | x :: r, S => layAll r (S.lay x.2)
def layB (b : Nat) : Pend → AS → AS
 | [], S => S
 | x :: r, S => cond (Nat.testBit b x.1) (layB b r (S.lay x.2)) (layB b r S)
def restB (b : Nat) : Pend → Pend
 | [] => []
 | x :: r => cond (Nat.testBit b x.1) (restB b r) (x :: restB b r)
def again (b : Nat) (S : AS) : List (Nat × Oper × Tm × AV) → Option β → Option β
 | [], K => K
 | (i, o, T, v) :: r, K => cond (Nat.testBit b i) (again b S r K) (evPure E S T o.op o.type fun v' => cond (AV.beq v' v) (again b S r K) none)
def before (bi : Nat) (o : Oper) (T : Tm) (v : AV) : List (Nat × AS) → Option β → Option β
 | [], K => K
 | (e, S) :: r, K => cond (Nat.testBit bi e) (before bi o T v r K) (evPure E S T o.op o.type fun v' => cond (AV.beq v' v) (before bi o T v r K) none)
def evDraw (ops : Array Oper) (base : Nat) (bs : Array Nat) : (rem : List Oper) → (i : Nat) → Tm → AS → Pend → List (Nat × Oper × Tm × AV) → List (Nat × AS) → (Tm → AS → Option β) → Option β
 | [], _, T, S, pd, _, _, K => K T (layAll pd S)
 | o :: r, i, T, S, pd, rd, hs, K =>
   gdA ops o T (fun T =>
    match cls E o.op with
    | 0 => evPure E S T o.op o.type fun v => evDraw ops base bs r (i + 1) (put T o.dst v) S pd rd hs K
    | 1 => evPure E S T o.op o.type fun v => before E (bs.getD i 0) o T v hs (evDraw ops base bs r (i + 1) (put T o.dst v) S pd ((i, o, T, v) :: rd) hs K)
    | 2 => evNew E (base + i) T o.op fun v ob => evDraw ops base bs r (i + 1) (put T o.dst v) S ((i, base + i, ob) :: pd) rd hs K
    | _ => ev1 E call T (layB (bs.getD i 0) pd S) o fun v S' => again E (bs.getD i 0) S' rd (evDraw ops base bs r (i + 1) (put T o.dst v) S' (restB (bs.getD i 0) pd) rd ((i, S) :: hs) K))
   (fun T => evDraw ops base bs r (i + 1) (put T o.dst (.tup [])) S pd rd hs K)
def hasNew (ops : Array Oper) : Bool := ops.any fun o => cls E o.op == 2
def drawOk (ops : Array Oper) (bs : Array Nat) : Bool :=
 ((List.range ops.size).all fun i => (List.range i).all fun k =>
   Nat.testBit (bs.getD i 0) k ||
   ((ops.getD i default).apart ops (ops.getD k default) && !(cls E (ops.getD i default).op == 3 && cls E (ops.getD k default).op == 3))) &&
 (List.range ops.size).all fun i => (ops.getD i default).after.toList.all fun e => !Region.binds .any e || Nat.blt e.on i
def loopN (body : Tm → AS → (Exit → Tm → AS → Option β) → Option β) (ids : List Nat) : Nat → Tm → AS → (Exit → Tm → AS → Option β) → Option β
 | 0, _, _, _ => none
 | m + 1, T, S, K => body T S fun x T' S' => match x with
   | .normal => loopN body ids m (mask ids T') S' K
   | e => K e (mask ids T') S'
def refine (T : Tm) (c : Operand) (b : Bool) : Tm :=
 match c with
 | .tmp t => (t, .bool b) :: T
 | _ => T
def evC (n : Nat) (f : FuncId) : Code → (cur : Nat) → Tm → AS → (Exit → Tm → AS → Option β) → Option β
 | .skip, _, T, S, K => K .normal T S
 | .label _, _, T, S, K => K .normal T S
 | .region id ops draw, _, T, S, K =>
   let T := match E.cut f id with
    | some ids => mask ids T
    | none => T
   cond draw
    (cond (drawOk E ops (Region.before ops))
     (evDraw E call ops S.next (Region.before ops) ops.toList 0 T (cond (hasNew E ops) { S with next := S.next + ops.size } S) [] [] [] fun T S => K .normal T S)
     none)
    (evOps E call ops ops.toList T S fun T S => K .normal T S)
 | .seq a b, cur, T, S, K => evC n f a cur T S fun x T' S' => match x with
   | .normal => evC n f b cur T' S' K
   | e => K e T' S'
 | .cond c x y, cur, T, S, K => gB (evalO T c) fun b => cond b (evC n f x cur (refine T c true) S K) (evC n f y cur (refine T c false) S K)
 | .block id body, _, T, S, K => evC n f body id T S fun x T' S' => match x with
   | .exit i => cond (Nat.beq i id) (K .normal T' S') (K (.exit i) T' S')
   | e => K e T' S'
 | .loop body, cur, T, S, K => loopN (evC n f body cur) (E.lcut f cur) n (mask (E.lcut f cur) T) S K
 | .exit i, _, T, S, K => K (.exit i) T S
 | .ret, _, T, S, K => K .ret T S
 | .rangeFunc g ps assign body, _, T, S, K => (match evalO T g with
   | .fn h a b => (call (.fn h) (a ++ (.yld S.next :: b)) { S with next := S.next + 1, loops := { id := S.next, fn := f, T, params := ps.toList, assign, body, st := .ready, pend := none } :: S.loops }).bind fun r =>
    (match r.2.loops with
     | L :: ls => cond (Nat.beq L.id S.next) (match L.st with
       | .busy => none
       | _ => (match L.pend with
         | none => K .normal T { r.2 with loops := ls }
         | some x => K x T { r.2 with loops := ls })) none
     | [] => none)
   | _ => none)
 | _, _, _, _, _ => none
end code
def evRes1 (E : Env) (T : Tm) (S : AS) : List ResultVar → (List AV → Option (AV × AS)) → Option (AV × AS)
 | [], K => K []
 | .tmp t :: r, K => evRes1 E T S r fun l => K (look T t :: l)
 | .cell a t :: r, K => gA (look T a) fun p => ldT E S t p fun v => evRes1 E T S r fun l => K (v :: l)
def evRes (E : Env) (rs : Array ResultVar) (T : Tm) (S : AS) : Option (AV × AS) :=
 evRes1 E T S rs.toList fun l => match l with
  | [v] => some (v, S)
  | l => some (.tup l, S)
def retK (E : Env) (fn : Func) : Exit → Tm → AS → Option (AV × AS) := fun x T S =>
 match x with
 | .normal => evRes E fn.results T S
 | .ret => evRes E fn.results T S
 | _ => none
def enumT : Nat → List AV → Tm
 | _, [] => []
 | i, v :: r => (i, v) :: enumT (i + 1) r
def putAll : List Nat → List AV → Tm → Tm
 | p :: ps, v :: vs, T => putAll ps vs ((p, v) :: T)
 | _, _, T => T
abbrev Orc := FuncId → List AV → Option AV
def noOrc : Orc := fun _ _ => none
def evF (E : Env) (o : Orc) : Nat → CallA
 | 0, _, _, _ => none
 | n + 1, .fn f, args, S => (match o f args with
   | some v => some (v, S)
   | none => (match E.func f with
     | some fn => (match fn.body with
       | some c => evC E (evF E o n) n f c 0 (enumT 0 args) S (retK E fn)
       | none => none)
     | none => none))
 | n + 1, .yld k, args, S => (match getLp S.loops k with
   | some L => (match L.st with
     | .ready => if args.length = L.params.length then
      evC E (evF E o n) n L.fn L.assign 0 (putAll L.params args L.T) S fun x T S => (match x with
       | .normal => (match getLp S.loops k with
         | some L1 => (match L1.st with
           | .ready => evC E (evF E o n) n L.fn L.body 0 T { S with loops := setLp S.loops k { L1 with st := .busy } } fun x _ S => (match getLp S.loops k with
             | some L => (match x with
               | .normal => some (.bool true, { S with loops := setLp S.loops k { L with st := .ready, pend := none } })
               | .ret => some (.bool false, { S with loops := setLp S.loops k { L with st := .done, pend := some .ret } })
               | .exit i => some (.bool false, { S with loops := setLp S.loops k { L with st := .done, pend := some (.exit i) } })
               | _ => none)
             | none => none)
           | _ => none)
         | none => none)
       | _ => none)
      else none
     | _ => none)
   | none => none)
def wfOp (n : Nat) (o : Oper) : Bool :=
 (match o.dst with
  | some d => Nat.blt d n
  | none => true) &&
 (match o.op with
  | .slice _ _ _ hi mx => mx.isNone || hi.isSome
  | _ => true)
def wfOps (n : Nat) (ops : Array Oper) : Bool := ops.toList.all (wfOp n)
def wfC (n : Nat) : Code → Bool
 | .region _ ops _ => wfOps n ops
 | .seq a b => wfC n a && wfC n b
 | .cond _ a b => wfC n a && wfC n b
 | .block _ c => wfC n c
 | .loop c => wfC n c
 | .rangeFunc _ ps a b => (ps.toList.all fun p => Nat.blt p n) && wfC n a && wfC n b
 | _ => true
end Go.Gr
