/- The words in which the printed readings of functions are written: each is, by definition, what the evaluator does. -/
import Derived.Test.YtcepfilbiahdjaaGrMono
set_option linter.unusedVariables false
set_option linter.unusedSimpArgs false
namespace Go.Gr
def cAt : List Nat → Code → Code
 | [], c => c
 | i :: r, c => match c with
   | .seq a b => cAt r (match i with | 0 => a | _ => b)
   | .cond _ a b => cAt r (match i with | 0 => a | _ => b)
   | .block _ a => cAt r a
   | .loop a => cAt r a
   | .rangeFunc _ _ a b => cAt r (match i with | 0 => a | _ => b)
   | c => c
noncomputable def Env.fn (E : Env) (f : FuncId) : Func := (E.func f).getD default
noncomputable def Env.at (E : Env) (f : FuncId) (p : List Nat) : Code := cAt p ((E.fn f).body.getD .skip)
abbrev KT (β : Type) := Exit → Tm → AS → Option β
section
variable {β : Type}
def kSeq (E : Env) (call : CallA) (n : Nat) (f : FuncId) (b : Code) (cur : Nat) (K : KT β) : KT β := fun x T' S' => match x with
 | .normal => evC E call n f b cur T' S' K
 | e => K e T' S'
def kBlk (id : Nat) (K : KT β) : KT β := fun x T' S' => match x with
 | .exit i => cond (Nat.beq i id) (K .normal T' S') (K (.exit i) T' S')
 | e => K e T' S'
def kLp (body : Tm → AS → KT β → Option β) (ids : List Nat) (m : Nat) (K : KT β) : KT β := fun x T' S' => match x with
 | .normal => loopN body ids m (mask ids T') S' K
 | e => K e (mask ids T') S'
def AS.bump (S : AS) (n : Nat) : AS := { S with next := S.next + n }
def gO {α : Type} (a : Option α) (K : α → Option β) : Option β := match a with | some p => K p | none => none
def ix (n : Int) (K : Nat → Option β) : Option β := if 0 ≤ n then K n.toNat else none
def ifO (p : Prop) [Decidable p] (X : Option β) : Option β := if p then X else none
def nneg (b : Int) (X : Option β) : Option β := if b < 0 then none else X
def nz (b : Int) (X : Option β) : Option β := if b = 0 then none else X
def ldI (k : IntKind) (S : AS) (b : Bid) (i : Nat) (K : Int → Option β) : Option β := match S.ld b i with | some v => gIk k v fun n => K n | none => none
def ldS (S : AS) (b : Bid) (i : Nat) (K : List UInt8 → Option β) : Option β := match S.ld b i with | some v => gS v fun n => K n | none => none
def ldP (S : AS) (b : Bid) (i : Nat) (K : Option Pos → Option β) : Option β := match S.ld b i with | some v => gP v fun n => K n | none => none
def ldL (S : AS) (b : Bid) (i : Nat) (K : Option Pos → Nat → Cap → Option β) : Option β := match S.ld b i with | some v => gL v fun a l c => K a l c | none => none
def ldV (S : AS) (b : Bid) (i : Nat) (K : AV → Option β) : Option β := match S.ld b i with | some v => K v | none => none
def atI (k : IntKind) (l : List AV) (i : Nat) (K : Int → Option β) : Option β := match l[i]? with | some v => gIk k v fun n => K n | none => none
def atB (l : List AV) (i : Nat) (K : Bool → Option β) : Option β := match l[i]? with | some v => gB v fun n => K n | none => none
def atP (l : List AV) (i : Nat) (K : Option Pos → Option β) : Option β := match l[i]? with | some v => gP v fun n => K n | none => none
def atL (l : List AV) (i : Nat) (K : Option Pos → Nat → Cap → Option β) : Option β := match l[i]? with | some v => gL v fun a l c => K a l c | none => none
def atG (n : Nat) (l : List AV) (i : Nat) (K : List AV → Option β) : Option β := match l[i]? with | some v => gG v fun l => (if l.length = n then K l else none) | none => none
def ixSl (sz : Nat) (a : Option Pos) (len : Nat) (n : Int) (K : Pos → Option β) : Option β :=
 if 0 ≤ n then (if n.toNat < len then (match a with | some p => K (p.1, p.2 + n.toNat * sz) | none => none) else none) else none
def ixArr (sz : Nat) (p : Pos) (len : Nat) (n : Int) (K : Pos → Option β) : Option β :=
 if 0 ≤ n then (if n.toNat < len then K (p.1, p.2 + n.toNat * sz) else none) else none
def optIx (v : Option Int) (d : Nat) (K : Nat → Option β) : Option β := match v with | none => K d | some n => ix n K
def slSl (sz : Nat) (a : Option Pos) (len : Nat) (cap : Cap) (lo hi mx : Option Int) (K : Option Pos → Nat → Cap → Option β) : Option β :=
 match cap with
 | .ex c => optIx mx c fun m => (if m ≤ c then
  optIx hi len fun h => (if h ≤ m then
  optIx lo 0 fun l => (if l ≤ h then
   K (if m = l then a else a.map fun p => (p.1, p.2 + l * sz)) (h - l) (.ex (m - l)) else none) else none) else none)
 | .op ez m0 => if ez = sz then (match mx with
  | none => optIx hi len fun h => (if h ≤ len ∨ h ≤ m0 then
   optIx lo 0 fun l => (if l ≤ h then
    K (a.map fun p => (p.1, p.2 + l * sz)) (h - l) (.op ez (m0 - l)) else none) else none)
  | some mv => ix mv fun m => (if m ≤ len then
   optIx hi len fun h => (if h ≤ m then
   optIx lo 0 fun l => (if l ≤ h then
    K (if m = l then a else a.map fun p => (p.1, p.2 + l * sz)) (h - l) (.ex (m - l)) else none) else none) else none)) else none
def bytesStr (S : AS) (a : Option Pos) (len : Nat) (K : List UInt8 → Option β) : Option β :=
 match a with
 | none => K []
 | some p => S.ldn p.1 p.2 len fun l => (match bytesOf l with
   | some s => K s
   | none => none)
def appendA (sz bytes : Nat) (S : AS) (a : Option Pos) (len : Nat) (cap : Cap) (n : Nat) (src : (List AV → Option β) → Option β) (K : Option Pos → Nat → Cap → AS → Option β) : Option β :=
 if (len + n) * bytes ≤ pow46 then (if len + n ≤ pow46 then
  (match cap with
   | .ex c => if len + n ≤ c then
    src fun new => (match a with
     | some p => S.stn p.1 (p.2 + len * sz) new fun S' => K a (len + n) cap S'
     | none => K none (len + n) cap S)
    else
     firstA S sz len (.sl a len cap) fun old => src fun new =>
      forceL (old ++ new) fun d => K (some (.rw S.next, 0)) (len + n) (.op sz (len + n)) (S.new (.cells d))
   | .op ez m0 => if n = 0 then K a len cap S else (if len + n ≤ m0 then
    src fun new => (match a with
     | some p => S.stn p.1 (p.2 + len * sz) new fun S' => K a (len + n) cap S'
     | none => none)
    else (if ez = sz then (match a with
    | some (.rw b, i) =>
     S.ldn (.rw b) i (len * sz) fun old => src fun new =>
      forceL (old ++ new) fun d => K (some (.rw S.next, 0)) (len + n) (.op sz (len + n)) ((S.kill b).new (.cells d))
    | _ => none) else none))) else none) else none
def appendZA (sz bytes : Nat) (z : List AV) (S : AS) (a : Option Pos) (len : Nat) (cap : Cap) (n : Int) (K : Option Pos → Nat → Cap → AS → Option β) : Option β :=
 ix n fun n => appendA sz bytes S a len cap n (fun K => K (zeros n z)) K
def invV (E : Env) (call : CallA) (x : AV) (name : String) (args : List AV) (S : AS) (K : AV → AS → Option β) : Option β := match x with
 | .iface t v => (match E.meth t name with
   | some g => (call (.fn g) (v :: args) S).bind fun r => K r.1 r.2
   | none => none)
 | _ => none
def nilV (E : Env) (x : AV) (K : AV → Option β) : Option β := match x with
 | .ptr a => (match a with
   | some p => K (.ptr (some p))
   | none => none)
 | .fn f a b => K (.fn f a b)
 | .yld k => K (.yld k)
 | .iface t v => K (.iface t v)
 | .mth t name => (match E.meth t name with
   | some _ => K (.mth t name)
   | none => none)
 | _ => none
def mthV (x : AV) (name : String) (K : AV → Option β) : Option β := match x with
 | .iface t _ => K (.mth t name)
 | _ => none
def convLL (S : AS) (a : Option Pos) (l : Nat) (c : Cap) (K : Option Pos → Nat → Cap → AS → Option β) : Option β :=
 if l = 0 then none else (match a with
  | some (.rw b, i) => (match S.rw.get b with
    | some (.cells cs) => K (some (.rw b, i)) l c { S with rw := S.rw.set b (some (.cells cs)) }
    | _ => none)
  | _ => none)
def mkSl (bytes : Nat) (l c : Int) (K : Nat → Nat → Option β) : Option β :=
 ix l fun l => ix c fun c => (if l ≤ c then (if c * bytes ≤ pow46 then (if c ≤ pow46 then K l c else none) else none) else none)
def callI (k : IntKind) (call : CallA) (f : Nat) (args : List AV) (S : AS) (K : Int → AS → Option β) : Option β := (call (.fn f) args S).bind fun r => gIk k r.1 fun v => K v r.2
def callB (call : CallA) (f : Nat) (args : List AV) (S : AS) (K : Bool → AS → Option β) : Option β := (call (.fn f) args S).bind fun r => gB r.1 fun v => K v r.2
def callP (call : CallA) (f : Nat) (args : List AV) (S : AS) (K : Option Pos → AS → Option β) : Option β := (call (.fn f) args S).bind fun r => gP r.1 fun v => K v r.2
def callL (call : CallA) (f : Nat) (args : List AV) (S : AS) (K : Option Pos → Nat → Cap → AS → Option β) : Option β := (call (.fn f) args S).bind fun r => gL r.1 fun a l c => K a l c r.2
def callT (call : CallA) (f : Nat) (args : List AV) (S : AS) (K : List AV → AS → Option β) : Option β := (call (.fn f) args S).bind fun r => gT r.1 fun l => K l r.2
def shlI (k : IntKind) (a b : Int) : Int := k.wrap (a * 2 ^ (min b.toNat k.bits))
def shrI (k : IntKind) (a b : Int) : Int := a.fdiv (2 ^ (min b.toNat k.bits))
def orI (k : IntKind) (a b : Int) : Int := k.wrap (BitVec.ofInt k.bits a ||| BitVec.ofInt k.bits b).toNat
def xorI (k : IntKind) (a b : Int) : Int := k.wrap (BitVec.ofInt k.bits a ^^^ BitVec.ofInt k.bits b).toNat
def aggNe (ti : TI) (l m : List AV) (K : Bool → Option β) : Option β := cond ti.plain (if fitZ ti.zero l then (if fitZ ti.zero m then K (!(AV.beqs l m)) else none) else none) none
def newA (S : AS) (o : AObj) (K : Nat → AS → Option β) : Option β := K S.next (S.new o)
def drawA (S : AS) (n : Nat) (K : Nat → AS → Option β) : Option β := K S.next (S.bump n)
def layA (S : AS) (b : Nat) (o : AObj) (K : AS → Option β) : Option β := K (S.lay (b, o))
def ifNil (E : Env) (op : BinOp) (ti : TI) (x : AV) (K : Bool → Option β) : Option β := evBin E op ti x .nilIface true fun v => gB v K
end
abbrev RV := Option (AV × AS)
abbrev OP := Option Pos
end Go.Gr
