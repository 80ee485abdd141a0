/- Sums and tests: what the evaluator says is what the model does. -/
import Derived.Test.YtcepfilbiahdjaaGrOps1
import Derived.Laws.StructEq
set_option linter.unusedVariables false
set_option linter.unusedSimpArgs false
set_option linter.unusedSectionVars false
namespace Go.Gr
theorem vr_int (j : J) (k : IntKind) (n : Int) : VR j (.int k n) (.int k n) := by simp only [VR]
theorem vr_bool (j : J) (b : Bool) : VR j (.bool b) (.bool b) := by simp only [VR]
theorem vr_str (j : J) (s : List UInt8) : VR j (.str s) (.string ⟨s.toArray⟩) := by simp only [VR]
theorem str_size (s : List UInt8) : (⟨s.toArray⟩ : ByteArray).size = s.length := by simp [ByteArray.size]
theorem str_append (s t : List UInt8) : (⟨s.toArray⟩ : ByteArray) ++ ⟨t.toArray⟩ = ⟨(s ++ t).toArray⟩ := by
 apply ByteArray.ext
 rw [ByteArray.data_append]; simp
section
variable {P : Program} {w : World}
theorem bin_int_shl (t : TypeId) (xo yo : Operand) (k k' : IntKind) (a b : Int) (h : ¬ b < 0) :
 (do eqGuard .shl t xo yo (.int k a) (.int k' b); binOp .shl t (.int k a) (.int k' b) : Sem Value).run P w = .ok (.int k (k.wrap (a * 2 ^ (min b.toNat k.bits)))) w := by
 simp [eqGuard, binOp, Op.shift, h]
theorem bin_int_shr (t : TypeId) (xo yo : Operand) (k k' : IntKind) (a b : Int) (h : ¬ b < 0) :
 (do eqGuard .shr t xo yo (.int k a) (.int k' b); binOp .shr t (.int k a) (.int k' b) : Sem Value).run P w = .ok (.int k (a.fdiv (2 ^ (min b.toNat k.bits)))) w := by
 simp [eqGuard, binOp, Op.shift, h]
theorem bin_eql (t : TypeId) (xo yo : Operand) (u v : Value) (b : Bool) (hg : (eqGuard .eql t xo yo u v).run P w = .ok () w) (hb : binOp .eql t u v = (do pure (.bool (← Op.equal t u v)))) (h : (Op.equalIn (9999 + 1) t u v).run P w = .ok b w) :
 (do eqGuard .eql t xo yo u v; binOp .eql t u v : Sem Value).run P w = .ok (.bool b) w := by
 have h' : (Op.equal t u v).run P w = .ok b w := h
 rw [Sem.run_bind, hg, Result.andThen_ok, hb, Sem.run_bind, h']; rfl
theorem bin_neq (t : TypeId) (xo yo : Operand) (u v : Value) (b : Bool) (hg : (eqGuard .neq t xo yo u v).run P w = .ok () w) (hb : binOp .neq t u v = (do pure (.bool (!(← Op.equal t u v))))) (h : (Op.equalIn (9999 + 1) t u v).run P w = .ok b w) :
 (do eqGuard .neq t xo yo u v; binOp .neq t u v : Sem Value).run P w = .ok (.bool (!b)) w := by
 have h' : (Op.equal t u v).run P w = .ok b w := h
 rw [Sem.run_bind, hg, Result.andThen_ok, hb, Sem.run_bind, h']; rfl
theorem eqIn_ptr_nil (d : Nat) (t e : TypeId) (a : Option Addr) (h : (underlying t).run P w = .ok (.pointer e) w) : (Op.equalIn (d + 1) t (.pointer a) (.pointer none)).run P w = .ok a.isNone w := by
 cases a <;> simp [Op.equalIn, h]
theorem eqIn_nil_ptr (d : Nat) (t e : TypeId) (a : Option Addr) (h : (underlying t).run P w = .ok (.pointer e) w) : (Op.equalIn (d + 1) t (.pointer none) (.pointer a)).run P w = .ok a.isNone w := by
 simp [Op.equalIn, h]
theorem eqIn_ptr (d : Nat) (t e : TypeId) (a b : Addr) (n : Nat) (h : (underlying t).run P w = .ok (.pointer e) w) (hs : (sizeOf e).run P w = .ok n w) (hn : n ≠ 0) (hb : a.block = b.block) : (Op.equalIn (d + 1) t (.pointer (some a)) (.pointer (some b))).run P w = .ok (a == b) w := by
 simp [Op.equalIn, h, hs, hn, sameAddr, hb]
theorem eqIn_sl_nil (d : Nat) (t e : TypeId) (a : Option Addr) (l c l' c' : Nat) (h : (underlying t).run P w = .ok (.slice e) w) : (Op.equalIn (d + 1) t (.slice a l c) (.slice none l' c')).run P w = .ok a.isNone w := by
 cases a <;> simp [Op.equalIn, h]
theorem eqIn_mp_nil (d : Nat) (t k e : TypeId) (a : Option Nat) (h : (underlying t).run P w = .ok (.map k e) w) : (Op.equalIn (d + 1) t (.map a) (.map none)).run P w = .ok a.isNone w := by
 cases a <;> simp [Op.equalIn, h]
theorem eqIn_fn_nil (d : Nat) (t : TypeId) {a b : Array TypeId} {c : Bool} (h : (underlying t).run P w = .ok (.func a b c) w) : (Op.equalIn (d + 1) t .nilFunc .nilFunc).run P w = .ok true w := by
 simp [Op.equalIn, h]
theorem eqIn_fn (d : Nat) (t : TypeId) {a b : Array TypeId} {c : Bool} (f : Fn) (x y : Array Value) (h : (underlying t).run P w = .ok (.func a b c) w) : (Op.equalIn (d + 1) t (.func f x y) .nilFunc).run P w = .ok false w := by
 simp [Op.equalIn, h]
theorem eqIn_if_nil (d : Nat) (t : TypeId) {a : Array (String × TypeId)} (h : (underlying t).run P w = .ok (.interface a) w) : (Op.equalIn (d + 1) t .nilIface .nilIface).run P w = .ok true w := by
 simp [Op.equalIn, h]
theorem eqIn_if (d : Nat) (t : TypeId) {a : Array (String × TypeId)} (u : TypeId) (v : Value) (h : (underlying t).run P w = .ok (.interface a) w) : (Op.equalIn (d + 1) t (.iface u v) .nilIface).run P w = .ok false w := by
 simp [Op.equalIn, h]
theorem eqIn_bool (d : Nat) (t : TypeId) (a b : Bool) (h : (underlying t).run P w = .ok .bool w) : (Op.equalIn (d + 1) t (.bool a) (.bool b)).run P w = .ok (a == b) w := by
 simp [Op.equalIn, h]
end
section
variable {E : Env} {P : Program} (hE : EnvOk E P) {w0 w : World} {j : J} {β : Type} {r : β}
include hE
theorem evBin_int {op : BinOp} {xt : TypeId} {ti : TI} {k k' : IntKind} {a b : Int} {cst : Bool} {xo yo : Operand} {K : AV → Option β} (h : evBin E op ti (.int k a) (.int k' b) cst K = some r) :
 ∃ av o, K av = some r ∧ VR j av o ∧ (do eqGuard op xt xo yo (.int k a) (.int k' b); binOp op xt (.int k a) (.int k' b) : Sem Value).run P w = .ok o w := by
 cases op <;> simp only [evBin] at h <;> first
  | (obtain ⟨h1, h2⟩ := ite_inv' h; exact ⟨_, _, h2, vr_int _ _ _, bin_int_shl _ _ _ _ _ _ _ h1⟩)
  | (obtain ⟨h1, h2⟩ := ite_inv' h; exact ⟨_, _, h2, vr_int _ _ _, bin_int_shr _ _ _ _ _ _ _ h1⟩)
  | (obtain ⟨h1, h2⟩ := ite_inv h; subst h1; exact ⟨_, _, h2, vr_int _ _ _, by simp [eqGuard, binOp, Op.intArith, Op.intBits]⟩)
  | (obtain ⟨h1, h2⟩ := ite_inv h; subst h1; exact ⟨_, _, h2, vr_bool _ _, by simp [eqGuard, binOp, Op.intCmp]⟩)
  | (obtain ⟨h1, h2⟩ := ite_inv h; subst h1; obtain ⟨h3, h4⟩ := ite_inv' h2; exact ⟨_, _, h4, vr_int _ _ _, by simp [eqGuard, binOp, Op.intDiv, h3]⟩)
theorem evBin_str {op : BinOp} {xt : TypeId} {ti : TI} {a b : List UInt8} {cst : Bool} {xo yo : Operand} {K : AV → Option β} (h : evBin E op ti (.str a) (.str b) cst K = some r) :
 ∃ av o, K av = some r ∧ VR j av o ∧ (do eqGuard op xt xo yo (.string ⟨a.toArray⟩) (.string ⟨b.toArray⟩); binOp op xt (.string ⟨a.toArray⟩) (.string ⟨b.toArray⟩) : Sem Value).run P w = .ok o w := by
 cases op <;> simp only [evBin] at h <;> first
  | (cases h; done)
  | (obtain ⟨h1, h2⟩ := ite_inv h
     have : ¬ (((⟨a.toArray⟩ : ByteArray).size + (⟨b.toArray⟩ : ByteArray).size : Nat) : Int) > IntKind.i64.max := by
      rw [str_size, str_size]
      have : IntKind.i64.max = 9223372036854775807 := by decide
      omega
     exact ⟨_, _, h2, vr_str _ _, by simp only [eqGuard, binOp, Op.stringOp, Sem.run_bind, if_neg this, str_append]; rfl⟩)
  | exact ⟨_, _, h, vr_bool _ _, by simp [eqGuard, binOp, Op.stringOp, ByteArray.toList_mk]⟩
theorem evBin_ptr {op : BinOp} {xt : TypeId} {ti : TI} (ht : E.ty xt = some ti) {a b : Option Pos} {u v : Value} {cst : Bool} {xo yo : Operand} (hx : VR j (.ptr a) u) (hy : VR j (.ptr b) v) {K : AV → Option β} (h : evBin E op ti (.ptr a) (.ptr b) cst K = some r) :
 ∃ av o, K av = some r ∧ VR j av o ∧ (do eqGuard op xt xo yo u v; binOp op xt u v : Sem Value).run P w = .ok o w := by
 simp only [evBin] at h
 split at h
 case h_2 => cases h
 rename_i e hk
 split at h
 ·cases h
 rename_i te hte
 have hq := ite_inv' h
 clear h
 obtain ⟨hsz, h⟩ := hq
 have hu := hE.uPtr ht hk w
 have hs := hE.size hte w
 have hxn : ∀ a, VR j (.ptr a) u → ∃ a', u = .pointer a' ∧ a'.isNone = a.isNone := by
  intro a h
  cases a with
  | none => simp only [VR] at h; exact ⟨none, h, rfl⟩
  | some p => obtain ⟨b, i⟩ := p; simp only [VR] at h; obtain ⟨x, _, h2⟩ := h; exact ⟨_, h2, rfl⟩
 obtain ⟨ua, rfl, hua⟩ := hxn a hx
 split at h
 ·split at h
  ·simp only [VR] at hy; subst hy
   exact ⟨_, _, h, vr_bool _ _, by rw [← hua]; exact bin_eql _ _ _ _ _ _ (by simp [eqGuard]) (by simp only [binOp]) (eqIn_ptr_nil _ _ _ _ hu)⟩
  ·rename_i q
   obtain ⟨qb, qi⟩ := q
   simp only [VR] at hy
   obtain ⟨y, hy1, rfl⟩ := hy
   split at h
   ·simp only [VR] at hx; cases hx
    exact ⟨_, _, h, vr_bool _ _, bin_eql _ _ _ _ _ _ (by simp [eqGuard]) (by simp only [binOp]) (eqIn_nil_ptr _ _ _ _ hu)⟩
   ·rename_i p
    obtain ⟨pb, pi⟩ := p
    have hq := ite_inv h
    clear h
    obtain ⟨hpq, h⟩ := hq
    simp only at hpq; subst hpq
    simp only [VR] at hx
    obtain ⟨x, hx1, hx2⟩ := hx
    cases hx2
    rw [hx1] at hy1; cases hy1
    refine ⟨_, _, h, vr_bool _ _, ?_⟩
    have := bin_eql (P := P) (w := w) xt xo yo _ _ _ (by simp [eqGuard]) (by simp only [binOp]) (eqIn_ptr 9999 xt e ⟨y.c, y.off + pi, none⟩ ⟨y.c, y.off + qi, none⟩ te.size hu hs hsz rfl)
    rw [this]
    have he : ((⟨y.c, y.off + pi, none⟩ : Addr) == ⟨y.c, y.off + qi, none⟩) = (pi == qi) := by
     rw [Bool.eq_iff_iff]; simp
    rw [he]
 ·split at h
  ·simp only [VR] at hy; subst hy
   exact ⟨_, _, h, vr_bool _ _, by rw [← hua]; exact bin_neq _ _ _ _ _ _ (by simp [eqGuard]) (by simp only [binOp]) (eqIn_ptr_nil _ _ _ _ hu)⟩
  ·rename_i q
   obtain ⟨qb, qi⟩ := q
   simp only [VR] at hy
   obtain ⟨y, hy1, rfl⟩ := hy
   split at h
   ·simp only [VR] at hx; cases hx
    exact ⟨_, _, h, vr_bool _ _, bin_neq _ _ _ _ _ _ (by simp [eqGuard]) (by simp only [binOp]) (eqIn_nil_ptr _ _ _ _ hu)⟩
   ·rename_i p
    obtain ⟨pb, pi⟩ := p
    have hq := ite_inv h
    clear h
    obtain ⟨hpq, h⟩ := hq
    simp only at hpq; subst hpq
    simp only [VR] at hx
    obtain ⟨x, hx1, hx2⟩ := hx
    cases hx2
    rw [hx1] at hy1; cases hy1
    refine ⟨_, _, h, vr_bool _ _, ?_⟩
    have := bin_neq (P := P) (w := w) xt xo yo _ _ _ (by simp [eqGuard]) (by simp only [binOp]) (eqIn_ptr 9999 xt e ⟨y.c, y.off + pi, none⟩ ⟨y.c, y.off + qi, none⟩ te.size hu hs hsz rfl)
    rw [this]
    have he : ((⟨y.c, y.off + pi, none⟩ : Addr) == ⟨y.c, y.off + qi, none⟩) = (pi == qi) := by
     rw [Bool.eq_iff_iff]; simp
    rw [he]
 ·cases h
theorem evBin_sound {op : BinOp} {xt : TypeId} {ti : TI} (ht : E.ty xt = some ti) {x y : AV} {u v : Value} {xo yo : Operand} (hx : VR j x u) (hy : VR j y v) {K : AV → Option β}
 (h : evBin E op ti x y ((match xo with | .const _ => true | _ => false) || (match yo with | .const _ => true | _ => false)) K = some r) :
 ∃ av o, K av = some r ∧ VR j av o ∧ (do eqGuard op xt xo yo u v; binOp op xt u v : Sem Value).run P w = .ok o w := by
 cases x with
 | int k a =>
   cases y with
   | int k' b => simp only [VR] at hx hy; subst hx hy; exact evBin_int hE h
   | _ => simp only [evBin] at h; cases h
 | str a =>
   cases y with
   | str b => simp only [VR] at hx hy; subst hx hy; exact evBin_str hE h
   | _ => simp only [evBin] at h; cases h
 | ptr a =>
   cases y with
   | ptr b => exact evBin_ptr hE ht hx hy h
   | _ => simp only [evBin] at h; cases h
 | bool a =>
   cases y with
   | bool b =>
     simp only [VR] at hx hy; subst hx hy
     simp only [evBin] at h
     split at h
     ·rename_i hk
      have hu := hE.uBool ht hk w
      split at h
      ·exact ⟨_, _, h, vr_bool _ _, bin_eql _ _ _ _ _ _ (by simp [eqGuard]) (by simp only [binOp]) (eqIn_bool _ _ _ _ hu)⟩
      ·exact ⟨_, _, h, vr_bool _ _, bin_neq _ _ _ _ _ _ (by simp [eqGuard]) (by simp only [binOp]) (eqIn_bool _ _ _ _ hu)⟩
      ·cases h
     ·cases h
   | _ => simp only [evBin] at h; cases h
 | sl a l c =>
   cases y with
   | sl b l' c' =>
     simp only [evBin] at h
     split at h
     case h_2 => cases h
     rename_i e hk
     have hu := hE.uSl ht hk w
     split at h
     case h_2 => cases h
     simp only [VR] at hy
     obtain ⟨_, _, rfl⟩ := hy
     have hxn : ∃ a' l c, u = .slice a' l c ∧ a'.isNone = a.isNone := by
      cases a with
      | none => simp only [VR] at hx; exact ⟨none, 0, 0, hx.2.2, rfl⟩
      | some p => obtain ⟨b, i⟩ := p; simp only [VR] at hx; obtain ⟨x, o, c', _, h2, _⟩ := hx; exact ⟨_, _, _, h2, rfl⟩
     obtain ⟨a', l2, c2, rfl, hn⟩ := hxn
     split at h
     ·exact ⟨_, _, h, vr_bool _ _, by rw [← hn]; exact bin_eql _ _ _ _ _ _ (by simp [eqGuard]) (by simp only [binOp]) (eqIn_sl_nil _ _ _ _ _ _ _ _ hu)⟩
     ·exact ⟨_, _, h, vr_bool _ _, by rw [← hn]; exact bin_neq _ _ _ _ _ _ (by simp [eqGuard]) (by simp only [binOp]) (eqIn_sl_nil _ _ _ _ _ _ _ _ hu)⟩
     ·cases h
   | _ => simp only [evBin] at h; cases h
 | mp a =>
   cases y with
   | mp b =>
     simp only [evBin] at h
     split at h
     case h_2 => cases h
     rename_i kt e hk
     have hu := hE.uMap ht hk w
     split at h
     case h_2 => cases h
     simp only [VR] at hy
     subst hy
     have hxn : ∃ a', u = .map a' ∧ a'.isNone = a.isNone := by
      cases a with
      | none => simp only [VR] at hx; exact ⟨none, hx, rfl⟩
      | some p => simp only [VR] at hx; obtain ⟨x, _, h2⟩ := hx; exact ⟨_, h2, rfl⟩
     obtain ⟨a', rfl, hn⟩ := hxn
     split at h
     ·exact ⟨_, _, h, vr_bool _ _, by rw [← hn]; exact bin_eql _ _ _ _ _ _ (by simp [eqGuard]) (by simp only [binOp]) (eqIn_mp_nil _ _ _ _ _ hu)⟩
     ·exact ⟨_, _, h, vr_bool _ _, by rw [← hn]; exact bin_neq _ _ _ _ _ _ (by simp [eqGuard]) (by simp only [binOp]) (eqIn_mp_nil _ _ _ _ _ hu)⟩
     ·cases h
   | _ => simp only [evBin] at h; cases h
 | nilFn =>
   cases y with
   | nilFn =>
     simp only [VR] at hx hy; subst hx hy
     simp only [evBin] at h
     split at h
     case h_2 => cases h
     rename_i hk
     obtain ⟨p1, p2, p3, hu⟩ := hE.uFn ht hk w
     split at h
     ·exact ⟨_, _, h, vr_bool _ _, bin_eql _ _ _ _ _ _ (by simp [eqGuard]) (by simp only [binOp]) (eqIn_fn_nil _ _ hu)⟩
     ·exact ⟨_, _, h, vr_bool _ _, bin_neq _ _ _ _ _ _ (by simp [eqGuard]) (by simp only [binOp]) (eqIn_fn_nil _ _ hu)⟩
     ·cases h
   | _ => simp only [evBin] at h; cases h
 | fn f a b =>
   cases y with
   | nilFn =>
     simp only [VR] at hx hy; subst hy
     obtain ⟨A, B, rfl, _⟩ := hx
     simp only [evBin] at h
     split at h
     case h_2 => cases h
     rename_i hk
     obtain ⟨p1, p2, p3, hu⟩ := hE.uFn ht hk w
     split at h
     ·exact ⟨_, _, h, vr_bool _ _, bin_eql _ _ _ _ _ _ (by simp [eqGuard]) (by simp only [binOp]) (eqIn_fn _ _ _ _ _ hu)⟩
     ·exact ⟨_, _, h, vr_bool _ _, bin_neq _ _ _ _ _ _ (by simp [eqGuard]) (by simp only [binOp]) (eqIn_fn _ _ _ _ _ hu)⟩
     ·cases h
   | _ => simp only [evBin] at h; cases h
 | nilIface =>
   cases y with
   | nilIface =>
     simp only [VR] at hx hy; subst hx hy
     simp only [evBin] at h
     split at h
     case h_2 => cases h
     rename_i hk
     obtain ⟨hc, h⟩ := cond_inv h
     obtain ⟨p1, hu⟩ := hE.uIface ht hk w
     have hg : ∀ op, (eqGuard op xt xo yo .nilIface .nilIface).run P w = .ok () w := by
      intro op
      cases op <;> simp [eqGuard, hc]
      all_goals (cases xo <;> cases yo <;> simp_all)
     split at h
     ·exact ⟨_, _, h, vr_bool _ _, bin_eql _ _ _ _ _ _ (hg _) (by simp only [binOp]) (eqIn_if_nil _ _ hu)⟩
     ·exact ⟨_, _, h, vr_bool _ _, bin_neq _ _ _ _ _ _ (hg _) (by simp only [binOp]) (eqIn_if_nil _ _ hu)⟩
     ·cases h
   | _ => simp only [evBin] at h; cases h
 | iface t x =>
   cases y with
   | nilIface =>
     simp only [VR] at hx hy; subst hy
     obtain ⟨y, rfl, _⟩ := hx
     simp only [evBin] at h
     split at h
     case h_2 => cases h
     rename_i hk
     obtain ⟨p1, hu⟩ := hE.uIface ht hk w
     split at h
     ·exact ⟨_, _, h, vr_bool _ _, bin_eql _ _ _ _ _ _ (by simp [eqGuard]) (by simp only [binOp]) (eqIn_if _ _ _ _ hu)⟩
     ·exact ⟨_, _, h, vr_bool _ _, bin_neq _ _ _ _ _ _ (by simp [eqGuard]) (by simp only [binOp]) (eqIn_if _ _ _ _ hu)⟩
     ·cases h
   | _ => simp only [evBin] at h; cases h
 | agg l =>
   cases y with
   | agg m =>
     simp only [VR] at hx hy
     obtain ⟨A, rfl, hA, _⟩ := hx
     obtain ⟨B, rfl, hB, _⟩ := hy
     simp only [evBin] at h
     obtain ⟨hp, h⟩ := cond_inv h
     obtain ⟨hl, h⟩ := ite_inv h
     obtain ⟨hm, h⟩ := ite_inv h
     obtain ⟨heq, hg⟩ := (hE.ty xt ti ht).plain hp j l m A B w hl hm hA hB
     split at h
     ·exact ⟨_, _, h, vr_bool _ _, bin_eql _ _ _ _ _ _ (by simp [eqGuard, hg]) (by simp only [binOp]) heq⟩
     ·exact ⟨_, _, h, vr_bool _ _, bin_neq _ _ _ _ _ _ (by simp [eqGuard, hg]) (by simp only [binOp]) heq⟩
     ·cases h
   | _ => simp only [evBin] at h; cases h
 | undef => cases y <;> (simp only [evBin] at h; cases h)
 | yld k => cases y <;> (simp only [evBin] at h; cases h)
 | tup l => cases y <;> (simp only [evBin] at h; cases h)
 | mth t n => cases y <;> (simp only [evBin] at h; cases h)
end
end Go.Gr
