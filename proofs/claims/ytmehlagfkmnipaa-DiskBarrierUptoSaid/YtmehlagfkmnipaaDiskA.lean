/- What the functions of package disk do with a heap. -/
import Derived.Test.YtmehlagfkmnipaaRF
import Derived.Test.YtmehlagfkmnipaaGrSep
set_option linter.unusedVariables false
set_option linter.unusedSimpArgs false
set_option maxRecDepth 4000
namespace Go.Dk
open Go.Gr

def orcL : Orc := fun f args => match args with
  | [] => cond (Nat.beq f 10) (some (.bool true)) none
  | _ => none
theorem oL {f : FuncId} (h : Nat.beq f 10 = false) : ∀ args, orcL f args = none := by
  intro args
  cases args with
  | nil => simp [orcL, h]
  | cons x xs => rfl

noncomputable abbrev ev (n : Nat) : CallA := evF E orcL n

/-- A stable sector: its bytes, its injury. -/
structure Sec where
  d : List UInt8
  h : Int

/-- A disk as it is. -/
structure DM where
  size : Nat
  secs : List Sec
  q : List (Nat × List UInt8)
  off : Bool
  writes : Int

structure DM.WF (D : DM) : Prop where
  lo : 8 ≤ D.size
  hi : D.size ≤ 512
  n1 : 1 ≤ D.secs.length
  n2 : D.secs.length ≤ 65536
  s : ∀ x ∈ D.secs, x.d.length = D.size
  q : ∀ w ∈ D.q, w.1 < D.secs.length ∧ w.2.length = D.size
  ql : D.q.length ≤ 4096

def encSec (x : Sec) : List AV := ofBytes x.d ++ (List.replicate (512 - x.d.length) (.int .u8 0) ++ [.int .i64 x.h])
def encW (w : Nat × List UInt8) : List AV := [.int .i64 w.1, .str w.2]

def hdr (D : DM) (sa : Option Pos) (sl : Nat) (sc : Cap) (qa : Option Pos) (ql : Nat) (qc : Cap) : List AV :=
  [.int .i64 D.size, .sl sa sl sc, .sl qa ql qc, .bool D.off, .int .i64 D.writes]

structure DiskR (b : Nat) (D : DM) (sa : Option Pos) (sl : Nat) (sc : Cap) (qa : Option Pos) (ql : Nat) (qc : Cap) (Ls Lq : List Ent) : Prop where
  wf : D.WF
  hs : SlR sa sl sc 513 (D.secs.map encSec) Ls
  hq : SlR qa ql qc 2 (D.q.map encW) Lq

/-- A disk in the heap, with all that it owns. -/
def Disk (b : Nat) (D : DM) (L : List Ent) : Prop := ∃ sa sl sc qa ql qc Ls Lq, DiskR b D sa sl sc qa ql qc Ls Lq ∧ L = C b (hdr D sa sl sc qa ql qc) :: (Ls ++ Lq)

def DM.inn (D : DM) (at_ : Int) : Bool := decide (0 ≤ at_) && decide (at_ < D.secs.length)

theorem DiskR.sl_eq {b D sa sl sc qa ql qc Ls Lq} (h : DiskR b D sa sl sc qa ql qc Ls Lq) : sl = D.secs.length := by have := h.hs.len; simpa using this
theorem DiskR.ql_eq {b D sa sl sc qa ql qc Ls Lq} (h : DiskR b D sa sl sc qa ql qc Ls Lq) : ql = D.q.length := by have := h.hq.len; simpa using this

theorem DiskR.secs {b D sa sl sc qa ql qc Ls Lq} (h : DiskR b D sa sl sc qa ql qc Ls Lq) : ∃ bs, sa = some (.rw bs, 0) ∧ sl = D.secs.length ∧ (sc = .ex D.secs.length ∨ sc = .op 513 D.secs.length) ∧ Ls = [C bs (D.secs.map encSec).flatten] := by
  have hn := h.wf.n1
  rcases h.hs.dest with ⟨_, _, _, h4, _⟩ | ⟨bs, h1, h2, h3, h4, _⟩
  · have := congrArg List.length h4; simp at this; rw [this] at hn; simp at hn
  · exact ⟨bs, h1, by simpa using h2, by simpa using h3, h4⟩
theorem DiskR.queue {b D sa sl sc qa ql qc Ls Lq} (h : DiskR b D sa sl sc qa ql qc Ls Lq) : (qa = none ∧ ql = 0 ∧ qc = .ex 0 ∧ D.q = [] ∧ Lq = []) ∨ ∃ bq, qa = some (.rw bq, 0) ∧ ql = D.q.length ∧ (qc = .ex D.q.length ∨ qc = .op 2 D.q.length) ∧ Lq = [C bq (D.q.map encW).flatten] := by
  rcases h.hq.dest with ⟨h1, h2, h3, h4, h5⟩ | ⟨bs, h1, h2, h3, h4, _⟩
  · exact .inl ⟨h1, h2, h3, by simpa using h4, h5⟩
  · exact .inr ⟨bs, h1, by simpa using h2, by simpa using h3, h4⟩

theorem num_eq (n : Nat) (x : Int) (S : AS) : ev (n + 1) (.fn 12) [.int .i64 x] S = some (.int .i64 x, S) := by
  rw [ev, F12 _ _ _ (oL rfl)]; rfl

section
variable {X : Cx} {S : AS} {L F : List Ent} {b : Nat} {D : DM}

theorem ok_eq {q : Option (AV × AS)} {v : AV} {S : AS} (h : Ok q (fun w S' => w = v ∧ S' = S)) : q = some (v, S) := by
  obtain ⟨w, S', e, rfl, rfl⟩ := h
  exact e

theorem in_eq (n : Nat) (h : Hp X S (L ++ F)) (hd : Disk b D L) (at_ : Int) : ev (n + 1) (.fn 40) [.ptr (some (.rw b, 0)), .int .i64 at_] S = some (.bool (D.inn at_), S) := by
  obtain ⟨sa, sl, sc, qa, ql, qc, Ls, Lq, hr, rfl⟩ := hd
  have hl := hr.sl_eq
  apply ok_eq
  rw [ev, F40 _ _ _ _ (oL rfl)]
  simp only [J40, b40_entry]
  refine ok_cond (fun hc => ?_) (fun hc => ?_)
  · refine ok_gO ?_
    refine ok_ldL h rfl ?_
    refine ok_ret ⟨?_, rfl⟩
    simp only [ge_iff_le, decide_eq_true_eq] at hc
    simp [DM.inn, hc, hl]
  · refine ok_ret ⟨?_, rfl⟩
    simp only [ge_iff_le, decide_eq_false_iff_not] at hc
    simp [DM.inn, hc]

def DM.writeE (D : DM) (at_ : Int) (s : List UInt8) : Int :=
  if D.inn at_ = false then 2 else if s.length ≠ D.size then 40 else if D.off = true then 41 else if 4096 ≤ D.q.length then 6 else 0
def DM.write (D : DM) (at_ : Int) (s : List UInt8) : DM := if D.writeE at_ s = 0 then { D with q := D.q ++ [(at_.toNat, s)] } else D

theorem write_ok (n : Nat) (h : Hp X S (L ++ F)) (hd : Disk b D L) (at_ : Int) {s : List UInt8} {a : Option Pos} {l : Nat} {c : Cap} (hr : RdR X (L ++ F) a (ofBytes s)) (hl : l = s.length) :
    Ok (ev (n + 2) (.fn 13) [.ptr (some (.rw b, 0)), .int .i64 at_, .sl a l c] S) fun v S' => v = .int .i64 (D.writeE at_ s) ∧ ∃ L', Disk b (D.write at_ s) L' ∧ Hp X S' (L' ++ F) := by
  have hin := in_eq n h hd at_
  have hd0 := hd
  obtain ⟨sa, sl, sc, qa, ql, qc, Ls, Lq, hR, rfl⟩ := hd
  have hql := hR.ql_eq
  have hwf := hR.wf
  rw [ev, F13 _ _ _ _ _ _ _ (oL rfl)]
  simp only [J13, b13_entry]
  refine ok_false rfl ?_
  rw [callB_of hin]
  have same : ∀ e, D.writeE at_ s = e → e ≠ 0 → Ok (some (.int .i64 e, S)) fun v S' => v = .int .i64 (D.writeE at_ s) ∧ ∃ L', Disk b (D.write at_ s) L' ∧ Hp X S' (L' ++ F) := fun e he h0 =>
    ok_ret ⟨by rw [he], _, by rw [DM.write, if_neg (by rw [he]; exact h0)]; exact hd0, h⟩
  refine ok_cond (fun hc => same _ ?_ (by decide)) (fun hc => ?_)
  · simp only [Bool.not_eq_true'] at hc
    simp [DM.writeE, hc]
  simp only [Bool.not_eq_false'] at hc
  refine ok_gO (ok_ldI h rfl ?_)
  refine ok_cond (fun hc2 => same _ ?_ (by decide)) (fun hc2 => ?_)
  · simp only [bne_iff_ne, ne_eq] at hc2
    rw [DM.writeE, if_neg (by simp [hc]), if_pos (by omega)]
  simp only [bne_eq_false_iff_eq] at hc2
  refine ok_gO (ok_ldB h rfl ?_)
  refine ok_cond (fun hc3 => same _ ?_ (by decide)) (fun hc3 => ?_)
  · rw [DM.writeE, if_neg (by simp [hc]), if_neg (by omega), if_pos hc3]
  refine ok_gO (ok_ldL h rfl ?_)
  refine ok_cond (fun hc4 => same _ ?_ (by decide)) (fun hc4 => ?_)
  · simp only [ge_iff_le, decide_eq_true_eq] at hc4
    rw [DM.writeE, if_neg (by simp [hc]), if_neg (by omega), if_neg (by simp [hc3]), if_pos (by omega)]
  simp only [ge_iff_le, decide_eq_false_iff_not] at hc4
  have hE : D.writeE at_ s = 0 := by rw [DM.writeE, if_neg (by simp [hc]), if_neg (by omega), if_neg (by simp [hc3]), if_neg (by omega)]
  refine ok_drawA h [9] (by decide) (by decide) (fun b1 S1 h => ?_)
  simp only [List.map_cons, List.map_nil, List.cons_append, List.nil_append] at h
  refine ok_gO (ok_ldL h rfl ?_)
  rw [bytesStr_of (hr.mono (by intro e he; exact List.mem_cons_of_mem _ he)) h hl]
  refine ok_layA h (fun S2 h => ?_)
  have h' := h.re (M := Lq ++ (C (b1 + 9) [.int .i64 at_, .str s] :: C b (hdr D sa sl sc qa ql qc) :: (Ls ++ F))) (by intro p; simp only [List.countP_append, List.countP_cons, List.cons_append, C]; omega)
  have hat : ((at_.toNat : Nat) : Int) = at_ := by
    simp only [DM.inn, Bool.and_eq_true, decide_eq_true_eq] at hc
    exact Int.toNat_of_nonneg hc.1
  have hlt : at_.toNat < D.secs.length := by
    simp only [DM.inn, Bool.and_eq_true, decide_eq_true_eq] at hc
    omega
  have hq4 : D.q.length < 4096 := by omega
  refine ok_append h' hR.hq (ys := [encW (at_.toNat, s)]) (by simp [encW]) rfl (fun K => ?_) (by decide) (by simp [pow46]; omega) (by simp [pow46]; omega) (fun a l c S3 Lq' hq' h => ?_)
  · have := RdR.first (.rw (X := X) (b := b1 + 9) (i := 0) (c := [.int .i64 at_, .str s]) (cs := [.int .i64 at_, .str s]) (L := (b1 + 9, some (AObj.cells [AV.int IntKind.i64 at_, AV.str s])) :: (C b (hdr D sa sl sc qa ql qc) :: (Ls ++ Lq) ++ F)) List.mem_cons_self (by simp) rfl) h (sz := 2) (n := 1) rfl (by decide) (l := 1) (c := .ex 1) K
    simpa [encW, hat] using this
  refine ok_gO (ok_stn h (by simp [hdr]) (d := hdr (D.write at_ s) sa sl sc a l c) ?_ (fun S4 h => ok_ret ⟨by rw [hE], ?_⟩))
  · simp [DM.write, hE, hdr, splice]
  refine ⟨C b (hdr (D.write at_ s) sa sl sc a l c) :: (Ls ++ Lq'), ⟨sa, sl, sc, a, l, c, Ls, Lq', ⟨?_, ?_, ?_⟩, rfl⟩, ?_⟩
  · simp only [DM.write, hE, if_true]
    refine ⟨hwf.lo, hwf.hi, hwf.n1, hwf.n2, hwf.s, fun w hw => ?_, by simp; omega⟩
    rcases List.mem_append.1 hw with hw | hw
    · exact hwf.q w hw
    · rw [List.mem_singleton.1 hw]; exact ⟨hlt, by show s.length = D.size; omega⟩
  · simpa [DM.write, hE] using hR.hs
  · simpa [DM.write, hE] using hq'
  · exact (h.re (M := C (b1 + 9) [.int .i64 at_, .str s] :: (C b (hdr (D.write at_ s) sa sl sc a l c) :: (Ls ++ Lq') ++ F)) (by intro p; simp only [List.countP_append, List.countP_cons, List.cons_append, C]; omega)).drop1
end

end Go.Dk
