/- What the functions of package disk do with a heap: settling, flushing, asking. -/
import Derived.Test.YtmehlagfkmnipaaDiskA
set_option linter.unusedVariables false
set_option linter.unusedSimpArgs false
set_option maxRecDepth 4000
namespace Go.Dk
open Go.Gr

section
variable {X : Cx} {S : AS} {L F : List Ent} {b : Nat} {D : DM}

theorem size_eq (n : Nat) (h : Hp X S (L ++ F)) (hd : Disk b D L) : ev (n + 1) (.fn 38) [.ptr (some (.rw b, 0))] S = some (.int .i64 D.size, S) := by
  obtain ⟨sa, sl, sc, qa, ql, qc, Ls, Lq, hr, rfl⟩ := hd
  apply ok_eq
  rw [ev, F38 _ _ _ (oL rfl)]
  simp only [J38, b38_entry]
  exact ok_false rfl (ok_gO (ok_ldI h rfl (ok_ret ⟨rfl, rfl⟩)))

theorem writes_eq (n : Nat) (h : Hp X S (L ++ F)) (hd : Disk b D L) : ev (n + 1) (.fn 18) [.ptr (some (.rw b, 0))] S = some (.int .i64 D.writes, S) := by
  obtain ⟨sa, sl, sc, qa, ql, qc, Ls, Lq, hr, rfl⟩ := hd
  apply ok_eq
  rw [ev, F18 _ _ _ (oL rfl)]
  simp only [J18, b18_entry]
  exact ok_false rfl (ok_gO (ok_ldI h rfl (ok_ret ⟨rfl, rfl⟩)))

theorem encSec_len {x : Sec} {n : Nat} (h : x.d.length = n) (hn : n ≤ 512) : (encSec x).length = 513 := by
  simp [encSec]; omega

theorem DM.WF.enc {D : DM} (h : D.WF) : ∀ x ∈ D.secs.map encSec, x.length = 513 := by
  intro x hx
  obtain ⟨y, hy, rfl⟩ := List.mem_map.1 hx
  exact encSec_len (h.s y hy) h.hi

/-- A write made stable. -/
def DM.settle (D : DM) (w : Nat × List UInt8) : DM := { D with secs := D.secs.set w.1 ⟨w.2, 0⟩, writes := IntKind.wrap .i64 (D.writes + 1) }

theorem zsec : splice (List.replicate 512 (AV.int .u8 0 : AV) ++ [AV.int .i64 0]) 0 (List.replicate 512 (AV.int .u8 0 : AV) ++ [AV.int .i64 0]) = List.replicate 512 (AV.int .u8 0 : AV) ++ [AV.int .i64 0] := by
  simp only [splice, List.take_zero, List.nil_append, Nat.zero_add]
  rw [List.drop_of_length_le (Nat.le_refl _), List.append_nil]

theorem sec_of (s : List UInt8) (hs : s.length ≤ 512) : splice (List.replicate 512 (AV.int .u8 0 : AV) ++ [AV.int .i64 0]) 0 (ofBytes s) = encSec ⟨s, 0⟩ := by
  simp only [splice, encSec, List.take_zero, List.nil_append, Nat.zero_add, ofBytes_len]
  rw [List.drop_append_of_le_length (by simpa using hs), List.drop_replicate]

theorem settle_ok (n : Nat) {sa : Option Pos} {sl : Nat} {sc : Cap} {qa : Option Pos} {ql : Nat} {qc : Cap} {Ls Lq : List Ent} (hd : DiskR b D sa sl sc qa ql qc Ls Lq) (h : Hp X S (C b (hdr D sa sl sc qa ql qc) :: (Ls ++ F))) (w : Nat × List UInt8) (hw : w.1 < D.secs.length) (hl : w.2.length = D.size) :
    Ok (ev (n + 1) (.fn 44) [.ptr (some (.rw b, 0)), .agg (encW w)] S) fun v S' => v = .tup [] ∧ ∃ Ls', DiskR b (D.settle w) sa sl sc qa ql qc Ls' Lq ∧ Hp X S' (C b (hdr (D.settle w) sa sl sc qa ql qc) :: (Ls' ++ F)) := by
  have hwf := hd.wf
  have hl5 : w.2.length ≤ 512 := by rw [hl]; exact hwf.hi
  have e5 : (encSec ⟨w.2, 0⟩).length = 513 := encSec_len (n := D.size) hl hwf.hi
  obtain ⟨bs, rfl, rfl, hc, rfl⟩ := hd.secs
  have hx := hwf.enc
  rw [ev, F44 _ _ _ _ (oL rfl)]
  simp only [J44, b44_entry]
  refine ok_ifO (by simp [encW]) ?_
  refine ok_newA h (fun b1 S1 h => ?_)
  refine ok_newA h (fun b3 S2 h => ?_)
  refine ok_stn h (by simp) zsec (fun S3 h => ?_)
  rw [slArr_full (by decide)]
  refine ok_ldS h rfl ?_
  rw [copyA_str hl5]
  refine ok_stn h (by simp; omega) (sec_of w.2 hl5) (fun S4 h => ?_)
  refine ok_gO (ok_ldL h rfl ?_)
  refine ok_ldI h rfl ?_
  refine ok_ldn h (by omega) (d := encSec ⟨w.2, 0⟩) (by rw [List.drop_zero]; exact List.take_of_length_le (by omega)) ?_
  refine ok_ixSl (k := w.1) rfl hw ?_
  refine ok_ifO e5 ?_
  refine ok_stn h (by rw [flat_len hx, e5, List.length_map]; have := Nat.mul_le_mul_right 513 (Nat.succ_le_of_lt hw); omega) (d := ((D.settle w).secs.map encSec).flatten) ?_ (fun S5 h => ?_)
  · rw [Nat.zero_add, flat_splice hx (by simpa using hw) e5, DM.settle, List.map_set]
  refine ok_gO (ok_ldI h rfl ?_)
  refine ok_gO (ok_stn h (by simp [hdr]) (d := hdr (D.settle w) (some (.rw bs, 0)) D.secs.length sc qa ql qc) ?_ (fun S6 h => ?_))
  · simp [hdr, DM.settle, splice]
  have hw2 : (D.settle w).WF := by
    refine ⟨hwf.lo, hwf.hi, by simpa [DM.settle] using hwf.n1, by simpa [DM.settle] using hwf.n2, ?_, by simpa [DM.settle] using hwf.q, hwf.ql⟩
    intro x hx
    rcases List.mem_or_eq_of_mem_set hx with hx | rfl
    · exact hwf.s x hx
    · exact hl
  refine ok_ret ⟨rfl, [C bs ((D.settle w).secs.map encSec).flatten], ⟨hw2, .of hw2.enc (by simp [DM.settle]) hc, hd.hq⟩, h.drop1.drop1⟩

theorem encW_all (q : List (Nat × List UInt8)) : ∀ x ∈ q.map encW, x.length = 2 := by
  intro x hx
  obtain ⟨y, _, rfl⟩ := List.mem_map.1 hx
  rfl

def DM.settles (D : DM) (ws : List (Nat × List UInt8)) : DM := ws.foldl DM.settle D

theorem DM.settle_q (D : DM) (w : Nat × List UInt8) : (D.settle w).q = D.q ∧ (D.settle w).size = D.size ∧ (D.settle w).off = D.off ∧ (D.settle w).secs.length = D.secs.length := ⟨rfl, rfl, rfl, by simp [DM.settle]⟩

/-- The loop of Flush, from a place on. -/
theorem flush_loop (n0 n : Nat) (ws : List (Nat × List UInt8)) : ∀ (m k : Nat) (D : DM) (S : AS) (sa : Option Pos) (sl : Nat) (sc : Cap) (bq : Nat) (qc : Cap) (Ls F : List Ent) (Q : AV → AS → Prop),
    D.q = ws → k ≤ ws.length → ws.length - k < m → DiskR b D sa sl sc (some (.rw bq, 0)) ws.length qc Ls [C bq (ws.map encW).flatten] → Hp X S (C b (hdr D sa sl sc (some (.rw bq, 0)) ws.length qc) :: (Ls ++ (C bq (ws.map encW).flatten :: F))) →
    (∀ S' Ls', DiskR b (D.settles (ws.drop k)) sa sl sc (some (.rw bq, 0)) ws.length qc Ls' [C bq (ws.map encW).flatten] → Hp X S' (C b (hdr (D.settles (ws.drop k)) sa sl sc (some (.rw bq, 0)) ws.length qc) :: (Ls' ++ (C bq (ws.map encW).flatten :: F))) → Ok (J17_j1_1_1 (ev (n + 1)) n0 (some (.rw b, 0)) S') Q) →
    Ok (J17_l1_1_0_1_0 (ev (n + 1)) n0 m (some (.rw b, 0)) (some (.rw bq, 0)) ws.length qc (ws.length : Nat) (k : Nat) S) Q
  | 0, k, D, S, sa, sl, sc, bq, qc, Ls, F, Q, hq, hk, hm, hd, h, ht => by omega
  | m + 1, k, D, S, sa, sl, sc, bq, qc, Ls, F, Q, hq, hk, hm, hd, h, ht => by
    have hql : ws.length ≤ 4096 := by rw [← hq]; exact hd.wf.ql
    rw [J17_l1_1_0_1_0_succ]
    simp only [b17_l1_1_0_1_0]
    refine ok_cond (fun hc => ?_) (fun hc => ?_)
    · simp only [decide_eq_true_eq] at hc
      have hlt : k < ws.length := by omega
      obtain ⟨w, hw⟩ : ∃ w, ws[k]? = some w := ⟨ws[k], by simp [hlt]⟩
      have hmem : w ∈ D.q := by rw [hq]; exact List.mem_of_getElem? hw
      obtain ⟨hw1, hw2⟩ := hd.wf.q w hmem
      have hkm : (ws.map encW)[k]? = some (encW w) := by simp [hw]
      have hfl := flat_len (encW_all ws)
      rw [List.length_map] at hfl
      refine ok_ixSl (k := k) rfl hlt ?_
      refine ok_ldn h (by rw [hfl]; omega) (d := encW w) (by rw [Nat.zero_add]; exact flat_at (encW_all ws) hkm) ?_
      refine ok_newA h (fun b7 S8 h => ?_)
      refine ok_ifO rfl ?_
      refine ok_stn h (by simp [encW]) (d := encW w) (by simp [encW, splice]) (fun S9 h => ?_)
      refine ok_ldn h (by simp [encW]) (d := encW w) (by simp [encW]) ?_
      have h' := h.re (M := C b (hdr D sa sl sc (some (.rw bq, 0)) ws.length qc) :: (Ls ++ (C bq (ws.map encW).flatten :: (C b7 (encW w) :: F)))) (by intro p; simp only [List.countP_append, List.countP_cons, List.cons_append, C]; omega)
      obtain ⟨v, S11, e, rfl, Ls', hd', h⟩ := settle_ok n hd h' w hw1 hw2
      rw [callT_of e]
      rw [wrap64 (by omega) (by omega)]
      have hdrop : ws.drop k = w :: ws.drop (k + 1) := by
        obtain ⟨hlt', he⟩ := List.getElem?_eq_some_iff.1 hw
        rw [List.drop_eq_getElem_cons hlt', he]
      refine flush_loop n0 n ws m (k + 1) (D.settle w) S11 sa sl sc bq qc Ls' F Q hq (by omega) (by omega) hd' ?_ (fun S' Ls'' hd'' h'' => ht S' Ls'' ?_ ?_)
      · exact (h.re (M := C b7 (encW w) :: C b (hdr (D.settle w) sa sl sc (some (.rw bq, 0)) ws.length qc) :: (Ls' ++ (C bq (ws.map encW).flatten :: F))) (by intro p; simp only [List.countP_append, List.countP_cons, List.cons_append, C]; omega)).drop1
      · rw [hdrop]; exact hd''
      · rw [hdrop]; exact h''
    · simp only [decide_eq_false_iff_not] at hc
      have hk' : k = ws.length := by omega
      subst hk'
      refine ht S Ls ?_ ?_
      · rw [List.drop_length]; exact hd
      · rw [List.drop_length]; exact h

def DM.flush (D : DM) : DM := if D.off = true then D else { D.settles D.q with q := [] }
def DM.flushE (D : DM) : Int := if D.off = true then 41 else 0

theorem DM.settles_wf {D : DM} {ws : List (Nat × List UInt8)} {sa : Option Pos} : D.WF → (∀ w ∈ ws, w.1 < D.secs.length ∧ w.2.length = D.size) → (D.settles ws).WF ∧ (D.settles ws).size = D.size ∧ (D.settles ws).off = D.off ∧ (D.settles ws).secs.length = D.secs.length ∧ (D.settles ws).q = D.q := by
  induction ws generalizing D with
  | nil => intro h _; exact ⟨h, rfl, rfl, rfl, rfl⟩
  | cons w ws ih =>
    intro h hw
    have h1 := hw w List.mem_cons_self
    have h2 : (D.settle w).WF := by
      refine ⟨h.lo, h.hi, by simpa [DM.settle] using h.n1, by simpa [DM.settle] using h.n2, ?_, by simpa [DM.settle] using h.q, h.ql⟩
      intro x hx
      rcases List.mem_or_eq_of_mem_set hx with hx | rfl
      · exact h.s x hx
      · exact h1.2
    obtain ⟨a, b, c, d, e⟩ := ih h2 (fun u hu => by simpa [DM.settle] using hw u (List.mem_cons_of_mem _ hu))
    exact ⟨a, b, c, by rw [show (D.settles (w :: ws)) = (D.settle w).settles ws from rfl, d]; simp [DM.settle], e⟩

theorem flush_ok (n : Nat) (hn : 4096 < n) (h : Hp X S (L ++ F)) (hd : Disk b D L) :
    Ok (ev (n + 2) (.fn 17) [.ptr (some (.rw b, 0))] S) fun v S' => v = .int .i64 D.flushE ∧ ∃ L', Disk b D.flush L' ∧ Hp X S' (L' ++ F) := by
  have hd0 := hd
  obtain ⟨sa, sl, sc, qa, ql, qc, Ls, Lq, hR, rfl⟩ := hd
  have hwf := hR.wf
  have hql := hR.ql_eq
  subst hql
  rw [ev, F17 _ _ _ (oL rfl)]
  simp only [J17, b17_entry]
  refine ok_false rfl (ok_gO (ok_ldB h rfl ?_))
  refine ok_cond (fun hc => ?_) (fun hc => ?_)
  · exact ok_ret ⟨by simp [DM.flushE, hc], _, by simpa [DM.flush, hc] using hd0, h⟩
  refine ok_gO (ok_ldL h rfl ?_)
  -- what is done behind the loop
  have tail : ∀ (D' : DM) S' sa sl sc qa ql qc Ls' Lq' F', D'.q.length ≤ 4096 → DiskR b D' sa sl sc qa ql qc Ls' Lq' → Hp X S' (C b (hdr D' sa sl sc qa ql qc) :: (Ls' ++ F')) → (∀ e ∈ F, e ∈ F') → F.Sublist F' → D.flush = { D' with q := [] } → D.off = false →
      Ok (J17_j1_1_1 (ev (n + 1)) (n + 1) (some (.rw b, 0)) S') fun v S' => v = .int .i64 D.flushE ∧ ∃ L', Disk b D.flush L' ∧ Hp X S' (L' ++ F) := by
    intro D' S' sa sl sc qa ql qc Ls' Lq' F' _ hd' h' _ hs hf hoff
    simp only [J17_j1_1_1, b17_j1_1_1]
    refine ok_gO (ok_stn h' (by simp [hdr]) (d := hdr { D' with q := [] } sa sl sc none 0 (.ex 0)) (by simp [hdr, splice]) (fun S2 h2 => ?_))
    refine ok_ret ⟨by simp [DM.flushE, hoff], ?_⟩
    rw [hf]
    refine ⟨C b (hdr { D' with q := [] } sa sl sc none 0 (.ex 0)) :: (Ls' ++ []), ⟨sa, sl, sc, none, 0, .ex 0, Ls', [], ⟨⟨hd'.wf.lo, hd'.wf.hi, hd'.wf.n1, hd'.wf.n2, hd'.wf.s, ?_, ?_⟩, hd'.hs, .nil⟩, rfl⟩, ?_⟩
    · intro w hw; cases hw
    · simp
    · refine h2.sub ?_
      simp only [List.append_nil, List.cons_append]
      exact (List.Sublist.append (List.Sublist.refl _) hs).cons_cons _
  rcases hR.queue with ⟨rfl, hq0, rfl, hq, rfl⟩ | ⟨bq, rfl, _, hqc, rfl⟩
  · rw [J17_l1_1_0_1_0_succ]
    simp only [b17_l1_1_0_1_0, hq]
    refine ok_false (by simp) ?_
    exact tail D S sa sl sc none _ (.ex 0) Ls [] F hwf.ql hR (by simpa using h) (fun _ h => h) (List.Sublist.refl _) (by simp [DM.flush, hc, hq, DM.settles]) hc
  · refine flush_loop (n + 1) n D.q (n + 1) 0 D S sa sl sc bq qc Ls F _ rfl (Nat.zero_le _) (by have := hwf.ql; omega) hR (by simpa using h) (fun S' Ls' hd' h' => ?_)
    rw [List.drop_zero] at hd' h'
    refine tail _ S' sa sl sc _ _ _ Ls' _ (C bq (D.q.map encW).flatten :: F) hd'.wf.ql hd' h' (fun e he => List.mem_cons_of_mem _ he) (List.sublist_cons_self _ _) (by simp [DM.flush, hc]) hc
theorem queue_ok (n : Nat) (h : Hp X S (L ++ F)) (hd : Disk b D L) :
    Ok (ev (n + 2) (.fn 16) [.ptr (some (.rw b, 0))] S) fun v S' => ∃ a l c L', v = .sl a l c ∧ SlR a l c 2 (D.q.map encW) L' ∧ Hp X S' (L' ++ (L ++ F)) := by
  obtain ⟨sa, sl, sc, qa, ql, qc, Ls, Lq, hR, rfl⟩ := hd
  have hql := hR.ql_eq
  have := hR.wf.ql
  rw [ev, F16 _ _ _ (oL rfl)]
  simp only [J16, b16_entry]
  refine ok_false rfl (ok_gO (ok_ldL h rfl ?_))
  have hc : Ok (ev (n + 1) (.fn 43) [.sl qa ql qc] S) fun v S' => ∃ a l c L', v = .sl a l c ∧ SlR a l c 2 (D.q.map encW) L' ∧ Hp X S' (L' ++ (C b (hdr D sa sl sc qa ql qc) :: (Ls ++ Lq) ++ F)) := by
    rw [ev, F43 _ _ _ _ _ (oL rfl)]
    simp only [J43, b43_entry]
    exact ok_clone h (hR.hq.rd (by intro e he; simp [he])) (encW_all _) (by simpa using hql) (by decide) (by simp [pow46]; omega) (by simp [pow46]; omega) rfl (fun a l c S' L' hs h => ⟨a, l, c, L', rfl, hs, h⟩)
  obtain ⟨v, S3, e, a, l, c, L', rfl, hs, h3⟩ := hc
  rw [callL_of e]
  exact ok_ret ⟨a, l, c, L', rfl, hs, h3⟩
end

end Go.Dk
