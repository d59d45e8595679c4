/- SameNumbers, SameRunning, SameRuns at alike lists: they say yes. No statement is proved here. -/
import Derived.Test.YticmfflnenoplaaEnD
import Derived.Deep.QuietTactic
namespace Go.Proofs.Yticmfflnenoplaa
open Go.RowKit
theorem below_drewN8 {B : Nat} {a w : World} (h : Below B a w) (n : Nat) : Below B a (w.drewN n) := ⟨h.os, h.tape, h.output, h.size, h.block⟩
theorem intsV_at (l : List Int) (k : Nat) (h : k < l.length) : (En.intsV l)[k]? = some (.int .i64 l[k]) := by
  simp [En.intsV, h]
set_option maxRecDepth 100000 in
set_option maxHeartbeats 2000000 in
theorem SameI_any (A A2 : Option Addr) (c c2 : Nat) (l : List Int) (S S2 : Nat → Prop) (w : World) (hl : l.length ≤ 1000000) (h1 : RdI w S A l) (h2 : RdI w S2 A2 l) :
    Calls Try.prog 96 #[.slice A l.length c, .slice A2 l.length c2] w (RetBB true w) := by
  have H1 := Lib.hid h1.2
  have H2 := Lib.hid h2.2
  clear h1 h2
  go_enter Try.func96, Try.ntmps96
  go_upto_region 4 with fail
  go_loopw [5] (fun i wi => ∃ k : Nat, i = .int .i64 k ∧ k ≤ l.length ∧ Below w.heap.size w wi) (fun i _ => l.length - (intOf i).toNat)
  case atStart => exact ⟨0, rfl, by omega, Below.refl _ _⟩
  case round =>
    obtain ⟨k, rfl, hk, hbel⟩ := hrel
    by_cases hlt : k < l.length
    · obtain ⟨b, off, rfl, _, hb, q⟩ := H1.out (by omega)
      obtain ⟨b2, off2, rfl, _, hb2, q2⟩ := H2.out (by omega)
      have r0 := (hbel.cell (p := ⟨b, off + k, none⟩) hb).trans (q k _ (intsV_at l k hlt))
      have s0 := (hbel.cell (p := ⟨b2, off2 + k, none⟩) hb2).trans (q2 k _ (intsV_at l k hlt))
      generalize l[k] = g at *
      clear q q2
      go_upto_region 6 with fail
      go_quiet (fail)
      go_wp2_with fail
      go_roundw
      case rel => exact ⟨k + 1, by go_num, by omega, below_drewN8 hbel _⟩
      case measure => simp [intOf]; omega
    · obtain rfl : k = l.length := by omega
      go_wp2_with fail
      go_ret
      exact ⟨rfl, hbel⟩
set_option maxRecDepth 100000 in
set_option maxHeartbeats 2000000 in
theorem SameRun_any (p c : ByteArray) (x : Int) (d : List Int) (A A2 : Option Addr) (n n2 : Nat) (S S2 : Nat → Prop) (w : World) (hl : d.length ≤ 1000000) (h1 : RdI w S A d) (h2 : RdI w S2 A2 d) :
    Calls Try.prog 135 #[.agg #[.string p, .string c, .int .u64 x, .slice A d.length n], .agg #[.string p, .string c, .int .u64 x, .slice A2 d.length n2]] w (RetBB true w) := by
  have hb0 : Below w.heap.size w ((w.alloc (.cells #[.string p, .string c, .int .u64 x, .slice A d.length n] 117)).alloc (.cells #[.string p, .string c, .int .u64 x, .slice A2 d.length n2] 117)) := ((Below.refl _ _).alloc (Nat.le_refl _) _).alloc (by simp) _
  have k1 : Blk ((w.alloc (.cells #[.string p, .string c, .int .u64 x, .slice A d.length n] 117)).alloc (.cells #[.string p, .string c, .int .u64 x, .slice A2 d.length n2] 117)) w.heap.size 117 #[.string p, .string c, .int .u64 x, .slice A d.length n] := (Blk.new w _ _).alloc _
  have k2 : Blk ((w.alloc (.cells #[.string p, .string c, .int .u64 x, .slice A d.length n] 117)).alloc (.cells #[.string p, .string c, .int .u64 x, .slice A2 d.length n2] 117)) (w.heap.size + 1) 117 #[.string p, .string c, .int .u64 x, .slice A2 d.length n2] := by
    have := Blk.new (w.alloc (.cells #[.string p, .string c, .int .u64 x, .slice A d.length n] 117)) 117 #[.string p, .string c, .int .u64 x, .slice A2 d.length n2]
    simpa using this
  have HS := Lib.hid (SameI_any A A2 n n2 d S S2 _ hl (h1.below hb0) (h2.below hb0))
  have H0 := Lib.hid hb0
  clear h1 h2 hb0
  go_enter Try.func135, Try.ntmps135
  go_upto_region 1 with fail
  generalize (w.alloc (.cells #[.string p, .string c, .int .u64 x, .slice A d.length n] 117)).alloc (.cells #[.string p, .string c, .int .u64 x, .slice A2 d.length n2] 117) = w0 at *
  have e1 := k1.cells
  have e2 := k2.cells
  have l1 := k1.lt
  have l2 := k2.lt
  go_wp2_with fail
  refine HS.out.mono ?_
  rintro e w1 ⟨rfl, hb1⟩
  have f1 := (k1.below hb1 l1).cells
  have f2 := (k2.below hb1 l2).cells
  have hbb := H0.out.trans (hb1.mono H0.out.size)
  clear e1 e2 k1 k2 hb1
  go_wp2_with fail
  go_ret
  exact ⟨rfl, hbb⟩
/-- A row of containers, in two places. -/
structure RowR (w : World) (A : Option Addr) (l : List En.Run) : Prop where
  cells : ∀ k (h : k < l.length), ∃ g off, A = some ⟨g, off, none⟩ ∧ g < w.heap.size ∧ ∀ j, j < 4 → w.cell? ⟨g, off + (k * 4 + j), none⟩ = (En.Run.cells l[k])[j]?
  devs : ∀ r ∈ l, RdI w (fun _ => True) r.dA r.devs
theorem RowR.own {w : World} {base : Nat} {A : Option Addr} {c : Nat} {l : List En.Run} (h : w.ownsRow base 117 4 (.slice A l.length c) l.length (En.flatR l)) (hd : ∀ r ∈ l, RdI w (fun _ => True) r.dA r.devs) : RowR w A l := by
  obtain ⟨A', c', he, h1, h2, h3⟩ := own_form h
  simp only [Value.slice.injEq, true_and] at he
  obtain ⟨rfl, rfl⟩ := he
  refine ⟨fun k hk => ?_, hd⟩
  obtain ⟨g, rfl, hg, _⟩ := h3 (by omega)
  exact ⟨g, 0, rfl, hg, fun j hj => by rw [Nat.zero_add, h.cellAt (k * 4 + j) (by omega), En.flatR_at l k hk j hj]⟩
set_option maxRecDepth 100000 in
set_option maxHeartbeats 2000000 in
theorem SameRuns_any (A A2 : Option Addr) (c c2 : Nat) (l l2 : List En.Run) (w : World) (hn : l.length ≤ 10000) (hd : ∀ r ∈ l, r.devs.length ≤ 1000000) (h1 : RowR w A l) (h2 : RowR w A2 l2) (he : l.map En.Run.pr = l2.map En.Run.pr) :
    Calls Try.prog 79 #[.slice A l.length c, .slice A2 l2.length c2] w (RetBB true w) := by
  have hll : l.length = l2.length := by simpa using congrArg List.length he
  have HE : Hid (∀ k (h : k < l.length) (h2 : k < l2.length), En.Run.pr l[k] = En.Run.pr l2[k]) := Lib.hid fun k h h2 => by
    have : (l.map En.Run.pr)[k]? = (l2.map En.Run.pr)[k]? := by rw [he]
    simpa [h, h2] using this
  have H1 := Lib.hid h1
  have H2 := Lib.hid h2
  have HD := Lib.hid hd
  have hl1 : l2.length ≤ l.length := by omega
  have hl2 : l.length ≤ l2.length := by omega
  have hq : ((l.length : Int) != (l2.length : Int)) = false := by rw [hll]; simp
  clear h1 h2 hd hll he
  go_enter Try.func79, Try.ntmps79
  go_upto_region 4 with fail
  go_loopw [5] (fun i wi => ∃ k : Nat, i = .int .i64 k ∧ k ≤ l.length ∧ Below w.heap.size w wi) (fun i _ => l.length - (intOf i).toNat)
  case atStart => exact ⟨0, rfl, by omega, Below.refl _ _⟩
  case round =>
    obtain ⟨k, rfl, hk, hbel⟩ := hrel
    by_cases hlt : k < l.length
    · obtain ⟨g, o, rfl, hg, q⟩ := H1.out.cells k hlt
      obtain ⟨g2, o2, rfl, hg2, q2⟩ := H2.out.cells k (by omega)
      have hpr := HE.out k hlt (by omega)
      have hd1 := (H1.out.devs l[k] (List.getElem_mem hlt)).below hbel
      have hd2 := (H2.out.devs (l2[k]'(by omega)) (List.getElem_mem (by omega))).below hbel
      have hdl := HD.out l[k] (List.getElem_mem hlt)
      generalize l[k] = r at *
      generalize l2[k] = r2 at *
      obtain ⟨rp, rc, rx, rd, rA, rdc⟩ := r
      obtain ⟨rp2, rc2, rx2, rd2, rA2, rdc2⟩ := r2
      simp only [En.Run.pr, En.PR.mk.injEq] at hpr
      obtain ⟨rfl, rfl, rfl, rfl⟩ := hpr
      have r0 := (hbel.cell (p := ⟨g, o + (k * 4 + 0), none⟩) hg).trans (q 0 (by omega))
      have r1 := (hbel.cell (p := ⟨g, o + (k * 4 + 1), none⟩) hg).trans (q 1 (by omega))
      have r2 := (hbel.cell (p := ⟨g, o + (k * 4 + 2), none⟩) hg).trans (q 2 (by omega))
      have r3 := (hbel.cell (p := ⟨g, o + (k * 4 + 3), none⟩) hg).trans (q 3 (by omega))
      have s0 := (hbel.cell (p := ⟨g2, o2 + (k * 4 + 0), none⟩) hg2).trans (q2 0 (by omega))
      have s1 := (hbel.cell (p := ⟨g2, o2 + (k * 4 + 1), none⟩) hg2).trans (q2 1 (by omega))
      have s2 := (hbel.cell (p := ⟨g2, o2 + (k * 4 + 2), none⟩) hg2).trans (q2 2 (by omega))
      have s3 := (hbel.cell (p := ⟨g2, o2 + (k * 4 + 3), none⟩) hg2).trans (q2 3 (by omega))
      simp only [En.Run.cells, ← Nat.add_assoc, Nat.add_zero] at r0 r1 r2 r3 s0 s1 s2 s3
      dsimp only at hd1 hd2 hdl
      have HSR := Lib.hid (fun W (hW : Below wr.heap.size wr W) => SameRun_any rp rc rx rd rA rA2 rdc rdc2 _ _ W hdl (hd1.below hW) (hd2.below hW))
      clear q q2 hd1 hd2
      go_upto_region 6 with fail
      have hI : Below wr.heap.size wr wr.drew := (Below.refl _ _).drew
      refine Flo.region 9 [(0, true), (1, true), (2, true), (3, true), (4, true), (5, true), (6, true), (7, true), (8, false)] (fun v => Below wr.heap.size wr v) (by kernel_rfl) (by kernel_rfl) rfl hI ?_
      simp only [List.drop_succ_cons, List.drop_zero]
      have hgr : g < wr.heap.size := Nat.lt_of_lt_of_le hg hbel.size
      have hgr2 : g2 < wr.heap.size := Nat.lt_of_lt_of_le hg2 hbel.size
      iterate 8 (apply Flo.op rfl (hI := hI); (· intro v hv K hK; obtain ⟨hc, hf⟩ := Flo.bcl hv; go_wp2_with fail; all_goals first | exact Flo.noUndef (by with_reducible assumption) | exact hK); (· rfl))
      refine Flo.seq rfl fun K hK => ?_
      go_wp2_with fail
      refine (HSR.out _ hI).mono ?_
      rintro e w3 ⟨rfl, hb3⟩
      go_wp2_with fail
      have hI3 : Below wr.heap.size wr w3 := hI.trans (hb3.mono hI.size)
      refine hK _ _ hI3 ?_
      refine Flo.tail fun K hK => ?_
      go_wp2_with fail
      go_roundw
      case rel => exact ⟨k + 1, by go_num, by omega, hbel.trans (hI3.mono hbel.size)⟩
      case measure => simp [intOf]; omega
    · obtain rfl : k = l.length := by omega
      go_wp2_with fail
      go_ret
      exact ⟨rfl, hbel⟩
end Go.Proofs.Yticmfflnenoplaa
