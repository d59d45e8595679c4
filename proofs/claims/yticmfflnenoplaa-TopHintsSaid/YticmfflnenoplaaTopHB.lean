/- TopHints: its walk. -/
import Derived.Test.YticmfflnenoplaaTopHA
namespace Go.Proofs.Yticmfflnenoplaa
open Go.RowKit Mk

theorem own_base {w : World} {base base' : Nat} {e : TypeId} {size n : Nat} {v : Value} {xs : List Value} (h : w.ownsRow base e size v n xs) (hb : base' ≤ base) : w.ownsRow base' e size v n xs :=
  ⟨h.1, h.2.imp id fun ⟨g, cap, cur, h1, h2, r⟩ => ⟨g, cap, cur, h1, Nat.le_trans hb h2, r⟩⟩
/-- The world in the middle of TopHints. -/
structure TH (w wr : World) (free all : A4) (any : Bool) (hv : Value) (n : Nat) (xs : List Value) (p9 p10 : Nat) (arr : Array Value) : Prop where
  below : Below w.heap.size w wr
  b0 : Blk wr w.heap.size 75 #[.int .i64 free.a0, .int .i64 free.a1, .int .i64 free.a2, .int .i64 free.a3]
  b1 : Blk wr (w.heap.size + 1) 75 #[.int .i64 all.a0, .int .i64 all.a1, .int .i64 all.a2, .int .i64 all.a3]
  b9 : Blk wr p9 83 #[.bool any, hv]
  b10 : Blk wr p10 127 arr
  row : wr.ownsRow w.heap.size 90 2 hv n xs
  le : w.heap.size ≤ p10
theorem TH.later {w wr w' : World} {free all : A4} {any : Bool} {hv : Value} {n : Nat} {xs : List Value} {p9 p10 : Nat} {arr : Array Value} (h : TH w wr free all any hv n xs p9 p10 arr) (hb : Below wr.heap.size wr w') : TH w w' free all any hv n xs p9 p10 arr :=
  ⟨h.below.trans (hb.mono h.below.size), h.b0.below hb h.b0.lt, h.b1.below hb h.b1.lt, h.b9.below hb h.b9.lt, h.b10.below hb h.b10.lt, own_below h.row hb, h.le⟩
theorem TH.set {w wr : World} {free all : A4} {any : Bool} {hv : Value} {n : Nat} {xs : List Value} {p9 p10 : Nat} {arr : Array Value} (h : TH w wr free all any hv n xs p9 p10 arr) (j : Nat) (u : Value) : TH w (wr.setCell ⟨p10, j, none⟩ u) free all any hv n xs p9 p10 (arr.setIfInBounds j u) := by
  have n0 := Blk.ne_ h.b0 h.b10 (by decide)
  have n1 := Blk.ne_ h.b1 h.b10 (by decide)
  have n9 := Blk.ne_ h.b9 h.b10 (by decide)
  have nr := own_blk_ne h.row h.b10 (by decide)
  exact ⟨h.below.setCell h.le _, h.b0.far n0 _, h.b1.far n1 _, h.b9.far n9 _, h.b10.set_ j u, own_kept (S := fun k => k = p10) h.row ((Kept.refl _ _).set1 _) (fun k hk he => nr (by rw [hk, he])), h.le⟩
theorem hints1 : hintsOf ⟨1, 0, 0, 0⟩ ⟨1, 0, 0, 0⟩ 1 1 = [⟨1, true⟩] := by kernel_rfl

section
attribute [local irreducible] flatH nodes thr thArr over sub hintsOf Hid PosSmall
set_option maxRecDepth 100000 in
set_option maxHeartbeats 8000000 in
theorem topHints_yes (free all : A4) (hf : PosSmall free) (ha : PosSmall all) (n : Nat) (hn : n < 16) (many : Int) (w : World) :
    Calls Try.prog 10 #[free.val, all.val, .int .u8 n, .int .i64 many] w (RetBB true w) := by
  have h1 := fun (hm : many ≤ 0) (W : World) => for_none free all n many hm W
  have h2 := fun (hm : 0 < many) (W : World) => for_some free all hf.small ha.small n hn many hm W
  have h3 := fun (hm : 0 < many) => hok free all n hn many hm
  have hs1 := fun W => tsmall_yes free W hf
  have hs2 := fun W => tsmall_yes all W ha
  have hov1 := fun (m : Nat) (hm : m < 256) (W : World) => tover_any m hm free hf.small W
  have hov2 := fun (m : Nat) (hm : m < 256) (W : World) => tover_any m hm all ha.small W
  have hc := fun (W : World) => for_some ⟨1, 0, 0, 0⟩ ⟨1, 0, 0, 0⟩ (by unfold A4.Small; decide) (by unfold A4.Small; decide) 1 (by omega) 1 (by omega) W
  rw [hints1] at hc
  unfold A4.val at hc
  dsimp only at hc
  obtain ⟨f0, f1, f2, f3⟩ := free
  obtain ⟨a0, a1, a2, a3⟩ := all
  unfold A4.val at h1 h2 hs1 hs2 hov1 hov2 ⊢
  dsimp only at h1 h2 hs1 hs2 hov1 hov2 ⊢
  have HC := Lib.hid hc
  have H1 := Lib.hid h1
  have H2 := Lib.hid h2
  have H3 := Lib.hid h3
  have HS1 := Lib.hid hs1
  have HS2 := Lib.hid hs2
  have HO1 := Lib.hid hov1
  have HO2 := Lib.hid hov2
  have k0 := (Blk.new w 75 #[.int .i64 f0, .int .i64 f1, .int .i64 f2, .int .i64 f3]).alloc (.cells #[.int .i64 a0, .int .i64 a1, .int .i64 a2, .int .i64 a3] 75)
  have k1 := Blk.new (w.alloc (.cells #[.int .i64 f0, .int .i64 f1, .int .i64 f2, .int .i64 f3] 75)) 75 #[.int .i64 a0, .int .i64 a1, .int .i64 a2, .int .i64 a3]
  have hbel : Below w.heap.size w ((w.alloc (.cells #[.int .i64 f0, .int .i64 f1, .int .i64 f2, .int .i64 f3] 75)).alloc (.cells #[.int .i64 a0, .int .i64 a1, .int .i64 a2, .int .i64 a3] 75)) := ((Below.refl _ _).alloc (Nat.le_refl _) _).alloc (by simp) _
  simp only [World.size_alloc] at k1
  clear h1 h2 h3 hs1 hs2 hov1 hov2 hc
  go_enter Try.func10, Try.ntmps10
  go_upto_region 1 with fail
  generalize (w.alloc (.cells #[.int .i64 f0, .int .i64 f1, .int .i64 f2, .int .i64 f3] 75)).alloc (.cells #[.int .i64 a0, .int .i64 a1, .int .i64 a2, .int .i64 a3] 75) = wa at *
  go_wp2_with fail
  refine (HC.out _).mono ?_
  rintro e w1 ⟨v1, rfl, own1, hb1⟩
  have j0 := k0.below hb1 k0.lt
  have j1 := k1.below hb1 k1.lt
  have hbel1 := hbel.trans (hb1.mono hbel.size)
  clear k0 k1 hbel hb1
  obtain ⟨A1, c1, rfl, _, _, hg1⟩ := own_form own1
  obtain ⟨g1, rfl, _, _⟩ := hg1 (by simp)
  have r1 := (own1.cellAt 1 (by simp)).trans ((flatH_at [⟨1, true⟩] 0 (by simp)).2)
  simp only [List.getElem_cons_zero] at r1
  clear hg1
  go_upto_region 2 with fail
  have hba : Below w1.heap.size w1 (w1.alloc (.cells #[.bool false, .slice (some ⟨g1, 0, none⟩) 1 c1] 83)) := (Below.refl _ _).alloc (Nat.le_refl _) _
  have k0 := j0.below hba j0.lt
  have k1 := j1.below hba j1.lt
  have k9 := Blk.new w1 83 #[.bool false, .slice (some ⟨g1, 0, none⟩) 1 c1]
  have hbel := hbel1.trans (hba.mono hbel1.size)
  have r2 := (hba.cell (p := ⟨g1, 1, none⟩) ((own1.lt g1 rfl).2)).trans r1
  have hp9 : w.heap.size ≤ w1.heap.size := hbel1.size
  generalize hwb : w1.alloc (.cells #[.bool false, .slice (some ⟨g1, 0, none⟩) 1 c1] 83) = wb at *
  generalize w1.heap.size = p9 at *
  clear hwb own1 r1 hba j0 j1 hbel1
  have e0 := k0.cells
  have e1 := k1.cells
  have e9 := k9.cells
  go_upto_region 4 with fail
  go_wp2_with fail
  refine (HS1.out _).mono ?_
  rintro e w2 ⟨rfl, hb2⟩
  have j0 := k0.below hb2 k0.lt
  have j1 := k1.below hb2 k1.lt
  have j9 := k9.below hb2 k9.lt
  have hbel1 := hbel.trans (hb2.mono hbel.size)
  clear k0 k1 k9 hbel hb2 e0 e1 e9 r2
  have e1 := j1.cells
  go_wp2_with fail
  refine (HS2.out _).mono ?_
  rintro e w3 ⟨rfl, hb3⟩
  have k0 := j0.below hb3 j0.lt
  have k1 := j1.below hb3 j1.lt
  have k9 := j9.below hb3 j9.lt
  have hbel := hbel1.trans (hb3.mono hbel1.size)
  clear j0 j1 j9 hbel1 hb3 e1
  have e0 := k0.cells
  have e1 := k1.cells
  have e9 := k9.cells
  have d9 := k9.frozens
  by_cases hm : many ≤ 0
  · go_wp2_with fail
    refine (H1.out hm _).mono ?_
    rintro e w4 ⟨hv, rfl, own4, hb4⟩
    obtain ⟨A4', c4, rfl, _, _, _⟩ := own_form own4
    have j9 := k9.below hb4 k9.lt
    have q9 := ((j9.set_ 0 (.bool true)).set_ 1 (.slice A4' 0 c4)).cells
    have g9 := j9.cells
    have d9' := j9.frozens
    clear e0 e1 e9 d9
    go_wp2_with fail
    go_ret
    exact ⟨rfl, ((hbel.trans (hb4.mono hbel.size)).setCell hp9 _).setCell hp9 _⟩
  · have hmp : 0 < many := by omega
    have HOK := Lib.hid (H3.out hmp)
    have HF := Lib.hid (H2.out hmp)
    generalize hintsOf ⟨f0, f1, f2, f3⟩ ⟨a0, a1, a2, a3⟩ n many = l at *
    go_wp2_with fail
    refine (HF.out _).mono ?_
    rintro e w4 ⟨hv, rfl, own4, hb4⟩
    obtain ⟨A4', c4, rfl, hc4, hc4', _⟩ := own_form own4
    unfold maxLen at hc4'
    have j0 := k0.below hb4 k0.lt
    have j1 := k1.below hb4 k1.lt
    have j9 := k9.below hb4 k9.lt
    have hbel4 := hbel.trans (hb4.mono hbel.size)
    have g9 := j9.cells
    have d9' := j9.frozens
    have hlt4 := j9.lt
    have n0 := Blk.ne_ j0 j9 (by decide)
    have n1 := Blk.ne_ j1 j9 (by decide)
    have nr := own_blk_ne own4 j9 (by decide)
    have own4' := own_base (own_kept (S := fun k => k = p9) own4 (((Kept.refl _ _).set1 (i := 0) (.bool false)).set1 (i := 1) (.slice A4' l.length c4)) (fun k hk he => nr (by rw [hk, he]))) hbel.size
    have hk0 : TH w ((((w4.setCell ⟨p9, 0, none⟩ (.bool false)).setCell ⟨p9, 1, none⟩ (.slice A4' l.length c4))).alloc (.cells (thArr l 0) 127)) ⟨f0, f1, f2, f3⟩ ⟨a0, a1, a2, a3⟩ false (.slice A4' l.length c4) l.length (flatH l) p9 w4.heap.size (thArr l 0) :=
      ⟨((hbel4.setCell hp9 _).setCell hp9 _).alloc (by simp; exact hbel4.size) _, (((j0.far n0 _).far n0 _).alloc _), (((j1.far n1 _).far n1 _).alloc _), ((j9.set_ 0 (.bool false)).set_ 1 (.slice A4' l.length c4)).alloc _, by have := Blk.new ((w4.setCell ⟨p9, 0, none⟩ (.bool false)).setCell ⟨p9, 1, none⟩ (.slice A4' l.length c4)) 127 (thArr l 0); simpa using this, own_below own4' ((Below.refl _ _).alloc (Nat.le_refl _) _), hbel4.size⟩
    rw [thArr_zero] at hk0
    clear e0 e1 e9 d9 k0 k1 k9 own4 own4' j0 j1 hbel hbel4
    go_upto_region 11 with fail
    rw [← thArr_zero l] at hk0
    go_loopw [11] (fun i wr => ∃ k : Nat, i = .int .i64 k ∧ k ≤ l.length ∧ TH w wr ⟨f0, f1, f2, f3⟩ ⟨a0, a1, a2, a3⟩ false (.slice A4' l.length c4) l.length (flatH l) p9 w4.heap.size (thArr l k)) (fun i _ => l.length - (intOf i).toNat)
    case atStart => exact ⟨0, rfl, by omega, by rw [thArr_zero] at hk0 ⊢; exact hk0⟩
    case round =>
      clear hk0
      generalize w4.heap.size = p10 at *
      obtain ⟨k, rfl, hk, hT⟩ := hrel
      by_cases hlt : k < l.length
      · obtain ⟨A5, c5, hA5, _, _, hg5⟩ := own_form hT.row
        obtain ⟨g, rfl, _, _⟩ := hg5 (by omega)
        simp only [Value.slice.injEq, true_and] at hA5
        obtain ⟨rfl, rfl⟩ := hA5
        obtain ⟨fa, fb⟩ := flatH_at l k hlt
        have r1 := (hT.row.cellAt (k * 2) (by omega)).trans fa
        have r2 := (hT.row.cellAt (k * 2 + 1) (by omega)).trans fb
        obtain ⟨hm1, hm2, hm3, hm4⟩ := HOK.out.lt k hlt
        have hta := thArr_at l k l[k].mask (by omega)
        rw [HOK.out.apart k hlt] at hta
        have hnx := thArr_next l k hlt
        have hgd := HOK.out.good k hlt
        have hsb := sub_and ⟨n, hn⟩ ⟨l[k].mask, by omega⟩
        simp only [hm3, beq_iff_eq] at hsb
        have hqb := u8_and_nat l[k].mask n (by omega) (by omega)
        rw [hsb] at hqb
        have HNX := Lib.hid hnx
        have HGD := Lib.hid hgd
        clear fa fb hg5 hm3 hsb hnx hgd
        generalize l[k].mask = hm at *
        generalize l[k].good = hg at *
        have e9 := hT.b9.cells
        go_upto_region 14 with fail
        have hba : Below wr.heap.size wr (wr.alloc (.cells #[.int .u8 hm, .bool hg] 90)) := (Below.refl _ _).alloc (Nat.le_refl _) _
        have hT2 := hT.later hba
        have k12 := Blk.new wr 90 #[.int .u8 hm, .bool hg]
        generalize hwx : wr.alloc (.cells #[.int .u8 hm, .bool hg] 90) = wx at *
        generalize wr.heap.size = p12 at *
        clear hwx hba e9 r1 r2 hT
        have e12 := k12.cells
        have e0 := hT2.b0.cells
        go_wp2_with fail
        refine (HO1.out hm (by omega) _).mono ?_
        rintro e w5 ⟨rfl, hb5⟩
        have hT3 := hT2.later hb5
        have j12 := k12.below hb5 k12.lt
        clear hT2 k12 e12 e0 hb5
        have e12 := j12.cells
        have e10 := hT3.b10.cells
        have e10a := (e10 hm).trans hta
        clear e10
        have d10 := hT3.b10.frozens
        go_upto_region 18 with fail
        have hT4 := hT3.set hm (.bool true)
        rw [HNX.out] at hT4
        have n12 : p12 ≠ p10 := Blk.ne_ j12 hT3.b10 (by decide)
        have k12 := j12.far (p := ⟨p10, hm, none⟩) n12 (.bool true)
        clear hT3 j12 e12 e10a d10 hta n12
        generalize w5.setCell ⟨p10, hm, none⟩ (.bool true) = wy at *
        go_loopw [13] (fun j wr => ∃ q : Nat, j = .int .i64 q ∧ 1 ≤ q ∧ q ≤ 16 ∧ TH w wr ⟨f0, f1, f2, f3⟩ ⟨a0, a1, a2, a3⟩ false (.slice (some ⟨g, 0, none⟩) l.length c4) l.length (flatH l) p9 p10 (thArr l (k + 1)) ∧ Blk wr p12 90 #[.int .u8 hm, .bool hg]) (fun j _ => 16 - (intOf j).toNat)
        case atStart => exact ⟨1, rfl, by omega, by omega, hT4, k12⟩
        case round =>
          clear hT4 k12
          obtain ⟨q, rfl, hq1, hq2, hTi, h12⟩ := hrel
          have e12 := h12.cells
          by_cases hql : q < 16
          · cases hg
            · clear HGD HOK
              go_wp2_with fail
              go_roundw
              case rel => exact ⟨k + 1, by go_num, by omega, hTi⟩
              case measure => simp [intOf]; omega
            · have hcq := u8_conv q (by omega)
              have hqa := u8_and_nat q n (by omega) (by omega)
              have hsq := sub_and ⟨n, hn⟩ ⟨q, by omega⟩
              simp only at hsq
              go_upto_region 21 with fail
              have hI : Below wr.heap.size wr wr.drew := (Below.refl _ _).drew
              have f1 := hTi.b1.cells
              have q1 := hTi.b1.lt
              have q12 := h12.lt
              have hTd := hTi.later hI
              have h12d := h12.drew
              refine Flo.region 20 [(0, true), (1, true), (2, true), (3, true), (4, true), (5, true), (6, true), (7, true), (9, true), (8, false), (10, true), (11, true), (12, true), (13, true), (15, true), (16, true), (14, false), (17, false), (18, true), (19, true)] (fun v => Below wr.heap.size wr v) (by kernel_rfl) (by kernel_rfl) rfl hI ?_
              simp only [List.drop_succ_cons, List.drop_zero]
              cases hs : sub q n
              · have hne : (bits BinOp.and IntKind.u8 ↑q ↑n == ↑q) = false := by
                  rw [hs, beq_eq_false_iff_ne] at hsq
                  rw [hqa, beq_eq_false_iff_ne]
                  omega
                clear hqa hsq hs HGD
                iterate 9 (apply Flo.op rfl (hI := hI); (· intro v hv K hK; obtain ⟨hc, hf⟩ := Flo.bcl hv; go_wp2_with fail; exact hK); (· rfl))
                refine Flo.seq rfl fun K hK => ?_
                go_wp2_with fail
                refine hK _ _ hI ?_
                iterate 6 (apply Flo.op rfl (hI := hI); (· intro v hv K hK; obtain ⟨hc, hf⟩ := Flo.bcl hv; go_wp2_with fail; exact hK); (· rfl))
                refine Flo.seq rfl fun K hK => ?_
                go_wp2_with fail
                refine hK _ _ hI ?_
                refine Flo.seq rfl fun K hK => ?_
                go_wp2_with fail
                refine hK _ _ hI ?_
                iterate 2 (apply Flo.op rfl (hI := hI); (· intro v hv K hK; obtain ⟨hc, hf⟩ := Flo.bcl hv; go_wp2_with fail; exact hK); (· rfl))
                refine Flo.tail fun K hK => ?_
                go_wp2_with fail
                go_roundw
                case rel => exact ⟨q + 1, by go_num, by omega, by omega, hTd, h12d⟩
                case measure => simp [intOf]; omega
              · have hne : bits BinOp.and IntKind.u8 ↑q ↑n = ↑q := by
                  rw [hs, beq_iff_eq] at hsq
                  rw [hqa, hsq]
                have HG2 := Lib.hid (HGD.out rfl q hql hs)
                clear hqa hsq hs HGD
                iterate 9 (apply Flo.op rfl (hI := hI); (· intro v hv K hK; obtain ⟨hc, hf⟩ := Flo.bcl hv; go_wp2_with fail; exact hK); (· rfl))
                refine Flo.seq rfl fun K hK => ?_
                go_wp2_with fail
                refine (HO2.out q (by omega) _).mono ?_
                rintro e w6 ⟨rfl, hb6⟩
                go_wp2_with fail
                have hI6 : Below wr.heap.size wr w6 := hI.trans hb6
                have hT6 := hTd.later hb6
                have h126 := h12d.below hb6 h12d.lt
                refine hK _ _ hI6 ?_
                generalize over q ⟨a0, a1, a2, a3⟩ = oq at *
                by_cases ho : many ≤ oq
                · have hob : decide (many ≤ oq) = true := by simpa using ho
                  have hnd := HG2.out ho
                  iterate 6 (apply Flo.op rfl (hI := hI6); (· intro v hv K hK; obtain ⟨hc, hf⟩ := Flo.bcl hv; go_wp2_with fail; exact hK); (· rfl))
                  refine Flo.seq rfl fun K hK => ?_
                  go_wp2_with fail
                  refine (nodes_any q (by omega) _).mono ?_
                  rintro e w7 ⟨rfl, rfl⟩
                  go_wp2_with fail
                  refine hK _ _ hI6 ?_
                  refine Flo.seq rfl fun K hK => ?_
                  go_wp2_with fail
                  refine (nodes_any hm (by omega) _).mono ?_
                  rintro e w7 ⟨rfl, rfl⟩
                  go_wp2_with fail
                  refine hK _ _ hI6 ?_
                  generalize nodes q = nq at *
                  generalize nodes hm = nm at *
                  clear HG2
                  have hnb : decide ((nq : Int) < (nm : Int)) = false := by simp; omega
                  have hnb2 : decide (nq < nm) = false := by simp; omega
                  iterate 2 (apply Flo.op rfl (hI := hI6); (· intro v hv K hK; obtain ⟨hc, hf⟩ := Flo.bcl hv; go_wp2_with fail; exact hK); (· rfl))
                  refine Flo.tail fun K hK => ?_
                  go_wp2_with fail
                  go_roundw
                  case rel => exact ⟨q + 1, by go_num, by omega, by omega, hT6, h126⟩
                  case measure => simp [intOf]; omega
                · clear HG2
                  have hob : decide (many ≤ oq) = false := by simpa using ho
                  have ho2 : oq < many := by omega
                  clear ho
                  iterate 6 (apply Flo.op rfl (hI := hI6); (· intro v hv K hK; obtain ⟨hc, hf⟩ := Flo.bcl hv; go_wp2_with fail; exact hK); (· rfl))
                  refine Flo.seq rfl fun K hK => ?_
                  go_wp2_with fail
                  refine hK _ _ hI6 ?_
                  refine Flo.seq rfl fun K hK => ?_
                  go_wp2_with fail
                  refine hK _ _ hI6 ?_
                  iterate 2 (apply Flo.op rfl (hI := hI6); (· intro v hv K hK; obtain ⟨hc, hf⟩ := Flo.bcl hv; go_wp2_with fail; exact hK); (· rfl))
                  refine Flo.tail fun K hK => ?_
                  go_wp2_with fail
                  go_roundw
                  case rel => exact ⟨q + 1, by go_num, by omega, by omega, hT6, h126⟩
                  case measure => simp [intOf]; omega
          · clear HGD HOK
            obtain rfl : q = 16 := by omega
            go_wp2_with fail
            go_roundw
            case rel => exact ⟨k + 1, by go_num, by omega, hTi⟩
            case measure => simp [intOf]; omega
      · obtain rfl : k = l.length := by omega
        have e9 := hT.b9.cells
        go_upto_region 24 with fail
        clear e9
        go_loopw [15] (fun j wr => ∃ q : Nat, j = .int .i64 q ∧ 1 ≤ q ∧ q ≤ 16 ∧ TH w wr ⟨f0, f1, f2, f3⟩ ⟨a0, a1, a2, a3⟩ false (.slice A4' l.length c4) l.length (flatH l) p9 p10 (thArr l l.length)) (fun j _ => 16 - (intOf j).toNat)
        case atStart => exact ⟨1, rfl, by omega, by omega, hT⟩
        case round =>
          clear hT
          obtain ⟨q, rfl, hq1, hq2, hTi⟩ := hrel
          by_cases hql : q < 16
          · have hcq := u8_conv q (by omega)
            have hqa := u8_and_nat q n (by omega) (by omega)
            have hsq := sub_and ⟨n, hn⟩ ⟨q, by omega⟩
            simp only at hsq
            have hth := (hTi.b10.cell q).trans (thArr_at l l.length q hql)
            go_upto_region 27 with fail
            have hI : Below wr.heap.size wr wr.drew := (Below.refl _ _).drew
            have f0' := hTi.b0.cells
            have q0 := hTi.b0.lt
            have q10 := hTi.b10.lt
            have hTd := hTi.later hI
            refine Flo.region 16 [(0, true), (1, true), (2, true), (3, true), (4, true), (5, true), (6, true), (7, true), (8, true), (9, true), (10, true), (12, true), (11, false), (13, true), (14, true), (15, true)] (fun v => Below wr.heap.size wr v) (by kernel_rfl) (by kernel_rfl) rfl hI ?_
            simp only [List.drop_succ_cons, List.drop_zero]
            cases hs : sub q n
            · have hne : (bits BinOp.and IntKind.u8 ↑q ↑n == ↑q) = false := by
                rw [hs, beq_eq_false_iff_ne] at hsq
                rw [hqa, beq_eq_false_iff_ne]
                omega
              clear hqa hsq hs
              iterate 12 (apply Flo.op rfl (hI := hI); (· intro v hv K hK; obtain ⟨hc, hf⟩ := Flo.bcl hv; go_wp2_with fail; exact hK); (· rfl))
              refine Flo.seq rfl fun K hK => ?_
              go_wp2_with fail
              refine hK _ _ hI ?_
              iterate 3 (apply Flo.op rfl (hI := hI); (· intro v hv K hK; obtain ⟨hc, hf⟩ := Flo.bcl hv; go_wp2_with fail; exact hK); (· rfl))
              refine Flo.tail fun K hK => ?_
              go_wp2_with fail
              go_roundw
              case rel => exact ⟨q + 1, by go_num, by omega, by omega, hTd⟩
              case measure => simp [intOf]; omega
            · have hne : bits BinOp.and IntKind.u8 ↑q ↑n = ↑q := by
                rw [hs, beq_iff_eq] at hsq
                rw [hqa, hsq]
              rw [HOK.out.all q hql hs] at hth
              clear hqa hsq hs
              generalize hoq : over q ⟨f0, f1, f2, f3⟩ = oq at *
              have hov := HO1.out q (by omega)
              rw [hoq] at hov
              have HOV := Lib.hid hov
              clear hov hoq
              by_cases ho : many ≤ oq
              · have hob : decide (many ≤ oq) = true := by simpa using ho
                rw [hob] at hth
                iterate 12 (apply Flo.op rfl (hI := hI); (· intro v hv K hK; obtain ⟨hc, hf⟩ := Flo.bcl hv; go_wp2_with fail; exact hK); (· rfl))
                refine Flo.seq rfl fun K hK => ?_
                go_wp2_with fail
                refine (HOV.out _).mono ?_
                rintro e w6 ⟨rfl, hb6⟩
                go_wp2_with fail
                have hI6 : Below wr.heap.size wr w6 := hI.trans hb6
                have hT6 := hTd.later hb6
                refine hK _ _ hI6 ?_
                iterate 3 (apply Flo.op rfl (hI := hI6); (· intro v hv K hK; obtain ⟨hc, hf⟩ := Flo.bcl hv; go_wp2_with fail; exact hK); (· rfl))
                refine Flo.tail fun K hK => ?_
                go_wp2_with fail
                go_roundw
                case rel => exact ⟨q + 1, by go_num, by omega, by omega, hT6⟩
                case measure => simp [intOf]; omega
              · have hob : decide (many ≤ oq) = false := by simpa using ho
                have ho2 : oq < many := by omega
                clear ho
                rw [hob] at hth
                iterate 12 (apply Flo.op rfl (hI := hI); (· intro v hv K hK; obtain ⟨hc, hf⟩ := Flo.bcl hv; go_wp2_with fail; exact hK); (· rfl))
                refine Flo.seq rfl fun K hK => ?_
                go_wp2_with fail
                refine (HOV.out _).mono ?_
                rintro e w6 ⟨rfl, hb6⟩
                go_wp2_with fail
                have hI6 : Below wr.heap.size wr w6 := hI.trans hb6
                have hT6 := hTd.later hb6
                refine hK _ _ hI6 ?_
                iterate 3 (apply Flo.op rfl (hI := hI6); (· intro v hv K hK; obtain ⟨hc, hf⟩ := Flo.bcl hv; go_wp2_with fail; exact hK); (· rfl))
                refine Flo.tail fun K hK => ?_
                go_wp2_with fail
                go_roundw
                case rel => exact ⟨q + 1, by go_num, by omega, by omega, hT6⟩
                case measure => simp [intOf]; omega
          · obtain rfl : q = 16 := by omega
            have e9 := hTi.b9.cells
            go_wp2_with fail
            go_ret
            exact ⟨rfl, hTi.below⟩
end
end Go.Proofs.Yticmfflnenoplaa
