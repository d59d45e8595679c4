/- ostleryref.PodFault: its walk. -/
import Derived.Test.YticmfflnenoplaaQosD
namespace Go.Proofs.Yticmfflnenoplaa
open Go.RowKit Qo Da
theorem below_drewN2 {B : Nat} {a w : World} (h : Below B a w) (n : Nat) : Below B a (w.drewN n) := ⟨h.os, h.tape, h.output, h.size, h.block⟩
theorem cont_at2 {w w' : World} {B b off n cap : Nat} {l : List Cont} (h : RSlice w B 6 (RCont w B) [.slice (some ⟨b, off, none⟩) n cap] l) (hb : Below B w w') {k : Nat} (hk : k < l.length) :
    b < B ∧ ∃ A2 c2, RSlice w' B 2 RNeed [.slice A2 l[k].devs.length c2] l[k].devs ∧ l[k].name.size ≤ maxLen ∧ (∀ j u, (contCells l[k] (.slice A2 l[k].devs.length c2))[j]? = some u → w'.cell? ⟨b, off + k * 6 + j, none⟩ = some u) ∧ l[k].devs.length ≤ c2 ∧ c2 ≤ maxLen ∧ ∀ i, i < l[k].devs.length → ∃ b off, A2 = some ⟨b, off, none⟩ ∧ b < B := by
  obtain ⟨hlt, cs', q1, q2, q3⟩ := (h.below hb).at_ hk
  obtain ⟨A2, c2, e, hn, h1, h2, h3, h4⟩ := cont_cells q3
  rw [e] at q2
  exact ⟨hlt, A2, c2, h3.below hb, hn, q2, h1, h2, h4⟩
theorem less_total : ∀ (x y : List UInt8), (Op.bytesLess x y || x == y) = !Op.bytesLess y x
  | [], [] => rfl
  | [], _ :: _ => rfl
  | _ :: _, [] => rfl
  | a :: x, b :: y => by
    have ih := less_total x y
    simp only [Op.bytesLess, List.cons_beq_cons]
    by_cases hab : a = b
    · subst hab
      have : decide (a < a) = false := by simp
      simp only [this, Bool.false_or, beq_self_eq_true, Bool.true_and]
      exact ih
    · have h1 : (a == b) = false := beq_eq_false_iff_ne.2 hab
      have h2 : (b == a) = false := beq_eq_false_iff_ne.2 (fun h => hab h.symm)
      simp only [h1, h2, Bool.false_and, Bool.or_false]
      by_cases hlt : a < b
      · have : ¬ b < a := fun h => by rw [UInt8.lt_iff_toNat_lt] at *; omega
        simp [hlt, this]
      · have : b < a := by
          rw [UInt8.lt_iff_toNat_lt] at *
          have : a.toNat ≠ b.toNat := fun h => hab (UInt8.toNat_inj.1 h)
          omega
        simp [hlt, this]
theorem amtF_01 (m b : Int) : 0 ≤ amtF m b ∧ amtF m b ≤ 1 := by
  unfold amtF
  split <;> omega
theorem amtF_zero {m b : Int} (h : ¬ 0 < amtF m b) : amtBad m b = false := by
  unfold amtF at h
  split at h
  · omega
  · rename_i hh
    simpa using hh
theorem cont_fine (c : Cont) (h : ¬ 0 < amtF c.askM c.askB + amtF c.capM c.capB) : amtBad c.askM c.askB = false ∧ amtBad c.capM c.capB = false := by
  have h1 := amtF_01 c.askM c.askB
  have h2 := amtF_01 c.capM c.capB
  exact ⟨amtF_zero (by omega), amtF_zero (by omega)⟩
theorem cont_bad (c : Cont) (h : 0 < amtF c.askM c.askB + amtF c.capM c.capB) : contFault c = 1 := by
  cases h1 : amtBad c.askM c.askB
  · cases h2 : amtBad c.capM c.capB
    · rw [amtF_no h1, amtF_no h2] at h
      omega
    · exact cont_amt2 h1 h2
  · exact cont_amt1 h1
section
attribute [local irreducible] nameMay atFault contFault twice firstF podFault RCont RSlice amtBad amtF needBad needFault shapeBad lessS
set_option maxRecDepth 100000 in
set_option maxHeartbeats 40000000 in
theorem PodFault_any (p : Pod) (cs : List Value) (B : Nat) (w : World) (hB : B ≤ w.heap.size) (hR : RPod w B cs p) :
    Calls Try.prog 60 #[.agg cs.toArray] w (RetIB (podFault p) w) := by
  obtain ⟨cv, rfl, hps, hpr, hC⟩ := hR
  obtain ⟨A, cap, e, hl, hcap, hA⟩ := RS.form (RS.of hC)
  obtain rfl : cv = _ := by simpa using e
  have HNM := Lib.hid (fun W => NameMay_any p.name hps W)
  unfold maxLen at hcap hps
  have HC := Lib.hid hC
  have HA := Lib.hid hA
  clear hC hA e
  obtain ⟨pn, pr, conts⟩ := p
  dsimp only at *
  have k0 := Blk.new w 33 #[.string pn, .int .i64 pr, .slice A conts.length cap]
  have hbel : Below w.heap.size w (w.alloc (.cells #[.string pn, .int .i64 pr, .slice A conts.length cap] 33)) := (Below.refl _ _).alloc (Nat.le_refl _) _
  go_enter Try.func60, Try.ntmps60
  cases hnm : nameMay pn
  · have HF := Lib.hid (podFault_name (p := ⟨pn, pr, conts⟩) hnm)
    rw [hnm] at HNM
    clear hnm
    go_wp2_with fail
    refine (HNM.out _).mono ?_
    rintro e w5 ⟨rfl, rfl⟩
    go_wp2_with fail
    go_ret
    exact RetIB.of HF.out hbel
  · have HN := Lib.hid hnm
    rw [hnm] at HNM
    clear hnm
    rcases (show (pr < 0 ∨ (0 ≤ pr ∧ 1000 < pr)) ∨ (0 ≤ pr ∧ pr ≤ 1000) by omega) with hd | ⟨hp1, hp2⟩
    · have HF := Lib.hid (podFault_prio (p := ⟨pn, pr, conts⟩) HN.out (show pr < 0 ∨ 1000 < pr by omega))
      rcases hd with hd | ⟨hd1, hd2⟩
      all_goals
        go_wp2_with fail
        refine (HNM.out _).mono ?_
        rintro e w5 ⟨rfl, rfl⟩
        go_wp2_with fail
        go_ret
        exact RetIB.of HF.out hbel
    · rcases (show (conts.length < 1 ∨ (1 ≤ conts.length ∧ 3 < conts.length)) ∨ (1 ≤ conts.length ∧ conts.length ≤ 3) by omega) with hd | ⟨hc1, hc2⟩
      · have HF := Lib.hid (podFault_many (p := ⟨pn, pr, conts⟩) HN.out ⟨hp1, hp2⟩ (show conts.length < 1 ∨ 3 < conts.length by omega))
        rcases hd with hd | ⟨hd1, hd2⟩
        all_goals
          go_wp2_with fail
          refine (HNM.out _).mono ?_
          rintro e w5 ⟨rfl, rfl⟩
          go_wp2_with fail
          go_ret
          exact RetIB.of HF.out hbel
      · have HF := Lib.hid (podFault_conts (p := ⟨pn, pr, conts⟩) HN.out ⟨hp1, hp2⟩ ⟨hc1, hc2⟩)
        go_wp2_with fail
        refine (HNM.out _).mono ?_
        rintro e w5 ⟨rfl, rfl⟩
        go_upto_region 9 with fail
        generalize w.alloc (.cells #[.string pn, .int .i64 pr, .slice A conts.length cap] 33) = w1 at *
        go_loopw [4] (fun i wi => ∃ k : Nat, i = .int .i64 k ∧ k ≤ conts.length ∧ Hid (∀ j, j < k → atFault conts j = 0) ∧ Blk wi w.heap.size 33 #[.string pn, .int .i64 pr, .slice A conts.length cap] ∧ Below w.heap.size w wi) (fun i _ => conts.length - (intOf i).toNat)
        case atStart => exact ⟨0, rfl, by omega, fun j hj => by omega, k0, hbel⟩
        case round =>
          clear k0 hbel
          obtain ⟨k, rfl, hk, hall, b0, hbel⟩ := hrel
          by_cases hlt : k < conts.length
          · obtain ⟨b, off, rfl, hb⟩ := HA.out k hlt
            obtain ⟨_, A2, c2, hnd, hks, hcell, hdl, hdc, hda2⟩ := cont_at2 HC.out (hbel.mono hB) hlt
            have hstop := Lib.hid (firstF_stop hall.out hlt)
            have han := Lib.hid (atFault_name conts k hlt)
            have hat := Lib.hid (atFault_twice conts k hlt)
            have hac := Lib.hid (atFault_cont conts k hlt)
            have HND := Lib.hid hnd
            have HDA := Lib.hid hda2
            have hz0 := b0.lt
            have e0 := b0.cells
            have hbw : b < wr.heap.size := by have := hbel.size; omega
            have hN2 := fun W => NameMay_any conts[k].name hks W
            unfold maxLen at hks hdc
            have r0 := hcell 0 _ rfl
            have r1 := hcell 1 _ rfl
            have r2 := hcell 2 _ rfl
            have r3 := hcell 3 _ rfl
            have r4 := hcell 4 _ rfl
            have r5 := hcell 5 _ rfl
            rw [Nat.add_zero] at r0
            clear hcell hnd hda2
            generalize conts[k] = c at *
            have HN2 := Lib.hid hN2
            clear hN2
            go_upto_region 12 with fail
            have hba : Below w.heap.size w (wr.alloc (.cells #[.string c.name, .int .i64 c.askM, .int .i64 c.askB, .int .i64 c.capM, .int .i64 c.capB, .slice A2 c.devs.length c2] 106)) := hbel.alloc hbel.size _
            have hbr : Below wr.heap.size wr (wr.alloc (.cells #[.string c.name, .int .i64 c.askM, .int .i64 c.askB, .int .i64 c.capM, .int .i64 c.capB, .slice A2 c.devs.length c2] 106)) := (Below.refl _ _).alloc (Nat.le_refl _) _
            have hba0 := Lib.hid hba
            have b0a := b0.alloc (.cells #[.string c.name, .int .i64 c.askM, .int .i64 c.askB, .int .i64 c.capM, .int .i64 c.capB, .slice A2 c.devs.length c2] 106)
            have b9 := Blk.new wr 106 #[.string c.name, .int .i64 c.askM, .int .i64 c.askB, .int .i64 c.capM, .int .i64 c.capB, .slice A2 c.devs.length c2]
            have hpk : w.heap.size ≤ wr.heap.size := hbel.size
            have HNDA := Lib.hid (RSlice.below HND.out (hbr.mono (Nat.le_trans hB hbel.size)))
            clear r0 r1 r2 r3 r4 r5 e0 b0 hbr hbel HND
            generalize wr.alloc (.cells #[.string c.name, .int .i64 c.askM, .int .i64 c.askB, .int .i64 c.capM, .int .i64 c.capB, .slice A2 c.devs.length c2] 106) = wa at *
            generalize wr.heap.size = pk at *
            have e0 := b0a.cells
            have z0 := b0a.lt
            have e9 := b9.cells
            have z9 := b9.lt
            cases hnm : nameMay c.name
            · rw [hnm] at HN2
              have HM := Lib.hid (han.out hnm)
              clear hnm
              go_wp2_with fail
              refine (HN2.out _).mono ?_
              rintro e w5 ⟨rfl, rfl⟩
              go_wp2_with fail
              go_ret
              exact RetIB.of (HF.out.trans ((hstop.out (by rw [HM.out]; decide)).trans HM.out)) hba
            · rw [hnm] at HN2
              have HM := Lib.hid hnm
              clear hnm
              go_wp2_with fail
              refine (HN2.out _).mono ?_
              rintro e w5 ⟨rfl, rfl⟩
              go_upto_region 16 with fail
              go_loopw [7] (fun i wi => ∃ j : Nat, i = .int .i64 j ∧ j ≤ k ∧ Hid (twice conts j c.name = false) ∧ Blk wi w.heap.size 33 #[.string pn, .int .i64 pr, .slice (some ⟨b, off, none⟩) conts.length cap] ∧ Blk wi pk 106 #[.string c.name, .int .i64 c.askM, .int .i64 c.askB, .int .i64 c.capM, .int .i64 c.capB, .slice A2 c.devs.length c2] ∧ Below wa.heap.size wa wi) (fun i _ => k - (intOf i).toNat)
              case atStart => exact ⟨0, rfl, by omega, twice_zero _ _, b0a, b9, Below.refl _ _⟩
              case round =>
                clear b0a b9 e0 e9
                obtain ⟨j, rfl, hj, htw, b0, b9, hbi⟩ := hrel
                have e0 := b0.cells
                have z0' := b0.lt
                have e9 := b9.cells
                have z9' := b9.lt
                have hbi0 := hba.trans (hbi.mono hba.size)
                have hbwi : b < wr.heap.size := by have := hbi.size; omega
                by_cases hjk : j < k
                · obtain ⟨_, A3, c3, hrc3, hks3, hcell3⟩ := cont_at HC.out (hbi0.mono hB) (show j < conts.length by omega)
                  have hnx := Lib.hid (twice_next conts j (by omega) c.name)
                  have hmono := Lib.hid (twice_mono conts (j + 1) k (by omega) c.name)
                  unfold maxLen at hks3
                  have r0 := hcell3 0 _ rfl
                  rw [Nat.add_zero] at r0
                  clear hcell3 hrc3
                  generalize conts[j] = d at *
                  have hjl : j < conts.length := by omega
                  cases hs : d.name.toList == c.name.toList
                  · have HS := Lib.hid (show twice conts (j + 1) c.name = false by rw [hnx.out, htw.out]; exact hs)
                    go_upto_region 18 with fail
                    go_quiet (fail)
                    go_wp2_with fail
                    go_roundw
                    case rel => exact ⟨j + 1, by go_num, by omega, HS.out, b0.drewN _, b9.drewN _, below_drewN2 hbi _⟩
                    case measure => simp [intOf]; omega
                  · have HS := Lib.hid (hmono.out (show twice conts (j + 1) c.name = true by rw [hnx.out, htw.out]; exact hs))
                    have HT := Lib.hid (hat.out HM.out HS.out)
                    go_upto_region 18 with fail
                    go_quiet (fail)
                    go_wp2_with fail
                    go_ret
                    exact RetIB.of (HF.out.trans ((hstop.out (by rw [HT.out]; decide)).trans HT.out)) (below_drewN2 hbi0 _)
                · obtain rfl : j = k := by omega
                  have hA1 := fun W => amountFault_any c.askM c.askB W
                  have hA2 := fun W => amountFault_any c.capM c.capB W
                  have HAC := Lib.hid (hac.out HM.out htw.out)
                  have HXY := Lib.hid (cont_bad c)
                  have HXZ := Lib.hid (cont_fine c)
                  have hx01 := amtF_01 c.askM c.askB
                  have hy01 := amtF_01 c.capM c.capB
                  generalize amtF c.askM c.askB = x at *
                  generalize amtF c.capM c.capB = y at *
                  have HA1 := Lib.hid hA1
                  have HA2 := Lib.hid hA2
                  clear hA1 hA2
                  clear HC HA han hat hac htw HM HN HNM HN2
                  by_cases hz : 0 < x + y
                  · have HT := Lib.hid (HAC.out.trans (HXY.out hz))
                    clear HXY HXZ HNDA HDA HAC hall
                    go_upto_region 20 with fail
                    have hI : Below wr.heap.size wr wr.drew := (Below.refl _ _).drew
                    refine Flo.region 8 [(0, true), (1, true), (3, true), (4, true), (2, false), (5, false), (6, true), (7, true)] (fun v => Below wr.heap.size wr v) (by kernel_rfl) (by kernel_rfl) rfl hI ?_
                    simp only [List.drop_succ_cons, List.drop_zero]
                    iterate 4 (apply Flo.op rfl (hI := hI); (· intro v hv K hK; obtain ⟨hc, hf⟩ := Flo.bcl hv; go_wp2_with fail; all_goals first | exact Flo.noUndef (by with_reducible assumption) | exact hK); (· rfl))
                    refine Flo.seq rfl fun K hK => ?_
                    go_wp2_with fail
                    refine (HA1.out _).mono ?_
                    rintro e w6 ⟨rfl, hb6⟩
                    go_wp2_with fail
                    have hI6 : Below wr.heap.size wr w6 := hI.trans hb6
                    refine hK _ _ hI6 ?_
                    refine Flo.seq rfl fun K hK => ?_
                    go_wp2_with fail
                    refine (HA2.out _).mono ?_
                    rintro e w7 ⟨rfl, hb7⟩
                    go_wp2_with fail
                    have hI7 : Below wr.heap.size wr w7 := hI6.trans (hb7.mono hI6.size)
                    refine hK _ _ hI7 ?_
                    iterate 2 (apply Flo.op rfl (hI := hI7); (· intro v hv K hK; obtain ⟨hc, hf⟩ := Flo.bcl hv; go_wp2_with fail; all_goals first | exact Flo.noUndef (by with_reducible assumption) | exact hK); (· rfl))
                    refine Flo.tail fun K hK => ?_
                    have b0x := b0.below hI7 z0'
                    have b9x := b9.below hI7 z9'
                    have hbx := hbi0.trans (hI7.mono hbi0.size)
                    have hbi7 := hbi.trans (hI7.mono hbi.size)
                    have hzz : wr.heap.size ≤ w7.heap.size := hI7.size
                    clear b0 b9 e0 e9 hI hI6 hb6 hb7 HA1 HA2 z0' z9' hbi0
                    have e0 := b0x.cells
                    have z0' := b0x.lt
                    have e9 := b9x.cells
                    have z9' := b9x.lt
                    go_wp2_with fail
                    go_ret
                    exact RetIB.of (HF.out.trans ((hstop.out (by rw [HT.out]; decide)).trans HT.out)) hbx
                  obtain ⟨hB1, hB2⟩ := HXZ.out hz
                  obtain rfl : x = 0 := by omega
                  obtain rfl : y = 0 := by omega
                  have HB1 := Lib.hid hB1
                  have HB2 := Lib.hid hB2
                  clear hB1 hB2 hz hx01 hy01 HXY HXZ
                  go_upto_region 20 with fail
                  have hI : Below wr.heap.size wr wr.drew := (Below.refl _ _).drew
                  refine Flo.region 8 [(0, true), (1, true), (3, true), (4, true), (2, false), (5, false), (6, true), (7, true)] (fun v => Below wr.heap.size wr v) (by kernel_rfl) (by kernel_rfl) rfl hI ?_
                  simp only [List.drop_succ_cons, List.drop_zero]
                  iterate 4 (apply Flo.op rfl (hI := hI); (· intro v hv K hK; obtain ⟨hc, hf⟩ := Flo.bcl hv; go_wp2_with fail; all_goals first | exact Flo.noUndef (by with_reducible assumption) | exact hK); (· rfl))
                  refine Flo.seq rfl fun K hK => ?_
                  go_wp2_with fail
                  refine (HA1.out _).mono ?_
                  rintro e w6 ⟨rfl, hb6⟩
                  go_wp2_with fail
                  have hI6 : Below wr.heap.size wr w6 := hI.trans hb6
                  refine hK _ _ hI6 ?_
                  refine Flo.seq rfl fun K hK => ?_
                  go_wp2_with fail
                  refine (HA2.out _).mono ?_
                  rintro e w7 ⟨rfl, hb7⟩
                  go_wp2_with fail
                  have hI7 : Below wr.heap.size wr w7 := hI6.trans (hb7.mono hI6.size)
                  refine hK _ _ hI7 ?_
                  iterate 2 (apply Flo.op rfl (hI := hI7); (· intro v hv K hK; obtain ⟨hc, hf⟩ := Flo.bcl hv; go_wp2_with fail; all_goals first | exact Flo.noUndef (by with_reducible assumption) | exact hK); (· rfl))
                  refine Flo.tail fun K hK => ?_
                  have b0x := b0.below hI7 z0'
                  have b9x := b9.below hI7 z9'
                  have hbx := hbi0.trans (hI7.mono hbi0.size)
                  have hbi7 := hbi.trans (hI7.mono hbi.size)
                  have hzz : wr.heap.size ≤ w7.heap.size := hI7.size
                  clear b0 b9 e0 e9 hI hI6 hb6 hb7 HA1 HA2 z0' z9' hbi0
                  have e0 := b0x.cells
                  have z0' := b0x.lt
                  have e9 := b9x.cells
                  have z9' := b9x.lt
                  rcases shape_cases c with ⟨hs, hd⟩ | ⟨hs, hd⟩
                  · have HT := Lib.hid (HAC.out.trans (cont_shape HB1.out HB2.out hs))
                    clear hs
                    rcases hd with hd | hd | hd
                    all_goals
                      go_wp2_with fail
                      go_ret
                      exact RetIB.of (HF.out.trans ((hstop.out (by rw [HT.out]; decide)).trans HT.out)) hbx
                  · by_cases h3 : 3 < c.devs.length
                    · have HT := Lib.hid (HAC.out.trans (cont_many HB1.out HB2.out hs h3))
                      clear hs
                      rcases hd with hd | hd | hd | hd
                      all_goals
                        go_wp2_with fail
                        go_ret
                        exact RetIB.of (HF.out.trans ((hstop.out (by rw [HT.out]; decide)).trans HT.out)) hbx
                    · have HCF := Lib.hid (HAC.out.trans (cont_devs HB1.out HB2.out hs h3))
                      clear hs
                      go_upto_region 22 with fail
                      go_cut [99] (fun s wx => s = .bool false ∧ w7 = wx)
                      case first =>
                        rcases hd with hd | hd | hd | hd
                        all_goals
                          go_wp2_with fail
                          go_meet
                          exact ⟨by simp <;> omega, rfl⟩
                      case rest =>
                        obtain ⟨rfl, rfl⟩ := hcut
                        clear hd
                        go_upto_region 27 with fail
                        have hpw : wa.heap.size ≤ w7.heap.size := hbi7.size
                        have hBa : B ≤ wa.heap.size := Nat.le_trans hB hba.size
                        go_loopw [8] (fun i wi => ∃ m : Nat, i = .int .i64 m ∧ m ≤ c.devs.length ∧ Hid (∀ q, q < m → needFault c.devs q = 0) ∧ Blk wi w.heap.size 33 #[.string pn, .int .i64 pr, .slice (some ⟨b, off, none⟩) conts.length cap] ∧ Blk wi pk 106 #[.string c.name, .int .i64 c.askM, .int .i64 c.askB, .int .i64 c.capM, .int .i64 c.capB, .slice A2 c.devs.length c2] ∧ Below wa.heap.size wa wi) (fun i _ => c.devs.length - (intOf i).toNat)
                        case atStart => exact ⟨0, rfl, by omega, fun j hj => by omega, b0x, b9x, hbi7⟩
                        case round =>
                          clear b0x b9x e0 e9 hbx hbi7 hbi hI7 z0' z9' hzz hpw hba
                          obtain ⟨m, rfl, hm, hallm, b0, b9, hbi⟩ := hrel
                          have e0 := b0.cells
                          have z0' := b0.lt
                          have e9 := b9.cells
                          have z9' := b9.lt
                          have hbx := hba0.out.trans (hbi.mono hba0.out.size)
                          by_cases hlm : m < c.devs.length
                          · obtain ⟨b2, off2, rfl, hb2⟩ := HDA.out m hlm
                            obtain ⟨r0, r1, hks2, hm1, hm2⟩ := need_at (HNDA.out.below (hbi.mono hBa)) hlm
                            have hat3 := Lib.hid (needFault_bad c.devs m hlm)
                            have hat1 := Lib.hid (needFault_out c.devs m hlm)
                            have hat0 := Lib.hid (needFault_ok c.devs m hlm)
                            have hstop2 := Lib.hid (firstF_stop hallm.out hlm)
                            have hbw2 : b2 < wr.heap.size := by have := hbi.size; omega
                            have hKN := fun W => NameMay_any c.devs[m].kind hks2 W
                            unfold maxLen at hks2
                            have hprev : 0 < m → ∃ s, wr.cell? ⟨b2, off2 + (m - 1) * 2, none⟩ = some (.string s) ∧ needBad c.devs m c.devs[m] = (!nameMay c.devs[m].kind || !lessS s c.devs[m].kind) := by
                              intro hk0
                              obtain ⟨r0', _⟩ := need_at (HNDA.out.below (hbi.mono hBa)) (k := m - 1) (by omega)
                              have := needBad_succ c.devs (m - 1) (by omega) c.devs[m]
                              rw [show m - 1 + 1 = m by omega] at this
                              exact ⟨_, r0', this⟩
                            have hz : m = 0 → needBad c.devs m c.devs[m] = !nameMay c.devs[m].kind := by
                              intro h
                              subst h
                              exact needBad_zero _ _
                            have HPREV := Lib.hid hprev
                            have HZ := Lib.hid hz
                            clear hprev hz
                            generalize hx : c.devs[m] = x at *
                            have HX := Lib.hid hx
                            clear hx
                            obtain ⟨kind, many⟩ := x
                            dsimp only at r0 r1 hm1 hm2 hks2 hKN
                            have HKN := Lib.hid hKN
                            clear hKN
                            rcases Nat.eq_zero_or_pos m with hm0 | hm0
                            · subst hm0
                              rw [Nat.zero_mul, Nat.add_zero] at r0 r1
                              have HZ1 := Lib.hid (HZ.out rfl)
                              clear HPREV HZ
                              cases hnm : nameMay kind
                              · rw [hnm] at HKN
                                have HB := Lib.hid (HZ1.out.trans (show (!nameMay kind) = true by rw [hnm]; rfl))
                                clear hnm HZ1
                                have HT2 := Lib.hid ((hstop2.out (by rw [hat3.out HB.out]; decide)).trans (hat3.out HB.out))
                                go_wp2_with fail
                                refine (HKN.out _).mono ?_
                                rintro e w5 ⟨rfl, rfl⟩
                                go_upto_region 30 with fail
                                go_quiet (fail)
                                go_wp2_with fail
                                go_ret
                                exact RetIB.of (HF.out.trans ((hstop.out (by rw [HCF.out, HT2.out]; decide)).trans (HCF.out.trans HT2.out))) (below_drewN2 hbx _)
                              · rw [hnm] at HKN
                                have HB := Lib.hid (HZ1.out.trans (show (!nameMay kind) = false by rw [hnm]; rfl))
                                clear hnm HZ1
                                go_wp2_with fail
                                refine (HKN.out _).mono ?_
                                rintro e w5 ⟨rfl, rfl⟩
                                go_upto_region 30 with fail
                                go_quiet (fail)
                                rcases (show many < 1 ∨ (1 ≤ many ∧ 16 < many) ∨ (1 ≤ many ∧ many ≤ 16) by omega) with hmm | ⟨hmm, hmm'⟩ | ⟨hmm, hmm'⟩
                                · have HM1 := hat1.out HB.out (.inl hmm)
                                  have HT2 := Lib.hid ((hstop2.out (by rw [HM1]; decide)).trans HM1)
                                  clear HM1
                                  go_wp2_with fail
                                  go_ret
                                  exact RetIB.of (HF.out.trans ((hstop.out (by rw [HCF.out, HT2.out]; decide)).trans (HCF.out.trans HT2.out))) (below_drewN2 hbx _)
                                · have HM1 := hat1.out HB.out (.inr hmm')
                                  have HT2 := Lib.hid ((hstop2.out (by rw [HM1]; decide)).trans HM1)
                                  clear HM1
                                  go_wp2_with fail
                                  go_ret
                                  exact RetIB.of (HF.out.trans ((hstop.out (by rw [HCF.out, HT2.out]; decide)).trans (HCF.out.trans HT2.out))) (below_drewN2 hbx _)
                                · have HM1 := Lib.hid (hat0.out HB.out ⟨hmm, hmm'⟩)
                                  go_wp2_with fail
                                  go_roundw
                                  case rel => exact ⟨0 + 1, by first | rfl | go_num, by omega, all_succ hallm.out HM1.out, b0.drewN _, b9.drewN _, below_drewN2 hbi _⟩
                                  case measure => simp [intOf] <;> omega
                            · obtain ⟨s, r0', hnb⟩ := HPREV.out hm0
                              have hm0' : (0 : Int) < (m : Int) := by omega
                              have HZ1 := Lib.hid hnb
                              clear HPREV HZ hnb
                              cases hnm : nameMay kind
                              · rw [hnm] at HKN
                                have HB := Lib.hid (HZ1.out.trans (show (!nameMay kind || !lessS s kind) = true by rw [hnm]; rfl))
                                clear hnm HZ1
                                have HT2 := Lib.hid ((hstop2.out (by rw [hat3.out HB.out]; decide)).trans (hat3.out HB.out))
                                go_wp2_with fail
                                refine (HKN.out _).mono ?_
                                rintro e w5 ⟨rfl, rfl⟩
                                go_upto_region 30 with fail
                                go_quiet (fail)
                                go_wp2_with fail
                                go_ret
                                exact RetIB.of (HF.out.trans ((hstop.out (by rw [HCF.out, HT2.out]; decide)).trans (HCF.out.trans HT2.out))) (below_drewN2 hbx _)
                              · cases hls : Op.bytesLess s.toList kind.toList
                                · rw [hnm] at HKN
                                  have HB := Lib.hid (HZ1.out.trans (show (!nameMay kind || !lessS s kind) = true by rw [hnm, lessS_eq, hls]; rfl))
                                  clear hnm HZ1
                                  have htt := less_total kind.toList s.toList
                                  rw [hls] at htt
                                  have HTT := Lib.hid htt
                                  clear htt
                                  cases hl1 : Op.bytesLess kind.toList s.toList
                                  · have hl2 : (kind.toList == s.toList) = true := by have := HTT.out; rw [hl1] at this; simpa using this
                                    have HT2 := Lib.hid ((hstop2.out (by rw [hat3.out HB.out]; decide)).trans (hat3.out HB.out))
                                    go_wp2_with fail
                                    refine (HKN.out _).mono ?_
                                    rintro e w5 ⟨rfl, rfl⟩
                                    go_upto_region 30 with fail
                                    go_quiet (fail)
                                    go_wp2_with fail
                                    go_ret
                                    exact RetIB.of (HF.out.trans ((hstop.out (by rw [HCF.out, HT2.out]; decide)).trans (HCF.out.trans HT2.out))) (below_drewN2 hbx _)
                                  · have HT2 := Lib.hid ((hstop2.out (by rw [hat3.out HB.out]; decide)).trans (hat3.out HB.out))
                                    go_wp2_with fail
                                    refine (HKN.out _).mono ?_
                                    rintro e w5 ⟨rfl, rfl⟩
                                    go_upto_region 30 with fail
                                    go_quiet (fail)
                                    go_wp2_with fail
                                    go_ret
                                    exact RetIB.of (HF.out.trans ((hstop.out (by rw [HCF.out, HT2.out]; decide)).trans (HCF.out.trans HT2.out))) (below_drewN2 hbx _)
                                · rw [hnm] at HKN
                                  have HB := Lib.hid (HZ1.out.trans (show (!nameMay kind || !lessS s kind) = false by rw [hnm, lessS_eq, hls]; rfl))
                                  clear hnm HZ1
                                  have htt := less_total kind.toList s.toList
                                  rw [hls] at htt
                                  obtain ⟨hl1, hl2⟩ : Op.bytesLess kind.toList s.toList = false ∧ (kind.toList == s.toList) = false := by simpa using htt
                                  clear htt
                                  go_wp2_with fail
                                  refine (HKN.out _).mono ?_
                                  rintro e w5 ⟨rfl, rfl⟩
                                  go_upto_region 30 with fail
                                  go_quiet (fail)
                                  rcases (show many < 1 ∨ (1 ≤ many ∧ 16 < many) ∨ (1 ≤ many ∧ many ≤ 16) by omega) with hmm | ⟨hmm, hmm'⟩ | ⟨hmm, hmm'⟩
                                  · have HM1 := hat1.out HB.out (.inl hmm)
                                    have HT2 := Lib.hid ((hstop2.out (by rw [HM1]; decide)).trans HM1)
                                    clear HM1
                                    go_wp2_with fail
                                    go_ret
                                    exact RetIB.of (HF.out.trans ((hstop.out (by rw [HCF.out, HT2.out]; decide)).trans (HCF.out.trans HT2.out))) (below_drewN2 hbx _)
                                  · have HM1 := hat1.out HB.out (.inr hmm')
                                    have HT2 := Lib.hid ((hstop2.out (by rw [HM1]; decide)).trans HM1)
                                    clear HM1
                                    go_wp2_with fail
                                    go_ret
                                    exact RetIB.of (HF.out.trans ((hstop.out (by rw [HCF.out, HT2.out]; decide)).trans (HCF.out.trans HT2.out))) (below_drewN2 hbx _)
                                  · have HM1 := Lib.hid (hat0.out HB.out ⟨hmm, hmm'⟩)
                                    go_wp2_with fail
                                    go_roundw
                                    case rel => exact ⟨m + 1, by first | rfl | go_num, by omega, all_succ hallm.out HM1.out, b0.drewN _, b9.drewN _, below_drewN2 hbi _⟩
                                    case measure => simp [intOf] <;> omega
                          · obtain rfl : m = c.devs.length := by omega
                            have HZZ := Lib.hid (all_succ hall.out (HCF.out.trans (firstF_zero hallm.out)))
                            go_wp2_with fail
                            go_roundw
                            case rel => exact ⟨j + 1, by go_num, by omega, HZZ.out, b0, hbx⟩
                            case measure => simp [intOf]; omega
          · obtain rfl : k = conts.length := by omega
            have HZ := Lib.hid (firstF_zero hall.out)
            have e0 := b0.cells
            have z0 := b0.lt
            go_wp2_with fail
            go_ret
            exact RetIB.of (HF.out.trans HZ.out) hbel
end
end Go.Proofs.Yticmfflnenoplaa
