/- qos.Check: its walk. -/
import Derived.Test.YticmfflnenoplacQosC
namespace Go.Proofs.Yticmfflnenoplac
open Go.RowKit Qo Da
theorem atFault_name (l : List Cont) (k : Nat) (h : k < l.length) (hb : nameMay l[k].name = false) : atFault l k = 3 := by
  rw [atFault_at l k h, hb]; rfl
theorem atFault_twice (l : List Cont) (k : Nat) (h : k < l.length) (hb : nameMay l[k].name = true) (ht : twice l k l[k].name = true) : atFault l k = 5 := by
  rw [atFault_at l k h, hb, ht]; rfl
theorem atFault_cont (l : List Cont) (k : Nat) (h : k < l.length) (hb : nameMay l[k].name = true) (ht : twice l k l[k].name = false) : atFault l k = contFault l[k] := by
  rw [atFault_at l k h, hb, ht]; rfl
theorem podFault_name {p : Pod} (h : nameMay p.name = false) : podFault p = 3 := by
  unfold podFault; rw [h]; rfl
theorem podFault_prio {p : Pod} (h : nameMay p.name = true) (h2 : p.prio < 0 ∨ 1000 < p.prio) : podFault p = 1 := by
  unfold podFault; rw [h, if_neg (by simp), if_pos h2]
theorem podFault_many {p : Pod} (h : nameMay p.name = true) (h2 : 0 ≤ p.prio ∧ p.prio ≤ 1000) (h3 : p.conts.length < 1 ∨ 3 < p.conts.length) : podFault p = 2 := by
  unfold podFault; rw [h, if_neg (by simp), if_neg (by omega), if_pos h3]
theorem podFault_conts {p : Pod} (h : nameMay p.name = true) (h2 : 0 ≤ p.prio ∧ p.prio ≤ 1000) (h3 : 1 ≤ p.conts.length ∧ p.conts.length ≤ 3) : podFault p = firstF (atFault p.conts) p.conts.length := by
  unfold podFault; rw [h, if_neg (by simp), if_neg (by omega), if_neg (by omega)]
def contCells (c : Cont) (dv : Value) : List Value := [.string c.name, .int .i64 c.askM, .int .i64 c.askB, .int .i64 c.capM, .int .i64 c.capB, dv]
theorem cont_at {w w' : World} {B b off n cap : Nat} {l : List Cont} (h : RSlice w B 6 (RCont w B) [.slice (some ⟨b, off, none⟩) n cap] l) (hb : Below B w w') {k : Nat} (hk : k < l.length) :
    b < B ∧ ∃ A2 c2, RCont w' B (contCells l[k] (.slice A2 l[k].devs.length c2)) l[k] ∧ l[k].name.size ≤ maxLen ∧ (∀ j u, (contCells l[k] (.slice A2 l[k].devs.length c2))[j]? = some u → w'.cell? ⟨b, off + k * 6 + j, none⟩ = some u) := by
  obtain ⟨hlt, cs', q1, q2, q3⟩ := (h.below hb).at_ hk
  have q3' := q3.below hb
  obtain ⟨A2, c2, e, hn, _⟩ := cont_cells q3
  rw [e] at q2 q3'
  exact ⟨hlt, A2, c2, q3', hn, q2⟩
section
attribute [local irreducible] nameMay atFault contFault twice firstF podFault RCont RSlice
set_option maxRecDepth 100000 in
set_option maxHeartbeats 8000000 in
theorem Check_any (p : Pod) (cs : List Value) (B : Nat) (w : World) (hB : B ≤ w.heap.size) (hR : RPod w B cs p) :
    Calls Try.prog 8 #[.agg cs.toArray] w (RetEB (podFault p) w) := by
  obtain ⟨cv, rfl, hps, hpr, hC⟩ := hR
  obtain ⟨A, cap, e, hl, hcap, hA⟩ := RS.form (RS.of hC)
  obtain rfl : cv = _ := by simpa using e
  have HNM := Lib.hid (fun W => Name_any p.name hps W)
  unfold maxLen at hcap hps
  have HC := Lib.hid hC
  have HA := Lib.hid hA
  clear hC hA e
  obtain ⟨pn, pr, conts⟩ := p
  dsimp only at *
  have k0 := Blk.new w 28 #[.string pn, .int .i64 pr, .slice A conts.length cap]
  have hbel : Below w.heap.size w (w.alloc (.cells #[.string pn, .int .i64 pr, .slice A conts.length cap] 28)) := (Below.refl _ _).alloc (Nat.le_refl _) _
  go_enter Try.func8, Try.ntmps8
  cases hnm : nameMay pn
  · have HF := Lib.hid (podFault_name (p := ⟨pn, pr, conts⟩) hnm)
    rw [hnm] at HNM
    clear hnm
    go_wp2_with fail
    refine (HNM.out _).mono ?_
    rintro e w5 ⟨rfl, rfl⟩
    go_wp2_with fail
    go_ret
    exact RetEB.err HF.out (by omega) hbel
  · have HN := Lib.hid hnm
    rw [hnm] at HNM
    clear hnm
    rcases (show (pr < 0 ∨ (0 ≤ pr ∧ 1000 < pr)) ∨ (0 ≤ pr ∧ pr ≤ 1000) by omega) with hd | ⟨hp1, hp2⟩
    · have HF := Lib.hid (podFault_prio (p := ⟨pn, pr, conts⟩) HN.out (show pr < 0 ∨ 1000 < pr by omega))
      rcases hd with hd | ⟨hd1, hd2⟩
      all_goals
        go_wp2_with fail
        refine (HNM.out _).mono ?_
        rintro e w5 ⟨rfl, rfl⟩
        go_wp2_with fail
        go_ret
        exact RetEB.err HF.out (by omega) hbel
    · rcases (show (conts.length < 1 ∨ (1 ≤ conts.length ∧ 3 < conts.length)) ∨ (1 ≤ conts.length ∧ conts.length ≤ 3) by omega) with hd | ⟨hc1, hc2⟩
      · have HF := Lib.hid (podFault_many (p := ⟨pn, pr, conts⟩) HN.out ⟨hp1, hp2⟩ (show conts.length < 1 ∨ 3 < conts.length by omega))
        rcases hd with hd | ⟨hd1, hd2⟩
        all_goals
          go_wp2_with fail
          refine (HNM.out _).mono ?_
          rintro e w5 ⟨rfl, rfl⟩
          go_wp2_with fail
          go_ret
          exact RetEB.err HF.out (by omega) hbel
      · have HF := Lib.hid (podFault_conts (p := ⟨pn, pr, conts⟩) HN.out ⟨hp1, hp2⟩ ⟨hc1, hc2⟩)
        go_wp2_with fail
        refine (HNM.out _).mono ?_
        rintro e w5 ⟨rfl, rfl⟩
        go_upto_region 8 with fail
        generalize w.alloc (.cells #[.string pn, .int .i64 pr, .slice A conts.length cap] 28) = w1 at *
        go_loopw [36] (fun i wi => ∃ k : Nat, i = .int .i64 k ∧ k ≤ conts.length ∧ Hid (∀ j, j < k → atFault conts j = 0) ∧ Blk wi w.heap.size 28 #[.string pn, .int .i64 pr, .slice A conts.length cap] ∧ Below w.heap.size w wi) (fun i _ => conts.length - (intOf i).toNat)
        case atStart => exact ⟨0, rfl, by omega, fun j hj => by omega, k0, hbel⟩
        case round =>
          clear k0 hbel
          obtain ⟨k, rfl, hk, hall, b0, hbel⟩ := hrel
          by_cases hlt : k < conts.length
          · obtain ⟨b, off, rfl, hb⟩ := HA.out k hlt
            obtain ⟨_, A2, c2, hrc, hks, hcell⟩ := cont_at HC.out (hbel.mono hB) hlt
            have hstop := Lib.hid (firstF_stop hall.out hlt)
            have han := Lib.hid (atFault_name conts k hlt)
            have hat := Lib.hid (atFault_twice conts k hlt)
            have hac := Lib.hid (atFault_cont conts k hlt)
            have HRC := Lib.hid hrc
            have hz0 := b0.lt
            have e0 := b0.cells
            have hbw : b < wr.heap.size := by have := hbel.size; omega
            have hN2 := fun W => Name_any conts[k].name hks W
            unfold maxLen at hks
            have r0 := hcell 0 _ rfl
            have r1 := hcell 1 _ rfl
            have r2 := hcell 2 _ rfl
            have r3 := hcell 3 _ rfl
            have r4 := hcell 4 _ rfl
            have r5 := hcell 5 _ rfl
            rw [Nat.add_zero] at r0
            clear hcell hrc
            generalize conts[k] = c at *
            have HN2 := Lib.hid hN2
            clear hN2
            go_upto_region 10 with fail
            have hba : Below w.heap.size w (wr.alloc (.cells #[.string c.name, .int .i64 c.askM, .int .i64 c.askB, .int .i64 c.capM, .int .i64 c.capB, .slice A2 c.devs.length c2] 56)) := hbel.alloc hbel.size _
            have hbr : Below wr.heap.size wr (wr.alloc (.cells #[.string c.name, .int .i64 c.askM, .int .i64 c.askB, .int .i64 c.capM, .int .i64 c.capB, .slice A2 c.devs.length c2] 56)) := (Below.refl _ _).alloc (Nat.le_refl _) _
            have b0a := b0.alloc (.cells #[.string c.name, .int .i64 c.askM, .int .i64 c.askB, .int .i64 c.capM, .int .i64 c.capB, .slice A2 c.devs.length c2] 56)
            have b9 := Blk.new wr 56 #[.string c.name, .int .i64 c.askM, .int .i64 c.askB, .int .i64 c.capM, .int .i64 c.capB, .slice A2 c.devs.length c2]
            have hpk : w.heap.size ≤ wr.heap.size := hbel.size
            have HRA := Lib.hid (RCont.below HRC.out (hbr.mono (Nat.le_trans hB hbel.size)))
            clear r0 r1 r2 r3 r4 r5 e0 b0 hbr hbel HRC
            generalize wr.alloc (.cells #[.string c.name, .int .i64 c.askM, .int .i64 c.askB, .int .i64 c.capM, .int .i64 c.capB, .slice A2 c.devs.length c2] 56) = wa at *
            generalize wr.heap.size = pk at *
            have e0 := b0a.cells
            have z0 := b0a.lt
            have e9 := b9.cells
            have z9 := b9.lt
            cases hnm : nameMay c.name
            · rw [hnm] at HN2
              have HM := Lib.hid (han.out hnm)
              clear hnm
              go_wp2_with fail
              refine (HN2.out _).mono ?_
              rintro e w5 ⟨rfl, rfl⟩
              go_wp2_with fail
              go_ret
              exact RetEB.err (HF.out.trans ((hstop.out (by rw [HM.out]; decide)).trans HM.out)) (by omega) hba
            · rw [hnm] at HN2
              have HM := Lib.hid hnm
              clear hnm
              go_wp2_with fail
              refine (HN2.out _).mono ?_
              rintro e w5 ⟨rfl, rfl⟩
              go_upto_region 13 with fail
              go_loopw [51] (fun i wi => ∃ j : Nat, i = .int .i64 j ∧ j ≤ k ∧ Hid (twice conts j c.name = false) ∧ Blk wi w.heap.size 28 #[.string pn, .int .i64 pr, .slice (some ⟨b, off, none⟩) conts.length cap] ∧ Blk wi pk 56 #[.string c.name, .int .i64 c.askM, .int .i64 c.askB, .int .i64 c.capM, .int .i64 c.capB, .slice A2 c.devs.length c2] ∧ Below wa.heap.size wa wi) (fun i _ => k - (intOf i).toNat)
              case atStart => exact ⟨0, rfl, by omega, twice_zero _ _, b0a, b9, Below.refl _ _⟩
              case round =>
                clear b0a b9 e0 e9
                obtain ⟨j, rfl, hj, htw, b0, b9, hbi⟩ := hrel
                have e0 := b0.cells
                have z0' := b0.lt
                have e9 := b9.cells
                have z9' := b9.lt
                have hbi0 := hba.trans (hbi.mono hba.size)
                have hbwi : b < wr.heap.size := by have := hbi.size; omega
                by_cases hjk : j < k
                · obtain ⟨_, A3, c3, hrc3, hks3, hcell3⟩ := cont_at HC.out (hbi0.mono hB) (show j < conts.length by omega)
                  have hnx := Lib.hid (twice_next conts j (by omega) c.name)
                  have hmono := Lib.hid (twice_mono conts (j + 1) k (by omega) c.name)
                  unfold maxLen at hks3
                  have r0 := hcell3 0 _ rfl
                  have r1 := hcell3 1 _ rfl
                  have r2 := hcell3 2 _ rfl
                  have r3 := hcell3 3 _ rfl
                  have r4 := hcell3 4 _ rfl
                  have r5 := hcell3 5 _ rfl
                  rw [Nat.add_zero] at r0
                  clear hcell3 hrc3
                  generalize conts[j] = d at *
                  have hald : Below wr.heap.size wr (wr.alloc (.cells #[.string d.name, .int .i64 d.askM, .int .i64 d.askB, .int .i64 d.capM, .int .i64 d.capB, .slice A3 d.devs.length c3] 56)) := (Below.refl _ _).alloc (Nat.le_refl _) _
                  cases hs : d.name.toList == c.name.toList
                  · have HS := Lib.hid (show twice conts (j + 1) c.name = false by rw [hnx.out, htw.out]; exact hs)
                    go_wp2_with fail
                    go_roundw
                    case rel => exact ⟨j + 1, by go_num, by omega, HS.out, b0.below hald z0', b9.below hald z9', hbi.trans (hald.mono hbi.size)⟩
                    case measure => simp [intOf]; omega
                  · have HS := Lib.hid (hmono.out (show twice conts (j + 1) c.name = true by rw [hnx.out, htw.out]; exact hs))
                    have HT := Lib.hid (hat.out HM.out HS.out)
                    go_wp2_with fail
                    go_ret
                    exact RetEB.err (HF.out.trans ((hstop.out (by rw [HT.out]; decide)).trans HT.out)) (by omega) (hbi0.trans (hald.mono hbi0.size))
                · obtain rfl : j = k := by omega
                  have HT := Lib.hid (hac.out HM.out htw.out)
                  have hcf := Lib.hid (cont_any c _ B wr (Nat.le_trans hB hbi0.size) (HRA.out.below (hbi.mono (by have := hba.size; omega))))
                  have hd : contFault c = 0 ∨ contFault c ≠ 0 := by omega
                  rcases hd with hd | hd
                  · rw [hd] at hcf HT
                    have HZ := Lib.hid (all_succ hall.out HT.out)
                    clear hd
                    go_wp2_with fail
                    refine hcf.out.mono ?_
                    rintro e w6 ⟨rfl, hb6⟩
                    rw [errV_0]
                    go_wp2_with fail
                    go_roundw
                    case rel => exact ⟨j + 1, by go_num, by omega, HZ.out, b0.below hb6 z0', hbi0.trans (hb6.mono hbi0.size)⟩
                    case measure => simp [intOf]; omega
                  · have HE := Lib.hid (HF.out.trans ((hstop.out (by rw [HT.out]; exact hd)).trans HT.out))
                    have HDN := Lib.hid hd
                    generalize contFault c = f at *
                    go_wp2_with fail
                    refine hcf.out.mono ?_
                    rintro e w6 ⟨rfl, hb6⟩
                    rw [errV_pos f HDN.out]
                    go_wp2_with fail
                    go_ret
                    exact RetEB.err HE.out HDN.out (hbi0.trans (hb6.mono hbi0.size))
          · obtain rfl : k = conts.length := by omega
            have HZ := Lib.hid (firstF_zero hall.out)
            go_wp2_with fail
            go_ret
            exact RetEB.nil (HF.out.trans HZ.out) hbel
end
end Go.Proofs.Yticmfflnenoplac
