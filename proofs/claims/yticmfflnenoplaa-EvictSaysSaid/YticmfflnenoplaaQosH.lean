/- ostleryref.Class, Own of both, qos.Sum, ostleryref.Asked: their walks. -/
import Derived.Test.YticmfflnenoplaaQosG
namespace Go.Proofs.Yticmfflnenoplaa
open Go.RowKit Qo Da
def RetAB (p : Pod) (w : World) (e : Ending) (w' : World) : Prop := e = .returned (.agg #[.int .i64 (askedM p), .int .i64 (askedB p)]) ∧ Below w.heap.size w w'
theorem podR {w : World} {B : Nat} {cs : List Value} {p : Pod} (h : RPod w B cs p) : ∃ A cap, cs = [.string p.name, .int .i64 p.prio, .slice A p.conts.length cap] ∧ p.conts.length ≤ cap ∧ cap ≤ maxLen ∧ p.name.size ≤ maxLen := by
  obtain ⟨cv, h1, h2, h3, h4⟩ := h
  obtain ⟨A, cap, e, e1, e2, _⟩ := RS.form (RS.of h4)
  obtain rfl : cv = _ := by simpa using e
  exact ⟨A, cap, h1, e1, e2, h2⟩
section
attribute [local irreducible] bareK fullK RCont RSlice bare full cls nameMay sumF askedM askedB ownN
set_option maxRecDepth 100000 in
set_option maxHeartbeats 4000000 in
theorem RClass_any (p : Pod) (hG : GoodP p) (cs : List Value) (B : Nat) (w : World) (hB : B ≤ w.heap.size) (hR : RPod w B cs p) :
    Calls Try.prog 63 #[.agg cs.toArray] w (RetIB (cls p) w) := by
  obtain ⟨cv, rfl, hps, hpr, hC⟩ := hR
  obtain ⟨A, cap, e, hl, hcap, hA⟩ := RS.form (RS.of hC)
  obtain rfl : cv = _ := by simpa using e
  unfold maxLen at hcap hps
  have HC := Lib.hid hC
  have HA := Lib.hid hA
  have HG := Lib.hid hG.all
  have HSM := Lib.hid hG.sums
  have hl3 := hG.len
  clear hC hA e hG
  obtain ⟨pn, pr, conts⟩ := p
  dsimp only at *
  have h1 := Lib.hid (fun h => cls_1 (p := ⟨pn, pr, conts⟩) h)
  have h2 := Lib.hid (fun h h' => cls_2 (p := ⟨pn, pr, conts⟩) h h')
  have h3 := Lib.hid (fun h h' => cls_3 (p := ⟨pn, pr, conts⟩) h h')
  dsimp only at h1 h2 h3
  have k0 := Blk.new w 33 #[.string pn, .int .i64 pr, .slice A conts.length cap]
  have hbel : Below w.heap.size w (w.alloc (.cells #[.string pn, .int .i64 pr, .slice A conts.length cap] 33)) := (Below.refl _ _).alloc (Nat.le_refl _) _
  go_enter Try.func63, Try.ntmps63
  go_upto_region 4 with fail
  generalize w.alloc (.cells #[.string pn, .int .i64 pr, .slice A conts.length cap] 33) = w1 at *
  go_loopw [3, 4, 5] (fun s a i wi => ∃ (k : Nat) (s1 a1 : Bool), i = .int .i64 k ∧ k ≤ conts.length ∧ s = .bool s1 ∧ a = .bool a1 ∧ Hid (bareK conts k = s1) ∧ Hid (fullK conts k = a1) ∧ Blk wi w.heap.size 33 #[.string pn, .int .i64 pr, .slice A conts.length cap] ∧ Below w.heap.size w wi) (fun s a i _ => conts.length - (intOf i).toNat)
  case atStart => exact ⟨0, true, true, rfl, by omega, rfl, rfl, bareK_zero _, fullK_zero _, k0, hbel⟩
  case round =>
    clear k0 hbel
    obtain ⟨k, s1, a1, rfl, hk, rfl, rfl, hs, ha, b0, hbel⟩ := hrel
    have e0 := b0.cells
    have z0 := b0.lt
    by_cases hlt : k < conts.length
    · obtain ⟨b, off, rfl, hb⟩ := HA.out k hlt
      obtain ⟨A2, c2, hd1, hd2, hks, _, r0, r1, r2, r3, r4, r5⟩ := cont_in HC.out (hbel.mono hB) hlt
      have hbs := Lib.hid (bareK_succ conts k hlt)
      have hfs := Lib.hid (fullK_succ conts k hlt)
      obtain ⟨_, g1, g2, g3, g4⟩ := HG.out k hlt
      unfold maxLen at hks hd2
      generalize conts[k] = c at *
      obtain ⟨cn, aM, aB, cM, cB, dv⟩ := c
      dsimp only at *
      go_upto_region 7 with fail
      have hba : Below w.heap.size w (wr.alloc (.cells #[.string cn, .int .i64 aM, .int .i64 aB, .int .i64 cM, .int .i64 cB, .slice A2 dv.length c2] 106)) := hbel.alloc hbel.size _
      have b0a := b0.alloc (.cells #[.string cn, .int .i64 aM, .int .i64 aB, .int .i64 cM, .int .i64 cB, .slice A2 dv.length c2] 106)
      have b9 := Blk.new wr 106 #[.string cn, .int .i64 aM, .int .i64 aB, .int .i64 cM, .int .i64 cB, .slice A2 dv.length c2]
      clear r0 r1 r2 r3 r4 r5 b0 hbel e0 z0
      generalize wr.alloc (.cells #[.string cn, .int .i64 aM, .int .i64 aB, .int .i64 cM, .int .i64 cB, .slice A2 dv.length c2] 106) = wa at *
      generalize wr.heap.size = pk at *
      have e9 := b9.cells
      have z9 := b9.lt
      go_cut [40] (fun s wx => ∃ s2, s = .bool s2 ∧ Hid (bare ⟨cn, aM, aB, cM, cB, dv⟩ = !s2) ∧ wa = wx)
      case first =>
        rcases (show 0 < aM ∨ (aM = 0 ∧ 0 < aB) ∨ (aM = 0 ∧ aB = 0 ∧ 0 < cM) ∨ (aM = 0 ∧ aB = 0 ∧ cM = 0 ∧ 0 < cB) ∨ (aM = 0 ∧ aB = 0 ∧ cM = 0 ∧ cB = 0) by omega) with h | ⟨rfl, h⟩ | ⟨rfl, rfl, h⟩ | ⟨rfl, rfl, rfl, h⟩ | ⟨rfl, rfl, rfl, rfl⟩
        · have HN := Lib.hid (show bare ⟨cn, aM, aB, cM, cB, dv⟩ = !true from bare_eq false (by simp <;> omega))
          go_wp2_with fail
          go_meet
          refine ⟨true, ?_, HN.out, rfl⟩
          first | rfl | (congr 1; rw [decide_eq_true_iff]; omega)
        · have HN := Lib.hid (show bare ⟨cn, 0, aB, cM, cB, dv⟩ = !true from bare_eq false (by simp <;> omega))
          go_wp2_with fail
          go_meet
          refine ⟨true, ?_, HN.out, rfl⟩
          first | rfl | (congr 1; rw [decide_eq_true_iff]; omega)
        · have HN := Lib.hid (show bare ⟨cn, 0, 0, cM, cB, dv⟩ = !true from bare_eq false (by simp <;> omega))
          go_wp2_with fail
          go_meet
          refine ⟨true, ?_, HN.out, rfl⟩
          first | rfl | (congr 1; rw [decide_eq_true_iff]; omega)
        · have HN := Lib.hid (show bare ⟨cn, 0, 0, 0, cB, dv⟩ = !true from bare_eq false (by simp <;> omega))
          go_wp2_with fail
          go_meet
          refine ⟨true, ?_, HN.out, rfl⟩
          first | rfl | (congr 1; rw [decide_eq_true_iff]; omega)
        · have HN := Lib.hid (show bare ⟨cn, 0, 0, 0, 0, dv⟩ = !false by rw [bare_eq true (by simp)]; rfl)
          go_wp2_with fail
          go_meet
          exact ⟨_, rfl, HN.out, rfl⟩
      case rest =>
        obtain ⟨s2, rfl, hs2, rfl⟩ := hcut
        have hb2 : ∃ s3, s3 = (s1 && !s2) ∧ Hid (bareK conts (k + 1) = s3) := ⟨_, rfl, by unfold Hid; rw [hbs.out, hs.out, hs2.out]⟩
        obtain ⟨s3, hs3, hb3⟩ := hb2
        go_upto_if 40 with fail
        go_cut [3] (fun s wx => s = .bool s3 ∧ wa = wx)
        case first =>
          cases s2
          · obtain rfl : s3 = s1 := by rw [hs3]; cases s1 <;> rfl
            go_wp2_with fail
            go_meet
            exact ⟨rfl, rfl⟩
          · obtain rfl : s3 = false := by rw [hs3]; cases s1 <;> rfl
            go_wp2_with fail
            go_meet
            exact ⟨rfl, rfl⟩
        case rest =>
          obtain ⟨rfl, rfl⟩ := hcut
          clear hs3 hs2 hbs
          go_upto_region 9 with fail
          go_cut [57] (fun s wx => ∃ s2, s = .bool s2 ∧ Hid (full ⟨cn, aM, aB, cM, cB, dv⟩ = !s2) ∧ wa = wx)
          case first =>
            rcases (show aM = 0 ∨ (0 < aM ∧ aB = 0) ∨ (0 < aM ∧ 0 < aB ∧ aM ≠ cM) ∨ (0 < aM ∧ 0 < aB ∧ aM = cM ∧ aB ≠ cB) ∨ (0 < aM ∧ 0 < aB ∧ aM = cM ∧ aB = cB) by omega) with rfl | ⟨h, rfl⟩ | ⟨h, h', h2⟩ | ⟨h, h', rfl, h2⟩ | ⟨h, h', rfl, rfl⟩
            · have HN := Lib.hid (show full ⟨cn, 0, aB, cM, cB, dv⟩ = !true from full_eq false (by simp))
              go_wp2_with fail
              go_meet
              exact ⟨_, rfl, HN.out, rfl⟩
            · have HN := Lib.hid (show full ⟨cn, aM, 0, cM, cB, dv⟩ = !true from full_eq false (by simp))
              go_wp2_with fail
              go_meet
              exact ⟨_, rfl, HN.out, rfl⟩
            · have HN := Lib.hid (show full ⟨cn, aM, aB, cM, cB, dv⟩ = !true from full_eq false (by simp; omega))
              have q := beq_eq_false_iff_ne.2 h2
              have q1 : (aM == 0) = false := beq_eq_false_iff_ne.2 (by omega)
              have q2 : (aB == 0) = false := beq_eq_false_iff_ne.2 (by omega)
              clear h2
              go_wp2_with fail
              go_meet
              exact ⟨_, rfl, HN.out, rfl⟩
            · have HN := Lib.hid (show full ⟨cn, aM, aB, aM, cB, dv⟩ = !true from full_eq false (by simp; omega))
              have q := beq_eq_false_iff_ne.2 h2
              have q1 : (aM == 0) = false := beq_eq_false_iff_ne.2 (by omega)
              have q2 : (aB == 0) = false := beq_eq_false_iff_ne.2 (by omega)
              clear h2
              go_wp2_with fail
              go_meet
              exact ⟨_, rfl, HN.out, rfl⟩
            · have HN := Lib.hid (show full ⟨cn, aM, aB, aM, aB, dv⟩ = !false from full_eq true (by simp; omega))
              have q1 : (aM == 0) = false := beq_eq_false_iff_ne.2 (by omega)
              have q2 : (aB == 0) = false := beq_eq_false_iff_ne.2 (by omega)
              go_wp2_with fail
              go_meet
              exact ⟨_, rfl, HN.out, rfl⟩
          case rest =>
            obtain ⟨s2, rfl, hs2, rfl⟩ := hcut
            cases s2
            · have HN := Lib.hid (show fullK conts (k + 1) = a1 by rw [hfs.out, ha.out, hs2.out]; simp)
              go_wp2_with fail
              go_roundw
              case rel => exact ⟨k + 1, s3, a1, by go_num, by omega, rfl, rfl, hb3, HN.out, b0a, hba⟩
              case measure => simp [intOf]; omega
            · have HN := Lib.hid (show fullK conts (k + 1) = false by rw [hfs.out, ha.out, hs2.out]; simp)
              go_wp2_with fail
              go_roundw
              case rel => exact ⟨k + 1, s3, false, by go_num, by omega, rfl, rfl, hb3, HN.out, b0a, hba⟩
              case measure => simp [intOf]; omega
    · obtain rfl : k = conts.length := by omega
      cases s1
      · cases a1
        · have HN := Lib.hid (h2.out hs.out ha.out)
          go_wp2_with fail
          go_ret
          exact RetIB.of HN.out hbel
        · have HN := Lib.hid (h3.out hs.out ha.out)
          go_wp2_with fail
          go_ret
          exact RetIB.of HN.out hbel
      · have HN := Lib.hid (h1.out hs.out)
        go_wp2_with fail
        go_ret
        exact RetIB.of HN.out hbel
set_option maxRecDepth 100000 in
set_option maxHeartbeats 2000000 in
theorem Own_any (p : Pod) (hG : GoodP p) (c : Cont) (hc : GoodC c) (cs cc : List Value) (B : Nat) (w : World) (hB : B ≤ w.heap.size) (hR : RPod w B cs p) (hC : RCont w B cc c) :
    Calls Try.prog 66 #[.agg cs.toArray, .agg cc.toArray] w (RetIB (ownN p c) w) := by
  obtain ⟨A, cap, rfl, hl, hcap, hps⟩ := podR hR
  obtain ⟨A2, c2, rfl, hks, hd1, hd2, _, _⟩ := cont_cells hC
  obtain ⟨_, g1, g2, g3, g4⟩ := hc
  unfold maxLen at hcap hps hks hd2
  have hbel : Below w.heap.size w ((w.alloc (.cells #[.string p.name, .int .i64 p.prio, .slice A p.conts.length cap] 33)).alloc (.cells #[.string c.name, .int .i64 c.askM, .int .i64 c.askB, .int .i64 c.capM, .int .i64 c.capB, .slice A2 c.devs.length c2] 106)) := ((Below.refl _ _).alloc (Nat.le_refl _) _).alloc (by simp) _
  have k0 := (Blk.new w 33 #[.string p.name, .int .i64 p.prio, .slice A p.conts.length cap]).alloc (.cells #[.string c.name, .int .i64 c.askM, .int .i64 c.askB, .int .i64 c.capM, .int .i64 c.capB, .slice A2 c.devs.length c2] 106)
  have k1 := Blk.new (w.alloc (.cells #[.string p.name, .int .i64 p.prio, .slice A p.conts.length cap] 33)) 106 #[.string c.name, .int .i64 c.askM, .int .i64 c.askB, .int .i64 c.capM, .int .i64 c.capB, .slice A2 c.devs.length c2]
  simp only [World.size_alloc] at k1
  have HCL := Lib.hid (Class_any p hG _ B _ (Nat.le_trans hB hbel.size) (hR.below (hbel.mono hB)))
  have HY := Lib.hid (fun h h' => ownN_yes (p := p) (c := c) h h')
  have HN := Lib.hid (fun h => ownN_no (p := p) (c := c) h)
  clear hR hC
  go_enter Try.func66, Try.ntmps66
  go_upto_region 1 with fail
  generalize (w.alloc (.cells #[.string p.name, .int .i64 p.prio, .slice A p.conts.length cap] 33)).alloc (.cells #[.string c.name, .int .i64 c.askM, .int .i64 c.askB, .int .i64 c.capM, .int .i64 c.capB, .slice A2 c.devs.length c2] 106) = w1 at *
  have e0 := k0.cells
  have z0 := k0.lt
  have e1 := k1.cells
  have z1 := k1.lt
  go_wp2_with fail
  refine HCL.out.mono ?_
  rintro e w2 ⟨rfl, hb2⟩
  have e1' := (k1.below hb2 z1).cells
  have hbe := hbel.trans (hb2.mono hbel.size)
  clear e0 e1 HCL
  by_cases hq : cls p = 3
  · by_cases hm : c.askM % 1000 = 0
    · have HF := Lib.hid (HY.out hq hm)
      rw [hq]
      go_wp2_with fail
      go_ret
      exact RetIB.of HF.out hbe
    · have HF := Lib.hid (HN.out (.inr hm))
      have hm' := beq_eq_false_iff_ne.2 hm
      rw [hq]
      clear hm
      go_wp2_with fail
      go_ret
      exact RetIB.of HF.out hbe
  · have HF := Lib.hid (HN.out (.inl hq))
    generalize cls p = q at *
    have hq' := beq_eq_false_iff_ne.2 hq
    clear hq
    go_wp2_with fail
    go_ret
    exact RetIB.of HF.out hbe
set_option maxRecDepth 100000 in
set_option maxHeartbeats 2000000 in
theorem ROwn_any (p : Pod) (hG : GoodP p) (c : Cont) (hc : GoodC c) (cs cc : List Value) (B : Nat) (w : World) (hB : B ≤ w.heap.size) (hR : RPod w B cs p) (hC : RCont w B cc c) :
    Calls Try.prog 67 #[.agg cs.toArray, .agg cc.toArray] w (RetIB (ownN p c) w) := by
  obtain ⟨A, cap, rfl, hl, hcap, hps⟩ := podR hR
  obtain ⟨A2, c2, rfl, hks, hd1, hd2, _, _⟩ := cont_cells hC
  obtain ⟨_, g1, g2, g3, g4⟩ := hc
  unfold maxLen at hcap hps hks hd2
  have hbel : Below w.heap.size w ((w.alloc (.cells #[.string p.name, .int .i64 p.prio, .slice A p.conts.length cap] 33)).alloc (.cells #[.string c.name, .int .i64 c.askM, .int .i64 c.askB, .int .i64 c.capM, .int .i64 c.capB, .slice A2 c.devs.length c2] 106)) := ((Below.refl _ _).alloc (Nat.le_refl _) _).alloc (by simp) _
  have k0 := (Blk.new w 33 #[.string p.name, .int .i64 p.prio, .slice A p.conts.length cap]).alloc (.cells #[.string c.name, .int .i64 c.askM, .int .i64 c.askB, .int .i64 c.capM, .int .i64 c.capB, .slice A2 c.devs.length c2] 106)
  have k1 := Blk.new (w.alloc (.cells #[.string p.name, .int .i64 p.prio, .slice A p.conts.length cap] 33)) 106 #[.string c.name, .int .i64 c.askM, .int .i64 c.askB, .int .i64 c.capM, .int .i64 c.capB, .slice A2 c.devs.length c2]
  simp only [World.size_alloc] at k1
  have HCL := Lib.hid (RClass_any p hG _ B _ (Nat.le_trans hB hbel.size) (hR.below (hbel.mono hB)))
  have HY := Lib.hid (fun h h' => ownN_yes (p := p) (c := c) h h')
  have HN := Lib.hid (fun h => ownN_no (p := p) (c := c) h)
  clear hR hC
  go_enter Try.func67, Try.ntmps67
  go_upto_region 1 with fail
  generalize (w.alloc (.cells #[.string p.name, .int .i64 p.prio, .slice A p.conts.length cap] 33)).alloc (.cells #[.string c.name, .int .i64 c.askM, .int .i64 c.askB, .int .i64 c.capM, .int .i64 c.capB, .slice A2 c.devs.length c2] 106) = w1 at *
  have e0 := k0.cells
  have z0 := k0.lt
  have e1 := k1.cells
  have z1 := k1.lt
  go_wp2_with fail
  refine HCL.out.mono ?_
  rintro e w2 ⟨rfl, hb2⟩
  have e1' := (k1.below hb2 z1).cells
  have hbe := hbel.trans (hb2.mono hbel.size)
  clear e0 e1 HCL
  by_cases hq : cls p = 3
  · by_cases hm : c.askM % 1000 = 0
    · have HF := Lib.hid (HY.out hq hm)
      rw [hq]
      go_wp2_with fail
      go_ret
      exact RetIB.of HF.out hbe
    · have HF := Lib.hid (HN.out (.inr hm))
      have hm' := beq_eq_false_iff_ne.2 hm
      rw [hq]
      clear hm
      go_wp2_with fail
      go_ret
      exact RetIB.of HF.out hbe
  · have HF := Lib.hid (HN.out (.inl hq))
    generalize cls p = q at *
    have hq' := beq_eq_false_iff_ne.2 hq
    clear hq
    go_wp2_with fail
    go_ret
    exact RetIB.of HF.out hbe
set_option maxRecDepth 100000 in
set_option maxHeartbeats 4000000 in
theorem Sum_any (p : Pod) (hG : GoodP p) (cs : List Value) (B : Nat) (w : World) (hB : B ≤ w.heap.size) (hR : RPod w B cs p) :
    Calls Try.prog 64 #[.agg cs.toArray] w (RetAB p w) := by
  obtain ⟨cv, rfl, hps, hpr, hC⟩ := hR
  obtain ⟨A, cap, e, hl, hcap, hA⟩ := RS.form (RS.of hC)
  obtain rfl : cv = _ := by simpa using e
  unfold maxLen at hcap hps
  have HC := Lib.hid hC
  have HA := Lib.hid hA
  have HG := Lib.hid hG.all
  have HSM := Lib.hid hG.sums
  have hl3 := hG.len
  clear hC hA e hG
  obtain ⟨pn, pr, conts⟩ := p
  dsimp only at *
  have hM0 := Lib.hid (show sumF Cont.askM conts 0 = 0 by unfold sumF; rfl)
  have hB0 := Lib.hid (show sumF Cont.askB conts 0 = 0 by unfold sumF; rfl)
  have hMe := Lib.hid (show askedM ⟨pn, pr, conts⟩ = sumF Cont.askM conts conts.length by unfold askedM; rfl)
  have hBe := Lib.hid (show askedB ⟨pn, pr, conts⟩ = sumF Cont.askB conts conts.length by unfold askedB; rfl)
  have k0 := ((Blk.new w 33 #[.string pn, .int .i64 pr, .slice A conts.length cap]).alloc (.cells #[.int .i64 0, .int .i64 0] 101)).alloc (.cells #[.int .i64 0, .int .i64 0] 101)
  have k1 := (Blk.new (w.alloc (.cells #[.string pn, .int .i64 pr, .slice A conts.length cap] 33)) 101 #[.int .i64 0, .int .i64 0]).alloc (.cells #[.int .i64 0, .int .i64 0] 101)
  have k2 := Blk.new ((w.alloc (.cells #[.string pn, .int .i64 pr, .slice A conts.length cap] 33)).alloc (.cells #[.int .i64 0, .int .i64 0] 101)) 101 #[.int .i64 0, .int .i64 0]
  simp only [World.size_alloc] at k1 k2
  have hbel : Below w.heap.size w (((w.alloc (.cells #[.string pn, .int .i64 pr, .slice A conts.length cap] 33)).alloc (.cells #[.int .i64 0, .int .i64 0] 101)).alloc (.cells #[.int .i64 0, .int .i64 0] 101)) := (((Below.refl _ _).alloc (Nat.le_refl _) _).alloc (by simp) _).alloc (by simp; omega) _
  go_enter Try.func64, Try.ntmps64
  go_upto_region 3 with fail
  generalize ((w.alloc (.cells #[.string pn, .int .i64 pr, .slice A conts.length cap] 33)).alloc (.cells #[.int .i64 0, .int .i64 0] 101)).alloc (.cells #[.int .i64 0, .int .i64 0] 101) = w1 at *
  go_loopw [9] (fun i wi => ∃ k : Nat, i = .int .i64 k ∧ k ≤ conts.length ∧ Blk wi w.heap.size 33 #[.string pn, .int .i64 pr, .slice A conts.length cap] ∧ Blk wi (w.heap.size + 1) 101 #[.int .i64 0, .int .i64 0] ∧ Blk wi (w.heap.size + 1 + 1) 101 #[.int .i64 (sumF Cont.askM conts k), .int .i64 (sumF Cont.askB conts k)] ∧ Below w.heap.size w wi) (fun i _ => conts.length - (intOf i).toNat)
  case atStart => exact ⟨0, rfl, by omega, k0, k1, by rw [hM0.out, hB0.out]; exact k2, hbel⟩
  case round =>
    clear k0 k1 k2 hbel
    obtain ⟨k, rfl, hk, b0, b1, b2, hbel⟩ := hrel
    have e0 := b0.cells
    have z0 := b0.lt
    have e1 := b1.cells
    have z1 := b1.lt
    have e2 := b2.cells
    have z2 := b2.lt
    obtain ⟨s1, s2, _, _⟩ := HSM.out k hk
    by_cases hlt : k < conts.length
    · obtain ⟨b, off, rfl, hb⟩ := HA.out k hlt
      obtain ⟨A2, c2, hd1, hd2, hks, _, r0, r1, r2, r3, r4, r5⟩ := cont_in HC.out (hbel.mono hB) hlt
      have hsM := Lib.hid (sumF_succ Cont.askM conts k hlt)
      have hsB := Lib.hid (sumF_succ Cont.askB conts k hlt)
      obtain ⟨_, g1, g2, g3, g4⟩ := HG.out k hlt
      unfold maxLen at hks hd2
      generalize conts[k] = c at *
      obtain ⟨cn, aM, aB, cM, cB, dv⟩ := c
      dsimp only at *
      generalize sumF Cont.askM conts k = sM at *
      generalize sumF Cont.askB conts k = sB at *
      go_upto_region 5 with fail
      have hba : Below w.heap.size w (wr.alloc (.cells #[.string cn, .int .i64 aM, .int .i64 aB, .int .i64 cM, .int .i64 cB, .slice A2 dv.length c2] 106)) := hbel.alloc hbel.size _
      have b0a := b0.alloc (.cells #[.string cn, .int .i64 aM, .int .i64 aB, .int .i64 cM, .int .i64 cB, .slice A2 dv.length c2] 106)
      have b1a := b1.alloc (.cells #[.string cn, .int .i64 aM, .int .i64 aB, .int .i64 cM, .int .i64 cB, .slice A2 dv.length c2] 106)
      have b2a := b2.alloc (.cells #[.string cn, .int .i64 aM, .int .i64 aB, .int .i64 cM, .int .i64 cB, .slice A2 dv.length c2] 106)
      have b9 := Blk.new wr 106 #[.string cn, .int .i64 aM, .int .i64 aB, .int .i64 cM, .int .i64 cB, .slice A2 dv.length c2]
      clear r0 r1 r2 r3 r4 r5 b0 b1 b2 hbel e0 e1 e2
      generalize wr.alloc (.cells #[.string cn, .int .i64 aM, .int .i64 aB, .int .i64 cM, .int .i64 cB, .slice A2 dv.length c2] 106) = wa at *
      generalize wr.heap.size = pk at *
      have hn2 : pk ≠ w.heap.size + 1 + 1 := by omega
      have e9 := b9.cells
      have z9 := b9.lt
      have e2 := b2a.cells
      have f2 := b2a.frozens
      go_wp2_with fail
      go_roundw
      case rel => exact ⟨k + 1, by go_num, by omega, (b0a.far (by simp; omega) _).far (by simp; omega) _, (b1a.far (by simp) _).far (by simp) _, by rw [hsM.out, hsB.out]; exact ((b2a.set_ 0 _).set_ 1 _).cast (by simp), (hba.setCell (by simp; omega) _).setCell (by simp; omega) _⟩
      case measure => simp [intOf]; omega
    · obtain rfl : k = conts.length := by omega
      have f1 := b1.frozens
      go_wp2_with fail
      have ez := ((b1.set_ 0 (.int .i64 (sumF Cont.askM conts conts.length))).set_ 1 (.int .i64 (sumF Cont.askB conts conts.length))).cells
      refine bodyPost_ret (v := .agg #[.int .i64 (sumF Cont.askM conts conts.length), .int .i64 (sumF Cont.askB conts conts.length)]) (by simp [results, Try.results64, go_sem, ez]) rfl ⟨by rw [hMe.out, hBe.out], ?_⟩
      exact (hbel.setCell (by simp) _).setCell (by simp) _
set_option maxRecDepth 100000 in
set_option maxHeartbeats 4000000 in
theorem Asked_any (p : Pod) (hG : GoodP p) (cs : List Value) (B : Nat) (w : World) (hB : B ≤ w.heap.size) (hR : RPod w B cs p) :
    Calls Try.prog 65 #[.agg cs.toArray] w (RetAB p w) := by
  obtain ⟨cv, rfl, hps, hpr, hC⟩ := hR
  obtain ⟨A, cap, e, hl, hcap, hA⟩ := RS.form (RS.of hC)
  obtain rfl : cv = _ := by simpa using e
  unfold maxLen at hcap hps
  have HC := Lib.hid hC
  have HA := Lib.hid hA
  have HG := Lib.hid hG.all
  have HSM := Lib.hid hG.sums
  have hl3 := hG.len
  clear hC hA e hG
  obtain ⟨pn, pr, conts⟩ := p
  dsimp only at *
  have hM0 := Lib.hid (show sumF Cont.askM conts 0 = 0 by unfold sumF; rfl)
  have hB0 := Lib.hid (show sumF Cont.askB conts 0 = 0 by unfold sumF; rfl)
  have hMe := Lib.hid (show askedM ⟨pn, pr, conts⟩ = sumF Cont.askM conts conts.length by unfold askedM; rfl)
  have hBe := Lib.hid (show askedB ⟨pn, pr, conts⟩ = sumF Cont.askB conts conts.length by unfold askedB; rfl)
  have k0 := ((Blk.new w 33 #[.string pn, .int .i64 pr, .slice A conts.length cap]).alloc (.cells #[.int .i64 0, .int .i64 0] 101)).alloc (.cells #[.int .i64 0, .int .i64 0] 101)
  have k1 := (Blk.new (w.alloc (.cells #[.string pn, .int .i64 pr, .slice A conts.length cap] 33)) 101 #[.int .i64 0, .int .i64 0]).alloc (.cells #[.int .i64 0, .int .i64 0] 101)
  have k2 := Blk.new ((w.alloc (.cells #[.string pn, .int .i64 pr, .slice A conts.length cap] 33)).alloc (.cells #[.int .i64 0, .int .i64 0] 101)) 101 #[.int .i64 0, .int .i64 0]
  simp only [World.size_alloc] at k1 k2
  have hbel : Below w.heap.size w (((w.alloc (.cells #[.string pn, .int .i64 pr, .slice A conts.length cap] 33)).alloc (.cells #[.int .i64 0, .int .i64 0] 101)).alloc (.cells #[.int .i64 0, .int .i64 0] 101)) := (((Below.refl _ _).alloc (Nat.le_refl _) _).alloc (by simp) _).alloc (by simp; omega) _
  go_enter Try.func65, Try.ntmps65
  go_upto_region 3 with fail
  generalize ((w.alloc (.cells #[.string pn, .int .i64 pr, .slice A conts.length cap] 33)).alloc (.cells #[.int .i64 0, .int .i64 0] 101)).alloc (.cells #[.int .i64 0, .int .i64 0] 101) = w1 at *
  go_loopw [4] (fun i wi => ∃ k : Nat, i = .int .i64 k ∧ k ≤ conts.length ∧ Blk wi w.heap.size 33 #[.string pn, .int .i64 pr, .slice A conts.length cap] ∧ Blk wi (w.heap.size + 1) 101 #[.int .i64 0, .int .i64 0] ∧ Blk wi (w.heap.size + 1 + 1) 101 #[.int .i64 (sumF Cont.askM conts k), .int .i64 (sumF Cont.askB conts k)] ∧ Below w.heap.size w wi) (fun i _ => conts.length - (intOf i).toNat)
  case atStart => exact ⟨0, rfl, by omega, k0, k1, by rw [hM0.out, hB0.out]; exact k2, hbel⟩
  case round =>
    clear k0 k1 k2 hbel
    obtain ⟨k, rfl, hk, b0, b1, b2, hbel⟩ := hrel
    have e0 := b0.cells
    have z0 := b0.lt
    have e1 := b1.cells
    have z1 := b1.lt
    have e2 := b2.cells
    have z2 := b2.lt
    obtain ⟨s1, s2, _, _⟩ := HSM.out k hk
    by_cases hlt : k < conts.length
    · obtain ⟨b, off, rfl, hb⟩ := HA.out k hlt
      obtain ⟨A2, c2, hd1, hd2, hks, _, r0, r1, r2, r3, r4, r5⟩ := cont_in HC.out (Below.refl B w) hlt
      have hsM := Lib.hid (sumF_succ Cont.askM conts k hlt)
      have hsB := Lib.hid (sumF_succ Cont.askB conts k hlt)
      obtain ⟨_, g1, g2, g3, g4⟩ := HG.out k hlt
      unfold maxLen at hks hd2
      generalize conts[k] = c at *
      obtain ⟨cn, aM, aB, cM, cB, dv⟩ := c
      dsimp only at *
      generalize sumF Cont.askM conts k = sM at *
      generalize sumF Cont.askB conts k = sB at *
      have hbw : b < w.heap.size := by omega
      have q1 := (hbel.cell (p := ⟨b, off + k * 6 + 1, none⟩) hbw).trans r1
      clear r0 r1 r3 r4 r5
      go_upto_region 5 with fail
      have hI : Below wr.heap.size wr wr.drew := (Below.refl _ _).drew
      have hbwr : b < wr.heap.size := by omega
      refine Flo.region 11 [(0, true), (1, true), (2, true), (3, true), (4, true), (5, true), (6, true), (7, true), (8, true), (9, true), (10, true)] (fun v => Below wr.heap.size wr v) (by kernel_rfl) (by kernel_rfl) rfl hI ?_
      simp only [List.drop_succ_cons, List.drop_zero]
      iterate 11 (apply Flo.op rfl (hI := hI); (· intro v hv K hK; obtain ⟨hc, hf⟩ := Flo.bcl hv; go_wp2_with fail; all_goals first | exact Flo.noUndef (by with_reducible assumption) | exact hK); (· rfl))
      refine Flo.tail fun K hK => ?_
      have b0d := b0.drew
      have b1d := b1.drew
      have b2d := b2.drew
      have hbd := hbel.drew
      clear b0 b1 b2 hbel e0 e1 e2 z0 z1 z2 hI q1 hbwr
      generalize wr.drew = w2 at *
      have e2 := b2d.cells
      have z2 := b2d.lt
      have f2 := b2d.frozens
      go_upto_region 6 with fail
      have b0e := b0d.far (p := ⟨w.heap.size + 1 + 1, 0, none⟩) (by simp; omega) (.int .i64 (sM + aM))
      have b1e := b1d.far (p := ⟨w.heap.size + 1 + 1, 0, none⟩) (by simp) (.int .i64 (sM + aM))
      have b2e : Blk (w2.setCell ⟨w.heap.size + 1 + 1, 0, none⟩ (.int .i64 (sM + aM))) (w.heap.size + 1 + 1) 101 #[.int .i64 (sM + aM), .int .i64 sB] := (b2d.set_ 0 _).cast (by simp)
      have hbe := hbd.setCell (p := ⟨w.heap.size + 1 + 1, 0, none⟩) (by simp; omega) (.int .i64 (sM + aM))
      clear b0d b1d b2d hbd e2 z2 f2
      generalize w2.setCell ⟨w.heap.size + 1 + 1, 0, none⟩ (.int .i64 (sM + aM)) = w3 at *
      have q2 := (hbe.cell (p := ⟨b, off + k * 6 + 2, none⟩) hbw).trans r2
      have e0 := b0e.cells
      have z0 := b0e.lt
      have e2 := b2e.cells
      have z2 := b2e.lt
      have hI : Below w3.heap.size w3 w3.drew := (Below.refl _ _).drew
      have hbwr : b < w3.heap.size := by omega
      refine Flo.region 11 [(0, true), (1, true), (2, true), (3, true), (4, true), (5, true), (6, true), (7, true), (8, true), (9, true), (10, true)] (fun v => Below w3.heap.size w3 v) (by kernel_rfl) (by kernel_rfl) rfl hI ?_
      simp only [List.drop_succ_cons, List.drop_zero]
      iterate 11 (apply Flo.op rfl (hI := hI); (· intro v hv K hK; obtain ⟨hc, hf⟩ := Flo.bcl hv; go_wp2_with fail; all_goals first | exact Flo.noUndef (by with_reducible assumption) | exact hK); (· rfl))
      refine Flo.tail fun K2 hK2 => ?_
      have b0f := b0e.drew
      have b1f := b1e.drew
      have b2f := b2e.drew
      have hbf := hbe.drew
      clear b0e b1e b2e hbe e0 e2 z0 z2 hI q2 hbwr
      generalize w3.drew = w4 at *
      have e2 := b2f.cells
      have z2 := b2f.lt
      have f2 := b2f.frozens
      go_wp2_with fail
      go_roundw
      case rel => exact ⟨k + 1, by go_num, by omega, b0f.far (by simp; omega) _, b1f.far (by simp) _, by rw [hsM.out, hsB.out]; exact (b2f.set_ 1 _).cast (by simp), hbf.setCell (by simp; omega) _⟩
      case measure => simp [intOf]; omega
    · obtain rfl : k = conts.length := by omega
      have f1 := b1.frozens
      go_wp2_with fail
      have ez := ((b1.set_ 0 (.int .i64 (sumF Cont.askM conts conts.length))).set_ 1 (.int .i64 (sumF Cont.askB conts conts.length))).cells
      refine bodyPost_ret (v := .agg #[.int .i64 (sumF Cont.askM conts conts.length), .int .i64 (sumF Cont.askB conts conts.length)]) (by simp [results, Try.results65, go_sem, ez]) rfl ⟨by rw [hMe.out, hBe.out], ?_⟩
      exact (hbel.setCell (by simp) _).setCell (by simp) _
end
end Go.Proofs.Yticmfflnenoplaa