/- qos.caps, qos.path, ostleryref.PathOf: their walks. -/
import Derived.Test.YticmfflnenoplabQosH
namespace Go.Proofs.Yticmfflnenoplab
open Go.RowKit Qo Da
def RetCap (l : List Cont) (w : World) (e : Ending) (w' : World) : Prop := e = .returned (.agg #[.int .i64 (capF Cont.capM l), .int .i64 (capF Cont.capB l)]) ∧ Below w.heap.size w w'
def RetS (s : ByteArray) (w : World) (e : Ending) (w' : World) : Prop := e = .returned (.string s) ∧ Below w.heap.size w w'
theorem RetS.of {s t : ByteArray} {w w' : World} (h : s = t) (hb : Below w.heap.size w w') : RetS s w (.returned (.string t)) w' := ⟨by rw [h], hb⟩
def pathP (p : Pod) : ByteArray := if cls p = 1 then ⟨#[47, 108, 111, 119, 47]⟩ ++ p.name else if cls p = 2 then ⟨#[47, 109, 105, 100, 47]⟩ ++ p.name else ⟨#[47]⟩ ++ p.name
theorem pathP_1 {p : Pod} (h : cls p = 1) : pathP p = ⟨#[47, 108, 111, 119, 47]⟩ ++ p.name := by simp [pathP, h]
theorem pathP_2 {p : Pod} (h : cls p = 2) : pathP p = ⟨#[47, 109, 105, 100, 47]⟩ ++ p.name := by simp [pathP, h]
theorem pathP_3 {p : Pod} (h : cls p = 3) : pathP p = ⟨#[47]⟩ ++ p.name := by simp [pathP, h]
theorem below_drewN3 {B : Nat} {a w : World} (h : Below B a w) (n : Nat) : Below B a (w.drewN n) := ⟨h.os, h.tape, h.output, h.size, h.block⟩
section
attribute [local irreducible] bareK fullK RCont RSlice bare full cls nameMay sumF askedM askedB ownN hasK capF pathP
set_option maxRecDepth 100000 in
set_option maxHeartbeats 8000000 in
theorem caps_any (p : Pod) (hG : GoodP p) (cs : List Value) (B : Nat) (w : World) (hB : B ≤ w.heap.size) (hR : RPod w B cs p) :
    Calls Try.prog 43 #[.agg cs.toArray] w (RetCap p.conts w) := by
  obtain ⟨cv, rfl, hps, hpr, hC⟩ := hR
  obtain ⟨A, cap, e, hl, hcap, hA⟩ := RS.form (RS.of hC)
  obtain rfl : cv = _ := by simpa using e
  unfold maxLen at hcap hps
  have HC := Lib.hid hC
  have HA := Lib.hid hA
  have HG := Lib.hid hG.all
  have HSM := Lib.hid hG.sums
  have hl3 := hG.len
  clear hC hA e hG
  obtain ⟨pn, pr, conts⟩ := p
  dsimp only at *
  have hM0 := Lib.hid (show sumF Cont.capM conts 0 = 0 by unfold sumF; rfl)
  have hB0 := Lib.hid (show sumF Cont.capB conts 0 = 0 by unfold sumF; rfl)
  have hMy := Lib.hid (fun h => capF_yes (f := Cont.capM) (l := conts) h)
  have hMn := Lib.hid (fun h => capF_no (f := Cont.capM) (l := conts) h)
  have hBy := Lib.hid (fun h => capF_yes (f := Cont.capB) (l := conts) h)
  have hBn := Lib.hid (fun h => capF_no (f := Cont.capB) (l := conts) h)
  have k0 := ((Blk.new w 53 #[.string pn, .int .i64 pr, .slice A conts.length cap]).alloc (.cells #[.int .i64 0, .int .i64 0] 55)).alloc (.cells #[.int .i64 0, .int .i64 0] 55)
  have k1 := (Blk.new (w.alloc (.cells #[.string pn, .int .i64 pr, .slice A conts.length cap] 53)) 55 #[.int .i64 0, .int .i64 0]).alloc (.cells #[.int .i64 0, .int .i64 0] 55)
  have k2 := Blk.new ((w.alloc (.cells #[.string pn, .int .i64 pr, .slice A conts.length cap] 53)).alloc (.cells #[.int .i64 0, .int .i64 0] 55)) 55 #[.int .i64 0, .int .i64 0]
  simp only [World.size_alloc] at k1 k2
  have hbel : Below w.heap.size w (((w.alloc (.cells #[.string pn, .int .i64 pr, .slice A conts.length cap] 53)).alloc (.cells #[.int .i64 0, .int .i64 0] 55)).alloc (.cells #[.int .i64 0, .int .i64 0] 55)) := (((Below.refl _ _).alloc (Nat.le_refl _) _).alloc (by simp) _).alloc (by simp; omega) _
  go_enter Try.func43, Try.ntmps43
  go_upto_region 4 with fail
  generalize ((w.alloc (.cells #[.string pn, .int .i64 pr, .slice A conts.length cap] 53)).alloc (.cells #[.int .i64 0, .int .i64 0] 55)).alloc (.cells #[.int .i64 0, .int .i64 0] 55) = w1 at *
  go_loopw [4, 5, 11] (fun s a i wi => ∃ (k : Nat) (m1 b1 : Bool), i = .int .i64 k ∧ k ≤ conts.length ∧ s = .bool m1 ∧ a = .bool b1 ∧ Hid (hasK Cont.capM conts k = m1) ∧ Hid (hasK Cont.capB conts k = b1) ∧ Blk wi w.heap.size 53 #[.string pn, .int .i64 pr, .slice A conts.length cap] ∧ Blk wi (w.heap.size + 1) 55 #[.int .i64 0, .int .i64 0] ∧ Blk wi (w.heap.size + 1 + 1) 55 #[.int .i64 (sumF Cont.capM conts k), .int .i64 (sumF Cont.capB conts k)] ∧ Below w.heap.size w wi) (fun s a i _ => conts.length - (intOf i).toNat)
  case atStart => exact ⟨0, true, true, rfl, by omega, rfl, rfl, hasK_zero _ _, hasK_zero _ _, k0, k1, by rw [hM0.out, hB0.out]; exact k2, hbel⟩
  case round =>
    clear k0 k1 k2 hbel
    obtain ⟨k, m1, b1, rfl, hk, rfl, rfl, hm, hb, b0, b1', b2, hbel⟩ := hrel
    have z1 := b1'.lt
    have z2 := b2.lt
    obtain ⟨_, _, s1, s2⟩ := HSM.out k hk
    by_cases hlt : k < conts.length
    · obtain ⟨b, off, rfl, hbB⟩ := HA.out k hlt
      obtain ⟨A2, c2, hd1, hd2, hks, _, r0, r1, r2, r3, r4, r5⟩ := cont_in HC.out (hbel.mono hB) hlt
      have hsM := Lib.hid (sumF_succ Cont.capM conts k hlt)
      have hsB := Lib.hid (sumF_succ Cont.capB conts k hlt)
      have hhM := Lib.hid (hasK_succ Cont.capM conts k hlt)
      have hhB := Lib.hid (hasK_succ Cont.capB conts k hlt)
      obtain ⟨_, g1, g2, g3, g4⟩ := HG.out k hlt
      unfold maxLen at hks hd2
      generalize conts[k] = c at *
      obtain ⟨cn, aM, aB, cM, cB, dv⟩ := c
      dsimp only at *
      generalize sumF Cont.capM conts k = sM at *
      generalize sumF Cont.capB conts k = sB at *
      go_upto_region 6 with fail
      have hba : Below w.heap.size w (wr.alloc (.cells #[.string cn, .int .i64 aM, .int .i64 aB, .int .i64 cM, .int .i64 cB, .slice A2 dv.length c2] 58)) := hbel.alloc hbel.size _
      have b0a := b0.alloc (.cells #[.string cn, .int .i64 aM, .int .i64 aB, .int .i64 cM, .int .i64 cB, .slice A2 dv.length c2] 58)
      have b1a := b1'.alloc (.cells #[.string cn, .int .i64 aM, .int .i64 aB, .int .i64 cM, .int .i64 cB, .slice A2 dv.length c2] 58)
      have b2a := b2.alloc (.cells #[.string cn, .int .i64 aM, .int .i64 aB, .int .i64 cM, .int .i64 cB, .slice A2 dv.length c2] 58)
      have b9 := Blk.new wr 58 #[.string cn, .int .i64 aM, .int .i64 aB, .int .i64 cM, .int .i64 cB, .slice A2 dv.length c2]
      clear r0 r1 r2 r3 r4 r5 b0 b1' b2 hbel
      generalize wr.alloc (.cells #[.string cn, .int .i64 aM, .int .i64 aB, .int .i64 cM, .int .i64 cB, .slice A2 dv.length c2] 58) = wa at *
      generalize wr.heap.size = pk at *
      have hn2 : pk ≠ w.heap.size + 1 + 1 := by omega
      have e9 := b9.cells
      have z9 := b9.lt
      go_cut [4, 5] (fun s a wx => ∃ (m2 b2 : Bool), s = .bool m2 ∧ a = .bool b2 ∧ Hid (hasK Cont.capM conts (k + 1) = m2) ∧ Hid (hasK Cont.capB conts (k + 1) = b2) ∧ ∃ n, wx = wa.drewN n)
      case first =>
        rename_i J0 K0 hJ0 hK0
        have hm2 : ∃ m2, Hid (hasK Cont.capM conts (k + 1) = m2) ∧ ((m1 = false ∧ m2 = false) ∨ (m1 = true ∧ m2 = true ∧ 0 < cM) ∨ (m1 = true ∧ m2 = false ∧ cM ≤ 0)) := by
          refine ⟨_, (rfl : hasK Cont.capM conts (k + 1) = _), ?_⟩
          rw [hhM.out, hm.out]
          cases m1 <;> simp <;> omega
        have hb2 : ∃ b2, Hid (hasK Cont.capB conts (k + 1) = b2) ∧ ((b1 = false ∧ b2 = false) ∨ (b1 = true ∧ b2 = true ∧ 0 < cB) ∨ (b1 = true ∧ b2 = false ∧ cB ≤ 0)) := by
          refine ⟨_, (rfl : hasK Cont.capB conts (k + 1) = _), ?_⟩
          rw [hhB.out, hb.out]
          cases b1 <;> simp <;> omega
        obtain ⟨m2, HM2, hm3⟩ := hm2
        obtain ⟨b2, HB2, hb3⟩ := hb2
        clear hm hb hhM hhB
        rcases hm3 with ⟨rfl, rfl⟩ | ⟨rfl, rfl, hm3⟩ | ⟨rfl, rfl, hm3⟩
        all_goals
          rcases hb3 with ⟨rfl, rfl⟩ | ⟨rfl, rfl, hb3⟩ | ⟨rfl, rfl, hb3⟩
          all_goals
            go_quiet (fail)
            refine hK0 _ _ ?_
            go_meet
            refine ⟨_, _, ?_, ?_, HM2.out, HB2.out, nq, rfl⟩ <;> first | rfl | (congr 1; first | (rw [decide_eq_true_iff]; omega) | (rw [decide_eq_false_iff_not]; omega))
      case rest =>
        obtain ⟨m2, b2, rfl, rfl, hm2, hb2, nq, rfl⟩ := hcut
        have b0b := b0a.drewN nq
        have b1b := b1a.drewN nq
        have b2b := b2a.drewN nq
        have b9b := b9.drewN nq
        have hbb := below_drewN3 hba nq
        clear b0a b1a b2a b9 hba e9 z9 z1 z2
        generalize wa.drewN nq = wb at *
        have e9 := b9b.cells
        have z9 := b9b.lt
        have e2 := b2b.cells
        have z2 := b2b.lt
        have f2 := b2b.frozens
        go_wp2_with fail
        go_roundw
        case rel => exact ⟨k + 1, m2, b2, by go_num, by omega, rfl, rfl, hm2, hb2, (b0b.far (by simp; omega) _).far (by simp; omega) _, (b1b.far (by simp) _).far (by simp) _, by rw [hsM.out, hsB.out]; exact ((b2b.set_ 0 _).set_ 1 _).cast (by simp), (hbb.setCell (by simp; omega) _).setCell (by simp; omega) _⟩
        case measure => simp [intOf]; omega
    · obtain rfl : k = conts.length := by omega
      have e2 := b2.cells
      have f2 := b2.frozens
      have f1 := b1'.frozens
      have e1 := b1'.cells
      generalize hsM : sumF Cont.capM conts conts.length = sM at *
      generalize hsB : sumF Cont.capB conts conts.length = sB at *


      clear hsM hsB
      cases m1
      · have HM := Lib.hid (hMn.out hm.out)
        cases b1
        · have HB := Lib.hid (hBn.out hb.out)
          go_wp2_with fail
          have ez := ((((b1'.far (p := ⟨w.heap.size + 1 + 1, 0, none⟩) (by simp) (.int .i64 0)).far (p := ⟨w.heap.size + 1 + 1, 1, none⟩) (by simp) (.int .i64 0)).set_ 0 (.int .i64 0)).set_ 1 (.int .i64 0)).cells
          refine bodyPost_ret (v := .agg #[.int .i64 0, .int .i64 0]) (by simp [results, Try.results43, go_sem, ez]) rfl ⟨by rw [HM.out, HB.out], ?_⟩
          exact (((hbel.setCell (by simp; omega) _).setCell (by simp; omega) _).setCell (by simp) _).setCell (by simp) _
        · have HB := Lib.hid (hBy.out hb.out)
          go_wp2_with fail
          have ez := (((b1'.far (p := ⟨w.heap.size + 1 + 1, 0, none⟩) (by simp) (.int .i64 0)).set_ 0 (.int .i64 0)).set_ 1 (.int .i64 sB)).cells
          refine bodyPost_ret (v := .agg #[.int .i64 0, .int .i64 sB]) (by simp [results, Try.results43, go_sem, ez]) rfl ⟨by rw [HM.out, HB.out], ?_⟩
          exact ((hbel.setCell (by simp; omega) _).setCell (by simp) _).setCell (by simp) _
      · have HM := Lib.hid (hMy.out hm.out)
        cases b1
        · have HB := Lib.hid (hBn.out hb.out)
          go_wp2_with fail
          have ez := (((b1'.far (p := ⟨w.heap.size + 1 + 1, 1, none⟩) (by simp) (.int .i64 0)).set_ 0 (.int .i64 sM)).set_ 1 (.int .i64 0)).cells
          refine bodyPost_ret (v := .agg #[.int .i64 sM, .int .i64 0]) (by simp [results, Try.results43, go_sem, ez]) rfl ⟨by rw [HM.out, HB.out], ?_⟩
          exact ((hbel.setCell (by simp; omega) _).setCell (by simp) _).setCell (by simp) _
        · have HB := Lib.hid (hBy.out hb.out)
          go_wp2_with fail
          have ez := ((b1'.set_ 0 (.int .i64 sM)).set_ 1 (.int .i64 sB)).cells
          refine bodyPost_ret (v := .agg #[.int .i64 sM, .int .i64 sB]) (by simp [results, Try.results43, go_sem, ez]) rfl ⟨by rw [HM.out, HB.out], ?_⟩
          exact (hbel.setCell (by simp) _).setCell (by simp) _
set_option maxRecDepth 100000 in
set_option maxHeartbeats 2000000 in
theorem path_any (p : Pod) (hG : GoodP p) (cs : List Value) (B : Nat) (w : World) (hB : B ≤ w.heap.size) (hR : RPod w B cs p) :
    Calls Try.prog 44 #[.agg cs.toArray] w (RetS (pathP p) w) := by
  obtain ⟨A, cap, rfl, hl, hcap, hps⟩ := podR hR
  have hnm := hG.nm
  unfold maxLen at hcap hps
  have hbel : Below w.heap.size w (w.alloc (.cells #[.string p.name, .int .i64 p.prio, .slice A p.conts.length cap] 53)) := (Below.refl _ _).alloc (Nat.le_refl _) _
  have k0 := Blk.new w 53 #[.string p.name, .int .i64 p.prio, .slice A p.conts.length cap]
  have HCL := Lib.hid (Class_any p hG _ B _ (Nat.le_trans hB hbel.size) (hR.below (hbel.mono hB)))
  have hcl := cls_any p
  have HP1 := Lib.hid (fun h => pathP_1 (p := p) h)
  have HP2 := Lib.hid (fun h => pathP_2 (p := p) h)
  have HP3 := Lib.hid (fun h => pathP_3 (p := p) h)
  clear hR
  go_enter Try.func44, Try.ntmps44
  go_upto_region 1 with fail
  generalize w.alloc (.cells #[.string p.name, .int .i64 p.prio, .slice A p.conts.length cap] 53) = w1 at *
  have e0 := k0.cells
  have z0 := k0.lt
  go_wp2_with fail
  refine HCL.out.mono ?_
  rintro e w2 ⟨rfl, hb2⟩
  have e0' := (k0.below hb2 z0).cells
  have hbe := hbel.trans (hb2.mono hbel.size)
  clear e0 HCL
  rcases hcl with hq | hq | hq
  · have HF := Lib.hid (HP1.out hq)
    rw [hq]
    go_wp2_with fail
    go_ret
    exact RetS.of HF.out hbe
  · have HF := Lib.hid (HP2.out hq)
    rw [hq]
    go_wp2_with fail
    go_ret
    exact RetS.of HF.out hbe
  · have HF := Lib.hid (HP3.out hq)
    rw [hq]
    go_wp2_with fail
    go_ret
    exact RetS.of HF.out hbe
end
end Go.Proofs.Yticmfflnenoplab