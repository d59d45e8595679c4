/- ostleryref.Class, Own of both, qos.Sum, ostleryref.Asked: their walks. -/
import Derived.Test.YticmfflnenoplabQosG
namespace Go.Proofs.Yticmfflnenoplab
open Go.RowKit Qo Da
def RetAB (p : Pod) (w : World) (e : Ending) (w' : World) : Prop := e = .returned (.agg #[.int .i64 (askedM p), .int .i64 (askedB p)]) ∧ Below w.heap.size w w'
theorem podR {w : World} {B : Nat} {cs : List Value} {p : Pod} (h : RPod w B cs p) : ∃ A cap, cs = [.string p.name, .int .i64 p.prio, .slice A p.conts.length cap] ∧ p.conts.length ≤ cap ∧ cap ≤ maxLen ∧ p.name.size ≤ maxLen := by
  obtain ⟨cv, h1, h2, h3, h4⟩ := h
  obtain ⟨A, cap, e, e1, e2, _⟩ := RS.form (RS.of h4)
  obtain rfl : cv = _ := by simpa using e
  exact ⟨A, cap, h1, e1, e2, h2⟩
section
attribute [local irreducible] bareK fullK RCont RSlice bare full cls nameMay sumF askedM askedB ownN
set_option maxRecDepth 100000 in
set_option maxHeartbeats 2000000 in
theorem Own_any (p : Pod) (hG : GoodP p) (c : Cont) (hc : GoodC c) (cs cc : List Value) (B : Nat) (w : World) (hB : B ≤ w.heap.size) (hR : RPod w B cs p) (hC : RCont w B cc c) :
    Calls Try.prog 22 #[.agg cs.toArray, .agg cc.toArray] w (RetIB (ownN p c) w) := by
  obtain ⟨A, cap, rfl, hl, hcap, hps⟩ := podR hR
  obtain ⟨A2, c2, rfl, hks, hd1, hd2, _, _⟩ := cont_cells hC
  obtain ⟨_, g1, g2, g3, g4⟩ := hc
  unfold maxLen at hcap hps hks hd2
  have hbel : Below w.heap.size w ((w.alloc (.cells #[.string p.name, .int .i64 p.prio, .slice A p.conts.length cap] 53)).alloc (.cells #[.string c.name, .int .i64 c.askM, .int .i64 c.askB, .int .i64 c.capM, .int .i64 c.capB, .slice A2 c.devs.length c2] 58)) := ((Below.refl _ _).alloc (Nat.le_refl _) _).alloc (by simp) _
  have k0 := (Blk.new w 53 #[.string p.name, .int .i64 p.prio, .slice A p.conts.length cap]).alloc (.cells #[.string c.name, .int .i64 c.askM, .int .i64 c.askB, .int .i64 c.capM, .int .i64 c.capB, .slice A2 c.devs.length c2] 58)
  have k1 := Blk.new (w.alloc (.cells #[.string p.name, .int .i64 p.prio, .slice A p.conts.length cap] 53)) 58 #[.string c.name, .int .i64 c.askM, .int .i64 c.askB, .int .i64 c.capM, .int .i64 c.capB, .slice A2 c.devs.length c2]
  simp only [World.size_alloc] at k1
  have HCL := Lib.hid (Class_any p hG _ B _ (Nat.le_trans hB hbel.size) (hR.below (hbel.mono hB)))
  have HY := Lib.hid (fun h h' => ownN_yes (p := p) (c := c) h h')
  have HN := Lib.hid (fun h => ownN_no (p := p) (c := c) h)
  clear hR hC
  go_enter Try.func22, Try.ntmps22
  go_upto_region 1 with fail
  generalize (w.alloc (.cells #[.string p.name, .int .i64 p.prio, .slice A p.conts.length cap] 53)).alloc (.cells #[.string c.name, .int .i64 c.askM, .int .i64 c.askB, .int .i64 c.capM, .int .i64 c.capB, .slice A2 c.devs.length c2] 58) = w1 at *
  have e0 := k0.cells
  have z0 := k0.lt
  have e1 := k1.cells
  have z1 := k1.lt
  go_wp2_with fail
  refine HCL.out.mono ?_
  rintro e w2 ⟨rfl, hb2⟩
  have e1' := (k1.below hb2 z1).cells
  have hbe := hbel.trans (hb2.mono hbel.size)
  clear e0 e1 HCL
  by_cases hq : cls p = 3
  · by_cases hm : c.askM % 1000 = 0
    · have HF := Lib.hid (HY.out hq hm)
      rw [hq]
      go_wp2_with fail
      go_ret
      exact RetIB.of HF.out hbe
    · have HF := Lib.hid (HN.out (.inr hm))
      have hm' := beq_eq_false_iff_ne.2 hm
      rw [hq]
      clear hm
      go_wp2_with fail
      go_ret
      exact RetIB.of HF.out hbe
  · have HF := Lib.hid (HN.out (.inl hq))
    generalize cls p = q at *
    have hq' := beq_eq_false_iff_ne.2 hq
    clear hq
    go_wp2_with fail
    go_ret
    exact RetIB.of HF.out hbe
set_option maxRecDepth 100000 in
set_option maxHeartbeats 4000000 in
theorem Sum_any (p : Pod) (hG : GoodP p) (cs : List Value) (B : Nat) (w : World) (hB : B ≤ w.heap.size) (hR : RPod w B cs p) :
    Calls Try.prog 21 #[.agg cs.toArray] w (RetAB p w) := by
  obtain ⟨cv, rfl, hps, hpr, hC⟩ := hR
  obtain ⟨A, cap, e, hl, hcap, hA⟩ := RS.form (RS.of hC)
  obtain rfl : cv = _ := by simpa using e
  unfold maxLen at hcap hps
  have HC := Lib.hid hC
  have HA := Lib.hid hA
  have HG := Lib.hid hG.all
  have HSM := Lib.hid hG.sums
  have hl3 := hG.len
  clear hC hA e hG
  obtain ⟨pn, pr, conts⟩ := p
  dsimp only at *
  have hM0 := Lib.hid (show sumF Cont.askM conts 0 = 0 by unfold sumF; rfl)
  have hB0 := Lib.hid (show sumF Cont.askB conts 0 = 0 by unfold sumF; rfl)
  have hMe := Lib.hid (show askedM ⟨pn, pr, conts⟩ = sumF Cont.askM conts conts.length by unfold askedM; rfl)
  have hBe := Lib.hid (show askedB ⟨pn, pr, conts⟩ = sumF Cont.askB conts conts.length by unfold askedB; rfl)
  have k0 := ((Blk.new w 53 #[.string pn, .int .i64 pr, .slice A conts.length cap]).alloc (.cells #[.int .i64 0, .int .i64 0] 55)).alloc (.cells #[.int .i64 0, .int .i64 0] 55)
  have k1 := (Blk.new (w.alloc (.cells #[.string pn, .int .i64 pr, .slice A conts.length cap] 53)) 55 #[.int .i64 0, .int .i64 0]).alloc (.cells #[.int .i64 0, .int .i64 0] 55)
  have k2 := Blk.new ((w.alloc (.cells #[.string pn, .int .i64 pr, .slice A conts.length cap] 53)).alloc (.cells #[.int .i64 0, .int .i64 0] 55)) 55 #[.int .i64 0, .int .i64 0]
  simp only [World.size_alloc] at k1 k2
  have hbel : Below w.heap.size w (((w.alloc (.cells #[.string pn, .int .i64 pr, .slice A conts.length cap] 53)).alloc (.cells #[.int .i64 0, .int .i64 0] 55)).alloc (.cells #[.int .i64 0, .int .i64 0] 55)) := (((Below.refl _ _).alloc (Nat.le_refl _) _).alloc (by simp) _).alloc (by simp; omega) _
  go_enter Try.func21, Try.ntmps21
  go_upto_region 3 with fail
  generalize ((w.alloc (.cells #[.string pn, .int .i64 pr, .slice A conts.length cap] 53)).alloc (.cells #[.int .i64 0, .int .i64 0] 55)).alloc (.cells #[.int .i64 0, .int .i64 0] 55) = w1 at *
  go_loopw [9] (fun i wi => ∃ k : Nat, i = .int .i64 k ∧ k ≤ conts.length ∧ Blk wi w.heap.size 53 #[.string pn, .int .i64 pr, .slice A conts.length cap] ∧ Blk wi (w.heap.size + 1) 55 #[.int .i64 0, .int .i64 0] ∧ Blk wi (w.heap.size + 1 + 1) 55 #[.int .i64 (sumF Cont.askM conts k), .int .i64 (sumF Cont.askB conts k)] ∧ Below w.heap.size w wi) (fun i _ => conts.length - (intOf i).toNat)
  case atStart => exact ⟨0, rfl, by omega, k0, k1, by rw [hM0.out, hB0.out]; exact k2, hbel⟩
  case round =>
    clear k0 k1 k2 hbel
    obtain ⟨k, rfl, hk, b0, b1, b2, hbel⟩ := hrel
    have e0 := b0.cells
    have z0 := b0.lt
    have e1 := b1.cells
    have z1 := b1.lt
    have e2 := b2.cells
    have z2 := b2.lt
    obtain ⟨s1, s2, _, _⟩ := HSM.out k hk
    by_cases hlt : k < conts.length
    · obtain ⟨b, off, rfl, hb⟩ := HA.out k hlt
      obtain ⟨A2, c2, hd1, hd2, hks, _, r0, r1, r2, r3, r4, r5⟩ := cont_in HC.out (hbel.mono hB) hlt
      have hsM := Lib.hid (sumF_succ Cont.askM conts k hlt)
      have hsB := Lib.hid (sumF_succ Cont.askB conts k hlt)
      obtain ⟨_, g1, g2, g3, g4⟩ := HG.out k hlt
      unfold maxLen at hks hd2
      generalize conts[k] = c at *
      obtain ⟨cn, aM, aB, cM, cB, dv⟩ := c
      dsimp only at *
      generalize sumF Cont.askM conts k = sM at *
      generalize sumF Cont.askB conts k = sB at *
      go_upto_region 5 with fail
      have hba : Below w.heap.size w (wr.alloc (.cells #[.string cn, .int .i64 aM, .int .i64 aB, .int .i64 cM, .int .i64 cB, .slice A2 dv.length c2] 58)) := hbel.alloc hbel.size _
      have b0a := b0.alloc (.cells #[.string cn, .int .i64 aM, .int .i64 aB, .int .i64 cM, .int .i64 cB, .slice A2 dv.length c2] 58)
      have b1a := b1.alloc (.cells #[.string cn, .int .i64 aM, .int .i64 aB, .int .i64 cM, .int .i64 cB, .slice A2 dv.length c2] 58)
      have b2a := b2.alloc (.cells #[.string cn, .int .i64 aM, .int .i64 aB, .int .i64 cM, .int .i64 cB, .slice A2 dv.length c2] 58)
      have b9 := Blk.new wr 58 #[.string cn, .int .i64 aM, .int .i64 aB, .int .i64 cM, .int .i64 cB, .slice A2 dv.length c2]
      clear r0 r1 r2 r3 r4 r5 b0 b1 b2 hbel e0 e1 e2
      generalize wr.alloc (.cells #[.string cn, .int .i64 aM, .int .i64 aB, .int .i64 cM, .int .i64 cB, .slice A2 dv.length c2] 58) = wa at *
      generalize wr.heap.size = pk at *
      have hn2 : pk ≠ w.heap.size + 1 + 1 := by omega
      have e9 := b9.cells
      have z9 := b9.lt
      have e2 := b2a.cells
      have f2 := b2a.frozens
      go_wp2_with fail
      go_roundw
      case rel => exact ⟨k + 1, by go_num, by omega, (b0a.far (by simp; omega) _).far (by simp; omega) _, (b1a.far (by simp) _).far (by simp) _, by rw [hsM.out, hsB.out]; exact ((b2a.set_ 0 _).set_ 1 _).cast (by simp), (hba.setCell (by simp; omega) _).setCell (by simp; omega) _⟩
      case measure => simp [intOf]; omega
    · obtain rfl : k = conts.length := by omega
      have f1 := b1.frozens
      go_wp2_with fail
      have ez := ((b1.set_ 0 (.int .i64 (sumF Cont.askM conts conts.length))).set_ 1 (.int .i64 (sumF Cont.askB conts conts.length))).cells
      refine bodyPost_ret (v := .agg #[.int .i64 (sumF Cont.askM conts conts.length), .int .i64 (sumF Cont.askB conts conts.length)]) (by simp [results, Try.results21, go_sem, ez]) rfl ⟨by rw [hMe.out, hBe.out], ?_⟩
      exact (hbel.setCell (by simp) _).setCell (by simp) _
end
end Go.Proofs.Yticmfflnenoplab