/- ostleryref.Class, Own of both, qos.Sum, ostleryref.Asked: their walks. -/
import Derived.Test.YticmfflnenoplacQosG
namespace Go.Proofs.Yticmfflnenoplac
open Go.RowKit Qo Da
def RetAB (p : Pod) (w : World) (e : Ending) (w' : World) : Prop := e = .returned (.agg #[.int .i64 (askedM p), .int .i64 (askedB p)]) ∧ Below w.heap.size w w'
theorem podR {w : World} {B : Nat} {cs : List Value} {p : Pod} (h : RPod w B cs p) : ∃ A cap, cs = [.string p.name, .int .i64 p.prio, .slice A p.conts.length cap] ∧ p.conts.length ≤ cap ∧ cap ≤ maxLen ∧ p.name.size ≤ maxLen := by
  obtain ⟨cv, h1, h2, h3, h4⟩ := h
  obtain ⟨A, cap, e, e1, e2, _⟩ := RS.form (RS.of h4)
  obtain rfl : cv = _ := by simpa using e
  exact ⟨A, cap, h1, e1, e2, h2⟩
section
attribute [local irreducible] bareK fullK RCont RSlice bare full cls nameMay sumF askedM askedB ownN
set_option maxRecDepth 100000 in
set_option maxHeartbeats 4000000 in
theorem Sum_any (p : Pod) (hG : GoodP p) (cs : List Value) (B : Nat) (w : World) (hB : B ≤ w.heap.size) (hR : RPod w B cs p) :
    Calls Try.prog 13 #[.agg cs.toArray] w (RetAB p w) := by
  obtain ⟨cv, rfl, hps, hpr, hC⟩ := hR
  obtain ⟨A, cap, e, hl, hcap, hA⟩ := RS.form (RS.of hC)
  obtain rfl : cv = _ := by simpa using e
  unfold maxLen at hcap hps
  have HC := Lib.hid hC
  have HA := Lib.hid hA
  have HG := Lib.hid hG.all
  have HSM := Lib.hid hG.sums
  have hl3 := hG.len
  clear hC hA e hG
  obtain ⟨pn, pr, conts⟩ := p
  dsimp only at *
  have hM0 := Lib.hid (show sumF Cont.askM conts 0 = 0 by unfold sumF; rfl)
  have hB0 := Lib.hid (show sumF Cont.askB conts 0 = 0 by unfold sumF; rfl)
  have hMe := Lib.hid (show askedM ⟨pn, pr, conts⟩ = sumF Cont.askM conts conts.length by unfold askedM; rfl)
  have hBe := Lib.hid (show askedB ⟨pn, pr, conts⟩ = sumF Cont.askB conts conts.length by unfold askedB; rfl)
  have k0 := ((Blk.new w 28 #[.string pn, .int .i64 pr, .slice A conts.length cap]).alloc (.cells #[.int .i64 0, .int .i64 0] 42)).alloc (.cells #[.int .i64 0, .int .i64 0] 42)
  have k1 := (Blk.new (w.alloc (.cells #[.string pn, .int .i64 pr, .slice A conts.length cap] 28)) 42 #[.int .i64 0, .int .i64 0]).alloc (.cells #[.int .i64 0, .int .i64 0] 42)
  have k2 := Blk.new ((w.alloc (.cells #[.string pn, .int .i64 pr, .slice A conts.length cap] 28)).alloc (.cells #[.int .i64 0, .int .i64 0] 42)) 42 #[.int .i64 0, .int .i64 0]
  simp only [World.size_alloc] at k1 k2
  have hbel : Below w.heap.size w (((w.alloc (.cells #[.string pn, .int .i64 pr, .slice A conts.length cap] 28)).alloc (.cells #[.int .i64 0, .int .i64 0] 42)).alloc (.cells #[.int .i64 0, .int .i64 0] 42)) := (((Below.refl _ _).alloc (Nat.le_refl _) _).alloc (by simp) _).alloc (by simp; omega) _
  go_enter Try.func13, Try.ntmps13
  go_upto_region 3 with fail
  generalize ((w.alloc (.cells #[.string pn, .int .i64 pr, .slice A conts.length cap] 28)).alloc (.cells #[.int .i64 0, .int .i64 0] 42)).alloc (.cells #[.int .i64 0, .int .i64 0] 42) = w1 at *
  go_loopw [9] (fun i wi => ∃ k : Nat, i = .int .i64 k ∧ k ≤ conts.length ∧ Blk wi w.heap.size 28 #[.string pn, .int .i64 pr, .slice A conts.length cap] ∧ Blk wi (w.heap.size + 1) 42 #[.int .i64 0, .int .i64 0] ∧ Blk wi (w.heap.size + 1 + 1) 42 #[.int .i64 (sumF Cont.askM conts k), .int .i64 (sumF Cont.askB conts k)] ∧ Below w.heap.size w wi) (fun i _ => conts.length - (intOf i).toNat)
  case atStart => exact ⟨0, rfl, by omega, k0, k1, by rw [hM0.out, hB0.out]; exact k2, hbel⟩
  case round =>
    clear k0 k1 k2 hbel
    obtain ⟨k, rfl, hk, b0, b1, b2, hbel⟩ := hrel
    have e0 := b0.cells
    have z0 := b0.lt
    have e1 := b1.cells
    have z1 := b1.lt
    have e2 := b2.cells
    have z2 := b2.lt
    obtain ⟨s1, s2, _, _⟩ := HSM.out k hk
    by_cases hlt : k < conts.length
    · obtain ⟨b, off, rfl, hb⟩ := HA.out k hlt
      obtain ⟨A2, c2, hd1, hd2, hks, _, r0, r1, r2, r3, r4, r5⟩ := cont_in HC.out (hbel.mono hB) hlt
      have hsM := Lib.hid (sumF_succ Cont.askM conts k hlt)
      have hsB := Lib.hid (sumF_succ Cont.askB conts k hlt)
      obtain ⟨_, g1, g2, g3, g4⟩ := HG.out k hlt
      unfold maxLen at hks hd2
      generalize conts[k] = c at *
      obtain ⟨cn, aM, aB, cM, cB, dv⟩ := c
      dsimp only at *
      generalize sumF Cont.askM conts k = sM at *
      generalize sumF Cont.askB conts k = sB at *
      go_upto_region 5 with fail
      have hba : Below w.heap.size w (wr.alloc (.cells #[.string cn, .int .i64 aM, .int .i64 aB, .int .i64 cM, .int .i64 cB, .slice A2 dv.length c2] 56)) := hbel.alloc hbel.size _
      have b0a := b0.alloc (.cells #[.string cn, .int .i64 aM, .int .i64 aB, .int .i64 cM, .int .i64 cB, .slice A2 dv.length c2] 56)
      have b1a := b1.alloc (.cells #[.string cn, .int .i64 aM, .int .i64 aB, .int .i64 cM, .int .i64 cB, .slice A2 dv.length c2] 56)
      have b2a := b2.alloc (.cells #[.string cn, .int .i64 aM, .int .i64 aB, .int .i64 cM, .int .i64 cB, .slice A2 dv.length c2] 56)
      have b9 := Blk.new wr 56 #[.string cn, .int .i64 aM, .int .i64 aB, .int .i64 cM, .int .i64 cB, .slice A2 dv.length c2]
      clear r0 r1 r2 r3 r4 r5 b0 b1 b2 hbel e0 e1 e2
      generalize wr.alloc (.cells #[.string cn, .int .i64 aM, .int .i64 aB, .int .i64 cM, .int .i64 cB, .slice A2 dv.length c2] 56) = wa at *
      generalize wr.heap.size = pk at *
      have hn2 : pk ≠ w.heap.size + 1 + 1 := by omega
      have e9 := b9.cells
      have z9 := b9.lt
      have e2 := b2a.cells
      have f2 := b2a.frozens
      go_wp2_with fail
      go_roundw
      case rel => exact ⟨k + 1, by go_num, by omega, (b0a.far (by simp; omega) _).far (by simp; omega) _, (b1a.far (by simp) _).far (by simp) _, by rw [hsM.out, hsB.out]; exact ((b2a.set_ 0 _).set_ 1 _).cast (by simp), (hba.setCell (by simp; omega) _).setCell (by simp; omega) _⟩
      case measure => simp [intOf]; omega
    · obtain rfl : k = conts.length := by omega
      have f1 := b1.frozens
      go_wp2_with fail
      have ez := ((b1.set_ 0 (.int .i64 (sumF Cont.askM conts conts.length))).set_ 1 (.int .i64 (sumF Cont.askB conts conts.length))).cells
      refine bodyPost_ret (v := .agg #[.int .i64 (sumF Cont.askM conts conts.length), .int .i64 (sumF Cont.askB conts conts.length)]) (by simp [results, Try.results13, go_sem, ez]) rfl ⟨by rw [hMe.out, hBe.out], ?_⟩
      exact (hbel.setCell (by simp) _).setCell (by simp) _
end
end Go.Proofs.Yticmfflnenoplac