/- TopClass: plain facts, its walk. -/
import Derived.Test.YticmfflnenoplabQosM
import Derived.Test.YticmfflnenoplabQosN
namespace Go.Proofs.Yticmfflnenoplab
open Go.RowKit Qo Da
def c1 : Cont := ⟨⟨#[120]⟩, 0, 0, 0, 0, []⟩
def p1 : Pod := ⟨⟨#[97]⟩, 0, [c1]⟩
theorem pf1 : podFault p1 = 0 := by decide +kernel
theorem cls1 : cls p1 = 1 := by decide +kernel
def C1 : Array Value := #[.string ⟨#[120]⟩, .int .i64 0, .int .i64 0, .int .i64 0, .int .i64 0, .slice none 0 0]
theorem rc1 (W : World) (B : Nat) : RCont W B C1.toList c1 :=
  ⟨_, rfl, by decide, by decide, by decide, by decide, by decide, none, 0, rfl, by simp [c1], by simp [maxLen], .inl rfl⟩
theorem rp1 (w : World) : RPod ((w.alloc (.cells C1 58)).alloc (.cells #[.string ⟨#[97]⟩, .int .i64 0, .slice (some ⟨w.heap.size, 0, none⟩) 1 1] 53)) (w.heap.size + 1) [.string ⟨#[97]⟩, .int .i64 0, .slice (some ⟨w.heap.size, 0, none⟩) 1 1] p1 := by
  have b := (Blk.new w 58 C1).alloc (.cells #[.string ⟨#[97]⟩, .int .i64 0, .slice (some ⟨w.heap.size, 0, none⟩) 1 1] 53)
  refine ⟨_, rfl, by decide, by decide, ?_⟩
  exact RS.blk (l := [c1]) (f := fun _ => C1.toList) (S := (· < w.heap.size + 1)) b (by simp) (by simp [maxLen]) (fun x _ => rfl) (fun x hx => by
    obtain rfl : x = c1 := by simpa using hx
    exact rc1 _ _) (by show w.heap.size < w.heap.size + 1; omega)
theorem class1 (cs : List Value) (w : World) (B : Nat) (hB : B ≤ w.heap.size) (hR : RPod w B cs p1) : Calls Try.prog 18 #[.agg cs.toArray] w (RetIB 1 w) := by
  have h := Class_any p1 (good_of pf1) cs B w hB hR
  rw [cls1] at h
  exact h
theorem check1 (cs : List Value) (w : World) (B : Nat) (hB : B ≤ w.heap.size) (hR : RPod w B cs p1) : Calls Try.prog 19 #[.agg cs.toArray] w (RetEB 0 w) := by
  have h := Check_any p1 cs B w hB hR
  rw [pf1] at h
  exact h
theorem podForm {w : World} {B : Nat} {cs : List Value} {p : Pod} (h : RPod w B cs p) : ∃ A cap, cs = [.string p.name, .int .i64 p.prio, .slice A p.conts.length cap] ∧ p.conts.length ≤ cap ∧ cap ≤ maxLen ∧ p.name.size ≤ maxLen ∧ RSlice w B 6 (RCont w B) [.slice A p.conts.length cap] p.conts ∧ (∀ k, k < p.conts.length → ∃ b off, A = some ⟨b, off, none⟩ ∧ b < B) := by
  obtain ⟨cv, h1, h2, h3, h4⟩ := h
  obtain ⟨A, cap, e, e1, e2, e3⟩ := RS.form (RS.of h4)
  obtain rfl : cv = _ := by simpa using e
  exact ⟨A, cap, h1, e1, e2, h2, h4, e3⟩
theorem full_at {p : Pod} (h : cls p = 3) (k : Nat) (hk : k < p.conts.length) : full p.conts[k] = true := by
  unfold cls at h
  split at h
  · omega
  · split at h
    · rename_i hf
      unfold fullK at hf
      rw [List.take_length, List.all_eq_true] at hf
      exact hf _ (List.getElem_mem hk)
    · omega
theorem own_facts {p : Pod} (hG : GoodP p) (k : Nat) (hk : k < p.conts.length) : ownN p p.conts[k] = 0 ∨ (0 < ownN p p.conts[k] ∧ ownN p p.conts[k] ≤ 1000 ∧ cls p = 3 ∧ p.conts[k].capM = 1000 * ownN p p.conts[k] ∧ p.conts[k].askB = p.conts[k].capB ∧ p.conts[k].askM = 1000 * ownN p p.conts[k]) := by
  have hg := (hG.all k hk).aM
  by_cases h : cls p = 3 ∧ p.conts[k].askM % 1000 = 0
  · have hf := full_at h.1 k hk
    rw [ownN_yes h.1 h.2]
    simp only [full, Bool.and_eq_true, decide_eq_true_eq] at hf
    obtain ⟨h1, h2⟩ := h
    right
    refine ⟨by omega, by omega, h1, by omega, hf.1.1.2, by omega⟩
  · left
    unfold ownN
    rw [if_neg h]
def ownK (p : Pod) : Nat → Int
  | 0 => 0
  | k + 1 => ownK p k + (match p.conts[k]? with | some c => ownN p c | none => 0)
theorem ownK_next (p : Pod) (k : Nat) (h : k < p.conts.length) : ownK p (k + 1) = ownK p k + ownN p p.conts[k] := by
  simp [ownK, List.getElem?_eq_getElem h]
theorem ownK_le {p : Pod} (hG : GoodP p) (k : Nat) (hk : k ≤ p.conts.length) : 0 ≤ ownK p k ∧ ownK p k ≤ 1000 * k ∧ 1000 * ownK p k ≤ sumF Cont.askM p.conts k := by
  induction k with
  | zero => simp [ownK, sumF]
  | succ k ih =>
    have h1 := ih (by omega)
    have h2 := own_facts hG k (by omega)
    have h3 := (hG.all k (by omega)).aM
    rw [ownK_next p k (by omega), sumF_succ _ _ _ (by omega)]
    omega
theorem sum_zero (f : Cont → Int) (l : List Cont) (h : ∀ k (hk : k < l.length), f l[k] = 0) (k : Nat) (hk : k ≤ l.length) : sumF f l k = 0 := by
  induction k with
  | zero => rfl
  | succ k ih => rw [sumF_succ f l k (by omega), ih (by omega), h k (by omega)]; rfl
theorem bare_sums {p : Pod} (h : cls p = 1) : askedM p = 0 ∧ askedB p = 0 := by
  have hb : bareK p.conts p.conts.length = true := by
    unfold cls at h
    split at h
    · assumption
    · split at h <;> omega
  unfold bareK at hb
  rw [List.take_length, List.all_eq_true] at hb
  have key : ∀ k (hk : k < p.conts.length), p.conts[k].askM = 0 ∧ p.conts[k].askB = 0 := by
    intro k hk
    have := hb _ (List.getElem_mem hk)
    simp only [bare, Bool.and_eq_true, decide_eq_true_eq] at this
    exact ⟨this.1.1.1, this.1.1.2⟩
  exact ⟨sum_zero _ _ (fun k hk => (key k hk).1) _ (Nat.le_refl _), sum_zero _ _ (fun k hk => (key k hk).2) _ (Nat.le_refl _)⟩
theorem asked_eq (p : Pod) : askedM p = sumF Cont.askM p.conts p.conts.length := rfl
section
attribute [local irreducible] podFault cls ownN RPod RCont RSlice askedM askedB sumF ownK lightPod
set_option maxRecDepth 100000 in
set_option maxHeartbeats 3000000 in
theorem topClass_any (p : Pod) (cs : List Value) (w : World) (hR : RPod w w.heap.size cs p) :
    Calls Try.prog 5 #[.agg cs.toArray] w (RetBB true w) := by
  have HR0 := Lib.hid hR
  obtain ⟨A, cap, rfl, hl, hcap, hps, hC, hA⟩ := podForm hR
  unfold maxLen at hcap hps
  have HC := Lib.hid hC
  have HA := Lib.hid hA
  clear hC hA hR
  have hbw := Blk.new w 53 #[.string p.name, .int .i64 p.prio, .slice A p.conts.length cap]
  have hb1 : Below w.heap.size w (w.alloc (.cells #[.string p.name, .int .i64 p.prio, .slice A p.conts.length cap] 53)) := (Below.refl _ _).alloc (Nat.le_refl _) _
  go_enter Try.func5, Try.ntmps5
  go_upto_region 1 with fail
  generalize w.alloc (.cells #[.string p.name, .int .i64 p.prio, .slice A p.conts.length cap] 53) = w1 at *
  have HP1 := rp1 w1
  have hb2 : Below w1.heap.size w1 ((w1.alloc (.cells C1 58)).alloc (.cells #[.string ⟨#[97]⟩, .int .i64 0, .slice (some ⟨w1.heap.size, 0, none⟩) 1 1] 53)) := ((Below.refl _ _).alloc (Nat.le_refl _) _).alloc (by simp) _
  have b1 := Blk.new (w1.alloc (.cells C1 58)) 53 #[.string ⟨#[97]⟩, .int .i64 0, .slice (some ⟨w1.heap.size, 0, none⟩) 1 1]
  simp only [World.size_alloc] at b1
  unfold C1 at HP1 hb2 b1
  go_upto_region 2 with fail
  generalize (w1.alloc (.cells #[.string ⟨#[120]⟩, .int .i64 0, .int .i64 0, .int .i64 0, .int .i64 0, .slice none 0 0] 58)).alloc (.cells #[.string ⟨#[97]⟩, .int .i64 0, .slice (some ⟨w1.heap.size, 0, none⟩) 1 1] 53) = w2 at *
  have b0 := hbw.below hb2 hbw.lt
  have hbel := hb1.trans (hb2.mono hb1.size)
  have zz : w1.heap.size + 1 < w2.heap.size := b1.lt
  have hC1 := Lib.hid (class1 _ w2 _ (Nat.le_of_lt zz) HP1)
  have hK1 := Lib.hid (fun W (hb : Below w2.heap.size w2 W) => check1 _ W _ (Nat.le_trans (Nat.le_of_lt zz) hb.size) (HP1.below (hb.mono (Nat.le_of_lt zz))))
  clear HP1 hbw hb1 hb2
  have e1 := b1.cells
  have z1 := b1.lt
  go_wp2_with fail
  refine hC1.out.mono ?_
  rintro e w3 ⟨rfl, hb3⟩
  have b0a := b0.below hb3 b0.lt
  have e1a := (b1.below hb3 z1).cells
  have hbel3 := hbel.trans (hb3.mono hbel.size)
  clear e1
  go_wp2_with fail
  refine (hK1.out _ hb3).mono ?_
  rintro e w4 ⟨rfl, hb4⟩
  rw [errV_0]
  have b0b := b0a.below hb4 b0a.lt
  have hbel4 := hbel3.trans (hb4.mono hbel3.size)
  clear e1a hb3 hb4 b0 b0a hbel hbel3 b1 z1 zz hC1 hK1
  go_upto_region 4 with fail
  have e0 := b0b.cells
  have z0 := b0b.lt
  have HP := Lib.hid (fun W (hb : Below w.heap.size w W) => HR0.out.below hb)
  have hLP := Lib.hid (lightPod_any _ p w4 w.heap.size hbel4.size (HP.out _ hbel4))
  cases hlp : lightPod p
  · rw [hlp] at hLP
    clear hlp
    go_wp2_with fail
    refine hLP.out.mono ?_
    rintro e w5 ⟨rfl, hb5⟩
    go_wp2_with fail
    go_ret
    exact ⟨rfl, hbel4.trans (hb5.mono hbel4.size)⟩
  rw [hlp] at hLP
  clear hlp
  have hnn := podFault_nn p
  go_wp2_with fail
  refine hLP.out.mono ?_
  rintro e w5 ⟨rfl, hb5⟩
  have b0c := b0b.below hb5 z0
  have hbel5 := hbel4.trans (hb5.mono hbel4.size)
  clear e0 z0 hb5 hbel4 b0b hLP
  have e0 := b0c.cells
  have z0 := b0c.lt
  have hCK := Lib.hid (Check_any p _ w.heap.size w5 hbel5.size (HP.out _ hbel5))
  by_cases hf : podFault p = 0
  · have hG := good_of hf
    have HG := Lib.hid hG
    rw [hf] at hCK
    clear hf hnn hG
    go_wp2_with fail
    refine hCK.out.mono ?_
    rintro e w6 ⟨rfl, hb6⟩
    rw [errV_0]
    have b0d := b0c.below hb6 z0
    have hbel6 := hbel5.trans (hb6.mono hbel5.size)
    clear e0 z0 hb6 hbel5 b0c hCK
    have e0 := b0d.cells
    have z0 := b0d.lt
    have hcl := cls_any p
    have hsums := HG.out.sums p.conts.length (Nat.le_refl _)
    rw [← asked_eq] at hsums
    obtain ⟨hs1, hs2, _, _⟩ := hsums
    rw [show sumF Cont.askB p.conts p.conts.length = askedB p from by unfold askedB; rfl] at hs2
    go_wp2_with fail
    refine (Class_any p HG.out _ w.heap.size w6 hbel6.size (HP.out _ hbel6)).mono ?_
    rintro e w7 ⟨rfl, hb7⟩
    have b0e := b0d.below hb7 z0
    have hbel7 := hbel6.trans (hb7.mono hbel6.size)
    clear e0 z0 hb7 hbel6 b0d
    have e0 := b0e.cells
    have z0 := b0e.lt
    go_wp2_with fail
    refine (Sum_any p HG.out _ w.heap.size w7 hbel7.size (HP.out _ hbel7)).mono ?_
    rintro e w8 ⟨rfl, hb8⟩
    have b0f := b0e.below hb8 z0
    have hbel8 := hbel7.trans (hb8.mono hbel7.size)
    clear e0 z0 hb8 hbel7 b0e
    have e0 := b0f.cells
    have z0 := b0f.lt
    have HOF := Lib.hid (fun k hk => own_facts HG.out k hk)
    have HOK := Lib.hid (fun k hk => ownK_le HG.out k hk)
    have HON := Lib.hid (ownK_next p)
    have HBS := Lib.hid (fun h => bare_sums (p := p) h)
    have HAE := Lib.hid (asked_eq p)
    have hO0 := Lib.hid (show ownK p 0 = 0 by unfold ownK; rfl)
    have hc3 := HG.out.len
    generalize cls p = q at *
    go_upto_region 11 with fail
    have hbel9 := hbel8.alloc hbel8.size (.cells #[.int .i64 (askedM p), .int .i64 (askedB p)] 55)
    have b0g := b0f.alloc (.cells #[.int .i64 (askedM p), .int .i64 (askedB p)] 55)
    have b6 := Blk.new w8 55 #[.int .i64 (askedM p), .int .i64 (askedB p)]
    clear e0 z0 hbel8 b0f
    generalize w8.alloc (.cells #[.int .i64 (askedM p), .int .i64 (askedB p)] 55) = w9 at *
    generalize w8.heap.size = p6 at *
    go_loopw [7, 8] (fun s i wi => ∃ k : Nat, i = .int .i64 k ∧ k ≤ p.conts.length ∧ s = .int .i64 (ownK p k) ∧ Blk wi w.heap.size 53 #[.string p.name, .int .i64 p.prio, .slice A p.conts.length cap] ∧ Blk wi p6 55 #[.int .i64 (askedM p), .int .i64 (askedB p)] ∧ Below w.heap.size w wi) (fun s i _ => p.conts.length - (intOf i).toNat)
    case atStart => exact ⟨0, rfl, by omega, by rw [hO0.out], b0g, b6, hbel9⟩
    case round =>
      clear b0g b6 hbel9
      obtain ⟨k, rfl, hk, rfl, b0, b6, hbel⟩ := hrel
      have e0 := b0.cells
      have z0 := b0.lt
      have e6 := b6.cells
      have z6 := b6.lt
      obtain ⟨ho1, ho2, ho3⟩ := HOK.out k hk
      by_cases hlt : k < p.conts.length
      · obtain ⟨b, off, rfl, hb⟩ := HA.out k hlt
        obtain ⟨A3, c3, hd1, hd2, hks, hRC, r0, r1, r2, r3, r4, r5⟩ := cont_in HC.out hbel hlt
        have hgc := HG.out.all k hlt
        obtain ⟨_, g1, g2, g3, g4⟩ := hgc
        have hof := HOF.out k hlt
        have hon := Lib.hid (HON.out k hlt)
        have HOW := Lib.hid (fun W (hb : Below wr.heap.size wr W) => Own_any p HG.out p.conts[k] (HG.out.all k hlt) _ _ w.heap.size W (Nat.le_trans hbel.size hb.size) (HP.out _ (hbel.trans (hb.mono hbel.size))) (hRC.below (hb.mono hbel.size)))
        unfold maxLen at hks hd2
        clear hRC
        generalize p.conts[k] = c at *
        go_upto_region 14 with fail
        have hba : Below w.heap.size w (wr.alloc (.cells #[.string c.name, .int .i64 c.askM, .int .i64 c.askB, .int .i64 c.capM, .int .i64 c.capB, .slice A3 c.devs.length c3] 58)) := hbel.alloc hbel.size _
        have hbr : Below wr.heap.size wr (wr.alloc (.cells #[.string c.name, .int .i64 c.askM, .int .i64 c.askB, .int .i64 c.capM, .int .i64 c.capB, .slice A3 c.devs.length c3] 58)) := (Below.refl _ _).alloc (Nat.le_refl _) _
        have b0a := b0.alloc (.cells #[.string c.name, .int .i64 c.askM, .int .i64 c.askB, .int .i64 c.capM, .int .i64 c.capB, .slice A3 c.devs.length c3] 58)
        have b6a := b6.alloc (.cells #[.string c.name, .int .i64 c.askM, .int .i64 c.askB, .int .i64 c.capM, .int .i64 c.capB, .slice A3 c.devs.length c3] 58)
        have b9 := Blk.new wr 58 #[.string c.name, .int .i64 c.askM, .int .i64 c.askB, .int .i64 c.capM, .int .i64 c.capB, .slice A3 c.devs.length c3]
        have HOW2 := Lib.hid (HOW.out _ hbr)
        clear r0 r1 r2 r3 r4 r5 b0 b6 hbel e0 z0 e6 z6 hbr HOW
        generalize wr.alloc (.cells #[.string c.name, .int .i64 c.askM, .int .i64 c.askB, .int .i64 c.capM, .int .i64 c.capB, .slice A3 c.devs.length c3] 58) = wa at *
        generalize wr.heap.size = pk at *
        have e0 := b0a.cells
        have z0 := b0a.lt
        have e9 := b9.cells
        have z9 := b9.lt
        go_wp2_with fail
        refine HOW2.out.mono ?_
        rintro e w10 ⟨rfl, hb10⟩
        have b0b := b0a.below hb10 z0
        have b6b := b6a.below hb10 b6a.lt
        have e9' := (b9.below hb10 z9).cells
        have z9' := (b9.below hb10 z9).lt
        have hbb := hba.trans (hb10.mono hba.size)
        clear e0 z0 e9 b0a b6a hba hb10 HOW2 b9
        generalize ownN p c = n at *
        rcases hof with rfl | ⟨h1, h2, h3, h4, h5, h6⟩
        · go_wp2_with fail
          go_roundw
          case rel => exact ⟨k + 1, by go_num, by omega, by rw [hon.out, Int.add_zero], b0b, b6b, hbb⟩
          case measure => simp [intOf]; omega
        · subst h3
          rw [h4, h5, h6] at e9'
          have hnz : decide (n < 0) = false := by rw [decide_eq_false_iff_not]; omega
          clear h4 h5 h6
          go_wp2_with fail
          go_roundw
          case rel => exact ⟨k + 1, by go_num, by omega, by rw [hon.out], b0b, b6b, hbb⟩
          case measure => simp [intOf]; omega
      · obtain rfl : k = p.conts.length := by omega
        have HE := Lib.hid (show 1000 * ownK p p.conts.length ≤ askedM p by rw [HAE.out]; exact ho3)
        have hE := HE.out
        rcases hcl with rfl | rfl | rfl
        · obtain ⟨hm0, hb0⟩ := HBS.out rfl
          rw [hm0, hb0] at b6 e6
          rw [hm0] at hE
          go_wp2_with fail
          go_ret
          exact RetBB.mk' (by simp <;> omega) hbel
        · go_wp2_with fail
          go_ret
          exact RetBB.mk' (by simp <;> omega) hbel
        · go_wp2_with fail
          go_ret
          exact RetBB.mk' (by simp <;> omega) hbel
  · have HF := Lib.hid hf
    generalize podFault p = f at *
    go_wp2_with fail
    refine hCK.out.mono ?_
    rintro e w6 ⟨rfl, hb6⟩
    rw [errV_pos f HF.out]
    go_wp2_with fail
    go_ret
    exact ⟨rfl, hbel5.trans (hb6.mono hbel5.size)⟩
end
end Go.Proofs.Yticmfflnenoplab
