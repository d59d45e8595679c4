/- Who goes first: the reference's used and first: their walks. No statement is proved here. -/
import Derived.Test.YticmfflnenoplaaEvE
namespace Go.Proofs.Yticmfflnenoplaa
open Go.RowKit Go.Deep Da Qo Ev
set_option maxRecDepth 100000 in
set_option maxHeartbeats 2000000 in
theorem Rused_any (v : Value) (us : List Use) (n : ByteArray) (B : Nat) (w : World) (h : RSlice w B 2 RUse [v] us) :
    Calls Try.prog 143 #[v, .string n] w (RetIw (usedF n us) w) := by
  obtain ⟨A, cap, hv, hl, hcap, hA⟩ := h.form
  obtain rfl : v = _ := by simpa using hv
  unfold maxLen at hcap
  have HA := Lib.hid hA
  have HR := Lib.hid h
  clear h hv hA
  go_enter Try.func143, Try.ntmps143
  go_wp2_with fail
  go_loop [5] (fun i => ∃ k : Nat, i = .int .i64 k ∧ k ≤ us.length ∧ Hid (∀ j (hj : j < us.length), j < k → sameS us[j].name n = false)) (fun i => us.length - (intOf i).toNat)
  case atStart => exact ⟨0, rfl, by omega, Lib.hid (fun j hj h => by omega)⟩
  case round =>
    obtain ⟨k, rfl, hk, HN⟩ := hrel
    by_cases hlt : k < us.length
    · obtain ⟨b, off, rfl⟩ := HA.out k hlt
      obtain ⟨hblt, cs', hc1, hc2, hr1, hr2, hr3⟩ := HR.out.at_ hlt
      have g0 := hc2 0 _ (by rw [hr1]; rfl)
      have g1 := hc2 1 _ (by rw [hr1]; rfl)
      simp only [Nat.add_zero] at g0
      clear hc2 hr1 hc1
      have HH := Lib.hid (fun h => usedF_hit n us k hlt HN.out h)
      have HS : Hid (sameS us[k].name n = false → ∀ j (hj : j < us.length), j < k + 1 → sameS us[j].name n = false) := Lib.hid (by
        intro h j hj hjk
        rcases (show j < k ∨ j = k by omega) with hx | rfl
        · exact HN.out j hj hx
        · exact h)
      generalize us[k] = x at *
      obtain ⟨xn, xb⟩ := x
      dsimp only at *
      unfold sameS at HH HS
      cases hs : (xn.toList == n.toList)
      · have HX := Lib.hid (HS.out hs)
        clear HH HS
        go_wp2_with fail
        go_round
        case rel => exact ⟨k + 1, by go_num, by omega, HX⟩
        case measure => simp [intOf]; omega
      · have HX := Lib.hid (HH.out hs)
        clear HH HS
        go_wp2_with fail
        go_ret
        exact RetIw.of HX.out
    · obtain rfl : k = us.length := by omega
      have HX := Lib.hid (usedF_none n us (fun j hj => HN.out j hj hj))
      go_wp2_with fail
      go_ret
      exact RetIw.of HX.out
namespace Ev
/-- The reference's comparison. -/
def firstB (xo yo xp yp : Int) (xn yn : ByteArray) : Bool := if decide (0 < xo) != decide (0 < yo) then decide (0 < xo) else if xp ≠ yp then decide (xp < yp) else if xo ≠ yo then decide (yo < xo) else lessS xn yn
theorem first_lt {us : List Use} {p q : Pod} (hp : Fit us p) (hq : Fit us q) : ltB (rowOf us p) (rowOf us q) = firstB (usedF p.name us - askedB p) (usedF q.name us - askedB q) p.prio q.prio p.name q.name := by
  rw [Bool.eq_iff_iff, ltB_iff, hp.row, hq.row]
  unfold Lt firstB
  simp only []
  generalize usedF p.name us - askedB p = x
  generalize usedF q.name us - askedB q = y
  by_cases h1 : 0 < x <;> by_cases h2 : 0 < y
  · simp only [h1, h2, if_true, decide_true, bne_self_eq_false, Bool.false_eq_true, if_false]
    by_cases h3 : p.prio = q.prio
    · by_cases h4 : x = y
      · simp [h3, h4]
      · simp [h3, h4, Ne.symm h4]
    · simp [h3]
  · simp [h1, h2]
  · simp [h1, h2]
  · simp only [h1, h2, if_false, decide_false, bne_self_eq_false, Bool.false_eq_true]
    by_cases h3 : p.prio = q.prio
    · by_cases h4 : x = y
      · simp [h3, h4]
      · simp [h3, h4, Ne.symm h4]
    · simp [h3]
end Ev
namespace Ev
theorem fb_over {xo yo xp yp : Int} {xn yn : ByteArray} (h : (decide (0 < xo) != decide (0 < yo)) = true) : firstB xo yo xp yp xn yn = decide (0 < xo) := by simp only [firstB, h, if_true]
theorem fb_prio {xo yo xp yp : Int} {xn yn : ByteArray} (h : (decide (0 < xo) != decide (0 < yo)) = false) (h2 : xp ≠ yp) : firstB xo yo xp yp xn yn = decide (xp < yp) := by simp only [firstB, h, Bool.false_eq_true, if_false, ne_eq, h2, not_false_eq_true, if_true]
theorem fb_more {xo yo xp : Int} {xn yn : ByteArray} (h : (decide (0 < xo) != decide (0 < yo)) = false) (h2 : xo ≠ yo) : firstB xo yo xp xp xn yn = decide (yo < xo) := by simp only [firstB, h, Bool.false_eq_true, if_false, ne_eq, h2, not_false_eq_true, if_true, not_true_eq_false]
theorem fb_name {xo xp : Int} {xn yn : ByteArray} : firstB xo xo xp xp xn yn = lessS xn yn := by simp [firstB]
end Ev
theorem RetBB.of_ {b b' : Bool} {w w' : World} (h : b = b') (hb : Below w.heap.size w w') : RetBB b w (.returned (.bool b')) w' := ⟨by rw [h], hb⟩
def podC (p : Pod) (A : Option Addr) (n c : Nat) : Array Value := #[.string p.name, .int .i64 p.prio, .slice A n c]
section
attribute [local irreducible] usedF rowOf askedB askedM RPod RCont ltB
set_option maxRecDepth 100000 in
set_option maxHeartbeats 4000000 in
theorem first_any (v2 : Value) (us : List Use) (p q : Pod) (cs ct : List Value) (B : Nat) (w : World) (hB : B ≤ w.heap.size) (hp : RPod w B cs p) (hq : RPod w B ct q) (h2 : RSlice w B 2 RUse [v2] us) (fp : Fit us p) (fq : Fit us q) :
    Calls Try.prog 142 #[.agg cs.toArray, .agg ct.toArray, v2] w (RetBB (ltB (rowOf us p) (rowOf us q)) w) := by
  have HLT := Lib.hid (first_lt fp fq)
  have HP := Lib.hid hp
  have HQ := Lib.hid hq
  obtain ⟨A8, n8, c8, rfl⟩ := rpod_open hp
  obtain ⟨A9, n9, c9, rfl⟩ := rpod_open hq
  have HU := Lib.hid h2
  have up := fp.used
  have uq := fq.used
  have pp := fp.prio
  have pq := fq.prio
  have ap : 0 ≤ askedB p ∧ askedB p ≤ 3377699720527872 := by unfold askedB; exact (fp.good.sums p.conts.length (Nat.le_refl _)).2.1
  have aq : 0 ≤ askedB q ∧ askedB q ≤ 3377699720527872 := by unfold askedB; exact (fq.good.sums q.conts.length (Nat.le_refl _)).2.1
  have HSP := Lib.hid (fun W (hW : Below w.heap.size w W) => Asked_any p fp.good [.string p.name, .int .i64 p.prio, .slice A8 n8 c8] B W (by have := hW.size; omega) (HP.out.below (hW.mono hB)))
  have HSQ := Lib.hid (fun W (hW : Below w.heap.size w W) => Asked_any q fq.good [.string q.name, .int .i64 q.prio, .slice A9 n9 c9] B W (by have := hW.size; omega) (HQ.out.below (hW.mono hB)))
  have HUP := Lib.hid (fun W (hW : Below w.heap.size w W) => Rused_any v2 us p.name B W (HU.out.below (hW.mono hB)))
  have HUQ := Lib.hid (fun W (hW : Below w.heap.size w W) => Rused_any v2 us q.name B W (HU.out.below (hW.mono hB)))
  clear hp hq h2 fp fq
  have k1 := (Blk.new w 33 #[.string p.name, .int .i64 p.prio, .slice A8 n8 c8]).alloc (.cells #[.string q.name, .int .i64 q.prio, .slice A9 n9 c9] 33)
  have k2 := Blk.new1 w (.cells #[.string p.name, .int .i64 p.prio, .slice A8 n8 c8] 33) 33 #[.string q.name, .int .i64 q.prio, .slice A9 n9 c9]
  have hb1 : Below w.heap.size w ((w.alloc (.cells #[.string p.name, .int .i64 p.prio, .slice A8 n8 c8] 33)).alloc (.cells #[.string q.name, .int .i64 q.prio, .slice A9 n9 c9] 33)) := ((Below.refl _ _).alloc (Nat.le_refl _) _).alloc (by simp) _
  go_enter Try.func142, Try.ntmps142
  go_upto_region 1 with fail
  generalize (w.alloc (.cells #[.string p.name, .int .i64 p.prio, .slice A8 n8 c8] 33)).alloc (.cells #[.string q.name, .int .i64 q.prio, .slice A9 n9 c9] 33) = w1 at *
  have hf1 := fun W => ev_field1 (askedM p) (askedB p) W
  have hf2 := fun W => ev_field1 (askedM q) (askedB q) W
  generalize hxo : usedF p.name us = xo at *
  generalize hyo : usedF q.name us = yo at *
  clear hxo hyo
  have c1 := k1.cells
  have c2 := k2.cells
  have l1 := k1.lt
  have l2 := k2.lt
  have hI : Below w1.heap.size w1 w1.drew := (Below.refl _ _).drew
  refine Flo.region 8 [(0, true), (1, true), (2, true), (3, true), (4, true), (5, false), (6, true), (7, true)] (fun v => Below w1.heap.size w1 v) (by as_aux_lemma => kernel_rfl) (by as_aux_lemma => kernel_rfl) rfl hI ?_
  simp only [List.drop_succ_cons, List.drop_zero]
  iterate 5 (apply Flo.op rfl (hI := hI); (· intro v hv K hK; obtain ⟨hc, hf⟩ := Flo.bcl hv; go_wp2_with (go_at_call 143; refine (HUP.out _ (hb1.trans (hv.mono hb1.size))).mono ?_; rintro e w' ⟨rfl, rfl⟩); all_goals first | exact Flo.noUndef (by with_reducible assumption) | exact hK); (· rfl))
  refine Flo.seq rfl fun K hK => ?_
  go_wp2_with fail
  refine (HSP.out _ (hb1.trans (hI.mono hb1.size))).mono ?_
  rintro e w3 ⟨rfl, hb3⟩
  go_wp2_with fail
  have hI3 : Below w1.heap.size w1 w3 := hI.trans (hb3.mono hI.size)
  refine hK _ _ hI3 ?_
  clear hK
  iterate 2 (apply Flo.op rfl (hI := hI3); (· intro v hv K hK; obtain ⟨hc, hf⟩ := Flo.bcl hv; go_wp2_with fail; all_goals first | exact Flo.noUndef (by with_reducible assumption) | exact hK); (· rfl))
  refine Flo.tail fun K hK => ?_
  go_wp2_with fail
  have k13 := k1.below hI3 l1
  have k23 := k2.below hI3 l2
  have hb13 := hb1.trans (hI3.mono hb1.size)
  clear c1 c2 l1 l2 k1 k2 hI hI3 hb1 HSP HUP hb3
  have c1 := k13.cells
  have c2 := k23.cells
  have l1 := k13.lt
  have l2 := k23.lt
  have hI : Below w3.heap.size w3 w3.drew := (Below.refl _ _).drew
  refine Flo.region 8 [(0, true), (1, true), (2, true), (3, true), (4, true), (5, false), (6, true), (7, true)] (fun v => Below w3.heap.size w3 v) (by as_aux_lemma => kernel_rfl) (by as_aux_lemma => kernel_rfl) rfl hI ?_
  simp only [List.drop_succ_cons, List.drop_zero]
  iterate 5 (apply Flo.op rfl (hI := hI); (· intro v hv K hK; obtain ⟨hc, hf⟩ := Flo.bcl hv; go_wp2_with (go_at_call 143; refine (HUQ.out _ (hb13.trans (hv.mono hb13.size))).mono ?_; rintro e w' ⟨rfl, rfl⟩); all_goals first | exact Flo.noUndef (by with_reducible assumption) | exact hK); (· rfl))
  refine Flo.seq rfl fun K hK => ?_
  go_wp2_with fail
  refine (HSQ.out _ (hb13.trans (hI.mono hb13.size))).mono ?_
  rintro e w5 ⟨rfl, hb5⟩
  go_wp2_with fail
  have hI5 : Below w3.heap.size w3 w5 := hI.trans (hb5.mono hI.size)
  refine hK _ _ hI5 ?_
  clear hK
  iterate 2 (apply Flo.op rfl (hI := hI5); (· intro v hv K hK; obtain ⟨hc, hf⟩ := Flo.bcl hv; go_wp2_with fail; all_goals first | exact Flo.noUndef (by with_reducible assumption) | exact hK); (· rfl))
  refine Flo.tail fun K hK => ?_
  clear hb5
  have hb5 := hb13.trans (hI5.mono hb13.size)
  have k15 := k13.below hI5 l1
  have k25 := k23.below hI5 l2
  clear c1 c2 l1 l2 k13 k23 hI hI5 hb13 HSQ HUQ
  have c1 := k15.cells
  have c2 := k25.cells
  generalize xo - askedB p = x at *
  generalize yo - askedB q = y at *
  generalize p.prio = a at *
  generalize q.prio = b at *
  by_cases h1 : 0 < x <;> by_cases h2 : 0 < y
  · skip
    by_cases h3 : a = b
    · subst h3
      by_cases h4 : x = y
      · subst h4
        have HX := Lib.hid (HLT.out.trans (fb_name.trans (lessS_eq _ _)))
        go_wp2_with fail
        go_ret
        exact RetBB.of_ HX.out hb5
      · have h4' : (x != y) = true := by simpa using h4
        have HX := Lib.hid (HLT.out.trans (fb_more (by simp [h1, h2]) h4))
        clear h4
        go_wp2_with fail
        go_ret
        exact RetBB.of_ HX.out hb5
    · have h3' : (a != b) = true := by simpa using h3
      have HX := Lib.hid (HLT.out.trans (fb_prio (by simp [h1, h2]) h3))
      clear h3
      go_wp2_with fail
      go_ret
      exact RetBB.of_ HX.out hb5
  · have HX := Lib.hid (HLT.out.trans (fb_over (by simp [h1, h2])))
    go_wp2_with fail
    go_ret
    exact RetBB.of_ (HX.out.trans (by simp [h1])) hb5
  · have HX := Lib.hid (HLT.out.trans (fb_over (by simp [h1, h2])))
    go_wp2_with fail
    go_ret
    exact RetBB.of_ (HX.out.trans (by simp [h1])) hb5
  · skip
    by_cases h3 : a = b
    · subst h3
      by_cases h4 : x = y
      · subst h4
        have HX := Lib.hid (HLT.out.trans (fb_name.trans (lessS_eq _ _)))
        go_wp2_with fail
        go_ret
        exact RetBB.of_ HX.out hb5
      · have h4' : (x != y) = true := by simpa using h4
        have HX := Lib.hid (HLT.out.trans (fb_more (by simp [h1, h2]) h4))
        clear h4
        go_wp2_with fail
        go_ret
        exact RetBB.of_ HX.out hb5
    · have h3' : (a != b) = true := by simpa using h3
      have HX := Lib.hid (HLT.out.trans (fb_prio (by simp [h1, h2]) h3))
      clear h3
      go_wp2_with fail
      go_ret
      exact RetBB.of_ HX.out hb5
end
end Go.Proofs.Yticmfflnenoplaa
