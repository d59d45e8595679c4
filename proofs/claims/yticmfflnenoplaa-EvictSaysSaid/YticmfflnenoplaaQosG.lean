/- Class, Own, Shares, Quota, of both texts: their walks. -/
import Derived.Test.YticmfflnenoplaaQosF
import Derived.Test.YticmfflnenoplaaQosD
namespace Go.Proofs.Yticmfflnenoplaa
open Go.RowKit Qo Da
def RetI (n : Int) (w : World) (e : Ending) (w' : World) : Prop := e = .returned (.int .i64 n) ∧ w = w'
theorem RetI.of {n m : Int} {w : World} (h : n = m) : RetI n w (.returned (.int .i64 m)) w := ⟨by rw [h], rfl⟩
theorem Shares_any (m : Int) (h0 : 0 ≤ m) (h1 : m ≤ 100000000) (w : World) : Calls Try.prog 68 #[.int .i64 m] w (RetI (shares m) w) := by
  rcases (show m * 1024 / 1000 < 2 ∨ 262144 < m * 1024 / 1000 ∨ (2 ≤ m * 1024 / 1000 ∧ m * 1024 / 1000 ≤ 262144) by omega) with h | h | ⟨h, h'⟩
  · have HF := Lib.hid (shares_lo h)
    go_enter Try.func68, Try.ntmps68
    go_wp2_with fail
    go_ret
    exact RetI.of (by rw [HF.out] <;> omega)
  · have HF := Lib.hid (shares_hi h)
    go_enter Try.func68, Try.ntmps68
    go_wp2_with fail
    go_ret
    exact RetI.of (by rw [HF.out] <;> omega)
  · have HF := Lib.hid (shares_mid h h')
    go_enter Try.func68, Try.ntmps68
    go_wp2_with fail
    go_ret
    exact RetI.of (by rw [HF.out] <;> omega)
theorem RShares_any (m : Int) (h0 : 0 ≤ m) (h1 : m ≤ 100000000) (w : World) : Calls Try.prog 69 #[.int .i64 m] w (RetI (shares m) w) := by
  rcases (show m * 1024 / 1000 < 2 ∨ (262144 < m * 1024 / 1000 ∧ 2 ≤ m * 1024 / 1000) ∨ (2 ≤ m * 1024 / 1000 ∧ m * 1024 / 1000 ≤ 262144) by omega) with h | ⟨h, h'⟩ | ⟨h, h'⟩
  · have HF := Lib.hid (shares_lo h)
    go_enter Try.func69, Try.ntmps69
    go_wp2_with fail
    go_ret
    exact RetI.of HF.out
  · have HF := Lib.hid (shares_hi h)
    go_enter Try.func69, Try.ntmps69
    go_wp2_with fail
    go_ret
    exact RetI.of HF.out
  · have HF := Lib.hid (shares_mid h h')
    go_enter Try.func69, Try.ntmps69
    go_wp2_with fail
    go_ret
    exact RetI.of HF.out
theorem Quota_any (m : Int) (h0 : 0 ≤ m) (h1 : m ≤ 100000000) (w : World) : Calls Try.prog 70 #[.int .i64 m] w (RetI (quota m) w) := by
  rcases (show m = 0 ∨ (m ≠ 0 ∧ m < 10) ∨ (m ≠ 0 ∧ 10 ≤ m) by omega) with rfl | ⟨h, h'⟩ | ⟨h, h'⟩
  · go_enter Try.func70, Try.ntmps70
    go_wp2_with fail
    go_ret
    exact RetI.of (quota_0 rfl)
  · have HF := Lib.hid (quota_lo h h')
    go_enter Try.func70, Try.ntmps70
    go_wp2_with fail
    go_ret
    exact RetI.of (by rw [HF.out] <;> omega)
  · have HF := Lib.hid (quota_hi h h')
    go_enter Try.func70, Try.ntmps70
    go_wp2_with fail
    go_ret
    exact RetI.of (by rw [HF.out] <;> omega)
theorem RQuota_any (m : Int) (h0 : 0 ≤ m) (h1 : m ≤ 100000000) (w : World) : Calls Try.prog 71 #[.int .i64 m] w (RetI (quota m) w) := by
  rcases (show m = 0 ∨ (m ≠ 0 ∧ m < 10) ∨ (m ≠ 0 ∧ 10 ≤ m) by omega) with rfl | ⟨h, h'⟩ | ⟨h, h'⟩
  · go_enter Try.func71, Try.ntmps71
    go_wp2_with fail
    go_ret
    exact RetI.of (quota_0 rfl)
  · have HF := Lib.hid (quota_lo h h')
    go_enter Try.func71, Try.ntmps71
    go_wp2_with fail
    go_ret
    exact RetI.of (by rw [HF.out])
  · have HF := Lib.hid (quota_hi h h')
    go_enter Try.func71, Try.ntmps71
    go_wp2_with fail
    go_ret
    exact RetI.of (by rw [HF.out] <;> omega)
theorem cont_in {w w' : World} {B b off n cap : Nat} {l : List Cont} (h : RSlice w B 6 (RCont w B) [.slice (some ⟨b, off, none⟩) n cap] l) (hb : Below B w w') {k : Nat} (hk : k < l.length) :
    ∃ A2 c2, l[k].devs.length ≤ c2 ∧ c2 ≤ maxLen ∧ l[k].name.size ≤ maxLen ∧ RCont w' B (contCells l[k] (.slice A2 l[k].devs.length c2)) l[k] ∧ w'.cell? ⟨b, off + k * 6, none⟩ = some (.string l[k].name) ∧ w'.cell? ⟨b, off + k * 6 + 1, none⟩ = some (.int .i64 l[k].askM) ∧ w'.cell? ⟨b, off + k * 6 + 2, none⟩ = some (.int .i64 l[k].askB) ∧
      w'.cell? ⟨b, off + k * 6 + 3, none⟩ = some (.int .i64 l[k].capM) ∧ w'.cell? ⟨b, off + k * 6 + 4, none⟩ = some (.int .i64 l[k].capB) ∧ w'.cell? ⟨b, off + k * 6 + 5, none⟩ = some (.slice A2 l[k].devs.length c2) := by
  obtain ⟨hlt, cs', q1, q2, q3⟩ := (h.below hb).at_ hk
  have q3' := q3.below hb
  obtain ⟨A2, c2, e, hn, h1, h2, _⟩ := cont_cells q3
  rw [e] at q2 q3'
  exact ⟨A2, c2, h1, h2, hn, q3', q2 0 _ rfl, q2 1 _ rfl, q2 2 _ rfl, q2 3 _ rfl, q2 4 _ rfl, q2 5 _ rfl⟩
theorem full_eq {c : Cont} (b : Bool) (h : (c.askM = c.capM ∧ c.askB = c.capB ∧ 0 < c.askM ∧ 0 < c.askB) ↔ b = true) : full c = b := by
  rw [Bool.eq_iff_iff, ← h]
  simp [full, and_assoc]
theorem bare_eq {c : Cont} (b : Bool) (h : (c.askM = 0 ∧ c.askB = 0 ∧ c.capM = 0 ∧ c.capB = 0) ↔ b = true) : bare c = b := by
  rw [Bool.eq_iff_iff, ← h]
  simp [bare, and_assoc]
section
attribute [local irreducible] bareK fullK RCont RSlice bare full cls nameMay
set_option maxRecDepth 100000 in
set_option maxHeartbeats 4000000 in
theorem Class_any (p : Pod) (hG : GoodP p) (cs : List Value) (B : Nat) (w : World) (hB : B ≤ w.heap.size) (hR : RPod w B cs p) :
    Calls Try.prog 62 #[.agg cs.toArray] w (RetIB (cls p) w) := by
  obtain ⟨cv, rfl, hps, hpr, hC⟩ := hR
  obtain ⟨A, cap, e, hl, hcap, hA⟩ := RS.form (RS.of hC)
  obtain rfl : cv = _ := by simpa using e
  unfold maxLen at hcap hps
  have HC := Lib.hid hC
  have HA := Lib.hid hA
  have HG := Lib.hid hG.all
  have hl3 := hG.len
  clear hC hA e hG
  obtain ⟨pn, pr, conts⟩ := p
  dsimp only at *
  have h1 := Lib.hid (fun h => cls_1 (p := ⟨pn, pr, conts⟩) h)
  have h2 := Lib.hid (fun h h' => cls_2 (p := ⟨pn, pr, conts⟩) h h')
  have h3 := Lib.hid (fun h h' => cls_3 (p := ⟨pn, pr, conts⟩) h h')
  dsimp only at h1 h2 h3
  have k0 := Blk.new w 33 #[.string pn, .int .i64 pr, .slice A conts.length cap]
  have hbel : Below w.heap.size w (w.alloc (.cells #[.string pn, .int .i64 pr, .slice A conts.length cap] 33)) := (Below.refl _ _).alloc (Nat.le_refl _) _
  go_enter Try.func62, Try.ntmps62
  go_upto_region 3 with fail
  generalize w.alloc (.cells #[.string pn, .int .i64 pr, .slice A conts.length cap] 33) = w1 at *
  go_loopw [3, 4, 10] (fun s a i wi => ∃ (k : Nat) (s1 a1 : Bool), i = .int .i64 k ∧ k ≤ conts.length ∧ s = .bool s1 ∧ a = .bool a1 ∧ Hid (bareK conts k = !s1) ∧ Hid (fullK conts k = a1) ∧ Blk wi w.heap.size 33 #[.string pn, .int .i64 pr, .slice A conts.length cap] ∧ Below w.heap.size w wi) (fun s a i _ => conts.length - (intOf i).toNat)
  case atStart => exact ⟨0, false, true, rfl, by omega, rfl, rfl, bareK_zero _, fullK_zero _, k0, hbel⟩
  case round =>
    clear k0 hbel
    obtain ⟨k, s1, a1, rfl, hk, rfl, rfl, hs, ha, b0, hbel⟩ := hrel
    by_cases hlt : k < conts.length
    · obtain ⟨b, off, rfl, hb⟩ := HA.out k hlt
      obtain ⟨A2, c2, hd1, hd2, hks, _, r0, r1, r2, r3, r4, r5⟩ := cont_in HC.out (hbel.mono hB) hlt
      have hbs := Lib.hid (bareK_succ conts k hlt)
      have hfs := Lib.hid (fullK_succ conts k hlt)
      obtain ⟨_, g1, g2, g3, g4⟩ := HG.out k hlt
      unfold maxLen at hks hd2
      generalize conts[k] = c at *
      obtain ⟨cn, aM, aB, cM, cB, dv⟩ := c
      dsimp only at *
      go_upto_region 5 with fail
      have hba : Below w.heap.size w (wr.alloc (.cells #[.string cn, .int .i64 aM, .int .i64 aB, .int .i64 cM, .int .i64 cB, .slice A2 dv.length c2] 106)) := hbel.alloc hbel.size _
      have b0a := b0.alloc (.cells #[.string cn, .int .i64 aM, .int .i64 aB, .int .i64 cM, .int .i64 cB, .slice A2 dv.length c2] 106)
      have b9 := Blk.new wr 106 #[.string cn, .int .i64 aM, .int .i64 aB, .int .i64 cM, .int .i64 cB, .slice A2 dv.length c2]
      clear r0 r1 r2 r3 r4 r5 b0 hbel
      generalize wr.alloc (.cells #[.string cn, .int .i64 aM, .int .i64 aB, .int .i64 cM, .int .i64 cB, .slice A2 dv.length c2] 106) = wa at *
      generalize wr.heap.size = pk at *
      have e9 := b9.cells
      have z9 := b9.lt
      go_cut [3] (fun s wx => ∃ s2, s = .bool s2 ∧ Hid (bareK conts (k + 1) = !s2) ∧ wa = wx)
      case first =>
        cases s1
        · rcases (show aM ≠ 0 ∨ (aM = 0 ∧ aB ≠ 0) ∨ (aM = 0 ∧ aB = 0 ∧ cM ≠ 0) ∨ (aM = 0 ∧ aB = 0 ∧ cM = 0 ∧ cB ≠ 0) ∨ (aM = 0 ∧ aB = 0 ∧ cM = 0 ∧ cB = 0) by omega) with h | ⟨rfl, h⟩ | ⟨rfl, rfl, h⟩ | ⟨rfl, rfl, rfl, h⟩ | ⟨rfl, rfl, rfl, rfl⟩
          case inr.inr.inr.inr =>
            have HN := Lib.hid (show bareK conts (k + 1) = !false by rw [hbs.out, hs.out, bare_eq true (by simp)]; rfl)
            go_wp2_with fail
            go_meet
            exact ⟨_, rfl, HN.out, rfl⟩
          all_goals
            have HN := Lib.hid (show bareK conts (k + 1) = !true by rw [hbs.out, hs.out, bare_eq false (by simp; omega)]; rfl)
            have h' := beq_eq_false_iff_ne.2 h
            clear h
            go_wp2_with fail
            go_meet
            exact ⟨_, rfl, HN.out, rfl⟩
        · have HN := Lib.hid (show bareK conts (k + 1) = !true by rw [hbs.out, hs.out]; rfl)
          go_wp2_with fail
          go_meet
          exact ⟨_, rfl, HN.out, rfl⟩
      case rest =>
        obtain ⟨s2, rfl, hs2, rfl⟩ := hcut
        cases a1
        · have HN := Lib.hid (show fullK conts (k + 1) = false by rw [hfs.out, ha.out]; rfl)
          go_wp2_with fail
          go_roundw
          case rel => exact ⟨k + 1, s2, false, by go_num, by omega, rfl, by first | rfl | (congr 1; rw [decide_eq_false_iff_not]; omega), hs2, HN.out, b0a, hba⟩
          case measure => simp [intOf]; omega
        · rcases (show (aM = cM ∧ aB = cB ∧ 0 < aM ∧ 0 < aB) ∨ (aM = cM ∧ aB = cB ∧ 0 < aM ∧ aB ≤ 0) ∨ (aM = cM ∧ aB = cB ∧ aM ≤ 0) ∨ aM ≠ cM ∨ (aM = cM ∧ aB ≠ cB) by omega) with ⟨rfl, rfl, h, h'⟩ | ⟨rfl, rfl, h, h'⟩ | ⟨rfl, rfl, h⟩ | h | ⟨rfl, h⟩
          · have HN := Lib.hid (show fullK conts (k + 1) = true by rw [hfs.out, ha.out, full_eq true (by simp; omega)]; rfl)
            go_wp2_with fail
            go_roundw
            case rel => exact ⟨k + 1, s2, true, by go_num, by omega, rfl, by first | rfl | (congr 1; rw [decide_eq_true_iff]; omega), hs2, HN.out, b0a, hba⟩
            case measure => simp [intOf]; omega
          · have HN := Lib.hid (show fullK conts (k + 1) = false by rw [hfs.out, ha.out, full_eq false (by simp; omega)]; rfl)
            go_wp2_with fail
            go_roundw
            case rel => exact ⟨k + 1, s2, false, by go_num, by omega, rfl, by first | rfl | (congr 1; rw [decide_eq_false_iff_not]; omega), hs2, HN.out, b0a, hba⟩
            case measure => simp [intOf]; omega
          · have HN := Lib.hid (show fullK conts (k + 1) = false by rw [hfs.out, ha.out, full_eq false (by simp; omega)]; rfl)
            go_wp2_with fail
            go_roundw
            case rel => exact ⟨k + 1, s2, false, by go_num, by omega, rfl, by first | rfl | (congr 1; rw [decide_eq_false_iff_not]; omega), hs2, HN.out, b0a, hba⟩
            case measure => simp [intOf]; omega
          all_goals
            have HN := Lib.hid (show fullK conts (k + 1) = false by rw [hfs.out, ha.out, full_eq false (by simp; omega)]; rfl)
            have h' := beq_eq_false_iff_ne.2 h
            clear h
            go_wp2_with fail
            go_roundw
            case rel => exact ⟨k + 1, s2, false, by go_num, by omega, rfl, by first | rfl | (congr 1; rw [decide_eq_false_iff_not]; omega), hs2, HN.out, b0a, hba⟩
            case measure => simp [intOf]; omega
    · obtain rfl : k = conts.length := by omega
      cases s1
      · have HN := Lib.hid (h1.out hs.out)
        go_wp2_with fail
        go_ret
        exact RetIB.of HN.out hbel
      · cases a1
        · have HN := Lib.hid (h2.out hs.out ha.out)
          go_wp2_with fail
          go_ret
          exact RetIB.of HN.out hbel
        · have HN := Lib.hid (h3.out hs.out ha.out)
          go_wp2_with fail
          go_ret
          exact RetIB.of HN.out hbel
end
end Go.Proofs.Yticmfflnenoplaa
