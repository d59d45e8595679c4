/- Amounts: Milli: its walk. -/
import Derived.Test.YticmfflnenoplabDoorAmD
namespace Go.Proofs.YticmfflnenoplabDoor
open Go.RowKit Am
theorem digits_l (t : List UInt8) (ht : t.length ≤ 200) (most : Nat) (hm : most ≤ 16) (w : World) : Calls Tryd.prog 47 #[.string ⟨t.toArray⟩, .int .i64 most] w (RetDig (digP t most) w) := by
  have := digits_any ⟨t.toArray⟩ (by simp [ByteArray.size, maxLen]; omega) most hm w
  simpa using this
theorem one_cons (b : List UInt8) : (⟨#[49]⟩ : ByteArray) ++ ⟨b.toArray⟩ = ⟨(49 :: b).toArray⟩ := by
  apply ByteArray.ext
  rw [ByteArray.data_append]
  simp
theorem cut_lens (l p : List UInt8) : (Lib.cut l p).1.length ≤ l.length ∧ (Lib.cut l p).2.1.length ≤ l.length := by
  unfold Lib.cut
  split
  · exact ⟨by simp; omega, by simp⟩
  · exact ⟨Nat.le_refl _, by simp⟩
theorem trim_len (l p : List UInt8) : (Lib.trimSuffix l p).length ≤ l.length := by
  unfold Lib.trimSuffix
  split
  · simp
  · exact Nat.le_refl _
theorem milliP_m {l : List UInt8} (h : Lib.hasSuffix l [109] = true) : milliP l = fin (digP (Lib.trimSuffix l [109]) 9).1 (digP (Lib.trimSuffix l [109]) 9).2 := by
  unfold milliP; rw [if_pos h]
theorem milliP_p {l : List UInt8} (h : Lib.hasSuffix l [109] = false) (hp : (Lib.cut l [46]).2.2 = true) : milliP l = fin (pointP (Lib.cut l [46]).1 (Lib.cut l [46]).2.1).1 (pointP (Lib.cut l [46]).1 (Lib.cut l [46]).2.1).2 := by
  unfold milliP; rw [h, if_neg (by simp), if_pos hp]
theorem milliP_w {l : List UInt8} (h : Lib.hasSuffix l [109] = false) (hp : (Lib.cut l [46]).2.2 = false) : milliP l = fin (1000 * (digP (Lib.cut l [46]).1 6).1) (digP (Lib.cut l [46]).1 6).2 := by
  unfold milliP; rw [h, if_neg (by simp), hp, if_neg (by simp)]
section
attribute [local irreducible] digP milliP pointP fin Lib.cut Lib.trimSuffix Lib.hasSuffix
set_option maxHeartbeats 2000000 in
theorem Milli_any (s : ByteArray) (hs : s.size ≤ 100) (w : World) (hL : Lay w) : Calls Tryd.prog 27 #[.string s] w (RetNE (milliP s.data.toList) w) := by
  have HS := Lib.hid (Tryd.strings_CutSuffix s ⟨#[109]⟩ w (by omega))
  have HC := Lib.hid (cut_any s ⟨#[46]⟩ (by omega) w hL)
  rw [show (⟨#[109]⟩ : ByteArray).data.toList = [109] from rfl] at HS
  rw [show (⟨#[46]⟩ : ByteArray).data.toList = [46] from rfl] at HC
  clear hL
  have hsl : s.data.toList.length ≤ 100 := hs
  generalize s.data.toList = l at *
  have HT := Lib.hid (fun W => digits_l (Lib.trimSuffix l [109]) (Nat.le_trans (trim_len l [109]) (by omega)) 9 (by omega) W)
  have hcl := cut_lens l [46]
  have HA := Lib.hid (fun W => digits_l (Lib.cut l [46]).1 (Nat.le_trans hcl.1 (by omega)) 6 (by omega) W)
  have HB := Lib.hid (fun W => digits_l (49 :: (Lib.cut l [46]).2.1) (by simp; omega) 4 (by omega) W)
  have hbl := hcl.2
  clear hcl
  cases hh : Lib.hasSuffix l [109]
  · rw [hh] at HS
    cases hp : (Lib.cut l [46]).2.2
    · have HM := Lib.hid (milliP_w hh hp)
      rw [hp] at HC
      clear hh hp HB HT
      generalize Lib.cut l [46] = ct at *
      obtain ⟨a, b, c⟩ := ct
      dsimp only at *
      have hd := digP_lt a 6
      generalize digP a 6 = d at *
      obtain ⟨dn, dk⟩ := d
      dsimp only at hd HM
      go_enter Tryd.func27, Tryd.ntmps27
      go_wp2_with fail
      refine HS.out.mono ?_
      rintro e w1 ⟨rfl, rfl⟩
      go_wp2_with fail
      refine HC.out.mono ?_
      rintro e w2 ⟨rfl, hb2⟩
      go_wp2_with fail
      refine (HA.out _).mono ?_
      rintro e w3 ⟨rfl, rfl⟩
      cases dk
      · go_wp2_with fail
        go_ret2
        exact RetNE.err (by rw [HM.out, fin_no]) (by omega) hb2
      · by_cases hbig : 1000 * (dn : Int) > 1000000
        · go_wp2_with fail
          go_ret2
          exact RetNE.err (by rw [HM.out, fin_big hbig]) (by omega) hb2
        · go_wp2_with fail
          go_ret2
          exact RetNE.nil (by rw [HM.out, fin_ok (by omega), Int.mul_comm]) hb2
    · have HM := Lib.hid (milliP_p hh hp)
      rw [hp] at HC
      clear hh hp HT
      generalize Lib.cut l [46] = ct at *
      obtain ⟨a, b, c⟩ := ct
      dsimp only at *
      have hd := digP_lt a 6
      have hk := digP_lt (49 :: b) 4
      unfold pointP at HM
      generalize digP a 6 = d at *
      generalize digP (49 :: b) 4 = g at *
      obtain ⟨dn, dk⟩ := d
      obtain ⟨gn, gk⟩ := g
      dsimp only at hd hk HM
      go_enter Tryd.func27, Tryd.ntmps27
      go_wp2_with fail
      refine HS.out.mono ?_
      rintro e w1 ⟨rfl, rfl⟩
      go_wp2_with fail
      refine HC.out.mono ?_
      rintro e w2 ⟨rfl, hb2⟩
      go_wp2_with fail
      refine (HA.out _).mono ?_
      rintro e w3 ⟨rfl, rfl⟩
      rw [← one_cons] at HB
      have hl1 : (⟨#[49]⟩ : ByteArray).size = 1 := rfl
      go_wp2_with fail
      refine (HB.out _).mono ?_
      rintro e w3 ⟨rfl, rfl⟩
      clear HS HC HA HB
      go_upto_region 10 with fail
      go_cut [5] (fun x wx => x = .bool (dk && gk && !b.isEmpty) ∧ wx = w2)
      case first =>
        cases dk
        · go_wp2_with fail
          go_meet
          exact ⟨rfl, rfl⟩
        · cases gk
          · go_wp2_with fail
            go_meet
            exact ⟨rfl, rfl⟩
          · go_wp2_with fail
            go_meet
            exact ⟨by cases b <;> simp, rfl⟩
      case rest =>
        obtain ⟨rfl, rfl⟩ := hcut
        generalize (dk && gk && !b.isEmpty) = ok at *
        obtain ⟨c, hc⟩ : ∃ c, 3 - min b.length 3 = c := ⟨_, rfl⟩
        rw [hc] at HM
        have hc3 : c ≤ 3 := by omega
        have hcq : (3 : Int) - min (b.length : Int) 3 = (c : Int) := by omega
        clear hc
        go_upto_region 12 with fail
        go_loop [11, 54] (fun k i => ∃ m q : Nat, i = .int .i64 m ∧ m ≤ c ∧ k = .int .i64 q ∧ q ≤ 10000000 ∧ Hid (q = gn * 10 ^ m)) (fun _ i => c - (intOf i).toNat)
        case atStart => exact ⟨0, gn, rfl, by omega, rfl, by omega, Lib.hid (by simp)⟩
        case round =>
          obtain ⟨m, q, rfl, hm, rfl, hq, hQ⟩ := hrel
          by_cases hlt : m < c
          · have hq2 : 10 * q ≤ 10000000 := by
              rw [hQ.out]
              have h1 : 10 ^ m ≤ 10 ^ 2 := Nat.pow_le_pow_right (by omega) (by omega)
              have h2 : gn * 10 ^ m ≤ 9999 * 10 ^ 2 := Nat.mul_le_mul (by omega) h1
              omega
            go_wp2_with fail
            go_round
            case rel => exact ⟨m + 1, 10 * q, by go_num, by omega, by go_num, hq2, Lib.hid (by rw [hQ.out, Nat.pow_succ, Nat.mul_comm 10, Nat.mul_assoc])⟩
            case measure => simp [intOf]; omega
          · obtain rfl : m = c := by omega
            have hqi : (gn : Int) * 10 ^ m = (q : Int) := by
              rw [hQ.out, Int.natCast_mul, Int.natCast_pow]; rfl
            rw [hqi] at HM
            cases ok
            · go_wp2_with fail
              go_ret2
              exact RetNE.err (by rw [HM.out, fin_no]) (by omega) hb2
            · by_cases hbig : 1000 * (dn : Int) + q - 1000 > 1000000
              · go_wp2_with fail
                go_ret2
                exact RetNE.err (by rw [HM.out, fin_big hbig]) (by omega) hb2
              · go_wp2_with fail
                go_ret2
                exact RetNE.nil (by rw [HM.out, fin_ok (by omega)]) hb2
  · have HM := Lib.hid (milliP_m hh)
    rw [hh] at HS
    clear hh HA HB HC
    generalize Lib.trimSuffix l [109] = t at *
    have hd := digP_lt t 9
    generalize digP t 9 = d at *
    obtain ⟨dn, dk⟩ := d
    dsimp only at hd HM
    go_enter Tryd.func27, Tryd.ntmps27
    go_wp2_with fail
    refine HS.out.mono ?_
    rintro e w1 ⟨rfl, rfl⟩
    go_wp2_with fail
    refine (HT.out _).mono ?_
    rintro e w3 ⟨rfl, rfl⟩
    cases dk
    · go_wp2_with fail
      go_ret2
      exact RetNE.err (by rw [HM.out, fin_no]) (by omega) (Below.refl _ _)
    · by_cases hbig : (dn : Int) > 1000000
      · go_wp2_with fail
        go_ret2
        exact RetNE.err (by rw [HM.out, fin_big hbig]) (by omega) (Below.refl _ _)
      · go_wp2_with fail
        go_ret2
        exact RetNE.nil (by rw [HM.out, fin_ok (by omega)]) (Below.refl _ _)
end
end Go.Proofs.YticmfflnenoplabDoor
