/- Amounts: ostleryref.Milli, where no 'm' ends the text: its walk. -/
import Derived.Test.YticmfflnenoplaaDoorAmJ
namespace Go.Proofs.YticmfflnenoplaaDoor
open Go.RowKit Am
theorem drop_size (s : ByteArray) (k : Nat) : (s.extract k s.size).size = (s.data.toList.drop k).length := by
  rw [← data_len, ext_drop]
theorem dot_le (l : List UInt8) : dot l ≤ l.length := List.findIdx_le_length
section
attribute [local irreducible] digR num okD isD milliP fin prt dot
set_option maxRecDepth 100000 in
set_option maxHeartbeats 1500000 in
theorem MilliR_no (s : ByteArray) (hs : s.size ≤ 100) (hl : s.size = 0 ∨ ∃ m, ∃ h : s.size = m + 1, s[m]'(by omega) ≠ 109) (w : World) : Calls Tryd.prog 16 #[.string s] w (RetNI (milliP s.data.toList) w) := by
  have hno : s.data.toList.getLast? ≠ some 109 := by
    rcases hl with h0 | ⟨m, hm, h⟩
    · have : s.data.toList = [] := List.length_eq_zero_iff.1 h0
      rw [this]
      simp
    · exact not_m (l := s.data.toList) hm h
  have hdl : dot s.data.toList ≤ s.size := dot_le s.data.toList
  have HD := Lib.hid (fun (k : Nat) (hk : k ≤ s.size) => digitsR_x s 0 k (s.data.toList.take k) (ext_take s k) (by rw [List.length_take, data_len]; omega) 1000000 (by omega) w)
  have HST := Lib.hid (dot_step s.data.toList)
  have HE : Hid (s.size + dot (s.data.toList.drop s.size) = s.size) := Lib.hid (by
    have := dot_end s.data.toList
    rw [data_len] at this
    rw [this]; omega)
  have hb : s.size = 0 ∨ ∃ m, ∃ h : s.size = m + 1, ¬ ((s[m]'(by omega)).toNat : Int) = 109 := by
    rcases hl with h0 | ⟨m, hm, h⟩
    · exact .inl h0
    · exact .inr ⟨m, hm, fun he => h ((u8_109 _).1 he)⟩
  have HNO := Lib.hid hno
  clear hl hno
  go_enter Tryd.func16, Tryd.ntmps16
  go_upto_region 2 with fail
  go_cut [4, 24] (fun x c wx => x = .int .i64 s.size ∧ c = .bool false ∧ wx = w)
  case first =>
    rcases hb with h0 | ⟨m, hm, hne⟩
    · go_wp2_with fail
      go_meet
      exact ⟨by rw [h0], rfl, rfl⟩
    · have hlt : m < s.size := by omega
      go_wp2_with fail
      go_meet
      exact ⟨by rw [hm]; rfl, by simp [hne], rfl⟩
  case rest =>
    obtain ⟨rfl, rfl, rfl⟩ := hcut
    clear hb
    go_upto_region 11 with fail
    go_loop [7, 8] (fun a i => ∃ k at_ : Nat, i = .int .i64 ((k : Int) - 1) ∧ k ≤ s.size ∧ a = .int .i64 at_ ∧ at_ ≤ s.size ∧ Hid (at_ = k + dot (s.data.toList.drop k))) (fun _ i => (intOf i + 1).toNat)
    case atStart => exact ⟨s.size, s.size, rfl, by omega, rfl, by omega, HE.out.symm⟩
    case round =>
      obtain ⟨k, at_, rfl, hk, rfl, hat, hI⟩ := hrel
      by_cases hk0 : k = 0
      · subst hk0
        have hI0 := hI.out
        rw [Nat.zero_add, List.drop_zero] at hI0
        have hd := HD.out at_ hat
        have hno := HNO.out
        have hds := drop_size s (at_ + 1)
        have hdr := ext_drop s (at_ + 1)
        have m1 := milli_bad hno
        have m2 := milli_b1 hno
        have m3 := milli_b2 hno
        have m4 := milli_b3 hno
        have m5 := milli_b4 hno
        rw [← hI0, data_len] at m2 m3 m4 m5
        rw [← hI0] at m1
        have hbl : (s.data.toList.drop (at_ + 1)).length = s.size - (at_ + 1) := by rw [List.length_drop, data_len]
        clear HD HST HE HNO hI hI0 hdl hno
        have htl : (s.data.toList.take at_).length ≤ at_ := List.length_take_le _ _
        generalize milliP s.data.toList = r at *
        generalize s.data.toList.take at_ = ta at *
        generalize s.data.toList.drop (at_ + 1) = b at *
        cases hok : okD ta
        · have HM := Lib.hid (m1 (.inl hok))
          rw [digR_no hok] at hd
          have HD := Lib.hid hd
          clear m1 m2 m3 m4 m5 hok hd hds hdr hbl
          go_wp2_with fail
          refine HD.out.mono ?_
          rintro e w1 ⟨rfl, rfl⟩
          go_wp2_with fail
          go_ret2
          exact RetNI.of (by rw [HM.out])
        · obtain ⟨d1, d2⟩ := digR_big (most := 1000000) hok
          generalize digR ta 1000000 = d at *
          obtain ⟨dn, dk⟩ := d
          dsimp only at d1 d2
          subst d1
          have HD := Lib.hid hd
          clear hd
          by_cases h6 : at_ ≤ 6
          · have hnl : num ta < 1000000 := Nat.lt_of_lt_of_le (num_lt' ta (okD_all hok)) (Nat.pow_le_pow_right (by omega) (show ta.length ≤ 6 by omega))
            obtain rfl : dn = num ta := by omega
            clear d2 htl
            by_cases hp : at_ < s.size
            · clear m5 m1
              go_wp2_with fail
              refine HD.out.mono ?_
              rintro e w1 ⟨rfl, rfl⟩
              clear HD
              by_cases hb : b.length < 1 ∨ 3 < b.length
              · have HM := Lib.hid (m2 hp hb)
                clear m2 m3 m4
                go_upto_region 21 with fail
                generalize s.extract (at_ + 1) s.size = tt at *
                have hds2 : tt.size < 1 ∨ (¬ tt.size < 1 ∧ 3 < tt.size) := by omega
                clear hb
                rcases hds2 with h1 | ⟨h1, h2⟩
                all_goals
                  go_wp2_with fail
                  go_ret2
                  exact RetNI.of (by rw [HM.out])
              · have hbd : 1 ≤ b.length ∧ b.length ≤ 3 := by omega
                have M3 := Lib.hid (m3 hp)
                have M4 := Lib.hid (m4 hp hok h6 hbd)
                clear m2 m3 m4 hb
                go_upto_region 21 with fail
                generalize s.extract (at_ + 1) s.size = tt at *
                rw [← hds] at hbl
                have htt1 : 1 ≤ tt.size := by omega
                have htt3 : tt.size ≤ 3 := by omega
                subst hdr
                clear hbd hds hbl
                go_upto_region 24 with fail
                go_loop [11, 13] (fun p i => ∃ k q : Nat, i = .int .i64 k ∧ k ≤ 3 ∧ p = .int .i64 q ∧ q < 1000 ∧ Hid (q = prt tt.data.toList k ∧ q < 10 ^ k ∧ ∀ j (hj : j < tt.size), j < k → isD tt[j] = true)) (fun _ i => 3 - (intOf i).toNat)
                case atStart => exact ⟨0, 0, rfl, by omega, rfl, by omega, by unfold prt; rfl, by omega, fun j hj hj2 => by omega⟩
                case round =>
                  obtain ⟨k, q, rfl, hk3, rfl, hq, hI⟩ := hrel
                  by_cases hlt : k < 3
                  · by_cases hin : k < tt.size
                    · have hbb := tt[k].toNat_lt
                      by_cases hdg : isD tt[k] = true
                      · have ⟨e1, e2⟩ := (isD_iff tt[k]).1 hdg
                        have hI2 : Hid (10 * q + (tt[k].toNat - 48) = prt tt.data.toList (k + 1) ∧ 10 * q + (tt[k].toNat - 48) < 10 ^ (k + 1) ∧ ∀ j (hj : j < tt.size), j < k + 1 → isD tt[j] = true) := by
                          obtain ⟨a1, a2, a3⟩ := hI.out
                          refine ⟨?_, by rw [Nat.pow_succ]; omega, fun j hj hj2 => ?_⟩
                          · have := prt_in tt.data.toList k hin
                            rw [byte_at tt k hin] at this
                            rw [this, a1]
                          · by_cases he : j = k
                            · subst he; exact hdg
                            · exact a3 j hj (by omega)
                        have hq2 : 10 * q + (tt[k].toNat - 48) < 1000 := Nat.lt_of_lt_of_le hI2.out.2.1 (Nat.pow_le_pow_right (by omega) (show k + 1 ≤ 3 by omega))
                        clear hI hdg
                        go_wp2_with fail
                        go_round
                        case rel => exact ⟨k + 1, 10 * q + (tt[k].toNat - 48), by go_num, by omega, by go_num, hq2, hI2.out⟩
                        case measure => simp [intOf]; omega
                      · have HM := Lib.hid (M3.out (by
                          rw [List.all_eq_false]
                          exact ⟨tt[k], by rw [← byte_at tt k hin]; exact List.getElem_mem _, hdg⟩))
                        have hd2 : (tt[k].toNat : Int) < 48 ∨ 57 < (tt[k].toNat : Int) := by
                          have : ¬ (48 ≤ (tt[k].toNat : Int) ∧ (tt[k].toNat : Int) ≤ 57) := fun h => hdg ((isD_iff tt[k]).2 h)
                          omega
                        clear hI hdg M3 M4
                        rcases hd2 with hd2 | hd2
                        all_goals
                          go_wp2_with fail
                          go_ret2
                          exact RetNI.of (by rw [HM.out])
                    · have hI2 : Hid (10 * q = prt tt.data.toList (k + 1) ∧ 10 * q < 10 ^ (k + 1) ∧ ∀ j (hj : j < tt.size), j < k + 1 → isD tt[j] = true) := by
                        obtain ⟨a1, a2, a3⟩ := hI.out
                        refine ⟨?_, by rw [Nat.pow_succ]; omega, fun j hj hj2 => a3 j hj (by omega)⟩
                        have := prt_out tt.data.toList k (by rw [data_len]; omega)
                        rw [this, a1]
                      have hq2 : 10 * q < 1000 := Nat.lt_of_lt_of_le hI2.out.2.1 (Nat.pow_le_pow_right (by omega) (show k + 1 ≤ 3 by omega))
                      clear hI
                      go_wp2_with fail
                      go_round
                      case rel => exact ⟨k + 1, 10 * q, by go_num, by omega, by go_num, hq2, hI2.out⟩
                      case measure => simp [intOf]; omega
                  · obtain rfl : k = 3 := by omega
                    have HM := Lib.hid (M4.out (by
                      rw [List.all_eq_true]
                      intro c hc
                      obtain ⟨j, hj, rfl⟩ := List.mem_iff_getElem.1 hc
                      exact hI.out.2.2 j hj (by have : j < tt.size := hj; omega)))
                    rw [← hI.out.1] at HM
                    clear M3 M4 hI
                    by_cases hbig : 1000 * (num ta : Int) + q > 1000000
                    · have HF := Lib.hid (fin_big hbig)
                      go_wp2_with fail
                      go_ret2
                      exact RetNI.of (by rw [HM.out, HF.out])
                    · have HF := Lib.hid (fin_ok hbig)
                      go_wp2_with fail
                      go_ret2
                      exact RetNI.of (by rw [HM.out, HF.out])
            · have HM := Lib.hid (m5 hp hok h6)
              clear m1 m2 m3 m4 m5
              by_cases hbig : 1000 * (num ta : Int) > 1000000
              · have HF := Lib.hid (fin_big hbig)
                go_wp2_with fail
                refine HD.out.mono ?_
                rintro e w1 ⟨rfl, rfl⟩
                go_wp2_with fail
                go_ret2
                exact RetNI.of (by rw [HM.out, HF.out])
              · have HF := Lib.hid (fin_ok hbig)
                go_wp2_with fail
                refine HD.out.mono ?_
                rintro e w1 ⟨rfl, rfl⟩
                go_wp2_with fail
                go_ret2
                exact RetNI.of (by rw [HM.out, HF.out])
          · have HM := Lib.hid (m1 (.inr (by omega)))
            clear m1 m2 m3 m4 m5 hok hds hdr hbl d2
            go_wp2_with fail
            refine HD.out.mono ?_
            rintro e w1 ⟨rfl, rfl⟩
            go_wp2_with fail
            go_ret2
            exact RetNI.of (by rw [HM.out])
      · obtain ⟨j, rfl⟩ : ∃ j, k = j + 1 := ⟨k - 1, by omega⟩
        rw [show ((j + 1 : Nat) : Int) - 1 = (j : Int) by omega]
        have hlt : j < s.size := by omega
        have hst := HST.out j hlt
        rw [byte_at s j hlt] at hst
        by_cases hc : s[j] = 46
        · rw [if_pos hc] at hst
          have HS2 := Lib.hid hst
          have hb := (u8_46 _).2 hc
          clear hst hc
          go_wp2_with fail
          go_round
          case rel => exact ⟨j, j, rfl, by omega, rfl, by omega, HS2.out.symm⟩
          case measure => simp [intOf]
        · rw [if_neg hc] at hst
          have HS2 := Lib.hid (hst.trans hI.out.symm)
          have hb : ¬ (s[j].toNat : Int) = 46 := fun h => hc ((u8_46 _).1 h)
          clear hst hc
          go_wp2_with fail
          go_round
          case rel => exact ⟨j, at_, rfl, by omega, rfl, hat, HS2.out.symm⟩
          case measure => simp [intOf]
theorem MilliR_any (s : ByteArray) (hs : s.size ≤ 100) (w : World) : Calls Tryd.prog 16 #[.string s] w (RetNI (milliP s.data.toList) w) := by
  by_cases h0 : s.size = 0
  · exact MilliR_no s hs (.inl h0) w
  · obtain ⟨m, hm⟩ : ∃ m, s.size = m + 1 := ⟨s.size - 1, by omega⟩
    by_cases h : s[m]'(by omega) = 109
    · exact MilliR_m s hs m hm h w
    · exact MilliR_no s hs (.inr ⟨m, hm, h⟩) w
end
end Go.Proofs.YticmfflnenoplaaDoor
