/- Amounts: ostleryref.Bytes: its walk. -/
import Derived.Test.YticmfflnenoplaaDoorAmK
namespace Go.Proofs.YticmfflnenoplaaDoor
open Go.RowKit Am
namespace Am
theorem digP_of {t : List UInt8} (hok : okD t = true) (hl : t.length ≤ 16) : digP t 16 = (num t, true) := digP_yes hok hl
theorem byteP_4 {t : List UInt8} (size : Nat) (h : okD t = false ∨ 16 < t.length) : byteP t size = (0, 4) := by
  unfold byteP
  rw [digP_no h]
  rfl
theorem byteP_1 {t : List UInt8} {size : Nat} (hok : okD t = true) (hl : t.length ≤ 16) (hb : num t > 1125899906842624 / size) : byteP t size = (0, 1) := by
  unfold byteP
  rw [digP_yes hok hl]
  simp [hb]
theorem byteP_0 {t : List UInt8} {size : Nat} (hok : okD t = true) (hl : t.length ≤ 16) (hb : ¬ num t > 1125899906842624 / size) : byteP t size = ((num t : Int) * size, 0) := by
  unfold byteP
  rw [digP_yes hok hl]
  simp [hb]
theorem suf_bytes (s : ByteArray) (m : Nat) (hm : s.size = m + 2) (c : UInt8) : Lib.hasSuffix s.data.toList [c, 105] = (decide ((s[m + 1]'(by omega)).toNat = 105) && decide ((s[m]'(by omega)).toNat = c.toNat)) := by
  rw [suf_iff]
  have hl : s.data.toList.length = m + 2 := hm
  rw [hl, show m + 2 - 1 = m + 1 by omega, show m + 2 - 2 = m by omega, List.getElem?_eq_getElem (by omega), List.getElem?_eq_getElem (by omega), decide_eq_true (show 1 < m + 2 by omega), Bool.true_and]
  rw [Bool.eq_iff_iff]
  simp only [Bool.and_eq_true, beq_iff_eq, Option.some.injEq, decide_eq_true_eq]
  constructor
  · rintro ⟨h1, h2⟩
    exact ⟨congrArg UInt8.toNat h1, congrArg UInt8.toNat h2⟩
  · rintro ⟨h1, h2⟩
    exact ⟨UInt8.toNat_inj.1 h1, UInt8.toNat_inj.1 h2⟩
theorem size_cases (s : ByteArray) : (s.size ≤ 1 ∧ sizeR s.data.toList = (1, s.size)) ∨ ∃ m, ∃ h : s.size = m + 2, (¬ ((s[m + 1]'(by omega)).toNat : Int) = 105 ∧ sizeR s.data.toList = (1, s.size)) ∨ (((s[m + 1]'(by omega)).toNat : Int) = 105 ∧
    ((((s[m]'(by omega)).toNat : Int) = 75 ∧ sizeR s.data.toList = (1024, m)) ∨ (((s[m]'(by omega)).toNat : Int) = 77 ∧ sizeR s.data.toList = (1048576, m)) ∨ (((s[m]'(by omega)).toNat : Int) = 71 ∧ sizeR s.data.toList = (1073741824, m)) ∨
    (((s[m]'(by omega)).toNat : Int) = 84 ∧ sizeR s.data.toList = (1099511627776, m)) ∨ (¬ ((s[m]'(by omega)).toNat : Int) = 75 ∧ ¬ ((s[m]'(by omega)).toNat : Int) = 77 ∧ ¬ ((s[m]'(by omega)).toNat : Int) = 71 ∧ ¬ ((s[m]'(by omega)).toNat : Int) = 84 ∧ sizeR s.data.toList = (1, s.size)))) := by
  by_cases h1 : s.size ≤ 1
  · refine .inl ⟨h1, ?_⟩
    have hl : s.data.toList.length = s.size := rfl
    unfold sizeR
    rw [suf_iff, suf_iff, suf_iff, suf_iff, hl, decide_eq_false (show ¬ 1 < s.size by omega)]
    simp
  · obtain ⟨m, hm⟩ : ∃ m, s.size = m + 2 := ⟨s.size - 2, by omega⟩
    refine .inr ⟨m, hm, ?_⟩
    have hl : s.data.toList.length = m + 2 := hm
    unfold sizeR
    rw [suf_bytes s m hm, suf_bytes s m hm, suf_bytes s m hm, suf_bytes s m hm, hl]
    simp only [show m + 2 - 2 = m by omega]
    generalize (s[m + 1]'(by omega)).toNat = a at *
    generalize (s[m]'(by omega)).toNat = b at *
    by_cases ha : a = 105
    · refine .inr ⟨by omega, ?_⟩
      subst ha
      rcases (show b = 75 ∨ b = 77 ∨ b = 71 ∨ b = 84 ∨ (b ≠ 75 ∧ b ≠ 77 ∧ b ≠ 71 ∧ b ≠ 84) by omega) with rfl | rfl | rfl | rfl | ⟨b1, b2, b3, b4⟩
      · exact .inl ⟨rfl, by simp⟩
      · exact .inr (.inl ⟨rfl, by simp⟩)
      · exact .inr (.inr (.inl ⟨rfl, by simp⟩))
      · exact .inr (.inr (.inr (.inl ⟨rfl, by simp⟩)))
      · exact .inr (.inr (.inr (.inr ⟨by omega, by omega, by omega, by omega, by simp [b1, b2, b3, b4, hm]⟩)))
    · exact .inl ⟨by omega, by simp [ha, hm]⟩
end Am
/-- What is left to do where the unit is known. -/
structure Rest (l : List UInt8) (t : List UInt8) (size n : Nat) : Prop where
  is : bytesP l = byteP t size
  len : t.length = n
  pos : 1 ≤ size ∧ size ≤ 1099511627776
theorem rest_of (s : ByteArray) (size n : Nat) (h : sizeR s.data.toList = (size, n)) (hn : n ≤ s.size) (hs : 1 ≤ size ∧ size ≤ 1099511627776) : Rest s.data.toList (s.data.toList.take n) size n :=
  ⟨by rw [bytes_way, h], by rw [List.length_take, data_len]; omega, hs⟩
section
attribute [local irreducible] digR num okD bytesP byteP sizeR
set_option maxRecDepth 100000 in
set_option maxHeartbeats 2000000 in
theorem BytesR_any (s : ByteArray) (hs : s.size ≤ 100) (w : World) : Calls Tryd.prog 18 #[.string s] w (RetNI (bytesP s.data.toList) w) := by
  have HD := Lib.hid (fun (k : Nat) (hk : k ≤ s.size) => digitsR_x s 0 k (s.data.toList.take k) (ext_take s k) (by rw [List.length_take, data_len]; omega) 1125899906842624 (by omega) w)
  have hc := size_cases s
  have HR := Lib.hid (rest_of s)
  go_enter Tryd.func18, Tryd.ntmps18
  go_upto_region 3 with fail
  go_cut [4, 5, 19] (fun z n c wx => ∃ b : Bool, z = .int .i64 1 ∧ n = .int .i64 s.size ∧ c = .bool b ∧ wx = w ∧ Hid (b = true ↔ ∃ m, ∃ h : s.size = m + 2, ((s[m + 1]'(by omega)).toNat : Int) = 105))
  case first =>
    rcases hc with ⟨h1, _⟩ | ⟨m, hm, h⟩
    · go_wp2_with fail
      go_meet
      exact ⟨false, rfl, rfl, rfl, rfl, Lib.hid ⟨fun h => (by cases h), fun ⟨m, h, _⟩ => (by omega)⟩⟩
    · have hi1 : (s.size : Int) - 1 = ((m + 1 : Nat) : Int) := by omega
      have hlt : m + 1 < s.size := by omega
      have hb : Hid (∀ b : Bool, b = decide (((s[m + 1]'(by omega)).toNat : Int) = 105) → (b = true ↔ ∃ m, ∃ h : s.size = m + 2, ((s[m + 1]'(by omega)).toNat : Int) = 105)) := Lib.hid (fun b e => by
        subst e
        rw [decide_eq_true_eq]
        constructor
        · exact fun h => ⟨m, hm, h⟩
        · rintro ⟨m', h', h2⟩
          obtain rfl : m' = m := by omega
          exact h2)
      clear h
      go_wp2_with fail
      go_meet
      exact ⟨_, rfl, by rw [hm]; rfl, rfl, rfl, hb.out _ (by rw [Bool.eq_iff_iff]; simp)⟩
  case rest =>
    obtain ⟨b, rfl, rfl, rfl, hw, hb⟩ := hcut
    have hw2 := hw.symm
    subst hw2
    go_upto_if 19 with fail
    go_cut [4, 5] (fun z n wx => ∃ sz k : Nat, z = .int .i64 sz ∧ n = .int .i64 k ∧ k ≤ s.size ∧ 1 ≤ sz ∧ sz ≤ 1099511627776 ∧ wx = w ∧ Hid (sizeR s.data.toList = (sz, k)))
    case first =>
      cases b
      · have hz : sizeR s.data.toList = (1, s.size) := by
          rcases hc with ⟨_, h⟩ | ⟨m, hm, ⟨_, h⟩ | ⟨h5, _⟩⟩
          · exact h
          · exact h
          · exact absurd (hb.out.2 ⟨m, hm, h5⟩) (by simp)
        have HZ := Lib.hid hz
        clear hz hc hb
        go_wp2_with fail
        go_meet
        exact ⟨1, s.size, rfl, rfl, by omega, by omega, by omega, rfl, HZ.out⟩
      · obtain ⟨m, hm, h5⟩ := hb.out.1 rfl
        have hz : (((s[m]'(by omega)).toNat : Int) = 75 ∧ sizeR s.data.toList = (1024, m)) ∨ (((s[m]'(by omega)).toNat : Int) = 77 ∧ sizeR s.data.toList = (1048576, m)) ∨ (((s[m]'(by omega)).toNat : Int) = 71 ∧ sizeR s.data.toList = (1073741824, m)) ∨
            (((s[m]'(by omega)).toNat : Int) = 84 ∧ sizeR s.data.toList = (1099511627776, m)) ∨ (¬ ((s[m]'(by omega)).toNat : Int) = 75 ∧ ¬ ((s[m]'(by omega)).toNat : Int) = 77 ∧ ¬ ((s[m]'(by omega)).toNat : Int) = 71 ∧ ¬ ((s[m]'(by omega)).toNat : Int) = 84 ∧ sizeR s.data.toList = (1, s.size)) := by
          rcases hc with ⟨h, _⟩ | ⟨m', hm', ⟨h, _⟩ | ⟨_, h⟩⟩
          · omega
          · obtain rfl : m' = m := by omega
            exact absurd h5 h
          · obtain rfl : m' = m := by omega
            exact h
        clear hc hb h5
        have hi2 : (s.size : Int) - 2 = (m : Int) := by omega
        have hlt : m < s.size := by omega
        rcases hz with ⟨h, hz⟩ | ⟨h, hz⟩ | ⟨h, hz⟩ | ⟨h, hz⟩ | ⟨ha, hb, hc, hd, hz⟩
        · have HZ := Lib.hid hz
          clear hz
          go_wp2_with fail
          go_meet
          exact ⟨1024, m, rfl, rfl, by omega, by omega, by omega, rfl, HZ.out⟩
        · have HZ := Lib.hid hz
          clear hz
          go_wp2_with fail
          go_meet
          exact ⟨1048576, m, rfl, rfl, by omega, by omega, by omega, rfl, HZ.out⟩
        · have HZ := Lib.hid hz
          clear hz
          go_wp2_with fail
          go_meet
          exact ⟨1073741824, m, rfl, rfl, by omega, by omega, by omega, rfl, HZ.out⟩
        · have HZ := Lib.hid hz
          clear hz
          go_wp2_with fail
          go_meet
          exact ⟨1099511627776, m, rfl, rfl, by omega, by omega, by omega, rfl, HZ.out⟩
        · have HZ := Lib.hid hz
          clear hz
          go_wp2_with fail
          go_meet
          exact ⟨1, s.size, rfl, by first | rfl | (rw [hm]; rfl), by omega, by omega, by omega, rfl, HZ.out⟩
    case rest =>
      obtain ⟨sz, k, rfl, rfl, hk, hz1, hz2, hw, HZ⟩ := hcut
      have hw2 := hw.symm
      subst hw2
      obtain ⟨r1, r2, r3⟩ := HR.out sz k HZ.out hk ⟨hz1, hz2⟩
      have hd := HD.out k hk
      clear HZ HR HD hc hb r3
      generalize bytesP s.data.toList = r at *
      generalize s.data.toList.take k = t at *
      cases hok : okD t
      · have HM := Lib.hid (r1.trans (byteP_4 sz (.inl hok)))
        rw [digR_no hok] at hd
        have HD := Lib.hid hd
        clear r1 r2 hok hd
        go_wp2_with fail
        refine HD.out.mono ?_
        rintro e w1 ⟨rfl, rfl⟩
        go_wp2_with fail
        go_ret2
        exact RetNI.of (by rw [HM.out])
      · obtain ⟨d1, d2⟩ := digR_big (most := 1125899906842624) hok
        generalize digR t 1125899906842624 = d at *
        obtain ⟨dn, dk⟩ := d
        dsimp only at d1 d2
        subst d1
        have HD := Lib.hid hd
        clear hd
        by_cases h16 : k ≤ 16
        · have hq := quo_max sz
          have hmx : 1125899906842624 / sz ≤ 1125899906842624 := Nat.div_le_self _ _
          by_cases hbig : num t > 1125899906842624 / sz
          · have HM := Lib.hid (r1.trans (byteP_1 hok (by omega) hbig))
            clear r1 r2 hok
            generalize 1125899906842624 / sz = mx at *
            have hbi : (dn : Int) > (mx : Int) := by omega
            clear d2 hbig
            go_wp2_with fail
            refine HD.out.mono ?_
            rintro e w1 ⟨rfl, rfl⟩
            go_wp2_with fail
            go_ret2
            exact RetNI.of (by rw [HM.out])
          · have HM := Lib.hid (r1.trans (byteP_0 hok (by omega) hbig))
            obtain rfl : dn = num t := by omega
            clear r1 r2 hok d2
            have hmul : num t * sz ≤ 1125899906842624 := Nat.le_trans (Nat.mul_le_mul_right sz (Nat.le_of_not_gt hbig)) (Nat.div_mul_le_self _ _)
            have hmi : (num t : Int) * (sz : Int) ≤ 1125899906842624 := by
              have := Int.ofNat_le.2 hmul
              rw [Int.natCast_mul] at this
              exact this
            have hm0 : 0 ≤ (num t : Int) * (sz : Int) := Int.mul_nonneg (by omega) (by omega)
            generalize 1125899906842624 / sz = mx at *
            have hbi : ¬ (num t : Int) > (mx : Int) := by omega
            generalize num t = dn at *
            clear hbig hmul
            go_wp2_with fail
            refine HD.out.mono ?_
            rintro e w1 ⟨rfl, rfl⟩
            go_wp2_with fail
            go_ret2
            exact RetNI.of (by rw [HM.out])
        · have HM := Lib.hid (r1.trans (byteP_4 sz (.inr (by omega))))
          clear r1 r2 hok d2
          go_wp2_with fail
          refine HD.out.mono ?_
          rintro e w1 ⟨rfl, rfl⟩
          go_wp2_with fail
          go_ret2
          exact RetNI.of (by rw [HM.out])
end
end Go.Proofs.YticmfflnenoplaaDoor
