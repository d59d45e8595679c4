/- Amounts: ostleryref.Milli: its walk. -/
import Derived.Test.YticmfflnenoplaaDoorAmH
import Derived.Test.YticmfflnenoplaaDoorAmI
import Derived.Lib.Strings
namespace Go.Proofs.YticmfflnenoplaaDoor
open Go.RowKit Am
def RetNI (r : Int × Int) (w : World) (e : Ending) (w' : World) : Prop := e = .returned (.tuple #[.int .i64 r.1, .int .i64 r.2]) ∧ w = w'
theorem RetNI.of {r : Int × Int} {n m : Int} {w : World} (h : r = (n, m)) : RetNI r w (.returned (.tuple #[.int .i64 n, .int .i64 m])) w := by
  subst h; exact ⟨rfl, rfl⟩
theorem ext_take (s : ByteArray) (k : Nat) : (s.extract 0 k).data.toList = s.data.toList.take k := by
  rw [Lib.extract_data, List.drop_zero, Nat.sub_zero]
theorem ext_drop (s : ByteArray) (k : Nat) : (s.extract k s.size).data.toList = s.data.toList.drop k := by
  rw [Lib.extract_data, List.take_of_length_le]
  rw [List.length_drop, data_len]
  omega
theorem digitsR_x (s : ByteArray) (a b : Nat) (t : List UInt8) (ht : (s.extract a b).data.toList = t) (hl : t.length ≤ 100) (most : Nat) (hm : most ≤ 1125899906842624) (w : World) : Calls Tryd.prog 35 #[.string (s.extract a b), .int .i64 most] w (RetDig (digR t most) w) := by
  have := digitsR_any (s.extract a b) (by
    show (s.extract a b).data.toList.length ≤ _
    rw [ht]; unfold maxLen; omega) most hm w
  rwa [ht] at this
namespace Am
theorem digR_big {t : List UInt8} {most : Nat} (h : okD t = true) : (digR t most).2 = true ∧ (digR t most).1 = min (num t) (most + 1) := by simp [digR, h]
theorem last_m {l : List UInt8} {m : Nat} (h : l.length = m + 1) (hl : l[m]'(by omega) = 109) : l = l.take m ++ [109] := by
  conv => lhs; rw [← List.take_append_drop m l, List.drop_eq_getElem_cons (by omega), hl, List.drop_of_length_le (by omega)]
theorem not_m {l : List UInt8} {m : Nat} (h : l.length = m + 1) (hl : l[m]'(by omega) ≠ 109) : l.getLast? ≠ some 109 := by
  rw [List.getLast?_eq_getElem?, h, Nat.add_sub_cancel, List.getElem?_eq_getElem (by omega)]
  intro he
  exact hl (Option.some.inj he)
theorem milli_bad {s : List UInt8} (h : s.getLast? ≠ some 109) (hb : okD (s.take (dot s)) = false ∨ 6 < dot s) : milliP s = (0, 4) := by
  have hd : dot s ≤ s.length := List.findIdx_le_length
  have : (okD (s.take (dot s)) && decide ((s.take (dot s)).length ≤ 6)) = false := by
    rcases hb with hb | hb
    · rw [hb]; rfl
    · rw [List.length_take, decide_eq_false (by omega)]; simp
  by_cases hp : dot s < s.length
  · rw [milli_point h hp, this]
    simp
  · rw [milli_plain h hp, this]
    simp
theorem milli_b1 {s : List UInt8} (h : s.getLast? ≠ some 109) (hp : dot s < s.length) (hb : (s.drop (dot s + 1)).length < 1 ∨ 3 < (s.drop (dot s + 1)).length) : milliP s = (0, 4) := by
  rw [milli_point h hp]
  have : (decide (1 ≤ (s.drop (dot s + 1)).length) && decide ((s.drop (dot s + 1)).length ≤ 3)) = false := by
    rcases hb with hb | hb
    · rw [decide_eq_false (show ¬ 1 ≤ (s.drop (dot s + 1)).length by omega)]; rfl
    · rw [decide_eq_false (show ¬ (s.drop (dot s + 1)).length ≤ 3 by omega)]; simp
  rw [this]
  simp
theorem milli_b2 {s : List UInt8} (h : s.getLast? ≠ some 109) (hp : dot s < s.length) (hb : (s.drop (dot s + 1)).all isD = false) : milliP s = (0, 4) := by
  rw [milli_point h hp, hb]
  simp
theorem milli_b3 {s : List UInt8} (h : s.getLast? ≠ some 109) (hp : dot s < s.length) (ha : okD (s.take (dot s)) = true) (h6 : dot s ≤ 6) (hb : 1 ≤ (s.drop (dot s + 1)).length ∧ (s.drop (dot s + 1)).length ≤ 3) (hd : (s.drop (dot s + 1)).all isD = true) :
    milliP s = fin (1000 * (num (s.take (dot s)) : Int) + (prt (s.drop (dot s + 1)) 3 : Nat)) true := by
  rw [milli_point h hp, ha, hd, decide_eq_true hb.1, decide_eq_true hb.2, List.length_take, decide_eq_true (show min (dot s) s.length ≤ 6 by omega)]
  simp
theorem milli_b4 {s : List UInt8} (h : s.getLast? ≠ some 109) (hp : ¬ dot s < s.length) (ha : okD (s.take (dot s)) = true) (h6 : dot s ≤ 6) : milliP s = fin (1000 * (num (s.take (dot s)) : Int)) true := by
  rw [milli_plain h hp, ha, List.length_take, decide_eq_true (show min (dot s) s.length ≤ 6 by omega)]
  simp
theorem dot_step (l : List UInt8) (j : Nat) (h : j < l.length) : j + dot (l.drop j) = if l[j] = 46 then j else j + 1 + dot (l.drop (j + 1)) := by
  rw [List.drop_eq_getElem_cons h]
  unfold dot
  rw [List.findIdx_cons]
  by_cases hc : l[j] = 46
  · simp [hc]
  · have : (l[j] == 46) = false := by rw [beq_eq_false_iff_ne]; exact hc
    rw [this, if_neg hc]
    simp
    omega
theorem dot_end (l : List UInt8) : dot (l.drop l.length) = 0 := by simp [dot]
theorem prt_lt (b : List UInt8) (hb : ∀ c, c ∈ b → c.toNat ≤ 57) (i : Nat) : prt b i < 10 ^ i := by
  induction i with
  | zero => simp [prt]
  | succ i ih =>
    by_cases h : i < b.length
    · have := hb b[i] (List.getElem_mem _)
      rw [prt_in b i h, Nat.pow_succ]
      omega
    · rw [prt_out b i (by omega), Nat.pow_succ]
      omega
end Am
theorem u8_46 (c : UInt8) : (c.toNat : Int) = 46 ↔ c = 46 := by
  constructor
  · intro h
    exact UInt8.toNat_inj.1 (by simpa using (by omega : c.toNat = 46))
  · rintro rfl; rfl
theorem u8_109 (c : UInt8) : (c.toNat : Int) = 109 ↔ c = 109 := by
  constructor
  · intro h
    exact UInt8.toNat_inj.1 (by simpa using (by omega : c.toNat = 109))
  · rintro rfl; rfl
section
attribute [local irreducible] digR num okD isD milliP fin prt dot
set_option maxHeartbeats 1000000 in
theorem MilliR_m (s : ByteArray) (hs : s.size ≤ 100) (m : Nat) (hm : s.size = m + 1) (h109 : s[m]'(by omega) = 109) (w : World) : Calls Tryd.prog 16 #[.string s] w (RetNI (milliP s.data.toList) w) := by
  have hmi := milli_m _ (last_m (l := s.data.toList) (m := m) hm h109)
  have hb := (u8_109 _).2 h109
  have hlen : (s.data.toList.take m).length = m := by rw [List.length_take, data_len]; omega
  have HD := Lib.hid (digitsR_x s 0 m (s.data.toList.take m) (ext_take s m) (by omega) 1000000 (by omega) w)
  rw [hlen] at hmi
  generalize s.data.toList.take m = t at *
  have hlt : m < s.size := by omega
  clear h109 hlen
  cases hok : okD t
  · rw [hok] at hmi
    rw [digR_no hok] at HD
    have HM := Lib.hid hmi
    clear hmi hok
    go_enter Tryd.func16, Tryd.ntmps16
    go_wp2_with fail
    refine HD.out.mono ?_
    rintro e w1 ⟨rfl, rfl⟩
    go_wp2_with fail
    go_ret2
    exact RetNI.of (by rw [HM.out]; rfl)
  · obtain ⟨d1, d2⟩ := digR_big (most := 1000000) hok
    rw [hok] at hmi
    generalize digR t 1000000 = d at *
    obtain ⟨dn, dk⟩ := d
    dsimp only at d1 d2
    subst d1
    by_cases h9 : m ≤ 9
    · rw [decide_eq_true h9] at hmi
      have HM := Lib.hid hmi
      clear hmi hok
      by_cases hbig : 1000000 < num t
      · have HF := Lib.hid (fin_big (n := num t) (by omega))
        have : dn = 1000001 := by omega
        clear d2
        go_enter Tryd.func16, Tryd.ntmps16
        go_wp2_with fail
        refine HD.out.mono ?_
        rintro e w1 ⟨rfl, rfl⟩
        go_wp2_with fail
        go_ret2
        exact RetNI.of (by rw [HM.out]; simp [HF.out])
      · have HF := Lib.hid (fin_ok (n := num t) (by omega))
        obtain rfl : dn = num t := by omega
        clear d2
        go_enter Tryd.func16, Tryd.ntmps16
        go_wp2_with fail
        refine HD.out.mono ?_
        rintro e w1 ⟨rfl, rfl⟩
        go_wp2_with fail
        go_ret2
        exact RetNI.of (by rw [HM.out]; simp [HF.out])
    · rw [decide_eq_false h9] at hmi
      have HM := Lib.hid hmi
      clear hmi hok d2
      go_enter Tryd.func16, Tryd.ntmps16
      go_wp2_with fail
      refine HD.out.mono ?_
      rintro e w1 ⟨rfl, rfl⟩
      go_wp2_with fail
      go_ret2
      exact RetNI.of (by rw [HM.out]; rfl)
end
end Go.Proofs.YticmfflnenoplaaDoor
