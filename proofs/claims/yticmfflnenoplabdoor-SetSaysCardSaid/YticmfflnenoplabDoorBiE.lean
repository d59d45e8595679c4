/- Sets of processors: the reference's text, Inside, Count: their walks. No statement is proved here. -/
import Derived.Test.YticmfflnenoplabDoorBiD
namespace Go.Proofs.YticmfflnenoplabDoor
open Go.RowKit Go.Deep Pop Bi
namespace Bi
theorem map_nil_iff {ps : List (Nat × Nat)} : (ps.map spanT = []) ↔ ps = [] := List.map_eq_nil_iff
theorem itoa_pos (n : Nat) (h : n < 64) : 0 < (Lib.itoa (n : Int)).length := by
  rw [Am.itoa_nat]
  rcases Nat.eq_zero_or_pos (Lib.decDigits n).length with h | h
  · have := List.length_eq_zero_iff.1 h
    have h2 : ∀ m : Nat, m < 64 → Lib.decDigits m ≠ [] := by decide +kernel
    exact absurd this (h2 n (by assumption))
  · exact h
theorem spanT_pos {p : Nat × Nat} (h : p.1 < 64) : 0 < (spanT p).length := by
  have := itoa_pos p.1 h
  unfold spanT
  rw [List.length_append]
  omega
theorem join_pos {ps : List (Nat × Nat)} (hp : ∀ p ∈ ps, p.1 < 64 ∧ p.2 < 64) (h : ps ≠ []) : 0 < (Lib.join (ps.map spanT) [44]).length := by
  cases ps with
  | nil => exact absurd rfl h
  | cons p ps =>
    have h1 := spanT_pos (hp p (by simp)).1
    cases ps with
    | nil => simpa [Lib.join, List.intercalate] using h1
    | cons q ps =>
      have e : Lib.join ((p :: q :: ps).map spanT) [44] = spanT p ++ 44 :: Lib.join ((q :: ps).map spanT) [44] := by simp [Lib.join, List.intercalate]
      rw [e, List.length_append]
      omega
/-- The text so far, and one more span. -/
theorem text_more {ps : List (Nat × Nat)} {p : Nat × Nat} : Lib.join ((ps ++ [p]).map spanT) [44] = if ps = [] then spanT p else Lib.join (ps.map spanT) [44] ++ 44 :: spanT p := by
  rw [List.map_append, List.map_cons, List.map_nil, join_snoc]
  simp only [map_nil_iff]
end Bi
theorem str_isE (l : List UInt8) (h : 0 < l.length) : ((⟨l.toArray⟩ : ByteArray).toList.isEmpty) = false := by
  rw [ByteArray.toList_eq]
  cases l with
  | nil => simp at h
  | cons a l => rfl
theorem tx_one {T : ByteArray} {J : List UInt8} (b : UInt8) (t : List UInt8) (hT : T = ⟨J.toArray⟩) : (T ++ ⟨#[b]⟩) ++ ⟨t.toArray⟩ = ⟨(J ++ b :: t).toArray⟩ := by
  rw [hT, show (⟨#[b]⟩ : ByteArray) = ⟨[b].toArray⟩ from rfl, str_app, str_app]
  simp
theorem tx_nil (t : List UInt8) : (⟨#[]⟩ : ByteArray) ++ ⟨t.toArray⟩ = ⟨t.toArray⟩ := by
  rw [show (⟨#[]⟩ : ByteArray) = ⟨([] : List UInt8).toArray⟩ from rfl, str_app]
  rfl
theorem str_size (l : List UInt8) : (⟨l.toArray⟩ : ByteArray).size = l.length := rfl
section
attribute [local irreducible] inS spans endR spanT Lib.itoa Lib.join
set_option maxRecDepth 100000 in
set_option maxHeartbeats 4000000 in
theorem SetText_any (x : Nat) (hx : x < 18446744073709551616) (w : World) : Calls Tryd.prog 17 #[.int .u64 x] w (RetT (textP x) w) := by
  have HX := Lib.hid hx
  have hx0 : (0 : Int) ≤ x := by omega
  have hx1 : (x : Int) ≤ 18446744073709551615 := by omega
  have HTP : Hid (textP x = Lib.join ((spans x 0).map spanT) [44]) := Lib.hid (by unfold textP; rfl)
  have HS0 : Hid (spans x 0 = [] ++ spans x 0) := Lib.hid rfl
  have HJ0 : Hid ((⟨#[]⟩ : ByteArray) = ⟨(Lib.join (([] : List (Nat × Nat)).map spanT) [44]).toArray⟩) := Lib.hid (by unfold Lib.join; rfl)
  clear hx
  go_enter Tryd.func17, Tryd.ntmps17
  go_wp2_with fail
  go_loopw [3, 4] (fun t n wi => ∃ (m : Nat) (ps : List (Nat × Nat)) (T : ByteArray), n = .int .i64 m ∧ m ≤ 64 ∧ t = .string T ∧ Hid (spans x 0 = ps ++ spans x m) ∧ ps.length ≤ m ∧ Hid (T = ⟨(Lib.join (ps.map spanT) [44]).toArray⟩) ∧ Hid (∀ p ∈ ps, p.1 < 64 ∧ p.2 < 64) ∧ Below w.heap.size w wi) (fun _ n _ => 64 - (intOf n).toNat)
  case atStart => exact ⟨0, [], ⟨#[]⟩, rfl, by omega, rfl, HS0, by simp, HJ0, Lib.hid (fun p hp => by cases hp), Below.refl _ _⟩
  case round =>
    clear HS0 HJ0
    obtain ⟨m, ps, T, rfl, hm, rfl, HS, hps, HT, HP, hb⟩ := hrel
    by_cases hlt : m < 64
    · have hbt := u64_bitp x m HX.out
      have hm64 : (m : Int) < 64 := by omega
      cases hi : inS x m
      · have HN : Hid (spans x 0 = ps ++ spans x (m + 1)) := Lib.hid (by rw [HS.out, spans_no hlt hi])
        rw [inS_no.1 hi] at hbt
        clear hi HS
        go_wp2_with fail
        go_roundw
        case rel => exact ⟨m + 1, ps, T, by go_num, by omega, rfl, HN, by omega, HT, HP, hb⟩
        case measure => simp [intOf]; omega
      · have HY : Hid (spans x 0 = (ps ++ [(m, endR x m)]) ++ spans x (endR x m + 1)) := Lib.hid (by rw [HS.out, spans_yes hlt hi, List.append_assoc]; rfl)
        rw [inS_iff.1 hi] at hbt
        clear hi HS
        go_wp2_with fail
        clear hbt
        go_loop [5] (fun n => ∃ k : Nat, n = .int .i64 k ∧ m ≤ k ∧ k < 64 ∧ Hid (endR x m = endR x k)) (fun n => 64 - (intOf n).toNat)
        case atStart => exact ⟨m, rfl, by omega, hlt, Lib.hid rfl⟩
        case round =>
          obtain ⟨k, rfl, hmk, hk, HE⟩ := hrel
          have hfin : ∀ (_ : endR x m = k), True := fun _ => trivial
          clear hfin
          have hbt := u64_bitp x (k + 1) HX.out
          have hk0 : (0 : Int) ≤ (k : Int) + 1 := by omega
          have hk64 : (k : Int) + 1 ≤ 64 := by omega
          cases hi : inS x (k + 1)
          · have HEE : Hid (endR x m = k) := Lib.hid (HE.out.trans (endR_no hi))
            rw [inS_no.1 hi] at hbt
            have hl1 := itoa2 hlt
            have hl2 := itoa2 hk
            have HD1 := Lib.hid (fun W => Decimal_any m (by omega) W)
            have HD2 := Lib.hid (fun W => Decimal_any k (by omega) W)
            have HI1 := Lib.hid (Am.itoa_nat m)
            have HI2 := Lib.hid (Am.itoa_nat k)
            rw [HI1.out] at hl1
            rw [HI2.out] at hl2
            have HT1 := Lib.hid (fun (h : endR x m ≤ m) => spanT_one (p := (m, endR x m)) h)
            have HT2 := Lib.hid (fun (h : m < endR x m) => spanT_two (p := (m, endR x m)) h)
            rw [HEE.out] at HT1 HT2 HY
            have HPN : Hid (∀ p ∈ ps ++ [(m, k)], p.1 < 64 ∧ p.2 < 64) := Lib.hid (by
              intro p hp
              rcases List.mem_append.1 hp with hp | hp
              · exact HP.out p hp
              · obtain rfl := List.mem_singleton.1 hp
                exact ⟨hlt, hk⟩)
            have HLN : Hid ((ps ++ [(m, k)]).length = ps.length + 1) := Lib.hid (by simp)
            have HMO := Lib.hid (text_more (ps := ps) (p := (m, k)))
            have hTs : T.size ≤ 400 := by rw [HT.out, str_size]; have := join_len HP.out; omega
            clear hi HE HEE
            dsimp only at HT1 HT2
            rw [HI1.out] at HT1 HT2
            rw [HI2.out] at HT2
            by_cases hps0 : ps = []
            · by_cases hkm : m < k
              · skip
                obtain rfl := hps0
                obtain rfl : T = ⟨#[]⟩ := HT.out.trans (by unfold Lib.join; rfl)
                have HM2 := Lib.hid (HMO.out.trans (if_pos rfl))
                have HTT := Lib.hid (HT2.out hkm)
                clear HT1 HT2 HMO
                obtain ⟨t2, ht2⟩ : ∃ t2, t2 = Lib.decDigits k := ⟨_, rfl⟩
                rw [← ht2] at hl2 HTT HD2
                obtain ⟨t1, ht1⟩ : ∃ t1, t1 = Lib.decDigits m := ⟨_, rfl⟩
                rw [← ht1] at hl1 HTT HD1
                clear ht1 ht2 HI1 HI2
                go_wp2_with fail
                all_goals
                  refine (HD1.out _).mono ?_
                  rintro e w5 ⟨rfl, hb5⟩
                  have hb5' := hb.trans (hb5.mono hb.size)
                  clear hb5 hb hbt
                  go_wp2_with fail
                  refine (HD2.out _).mono ?_
                  rintro e w6 ⟨rfl, hb6⟩
                  have hb6' := hb5'.trans (hb6.mono hb5'.size)
                  clear hb6 hb5'
                  go_wp2_with fail
                  go_roundw
                  case rel => exact ⟨k + 1, [] ++ [(m, k)], _, by go_num, by omega, rfl, HY, by rw [HLN.out]; omega, Lib.hid (by first | exact ((tx_one 45 t2 (tx_nil t1)).trans (by rw [HM2.out, HTT.out])) | exact ((tx_one 45 t2 (J := t1) rfl).trans (by rw [HM2.out, HTT.out]))), HPN, hb6'⟩
                  case measure => simp [intOf]; omega
              · skip
                obtain rfl := hps0
                obtain rfl : T = ⟨#[]⟩ := HT.out.trans (by unfold Lib.join; rfl)
                have HM2 := Lib.hid (HMO.out.trans (if_pos rfl))
                obtain rfl : k = m := by omega
                have HTT := Lib.hid (HT1.out (Nat.le_refl _))
                clear HT1 HT2 HMO
                obtain ⟨t1, ht1⟩ : ∃ t1, t1 = Lib.decDigits k := ⟨_, rfl⟩
                rw [← ht1] at hl1 HTT HD1
                clear ht1 HI1 HI2 HD2 hl2 hkm
                go_wp2_with fail
                all_goals
                  refine (HD1.out _).mono ?_
                  rintro e w5 ⟨rfl, hb5⟩
                  have hb5' := hb.trans (hb5.mono hb.size)
                  clear hb5 hb hbt
                  go_wp2_with fail
                  go_roundw
                  case rel => exact ⟨k + 1, [] ++ [(k, k)], _, by go_num, by omega, rfl, HY, by rw [HLN.out]; omega, Lib.hid (by first | exact ((tx_nil t1).trans (by rw [HM2.out, HTT.out])) | rw [HM2.out, HTT.out]), HPN, hb5'⟩
                  case measure => simp [intOf]; omega
            · by_cases hkm : m < k
              · skip
                have hTe : T.toList.isEmpty = false := by rw [HT.out]; exact str_isE _ (join_pos HP.out hps0)
                have hTn : (T.toList == []) = false := by cases hh : T.toList <;> simp_all
                have hTm : ¬ T.toList = [] := by intro hh; rw [hh] at hTe; cases hTe
                have HM2 := Lib.hid (HMO.out.trans (if_neg hps0))
                have HTT := Lib.hid (HT2.out hkm)
                clear HT1 HT2 HMO
                obtain ⟨t2, ht2⟩ : ∃ t2, t2 = Lib.decDigits k := ⟨_, rfl⟩
                rw [← ht2] at hl2 HTT HD2
                obtain ⟨t1, ht1⟩ : ∃ t1, t1 = Lib.decDigits m := ⟨_, rfl⟩
                rw [← ht1] at hl1 HTT HD1
                clear ht1 ht2 HI1 HI2
                clear hps0
                go_wp2_with fail
                all_goals
                  refine (HD1.out _).mono ?_
                  rintro e w5 ⟨rfl, hb5⟩
                  have hb5' := hb.trans (hb5.mono hb.size)
                  clear hb5 hb hbt
                  go_wp2_with fail
                  refine (HD2.out _).mono ?_
                  rintro e w6 ⟨rfl, hb6⟩
                  have hb6' := hb5'.trans (hb6.mono hb5'.size)
                  clear hb6 hb5'
                  go_wp2_with fail
                  go_roundw
                  case rel => exact ⟨k + 1, ps ++ [(m, k)], _, by go_num, by omega, rfl, HY, by rw [HLN.out]; omega, Lib.hid ((tx_one 45 t2 (tx_one 44 t1 HT.out)).trans (by rw [HM2.out, HTT.out]; simp)), HPN, hb6'⟩
                  case measure => simp [intOf]; omega
              · skip
                have hTe : T.toList.isEmpty = false := by rw [HT.out]; exact str_isE _ (join_pos HP.out hps0)
                have hTn : (T.toList == []) = false := by cases hh : T.toList <;> simp_all
                have hTm : ¬ T.toList = [] := by intro hh; rw [hh] at hTe; cases hTe
                have HM2 := Lib.hid (HMO.out.trans (if_neg hps0))
                obtain rfl : k = m := by omega
                have HTT := Lib.hid (HT1.out (Nat.le_refl _))
                clear HT1 HT2 HMO
                obtain ⟨t1, ht1⟩ : ∃ t1, t1 = Lib.decDigits k := ⟨_, rfl⟩
                rw [← ht1] at hl1 HTT HD1
                clear ht1 HI1 HI2 HD2 hl2 hkm
                clear hps0
                go_wp2_with fail
                all_goals
                  refine (HD1.out _).mono ?_
                  rintro e w5 ⟨rfl, hb5⟩
                  have hb5' := hb.trans (hb5.mono hb.size)
                  clear hb5 hb hbt
                  go_wp2_with fail
                  go_roundw
                  case rel => exact ⟨k + 1, ps ++ [(k, k)], _, by go_num, by omega, rfl, HY, by rw [HLN.out]; omega, Lib.hid ((tx_one 44 t1 HT.out).trans (by rw [HM2.out, HTT.out])), HPN, hb5'⟩
                  case measure => simp [intOf]; omega
          · have HEN := Lib.hid (HE.out.trans (endR_yes HX.out hi))
            have hk63 : k + 1 < 64 := by
              rcases Nat.lt_or_ge (k + 1) 64 with h | h
              · exact h
              · rw [bit_high HX.out h] at hi; cases hi
            have hk62 : (k : Int) < 63 := by omega
            rw [inS_iff.1 hi] at hbt
            clear hi
            go_wp2_with fail
            go_round
            case rel => exact ⟨k + 1, by go_num, by omega, hk63, HEN⟩
            case measure => simp [intOf]; omega
    · obtain rfl : m = 64 := by omega
      have HE : Hid (spans x 0 = ps) := Lib.hid (by rw [HS.out, spans_end (by omega), List.append_nil])
      have HTF := HT.out
      subst HTF
      go_wp2_with fail
      go_ret
      exact RetT.of (by rw [HTP.out, HE.out]) hb
end
end Go.Proofs.YticmfflnenoplabDoor
