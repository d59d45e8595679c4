/- Sets of processors: the reference's reading: its walk. No statement is proved here. -/
import Derived.Test.YticmfflnenoplabDoorBiT
namespace Go.Proofs.YticmfflnenoplabDoor
open Go.RowKit Go.Deep Pop Bi Am
theorem digR_at (a : List UInt8) : (digR a 1000).1 ≤ 1001 ∧ okD a = (digR a 1000).2 ∧ (okD a = true → (digR a 1000).1 = min (num a) 1001) := by
  rw [digR_is]
  cases okD a
  · exact ⟨Nat.zero_le _, rfl, fun h => by cases h⟩
  · exact ⟨Nat.min_le_right _ _, rfl, fun _ => rfl⟩
theorem gtB_num {a b : List UInt8} (hl : a.length = b.length) (ha : okD a = true) (hb : okD b = true) : (!Op.bytesLess a b && !a == b) = decide (num b < num a) := by
  rw [less_num hl ha hb]
  rcases Nat.lt_trichotomy (num a) (num b) with h | h | h
  · rw [decide_eq_true h, decide_eq_false (by omega)]; rfl
  · have he : a = b := by rw [← dec_num _ a rfl ha, ← dec_num _ b rfl hb, h]
    subst he
    simp
  · have he : ¬ a = b := fun e => by subst e; omega
    have he2 : (a == b) = false := by simp [he]
    rw [decide_eq_false (by omega), decide_eq_true h, he2]; rfl
theorem and4 : ∀ o1 o2 i1 i2 : Bool, (o1 && o2 && (i1 && i2)) = false → (o1 && i1) = false ∨ (o2 && i2) = false := by decide
def RetUIB (r : Nat × Int) (w : World) (e : Ending) (w' : World) : Prop := e = .returned (.tuple #[.int .u64 r.1, .int .i64 r.2]) ∧ Below w.heap.size w w'
theorem RetUIB.of {r : Nat × Int} {a : Nat} {f : Int} {w w' : World} (h : r = (a, f)) (hb : Below w.heap.size w w') : RetUIB r w (.returned (.tuple #[.int .u64 a, .int .i64 f])) w' := by
  subst h; exact ⟨rfl, hb⟩
theorem u8_45 (c : UInt8) : (c.toNat : Int) = 45 ↔ c = 45 := by
  rw [← UInt8.toNat_inj]
  show _ ↔ c.toNat = 45
  omega
section
attribute [local irreducible] numB num goW orR wordA wordB parseP wordsP Lib.cut DashI okD intB strsV digR Op.bytesLess
set_option maxRecDepth 100000 in
set_option maxHeartbeats 8000000 in
theorem ReadSet_any (s : ByteArray) (hs : s.size ≤ 7000) (w : World) : Calls Tryd.prog 19 #[.string s] w (RetUIB (parseP s.data.toList) w) := by
  by_cases h3 : 300 < s.size
  · have HF : Hid (parseP s.data.toList = (0, 2)) := Lib.hid (by unfold parseP; rw [if_pos (by rw [size_data]; exact h3)])
    go_enter Tryd.func19, Tryd.ntmps19
    go_wp2_with fail
    go_ret2
    exact RetUIB.of HF.out (Below.refl _ _)
  by_cases h0 : s.size = 0
  · have hnil : s.data.toList = [] := List.length_eq_zero_iff.1 h0
    have HF : Hid (parseP s.data.toList = (0, 0)) := Lib.hid (by unfold parseP; rw [if_neg (by rw [size_data]; omega), if_pos hnil])
    obtain rfl : s = ⟨#[]⟩ := Go.WideShapes.bytes_inj (by rw [hnil])
    go_enter Tryd.func19, Tryd.ntmps19
    go_wp2_with fail
    go_ret2
    exact RetUIB.of HF.out (Below.refl _ _)
  have hne : s.data.toList ≠ [] := fun h => h0 (by rw [← size_data, h]; rfl)
  have HP : Hid (parseP s.data.toList = goW 0 (wordsP s.data.toList)) := Lib.hid (by unfold parseP; rw [if_neg (by rw [size_data]; omega), if_neg hne])
  have hE : s.toList.isEmpty = false := by rw [data_list]; cases hh : s.data.toList with
    | nil => exact absurd hh hne
    | cons a l => rfl
  have hE2 : ¬ s.toList = [] := by rw [data_list]; exact hne
  have HW := Lib.hid (words_any s (by omega) w)
  have HWN := Lib.hid (wordsP_ne s.data.toList)
  go_enter Tryd.func19, Tryd.ntmps19
  go_wp2_with fail
  refine HW.out.mono ?_
  intro e w1 hP
  have hP2 : WordsR s w e w1 := hP
  obtain ⟨A, c, D, rfl, hD, hDl, hDs, hO, hb1⟩ := hP2
  obtain ⟨A', c', e1, hc1, hc2, h4⟩ := own_form hO
  simp only [Value.slice.injEq, true_and] at e1
  obtain ⟨rfl, rfl⟩ := e1
  have hD0 : 0 < D.length := by
    cases D with
    | nil => exact absurd hD.symm HWN.out
    | cons d D => simp
  obtain ⟨g, rfl, hg, _⟩ := h4 hD0
  have HP0 : Hid (parseP s.data.toList = goW 0 ((D.map fun b : ByteArray => b.data.toList).drop 0)) := Lib.hid (by rw [HP.out, ← hD]; rfl)
  have HO := Lib.hid hO
  have HDS := Lib.hid hDl
  clear hP HW HWN HP hO hne hE hE2 h4 hD hDl
  go_wp2_with fail
  go_loopw [4, 6] (fun o i wi => ∃ (k a : Nat), i = .int .i64 k ∧ k ≤ D.length ∧ o = .int .u64 a ∧ a < 18446744073709551616 ∧ Hid (parseP s.data.toList = goW a ((D.map fun b : ByteArray => b.data.toList).drop k)) ∧ wi = w1) (fun _ i _ => D.length - (intOf i).toNat)
  case atStart => exact ⟨0, 0, rfl, by omega, rfl, by omega, HP0, rfl⟩
  case round =>
    clear HP0
    obtain ⟨k, a, rfl, hk, rfl, ha, HG, rfl⟩ := hrel
    by_cases hlt : k < D.length
    · have g0 : wr.cell? ⟨g, k, none⟩ = some (.string D[k]) := by
        have := HO.out.cellAt k (by omega)
        rw [this]
        simp [strsV, hlt]
      have hwd := HDS.out D[k] (List.getElem_mem hlt)
      have hkm : k < (D.map fun b : ByteArray => b.data.toList).length := by simpa using hlt
      have hel : (D.map fun b : ByteArray => b.data.toList)[k] = D[k].data.toList := by simp
      have hbad := fun h => goW_bad hkm HG.out h
      have hfar := fun h1 h2 h3 h4 => goW_far hkm HG.out h1 h2 h3 h4
      have hnex := fun h1 h2 h3 h4 => goW_next hkm HG.out h1 h2 h3 h4
      rw [hel] at hbad hfar hnex
      generalize D[k] = wd at *
      have HBAD := Lib.hid hbad
      have HFAR := Lib.hid hfar
      have HNEX := Lib.hid hnex
      clear hbad hfar hnex hkm hel HG
      have HD0 := Lib.hid (dash_start wd.data.toList)
      go_wp2_with fail
      go_loop [7, 8] (fun d j => ∃ (n : Nat) (v : Int), j = .int .i64 ((n : Int) - 1) ∧ n ≤ wd.size ∧ d = .int .i64 v ∧ Hid (DashI wd.data.toList n v)) (fun _ j => (intOf j + 1).toNat)
      case atStart => exact ⟨wd.size, -1, rfl, by omega, rfl, HD0⟩
      case round =>
        clear HD0
        obtain ⟨n, v, rfl, hn, rfl, HDI⟩ := hrel
        by_cases hn0 : 0 < n
        · obtain ⟨m, rfl⟩ : ∃ m, n = m + 1 := ⟨n - 1, by omega⟩
          have hm1 : (m : Int) < wd.size := by omega
          have hme : ((m + 1 : Nat) : Int) - 1 = (m : Int) := by omega
          rw [hme]
          have hml : m < wd.data.toList.length := by rw [size_data]; omega
          have hel : wd.data.toList[m] = wd[m] := rfl
          by_cases hc : wd.data.toList[m] = 45
          · have HX := Lib.hid (dash_hit hml hc)
            have hq1 : ((wd[m].toNat : Int) == 45) = true := by rw [(u8_45 wd[m]).2 hc]; rfl
            clear hc hel HDI
            go_wp2_with fail
            go_round
            case rel => exact ⟨m, (m : Int), rfl, by omega, rfl, HX⟩
            case measure => simp [intOf]
          · have HX := Lib.hid (dash_go HDI.out hml hc)
            have hq1 : ((wd[m].toNat : Int) == 45) = false := by simp; exact fun h => hc ((u8_45 wd[m]).1 h)
            clear hc hel HDI
            go_wp2_with fail
            go_round
            case rel => exact ⟨m, v, rfl, by omega, rfl, HX⟩
            case measure => simp [intOf]
        · obtain rfl : n = 0 := by omega
          have HDE := dash_end HDI.out
          go_upto_if 57 with fail
          go_cut [9, 10] (fun y z wx => ∃ a b : ByteArray, y = .string a ∧ z = .string b ∧ wx = wr ∧ a.size ≤ wd.size ∧ b.size ≤ wd.size ∧ Hid (a.data.toList = wordA wd.data.toList) ∧ Hid (b.data.toList = wordB wd.data.toList))
          case first =>
            have hsz := size_data wd
            rcases HDE with ⟨rfl, ha1, hb2⟩ | ⟨d, hd, rfl, ha1, hb2⟩
            · have H1 := Lib.hid ha1
              have H2 := Lib.hid hb2
              clear ha1 hb2 HDI
              go_wp2_with fail
              go_meet
              exact ⟨wd, wd, rfl, rfl, rfl, Nat.le_refl _, Nat.le_refl _, H1.out.symm, H2.out.symm⟩
            · have H1 := Lib.hid ha1
              have H2 := Lib.hid hb2
              have hd2 : (d : Int) < wd.size := by omega
              clear ha1 hb2 HDI
              go_wp2_with fail
              go_meet
              refine ⟨_, _, rfl, rfl, rfl, ?_, ?_, ?_, ?_⟩
              · rw [ByteArray.size_extract]; omega
              · rw [ByteArray.size_extract]; omega
              · refine Lib.hid ?_
                rw [H1.out, ext_data]
                simp
              · refine Lib.hid ?_
                rw [H2.out, ext_data, List.take_of_length_le (Nat.le_of_eq hsz)]
                try congr 1
          case rest =>
            obtain ⟨x, y, rfl, rfl, hwx, hx, hy, HXD, HYD⟩ := hcut
            have hw2 := hwx.symm
            subst hw2
            clear hwx
            clear HDE HDI g0
            have hv1 := digR_at x.data.toList
            have hv2 := digR_at y.data.toList
            have HD1 : Hid (Calls Tryd.prog 39 #[.string x, .int .i64 1000] wr (RetDig (digR x.data.toList 1000) wr)) := Lib.hid (by exact digitsR_any x (by unfold maxLen; omega) 1000 (by omega) wr)
            have HD2 : Hid (Calls Tryd.prog 39 #[.string y, .int .i64 1000] wr (RetDig (digR y.data.toList 1000) wr)) := Lib.hid (by exact digitsR_any y (by unfold maxLen; omega) 1000 (by omega) wr)
            have HI1 := Lib.hid (inInt_any x (by omega) wr)
            have HI2 := Lib.hid (inInt_any y (by omega) wr)
            have HAH : Hid (okD x.data.toList = true → okD y.data.toList = true → (decide (y.size < x.size) || (decide (x.size = y.size) && Op.bytesLess y.toList x.toList)) = decide (num y.data.toList < num x.data.toList)) := Lib.hid (fun h1 h2 => by
              have := ahead_num h1 h2
              unfold aheadB at this
              rw [size_data, size_data, ← data_list, ← data_list] at this
              rw [← data_list x, ← data_list y]
              exact this)
            have HGT : Hid (okD x.data.toList = true → okD y.data.toList = true → x.size = y.size → (!Op.bytesLess x.toList y.toList && !x.toList == y.toList) = decide (num y.data.toList < num x.data.toList)) := Lib.hid (fun h1 h2 h3 => by
              have := gtB_num h3 h1 h2
              rw [← data_list x, ← data_list y] at this
              rw [← data_list x, ← data_list y]
              exact this)
            have hn1 := numB_is x.data.toList
            have hn2 := numB_is y.data.toList
            rw [← HXD.out, ← HYD.out] at HBAD HFAR HNEX
            obtain ⟨q1, b1, hr1⟩ : ∃ q1 b1, digR x.data.toList 1000 = (q1, b1) := ⟨_, _, rfl⟩
            obtain ⟨q2, b2, hr2⟩ : ∃ q2 b2, digR y.data.toList 1000 = (q2, b2) := ⟨_, _, rfl⟩
            rw [hr1] at HD1 hv1
            rw [hr2] at HD2 hv2
            obtain ⟨hw1, rfl, hz1⟩ := hv1
            obtain ⟨hw2, rfl, hz2⟩ := hv2
            clear hr1 hr2 HXD HYD
            generalize numB x.data.toList = nb1 at *
            generalize numB y.data.toList = nb2 at *
            generalize okD x.data.toList = o1 at *
            generalize okD y.data.toList = o2 at *
            generalize intB x.data.toList = i1 at *
            generalize intB y.data.toList = i2 at *
            generalize num x.data.toList = m1 at *
            generalize num y.data.toList = m2 at *
            have HBA : Hid ((o1 && o2 && (i1 && i2)) = false → parseP s.data.toList = (0, 4)) := Lib.hid (fun h => HBAD.out (by
              rw [hn1, hn2]
              rcases and4 o1 o2 i1 i2 h with h | h
              · exact .inl h
              · exact .inr (.inl h)))
            have HN1 := Lib.hid hn1
            have HN2 := Lib.hid hn2
            have HW1 := Lib.hid hw1
            have HW2 := Lib.hid hw2
            have HZ1 := Lib.hid hz1
            have HZ2 := Lib.hid hz2
            clear hn1 hn2 hw1 hw2 hz1 hz2
            go_upto_region 21 with fail
            go_wp2_with fail
            refine HD1.out.mono ?_
            rintro e w2 ⟨rfl, rfl⟩
            go_wp2_with fail
            refine HD2.out.mono ?_
            rintro e w2 ⟨rfl, rfl⟩
            clear HD1 HD2
            go_upto_region 23 with fail
            go_cut [15] (fun v wx => v = .bool (i1 && i2) ∧ wx = wr)
            case first =>
              clear HBA HBAD HFAR HNEX HAH HGT HN1 HN2 HW1 HW2 HZ1 HZ2
              cases i1
              · go_wp2_with fail
                refine HI1.out.mono ?_
                rintro e w' ⟨rfl, hwx⟩
                rw [hwx]
                clear hwx HI1 HI2
                go_wp2_with fail
                go_meet
                exact ⟨rfl, rfl⟩
              · go_wp2_with fail
                refine HI1.out.mono ?_
                rintro e w' ⟨rfl, hwx⟩
                rw [hwx]
                clear hwx HI1
                go_wp2_with fail
                refine HI2.out.mono ?_
                rintro e w' ⟨rfl, hwx⟩
                rw [hwx]
                clear hwx HI2
                go_wp2_with fail
                go_meet
                exact ⟨rfl, rfl⟩
            case rest =>
              obtain ⟨rfl, hwx⟩ := hcut
              have hw2 := hwx.symm
              subst hw2
              clear hwx HI1 HI2
              go_upto_region 24 with fail
              go_cut [115] (fun v wx => ∃ b : Bool, v = .bool b ∧ wx = wr ∧ Hid (b = true → parseP s.data.toList = (0, 4)) ∧ Hid (b = false → o1 = true ∧ o2 = true ∧ i1 = true ∧ i2 = true ∧ m1 ≤ m2))
              case first =>
                have HBB : Hid (nb1 = (o1 && i1) → nb2 = (o2 && i2) → m2 < m1 → parseP s.data.toList = (0, 4)) := Lib.hid (fun _ _ h => HBAD.out (.inr (.inr h)))
                clear HBAD HFAR HNEX HW1 HW2 HZ1 HZ2
                cases o1
                · clear HBB HAH HN1 HN2 HGT
                  go_wp2_with fail
                  go_meet
                  exact ⟨true, rfl, rfl, Lib.hid (fun _ => HBA.out rfl), Lib.hid (fun h => by cases h)⟩
                cases o2
                · clear HBB HAH HN1 HN2 HGT
                  go_wp2_with fail
                  go_meet
                  exact ⟨true, rfl, rfl, Lib.hid (fun _ => HBA.out rfl), Lib.hid (fun h => by cases h)⟩
                cases i1
                · clear HBB HAH HN1 HN2 HGT
                  go_wp2_with fail
                  go_meet
                  exact ⟨true, rfl, rfl, Lib.hid (fun _ => HBA.out rfl), Lib.hid (fun h => by cases h)⟩
                cases i2
                · clear HBB HAH HN1 HN2 HGT
                  go_wp2_with fail
                  go_meet
                  exact ⟨true, rfl, rfl, Lib.hid (fun _ => HBA.out rfl), Lib.hid (fun h => by cases h)⟩
                have hah := HAH.out rfl rfl
                have HBC : Hid (decide (m2 < m1) = true → parseP s.data.toList = (0, 4)) := Lib.hid (fun h => HBB.out HN1.out HN2.out (of_decide_eq_true h))
                have HOK : Hid (decide (m2 < m1) = false → m1 ≤ m2) := Lib.hid (fun h => by have := of_decide_eq_false h; omega)
                have HGU := Lib.hid (HGT.out rfl rfl)
                clear HBB HAH HN1 HN2 HBA HGT
                rcases Nat.lt_trichotomy x.size y.size with hxy | hxy | hxy
                · rw [decide_eq_false (by omega), decide_eq_false (by omega)] at hah
                  have HM := Lib.hid hah.symm
                  have hxy2 : (x.size : Int) < y.size := by omega
                  have hq0 : ((x.size : Int) == y.size) = false := by simp; omega
                  clear hah hxy
                  go_wp2_with fail
                  go_meet
                  exact ⟨false, congrArg Value.bool (decide_eq_false (by omega)), rfl, Lib.hid (fun h => by cases h), Lib.hid (fun _ => ⟨by trivial, by trivial, by trivial, by trivial, HOK.out HM.out⟩)⟩
                · rw [decide_eq_false (by omega), decide_eq_true hxy] at hah
                  have hxy2 : ¬ ((y.size : Int) < x.size) := by omega
                  have hq0 : ((x.size : Int) == y.size) = true := by simp; omega
                  have HM := Lib.hid (HGU.out hxy)
                  clear hah hxy
                  go_wp2_with fail
                  go_meet
                  exact ⟨_, rfl, rfl, Lib.hid (fun h => HBC.out (by rw [← HM.out]; exact h)), Lib.hid (fun h => ⟨by trivial, by trivial, by trivial, by trivial, HOK.out (by rw [← HM.out]; exact h)⟩)⟩
                · rw [decide_eq_true hxy] at hah
                  have HM : Hid (decide (m2 < m1) = true) := Lib.hid (by rw [← hah]; rfl)
                  have hxy2 : (y.size : Int) < x.size := by omega
                  clear hah hxy
                  go_wp2_with fail
                  go_meet
                  exact ⟨true, rfl, rfl, Lib.hid (fun _ => HBC.out HM.out), Lib.hid (fun h => by cases h)⟩
              case rest =>
                obtain ⟨b, rfl, hwx, HB1, HB2⟩ := hcut
                have hw2 := hwx.symm
                subst hw2
                clear hwx HBA HBAD HAH HGT
                cases b
                · obtain ⟨rfl, rfl, rfl, rfl, hle⟩ := HB2.out rfl
                  have z1 := HZ1.out rfl
                  have z2 := HZ2.out rfl
                  have n1 : nb1 = true := HN1.out
                  have n2 : nb2 = true := HN2.out
                  have hfar := HFAR.out n1 n2 hle
                  have hnex := HNEX.out n1 n2 hle
                  clear HB1 HB2 HZ1 HZ2 HN1 HN2 HFAR HNEX
                  by_cases hfa : 64 ≤ m2
                  · have HX := Lib.hid (hfar hfa)
                    have hq2 : (63 : Int) < q2 := by omega
                    clear hfar hnex
                    go_wp2_with fail
                    go_ret2
                    exact RetUIB.of HX.out hb1
                  have HX := Lib.hid (hnex (by omega))
                  obtain rfl : q1 = m1 := by omega
                  obtain rfl : q2 = m2 := by omega
                  clear hfar hnex z1 z2
                  have hq2 : (q2 : Int) < 64 := by omega
                  have HO0 := Lib.hid (orR_zero a q1)
                  go_wp2_with fail
                  go_loop [4, 16] (fun o n => ∃ j : Nat, n = .int .i64 ((q1 : Int) + j) ∧ j ≤ q2 + 1 - q1 ∧ o = .int .u64 (orR a q1 j)) (fun _ n => (q2 + 1 - (intOf n).toNat : Nat))
                  case atStart => exact ⟨0, by simp, by omega, by rw [HO0.out]⟩
                  case round =>
                    obtain ⟨j, rfl, hj, rfl⟩ := hrel
                    have hol := orR_lt (a := q1) (k := j) ha
                    by_cases hjl : j < q2 + 1 - q1
                    · have hsh := shl64s (q1 + j) (by omega)
                      have HON : Hid (orR a q1 (j + 1) = orR a q1 j ||| 2 ^ (q1 + j)) := Lib.hid (orR_succ a q1 j)
                      have hpl := pow_lt (n := q1 + j) (by omega)
                      have HOR : Hid (bits .or .u64 ((orR a q1 j : Nat) : Int) ((2 : Int) ^ (q1 + j)) = ((orR a q1 j ||| 2 ^ (q1 + j) : Nat) : Int)) := Lib.hid (by rw [show (2 : Int) ^ (q1 + j) = ((2 ^ (q1 + j) : Nat) : Int) by simp]; exact u64_or_nat _ _ (hol (by omega)) hpl)
                      have htn : ((q1 : Int) + j).toNat = q1 + j := by omega
                      have hle2 : (q1 : Int) + j ≤ q2 := by omega
                      generalize orR a q1 j = q at *
                      go_wp2_with fail
                      go_round
                      case rel => exact ⟨j + 1, by first | go_num | (congr 1; omega), by omega, by rw [HOR.out, HON.out]⟩
                      case measure => simp [intOf]; omega
                    · obtain rfl : j = q2 + 1 - q1 := by omega
                      have hqq := hol (by omega)
                      have hgt : ¬ ((q1 : Int) + (q2 + 1 - q1 : Nat) ≤ q2) := by omega
                      generalize orR a q1 (q2 + 1 - q1) = q at *
                      go_wp2_with fail
                      go_roundw
                      case rel => exact ⟨k + 1, q, by go_num, by omega, rfl, hqq, HX, by trivial⟩
                      case measure => simp [intOf]; omega
                · have HX := Lib.hid (HB1.out rfl)
                  clear HB1 HB2
                  go_wp2_with fail
                  go_ret2
                  exact RetUIB.of HX.out hb1
    · obtain rfl : k = D.length := by omega
      have HX : Hid (parseP s.data.toList = (a, 0)) := Lib.hid (by rw [HG.out, List.drop_of_length_le (by simp)]; unfold goW; rfl)
      clear HG
      go_wp2_with fail
      go_ret2
      exact RetUIB.of HX.out hb1
end
end Go.Proofs.YticmfflnenoplabDoor
