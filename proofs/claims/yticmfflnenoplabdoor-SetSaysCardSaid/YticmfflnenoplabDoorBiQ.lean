/- Sets of processors: number, Parse: their walks. No statement is proved here. -/
import Derived.Test.YticmfflnenoplabDoorBiE
import Derived.Test.YticmfflnenoplabDoorBiP
import Derived.Lib.SmallJoins
namespace Go.Proofs.YticmfflnenoplabDoor
open Go.RowKit Go.Deep Pop Bi Am
namespace Bi
theorem cut_le (l : List UInt8) (c : UInt8) : (Lib.cut l [c]).1.length ≤ l.length ∧ (Lib.cut l [c]).2.1.length ≤ l.length := by
  unfold Lib.cut
  split
  · exact ⟨by simp; omega, by simp⟩
  · exact ⟨Nat.le_refl _, by simp⟩
theorem split_le (sep : ByteArray) (save : Nat) (hsv : save = 0) : ∀ (k : Nat) (s : ByteArray), ∀ x ∈ Lib.splitB sep save k s, x.size ≤ s.size
  | 0, s, x, hx => by
    rw [Lib.splitB_zero] at hx
    obtain rfl := List.mem_singleton.1 hx
    exact Nat.le_refl _
  | k + 1, s, x, hx => by
    unfold Lib.splitB at hx
    split at hx
    · obtain rfl := List.mem_singleton.1 hx
      exact Nat.le_refl _
    · rcases List.mem_cons.1 hx with rfl | hx
      · rw [ByteArray.size_extract]; omega
      · have := split_le sep save hsv k _ x hx
        rw [ByteArray.size_extract] at this
        omega
/-- The words as they lie in memory. -/
def wordsB (s : ByteArray) : List ByteArray := Lib.splitB ⟨#[44]⟩ 0 (Lib.countB s ⟨#[44]⟩) s
theorem wordsB_data (s : ByteArray) : (wordsB s).map (fun b : ByteArray => b.data.toList) = wordsP s.data.toList := by
  unfold wordsB
  exact Lib.splitB_data _ _ _ _
theorem wordsB_len (s : ByteArray) : (wordsB s).length = Lib.countB s ⟨#[44]⟩ + 1 := Lib.splitB_all ⟨#[44]⟩ (by decide) 0 _ s rfl
theorem wordsB_le (s : ByteArray) : ∀ x ∈ wordsB s, x.size ≤ s.size := split_le _ _ rfl _ _
theorem wordsB_few (s : ByteArray) : (wordsB s).length ≤ s.size + 1 := by
  rw [wordsB_len]
  have := Lib.countB_le ⟨#[44]⟩ (by decide) s.size s (Nat.le_refl _)
  omega
theorem orR_zero (s a : Nat) : orR s a 0 = s := rfl
theorem orR_succ (s a k : Nat) : orR s a (k + 1) = orR s a k ||| 2 ^ (a + k) := rfl
end Bi
def NumP (a : List UInt8) (w : World) (e : Ending) (w' : World) : Prop := ∃ m : Int, e = .returned (.tuple #[.int .i64 m, .bool (numB a)]) ∧ (numB a = true → m = num a) ∧ (-9223372036854775808 ≤ m ∧ m ≤ 9223372036854775807) ∧ Below w.heap.size w w'
theorem NumP.of {a : List UInt8} {m : Int} {b : Bool} {w w' : World} (h : numB a = b) (h2 : numB a = true → m = num a) (hm : -9223372036854775808 ≤ m ∧ m ≤ 9223372036854775807) (hb : Below w.heap.size w w') : NumP a w (.returned (.tuple #[.int .i64 m, .bool b])) w' :=
  ⟨m, by rw [h], h2, hm, hb⟩
theorem data_list (s : ByteArray) : s.toList = s.data.toList := ByteArray.toList_eq s
theorem beq_data {T s : ByteArray} {l : List UInt8} (hT : T = ⟨l.toArray⟩) : (T.toList == s.toList) = decide (l = s.data.toList) := by
  rw [hT, data_list, data_list, Bool.eq_iff_iff, beq_iff_eq, decide_eq_true_eq]
section
attribute [local irreducible] numB num Lib.itoa Lib.atoiAll
set_option maxRecDepth 100000 in
set_option maxHeartbeats 2000000 in
theorem number_any (s : ByteArray) (hs : s.size ≤ 1000) (w : World) (hL : LayS w) : Calls Tryd.prog 37 #[.string s] w (NumP s.data.toList w) := by
  have HL := Lib.hid hL
  clear hL
  cases ha : Lib.atoiAll s.data.toList with
  | ok v =>
    have HAT := Lib.hid (Tryd.strconv_Atoi_ok s (by omega) v ha w)
    have hvb := Lib.atoiAll_bounds ha
    have HN := Lib.hid (numB_of ha)
    have HV := Lib.hid (numB_val ha)
    have HI := Lib.hid (fun W (hW : LayS W) => itoa_any v hvb.1 hvb.2 W hW.lay)
    clear ha
    go_enter Tryd.func37, Tryd.ntmps37
    go_wp2_with fail
    refine HAT.out.mono ?_
    rintro e w1 ⟨rfl, hw1⟩
    have hb1 : Below w.heap.size w w1 := by
      rcases hw1 with rfl | ⟨t, rfl⟩
      · exact Below.refl _ _
      · exact Go.Joins.below_bytesWorld _ _ _ _ (Nat.le_refl _)
    clear hw1 HAT
    go_wp2_with fail
    refine (HI.out _ (HL.out.below hb1)).mono ?_
    rintro e w2 ⟨rfl, hb2⟩
    have hb2' := hb1.trans (hb2.mono hb1.size)
    obtain ⟨T, hT⟩ : ∃ T : ByteArray, T = ⟨(Lib.itoa v).toArray⟩ := ⟨_, rfl⟩
    rw [← hT]
    have hE := beq_data (s := s) hT
    clear hT HI hb1 hb2
    cases hd : decide (Lib.itoa v = s.data.toList)
    · have HNF : Hid (numB s.data.toList = false) := Lib.hid (by rw [HN.out, hd]; rfl)
      rw [hd] at hE
      clear HN hd
      go_wp2_with fail
      go_ret2
      exact NumP.of HNF.out HV.out hvb hb2'
    · rw [hd] at hE
      by_cases h0 : 0 ≤ v
      · have HNF : Hid (numB s.data.toList = true) := Lib.hid (by rw [HN.out, hd]; simp [h0])
        clear HN hd
        go_wp2_with fail
        go_ret2
        exact NumP.of HNF.out HV.out hvb hb2'
      · have HNF : Hid (numB s.data.toList = decide (0 ≤ v)) := Lib.hid (by rw [HN.out, hd]; simp)
        clear HN hd
        go_wp2_with fail
        go_ret2
        exact NumP.of HNF.out HV.out hvb hb2'
  | «syntax» =>
    obtain ⟨tp, p, hp⟩ := HL.out.syn
    have HAT := Lib.hid (Tryd.strconv_Atoi_syntax_var s (by omega) ha tp p w hp)
    have HNF := Lib.hid (numB_syn ha)
    clear ha hp
    go_enter Tryd.func37, Tryd.ntmps37
    go_wp2_with fail
    refine HAT.out.mono ?_
    rintro e w1 ⟨N, rfl, _, _, hb1⟩
    clear HAT
    go_wp2_with fail
    go_ret2
    exact NumP.of HNF.out (fun h => by rw [HNF.out] at h; cases h) (by omega) hb1
  | range =>
    obtain ⟨tp, p, hp⟩ := HL.out.rng
    have HAT := Lib.hid (Tryd.strconv_Atoi_range_var s (by omega) ha tp p w hp)
    have HNF := Lib.hid (numB_rng ha)
    have hsb := Lib.atoiSat_bounds s.data.toList
    clear ha hp
    go_enter Tryd.func37, Tryd.ntmps37
    go_wp2_with fail
    refine HAT.out.mono ?_
    rintro e w1 ⟨N, rfl, _, _, hb1⟩
    generalize Lib.atoiSat s.data.toList = m at *
    clear HAT
    go_wp2_with fail
    go_ret2
    exact NumP.of HNF.out (fun h => by rw [HNF.out] at h; cases h) hsb hb1
end
theorem number_l (l : List UInt8) (hl : l.length ≤ 1000) (w : World) (hL : LayS w) : Calls Tryd.prog 37 #[.string ⟨l.toArray⟩] w (NumP l w) := by
  have := number_any ⟨l.toArray⟩ hl w hL
  simpa using this
theorem wordA_eq (w : List UInt8) : wordA w = (Lib.cut w [45]).1 := rfl
theorem wordB_yes {w : List UInt8} (h : (Lib.cut w [45]).2.2 = true) : wordB w = (Lib.cut w [45]).2.1 := by simp [wordB, h]
theorem wordB_no {w : List UInt8} (h : (Lib.cut w [45]).2.2 = false) : wordB w = (Lib.cut w [45]).1 := by simp [wordB, h]
def RetUEB (r : Nat × Int) (w : World) (e : Ending) (w' : World) : Prop := e = .returned (.tuple #[.int .u64 r.1, errV r.2]) ∧ Below w.heap.size w w'
theorem RetUEB.bad {r : Nat × Int} {f : Int} {v : Value} {w w' : World} (h : r = (0, f)) (hv : v = errV f) (hb : Below w.heap.size w w') : RetUEB r w (.returned (.tuple #[.int .u64 0, v])) w' := by
  subst h; subst hv; exact ⟨rfl, hb⟩
theorem RetUEB.ok {r : Nat × Int} {a : Nat} {w w' : World} (h : r = (a, 0)) (hb : Below w.heap.size w w') : RetUEB r w (.returned (.tuple #[.int .u64 a, .nilIface])) w' := by
  subst h; exact ⟨rfl, hb⟩
theorem size_data (s : ByteArray) : s.data.toList.length = s.size := rfl
section
attribute [local irreducible] numB num goW orR wordA wordB parseP wordsB Lib.cut
set_option maxRecDepth 100000 in
set_option maxHeartbeats 4000000 in
theorem Parse_any (s : ByteArray) (hs : s.size ≤ 7000) (w : World) (hL : LayS w) : Calls Tryd.prog 18 #[.string s] w (RetUEB (parseP s.data.toList) w) := by
  by_cases h3 : 300 < s.size
  · have HF : Hid (parseP s.data.toList = (0, 2)) := Lib.hid (by unfold parseP; rw [if_pos (by rw [size_data]; exact h3)])
    clear hL
    go_enter Tryd.func18, Tryd.ntmps18
    go_wp2_with fail
    go_ret2
    exact RetUEB.bad HF.out (by rw [errV_pos 2 (by omega)]; rfl) (Below.refl _ _)
  by_cases h0 : s.size = 0
  · have hnil : s.data.toList = [] := List.length_eq_zero_iff.1 h0
    have HF : Hid (parseP s.data.toList = (0, 0)) := Lib.hid (by unfold parseP; rw [if_neg (by rw [size_data]; omega), if_pos hnil])
    obtain rfl : s = ⟨#[]⟩ := Go.WideShapes.bytes_inj (by rw [hnil])
    clear hL
    go_enter Tryd.func18, Tryd.ntmps18
    go_wp2_with fail
    go_ret2
    exact RetUEB.ok HF.out (Below.refl _ _)
  have hne : s.data.toList ≠ [] := fun h => h0 (by rw [← size_data, h]; rfl)
  have HP : Hid (parseP s.data.toList = goW 0 (wordsP s.data.toList)) := Lib.hid (by unfold parseP; rw [if_neg (by rw [size_data]; omega), if_neg hne])
  have hE : s.toList.isEmpty = false := by rw [data_list]; cases hh : s.data.toList with
    | nil => exact absurd hh hne
    | cons a l => rfl
  have hE2 : ¬ s.toList = [] := by rw [data_list]; exact hne
  obtain ⟨m, hm⟩ := hL.lay.most
  have HSP := Lib.hid (Tryd.strings_Split s ⟨#[44]⟩ m w (by omega) hm (by decide))
  have HWL := Lib.hid (wordsB_len s)
  have HWD := Lib.hid (wordsB_data s)
  have HWE := Lib.hid (wordsB_le s)
  have hfew := wordsB_few s
  have HL := Lib.hid hL
  have HSP2 : Hid (Calls Tryd.prog 35 #[.string s, .string ⟨#[44]⟩] w fun e w' => e = .returned (.slice (some ⟨w.heap.size, 0, none⟩) (wordsB s).length (wordsB s).length) ∧ w' = w.alloc (.cells ((wordsB s).map Value.string).toArray 9)) := Lib.hid (by
    rw [HWL.out]
    have := HSP.out
    unfold wordsB
    exact this)
  clear hL hm HSP HWL h0
  go_enter Tryd.func18, Tryd.ntmps18
  go_wp2_with fail
  refine HSP2.out.mono ?_
  rintro e w1 ⟨rfl, rfl⟩
  have k1 := Blk.new w 9 ((wordsB s).map Value.string).toArray
  have hb1 : Below w.heap.size w (w.alloc (.cells ((wordsB s).map Value.string).toArray 9)) := (Below.refl _ _).alloc (Nat.le_refl _) _
  generalize w.alloc (.cells ((wordsB s).map Value.string).toArray 9) = w1 at *
  have HK := Lib.hid k1
  obtain ⟨L, hLd⟩ : ∃ L, L = wordsB s := ⟨_, rfl⟩
  rw [← hLd] at HWD HWE hfew HK ⊢
  have HP0 : Hid (parseP s.data.toList = goW 0 ((L.map fun b : ByteArray => b.data.toList).drop 0)) := Lib.hid (by rw [HP.out, ← HWD.out]; rfl)
  clear HSP2 HP HWD k1 hLd hne hE hE2
  go_wp2_with fail
  go_loopw [4, 24] (fun o i wi => ∃ (k a : Nat), i = .int .i64 k ∧ k ≤ L.length ∧ o = .int .u64 a ∧ a < 18446744073709551616 ∧ Hid (parseP s.data.toList = goW a ((L.map fun b : ByteArray => b.data.toList).drop k)) ∧ Hid (Blk wi w.heap.size 9 (L.map Value.string).toArray) ∧ Below w.heap.size w wi) (fun _ i _ => L.length - (intOf i).toNat)
  case atStart => exact ⟨0, 0, rfl, by omega, rfl, by omega, HP0, HK, hb1⟩
  case round =>
    clear HP0 HK hb1
    obtain ⟨k, a, rfl, hk, rfl, ha, HG, HK, hb⟩ := hrel
    by_cases hlt : k < L.length
    · have g0 : wr.cell? ⟨w.heap.size, k, none⟩ = some (.string L[k]) := by rw [HK.out.cell]; simp [hlt]
      have hwd := HWE.out L[k] (List.getElem_mem hlt)
      have hkm : k < (L.map fun b : ByteArray => b.data.toList).length := by simpa using hlt
      have hel : (L.map fun b : ByteArray => b.data.toList)[k] = L[k].data.toList := by simp
      have hbad := fun h => goW_bad hkm HG.out h
      have hfar := fun h1 h2 h3 h4 => goW_far hkm HG.out h1 h2 h3 h4
      have hnex := fun h1 h2 h3 h4 => goW_next hkm HG.out h1 h2 h3 h4
      rw [hel] at hbad hfar hnex
      have HCUT := Lib.hid (cut_any L[k] ⟨#[45]⟩ (by omega) wr (HL.out.below hb).lay)
      have hcl := cut_le L[k].data.toList 45
      rw [size_data] at hcl
      have lk := HK.out.lt
      rw [wordA_eq] at hbad hfar hnex
      have HWY := Lib.hid (wordB_yes (w := L[k].data.toList))
      have HWN := Lib.hid (wordB_no (w := L[k].data.toList))
      generalize wordB L[k].data.toList = wb at *
      have HCUT2 : Hid (Calls Tryd.prog 36 #[.string L[k], .string ⟨#[45]⟩] wr (fun e w' => e = .returned (.tuple #[.string ⟨(Lib.cut L[k].data.toList [45]).1.toArray⟩, .string ⟨(Lib.cut L[k].data.toList [45]).2.1.toArray⟩, .bool (Lib.cut L[k].data.toList [45]).2.2]) ∧ Below wr.heap.size wr w')) := Lib.hid HCUT.out
      generalize (Lib.cut L[k].data.toList [45]).1 = c1 at *
      generalize (Lib.cut L[k].data.toList [45]).2.1 = c2 at *
      generalize (Lib.cut L[k].data.toList [45]).2.2 = cb at *
      generalize L[k] = wd at *
      have HBAD := Lib.hid hbad
      have HFAR := Lib.hid hfar
      have HNEX := Lib.hid hnex
      have HN1 := Lib.hid (fun W (hW : Below w.heap.size w W) => number_l c1 (by omega) W (HL.out.below hW))
      have HN2 := Lib.hid (fun W (hW : Below w.heap.size w W) => number_l c2 (by omega) W (HL.out.below hW))
      clear hbad hfar hnex HCUT hkm hel HG
      go_wp2_with fail
      refine HCUT2.out.mono ?_
      rintro e w2 ⟨rfl, hb2⟩
      have HK2 := Lib.hid (HK.out.below hb2 lk)
      have hb2' := hb.trans (hb2.mono hb.size)
      clear HK hb2 hb HCUT2 g0 lk
      go_wp2_with fail
      refine (HN1.out _ hb2').mono ?_
      intro e w3 hP
      have hP2 : NumP c1 w2 e w3 := hP
      obtain ⟨m1, rfl, hm1, hmb1, hb3⟩ := hP2
      have HK3 := Lib.hid (HK2.out.below hb3 HK2.out.lt)
      have hb3' := hb2'.trans (hb3.mono hb2'.size)
      have HM1 := Lib.hid hm1
      clear hP hm1 HK2 hb3 hb2' HN1
      cases cb
      · obtain rfl := HWN.out rfl
        clear HWY HWN HN2
        cases hn1 : numB wb
        · have HX := Lib.hid (HBAD.out (.inl hn1))
          clear HBAD HFAR HNEX hn1
          go_wp2_with fail
          go_ret2
          exact RetUEB.bad HX.out (by rw [errV_pos 4 (by omega)]; rfl) hb3'
        · obtain rfl := HM1.out hn1
          by_cases hfa : 64 ≤ num wb
          · have HX := Lib.hid (HFAR.out hn1 hn1 (by omega) hfa)
            clear HBAD HFAR HNEX hn1 HM1
            go_wp2_with fail
            go_ret2
            exact RetUEB.bad HX.out (by rw [errV_pos 1 (by omega)]; rfl) hb3'
          have HX := Lib.hid (HNEX.out hn1 hn1 (by omega) (by omega))
          clear HBAD HFAR HNEX hn1 HM1
          have hfa2 : (num wb : Int) < 64 := by omega
          generalize num wb = x1 at *
          have HO0 := Lib.hid (orR_zero a x1)
          go_wp2_with fail
          go_loop [4, 14] (fun o n => ∃ j : Nat, n = .int .i64 ((x1 : Int) + j) ∧ j ≤ x1 + 1 - x1 ∧ o = .int .u64 (orR a x1 j)) (fun _ n => (x1 + 1 - (intOf n).toNat : Nat))
          case atStart => exact ⟨0, by simp, by omega, by rw [HO0.out]⟩
          case round =>
            obtain ⟨j, rfl, hj, rfl⟩ := hrel
            have hol := orR_lt (a := x1) (k := j) ha
            by_cases hjl : j < x1 + 1 - x1
            · have hsh := shl64s (x1 + j) (by omega)
              have HON : Hid (orR a x1 (j + 1) = orR a x1 j ||| 2 ^ (x1 + j)) := Lib.hid (orR_succ a x1 j)
              have hpl := pow_lt (n := x1 + j) (by omega)
              have HOR : Hid (bits .or .u64 ((orR a x1 j : Nat) : Int) ((2 : Int) ^ (x1 + j)) = ((orR a x1 j ||| 2 ^ (x1 + j) : Nat) : Int)) := Lib.hid (by rw [show (2 : Int) ^ (x1 + j) = ((2 ^ (x1 + j) : Nat) : Int) by simp]; exact u64_or_nat _ _ (hol (by omega)) hpl)
              have htn : ((x1 : Int) + j).toNat = x1 + j := by omega
              have hle : (x1 : Int) + j ≤ x1 := by omega
              generalize orR a x1 j = q at *
              go_wp2_with fail
              go_round
              case rel => exact ⟨j + 1, by first | go_num | (congr 1; omega), by omega, by rw [HOR.out, HON.out]⟩
              case measure => simp [intOf]; omega
            · obtain rfl : j = x1 + 1 - x1 := by omega
              have hqq := hol (by omega)
              generalize orR a x1 (x1 + 1 - x1) = q at *
              go_wp2_with fail
              go_roundw
              case rel => exact ⟨k + 1, q, by go_num, by omega, rfl, hqq, HX, HK3, hb3'⟩
              case measure => simp [intOf]; omega
      · obtain rfl := HWY.out rfl
        clear HWY HWN
        go_wp2_with fail
        refine (HN2.out _ hb3').mono ?_
        intro e w4 hP
        have hP2 : NumP wb w3 e w4 := hP
        obtain ⟨m2, rfl, hm2, hmb2, hb4⟩ := hP2
        have HK4 := Lib.hid (HK3.out.below hb4 HK3.out.lt)
        have hb4' := hb3'.trans (hb4.mono hb3'.size)
        have HM2 := Lib.hid hm2
        clear hP hm2 HK3 hb4 hb3' HN2
        cases hn1 : numB c1
        · have HX := Lib.hid (HBAD.out (.inl hn1))
          try rw [hn1]
          clear HBAD HFAR HNEX hn1
          go_wp2_with fail
          go_ret2
          exact RetUEB.bad HX.out (by rw [errV_pos 4 (by omega)]; rfl) hb4'
        · obtain rfl := HM1.out hn1
          cases hn2 : numB wb
          · have HX := Lib.hid (HBAD.out (.inr (.inl hn2)))
            clear HBAD HFAR HNEX hn1 hn2
            go_wp2_with fail
            go_ret2
            exact RetUEB.bad HX.out (by rw [errV_pos 4 (by omega)]; rfl) hb4'
          · obtain rfl := HM2.out hn2
            by_cases hlo : num wb < num c1
            · have HX := Lib.hid (HBAD.out (.inr (.inr hlo)))
              clear HBAD HFAR HNEX hn1 hn2 HM1 HM2
              go_wp2_with fail
              go_ret2
              exact RetUEB.bad HX.out (by rw [errV_pos 4 (by omega)]; rfl) hb4'
            by_cases hfa : 64 ≤ num wb
            · have HX := Lib.hid (HFAR.out hn1 hn2 (by omega) hfa)
              clear HBAD HFAR HNEX hn1 hn2 HM1 HM2
              go_wp2_with fail
              go_ret2
              exact RetUEB.bad HX.out (by rw [errV_pos 1 (by omega)]; rfl) hb4'
            have HX := Lib.hid (HNEX.out hn1 hn2 (by omega) (by omega))
            clear HBAD HFAR HNEX hn1 hn2 HM1 HM2
            have hfa2 : (num wb : Int) < 64 := by omega
            have hlo2 : ¬ num wb < num c1 := hlo
            generalize num c1 = x1 at *
            generalize num wb = x2 at *
            have HO0 := Lib.hid (orR_zero a x1)
            go_wp2_with fail
            go_loop [4, 14] (fun o n => ∃ j : Nat, n = .int .i64 ((x1 : Int) + j) ∧ j ≤ x2 + 1 - x1 ∧ o = .int .u64 (orR a x1 j)) (fun _ n => (x2 + 1 - (intOf n).toNat : Nat))
            case atStart => exact ⟨0, by simp, by omega, by rw [HO0.out]⟩
            case round =>
              obtain ⟨j, rfl, hj, rfl⟩ := hrel
              have hol := orR_lt (a := x1) (k := j) ha
              by_cases hjl : j < x2 + 1 - x1
              · have hsh := shl64s (x1 + j) (by omega)
                have HON : Hid (orR a x1 (j + 1) = orR a x1 j ||| 2 ^ (x1 + j)) := Lib.hid (orR_succ a x1 j)
                have hpl := pow_lt (n := x1 + j) (by omega)
                have HOR : Hid (bits .or .u64 ((orR a x1 j : Nat) : Int) ((2 : Int) ^ (x1 + j)) = ((orR a x1 j ||| 2 ^ (x1 + j) : Nat) : Int)) := Lib.hid (by rw [show (2 : Int) ^ (x1 + j) = ((2 ^ (x1 + j) : Nat) : Int) by simp]; exact u64_or_nat _ _ (hol (by omega)) hpl)
                have htn : ((x1 : Int) + j).toNat = x1 + j := by omega
                have hle : (x1 : Int) + j ≤ x2 := by omega
                generalize orR a x1 j = q at *
                go_wp2_with fail
                go_round
                case rel => exact ⟨j + 1, by first | go_num | (congr 1; omega), by omega, by rw [HOR.out, HON.out]⟩
                case measure => simp [intOf]; omega
              · obtain rfl : j = x2 + 1 - x1 := by omega
                have hqq := hol (by omega)
                generalize orR a x1 (x2 + 1 - x1) = q at *
                go_wp2_with fail
                go_roundw
                case rel => exact ⟨k + 1, q, by go_num, by omega, rfl, hqq, HX, HK4, hb4'⟩
                case measure => simp [intOf]; omega
    · obtain rfl : k = L.length := by omega
      have HX : Hid (parseP s.data.toList = (a, 0)) := Lib.hid (by rw [HG.out, List.drop_eq_nil_of_le (by simp)]; unfold goW; rfl)
      clear HG
      go_wp2_with fail
      go_ret2
      exact RetUEB.ok HX.out hb
end
end Go.Proofs.YticmfflnenoplabDoor
