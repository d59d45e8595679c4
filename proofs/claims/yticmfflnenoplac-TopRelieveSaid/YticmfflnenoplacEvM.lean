/- TopRelieve: its walk. No statement is proved here. -/
import Derived.Test.YticmfflnenoplacEvL
namespace Go.Proofs.Yticmfflnenoplac
open Go.RowKit Go.Deep Da Qo Ev
namespace Ev
def HeadOk (l : List Pod) (k : Nat) : Prop := ∀ i (hi : i < l.length), i < k → podFault l[i] = 0 ∧ ∀ j (hj : j < l.length), j < i → sameS l[j].name l[i].name = false
theorem head_apart {us : List Use} {l : List Pod} (hl : Low us) (h : HeadOk l l.length) : Apart us l :=
  ⟨fun p hp => by
    obtain ⟨i, hi, rfl⟩ := List.getElem_of_mem hp
    exact fit_of hl (h i hi hi).1, nodup_of fun i hi j hj hji => (h i hi hi).2 j hj hji⟩
theorem usedK {us : List Use} (l : List Pod) {k : Nat} (hk : k < l.length) : sumU us (l.take (k + 1)) = sumU us (l.take k) + usedF l[k].name us := by rw [List.take_succ_eq_append_getElem hk, sumU_snoc]
theorem one_used : (4 : Int) < usedF ⟨#[97]⟩ [⟨⟨#[97]⟩, 5⟩] := by simp [usedF, sameS]
theorem one_low (n : ByteArray) : -2000000000000000 ≤ usedF n [⟨⟨#[97]⟩, 5⟩] ∧ usedF n [⟨⟨#[97]⟩, 5⟩] ≤ 2000000000000000 := by
  have := usedF_bound n 5 (by omega) [⟨⟨#[97]⟩, 5⟩] (fun u hu => by obtain rfl := List.mem_singleton.1 hu; simp)
  omega
theorem take_of_take {gs S : List Row} {n k : Nat} (h : gs = S.take n) (hk : k ≤ n) : S.take k = gs.take k := by rw [h, List.take_take, Nat.min_eq_left hk]
theorem nm_take (l : List Row) (k : Nat) : (nm l).take k = nm (l.take k) := by simp [nm, List.map_take]
end Ev
section
attribute [local irreducible] rankL namesV relL podFault RPod RCont lightPods lightUses usedF rowOf sumU leftU relF HeadOk
set_option maxRecDepth 100000 in
set_option maxHeartbeats 8000000 in
theorem topRelieve_any (v v2 : Value) (l : List Pod) (us : List Use) (most : Int) (w : World) (h : RSlice w w.heap.size 3 (RPod w w.heap.size) [v] l) (h2 : RSlice w w.heap.size 2 RUse [v2] us) :
    Calls Try.prog 4 #[v, v2, .int .i64 most] w (RetBB true w) := by
  have HLP := Lib.hid (fun W (hW : Below w.heap.size w W) => lightPods_any v l W w.heap.size hW.size ((h.mono fun _ _ h => h.below hW).below hW))
  have HLU := Lib.hid (fun W (hW : Below w.heap.size w W) => lightUses_any v2 us W w.heap.size (h2.below hW))
  obtain ⟨A, cap, hv, hl, hcap, hA⟩ := h.form
  obtain rfl : v = _ := by simpa using hv
  obtain ⟨Au, capu, hvu, hlu0, hcapu, hAu⟩ := h2.form
  obtain rfl : v2 = _ := by simpa using hvu
  unfold maxLen at hcap hcapu
  have HA := Lib.hid hA
  have HR := Lib.hid h
  have HAu := Lib.hid hAu
  have HU := Lib.hid h2
  have HCL := Lib.hid (rel_some (us := [⟨⟨#[97]⟩, 5⟩]) (p := ⟨⟨#[97]⟩, 0, []⟩) one_used)
  clear h h2 hv hvu hA hAu
  go_enter Try.func4, Try.ntmps4
  go_wp2_with fail
  have hb0 : Below w.heap.size w ((w.alloc (.cells #[.string ⟨#[97]⟩, .int .i64 0, .slice none 0 0] 28)).alloc (.cells #[.string ⟨#[97]⟩, .int .i64 5] 38)) := ((Below.refl _ _).alloc (Nat.le_refl _) _).alloc (by simp) _
  have k0 : Blk ((w.alloc (.cells #[.string ⟨#[97]⟩, .int .i64 0, .slice none 0 0] 28)).alloc (.cells #[.string ⟨#[97]⟩, .int .i64 5] 38)) w.heap.size 28 #[.string ⟨#[97]⟩, .int .i64 0, .slice none 0 0] := (Blk.new w _ _).alloc _
  have k1 : Blk ((w.alloc (.cells #[.string ⟨#[97]⟩, .int .i64 0, .slice none 0 0] 28)).alloc (.cells #[.string ⟨#[97]⟩, .int .i64 5] 38)) (w.heap.size + 1) 38 #[.string ⟨#[97]⟩, .int .i64 5] := Blk.new1 w _ _ _
  generalize (w.alloc (.cells #[.string ⟨#[97]⟩, .int .i64 0, .slice none 0 0] 28)).alloc (.cells #[.string ⟨#[97]⟩, .int .i64 5] 38) = w1 at *
  have HRE := Lib.hid (Relieve_any _ _ _ _ 4 w1.heap.size w1 (Nat.le_refl _) (rs_one k0 k0.lt (by decide) (by decide)) (rs_use k1 k1.lt (by decide) (by decide)) (fun p hp => by
    obtain rfl : p = _ := List.mem_singleton.1 hp
    exact fit_bare _ _ 0 (by decide) (by decide) (one_low _)) one_low (by simp))
  clear k0 k1
  refine HRE.out.mono ?_
  intro e w2 hP
  have hP2 : RelP _ _ 4 w1 e w2 := hP
  obtain ⟨A0, c0, rfl, _, hb2⟩ := hP2
  rw [HCL.out]
  have hbw := hb0.trans (hb2.mono hb0.size)
  clear hP HRE HCL hb0 hb2
  cases hlp : lightPods l
  · rw [hlp] at HLP
    clear hlp
    go_wp2_with fail
    refine (HLP.out _ hbw).mono ?_
    rintro e w3 ⟨rfl, hb3⟩
    go_wp2_with fail
    go_ret
    exact ⟨rfl, hbw.trans (hb3.mono hbw.size)⟩
  rw [hlp] at HLP
  have hl16 : l.length ≤ 16 := by
    unfold lightPods at hlp
    simp only [Bool.and_eq_true, decide_eq_true_eq] at hlp
    exact hlp.1
  clear hlp
  cases hlu : lightUses us
  · rw [hlu] at HLU
    clear hlu
    go_wp2_with fail
    refine (HLP.out _ hbw).mono ?_
    rintro e w3 ⟨rfl, hb3⟩
    have hb3' := hbw.trans (hb3.mono hbw.size)
    go_wp2_with fail
    refine (HLU.out _ hb3').mono ?_
    rintro e w4 ⟨rfl, rfl⟩
    go_wp2_with fail
    go_ret
    exact ⟨rfl, hb3'⟩
  rw [hlu] at HLU
  have hlow := low_of hlu
  have HLow := Lib.hid hlow
  have HUB := Lib.hid (fun u (hu : u ∈ us) => show -1125899906842624 ≤ u.bytes ∧ u.bytes ≤ 1125899906842624 from by
    unfold lightUses at hlu
    simp only [Bool.and_eq_true, List.all_eq_true, lightUse, decide_eq_true_eq] at hlu
    exact ⟨(hlu.2 u hu).1.2, (hlu.2 u hu).2⟩)
  clear hlu hlow
  go_wp2_with fail
  refine (HLP.out _ hbw).mono ?_
  rintro e w3 ⟨rfl, hb3⟩
  have hb3' := hbw.trans (hb3.mono hbw.size)
  clear hbw hb3
  go_wp2_with fail
  refine (HLU.out _ hb3').mono ?_
  rintro e w4 ⟨rfl, rfl⟩
  clear HLP HLU
  go_wp2_with fail
  go_loop [7] (fun i => ∃ k : Nat, i = .int .i64 k ∧ k ≤ us.length) (fun i => us.length - (intOf i).toNat)
  case atStart => exact ⟨0, rfl, by omega⟩
  case round =>
    obtain ⟨k, rfl, hk⟩ := hrel
    by_cases hlt : k < us.length
    · obtain ⟨b, off, rfl⟩ := HAu.out k hlt
      obtain ⟨hblt, cs', hc1, hc2, hr1, hr2, hr3⟩ := (HU.out.below hb3').at_ hlt
      have g1 := hc2 1 _ (by rw [hr1]; rfl)
      clear hc2 hr1 hc1
      generalize us[k].bytes = xb at *
      by_cases hx : xb < 0
      · go_wp2_with fail
        go_ret
        exact ⟨rfl, hb3'⟩
      · go_wp2_with fail
        go_round
        case rel => exact ⟨k + 1, by go_num, by omega⟩
        case measure => simp [intOf]; omega
    · obtain rfl : k = us.length := by omega
      have HS0 : Hid (sumU us (l.take 0) = 0) := Lib.hid (by unfold sumU; rfl)
      clear hlt hk HUB
      go_wp2_with fail
      go_loopw [8, 9] (fun s i wi => ∃ k : Nat, i = .int .i64 k ∧ k ≤ l.length ∧ s = .int .i64 (sumU us (l.take k)) ∧ Hid (HeadOk l k) ∧ Below w.heap.size w wi) (fun _ i _ => l.length - (intOf i).toNat)
      case atStart => exact ⟨0, rfl, by omega, by rw [HS0.out], Lib.hid (by unfold HeadOk; intro i hi h; omega), hb3'⟩
      case round =>
        clear hb3' HS0
        obtain ⟨k, rfl, hk, rfl, HN, hb⟩ := hrel
        by_cases hlt : k < l.length
        · obtain ⟨b, off, rfl⟩ := HA.out k hlt
          obtain ⟨hblt, cs', hc1, hc2, hp0⟩ := (HR.out.below hb).at_ hlt
          have hp := hp0.below hb
          obtain ⟨A8, n8, c8, hcs⟩ := rpod_open hp0
          have g0 := hc2 0 _ (by rw [hcs]; rfl)
          have g1 := hc2 1 _ (by rw [hcs]; rfl)
          have g2 := hc2 2 _ (by rw [hcs]; rfl)
          simp only [Nat.add_zero] at g0
          have HCK := Lib.hid (Check_any l[k] cs' w.heap.size wr hb.size hp)
          rw [hcs] at HCK
          have HST : Hid (podFault l[k] = 0 → (∀ j (hj : j < l.length), j < k → sameS l[j].name l[k].name = false) → HeadOk l (k + 1)) := Lib.hid (by
            intro h1 h2
            have h0 := HN.out
            unfold HeadOk at h0 ⊢
            intro i hi hik
            rcases (show i < k ∨ i = k by omega) with hx | rfl
            · exact h0 i hi hx
            · exact ⟨h1, h2⟩)
          have HSK := Lib.hid (usedK (us := us) l hlt)
          have hs1 := sumU_le HLow.out (l.take k)
          have hs2 : (l.take k).length ≤ k := List.length_take_le _ _
          have hu1 := HLow.out l[k].name
          have HUS := Lib.hid (fun W (hW : Below w.heap.size w W) => Tused_any (.slice Au us.length capu) us l[k].name w.heap.size W (HU.out.below hW))
          obtain ⟨rn, hrn⟩ : ∃ rn : ByteArray, rn = l[k].name := ⟨_, rfl⟩
          have HRN := Lib.hid hrn
          rw [← hrn] at g0 HCK hu1 HUS HSK
          generalize podFault l[k] = pf at *
          generalize l[k].prio = pr at *
          generalize sumU us (l.take k) = sk at *
          clear hc1 hc2 hcs hp hp0 HN hrn
          by_cases hf : pf = 0
          · have HX := Lib.hid (HST.out hf)
            subst hf
            clear HST
            unfold RetEB at HCK
            rw [errV_0] at HCK
            go_wp2_with fail
            refine HCK.out.mono ?_
            rintro e w5 ⟨rfl, hb5⟩
            have hb5' := hb.trans (hb5.mono hb.size)
            clear hb5 hb g0 g1 g2 HCK
            go_wp2_with fail
            go_loopw [10] (fun i wi => ∃ j : Nat, i = .int .i64 j ∧ j ≤ k ∧ Hid (∀ i (hi : i < l.length), i < j → sameS l[i].name rn = false) ∧ Below w.heap.size w wi) (fun i _ => k - (intOf i).toNat)
            case atStart => exact ⟨0, rfl, by omega, Lib.hid (fun i hi h => by omega), hb5'⟩
            case round =>
              clear hb5'
              obtain ⟨j, rfl, hj, HM, hb⟩ := hrel
              obtain ⟨_, cs1, _, hc12, hp1⟩ := (HR.out.below hb).at_ hlt
              obtain ⟨A8, n8, c8, hcs1⟩ := rpod_open hp1
              have g0 := hc12 0 _ (by rw [hcs1]; rfl)
              simp only [Nat.add_zero] at g0
              rw [← HRN.out] at g0
              clear hc12 hcs1 hp1
              by_cases hjk : j < k
              · have hjl : j < l.length := by omega
                obtain ⟨_, cs2, _, hc22, hp2⟩ := (HR.out.below hb).at_ hjl
                obtain ⟨A9, n9, c9, hcs2⟩ := rpod_open hp2
                have d0 := hc22 0 _ (by rw [hcs2]; rfl)
                simp only [Nat.add_zero] at d0
                have HS : Hid (sameS l[j].name rn = false → ∀ i (hi : i < l.length), i < j + 1 → sameS l[i].name rn = false) := Lib.hid (by
                  intro h i hi hij
                  rcases (show i < j ∨ i = j by omega) with hx | rfl
                  · exact HM.out i hi hx
                  · exact h)
                generalize l[j].name = jn at *
                unfold sameS at HS
                clear hc22 hcs2 hp2 HM
                cases hs : (jn.toList == rn.toList)
                · have HS2 := Lib.hid (HS.out hs)
                  clear HS
                  go_upto_region 19 with fail
                  go_quiet (fail)
                  go_wp2_with fail
                  go_roundw
                  case rel => exact ⟨j + 1, by go_num, by omega, HS2, below_drewN3 hb _⟩
                  case measure => simp [intOf]; omega
                · clear HS
                  go_upto_region 19 with fail
                  go_quiet (fail)
                  go_wp2_with fail
                  go_ret
                  exact ⟨rfl, below_drewN3 hb _⟩
              · obtain rfl : j = k := by omega
                have HM2 := Lib.hid (HX.out (fun i hi hij => by rw [← HRN.out]; exact HM.out i hi hij))
                have HU2 := Lib.hid (HUS.out _ hb)
                generalize usedF rn us = un at *
                clear HM HX HUS
                go_wp2_with fail
                refine HU2.out.mono ?_
                rintro e w6 ⟨rfl, rfl⟩
                go_wp2_with fail
                go_roundw
                case rel => exact ⟨j + 1, by go_num, by omega, by rw [HSK.out], HM2, hb⟩
                case measure => simp [intOf]; omega
          · unfold RetEB at HCK
            rw [errV_pos _ hf] at HCK
            clear HST
            go_wp2_with fail
            refine HCK.out.mono ?_
            rintro e w5 ⟨rfl, hb5⟩
            go_wp2_with fail
            go_ret
            exact ⟨rfl, hb.trans (hb5.mono hb.size)⟩
        · obtain rfl : k = l.length := by omega
          have hap := head_apart HLow.out HN.out
          have HAp := Lib.hid hap
          have HSE : Hid (sumU us (l.take l.length) = sumU us l) := Lib.hid (by rw [List.take_length])
          have hs1 := sumU_le HLow.out l
          rw [HSE.out]
          have hbz := hb
          have HRA := Lib.hid (fun W (hW : Below w.heap.size w W) => Rank_any (.slice A l.length cap) (.slice Au us.length capu) l us w.heap.size W hW.size ((HR.out.mono fun _ _ h => h.below hW).below hW) (HU.out.below hW) hap.fit (by omega))
          have HRE := Lib.hid (fun W (hW : Below w.heap.size w W) => Relieve_any (.slice A l.length cap) (.slice Au us.length capu) l us most w.heap.size W hW.size ((HR.out.mono fun _ _ h => h.below hW).below hW) (HU.out.below hW) hap.fit HLow.out (by omega))
          have HRL := Lib.hid (rankL_len us l)
          have HTK : Hid (relL us l most = (rankL us l).take (relL us l most).length) := Lib.hid (by unfold relL; exact rel_take us most _ _)
          have HMO : Hid (∀ i, i < (relL us l most).length → ¬ leftU us (sumU us l) ((rankL us l).take i) ≤ most) := Lib.hid (by unfold relL; exact rel_more us most _ _)
          have HSP : Hid (leftU us (sumU us l) (relL us l most) ≤ most ∨ (relL us l most).length = (rankL us l).length) := Lib.hid (by unfold relL; exact rel_stop us most _ _)
          have hgl : (relL us l most).length ≤ l.length := by rw [← HRL.out]; unfold relL; exact relF_le us most _ _
          clear HN hap hlt hk HSE hbz
          go_wp2_with fail
          refine (HRA.out _ hb).mono ?_
          intro e w5 hP
          have hP2 : RankP us l wr e w5 := hP
          obtain ⟨A5, c5, rfl, hown5, hb5⟩ := hP2
          have hb5' := hb.trans (hb5.mono hb.size)
          have HO5 := Lib.hid hown5
          clear hP hown5 hb5 hb HRA
          go_wp2_with fail
          refine (HRE.out _ hb5').mono ?_
          intro e w6 hP
          have hP2 : RelP us l most w5 e w6 := hP
          obtain ⟨A6, c6, rfl, hown6, hb6⟩ := hP2
          have hb6' := hb5'.trans (hb6.mono hb5'.size)
          have ho5 := own_below HO5.out hb6
          have h1 := rs_names hown6 rfl
          have h2 := (rs_names ho5 HRL.out.symm).take (relL us l most).length (by rw [nm_len, HRL.out]; exact hgl)
          rw [nm_take, ← HTK.out] at h2
          have HST := Lib.hid (SameT_any _ _ _ _ _ _ (by rw [nm_len]; omega) h1 h2 (fun b hb => (hown6.lt b hb).2) (fun b hb => (ho5.lt b hb).2))
          have HO6 := Lib.hid hown6
          have hc5 : l.length ≤ c5 := by obtain ⟨_, _, e, h1, _⟩ := own_form ho5; simp at e; omega
          obtain ⟨all, hall⟩ : ∃ all, all = sumU us l := ⟨_, rfl⟩
          rw [← hall] at HMO HSP hs1 ⊢
          have HALL := Lib.hid hall
          obtain ⟨gs, hgs⟩ : ∃ gs, gs = relL us l most := ⟨_, rfl⟩
          rw [← hgs] at HTK HMO HSP hgl HST HO6 ⊢
          have HGS := Lib.hid hgs
          have hd1 : ((l.length : Int) != l.length) = false := by simp
          have hd2 : decide (l.length < gs.length) = false := by simp; omega
          have hd3 : decide ((l.length : Int) < gs.length) = false := by simp; omega
          clear hP hown6 hb6 hb5' ho5 HO5 h1 h2 HRE hall hgs
          go_wp2_with fail
          refine HST.out.mono ?_
          rintro e w7 ⟨rfl, hb7⟩
          have hb7' := hb6'.trans (hb7.mono hb6'.size)
          have HO7 := Lib.hid (own_below HO6.out hb7)
          clear hb7 hb6' HST HO6 hd1 hd2 hd3
          go_wp2_with fail
          have HL0 : Hid (leftU us all (gs.take 0) = all) := Lib.hid (by unfold leftU; rfl)
          have hhb := fun i => leftU_le HLow.out (gs.take i) all
          have HHB := Lib.hid hhb
          clear hhb
          go_loop [8, 13, 14] (fun s t i => ∃ j : Nat, i = .int .i64 j ∧ j ≤ gs.length ∧ s = .int .i64 (leftU us all (gs.take j)) ∧ t = .int .i64 (leftU us all (gs.take (j - 1)))) (fun _ _ i => gs.length - (intOf i).toNat)
          case atStart => exact ⟨0, rfl, by omega, by rw [HL0.out], by rw [HL0.out]⟩
          case round =>
            obtain ⟨j, rfl, hj, rfl, rfl⟩ := hrel
            have hlb := HHB.out j
            have hl2 : (gs.take j).length ≤ j := List.length_take_le _ _
            by_cases hjg : j < gs.length
            · obtain ⟨A', c', he, _, _, h3⟩ := own_form HO7.out
              simp only [Value.slice.injEq, true_and] at he
              obtain ⟨rfl, rfl⟩ := he
              obtain ⟨g, rfl, hg, hbg⟩ := h3 (by omega)
              have g0 := (HO7.out.cellAt j (by omega)).trans (namesV_at gs j hjg)
              have HLn : Hid (leftU us all (gs.take (j + 1)) = leftU us all (gs.take j) - usedF gs[j].name us) := Lib.hid (by rw [List.take_succ_eq_append_getElem hjg, leftU_snoc])
              have hu1 := HLow.out gs[j].name
              have HUS := Lib.hid (Tused_any (.slice Au us.length capu) us gs[j].name w.heap.size _ (HU.out.below hb7'))
              generalize leftU us all (gs.take (j - 1)) = lz at *
              have HLJ : Hid (gs.take (j + 1 - 1) = gs.take j) := Lib.hid (by rw [Nat.add_sub_cancel])
              obtain ⟨lj, hlj⟩ : ∃ lj, lj = leftU us all (gs.take j) := ⟨_, rfl⟩
              rw [← hlj] at HLn hlb ⊢
              have HLJ2 := Lib.hid hlj
              clear hlj
              generalize gs[j].name = rn at *
              go_wp2_with fail
              refine HUS.out.mono ?_
              rintro e w8 ⟨rfl, rfl⟩
              generalize usedF rn us = un at *
              clear HUS g0
              go_wp2_with fail
              go_round
              case rel => exact ⟨j + 1, by go_num, by omega, by rw [HLn.out], by rw [HLJ.out, HLJ2.out]⟩
              case measure => simp [intOf]; omega
            · obtain rfl : j = gs.length := by omega
              have hgl2 : gs.take gs.length = gs := List.take_length
              rw [hgl2] at hlb ⊢
              have HLast : Hid (0 < gs.length → ¬ leftU us all (gs.take (gs.length - 1)) ≤ most) := Lib.hid (fun h0 => by
                have h1 := HMO.out (gs.length - 1) (by omega)
                have h2 : gs.take (gs.length - 1) = (rankL us l).take (gs.length - 1) := (take_of_take HTK.out (by omega)).symm
                rw [h2]
                first | exact h1 | exact Int.not_le.2 h1)
              have HSQ := HSP.out
              rw [HRL.out] at HSQ
              generalize leftU us all (gs.take (gs.length - 1)) = lz at *
              generalize leftU us all gs = lj at *
              clear HMO HSP HTK HHB hgl2
              rcases Nat.eq_zero_or_pos gs.length with h0 | h0
              · have hz : decide ((0 : Int) < gs.length) = false := by simp [h0]
                have hz2 : decide (0 < gs.length) = false := by simp [h0]
                clear HLast h0
                rcases HSQ with hq | hq
                · go_wp2_with fail
                  go_ret
                  exact ⟨rfl, hb7'⟩
                · have hq2 : ((gs.length : Int) == l.length) = true := by simp [hq]
                  clear hq
                  by_cases hm : lj ≤ most
                  · go_wp2_with fail
                    go_ret
                    exact ⟨rfl, hb7'⟩
                  · go_wp2_with fail
                    go_ret
                    exact ⟨rfl, hb7'⟩
              · have hlz := HLast.out h0
                clear HLast
                rcases HSQ with hq | hq
                · go_wp2_with fail
                  go_ret
                  exact ⟨rfl, hb7'⟩
                · have hq2 : ((gs.length : Int) == l.length) = true := by simp [hq]
                  clear hq
                  by_cases hm : lj ≤ most
                  · go_wp2_with fail
                    go_ret
                    exact ⟨rfl, hb7'⟩
                  · go_wp2_with fail
                    go_ret
                    exact ⟨rfl, hb7'⟩
end
end Go.Proofs.Yticmfflnenoplac
