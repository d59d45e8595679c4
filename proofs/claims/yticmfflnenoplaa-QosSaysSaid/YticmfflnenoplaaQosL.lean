/- ostleryref.Groups: its walk. -/
import Derived.Test.YticmfflnenoplaaQosK
import Derived.Deep.CutBlock
namespace Go.Proofs.Yticmfflnenoplaa
open Go.RowKit Qo Da
def Qo.zf (f : Cont → Int) (l : List Cont) (j : Nat) : Int := if hasK f l j then sumF f l l.length else 0
theorem Qo.zf_zero (f : Cont → Int) (l : List Cont) : zf f l 0 = sumF f l l.length := by simp [zf, hasK_zero]
theorem Qo.zf_full (f : Cont → Int) (l : List Cont) : zf f l l.length = capF f l := rfl
theorem Qo.zf_pos (f : Cont → Int) (l : List Cont) (j : Nat) (h : j < l.length) (hp : 0 < f l[j]) : zf f l (j + 1) = zf f l j := by simp [zf, hasK_succ f l j h, hp]
theorem Qo.zf_none (f : Cont → Int) (l : List Cont) (j : Nat) (h : j < l.length) (hp : ¬ 0 < f l[j]) : zf f l (j + 1) = 0 := by simp [zf, hasK_succ f l j h, hp]
section
attribute [local irreducible] RCont RSlice RPod cls sumF askedM askedB hasK capF pathP mid grK podK grs shares quota flatG contG podG zf
set_option maxRecDepth 100000 in
set_option maxHeartbeats 16000000 in
theorem RGroups_any (l : List Pod) (hg : ∀ k (hk : k < l.length), GoodP l[k]) (h16 : l.length ≤ 16) (v : Value) (B : Nat) (w : World) (hB : B ≤ w.heap.size) (hR : RSlice w B 3 (RPod w B) [v] l) :
    Calls Try.prog 74 #[v] w (RetGs (grs l) w) := by
  obtain ⟨A, cap, e, hl, hcap, hA⟩ := RS.form (RS.of hR)
  obtain rfl : v = _ := by simpa using e
  unfold maxLen at hcap
  have HR := Lib.hid hR
  have HA := Lib.hid hA
  have HG := Lib.hid hg
  have HM := Lib.hid (mid_le l hg)
  have HL := Lib.hid (grK_len l hg)
  have hm0 := Lib.hid (show mid l 0 = 0 by unfold mid; rfl)
  clear hR hA hg e
  go_enter Try.func74, Try.ntmps74
  go_upto_region 3 with fail
  go_loopw [3, 4] (fun s i wi => ∃ k : Nat, i = .int .i64 k ∧ k ≤ l.length ∧ s = .int .i64 (mid l k) ∧ Below w.heap.size w wi) (fun s i _ => l.length - (intOf i).toNat)
  case atStart => exact ⟨0, rfl, by omega, by rw [hm0.out], Below.refl _ _⟩
  case round =>
    obtain ⟨k, rfl, hk, rfl, hbel⟩ := hrel
    have hmk := HM.out k hk
    by_cases hlt : k < l.length
    · obtain ⟨b, off, rfl, hb⟩ := HA.out k hlt
      obtain ⟨A2, c2, hP, r0, r1, r2, h1, h2, h3, _⟩ := pod_at HR.out (Below.refl B w) hlt
      have hgp := HG.out k hlt
      have hak := asked_le hgp
      have hcl := cls_any l[k]
      have hy := Lib.hid (mid_yes l k hlt)
      have hn := Lib.hid (mid_no l k hlt)
      unfold maxLen at h2 h3
      generalize l[k] = p at *
      have hbw : b < w.heap.size := by omega
      have q0 := (hbel.cell (p := ⟨b, off + k * 3, none⟩) hbw).trans r0
      have q1 := (hbel.cell (p := ⟨b, off + k * 3 + 1, none⟩) hbw).trans r1
      have q2 := (hbel.cell (p := ⟨b, off + k * 3 + 2, none⟩) hbw).trans r2
      have HP := Lib.hid (hP.below (hbel.mono hB))
      by_cases hq : cls p = 2
      · have hN := Lib.hid (hy.out hq)
        have HQ := Lib.hid hq
        clear hcl hq
        go_wp2_with fail
        refine (RClass_any p hgp _ B wr (Nat.le_trans hB hbel.size) HP.out).mono ?_
        rintro e w2 ⟨rfl, hb2⟩
        rw [HQ.out]
        have hbe := hbel.trans (hb2.mono hbel.size)
        clear q0 q1 q2
        have q0 := (hbe.cell (p := ⟨b, off + k * 3, none⟩) hbw).trans r0
        have q1 := (hbe.cell (p := ⟨b, off + k * 3 + 1, none⟩) hbw).trans r1
        have q2 := (hbe.cell (p := ⟨b, off + k * 3 + 2, none⟩) hbw).trans r2
        go_wp2_with fail
        refine (Asked_any p hgp _ B w2 (Nat.le_trans hB hbe.size) (HP.out.below (hb2.mono (Nat.le_trans hB hbel.size)))).mono ?_
        rintro e w3 ⟨rfl, hb3⟩
        have hfl := fun W => field0 (askedM p) (askedB p) W
        go_wp2_with fail
        go_roundw
        case rel => exact ⟨k + 1, by go_num, by omega, by rw [hN.out], hbe.trans (hb3.mono hbe.size)⟩
        case measure => simp [intOf]; omega
      · have hN := Lib.hid (hn.out hq)
        rcases (show cls p = 1 ∨ cls p = 3 by omega) with hq | hq
        all_goals
          have HQ := Lib.hid hq
          clear hcl hq
          go_wp2_with fail
          refine (RClass_any p hgp _ B wr (Nat.le_trans hB hbel.size) HP.out).mono ?_
          rintro e w2 ⟨rfl, hb2⟩
          rw [HQ.out]
          go_wp2_with fail
          go_roundw
          case rel => exact ⟨k + 1, by go_num, by omega, by rw [hN.out], hbel.trans (hb2.mono hbel.size)⟩
          case measure => simp [intOf]; omega
    · obtain rfl : k = l.length := by omega
      have hz := Lib.hid (grK_zero l)
      go_wp2_with fail
      refine (RShares_any (mid l l.length) (by omega) (by omega) _).mono ?_
      rintro e w2 ⟨rfl, rfl⟩
      go_upto_region 9 with fail
      have hown := World.ownsRow_lit (base := w.heap.size) (e := 191) (size := 4) wr #[.string ⟨#[47, 109, 105, 100]⟩, .int .i64 (shares (mid l l.length)), .int .i64 (-1), .int .i64 0, .string ⟨#[47, 108, 111, 119]⟩, .int .i64 2, .int .i64 (-1), .int .i64 0] 2 hbel.size (by simp [maxLen]) rfl
      have hbe := hbel.alloc hbel.size (.cells #[.string ⟨#[47, 109, 105, 100]⟩, .int .i64 (shares (mid l l.length)), .int .i64 (-1), .int .i64 0, .string ⟨#[47, 108, 111, 119]⟩, .int .i64 2, .int .i64 (-1), .int .i64 0] 191)
      have hown0 : (wr.alloc (.cells #[.string ⟨#[47, 109, 105, 100]⟩, .int .i64 (shares (mid l l.length)), .int .i64 (-1), .int .i64 0, .string ⟨#[47, 108, 111, 119]⟩, .int .i64 2, .int .i64 (-1), .int .i64 0] 191)).ownsRow w.heap.size 191 4 (.slice (some ⟨wr.heap.size, 0, none⟩) 2 2) (grK l 0).length (flatG (grK l 0)) := by
        rw [hz.out]
        unfold flatG
        exact hown
      clear hown hmk hz
      generalize wr.alloc (.cells #[.string ⟨#[47, 109, 105, 100]⟩, .int .i64 (shares (mid l l.length)), .int .i64 (-1), .int .i64 0, .string ⟨#[47, 108, 111, 119]⟩, .int .i64 2, .int .i64 (-1), .int .i64 0] 191) = w1 at *
      go_loopw [5, 6] (fun s i wi => ∃ (k : Nat) (hv : Value), i = .int .i64 k ∧ k ≤ l.length ∧ hv = s ∧ wi.ownsRow w.heap.size 191 4 hv (grK l k).length (flatG (grK l k)) ∧ Below w.heap.size w wi) (fun s i _ => l.length - (intOf i).toNat)
      case atStart => exact ⟨0, _, rfl, by omega, rfl, hown0, hbe⟩
      case round =>
        clear hown0 hbe hbel
        obtain ⟨k, hv, rfl, hk, hs, hown, hbel⟩ := hrel
        subst hs
        by_cases hlt : k < l.length
        · obtain ⟨b, off, rfl, hb⟩ := HA.out k hlt
          obtain ⟨A2, c2, hP, r0, r1, r2, h1, h2, h3, hcA⟩ := pod_at HR.out (Below.refl B w) hlt
          have hgp := HG.out k hlt
          have hak := asked_le hgp
          have hck := capF_le hgp
          have hnm := hgp.nm
          have hc3 := hgp.len
          have HSM := Lib.hid hgp.sums
          have HGC := Lib.hid hgp.all
          have hGN := Lib.hid (grK_next l k hlt)
          have hlen := HL.out k hk
          unfold maxLen at h2 h3
          have hpl := pathP_len l[k]
          generalize l[k] = p at *
          have HP0 := Lib.hid hP
          have HCA := Lib.hid hcA
          have HPC := Lib.hid (podC hP)
          clear hP hcA
          have hbw : b < w.heap.size := by omega
          have q0 := (hbel.cell (p := ⟨b, off + k * 3, none⟩) hbw).trans r0
          have q1 := (hbel.cell (p := ⟨b, off + k * 3 + 1, none⟩) hbw).trans r1
          have q2 := (hbel.cell (p := ⟨b, off + k * 3 + 2, none⟩) hbw).trans r2
          clear r0 r1 r2
          go_upto_block 4 with fail
          have hba : Below w.heap.size w (wr.alloc (.cells #[.string p.name, .int .i64 p.prio, .slice A2 p.conts.length c2] 33)) := hbel.alloc hbel.size _
          have hown2 := hown.alloc (.cells #[.string p.name, .int .i64 p.prio, .slice A2 p.conts.length c2] 33)
          have b8 := Blk.new wr 33 #[.string p.name, .int .i64 p.prio, .slice A2 p.conts.length c2]
          clear q0 q1 q2 hbel hown
          generalize wr.alloc (.cells #[.string p.name, .int .i64 p.prio, .slice A2 p.conts.length c2] 33) = wa at *
          generalize wr.heap.size = pk at *
          have hBa : B ≤ wa.heap.size := Nat.le_trans hB hba.size
          have HP := Lib.hid (HP0.out.below (hba.mono hB))
          have HPCa := Lib.hid (podC HP.out)
          have e8 := b8.cells
          have z8 : pk < wa.heap.size := b8.lt
          have hs0 := Lib.hid (show sumF Cont.capM p.conts 0 = 0 by unfold sumF; rfl)
          have ht0 := Lib.hid (show sumF Cont.capB p.conts 0 = 0 by unfold sumF; rfl)
          go_cut [8, 9] (fun s t wx => s = .int .i64 (sumF Cont.capM p.conts p.conts.length) ∧ t = .int .i64 (sumF Cont.capB p.conts p.conts.length) ∧ wa = wx)
          case first =>
            clear HR HA HG HM HL hown2
            go_upto_region 15 with fail
            go_loop [8, 9, 10] (fun s t i => ∃ j : Nat, i = .int .i64 j ∧ j ≤ p.conts.length ∧ s = .int .i64 (sumF Cont.capM p.conts j) ∧ t = .int .i64 (sumF Cont.capB p.conts j)) (fun s t i => p.conts.length - (intOf i).toNat)
            case atStart => exact ⟨0, rfl, by omega, by rw [hs0.out], by rw [ht0.out]⟩
            case round =>
              obtain ⟨j, rfl, hj, rfl, rfl⟩ := hrel
              obtain ⟨_, _, s1, s2⟩ := HSM.out j hj
              by_cases hjl : j < p.conts.length
              · obtain ⟨b2, off2, rfl, hb2⟩ := HCA.out j hjl
                obtain ⟨A3, c3, _, _, _, _, _, _, _, r3, r4, _⟩ := cont_in HPCa.out (Below.refl B wa) hjl
                obtain ⟨_, _, _, g3, g4⟩ := HGC.out j hjl
                have hn1 := Lib.hid (sumF_succ Cont.capM p.conts j hjl)
                have hn2 := Lib.hid (sumF_succ Cont.capB p.conts j hjl)
                generalize sumF Cont.capM p.conts j = sM at *
                generalize sumF Cont.capB p.conts j = sB at *
                generalize p.conts[j] = c at *
                go_wp2_with fail
                go_round
                case rel => exact ⟨j + 1, by go_num, by omega, by rw [hn1.out], by rw [hn2.out]⟩
                case measure => simp [intOf]; omega
              · obtain rfl : j = p.conts.length := by omega
                go_wp2_with fail
                go_meet
                exact ⟨rfl, rfl, rfl⟩
          case rest =>
            obtain ⟨rfl, rfl, rfl⟩ := hcut
            have hz1 := Lib.hid (zf_zero Cont.capM p.conts)
            have hz2 := Lib.hid (zf_zero Cont.capB p.conts)
            go_upto_block 6 with fail
            go_cut [8, 9] (fun s t wx => s = .int .i64 (capF Cont.capM p.conts) ∧ t = .int .i64 (capF Cont.capB p.conts) ∧ wa = wx)
            case first =>
              clear HR HA HG HM HL hown2
              go_upto_region 20 with fail
              go_loop [8, 9, 11] (fun s t i => ∃ j : Nat, i = .int .i64 j ∧ j ≤ p.conts.length ∧ s = .int .i64 (zf Cont.capM p.conts j) ∧ t = .int .i64 (zf Cont.capB p.conts j)) (fun s t i => p.conts.length - (intOf i).toNat)
              case atStart => exact ⟨0, rfl, by omega, by rw [hz1.out], by rw [hz2.out]⟩
              case round =>
                obtain ⟨j, rfl, hj, rfl, rfl⟩ := hrel
                by_cases hjl : j < p.conts.length
                · obtain ⟨b2, off2, rfl, hb2⟩ := HCA.out j hjl
                  obtain ⟨A3, c3, _, _, _, _, _, _, _, r3, r4, _⟩ := cont_in HPCa.out (Below.refl B wa) hjl
                  obtain ⟨_, _, _, g3, g4⟩ := HGC.out j hjl
                  have hn1 := Lib.hid (zf_pos Cont.capM p.conts j hjl)
                  have hm1 := Lib.hid (zf_none Cont.capM p.conts j hjl)
                  have hn2 := Lib.hid (zf_pos Cont.capB p.conts j hjl)
                  have hm2 := Lib.hid (zf_none Cont.capB p.conts j hjl)
                  generalize p.conts[j] = c at *
                  by_cases hM : 0 < c.capM
                  · have HM1 := Lib.hid (hn1.out hM)
                    have hd1 : (c.capM == 0) = false := beq_eq_false_iff_ne.2 (by omega)
                    by_cases hB2 : 0 < c.capB
                    · have HB1 := Lib.hid (hn2.out hB2)
                      have hd2 : (c.capB == 0) = false := beq_eq_false_iff_ne.2 (by omega)
                      go_wp2_with fail
                      go_round
                      case rel => exact ⟨j + 1, by go_num, by omega, by rw [HM1.out], by rw [HB1.out]⟩
                      case measure => simp [intOf]; omega
                    · have HB1 := Lib.hid (hm2.out hB2)
                      have hz : c.capB = 0 := by omega
                      rw [hz] at r4
                      go_wp2_with fail
                      go_round
                      case rel => exact ⟨j + 1, by go_num, by omega, by rw [HM1.out], by rw [HB1.out]⟩
                      case measure => simp [intOf]; omega
                  · have HM1 := Lib.hid (hm1.out hM)
                    have hzM : c.capM = 0 := by omega
                    rw [hzM] at r3
                    by_cases hB2 : 0 < c.capB
                    · have HB1 := Lib.hid (hn2.out hB2)
                      have hd2 : (c.capB == 0) = false := beq_eq_false_iff_ne.2 (by omega)
                      go_wp2_with fail
                      go_round
                      case rel => exact ⟨j + 1, by go_num, by omega, by rw [HM1.out], by rw [HB1.out]⟩
                      case measure => simp [intOf]; omega
                    · have HB1 := Lib.hid (hm2.out hB2)
                      have hz : c.capB = 0 := by omega
                      rw [hz] at r4
                      go_wp2_with fail
                      go_round
                      case rel => exact ⟨j + 1, by go_num, by omega, by rw [HM1.out], by rw [HB1.out]⟩
                      case measure => simp [intOf]; omega
                · obtain rfl : j = p.conts.length := by omega
                  have hz3 := zf_full Cont.capM p.conts
                  have hz4 := zf_full Cont.capB p.conts
                  rw [hz3, hz4]
                  clear hz1 hz2 hz3 hz4
                  go_wp2_with fail
                  go_meet
                  exact ⟨rfl, rfl, rfl⟩
            case rest =>
                  obtain ⟨rfl, rfl, rfl⟩ := hcut
                  clear hz1 hz2
                  have hown3 := hown2
                  have HPX := HP
                  have hBx := hBa
                  have hba3 := hba
                  clear hown2 HP HPCa HR HA HG HM HL hm0 HSM hs0 ht0
                  go_upto_region 26 with fail
                  have hpz := Lib.hid (podK_zero p)
                  have hpG := Lib.hid (show podG p = ⟨pathP p, shares (askedM p), quota (capF Cont.capM p.conts), capF Cont.capB p.conts⟩ by unfold podG; rfl)
                  have hfl := fun W => field0 (askedM p) (askedB p) W
                  have hI : Below wa.heap.size wa wa.drew := (Below.refl _ _).drew
                  refine Flo.region 12 [(0, true), (1, true), (3, true), (7, true), (9, true), (2, false), (4, false), (5, true), (6, false), (8, false), (10, true), (11, false)] (fun v => Below wa.heap.size wa v) (by kernel_rfl) (by kernel_rfl) rfl hI ?_
                  simp only [List.drop_succ_cons, List.drop_zero]
                  iterate 5 (apply Flo.op rfl (hI := hI); (· intro v hv K hK; obtain ⟨hc, hf⟩ := Flo.bcl hv; go_wp2_with fail; all_goals first | exact Flo.noUndef (by with_reducible assumption) | exact hK); (· rfl))
                  refine Flo.seq rfl fun K hK => ?_
                  go_wp2_with fail
                  refine (PathOf_any p hgp _ B _ (Nat.le_trans hBx hI.size) (HPX.out.below (hI.mono hBx))).mono ?_
                  rintro e y1 ⟨rfl, hb1⟩
                  go_wp2_with fail
                  have hJ : Below wa.heap.size wa y1 := hI.trans (hb1.mono hI.size)
                  refine hK _ _ hJ ?_
                  clear hb1 hK
                  refine Flo.seq rfl fun K hK => ?_
                  go_wp2_with fail
                  refine (Asked_any p hgp _ B _ (Nat.le_trans hBx hJ.size) (HPX.out.below (hJ.mono hBx))).mono ?_
                  rintro e y2 ⟨rfl, hb2⟩
                  go_wp2_with fail
                  have hJ2 : Below wa.heap.size wa y2 := hJ.trans (hb2.mono hJ.size)
                  refine hK _ _ hJ2 ?_
                  clear hb2 hK hJ
                  have hJ := hJ2
                  clear hJ2
                  iterate 1 (apply Flo.op rfl (hI := hJ); (· intro v hv K hK; obtain ⟨hc, hf⟩ := Flo.bcl hv; go_wp2_with fail; all_goals first | exact Flo.noUndef (by with_reducible assumption) | exact hK); (· rfl))
                  refine Flo.seq rfl fun K hK => ?_
                  go_wp2_with fail
                  refine (RShares_any (askedM p) (by omega) (by omega) _).mono ?_
                  rintro e yq ⟨rfl, rfl⟩
                  go_wp2_with fail
                  refine hK _ _ hJ ?_
                  clear hK
                  refine Flo.seq rfl fun K hK => ?_
                  go_wp2_with fail
                  refine (RQuota_any (capF Cont.capM p.conts) (by omega) (by omega) _).mono ?_
                  rintro e yq ⟨rfl, rfl⟩
                  go_wp2_with fail
                  refine hK _ _ hJ ?_
                  clear hK
                  iterate 1 (apply Flo.op rfl (hI := hJ); (· intro v hv K hK; obtain ⟨hc, hf⟩ := Flo.bcl hv; go_wp2_with fail; all_goals first | exact Flo.noUndef (by with_reducible assumption) | exact hK); (· rfl))
                  refine Flo.seq rfl fun K hK => ?_
                  go_wp2_with fail
                  refine hK _ _ (hJ.alloc hJ.size _) ?_
                  clear hK
                  refine Flo.tail fun K hK => ?_
                  have hown4 := own_below hown3 hJ
                  have b8y := b8.below hJ z8
                  have hba4 := hba3.trans (hJ.mono hba3.size)
                  clear hown3 b8 hI hJ e8 z8 hba3 HPX hfl
                  have hn8 : some pk ≠ hv.ownBlock := fun he => own_blk_ne hown4 b8y (by decide) he.symm
                  go_upto_region 28 with (at_builtin; refine wpList_app _ groupT rfl (.tmp 97) (.tmp 108) rfl w.heap.size hv _ _ rfl (by exact hown4.alloc _) ⟨y2.heap.size, 0, none⟩ 1 1 [.string (pathP p), .int .i64 (shares (askedM p)), .int .i64 (quota (capF Cont.capM p.conts)), .int .i64 (capF Cont.capB p.conts)] rfl rfl (news_new y2 _ _) (by simp [Value.oneCell']) (by omega) (by unfold maxLen; omega) (by omega) (by have := hba4.size; simp; omega) ?_; intro g cap4 w5 hown5 hg5 hat5 hlt5; have b8z := Blk.grown (b8y.alloc _) hg5 hn8; have e8 := b8z.cells)
                  have hba5 : Below w.heap.size w w5 := (hba4.alloc hba4.size _).grown hg5 (Nat.le_trans hba4.size (by simp)) fun k hk => (hown4.lt k hk).1
                  have hown6 : w5.ownsRow w.heap.size 191 4 (.slice (some ⟨g, 0, none⟩) ((grK l k).length + 1) cap4) (grK l k ++ podK p 0).length (flatG (grK l k ++ podK p 0)) := by
                    rw [hpz.out, flatG_snoc, hpG.out, List.length_append]
                    exact hown5
                  clear hown4 hown5 hg5 hat5 b8y hba4 hn8 hpz hpG e8
                  have hPL := Lib.hid (podK_len p)
                  have hPN := Lib.hid (podK_next p)
                  go_loopw [5, 12] (fun s i wi => ∃ (j : Nat) (hv : Value), i = .int .i64 j ∧ j ≤ p.conts.length ∧ hv = s ∧ wi.ownsRow w.heap.size 191 4 hv (grK l k ++ podK p j).length (flatG (grK l k ++ podK p j)) ∧ Blk wi pk 33 #[.string p.name, .int .i64 p.prio, .slice A2 p.conts.length c2] ∧ Below w.heap.size w wi) (fun s i _ => p.conts.length - (intOf i).toNat)
                  case atStart => exact ⟨0, _, rfl, by omega, rfl, hown6, b8z, hba5⟩
                  case round =>
                    clear hown6 b8z hba5
                    obtain ⟨j, hv, rfl, hj, hs, hown, b8, hbel⟩ := hrel
                    subst hs
                    have hlj := hPL.out j hj
                    have e8 := b8.cells
                    have z8 := b8.lt
                    by_cases hjl : j < p.conts.length
                    · obtain ⟨b2, off2, rfl, hb2⟩ := HCA.out j hjl
                      obtain ⟨A3, c3, hd1, hd2, hks, _, r0, r1, r2, r3, r4, r5⟩ := cont_in HPC.out (hbel.mono hB) hjl
                      obtain ⟨hcn, g1, g2, g3, g4⟩ := HGC.out j hjl
                      have hPJ := Lib.hid (hPN.out j hjl)
                      unfold maxLen at hks hd2
                      generalize p.conts[j] = c at *
                      have hcG := Lib.hid (show contG p c = ⟨(pathP p ++ ⟨#[47]⟩) ++ c.name, shares c.askM, quota c.capM, c.capB⟩ by unfold contG; rfl)
                      have hle : (grK l k ++ podK p j).length ≤ 100 := by rw [List.length_append]; omega
                      go_upto_region 31 with fail
                      have hba : Below w.heap.size w (wr.alloc (.cells #[.string c.name, .int .i64 c.askM, .int .i64 c.askB, .int .i64 c.capM, .int .i64 c.capB, .slice A3 c.devs.length c3] 106)) := hbel.alloc hbel.size _
                      have hown2 := hown.alloc (.cells #[.string c.name, .int .i64 c.askM, .int .i64 c.askB, .int .i64 c.capM, .int .i64 c.capB, .slice A3 c.devs.length c3] 106)
                      have b8a := b8.alloc (.cells #[.string c.name, .int .i64 c.askM, .int .i64 c.askB, .int .i64 c.capM, .int .i64 c.capB, .slice A3 c.devs.length c3] 106)
                      have b12 := Blk.new wr 106 #[.string c.name, .int .i64 c.askM, .int .i64 c.askB, .int .i64 c.capM, .int .i64 c.capB, .slice A3 c.devs.length c3]
                      clear r0 r1 r2 r3 r4 r5 hbel hown b8 e8 z8
                      generalize wr.alloc (.cells #[.string c.name, .int .i64 c.askM, .int .i64 c.askB, .int .i64 c.capM, .int .i64 c.capB, .slice A3 c.devs.length c3] 106) = wc at *
                      generalize wr.heap.size = pc at *
                      have hBx : B ≤ wc.heap.size := Nat.le_trans hB hba.size
                      have HPX := Lib.hid (HP0.out.below (hba.mono hB))
                      have e8 := b8a.cells
                      have e12 := b12.cells
                      have z8 := b8a.lt
                      have z12 := b12.lt
                      have hI : Below wc.heap.size wc wc.drew := (Below.refl _ _).drew
                      refine Flo.region 20 [(0, true), (1, true), (4, true), (5, true), (7, true), (8, true), (9, true), (11, true), (12, true), (13, true), (15, true), (16, true), (17, true), (2, false), (3, true), (6, true), (10, false), (14, false), (18, true), (19, false)] (fun v => Below wc.heap.size wc v) (by kernel_rfl) (by kernel_rfl) rfl hI ?_
                      simp only [List.drop_succ_cons, List.drop_zero]
                      iterate 13 (apply Flo.op rfl (hI := hI); (· intro v hv K hK; obtain ⟨hc, hf⟩ := Flo.bcl hv; go_wp2_with fail; all_goals first | exact Flo.noUndef (by with_reducible assumption) | exact hK); (· rfl))
                      refine Flo.seq rfl fun K hK => ?_
                      go_wp2_with fail
                      refine (PathOf_any p hgp _ B _ (Nat.le_trans hBx hI.size) (HPX.out.below (hI.mono hBx))).mono ?_
                      rintro e y1 ⟨rfl, hb1⟩
                      go_wp2_with fail
                      have hJ : Below wc.heap.size wc y1 := hI.trans (hb1.mono hI.size)
                      refine hK _ _ hJ ?_
                      clear hb1 hK
                      iterate 2 (apply Flo.op rfl (hI := hJ); (· intro v hv K hK; obtain ⟨hc, hf⟩ := Flo.bcl hv; go_wp2_with fail; all_goals first | exact Flo.noUndef (by with_reducible assumption) | exact hK); (· rfl))
                      refine Flo.seq rfl fun K hK => ?_
                      go_wp2_with fail
                      refine (RShares_any c.askM (by omega) (by omega) _).mono ?_
                      rintro e yq ⟨rfl, rfl⟩
                      go_wp2_with fail
                      refine hK _ _ hJ ?_
                      clear hK
                      refine Flo.seq rfl fun K hK => ?_
                      go_wp2_with fail
                      refine (RQuota_any c.capM (by omega) (by omega) _).mono ?_
                      rintro e yq ⟨rfl, rfl⟩
                      go_wp2_with fail
                      refine hK _ _ hJ ?_
                      clear hK
                      iterate 1 (apply Flo.op rfl (hI := hJ); (· intro v hv K hK; obtain ⟨hc, hf⟩ := Flo.bcl hv; go_wp2_with fail; all_goals first | exact Flo.noUndef (by with_reducible assumption) | exact hK); (· rfl))
                      refine Flo.seq rfl fun K hK => ?_
                      go_wp2_with fail
                      refine hK _ _ (hJ.alloc hJ.size _) ?_
                      clear hK
                      refine Flo.tail fun K hK => ?_
                      have hown4 := own_below hown2 hJ
                      have b8y := b8a.below hJ z8
                      have hba4 := hba.trans (hJ.mono hba.size)
                      clear hown2 b8a hI hJ e8 e12 z8 z12 b12 hba HPX
                      have hn8 : some pk ≠ hv.ownBlock := fun he => own_blk_ne hown4 b8y (by decide) he.symm
                      generalize hn4' : (grK l k ++ podK p j).length = n4 at *
                      have hn4 := Lib.hid hn4'
                      clear hn4'
                      go_wp2_with (at_builtin; refine wpList_app _ groupT rfl (.tmp 122) (.tmp 141) rfl w.heap.size hv _ _ rfl (by exact hown4.alloc _) ⟨y1.heap.size, 0, none⟩ 1 1 [.string ((pathP p ++ ⟨#[47]⟩) ++ c.name), .int .i64 (shares c.askM), .int .i64 (quota c.capM), .int .i64 c.capB] rfl rfl (news_new y1 _ _) (by simp [Value.oneCell']) (by omega) (by unfold maxLen; omega) (by omega) (by have := hba4.size; simp; omega) ?_; intro g cap4 w5 hown5 hg5 hat5 hlt5; have b8z := Blk.grown (b8y.alloc _) hg5 hn8; have e8 := b8z.cells)
                      have hba5 : Below w.heap.size w w5 := (hba4.alloc hba4.size _).grown hg5 (Nat.le_trans hba4.size (by simp)) fun k hk => (hown4.lt k hk).1
                      go_roundw
                      case rel => exact ⟨j + 1, _, by go_num, by omega, rfl, by rw [hPJ.out, ← List.append_assoc, flatG_snoc, hcG.out, List.length_append, hn4.out]; exact hown5, b8z, hba5⟩
                      case measure => simp [intOf]; omega
                    · obtain rfl : j = p.conts.length := by omega
                      go_wp2_with fail
                      go_roundw
                      case rel => exact ⟨k + 1, hv, by go_num, by omega, rfl, by rw [hGN.out]; exact hown, hbel⟩
                      case measure => simp [intOf]; omega

        · obtain rfl : k = l.length := by omega
          go_wp2_with fail
          go_ret
          exact ⟨_, rfl, by unfold grs; exact hown, hbel⟩
end
end Go.Proofs.Yticmfflnenoplaa
