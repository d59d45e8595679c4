/- TopPool: its walk. No statement is proved here. -/
import Derived.Test.YticmfflnenoplabTpoolC
namespace Go.Proofs.Yticmfflnenoplab
open Go.RowKit Dv Da Mk
section
attribute [local irreducible] newF devF takeF takeL takeU claimF claimU markU sickL isF usedF lightActs gpu1 sickK padT
set_option maxRecDepth 100000 in
set_option maxHeartbeats 16000000 in
theorem topPool_any (v v2 : Value) (l : List Dev) (acts : List LAct) (w : World) (h : RSlice w w.heap.size 3 RDev [v] l) (h2 : RSlice w w.heap.size 10 (RAct w w.heap.size) [v2] acts) :
    Calls Try.prog 7 #[v, v2] w (RetBB true w) := by
  obtain ⟨A, cap, hv, hl, hcap, hA⟩ := h.form
  obtain rfl : v = _ := by simpa using hv
  obtain ⟨Aa, capa, hv2, hl2, hcapa, hAa⟩ := h2.form
  obtain rfl : v2 = _ := by simpa using hv2
  unfold maxLen at hcap hcapa
  have HA := Lib.hid hA
  have HR := Lib.hid h
  have HAA := Lib.hid hAa
  have HRA := Lib.hid h2
  have HL := Lib.hid (fun (w1 : World) (hb : Below w.heap.size w w1) => lightActs_any (.slice Aa acts.length capa) acts 40 w1 w.heap.size hb.size ((h2.mono fun _ _ h => h.below hb).below hb))
  clear h h2 hv hv2 hA hAa
  have HN0 := Lib.hid gpu1_new
  have HF0 := Lib.hid gpu1_takeF
  have HL0 := Lib.hid gpu1_takeL
  go_enter Try.func7, Try.ntmps7
  go_wp2_with fail
  have kb := Blk.new w 76 #[.string gpu, .int .i64 0, .bool false]
  have hb0 : Below w.heap.size w (w.alloc (.cells #[.string gpu, .int .i64 0, .bool false] 76)) := (Below.refl _ _).alloc (Nat.le_refl _) _
  have hrs : RSlice (w.alloc (.cells #[.string gpu, .int .i64 0, .bool false] 76)) (w.alloc (.cells #[.string gpu, .int .i64 0, .bool false] 76)).heap.size 3 RDev [.slice (some ⟨w.heap.size, 0, none⟩) 1 1] gpu1 := by
    have h := RS.blk (S := (· < (w.alloc (.cells #[.string gpu, .int .i64 0, .bool false] 76)).heap.size)) (R := RDev) (C := 3) (f := Dev.cells) (l := gpu1) kb (by unfold gpu1; rfl) (by unfold gpu1; simp [maxLen]) (fun _ _ => rfl) (fun x hx => ⟨rfl, by
      unfold gpu1 at hx
      obtain rfl : x = _ := List.mem_singleton.1 hx
      exact ⟨show (3 : Nat) ≤ maxLen from by simp [maxLen], by dsimp only; omega⟩⟩) (by simp)
    have e : gpu1.length = 1 := by unfold gpu1; rfl
    rw [e] at h
    exact h
  have HRS := Lib.hid (DvNew_any _ gpu1 _ hrs)
  have HB0 := Lib.hid hb0
  clear kb hb0 hrs
  unfold gpu at HRS HB0
  refine HRS.out.mono ?_
  intro e w1 hP
  have hP2 : NewP gpu1 _ e w1 := hP
  rcases hP2 with ⟨h, _, _⟩ | ⟨_, bp, vl, vu, rfl, his, hbp, hb1⟩
  · exact absurd HN0.out h
  have HT := Lib.hid (Take_any _ bp vl vu gpu1 [false] gpu 1 1 (by omega) w1 (by
    have e : gpu1.length = 1 := by unfold gpu1; rfl
    rw [e] at his
    exact his))
  have HB1 := Lib.hid (HB0.out.trans (hb1.mono HB0.out.size))
  have HVU := Lib.hid (fun q (hq : vu.ownBlock = some q) => (his.ru.lt q hq).1)
  clear hP his hbp hb1 HRS HB0
  unfold gpu at HT
  go_wp2_with fail
  refine HT.out.mono ?_
  intro e w2 hP
  have hP2 : TakeP _ bp vl vu gpu1 [false] gpu 1 1 w1 e w2 := hP
  rcases hP2 with ⟨h, _, _⟩ | ⟨_, A0, c0, rfl, hown, his2, hk⟩
  · exact absurd HF0.out h
  rw [HL0.out]
  have hbw := HB1.out.trans (hk.below HB1.out.size (fun q hq hh => by
    have := HVU.out q hh
    simp at this
    omega))
  clear hown his2 hk hP HT HB1 HVU HN0 HF0 HL0
  by_cases h20 : 20 < l.length
  · go_wp2_with fail
    go_ret
    exact ⟨rfl, hbw⟩
  cases hla : lightActs acts 40
  · rw [hla] at HL
    clear hla
    go_wp2_with fail
    refine (HL.out w2 hbw).mono ?_
    rintro e w3 ⟨rfl, hb3⟩
    go_wp2_with fail
    go_ret
    exact ⟨rfl, hbw.trans (hb3.mono hbw.size)⟩
  rw [hla] at HL
  have hlen : (acts.length : Int) ≤ 40 := by
    simp only [lightActs, Bool.and_eq_true, decide_eq_true_eq] at hla
    exact hla.1
  clear hla
  go_wp2_with fail
  refine (HL.out w2 hbw).mono ?_
  rintro e w3 ⟨rfl, hb3⟩
  have hbw3 := hbw.trans (hb3.mono hbw.size)
  clear HL hb3 hbw
  go_wp2_with fail
  go_loop [8] (fun i => ∃ k : Nat, i = .int .i64 k ∧ k ≤ l.length) (fun i => l.length - (intOf i).toNat)
  case atStart => exact ⟨0, rfl, by omega⟩
  case round =>
    obtain ⟨k, rfl, hk⟩ := hrel
    by_cases hlt : k < l.length
    · obtain ⟨b, off, rfl⟩ := HA.out k hlt
      obtain ⟨hblt, cs', hc1, hc2, hr1, hr2, hr3, hr4⟩ := (HR.out.below hbw3).at_ hlt
      have g0 := hc2 0 (.string l[k].kind) (by rw [hr1]; rfl)
      simp only [Nat.add_zero] at g0
      clear hc2 hr1 hc1
      generalize l[k] = d at *
      obtain ⟨dk, dn, ds⟩ := d
      dsimp only at *
      unfold maxLen at hr2
      by_cases h30 : 30 < dk.size
      · go_wp2_with fail
        go_ret
        exact ⟨rfl, hbw3⟩
      · go_wp2_with fail
        go_round
        case rel => exact ⟨k + 1, by go_num, by omega⟩
        case measure => simp [intOf]; omega
    · obtain rfl : k = l.length := by omega
      have HN1 := Lib.hid (DvNew_any (.slice A l.length cap) l w3 (RSlice.below_up HR.out hbw3))
      clear hk hlt
      go_wp2_with fail
      refine HN1.out.mono ?_
      intro e w4 hP
      have hP2 : NewP l w3 e w4 := hP
      clear hP HN1
      rcases hP2 with ⟨hf, rfl, hb4⟩ | ⟨hf, bp, vl, vu, rfl, his, hbp, hb4⟩
      · have hbw4 := hbw3.trans (hb4.mono hbw3.size)
        rw [errV_pos _ hf]
        clear hb4 hf
        generalize newF l = f
        go_wp2_with fail
        go_ret
        exact ⟨rfl, hbw4⟩
      · have hbw4 := hbw3.trans (hb4.mono hbw3.size)
        have HTP := Lib.hid (TP.start (his.base hbw3.size) (by have := hbw3.size; omega) hbw4 rfl)
        have hl16 := his.rl.many
        clear his hbp hb4 hbw3 hf hbw4
        go_wp2_with fail
        generalize (w4.alloc (.cells #[.bool false, .bool false, .bool false, .bool false, .bool false, .bool false, .bool false, .bool false, .bool false, .bool false, .bool false, .bool false, .bool false, .bool false, .bool false, .bool false] 81)).alloc (.cells #[.bool false, .bool false, .bool false, .bool false, .bool false, .bool false, .bool false, .bool false, .bool false, .bool false, .bool false, .bool false, .bool false, .bool false, .bool false, .bool false] 81) = w5 at *
        generalize w4.heap.size = b9 at *
        go_loopw [11] (fun i wi => ∃ k : Nat, i = .int .i64 k ∧ k ≤ l.length ∧ Hid (TP w wi bp b9 (b9 + 1) vl vu l l (List.replicate l.length false) (List.replicate l.length false) (sickK l k) none 0 [])) (fun i _ => l.length - (intOf i).toNat)
        case atStart => exact ⟨0, rfl, by omega, HTP⟩
        case round =>
          obtain ⟨k, rfl, hk, HT⟩ := hrel
          by_cases hlt : k < l.length
          · obtain ⟨b, off, rfl⟩ := HA.out k hlt
            obtain ⟨hblt, cs', hc1, hc2, hr1, hr2, hr3, hr4⟩ := (HR.out.below HT.out.bel).at_ hlt
            have g2 := hc2 2 (.bool l[k].sick) (by rw [hr1]; rfl)
            have HT2 := Lib.hid (HT.out.setSick hlt l[k].sick)
            rw [← sickK_succ l hlt] at HT2
            have sc := HT.out.sickAt hlt
            generalize (sickK l k)[k]'(by rw [HT.out.hs]; exact hlt) = bs at *
            have sf := HT.out.sick.frozens
            have sl := HT.out.sick.lt
            clear hc2 hr1 hc1 hr2 hr3 hr4 HT HTP
            generalize l[k].sick = ds at *
            go_wp2_with fail
            go_roundw
            case rel => exact ⟨k + 1, by go_num, by omega, HT2⟩
            case measure => simp [intOf]; omega
          · obtain rfl : k = l.length := by omega
            have hTK : TK w wr bp b9 (b9 + 1) vl vu l (.slice none 0 0) := ⟨l, _, none, 0, [], rfl, rfl, by have := HT.out; rwa [sickK_all] at this, good_nil _ _⟩
            have HTK := Lib.hid hTK
            clear HT HTP hTK hk hlt
            go_wp2_with fail
            go_loopw [12, 13] (fun v12 i wi => ∃ k : Nat, i = .int .i64 k ∧ k ≤ acts.length ∧ Hid (TK w wi bp b9 (b9 + 1) vl vu l v12)) (fun _ i _ => acts.length - (intOf i).toNat)
            case atStart => exact ⟨0, rfl, by omega, HTK⟩
            case round =>
              clear HTK
              obtain ⟨k, rfl, hk, HK⟩ := hrel
              obtain ⟨lp, u, AL, cL, last, rfl, hlp, htp, hgo⟩ := HK.out.ex
              have hbl := htp.bel
              by_cases hlt : k < acts.length
              · obtain ⟨b, off, rfl⟩ := HAA.out k hlt
                obtain ⟨hblt, cs', hc1, hc2, lv, p0, p1, p2, uv, hr1, hr2, hr3, hr4, hr5, hr6, hls, hpd, hus⟩ := (HRA.out.below hbl).at_ hlt
                obtain ⟨A5, n5, c5, rfl⟩ := dv_slice_val hls
                obtain ⟨A9, n9, c9, rfl⟩ := dv_slice_val hus
                obtain ⟨A8, n8, c8, rfl, rfl, rfl⟩ := dv_pod_val hpd
                clear hls hpd hus
                have g0 := hc2 0 _ (by rw [hr1]; rfl)
                have g1 := hc2 1 _ (by rw [hr1]; rfl)
                have g2 := hc2 2 _ (by rw [hr1]; rfl)
                have g3 := hc2 3 _ (by rw [hr1]; rfl)
                have g4 := hc2 4 _ (by rw [hr1]; rfl)
                have g5 := hc2 5 _ (by rw [hr1]; rfl)
                have g6 := hc2 6 _ (by rw [hr1]; rfl)
                have g7 := hc2 7 _ (by rw [hr1]; rfl)
                have g8 := hc2 8 _ (by rw [hr1]; rfl)
                have g9 := hc2 9 _ (by rw [hr1]; rfl)
                simp only [Nat.add_zero] at g0
                clear hc2 hr1 hc1
                unfold maxLen at hr2 hr3
                generalize acts[k] = x at *
                obtain ⟨kind, str, xa, xb, xm, xl, xp, xu⟩ := x
                dsimp only at *
                obtain ⟨on, rfl⟩ : ∃ on : Nat, xm = on := ⟨xm.toNat, by omega⟩
                have hon : on < 256 := by omega
                have ka := Blk.new wr 84 #[.string kind, .string str, .int .i64 xa, .int .i64 xb, .int .u8 on, .slice A5 n5 c5, .string xp.name, .int .i64 xp.prio, .slice A8 n8 c8, .slice A9 n9 c9]
                have hba : Below wr.heap.size wr (wr.alloc (.cells #[.string kind, .string str, .int .i64 xa, .int .i64 xb, .int .u8 on, .slice A5 n5 c5, .string xp.name, .int .i64 xp.prio, .slice A8 n8 c8, .slice A9 n9 c9] 84)) := (Below.refl _ _).alloc (Nat.le_refl _) _
                have HT1 := Lib.hid (htp.below hba)
                have HG := Lib.hid hgo
                clear htp hgo hba HK hr6 hbl
                go_upto_region 28 with fail
                generalize wr.alloc (.cells #[.string kind, .string str, .int .i64 xa, .int .i64 xb, .int .u8 on, .slice A5 n5 c5, .string xp.name, .int .i64 xp.prio, .slice A8 n8 c8, .slice A9 n9 c9] 84) = wa at *
                generalize wr.heap.size = pa at *
                clear g0 g1 g2 g3 g4 g5 g6 g7 g8 g9
                have la := ka.lt
                have e0 := ka.cells
                go_upto_block 6 with fail
                go_cut [12] (fun v12 wx => Hid (TK w wx bp b9 (b9 + 1) vl vu l v12))
                case first =>
                  go_wp2_with fail
                  · as_aux_lemma =>
                    have HTA := Lib.hid (Take_any w.heap.size bp vl vu lp u str xa on hon wa HT1.out.p)
                    have HB1 := Lib.hid (HT1.out.bel.size)
                    go_wp2_with fail
                    refine HTA.out.mono ?_
                    intro e w5 hP
                    have hP2 : TakeP w.heap.size bp vl vu lp u str xa on wa e w5 := hP
                    clear hP HTA
                    rcases hP2 with ⟨hf, rfl, hb5⟩ | ⟨hf, A6, c6, rfl, hown5, hp5, hk5⟩
                    · have HT5 := Lib.hid (HT1.out.below hb5)
                      rw [errV_pos _ hf]
                      generalize takeF str xa on lp u = f at *
                      clear hb5 hf e0 HT1
                      go_wp2_with fail
                      go_roundw
                      case rel => exact ⟨k + 1, by go_num, by omega, Lib.hid ⟨lp, u, AL, cL, last, rfl, hlp, HT5.out, HG.out⟩⟩
                      case measure => simp [intOf]; omega
                    · have HUL := Lib.hid HT1.out.p.len
                      have HX := Lib.hid (TkX.of HT1.out.p.len HT1.out.p.rl.many hf)
                      rw [takeU_is hf] at hp5
                      have ka5 := ka.kept hk5 (HT1.out.act ka).2.1
                      have HT5 := Lib.hid ((HT1.out.onU hp5 hk5).newRow (dv_base hown5 HB1.out))
                      have l16 := HT1.out.p.rl.many
                      generalize takeL str xa on lp u = x at *
                      have xfew := HX.out.few
                      have hxl : ((x.length : Int) != xa) = false := by have := HX.out.len; simp [this]
                      have e5 := ka5.cells
                      have HKA5 := Lib.hid ka5
                      have l5 := ka5.lt
                      clear hf hown5 hp5 hk5 e0 HT1 HB1 HG ka la ka5
                      go_wp2_with fail
                      clear hxl
                      go_loopw [17] (fun i wi => ∃ j : Nat, i = .int .i64 j ∧ j ≤ x.length ∧ Hid (TP w wi bp b9 (b9 + 1) vl vu l lp (markU u true x) (markU u true (x.take j)) (lp.map Dev.sick) A6 c6 x) ∧ Hid (Blk wi pa 84 #[.string kind, .string str, .int .i64 xa, .int .i64 xb, .int .u8 on, .slice A5 n5 c5, .string xp.name, .int .i64 xp.prio, .slice A8 n8 c8, .slice A9 n9 c9])) (fun i _ => x.length - (intOf i).toNat)
                      case atStart => exact ⟨0, rfl, by omega, Lib.hid (by have := HT5.out; unfold markU at *; exact this), HKA5⟩
                      case round =>
                        clear HT5 HKA5 e5 l5
                        obtain ⟨j, rfl, hj, HT6, HK6⟩ := hrel
                        by_cases hjl : j < x.length
                        · obtain ⟨g, rfl, hg⟩ := HT6.out.lastAddr hjl
                          obtain ⟨n, hn, hxn, hun, hkn, hsn⟩ := HX.out.at_ j hjl
                          have cx := HT6.out.lastAt hjl hxn
                          have cm := HT6.out.mineAt hn
                          rw [HX.out.mine HUL.out hjl hxn hn] at cm
                          have cs := HT6.out.sickAt hn
                          rw [List.getElem_map, hsn] at cs
                          have hnl : n < l.length := by omega
                          obtain ⟨b0, off0, rfl⟩ := HA.out n hnl
                          obtain ⟨hblt0, cs0, hc1, hc2, hr10, hr20, hr30, hr40⟩ := (HR.out.below HT6.out.bel).at_ hnl
                          have g0 := hc2 0 (.string l[n].kind) (by rw [hr10]; rfl)
                          simp only [Nat.add_zero] at g0
                          obtain ⟨_, hk0⟩ := HT6.out.kindAt hn
                          rw [← hk0, hkn] at g0
                          have e6 := HK6.out.cells
                          have l6 := HK6.out.lt
                          have HT7 := Lib.hid (HT6.out.setMine hn true)
                          rw [mark_next hjl hxn] at HT7
                          have HM := Lib.hid (HT6.out.act HK6.out)
                          have HN := Lib.hid (fun (nq : Nat) => (HT6.out.drewN nq).setMine hn true)
                          have HXN := Lib.hid (mark_next (u := u) (b := true) hjl hxn)
                          have HSZ := Lib.hid HT6.out.bel.size
                          have HLA := Lib.hid (fun i (hi : i < x.length) (m : Nat) (he : x[i] = m) => HT6.out.lastAt hi he)
                          clear hc2 hr10 hc1 hr20 hr30 hr40 hk0 hkn hsn hun
                          have l9 := HT6.out.mine.lt
                          have l10 := HT6.out.sick.lt
                          have f9 := HT6.out.mine.frozens
                          have hn16 : n < 16 := by omega
                          have hn16i : (n : Int) < 16 := by omega
                          clear HT6
                          have hgx : b0 < wr.heap.size := by have := HSZ.out; omega
                          cases j with
                          | zero =>
                            have HXN0 := Lib.hid hxn
                            clear hxn
                            go_wp2_with fail
                            have hI := (Below.refl wr.heap.size wr).drew
                            refine Flo.region 59 [(0, true), (1, true), (2, true), (3, true), (4, true), (5, true), (6, true), (7, true), (8, true), (9, true), (10, true), (11, true), (12, true), (13, true), (14, true), (15, true), (16, true), (17, true), (18, true), (19, true), (20, true), (21, true), (22, true), (23, true), (24, true), (25, true), (26, true), (27, true), (28, true), (29, true), (30, true), (31, true), (32, true), (33, true), (34, true), (35, true), (36, true), (37, true), (38, true), (39, true), (40, true), (41, true), (42, true), (43, true), (44, true), (45, true), (46, true), (47, true), (48, true), (49, true), (50, true), (51, true), (52, true), (53, true), (54, true), (55, true), (56, true), (57, true), (58, true)] (fun v => Below wr.heap.size wr v) (by as_aux_lemma => kernel_rfl) (by as_aux_lemma => kernel_rfl) rfl hI ?_
                            simp only [List.drop_succ_cons, List.drop_zero]
                            iterate 59 (apply Flo.op rfl (hI := hI); (· intro v hv K hK; obtain ⟨hc, hf⟩ := Flo.bcl hv; go_wp2_with fail; all_goals first | exact Flo.noUndef (by with_reducible assumption) | exact hK); (· rfl))
                            refine Flo.tail fun K hK => ?_
                            go_wp2_with fail
                            go_roundw
                            case rel => exact ⟨1, by simp, by omega, Lib.hid (by rw [← HXN.out]; exact HN.out 1), Lib.hid ((HK6.out.drewN 1).far HM.out.2.2.1 _)⟩
                            case measure => simp [intOf]; omega
                          | succ q =>
                            obtain ⟨m, hxm⟩ : ∃ m : Nat, x[q]'(by omega) = m := by obtain ⟨m, _, h, _⟩ := HX.out.at_ q (by omega); exact ⟨m, h⟩
                            have cx2 := HLA.out q (by omega) m hxm
                            have hmn : m < n := by have := HX.out.up (q + 1) (by omega) hjl; simp only [Nat.add_sub_cancel] at this; omega
                            have HXN0 := Lib.hid hxn
                            clear hxn hxm
                            go_wp2_with fail
                            have hI := (Below.refl wr.heap.size wr).drew
                            refine Flo.region 59 [(0, true), (1, true), (2, true), (3, true), (4, true), (5, true), (6, true), (7, true), (8, true), (9, true), (10, true), (11, true), (12, true), (13, true), (14, true), (15, true), (16, true), (17, true), (18, true), (19, true), (20, true), (21, true), (22, true), (23, true), (24, true), (25, true), (26, true), (27, true), (28, true), (29, true), (30, true), (31, true), (32, true), (33, true), (34, true), (35, true), (36, true), (37, true), (38, true), (39, true), (40, true), (41, true), (42, true), (43, true), (44, true), (45, true), (46, true), (47, true), (48, true), (49, true), (50, true), (51, true), (52, true), (53, true), (54, true), (55, true), (56, true), (57, true), (58, true)] (fun v => Below wr.heap.size wr v) (by as_aux_lemma => kernel_rfl) (by as_aux_lemma => kernel_rfl) rfl hI ?_
                            simp only [List.drop_succ_cons, List.drop_zero]
                            iterate 59 (apply Flo.op rfl (hI := hI); (· intro v hv K hK; obtain ⟨hc, hf⟩ := Flo.bcl hv; go_wp2_with fail; all_goals first | exact Flo.noUndef (by with_reducible assumption) | exact hK); (· rfl))
                            refine Flo.tail fun K hK => ?_
                            go_wp2_with fail
                            go_roundw
                            case rel => exact ⟨q + 2, by first | (congr 1; omega) | go_num, by omega, Lib.hid (by rw [← HXN.out]; exact HN.out 1), Lib.hid ((HK6.out.drewN 1).far HM.out.2.2.1 _)⟩
                            case measure => simp [intOf]; omega
                        · obtain rfl : j = x.length := by omega
                          have HT7 := Lib.hid HT6.out
                          rw [List.take_length] at HT7
                          clear HT6 hj hjl
                          go_wp2_with fail
                          go_meet
                          exact Lib.hid ⟨lp, _, _, _, x, rfl, hlp, HT7.out, HX.out.good HUL.out⟩
                  · as_aux_lemma =>
                    have HUL := Lib.hid HT1.out.p.len
                    have HT5 : Hid (TP w wa bp b9 (b9 + 1) vl vu l lp u (markU u false (last.take 0)) (lp.map Dev.sick) AL cL last) := Lib.hid (by have := HT1.out; unfold markU at *; exact this)
                    have HKA5 := Lib.hid ka
                    have hlb : last.length ≤ 9223372036854775807 := by obtain ⟨_, _, e, h1, h2, _⟩ := own_form HT1.out.row; unfold maxLen at h2; omega
                    clear e0 la ka
                    go_wp2_with fail
                    go_loopw [18] (fun i wi => ∃ j : Nat, i = .int .i64 j ∧ j ≤ last.length ∧ Hid (TP w wi bp b9 (b9 + 1) vl vu l lp u (markU u false (last.take j)) (lp.map Dev.sick) AL cL last) ∧ Hid (Blk wi pa 84 #[.string kind, .string str, .int .i64 xa, .int .i64 xb, .int .u8 on, .slice A5 n5 c5, .string xp.name, .int .i64 xp.prio, .slice A8 n8 c8, .slice A9 n9 c9])) (fun i _ => last.length - (intOf i).toNat)
                    case atStart => exact ⟨0, rfl, by omega, HT5, HKA5⟩
                    case round =>
                      clear HT5 HKA5 HT1
                      obtain ⟨j, rfl, hj, HT6, HK6⟩ := hrel
                      by_cases hjl : j < last.length
                      · obtain ⟨g, rfl, hg⟩ := HT6.out.lastAddr hjl
                        obtain ⟨n, hxn, hn, _⟩ := good_drop HG.out hjl
                        have cx := HT6.out.lastAt hjl hxn
                        have cm := HT6.out.mineAt hn
                        generalize (markU u false (last.take j))[n]'(by rw [HT6.out.hm]; exact hn) = bm at *
                        have hn16 : n < 16 := by have := HT6.out.p.rl.many; omega
                        have l9 := HT6.out.mine.lt
                        have f9 := HT6.out.mine.frozens
                        have HM := Lib.hid (HT6.out.act HK6.out)
                        have HT7 := Lib.hid (HT6.out.setMine hn false)
                        rw [mark_next hjl hxn] at HT7
                        have HXN0 := Lib.hid hxn
                        clear hxn HT6
                        go_wp2_with fail
                        go_roundw
                        case rel => exact ⟨j + 1, by go_num, by omega, HT7, Lib.hid (HK6.out.far HM.out.2.2.1 _)⟩
                        case measure => simp [intOf]; omega
                      · obtain rfl : j = last.length := by omega
                        have HT7 := Lib.hid HT6.out
                        rw [List.take_length] at HT7
                        have HGV := Lib.hid (Give_any w.heap.size bp vl vu (.slice AL last.length cL) lp u last _ wr HT7.out.p (HT7.out.lastRS HG.out HT7.out.p.rl.many) HT7.out.lastSep)
                        have HCF := Lib.hid (claim_good HG.out HUL.out)
                        have HCU : Hid (claimU u true last = markU u false last) := Lib.hid (by unfold claimU; rw [if_pos HCF.out]; rfl)
                        clear HT6 hj hjl
                        go_wp2_with fail
                        refine HGV.out.mono ?_
                        intro e w6 hP
                        have hP2 : ClaimP w.heap.size bp vl vu lp u true last wr e w6 := hP
                        obtain ⟨rfl, hp6, hk6⟩ := hP2
                        rw [HCF.out, errV_0]
                        rw [HCU.out] at hp6
                        have HT8 := Lib.hid (HT7.out.onU hp6 hk6).noRow
                        clear hP hp6 hk6 HT7 HGV
                        go_wp2_with fail
                        go_meet
                        exact Lib.hid ⟨lp, _, none, 0, [], rfl, hlp, HT8.out, good_nil _ _⟩
                  · as_aux_lemma =>
                    have HSI := Lib.hid (Sick_any w.heap.size bp vl vu lp u xa true wa HT1.out.p)
                    go_wp2_with fail
                    refine HSI.out.mono ?_
                    intro e w6 hP
                    have hP2 : SickP w.heap.size bp vl vu lp u xa true wa e w6 := hP
                    obtain ⟨rfl, hp6, hk6⟩ := hP2
                    have ka6 := ka.kept hk6 (HT1.out.act ka).1
                    have HT6 := Lib.hid (HT1.out.onL hp6 (sickL_len _ _ _) (sickL_kinds _ _) hk6)
                    rcases isF_01 lp.length xa with ⟨hf, hx⟩ | ⟨hf, hx0, hx1⟩
                    · rw [hf, errV_pos 1 (by omega)]
                      rw [sickL_bad hx] at HT6
                      clear hP hp6 hk6 e0 HSI hf hx
                      go_wp2_with fail
                      go_meet
                      exact Lib.hid ⟨lp, u, AL, cL, last, rfl, hlp, HT6.out, HG.out⟩
                    · obtain ⟨q, rfl⟩ : ∃ q : Nat, xa = q := ⟨xa.toNat, by omega⟩
                      have hql : q < lp.length := by omega
                      have hqs : q < (sickL lp q true).length := by rw [sickL_len]; exact hql
                      have hq16 : q < 16 := by have := HT6.out.p.rl.many; rw [sickL_len] at this; omega
                      have cs := HT6.out.sickAt hqs
                      rw [List.getElem_map] at cs
                      have HT7 := Lib.hid (HT6.out.setSick hqs true)
                      rw [← sickL_map hql] at HT7
                      have l10 := HT6.out.sick.lt
                      have f10 := HT6.out.sick.frozens
                      have e6 := ka6.cells
                      have l6 := ka6.lt
                      rw [hf, errV_0]
                      generalize lp[q].sick = bs at *
                      clear hP hp6 hk6 e0 HSI hf hx0 hx1 HT6 ka
                      go_wp2_with fail
                      go_meet
                      exact Lib.hid ⟨_, u, AL, cL, last, rfl, by rw [sickL_len]; exact hlp, HT7.out, by rw [sickL_len]; exact HG.out⟩
                  · go_meet
                    exact Lib.hid ⟨lp, u, AL, cL, last, rfl, hlp, HT1.out, HG.out⟩
                case rest =>
                  clear HT1 HG e0 la ka hlp
                  obtain ⟨lp2, u2, A2, c2, last2, rfl, hlp2, hT2, hG2⟩ := hcut.out.ex
                  have HT2 := Lib.hid hT2
                  have HG2 := Lib.hid hG2
                  have l9 := HT2.out.mine.lt
                  clear hcut hT2 hG2
                  go_wp2_with fail
                  go_loop [19] (fun i => ∃ j : Nat, i = .int .i64 j ∧ j ≤ l.length) (fun i => l.length - (intOf i).toNat)
                  case atStart => exact ⟨0, rfl, by omega⟩
                  case round =>
                    obtain ⟨j, rfl, hj⟩ := hrel
                    by_cases hjl : j < l.length
                    · have hjp : j < lp2.length := by omega
                      have hju : j < u2.length := by have := HT2.out.p.len; omega
                      have hj16 : j < 16 := by omega
                      have HUS := Lib.hid (Used_any w.heap.size bp vl vu lp2 u2 j _ HT2.out.p)
                      rw [usedF_ok hju, isF_ok (by omega) (by omega)] at HUS
                      unfold UsedP at HUS
                      rw [errV_0] at HUS
                      have cm := HT2.out.mineAt hjp
                      generalize u2[j] = bu at *
                      clear HG2
                      cases bu
                      all_goals
                        go_wp2_with fail
                        refine HUS.out.mono ?_
                        rintro e w6 ⟨rfl, rfl⟩
                        go_wp2_with fail
                        go_round
                        case rel => exact ⟨j + 1, by go_num, by omega⟩
                        case measure => simp [intOf]; omega
                    · obtain rfl : j = l.length := by omega
                      go_wp2_with fail
                      go_roundw
                      case rel => exact ⟨k + 1, by go_num, by omega, Lib.hid ⟨lp2, u2, A2, c2, last2, rfl, hlp2, HT2.out, HG2.out⟩⟩
                      case measure => simp [intOf]; omega
              · obtain rfl : k = acts.length := by omega
                clear hk htp
                go_wp2_with fail
                go_ret
                exact ⟨rfl, hbl⟩
end
end Go.Proofs.Yticmfflnenoplab
