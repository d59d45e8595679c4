/- DevicesSays: its walk. No statement is proved here. -/
import Derived.Test.YticmfflnenoplaaDvM
namespace Go.Proofs.Yticmfflnenoplaa
open Go.RowKit Dv Da Mk
section
attribute [local irreducible] newF devF takeF takeL takeU claimF claimU cAll cFree sickL isF usedF lightActs
set_option maxRecDepth 100000 in
set_option maxHeartbeats 16000000 in
theorem devicesSays_any (v v2 : Value) (l : List Dev) (acts : List LAct) (w : World) (h : RSlice w w.heap.size 3 RDev [v] l) (h2 : RSlice w w.heap.size 10 (RAct w w.heap.size) [v2] acts) :
    Calls Try.prog 11 #[v, v2] w (RetBB true w) := by
  obtain ⟨A, cap, hv, hl, hcap, hA⟩ := h.form
  obtain rfl : v = _ := by simpa using hv
  obtain ⟨Aa, capa, hv2, hl2, hcapa, hAa⟩ := h2.form
  obtain rfl : v2 = _ := by simpa using hv2
  unfold maxLen at hcap hcapa
  have HA := Lib.hid hA
  have HR := Lib.hid h
  have HAA := Lib.hid hAa
  have HRA := Lib.hid h2
  have HL := Lib.hid (fun (w1 : World) (hb : Below w.heap.size w w1) => lightActs_any (.slice Aa acts.length capa) acts 60 w1 w.heap.size hb.size ((h2.mono fun _ _ h => h.below hb).below hb))
  clear h h2 hv hv2 hA hAa
  by_cases h20 : 20 < l.length
  · go_enter Try.func11, Try.ntmps11
    go_wp2_with fail
    refine (pools_any _).mono ?_
    rintro e w1 ⟨rfl, hb1⟩
    go_wp2_with fail
    go_ret
    exact ⟨rfl, hb1⟩
  cases hla : lightActs acts 60
  · rw [hla] at HL
    clear hla
    go_enter Try.func11, Try.ntmps11
    go_wp2_with fail
    refine (pools_any _).mono ?_
    rintro e w1 ⟨rfl, hb1⟩
    go_wp2_with fail
    refine (HL.out w1 hb1).mono ?_
    rintro e w2 ⟨rfl, hb2⟩
    go_wp2_with fail
    go_ret
    exact ⟨rfl, hb1.trans (hb2.mono hb1.size)⟩
  rw [hla] at HL
  have hlen : (acts.length : Int) ≤ 60 := by
    simp only [lightActs, Bool.and_eq_true, decide_eq_true_eq] at hla
    exact hla.1
  clear hla
  go_enter Try.func11, Try.ntmps11
  go_wp2_with fail
  refine (pools_any _).mono ?_
  rintro e w1 ⟨rfl, hb1⟩
  go_wp2_with fail
  refine (HL.out w1 hb1).mono ?_
  rintro e w2 ⟨rfl, hb2⟩
  clear HL
  have hbw := hb1.trans (hb2.mono hb1.size)
  clear hb1 hb2
  go_wp2_with fail
  go_loop [6] (fun i => ∃ k : Nat, i = .int .i64 k ∧ k ≤ l.length) (fun i => l.length - (intOf i).toNat)
  case atStart => exact ⟨0, rfl, by omega⟩
  case round =>
    obtain ⟨k, rfl, hk⟩ := hrel
    by_cases hlt : k < l.length
    · obtain ⟨b, off, rfl⟩ := HA.out k hlt
      obtain ⟨hblt, cs', hc1, hc2, hr1, hr2, hr3, hr4⟩ := (HR.out.below hbw).at_ hlt
      have g0 := hc2 0 (.string l[k].kind) (by rw [hr1]; rfl)
      simp only [Nat.add_zero] at g0
      clear hc2 hr1 hc1
      generalize l[k] = d at *
      obtain ⟨dk, dn, ds⟩ := d
      dsimp only at *
      unfold maxLen at hr2
      by_cases h30 : 30 < dk.size
      · go_wp2_with fail
        go_ret
        exact ⟨rfl, hbw⟩
      · go_wp2_with fail
        go_round
        case rel => exact ⟨k + 1, by go_num, by omega⟩
        case measure => simp [intOf]; omega
    · obtain rfl : k = l.length := by omega
      have HN1 := Lib.hid (DvNew_any (.slice A l.length cap) l w2 (RSlice.below_up HR.out hbw))
      have HN2 := Lib.hid (fun w3 (hb : Below w.heap.size w w3) => RNew_any (.slice A l.length cap) l w3 (RSlice.below_up HR.out hb))
      clear hk hlt
      go_wp2_with fail
      refine HN1.out.mono ?_
      intro e w3 hP
      have hP2 : NewP l w2 e w3 := hP
      clear hP
      rcases hP2 with ⟨hf, rfl, hb3⟩ | ⟨hf, bp, vl, vu, rfl, his, hbp, hb3⟩
      · have hbw3 := hbw.trans (hb3.mono hbw.size)
        clear hb3
        go_wp2_with fail
        refine (HN2.out w3 hbw3).mono ?_
        intro e w4 hP
        have hP2 : RNewP l w3 e w4 := hP
        clear hP
        rcases hP2 with ⟨_, rfl, hb4⟩ | ⟨hf2, _⟩
        · have hpos := newF_pos hf
          have hbw4 := hbw3.trans (hb4.mono hbw3.size)
          have HSA := Lib.hid (fun W => same_yes (newF l) (by omega) W)
          generalize newF l = f at *
          clear hf hb4
          go_wp2_with fail
          refine (HSA.out _).mono ?_
          rintro e w5 ⟨rfl, rfl⟩
          go_wp2_with fail
          go_ret
          exact ⟨rfl, hbw4⟩
        · exact absurd hf2 hf
      · have hbw3 := hbw.trans (hb3.mono hbw.size)
        go_wp2_with fail
        refine (HN2.out w3 hbw3).mono ?_
        intro e w4 hP
        have hP2 : RNewP l w3 e w4 := hP
        clear hP
        rcases hP2 with ⟨hf2, _⟩ | ⟨_, bm, vm, rfl, him, hbm, hb4⟩
        · exact absurd hf hf2
        · have hDS : DSK w w4 bp bm vl vu vm l.length := ⟨l, _, rfl, DS.start hbw his hbp hb3 him hbm hb4⟩
          have HDS := Lib.hid hDS
          have HL16 := Lib.hid his.rl.many
          clear hDS hbw3 hb3 hb4 his him hbp hbm hf HN1 HN2 hbw
          go_wp2_with fail
          go_loopw [11] (fun i wr => ∃ k : Nat, i = .int .i64 k ∧ k ≤ acts.length ∧ Hid (DSK w wr bp bm vl vu vm l.length)) (fun i _ => acts.length - (intOf i).toNat)
          case atStart => exact ⟨0, rfl, by omega, HDS⟩
          case round =>
            clear HDS
            obtain ⟨k, rfl, hk, HK⟩ := hrel
            obtain ⟨lp, u, hlp, hds⟩ := HK.out
            have hbl := hds.bel
            by_cases hlt : k < acts.length
            · obtain ⟨b, off, rfl⟩ := HAA.out k hlt
              obtain ⟨hblt, cs', hc1, hc2, lv, p0, p1, p2, uv, hr1, hr2, hr3, hr4, hr5, hr6, hls, hpd, hus⟩ := (HRA.out.below hbl).at_ hlt
              obtain ⟨A5, n5, c5, rfl⟩ := dv_slice_val hls
              obtain ⟨A9, n9, c9, rfl⟩ := dv_slice_val hus
              obtain ⟨A8, n8, c8, rfl, rfl, rfl⟩ := dv_pod_val hpd
              have HLS := Lib.hid (RS.of hls)
              clear hls hpd hus
              have g0 := hc2 0 _ (by rw [hr1]; rfl)
              have g1 := hc2 1 _ (by rw [hr1]; rfl)
              have g2 := hc2 2 _ (by rw [hr1]; rfl)
              have g3 := hc2 3 _ (by rw [hr1]; rfl)
              have g4 := hc2 4 _ (by rw [hr1]; rfl)
              have g5 := hc2 5 _ (by rw [hr1]; rfl)
              have g6 := hc2 6 _ (by rw [hr1]; rfl)
              have g7 := hc2 7 _ (by rw [hr1]; rfl)
              have g8 := hc2 8 _ (by rw [hr1]; rfl)
              have g9 := hc2 9 _ (by rw [hr1]; rfl)
              simp only [Nat.add_zero] at g0
              clear hc2 hr1 hc1
              unfold maxLen at hr2 hr3
              generalize acts[k] = x at *
              obtain ⟨kind, str, xa, xb, xm, xl, xp, xu⟩ := x
              dsimp only at *
              obtain ⟨on, rfl⟩ : ∃ on : Nat, xm = on := ⟨xm.toNat, by omega⟩
              have hon : on < 256 := by omega
              have ka := Blk.new wr 36 #[.string kind, .string str, .int .i64 xa, .int .i64 xb, .int .u8 on, .slice A5 n5 c5, .string xp.name, .int .i64 xp.prio, .slice A8 n8 c8, .slice A9 n9 c9]
              have hba : Below wr.heap.size wr (wr.alloc (.cells #[.string kind, .string str, .int .i64 xa, .int .i64 xb, .int .u8 on, .slice A5 n5 c5, .string xp.name, .int .i64 xp.prio, .slice A8 n8 c8, .slice A9 n9 c9] 36)) := (Below.refl _ _).alloc (Nat.le_refl _) _
              have HD1 := Lib.hid (hds.below hba)
              have HLS1 : Hid (RS (wr.alloc (.cells #[.string kind, .string str, .int .i64 xa, .int .i64 xb, .int .u8 on, .slice A5 n5 c5, .string xp.name, .int .i64 xp.prio, .slice A8 n8 c8, .slice A9 n9 c9] 36)) (· < w.heap.size) 1 RInt [.slice A5 n5 c5] xl) := Lib.hid (HLS.out.move (S' := (· < w.heap.size)) (R' := RInt) (fun b hb => (hbl.alloc hbl.size _).block b hb) (fun _ h => h) (fun _ _ _ h => h))
              clear hds HLS hba HK hr6
              go_upto_region 19 with fail
              generalize wr.alloc (.cells #[.string kind, .string str, .int .i64 xa, .int .i64 xb, .int .u8 on, .slice A5 n5 c5, .string xp.name, .int .i64 xp.prio, .slice A8 n8 c8, .slice A9 n9 c9] 36) = wa at *
              generalize wr.heap.size = pa at *
              clear g0 g1 g2 g3 g4 g5 g6 g7 g8 g9
              have la := ka.lt
              have e0 := ka.cells
              go_upto_block 4 with fail
              go_cut [13] (fun ok wx => ok = .bool true ∧ Hid (DSK w wx bp bm vl vu vm l.length) ∧ Hid (Blk wx pa 36 #[.string kind, .string str, .int .i64 xa, .int .i64 xb, .int .u8 on, .slice A5 n5 c5, .string xp.name, .int .i64 xp.prio, .slice A8 n8 c8, .slice A9 n9 c9]))
              case first =>
               go_wp2_with fail
               · as_aux_lemma =>
                   have HTA := Lib.hid (Take_any w.heap.size bp vl vu lp u str xa on hon wa HD1.out.p)
                   have hTB := takeL_bound (k := str) (many := xa) (on := on) (l := lp) (u := u) HD1.out.p.rl.many
                   have HTB := Lib.hid hTB
                   have HSA := Lib.hid (fun W => same_yes (takeF str xa on lp u) takeF_nn W)
                   have HTU0 : Hid (takeF str xa on lp u ≠ 0 → takeU str xa on lp u = u) := Lib.hid (fun h => by unfold takeU; rw [if_neg h])
                   clear hTB HLS1
                   go_wp2_with fail
                   refine HTA.out.mono ?_
                   intro e w5 hP
                   have hP2 : TakeP w.heap.size bp vl vu lp u str xa on wa e w5 := hP
                   clear hP HTA
                   rcases hP2 with ⟨hf, rfl, hb5⟩ | ⟨hf, A6, c6, rfl, hown5, hp5, hk5⟩
                   · have HD5 := Lib.hid (HD1.out.below hb5)
                     have ka5 := ka.below hb5 la
                     have e5 := ka5.cells
                     have HTA := Lib.hid (RTake_any w.heap.size bm vm lp u str xa on hon w5 HD5.out.m)
                     have HF := Lib.hid hf
                     clear hb5 e0 HD1 hf
                     go_wp2_with fail
                     refine HTA.out.mono ?_
                     intro e w6 hP
                     have hP2 : RTakeP w.heap.size bm vm lp u str xa on w5 e w6 := hP
                     clear hP HTA
                     rcases hP2 with ⟨_, rfl, hb6⟩ | ⟨hf2, _⟩
                     · have HD6 := Lib.hid (HD5.out.below hb6)
                       have ka6 := ka5.below hb6 ka5.lt
                       have HSN := Lib.hid (SameN_any (.slice none 0 0) (.slice none 0 0) [] _ _ w6 (by simp) (rs_nil w6) (rs_nil w6) (fun _ h => h.elim) (fun _ h => h.elim))
                       generalize takeF str xa on lp u = f at *
                       clear hb6 e5
                       go_wp2_with fail
                       refine HSN.out.mono ?_
                       rintro e w7 ⟨rfl, hb7⟩
                       go_wp2_with fail
                       refine (HSA.out _).mono ?_
                       rintro e w8 ⟨rfl, rfl⟩
                       go_wp2_with fail
                       go_meet
                       exact ⟨rfl, Lib.hid ⟨lp, _, hlp, HD6.out.below hb7⟩, Lib.hid (ka6.below hb7 ka6.lt)⟩
                     · exact absurd hf2 HF.out
                   · have HD5 := Lib.hid (HD1.out.onU hp5 hk5)
                     have ka5 := ka.kept hk5 (HD1.out.act ka).2.1
                     have e5 := ka5.cells
                     have HTA := Lib.hid (RTake_any w.heap.size bm vm lp u str xa on hon w5 HD5.out.m)
                     have HF := Lib.hid hf
                     have HO5 := Lib.hid hown5
                     clear hp5 hk5 hf hown5 e0 HD1
                     go_wp2_with fail
                     refine HTA.out.mono ?_
                     intro e w6 hP
                     have hP2 : RTakeP w.heap.size bm vm lp u str xa on w5 e w6 := hP
                     clear hP HTA
                     rcases hP2 with ⟨hf2, _, _⟩ | ⟨_, A7, c7, rfl, hown6, hm6, hk6⟩
                     · exact absurd HF.out hf2
                     · have HD6 := Lib.hid (HD5.out.onM hm6 hk6)
                       have ka6 := ka5.kept hk6 (HD5.out.act ka5).2.2.2.2
                       have ho5 := own_kept HO5.out hk6 (fun q hq hh => by subst hh; exact own_blk_ne HO5.out HD5.out.m.blk (by decide) hq)
                       have HSN := Lib.hid (SameN_any _ _ (takeL str xa on lp u) _ _ w6 HTB.out.2 (rs_own ho5 HTB.out.1) (rs_own hown6 HTB.out.1) (fun b hb => (ho5.lt b hb).2) (fun b hb => (hown6.lt b hb).2))
                       rw [HF.out] at HSA
                       clear hm6 hk6 ho5 hown6 e5
                       go_wp2_with fail
                       refine HSN.out.mono ?_
                       rintro e w7 ⟨rfl, hb7⟩
                       go_wp2_with fail
                       refine (HSA.out _).mono ?_
                       rintro e w8 ⟨rfl, rfl⟩
                       go_wp2_with fail
                       go_meet
                       exact ⟨rfl, Lib.hid ⟨lp, _, hlp, HD6.out.below hb7⟩, Lib.hid (ka6.below hb7 ka6.lt)⟩
               · as_aux_lemma =>
                   have hI : Blk wa.drew pa 36 #[.string kind, .string str, .int .i64 xa, .int .i64 xb, .int .u8 on, .slice A5 n5 c5, .string xp.name, .int .i64 xp.prio, .slice A8 n8 c8, .slice A9 n9 c9] := ka.drew
                   have HD2 := Lib.hid (show DS w wa.drew bp bm vl vu vm lp u lp u from ⟨⟨HD1.out.p.blk, ⟨HD1.out.p.rl.row, HD1.out.p.rl.many, HD1.out.p.rl.fine, HD1.out.p.rl.size⟩, HD1.out.p.ru, HD1.out.p.len⟩, RIs.drewN HD1.out.m 1, HD1.out.apart, HD1.out.hbp, HD1.out.hbm, HD1.out.bel.drew⟩)
                   have HLS2 := Lib.hid (HLS1.out.move (w' := wa.drew) (S' := (· < w.heap.size)) (R' := RInt) (fun _ _ => rfl) (fun _ h => h) (fun _ _ _ h => h))
                   clear HD1 HLS1
                   refine Flo.region 9 [(0, true), (1, true), (2, true), (4, true), (5, true), (6, true), (3, false), (7, false), (8, false)] (fun v => Blk v pa 36 #[.string kind, .string str, .int .i64 xa, .int .i64 xb, .int .u8 on, .slice A5 n5 c5, .string xp.name, .int .i64 xp.prio, .slice A8 n8 c8, .slice A9 n9 c9]) (by as_aux_lemma => kernel_rfl) (by as_aux_lemma => kernel_rfl) rfl hI ?_
                   simp only [List.drop_succ_cons, List.drop_zero]
                   clear e0
                   iterate 6 (apply Flo.op rfl (hI := hI); (· intro v hv K hK; have hvc := hv.cells; clear hv; go_wp2_with fail; exact hK); (· rfl))
                   have HWZ := Lib.hid (show w.heap.size ≤ wa.heap.size from HD2.out.bel.size)
                   have HC1 := Lib.hid (Claim_any w.heap.size bp vl vu (.slice A5 n5 c5) lp u xl (· < w.heap.size) wa.drew HD2.out.p HLS2.out (fun b hb => ⟨fun hh => by have := (HD2.out.p.ru.lt b hh).1; omega, by have := HWZ.out; simp; omega⟩))
                   refine Flo.seq rfl fun K hK => ?_
                   go_wp2_with fail
                   refine HC1.out.mono ?_
                   intro e w5 hP
                   have hP2 : ClaimP w.heap.size bp vl vu lp u false xl wa.drew e w5 := hP
                   obtain ⟨rfl, hp5, hk5⟩ := hP2
                   have HD5 := Lib.hid (HD2.out.onU hp5 hk5)
                   have ha5 := HD2.out.act ka.drew
                   have ka5 := ka.drew.kept hk5 ha5.2.1
                   have HLS5 := Lib.hid (HLS2.out.move (w' := w5) (S' := (· < w.heap.size)) (R' := RInt) (fun b hb => hk5.block b (by have := HWZ.out; simp; omega) (fun hh => by have := (HD2.out.p.ru.lt b hh).1; omega)) (fun _ h => h) (fun _ _ _ h => h))
                   clear hP hp5 hk5 ha5 HC1
                   go_wp2_with fail
                   refine hK _ _ ka5 ?_
                   clear hK
                   have HC2 := Lib.hid (RClaim_any false w.heap.size bm vm (.slice A5 n5 c5) lp u xl (· < w.heap.size) w5 HD5.out.m HLS5.out (fun b hb => ⟨fun hh => by have := HD5.out.hbm; omega, by have := HD5.out.bel.size; omega⟩))
                   refine Flo.seq rfl fun K hK => ?_
                   go_wp2_with fail
                   refine HC2.out.mono ?_
                   intro e w6 hP
                   have hP2 : RClaimP w.heap.size bm vm lp u false xl w5 e w6 := hP
                   obtain ⟨rfl, hm6, hk6⟩ := hP2
                   have HD6 := Lib.hid (HD5.out.onM hm6 hk6)
                   have ka6 := ka5.kept hk6 (HD5.out.act ka5).2.2.2.2
                   have HSA := Lib.hid (fun W => same_yes (claimF u false xl) (claimF_pos u false xl) W)
                   generalize claimF u false xl = f at *
                   clear hP hm6 hk6 HC2 HLS5 HLS2 HD2
                   go_wp2_with fail
                   refine hK _ _ ka6 ?_
                   clear hK
                   refine Flo.seq rfl fun K hK => ?_
                   go_wp2_with fail
                   refine (HSA.out _).mono ?_
                   rintro e w7 ⟨rfl, rfl⟩
                   go_wp2_with fail
                   refine hK _ _ ka6 ?_
                   clear hK
                   refine Flo.tail fun K hK => ?_
                   go_wp2_with fail
                   go_meet
                   exact ⟨rfl, Lib.hid ⟨lp, _, hlp, HD6.out⟩, Lib.hid ka6⟩
               · as_aux_lemma =>
                   have hI : Blk wa.drew pa 36 #[.string kind, .string str, .int .i64 xa, .int .i64 xb, .int .u8 on, .slice A5 n5 c5, .string xp.name, .int .i64 xp.prio, .slice A8 n8 c8, .slice A9 n9 c9] := ka.drew
                   have HD2 := Lib.hid (show DS w wa.drew bp bm vl vu vm lp u lp u from ⟨⟨HD1.out.p.blk, ⟨HD1.out.p.rl.row, HD1.out.p.rl.many, HD1.out.p.rl.fine, HD1.out.p.rl.size⟩, HD1.out.p.ru, HD1.out.p.len⟩, RIs.drewN HD1.out.m 1, HD1.out.apart, HD1.out.hbp, HD1.out.hbm, HD1.out.bel.drew⟩)
                   have HLS2 := Lib.hid (HLS1.out.move (w' := wa.drew) (S' := (· < w.heap.size)) (R' := RInt) (fun _ _ => rfl) (fun _ h => h) (fun _ _ _ h => h))
                   clear HD1 HLS1
                   refine Flo.region 9 [(0, true), (1, true), (2, true), (4, true), (5, true), (6, true), (3, false), (7, false), (8, false)] (fun v => Blk v pa 36 #[.string kind, .string str, .int .i64 xa, .int .i64 xb, .int .u8 on, .slice A5 n5 c5, .string xp.name, .int .i64 xp.prio, .slice A8 n8 c8, .slice A9 n9 c9]) (by as_aux_lemma => kernel_rfl) (by as_aux_lemma => kernel_rfl) rfl hI ?_
                   simp only [List.drop_succ_cons, List.drop_zero]
                   clear e0
                   iterate 6 (apply Flo.op rfl (hI := hI); (· intro v hv K hK; have hvc := hv.cells; clear hv; go_wp2_with fail; exact hK); (· rfl))
                   have HWZ := Lib.hid (show w.heap.size ≤ wa.heap.size from HD2.out.bel.size)
                   have HC1 := Lib.hid (Give_any w.heap.size bp vl vu (.slice A5 n5 c5) lp u xl (· < w.heap.size) wa.drew HD2.out.p HLS2.out (fun b hb => ⟨fun hh => by have := (HD2.out.p.ru.lt b hh).1; omega, by have := HWZ.out; simp; omega⟩))
                   refine Flo.seq rfl fun K hK => ?_
                   go_wp2_with fail
                   refine HC1.out.mono ?_
                   intro e w5 hP
                   have hP2 : ClaimP w.heap.size bp vl vu lp u true xl wa.drew e w5 := hP
                   obtain ⟨rfl, hp5, hk5⟩ := hP2
                   have HD5 := Lib.hid (HD2.out.onU hp5 hk5)
                   have ha5 := HD2.out.act ka.drew
                   have ka5 := ka.drew.kept hk5 ha5.2.1
                   have HLS5 := Lib.hid (HLS2.out.move (w' := w5) (S' := (· < w.heap.size)) (R' := RInt) (fun b hb => hk5.block b (by have := HWZ.out; simp; omega) (fun hh => by have := (HD2.out.p.ru.lt b hh).1; omega)) (fun _ h => h) (fun _ _ _ h => h))
                   clear hP hp5 hk5 ha5 HC1
                   go_wp2_with fail
                   refine hK _ _ ka5 ?_
                   clear hK
                   have HC2 := Lib.hid (RClaim_any true w.heap.size bm vm (.slice A5 n5 c5) lp u xl (· < w.heap.size) w5 HD5.out.m HLS5.out (fun b hb => ⟨fun hh => by have := HD5.out.hbm; omega, by have := HD5.out.bel.size; omega⟩))
                   refine Flo.seq rfl fun K hK => ?_
                   go_wp2_with fail
                   refine HC2.out.mono ?_
                   intro e w6 hP
                   have hP2 : RClaimP w.heap.size bm vm lp u true xl w5 e w6 := hP
                   obtain ⟨rfl, hm6, hk6⟩ := hP2
                   have HD6 := Lib.hid (HD5.out.onM hm6 hk6)
                   have ka6 := ka5.kept hk6 (HD5.out.act ka5).2.2.2.2
                   have HSA := Lib.hid (fun W => same_yes (claimF u true xl) (claimF_pos u true xl) W)
                   generalize claimF u true xl = f at *
                   clear hP hm6 hk6 HC2 HLS5 HLS2 HD2
                   go_wp2_with fail
                   refine hK _ _ ka6 ?_
                   clear hK
                   refine Flo.seq rfl fun K hK => ?_
                   go_wp2_with fail
                   refine (HSA.out _).mono ?_
                   rintro e w7 ⟨rfl, rfl⟩
                   go_wp2_with fail
                   refine hK _ _ ka6 ?_
                   clear hK
                   refine Flo.tail fun K hK => ?_
                   go_wp2_with fail
                   go_meet
                   exact ⟨rfl, Lib.hid ⟨lp, _, hlp, HD6.out⟩, Lib.hid ka6⟩
               · as_aux_lemma =>
                   have HRI := Lib.hid (RIs_any w.heap.size bm vm lp u xa wa HD1.out.m)
                   clear HLS1
                   go_wp2_with fail
                   refine HRI.out.mono ?_
                   rintro e w5 ⟨rfl, rfl⟩
                   have HSI := Lib.hid (fun on => Sick_any w.heap.size bp vl vu lp u xa on wa HD1.out.p)
                   rcases isF_01 lp.length xa with ⟨hf, hx⟩ | ⟨hf, hx0, hx1⟩
                   · have HSI1 := Lib.hid (fun on => HSI.out on)
                     have HF := Lib.hid hf
                     have HSL := Lib.hid (fun on => sickL_bad (on := on) hx)
                     rw [hf]
                     clear HRI HSI hf hx
                     go_wp2_with fail
                     refine (HSI1.out _).mono ?_
                     intro e w6 hP
                     have hP2 : SickP w.heap.size bp vl vu lp u xa (kind.toList == [115, 105, 99, 107]) wa e w6 := hP
                     obtain ⟨rfl, hp6, hk6⟩ := hP2
                     rw [HSL.out] at hp6
                     have HD6 := Lib.hid (HD1.out.onL hp6 hk6)
                     have ka6 := ka.kept hk6 (HD1.out.act ka).1
                     rw [HF.out]
                     clear hP hp6 hk6 e0
                     go_wp2_with fail
                     refine (same_yes 1 (by omega) _).mono ?_
                     rintro e w7 ⟨rfl, rfl⟩
                     go_wp2_with fail
                     go_meet
                     exact ⟨rfl, Lib.hid ⟨lp, _, hlp, HD6.out⟩, Lib.hid ka6⟩
                   · obtain ⟨q, rfl⟩ : ∃ q : Nat, xa = q := ⟨xa.toNat, by omega⟩
                     have hql : q < lp.length := by omega
                     have HF := Lib.hid hf
                     have HSI1 := Lib.hid (fun on => HSI.out on)
                     rw [hf]
                     clear HRI HSI hf
                     go_wp2_with fail
                     refine (HSI1.out _).mono ?_
                     intro e w6 hP
                     obtain ⟨sk, hsk⟩ : ∃ sk : Bool, (kind.toList == [115, 105, 99, 107]) = sk := ⟨_, rfl⟩
                     rw [hsk] at hP ⊢
                     have hP2 : SickP w.heap.size bp vl vu lp u q sk wa e w6 := hP
                     obtain ⟨rfl, hp6, hk6⟩ := hP2
                     have HD6 := Lib.hid (HD1.out.onL hp6 hk6)
                     have ka6 := ka.kept hk6 (HD1.out.act ka).1
                     have e6 := ka6.cells
                     rw [HF.out]
                     clear hP hp6 hk6 e0
                     obtain ⟨Am, cm, rfl, hq1, hq2⟩ := HD6.out.m.rl.form
                     obtain ⟨gm, rfl, hgm, d0, d1, d2⟩ := HD6.out.m.rl.cell hql
                     have dm := HD6.out.m.c0
                     have zm := HD6.out.m.rl.row.frozenAt
                     unfold maxLen at hq2
                     have HKS := Lib.hid hsk
                     go_wp2_with fail
                     refine (same_yes 0 (by omega) _).mono ?_
                     rintro e w7 ⟨rfl, rfl⟩
                     go_wp2_with fail
                     have hI := (Below.refl w6.heap.size w6).drew
                     have lpa := ka6.lt
                     have lbm := HD6.out.m.blk.lt
                     refine Flo.region 11 [(0, true), (1, true), (2, true), (3, true), (4, true), (5, true), (6, true), (7, true), (8, true), (9, true), (10, true)] (fun v => Below w6.heap.size w6 v) (by as_aux_lemma => kernel_rfl) (by as_aux_lemma => kernel_rfl) rfl hI ?_
                     simp only [List.drop_succ_cons, List.drop_zero]
                     iterate 11 (apply Flo.op rfl (hI := hI); (· intro v hv K hK; obtain ⟨hc, hf⟩ := Flo.bcl hv; go_wp2_with fail; all_goals first | exact Flo.noUndef (by with_reducible assumption) | exact hK); (· rfl))
                     refine Flo.tail fun K hK => ?_
                     go_wp2_with fail
                     go_meet
                     have hr := rsick HD6.out.m hql sk
                     have hn := (HD6.out.onR hr.1 hr.2).drew
                     have hka := ka6.kept hr.2 (HD6.out.act ka6).2.2.1
                     first | exact ⟨rfl, Lib.hid ⟨sickL lp q sk, u, by rw [sickL_len]; exact hlp, hn⟩, Lib.hid hka.drew⟩ | (rw [HKS.out]; exact ⟨rfl, Lib.hid ⟨sickL lp q sk, u, by rw [sickL_len]; exact hlp, hn⟩, Lib.hid hka.drew⟩)
              case rest =>
                as_aux_lemma =>
                  clear HD1 HLS1 e0 la ka hlp
                  obtain ⟨rfl, HK2, HAct⟩ := hcut
                  obtain ⟨lp2, u2, hlp2, hd2⟩ := HK2.out
                  have HD2 := Lib.hid hd2
                  have e2 := HAct.out.cells
                  have lpa := HAct.out.lt
                  have HCP := Lib.hid (Count_any w.heap.size bp vl vu lp2 u2 str _ hd2.p)
                  have HNA := Lib.hid (fun W => Name_any str hr3 W)
                  have HNB := Lib.hid (fun W => NameMay_any str hr3 W)
                  obtain ⟨⟨f0, f1, f2, f3⟩, hcf⟩ : ∃ a, cFree str lp2 u2 = a := ⟨_, rfl⟩
                  obtain ⟨⟨a0, a1, a2, a3⟩, hca⟩ : ∃ a, cAll str lp2 = a := ⟨_, rfl⟩
                  rw [hcf, hca] at HCP
                  have HCF := Lib.hid hcf
                  have HCA := Lib.hid hca
                  obtain ⟨nb, hnb⟩ : ∃ nb, Qo.nameMay str = nb := ⟨_, rfl⟩
                  rw [hnb] at HNA HNB
                  clear hd2 HK2 hcf hca hnb
                  go_wp2_with fail
                  refine HCP.out.mono ?_
                  rintro e w8 ⟨rfl, hb8⟩
                  unfold A4.val
                  dsimp only
                  have HD8 := Lib.hid (HD2.out.below hb8)
                  have ka8 := HAct.out.below hb8 lpa
                  have e8 := ka8.cells
                  have lpa8 := ka8.lt
                  clear e2 lpa hb8 HCP HAct HD2
                  go_upto_region 34 with fail
                  have hb9 : Below w8.heap.size w8 ((w8.alloc (.cells #[.int .i64 f0, .int .i64 f1, .int .i64 f2, .int .i64 f3] 75)).alloc (.cells #[.int .i64 a0, .int .i64 a1, .int .i64 a2, .int .i64 a3] 75)) := ((Below.refl _ _).alloc (Nat.le_refl _) _).alloc (by simp) _
                  have kf9 : Blk ((w8.alloc (.cells #[.int .i64 f0, .int .i64 f1, .int .i64 f2, .int .i64 f3] 75)).alloc (.cells #[.int .i64 a0, .int .i64 a1, .int .i64 a2, .int .i64 a3] 75)) w8.heap.size 75 #[.int .i64 f0, .int .i64 f1, .int .i64 f2, .int .i64 f3] := (Blk.new w8 _ _).alloc _
                  have kA9 : Blk ((w8.alloc (.cells #[.int .i64 f0, .int .i64 f1, .int .i64 f2, .int .i64 f3] 75)).alloc (.cells #[.int .i64 a0, .int .i64 a1, .int .i64 a2, .int .i64 a3] 75)) (w8.heap.size + 1) 75 #[.int .i64 a0, .int .i64 a1, .int .i64 a2, .int .i64 a3] := Blk.new1 w8 _ _ _
                  have HD9 := Lib.hid (HD8.out.below hb9)
                  have ka9 := ka8.below hb9 lpa8
                  generalize ((w8.alloc (.cells #[.int .i64 f0, .int .i64 f1, .int .i64 f2, .int .i64 f3] 75)).alloc (.cells #[.int .i64 a0, .int .i64 a1, .int .i64 a2, .int .i64 a3] 75)) = w9 at *
                  generalize w8.heap.size = b19 at *
                  have e9 := ka9.cells
                  have lpa9 := ka9.lt
                  have HCP := Lib.hid (RCount_any w.heap.size bm vm lp2 u2 str w9 HD9.out.m)
                  rw [HCF.out, HCA.out] at HCP
                  clear e8 lpa8 ka8 HD8 hb9
                  go_wp2_with fail
                  refine HCP.out.mono ?_
                  rintro e w10 ⟨rfl, hb10⟩
                  unfold A4.val
                  dsimp only
                  have kf10 := kf9.below hb10 kf9.lt
                  have kA10 := kA9.below hb10 kA9.lt
                  have ka10 := ka9.below hb10 lpa9
                  have HD10 := Lib.hid (HD9.out.below hb10)
                  clear e9 lpa9 ka9 HD9 hb10 kf9 kA9 HCP
                  go_upto_region 35 with fail
                  have hb11 : Below w10.heap.size w10 ((w10.alloc (.cells #[.int .i64 f0, .int .i64 f1, .int .i64 f2, .int .i64 f3] 75)).alloc (.cells #[.int .i64 a0, .int .i64 a1, .int .i64 a2, .int .i64 a3] 75)) := ((Below.refl _ _).alloc (Nat.le_refl _) _).alloc (by simp) _
                  have kf11 := kf10.below hb11 kf10.lt
                  have kA11 := kA10.below hb11 kA10.lt
                  have ka11 := ka10.below hb11 ka10.lt
                  have kg11 : Blk ((w10.alloc (.cells #[.int .i64 f0, .int .i64 f1, .int .i64 f2, .int .i64 f3] 75)).alloc (.cells #[.int .i64 a0, .int .i64 a1, .int .i64 a2, .int .i64 a3] 75)) w10.heap.size 75 #[.int .i64 f0, .int .i64 f1, .int .i64 f2, .int .i64 f3] := (Blk.new w10 _ _).alloc _
                  have kB11 : Blk ((w10.alloc (.cells #[.int .i64 f0, .int .i64 f1, .int .i64 f2, .int .i64 f3] 75)).alloc (.cells #[.int .i64 a0, .int .i64 a1, .int .i64 a2, .int .i64 a3] 75)) (w10.heap.size + 1) 75 #[.int .i64 a0, .int .i64 a1, .int .i64 a2, .int .i64 a3] := Blk.new1 w10 _ _ _
                  have HD11 := Lib.hid (HD10.out.below hb11)
                  clear kf10 kA10 ka10 HD10 hb11
                  generalize ((w10.alloc (.cells #[.int .i64 f0, .int .i64 f1, .int .i64 f2, .int .i64 f3] 75)).alloc (.cells #[.int .i64 a0, .int .i64 a1, .int .i64 a2, .int .i64 a3] 75)) = w11 at *
                  generalize w10.heap.size = b21 at *
                  have c1 := kf11.cells
                  have c2 := kA11.cells
                  have c3 := kg11.cells
                  have c4 := kB11.cells
                  have e11 := ka11.cells
                  have l1 := kf11.lt
                  have l2 := kA11.lt
                  have l3 := kg11.lt
                  have l4 := kB11.lt
                  have l5 := ka11.lt
                  have heqf := fun W => dvEqA4 f0 f1 f2 f3 W
                  have heqa := fun W => dvEqA4 a0 a1 a2 a3 W
                  have hI := (Below.refl w11.heap.size w11).drew
                  refine Flo.region 19 [(0, true), (1, true), (2, true), (3, true), (4, true), (5, true), (6, true), (7, true), (8, true), (9, true), (10, true), (11, true), (12, true), (13, true), (14, true), (16, true), (17, true), (15, false), (18, false)] (fun v => Below w11.heap.size w11 v) (by as_aux_lemma => kernel_rfl) (by as_aux_lemma => kernel_rfl) rfl hI ?_
                  simp only [List.drop_succ_cons, List.drop_zero]
                  iterate 17 (apply Flo.op rfl (hI := hI); (· intro v hv K hK; obtain ⟨hc, hf⟩ := Flo.bcl hv; go_wp2_with fail; all_goals first | exact Flo.noUndef (by with_reducible assumption) | exact hK); (· rfl))
                  refine Flo.seq rfl fun K hK => ?_
                  go_wp2_with fail
                  refine (HNA.out _).mono ?_
                  rintro e w12 ⟨rfl, rfl⟩
                  go_wp2_with fail
                  refine hK _ _ hI ?_
                  clear hK
                  refine Flo.seq rfl fun K hK => ?_
                  go_wp2_with fail
                  refine (HNB.out _).mono ?_
                  rintro e w12 ⟨rfl, rfl⟩
                  go_wp2_with fail
                  refine hK _ _ hI ?_
                  clear hK
                  refine Flo.tail fun K hK => ?_
                  have hbb : ((nb == nb) = true) := by cases nb <;> rfl
                  clear c1 c2 c3 c4
                  cases nb
                  all_goals
                    go_wp2_with fail
                    go_roundw
                    case rel => exact ⟨k + 1, by go_num, by omega, Lib.hid ⟨lp2, u2, hlp2, HD11.out.drew⟩⟩
                    case measure => simp [intOf]; omega
            · obtain rfl : k = acts.length := by omega
              have HDV := Lib.hid (Devices_any w.heap.size bp vl vu lp u wr hds.p)
              have HD1 := Lib.hid hds
              have HLP := Lib.hid hlp
              clear hds HK hlp
              go_wp2_with fail
              refine HDV.out.mono ?_
              intro e w5 hP
              have hP2 : DevicesP lp wr e w5 := hP
              obtain ⟨Ad, cd, rfl, hown5, hb5⟩ := hP2
              have HD5 := Lib.hid (HD1.out.below hb5)
              have HR5 := Lib.hid (show Row w5 wr.heap.size (.slice Ad lp.length cd) lp from ⟨hown5, HD1.out.p.rl.many, HD1.out.p.rl.fine, HD1.out.p.rl.size⟩)
              obtain ⟨Am, cm, rfl, hq1, hq2⟩ := HD5.out.m.rl.form
              have dm := HD5.out.m.c0
              have hl16 := HD5.out.m.rl.many
              have hbm5 := HD5.out.m.blk.lt
              unfold maxLen at hq2
              clear hP hown5 hb5 HD1 HDV
              go_wp2_with fail
              go_loopw [24] (fun i wi => ∃ j : Nat, i = .int .i64 ((j : Int) - 1) ∧ j ≤ lp.length + 2 ∧ Below w5.heap.size w5 wi) (fun i _ => lp.length + 2 - (intOf i + 1).toNat)
              case atStart => exact ⟨0, by simp, by omega, Below.refl _ _⟩
              case round =>
                obtain ⟨j, rfl, hj, hbi⟩ := hrel
                have HDi := HD5.out.below hbi
                have dmi := HDi.m.c0
                have hbmi := HDi.m.blk.lt
                by_cases hjl : j < lp.length + 2
                · cases j with
                  | zero =>
                    as_aux_lemma =>
                      have hz : ((0 : Nat) : Int) - 1 = -1 := by omega
                      rw [hz]
                      clear hz
                      have HUS := Lib.hid (Used_any w.heap.size bp vl vu lp u (-1) wr HDi.p)
                      have HIS := Lib.hid (RIs_any w.heap.size bm (.slice Am lp.length cm) lp u (-1) wr HDi.m)
                      rw [usedF_bad (by have := HDi.p.len; omega), isF_bad (.inl (by omega))] at HUS
                      rw [isF_bad (.inl (by omega))] at HIS
                      unfold UsedP at HUS
                      rw [errV_pos 1 (by omega)] at HUS
                      clear HDi
                      go_wp2_with fail
                      refine HUS.out.mono ?_
                      rintro e w6 ⟨rfl, rfl⟩
                      go_wp2_with fail
                      refine HIS.out.mono ?_
                      rintro e w7 ⟨rfl, rfl⟩
                      rw [← errV_pos 1 (by omega)]
                      go_wp2_with fail
                      have hI := (Below.refl wr.heap.size wr).drew
                      refine Flo.region 38 [(0, true), (1, true), (2, false), (3, true), (4, true), (5, true), (6, true), (7, true), (8, true), (9, true), (10, true), (11, true), (12, true), (13, true), (14, true), (15, true), (16, true), (17, true), (18, true), (19, true), (20, true), (21, true), (22, true), (23, true), (24, true), (25, true), (26, true), (27, true), (28, true), (29, true), (30, true), (31, true), (32, true), (33, true), (34, true), (35, true), (36, true), (37, true)] (fun v => Below wr.heap.size wr v) (by as_aux_lemma => kernel_rfl) (by as_aux_lemma => kernel_rfl) rfl hI ?_
                      simp only [List.drop_succ_cons, List.drop_zero]
                      iterate 2 (apply Flo.op rfl (hI := hI); (· intro v hv K hK; obtain ⟨hc, hf⟩ := Flo.bcl hv; go_wp2_with fail; all_goals first | exact Flo.noUndef (by with_reducible assumption) | exact hK); (· rfl))
                      refine Flo.seq rfl fun K hK => ?_
                      go_wp2_with fail
                      refine (same_yes 1 (by omega) _).mono ?_
                      rintro e w12 ⟨rfl, rfl⟩
                      go_wp2_with fail
                      refine hK _ _ hI ?_
                      clear hK
                      iterate 35 (apply Flo.op rfl (hI := hI); (· intro v hv K hK; obtain ⟨hc, hf⟩ := Flo.bcl hv; go_wp2_with fail; all_goals first | exact Flo.noUndef (by with_reducible assumption) | exact hK); (· rfl))
                      refine Flo.tail fun K hK => ?_
                      go_wp2_with fail
                      go_roundw
                      case rel => exact ⟨1, by simp, by omega, hbi.drew⟩
                      case measure => simp [intOf]
                  | succ q =>
                    have hz : ((q + 1 : Nat) : Int) - 1 = q := by omega
                    rw [hz]
                    clear hz
                    by_cases hql : q < lp.length
                    · as_aux_lemma =>
                        have HUS := Lib.hid (Used_any w.heap.size bp vl vu lp u q wr HDi.p)
                        have HS0 : Hid (∀ W, Calls Try.prog 16 #[.nilIface, .int .i64 0] W (RetB true W)) := Lib.hid (fun W => by have := same_yes 0 (by omega) W; rwa [errV_0] at this)
                        have HIS := Lib.hid (RIs_any w.heap.size bm (.slice Am lp.length cm) lp u q wr HDi.m)
                        have hqu : q < u.length := by have := HDi.p.len; omega
                        rw [usedF_ok hqu, isF_ok (by omega) (by omega)] at HUS
                        rw [isF_ok (by omega) (by omega)] at HIS
                        unfold UsedP at HUS
                        rw [errV_0] at HUS
                        obtain ⟨gd, rfl, hgd, d0, d1, d2⟩ := (HR5.out.below hbi).cell hql
                        obtain ⟨gm, rfl, hgm, x0, x1, x2⟩ := HDi.m.rl.cell hql
                        have cu := HDi.m.used hql
                        have heqd := fun W => dvEqD lp[q].kind lp[q].node lp[q].sick W
                        generalize u[q] = bu at *
                        generalize lp[q] = d at *
                        obtain ⟨dk, dn, ds⟩ := d
                        dsimp only at *
                        clear HDi
                        cases bu
                        all_goals
                          go_wp2_with fail
                          refine HUS.out.mono ?_
                          rintro e w6 ⟨rfl, rfl⟩
                          go_wp2_with fail
                          refine HIS.out.mono ?_
                          rintro e w7 ⟨rfl, rfl⟩
                          go_wp2_with fail
                          have hI := (Below.refl wr.heap.size wr).drew
                          refine Flo.region 38 [(0, true), (1, true), (2, false), (3, true), (4, true), (5, true), (6, true), (7, true), (8, true), (9, true), (10, true), (11, true), (12, true), (13, true), (14, true), (15, true), (16, true), (17, true), (18, true), (19, true), (20, true), (21, true), (22, true), (23, true), (24, true), (25, true), (26, true), (27, true), (28, true), (29, true), (30, true), (31, true), (32, true), (33, true), (34, true), (35, true), (36, true), (37, true)] (fun v => Below wr.heap.size wr v) (by as_aux_lemma => kernel_rfl) (by as_aux_lemma => kernel_rfl) rfl hI ?_
                          simp only [List.drop_succ_cons, List.drop_zero]
                          iterate 2 (apply Flo.op rfl (hI := hI); (· intro v hv K hK; obtain ⟨hc, hf⟩ := Flo.bcl hv; go_wp2_with fail; all_goals first | exact Flo.noUndef (by with_reducible assumption) | exact hK); (· rfl))
                          refine Flo.seq rfl fun K hK => ?_
                          go_wp2_with fail
                          refine (HS0.out _).mono ?_
                          rintro e w12 ⟨rfl, rfl⟩
                          go_wp2_with fail
                          refine hK _ _ hI ?_
                          clear hK
                          iterate 35 (apply Flo.op rfl (hI := hI); (· intro v hv K hK; obtain ⟨hc, hf⟩ := Flo.bcl hv; go_wp2_with fail; all_goals first | exact Flo.noUndef (by with_reducible assumption) | exact hK); (· rfl))
                          refine Flo.tail fun K hK => ?_
                          go_wp2_with fail
                          go_roundw
                          case rel => exact ⟨q + 2, by first | (congr 1; omega) | go_num, by omega, hbi.drew⟩
                          case measure => simp [intOf]; omega
                    · as_aux_lemma =>
                        have hqe : (lp.length : Int) ≤ (q : Int) := by omega
                        have HUS := Lib.hid (Used_any w.heap.size bp vl vu lp u q wr HDi.p)
                        have HIS := Lib.hid (RIs_any w.heap.size bm (.slice Am lp.length cm) lp u q wr HDi.m)
                        rw [usedF_bad (by have := HDi.p.len; omega), isF_bad (.inr hqe)] at HUS
                        rw [isF_bad (.inr hqe)] at HIS
                        unfold UsedP at HUS
                        rw [errV_pos 1 (by omega)] at HUS
                        clear HDi
                        go_wp2_with fail
                        refine HUS.out.mono ?_
                        rintro e w6 ⟨rfl, rfl⟩
                        go_wp2_with fail
                        refine HIS.out.mono ?_
                        rintro e w7 ⟨rfl, rfl⟩
                        rw [← errV_pos 1 (by omega)]
                        go_wp2_with fail
                        have hI := (Below.refl wr.heap.size wr).drew
                        refine Flo.region 38 [(0, true), (1, true), (2, false), (3, true), (4, true), (5, true), (6, true), (7, true), (8, true), (9, true), (10, true), (11, true), (12, true), (13, true), (14, true), (15, true), (16, true), (17, true), (18, true), (19, true), (20, true), (21, true), (22, true), (23, true), (24, true), (25, true), (26, true), (27, true), (28, true), (29, true), (30, true), (31, true), (32, true), (33, true), (34, true), (35, true), (36, true), (37, true)] (fun v => Below wr.heap.size wr v) (by as_aux_lemma => kernel_rfl) (by as_aux_lemma => kernel_rfl) rfl hI ?_
                        simp only [List.drop_succ_cons, List.drop_zero]
                        iterate 2 (apply Flo.op rfl (hI := hI); (· intro v hv K hK; obtain ⟨hc, hf⟩ := Flo.bcl hv; go_wp2_with fail; all_goals first | exact Flo.noUndef (by with_reducible assumption) | exact hK); (· rfl))
                        refine Flo.seq rfl fun K hK => ?_
                        go_wp2_with fail
                        refine (same_yes 1 (by omega) _).mono ?_
                        rintro e w12 ⟨rfl, rfl⟩
                        go_wp2_with fail
                        refine hK _ _ hI ?_
                        clear hK
                        iterate 35 (apply Flo.op rfl (hI := hI); (· intro v hv K hK; obtain ⟨hc, hf⟩ := Flo.bcl hv; go_wp2_with fail; all_goals first | exact Flo.noUndef (by with_reducible assumption) | exact hK); (· rfl))
                        refine Flo.tail fun K hK => ?_
                        go_wp2_with fail
                        go_roundw
                        case rel => exact ⟨q + 2, by first | (congr 1; omega) | go_num, by omega, hbi.drew⟩
                        case measure => simp [intOf]; omega
                · obtain rfl : j = lp.length + 2 := by omega
                  clear HDi
                  go_wp2_with fail
                  go_ret
                  exact ⟨rfl, HD5.out.bel.trans (hbi.mono HD5.out.bel.size)⟩
end
end Go.Proofs.Yticmfflnenoplaa
