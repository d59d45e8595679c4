/- QosSays: its walk. -/
import Derived.Test.YticmfflnenoplaaQosE
import Derived.Test.YticmfflnenoplaaQosL
import Derived.Test.YticmfflnenoplaaQosN
namespace Go.Proofs.Yticmfflnenoplaa
open Go.RowKit Qo Da
theorem podT : ElemT Try.prog 96 33 (.agg #[.string ⟨#[]⟩, .int .i64 0, .slice none 0 0]) 3 48 := ⟨Try.underlying96, by kernel_rfl, rfl, by omega⟩
def GoodsIn (w : World) (B : Nat) (G : List (List Value × Pod)) : Prop := ∀ x, x ∈ G → x.1.length = 3 ∧ RPod w B x.1 x.2 ∧ GoodP x.2
theorem goods_slice {w0 w : World} {B base : Nat} {hv : Value} {G : List (List Value × Pod)} (hown : w.ownsRow base 33 3 hv G.length (G.flatMap Prod.fst)) (hG : GoodsIn w0 B G) (hb : Below B w0 w) (hB : B ≤ w.heap.size) : RSlice w w.heap.size 3 (RPod w w.heap.size) [hv] (G.map Prod.snd) := by
  have h := RS.own (S := (· < w.heap.size)) (R := fun cs x => cs = x.1 ∧ RPod w w.heap.size x.1 x.2) (f := Prod.fst) hown (fun x hx => (hG x hx).1) (fun x hx => ⟨rfl, ((hG x hx).2.1.below hb).mono hB⟩) (fun g hg => (hown.lt g hg).2)
  obtain ⟨A, cap, e, h1, h2, h3⟩ := h
  refine ⟨A, cap, by rw [e]; simp, by simpa using h1, h2, ?_⟩
  rcases h3 with h3 | ⟨b, off, hA, hlt, h3⟩
  · exact .inl (by simpa using h3)
  · refine .inr ⟨b, off, hA, hlt, fun i hi => ?_⟩
    obtain ⟨cs', q1, q2, q3, q4⟩ := h3 i (by simpa using hi)
    exact ⟨cs', q1, q2, by rw [q3]; simpa using q4⟩
theorem goods_all {w : World} {B : Nat} {G : List (List Value × Pod)} (hG : GoodsIn w B G) : ∀ k (hk : k < (G.map Prod.snd).length), GoodP (G.map Prod.snd)[k] := by
  intro k hk
  have := (hG _ (List.getElem_mem (show k < G.length by simpa using hk))).2.2
  simpa using this
theorem goods_snoc {w : World} {B : Nat} {G : List (List Value × Pod)} (hG : GoodsIn w B G) {x : List Value × Pod} (h : x.1.length = 3 ∧ RPod w B x.1 x.2 ∧ GoodP x.2) : GoodsIn w B (G ++ [x]) := by
  intro y hy
  rcases List.mem_append.1 hy with hy | hy
  · exact hG y hy
  · obtain rfl : y = x := by simpa using hy
    exact h
theorem groups_same {w : World} {base : Nat} {hv : Value} {l : List Gr} (h : w.ownsRow base 191 4 hv l.length (flatG l)) : RS w (· < w.heap.size) 4 RG [hv] l :=
  RS.own (f := Gr.cells) h (fun _ _ => rfl) (fun _ _ => rfl) (fun g hg => (h.lt g hg).2)
section
attribute [local irreducible] podFault cls ownN RPod RCont RSlice lightPods GoodsIn shares quota askedM askedB grs
set_option maxRecDepth 100000 in
set_option maxHeartbeats 16000000 in
theorem qosSays_any (l : List Pod) (milli : Int) (v : Value) (w : World) (hR : RSlice w w.heap.size 3 (RPod w w.heap.size) [v] l) :
    Calls Try.prog 7 #[v, .int .i64 milli] w (RetBB true w) := by
  obtain ⟨A, cap, e, hl, hcap, hA⟩ := RS.form (RS.of hR)
  obtain rfl : v = _ := by simpa using e
  unfold maxLen at hcap
  have HR := Lib.hid hR
  have HA := Lib.hid hA
  clear hR hA e
  have HCL := Lib.hid (fun W => classes_any W)
  have HLP := Lib.hid (fun W (hb : Below w.heap.size w W) => lightPods_any _ l W w.heap.size hb.size ((HR.out.mono fun _ _ h => h.below hb).below hb))
  cases hlp : lightPods l
  · rw [hlp] at HLP
    clear hlp
    go_enter Try.func7, Try.ntmps7
    go_wp2_with fail
    refine (HCL.out _).mono ?_
    rintro e w1 ⟨rfl, hb1⟩
    go_wp2_with fail
    refine (HLP.out _ hb1).mono ?_
    rintro e w2 ⟨rfl, hb2⟩
    go_wp2_with fail
    go_ret
    exact ⟨rfl, hb1.trans (hb2.mono hb1.size)⟩
  · have h16 : l.length ≤ 16 := by
      unfold lightPods at hlp
      simp only [Bool.and_eq_true, decide_eq_true_eq] at hlp
      exact hlp.1
    rw [hlp] at HLP
    clear hlp
    go_enter Try.func7, Try.ntmps7
    go_wp2_with fail
    refine (HCL.out _).mono ?_
    rintro e w1 ⟨rfl, hb1⟩
    go_wp2_with fail
    refine (HLP.out _ hb1).mono ?_
    rintro e w2 ⟨rfl, hb2⟩
    have hbel := hb1.trans (hb2.mono hb1.size)
    clear hb1 hb2 HCL HLP
    go_upto_region 6 with fail
    go_loopw [6, 7] (fun s i wi => ∃ (k : Nat) (hv : Value) (G : List (List Value × Pod)), i = .int .i64 k ∧ k ≤ l.length ∧ hv = s ∧ G.length ≤ k ∧ GoodsIn w w.heap.size G ∧ wi.ownsRow w.heap.size 33 3 hv G.length (G.flatMap Prod.fst) ∧ Below w.heap.size w wi) (fun s i _ => l.length - (intOf i).toNat)
    case atStart => exact ⟨0, _, [], rfl, by omega, rfl, by simp, by unfold GoodsIn; simp, World.ownsRow_nil _ _ _ _, hbel⟩
    case round =>
      clear hbel
      obtain ⟨k, hv, G, rfl, hk, hs, hGl, hG, hown, hbel⟩ := hrel
      subst hs
      by_cases hlt : k < l.length
      · obtain ⟨b, off, rfl, hb⟩ := HA.out k hlt
        obtain ⟨A2, c2, hP, r0, r1, r2, h1, h2, h3, hcA⟩ := pod_at HR.out (Below.refl _ w) hlt
        unfold maxLen at h2 h3
        have hbw : b < w.heap.size := hb
        generalize l[k] = p at *
        have HP := Lib.hid hP
        have HPC := Lib.hid (podC hP)
        have HCA := Lib.hid hcA
        have HPF := Lib.hid (fun W (hb : Below w.heap.size w W) => PodFault_any p _ w.heap.size W hb.size (HP.out.below hb))
        have HCK := Lib.hid (fun W (hb : Below w.heap.size w W) => Check_any p _ w.heap.size W hb.size (HP.out.below hb))
        have hnn := podFault_nn p
        clear hP hcA
        have q0 := (hbel.cell (p := ⟨b, off + k * 3, none⟩) hbw).trans r0
        have q1 := (hbel.cell (p := ⟨b, off + k * 3 + 1, none⟩) hbw).trans r1
        have q2 := (hbel.cell (p := ⟨b, off + k * 3 + 2, none⟩) hbw).trans r2
        by_cases hf : podFault p = 0
        · have hgp := good_of hf
          have HGP := Lib.hid hgp
          rw [hf] at HPF HCK
          clear hf hnn hgp
          go_wp2_with fail
          refine (HPF.out _ hbel).mono ?_
          rintro e w3 ⟨rfl, hb3⟩
          have hbe3 := hbel.trans (hb3.mono hbel.size)
          have hown3 := own_below hown hb3
          clear q0 q1 q2 hown hb3 hbel HPF
          have q0 := (hbe3.cell (p := ⟨b, off + k * 3, none⟩) hbw).trans r0
          have q1 := (hbe3.cell (p := ⟨b, off + k * 3 + 1, none⟩) hbw).trans r1
          have q2 := (hbe3.cell (p := ⟨b, off + k * 3 + 2, none⟩) hbw).trans r2
          go_wp2_with fail
          refine (HCK.out _ hbe3).mono ?_
          rintro e w4 ⟨rfl, hb4⟩
          rw [errV_0]
          have hbel := hbe3.trans (hb4.mono hbe3.size)
          have hown := own_below hown3 hb4
          clear q0 q1 q2 hown3 hb4 hbe3 HCK
          have q0 := (hbel.cell (p := ⟨b, off + k * 3, none⟩) hbw).trans r0
          have q1 := (hbel.cell (p := ⟨b, off + k * 3 + 1, none⟩) hbw).trans r1
          have q2 := (hbel.cell (p := ⟨b, off + k * 3 + 2, none⟩) hbw).trans r2
          go_wp2_with fail
          refine (same0 _).mono ?_
          rintro e wq ⟨rfl, rfl⟩
          go_upto_region 13 with (at_builtin; refine wpList_app _ podT rfl (.tmp 40) (.tmp 45) rfl w.heap.size hv _ _ rfl (by exact hown.alloc _) ⟨w4.heap.size, 0, none⟩ 1 1 [.string p.name, .int .i64 p.prio, .slice A2 p.conts.length c2] rfl rfl (news_new w4 _ _) (by simp [Value.oneCell']) (by omega) (by unfold maxLen; omega) (by omega) (by have := hbel.size; simp; omega) ?_; intro g cap4 w5 hown5 hg5 hat5 hlt5)
          have hbe5 : Below w.heap.size w w5 := (hbel.alloc hbel.size _).grown hg5 (Nat.le_trans hbel.size (by simp)) fun k hk => (hown.lt k hk).1
          have hown6 : w5.ownsRow w.heap.size 33 3 (.slice (some ⟨g, 0, none⟩) (G.length + 1) cap4) (G ++ [([Value.string p.name, Value.int .i64 p.prio, Value.slice A2 p.conts.length c2], p)]).length ((G ++ [([Value.string p.name, Value.int .i64 p.prio, Value.slice A2 p.conts.length c2], p)]).flatMap Prod.fst) := by
            rw [List.flatMap_append, List.length_append]
            exact hown5
          have hG6 := goods_snoc hG (x := ([Value.string p.name, Value.int .i64 p.prio, Value.slice A2 p.conts.length c2], p)) ⟨rfl, HP.out, HGP.out⟩
          have hGl6 : (G ++ [([Value.string p.name, Value.int .i64 p.prio, Value.slice A2 p.conts.length c2], p)]).length ≤ k + 1 := by rw [List.length_append]; simp; omega
          clear q0 q1 q2 hown5 hg5 hat5 hown hbel hG hGl
          generalize G ++ [([Value.string p.name, Value.int .i64 p.prio, Value.slice A2 p.conts.length c2], p)] = G6 at *
          have q0 := (hbe5.cell (p := ⟨b, off + k * 3, none⟩) hbw).trans r0
          have q1 := (hbe5.cell (p := ⟨b, off + k * 3 + 1, none⟩) hbw).trans r1
          have q2 := (hbe5.cell (p := ⟨b, off + k * 3 + 2, none⟩) hbw).trans r2
          have hbw5 : b < w5.heap.size := by have := hbe5.size; omega
          have HCS := Lib.hid (fun W (hb : Below w.heap.size w W) => Class_any p HGP.out _ w.heap.size W hb.size (HP.out.below hb))
          have HRC := Lib.hid (fun W (hb : Below w.heap.size w W) => RClass_any p HGP.out _ w.heap.size W hb.size (HP.out.below hb))
          have HSU := Lib.hid (fun W (hb : Below w.heap.size w W) => Sum_any p HGP.out _ w.heap.size W hb.size (HP.out.below hb))
          have HAS := Lib.hid (fun W (hb : Below w.heap.size w W) => Asked_any p HGP.out _ w.heap.size W hb.size (HP.out.below hb))
          unfold RetAB at HSU HAS
          generalize cls p = cl at *
          generalize askedM p = am at *
          generalize askedB p = ab at *
          have hI : Below w5.heap.size w5 w5.drew := (Below.refl _ _).drew
          have hIw : ∀ W, Below w5.heap.size w5 W → Below w.heap.size w W := fun W h => hbe5.trans (h.mono hbe5.size)
          have HIW := Lib.hid hIw
          clear hIw
          refine Flo.region 24 [(0, true), (1, true), (2, true), (3, true), (5, true), (6, true), (7, true), (8, true), (4, false), (9, false), (10, true), (11, true), (12, true), (13, true), (14, true), (15, true), (17, true), (18, true), (19, true), (20, true), (16, false), (21, false), (22, true), (23, true)] (fun v => Below w5.heap.size w5 v) (by kernel_rfl) (by kernel_rfl) rfl hI ?_
          simp only [List.drop_succ_cons, List.drop_zero]
          iterate 8 (apply Flo.op rfl (hI := hI); (· intro v hv K hK; obtain ⟨hc, hf⟩ := Flo.bcl hv; go_wp2_with fail; all_goals first | exact Flo.noUndef (by with_reducible assumption) | exact hK); (· rfl))
          refine Flo.seq rfl fun K hK => ?_
          go_wp2_with fail
          refine (HCS.out _ (HIW.out _ hI)).mono ?_
          rintro e y1 ⟨rfl, hb1⟩
          have hJ1 : Below w5.heap.size w5 y1 := hI.trans (hb1.mono hI.size)
          go_wp2_with fail
          refine hK _ _ hJ1 ?_
          clear hb1 hK hI
          refine Flo.seq rfl fun K hK => ?_
          go_wp2_with fail
          refine (HRC.out _ (HIW.out _ hJ1)).mono ?_
          rintro e y2 ⟨rfl, hb2⟩
          have hJ2 : Below w5.heap.size w5 y2 := hJ1.trans (hb2.mono hJ1.size)
          go_wp2_with fail
          refine hK _ _ hJ2 ?_
          clear hb2 hK hJ1
          iterate 10 (apply Flo.op rfl (hI := hJ2); (· intro v hv K hK; obtain ⟨hc, hf⟩ := Flo.bcl hv; go_wp2_with fail; all_goals first | exact Flo.noUndef (by with_reducible assumption) | exact hK); (· rfl))
          refine Flo.seq rfl fun K hK => ?_
          go_wp2_with fail
          refine (HSU.out _ (HIW.out _ hJ2)).mono ?_
          rintro e y3 ⟨rfl, hb3⟩
          have hJ3 : Below w5.heap.size w5 y3 := hJ2.trans (hb3.mono hJ2.size)
          go_wp2_with fail
          refine hK _ _ hJ3 ?_
          clear hb3 hK hJ2
          refine Flo.seq rfl fun K hK => ?_
          go_wp2_with fail
          refine (HAS.out _ (HIW.out _ hJ3)).mono ?_
          rintro e y4 ⟨rfl, hb4⟩
          have hJ4 : Below w5.heap.size w5 y4 := hJ3.trans (hb4.mono hJ3.size)
          go_wp2_with fail
          refine hK _ _ hJ4 ?_
          clear hb4 hK hJ3
          iterate 2 (apply Flo.op rfl (hI := hJ4); (· intro v hv K hK; obtain ⟨hc, hf⟩ := Flo.bcl hv; go_wp2_with fail; all_goals first | exact Flo.noUndef (by with_reducible assumption) | exact hK); (· rfl))
          refine Flo.tail fun K hK => ?_
          have hbe6 := HIW.out _ hJ4
          have hown7 := own_below hown6 hJ4
          clear q0 q1 q2 hown6 hbe5 hJ4 HIW HCS HRC HSU HAS hbw5
          have q0 := (hbe6.cell (p := ⟨b, off + k * 3, none⟩) hbw).trans r0
          have q1 := (hbe6.cell (p := ⟨b, off + k * 3 + 1, none⟩) hbw).trans r1
          have q2 := (hbe6.cell (p := ⟨b, off + k * 3 + 2, none⟩) hbw).trans r2
          go_upto_region 16 with fail
          go_loopw [9] (fun i wi => ∃ (j : Nat), i = .int .i64 j ∧ j ≤ p.conts.length ∧ wi.ownsRow w.heap.size 33 3 (.slice (some ⟨g, 0, none⟩) (G.length + 1) cap4) G6.length (G6.flatMap Prod.fst) ∧ Below w.heap.size w wi) (fun i _ => p.conts.length - (intOf i).toNat)
          case atStart => exact ⟨0, rfl, by omega, hown7, hbe6⟩
          case round =>
            clear q0 q1 q2 hown7 hbe6
            obtain ⟨j, rfl, hj, hown, hbel⟩ := hrel
            have q0 := (hbel.cell (p := ⟨b, off + k * 3, none⟩) hbw).trans r0
            have q1 := (hbel.cell (p := ⟨b, off + k * 3 + 1, none⟩) hbw).trans r1
            have q2 := (hbel.cell (p := ⟨b, off + k * 3 + 2, none⟩) hbw).trans r2
            by_cases hjl : j < p.conts.length
            · obtain ⟨b2, off2, rfl, hb2⟩ := HCA.out j hjl
              obtain ⟨A3, c3, hd1, hd2, hks, hRC, s0, s1, s2, s3, s4, s5⟩ := cont_in HPC.out hbel hjl
              have hgc := HGP.out.all j hjl
              have HGC := Lib.hid hgc
              have HRCC := Lib.hid hRC
              unfold maxLen at hks hd2
              clear hRC hgc
              generalize p.conts[j] = c at *
              have hbw2 : b2 < wr.heap.size := by have := hbel.size; omega
              have hbw1 : b < wr.heap.size := by have := hbel.size; omega
              have HOW := Lib.hid (fun W (hb : Below wr.heap.size wr W) => Own_any p HGP.out c HGC.out _ _ w.heap.size W (Nat.le_trans hbel.size hb.size) (HP.out.below (hbel.trans (hb.mono hbel.size))) (HRCC.out.below (hb.mono hbel.size)))
              have HRO := Lib.hid (fun W (hb : Below wr.heap.size wr W) => ROwn_any p HGP.out c HGC.out _ _ w.heap.size W (Nat.le_trans hbel.size hb.size) (HP.out.below (hbel.trans (hb.mono hbel.size))) (HRCC.out.below (hb.mono hbel.size)))
              generalize ownN p c = on at *
              clear HA HR HRCC HGC HGP HP HPC HCA
              go_upto_region 18 with fail
              have hI : Below wr.heap.size wr wr.drew := (Below.refl _ _).drew
              refine Flo.region 27 [(0, true), (1, true), (2, true), (3, true), (4, true), (5, true), (6, true), (7, true), (8, true), (9, true), (10, true), (11, true), (13, true), (14, true), (15, true), (16, true), (17, true), (18, true), (19, true), (20, true), (21, true), (22, true), (23, true), (24, true), (12, false), (25, false), (26, true)] (fun v => Below wr.heap.size wr v) (by kernel_rfl) (by kernel_rfl) rfl hI ?_
              simp only [List.drop_succ_cons, List.drop_zero]
              iterate 24 (apply Flo.op rfl (hI := hI); (· intro v hv K hK; obtain ⟨hc, hf⟩ := Flo.bcl hv; go_wp2_with fail; all_goals first | exact Flo.noUndef (by with_reducible assumption) | exact hK); (· rfl))
              refine Flo.seq rfl fun K hK => ?_
              go_wp2_with fail
              refine (HOW.out _ hI).mono ?_
              rintro e y5 ⟨rfl, hb5⟩
              have hJ5 : Below wr.heap.size wr y5 := hI.trans (hb5.mono hI.size)
              go_wp2_with fail
              refine hK _ _ hJ5 ?_
              clear hb5 hK hI
              refine Flo.seq rfl fun K hK => ?_
              go_wp2_with fail
              refine (HRO.out _ hJ5).mono ?_
              rintro e y6 ⟨rfl, hb6⟩
              have hJ6 : Below wr.heap.size wr y6 := hJ5.trans (hb6.mono hJ5.size)
              go_wp2_with fail
              refine hK _ _ hJ6 ?_
              clear hb6 hK hJ5
              iterate 1 (apply Flo.op rfl (hI := hJ6); (· intro v hv K hK; obtain ⟨hc, hf⟩ := Flo.bcl hv; go_wp2_with fail; all_goals first | exact Flo.noUndef (by with_reducible assumption) | exact hK); (· rfl))
              refine Flo.tail fun K hK => ?_
              go_wp2_with fail
              go_roundw
              case rel => exact ⟨j + 1, by go_num, by omega, own_below hown hJ6, hbel.trans (hJ6.mono hbel.size)⟩
              case measure => simp [intOf]; omega
            · obtain rfl : j = p.conts.length := by omega
              go_wp2_with fail
              go_roundw
              case rel => exact ⟨k + 1, _, G6, by go_num, by omega, rfl, hGl6, hG6, hown, hbel⟩
              case measure => simp [intOf]; omega
        · have hpos : 0 < podFault p := by omega
          have hs := fun W => same_yes (podFault p) hnn W
          have HS := Lib.hid hs
          clear hs hf
          generalize podFault p = f at *
          go_wp2_with fail
          refine (HPF.out _ hbel).mono ?_
          rintro e w3 ⟨rfl, hb3⟩
          have hbe3 := hbel.trans (hb3.mono hbel.size)
          have hown3 := own_below hown hb3
          clear q0 q1 q2 hown hb3 hbel HPF
          have q0 := (hbe3.cell (p := ⟨b, off + k * 3, none⟩) hbw).trans r0
          have q1 := (hbe3.cell (p := ⟨b, off + k * 3 + 1, none⟩) hbw).trans r1
          have q2 := (hbe3.cell (p := ⟨b, off + k * 3 + 2, none⟩) hbw).trans r2
          go_wp2_with fail
          refine (HCK.out _ hbe3).mono ?_
          rintro e w4 ⟨rfl, hb4⟩
          have hbel := hbe3.trans (hb4.mono hbe3.size)
          have hown := own_below hown3 hb4
          go_wp2_with fail
          refine (HS.out _).mono ?_
          rintro e wq ⟨rfl, rfl⟩
          go_wp2_with fail
          go_roundw
          case rel => exact ⟨k + 1, hv, G, by go_num, by omega, rfl, by omega, hG, hown, hbel⟩
          case measure => simp [intOf]; omega

      · obtain rfl : k = l.length := by omega
        have hBW := hbel.size
        have HGS := Lib.hid (goods_all hG)
        have HRS := Lib.hid (goods_slice hown hG hbel hbel.size)
        have hlen : (G.map Prod.snd).length ≤ 16 := by simp; omega
        clear hG hown
        generalize G.map Prod.snd = gl at *
        have HGR := Lib.hid (fun W (hb : Below wr.heap.size wr W) => Groups_any gl HGS.out hlen _ wr.heap.size W hb.size ((HRS.out.mono fun _ _ h => h.below hb).below hb))
        have HRG := Lib.hid (fun W (hb : Below wr.heap.size wr W) => RGroups_any gl HGS.out hlen _ wr.heap.size W hb.size ((HRS.out.mono fun _ _ h => h.below hb).below hb))
        generalize grs gl = gg at *
        rcases (show milli < 0 ∨ (0 ≤ milli ∧ 100000000 < milli) ∨ (0 ≤ milli ∧ milli ≤ 100000000) by omega) with hm | ⟨hm, hm'⟩ | ⟨hm, hm'⟩
        · go_wp2_with fail
          refine (HGR.out _ (Below.refl _ _)).mono ?_
          rintro e w3 ⟨g1, rfl, ho1, hb3⟩
          go_wp2_with fail
          refine (HRG.out _ hb3).mono ?_
          rintro e w4 ⟨g2, rfl, ho2, hb4⟩
          have ho1' := own_below ho1 hb4
          have HSG := Lib.hid (SameGroups_any gg g1 g2 (· < w4.heap.size) w4 (fun _ h => h) (groups_same ho1') (groups_same ho2))
          go_wp2_with fail
          refine HSG.out.mono ?_
          rintro e w5 ⟨rfl, hb5⟩
          go_wp2_with fail
          go_ret
          exact ⟨rfl, ((hbel.trans (hb3.mono hbel.size)).trans (hb4.mono (by have := hb3.size; omega))).trans (hb5.mono (by have := hb3.size; have := hb4.size; omega))⟩
        · go_wp2_with fail
          refine (HGR.out _ (Below.refl _ _)).mono ?_
          rintro e w3 ⟨g1, rfl, ho1, hb3⟩
          go_wp2_with fail
          refine (HRG.out _ hb3).mono ?_
          rintro e w4 ⟨g2, rfl, ho2, hb4⟩
          have ho1' := own_below ho1 hb4
          have HSG := Lib.hid (SameGroups_any gg g1 g2 (· < w4.heap.size) w4 (fun _ h => h) (groups_same ho1') (groups_same ho2))
          go_wp2_with fail
          refine HSG.out.mono ?_
          rintro e w5 ⟨rfl, hb5⟩
          go_wp2_with fail
          go_ret
          exact ⟨rfl, ((hbel.trans (hb3.mono hbel.size)).trans (hb4.mono (by have := hb3.size; omega))).trans (hb5.mono (by have := hb3.size; have := hb4.size; omega))⟩
        · go_wp2_with fail
          refine (Shares_any milli hm hm' _).mono ?_
          rintro e wq ⟨rfl, rfl⟩
          go_wp2_with fail
          refine (RShares_any milli hm hm' _).mono ?_
          rintro e wq ⟨rfl, rfl⟩
          go_wp2_with fail
          refine (Quota_any milli hm hm' _).mono ?_
          rintro e wq ⟨rfl, rfl⟩
          go_wp2_with fail
          refine (RQuota_any milli hm hm' _).mono ?_
          rintro e wq ⟨rfl, rfl⟩
          go_wp2_with fail
          refine (HGR.out _ (Below.refl _ _)).mono ?_
          rintro e w3 ⟨g1, rfl, ho1, hb3⟩
          go_wp2_with fail
          refine (HRG.out _ hb3).mono ?_
          rintro e w4 ⟨g2, rfl, ho2, hb4⟩
          have ho1' := own_below ho1 hb4
          have HSG := Lib.hid (SameGroups_any gg g1 g2 (· < w4.heap.size) w4 (fun _ h => h) (groups_same ho1') (groups_same ho2))
          go_wp2_with fail
          refine HSG.out.mono ?_
          rintro e w5 ⟨rfl, hb5⟩
          go_wp2_with fail
          go_ret
          exact ⟨rfl, ((hbel.trans (hb3.mono hbel.size)).trans (hb4.mono (by have := hb3.size; omega))).trans (hb5.mono (by have := hb3.size; have := hb4.size; omega))⟩

end
end Go.Proofs.Yticmfflnenoplaa
