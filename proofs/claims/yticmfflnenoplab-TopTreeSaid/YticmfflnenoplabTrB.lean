/- TopTree: its walk. -/
import Derived.Test.YticmfflnenoplabTrA
import Derived.Test.YticmfflnenoplabTopCl
import Derived.Deep.QuietTactic
namespace Go.Proofs.Yticmfflnenoplab
open Go.RowKit Qo Da
theorem group_at {w w' : World} {A : Option Addr} {c : Nat} {l : List Gr} (h : RS w (· < w.heap.size) 4 RG [.slice A l.length c] l) (hb : Below w.heap.size w w') {i : Nat} {g : Gr} (hg : l[i]? = some g) :
    ∃ b off, A = some ⟨b, off, none⟩ ∧ b < w'.heap.size ∧ w'.cell? ⟨b, off + i * 4, none⟩ = some (.string g.path) ∧ w'.cell? ⟨b, off + i * 4 + 1, none⟩ = some (.int .i64 g.sh) ∧ w'.cell? ⟨b, off + i * 4 + 2, none⟩ = some (.int .i64 g.qu) ∧ w'.cell? ⟨b, off + i * 4 + 3, none⟩ = some (.int .i64 g.by_) := by
  obtain ⟨hi, rfl⟩ := List.getElem?_eq_some_iff.1 hg
  obtain ⟨A', c', e, _, _, h4⟩ := h.form
  simp only [List.cons.injEq, Value.slice.injEq, and_true, true_and] at e
  obtain ⟨rfl, rfl⟩ := e
  obtain ⟨b, off, rfl, hlt⟩ := h4 i hi
  obtain ⟨_, cs', e1, e2, e3⟩ := h.at_ hi
  have e3' : cs' = Gr.cells l[i] := e3
  subst e3'
  refine ⟨b, off, rfl, Nat.lt_of_lt_of_le hlt hb.size, ?_, ?_, ?_, ?_⟩
  · exact (hb.cell (p := ⟨b, off + i * 4, none⟩) hlt).trans (e2 0 _ rfl)
  · exact (hb.cell (p := ⟨b, off + i * 4 + 1, none⟩) hlt).trans (e2 1 _ rfl)
  · exact (hb.cell (p := ⟨b, off + i * 4 + 2, none⟩) hlt).trans (e2 2 _ rfl)
  · exact (hb.cell (p := ⟨b, off + i * 4 + 3, none⟩) hlt).trans (e2 3 _ rfl)
/-- The pods that are good, their groups. -/
structure Tr (w : World) (v3 v5 : Value) (l : List Pod) (A3 A5 : Option Addr) (c3 c5 : Nat) : Prop where
  v3 : v3 = .slice A3 l.length c3
  v5 : v5 = .slice A5 (grs l).length c5
  rg : RS w (· < w.heap.size) 4 RG [.slice A5 (grs l).length c5] (grs l)
  rp : RSlice w w.heap.size 3 (RPod w w.heap.size) [.slice A3 l.length c3] l
  good : ∀ k (hk : k < l.length), GoodP l[k]
  len : l.length ≤ 16
  cap3 : l.length ≤ c3 ∧ c3 ≤ maxLen
  cap5 : (grs l).length ≤ c5 ∧ c5 ≤ maxLen
  at3 : ∀ i, i < l.length → ∃ b off, A3 = some ⟨b, off, none⟩ ∧ b < w.heap.size
theorem tr_of {w : World} {base : Nat} {v3 v5 : Value} {l : List Pod} (h3 : RSlice w w.heap.size 3 (RPod w w.heap.size) [v3] l) (hg : ∀ k (hk : k < l.length), GoodP l[k]) (hl : l.length ≤ 16) (h5 : w.ownsRow base 69 4 v5 (grs l).length (flatG (grs l))) :
    ∃ A3 A5 c3 c5, Tr w v3 v5 l A3 A5 c3 c5 := by
  have rg := groups_same h5
  obtain ⟨A5, c5, e5, q1, q2, _⟩ := rg.form
  obtain ⟨A3, c3, e3, q3, q4, q5⟩ := RS.form (RS.of h3)
  obtain rfl : v5 = _ := by simpa using e5
  obtain rfl : v3 = _ := by simpa using e3
  exact ⟨A3, A5, c3, c5, rfl, rfl, rg, h3, hg, hl, ⟨q3, q4⟩, ⟨q1, q2⟩, q5⟩
theorem at0_le {l : List Pod} (h : ∀ k (hk : k < l.length), GoodP l[k]) (hl : l.length ≤ 16) (k : Nat) (hk : k ≤ l.length) : at0 l k ≤ 66 := by
  have := grK_len l h k hk
  unfold at0
  omega
theorem pods_grow {w : World} {B B' : Nat} {cs : List Value} {l : List Pod} (h : RSlice w B 3 (RPod w B) cs l) (hb : B ≤ B') : RSlice w B' 3 (RPod w B') cs l :=
  RS.move (RS.of h) (fun _ _ => rfl) (fun _ h => Nat.lt_of_lt_of_le h hb) (fun _ _ _ h => RPod.mono h hb)
theorem pods_below {w w' : World} {B : Nat} {cs : List Value} {l : List Pod} (h : RSlice w B 3 (RPod w B) cs l) (hb : Below B w w') : RSlice w' B 3 (RPod w' B) cs l := (h.mono fun _ _ h => h.below hb).below hb
theorem pods_nil (w : World) : RSlice w w.heap.size 3 (RPod w w.heap.size) [.slice none 0 0] [] := ⟨none, 0, rfl, Nat.le_refl _, by unfold maxLen; omega, .inl rfl⟩
theorem grs_nil_len : (grs []).length = 2 := by simp [grs, grK]
section
attribute [local irreducible] podFault cls RPod RCont RSlice lightPods GoodsIn grs at0
set_option maxRecDepth 100000 in
set_option maxHeartbeats 6000000 in
theorem topTree_any (l : List Pod) (v : Value) (w : World) (hR : RSlice w w.heap.size 3 (RPod w w.heap.size) [v] l) :
    Calls Try.prog 6 #[v] w (RetBB true w) := by
  obtain ⟨A, cap, e, hl, hcap, hA⟩ := RS.form (RS.of hR)
  obtain rfl : v = _ := by simpa using e
  unfold maxLen at hcap
  have HR := Lib.hid hR
  have HA := Lib.hid hA
  clear hR hA e
  have HG0 := Lib.hid (Groups_any [] (fun k hk => by simp at hk) (by simp) (.slice none 0 0) w.heap.size w (Nat.le_refl _) (pods_nil w))
  have HLP := Lib.hid (fun W (hb : Below w.heap.size w W) => lightPods_any _ l W w.heap.size hb.size ((HR.out.mono fun _ _ h => h.below hb).below hb))
  have h02 := Lib.hid grs_nil_len
  go_enter Try.func6, Try.ntmps6
  go_wp2_with fail
  refine HG0.out.mono ?_
  rintro e w1 ⟨hv0, rfl, hown0, hb1⟩
  obtain ⟨A0, c0, hs0, q1, q2, -⟩ := own_form hown0
  subst hs0
  rw [h02.out] at *
  unfold maxLen at q2
  clear HG0 hown0 h02
  go_wp2_with fail
  refine (HLP.out _ hb1).mono ?_
  rintro e w2 ⟨rfl, hb2⟩
  have hbel := hb1.trans (hb2.mono hb1.size)
  clear hb1 hb2 HLP
  cases hlp : lightPods l
  · go_wp2_with fail
    go_ret
    exact ⟨rfl, hbel⟩
  · have h16 : l.length ≤ 16 := by
      unfold lightPods at hlp
      simp only [Bool.and_eq_true, decide_eq_true_eq] at hlp
      exact hlp.1
    clear hlp
    go_upto_region 7 with fail
    go_loopw [3, 4] (fun s i wi => ∃ (k : Nat) (hv : Value) (G : List (List Value × Pod)), i = .int .i64 k ∧ k ≤ l.length ∧ hv = s ∧ G.length ≤ k ∧ GoodsIn w w.heap.size G ∧ wi.ownsRow w.heap.size 53 3 hv G.length (G.flatMap Prod.fst) ∧ Below w.heap.size w wi) (fun _ i _ => l.length - (intOf i).toNat)
    case atStart => exact ⟨0, _, [], rfl, by omega, rfl, by simp, by unfold GoodsIn; simp, World.ownsRow_nil _ _ _ _, hbel⟩
    case round =>
      clear hbel
      obtain ⟨k, hv, G, rfl, hk, hs, hGl, hG, hown, hbel⟩ := hrel
      subst hs
      by_cases hlt : k < l.length
      · obtain ⟨b, off, rfl, hb⟩ := HA.out k hlt
        obtain ⟨A2, c2, hP, r0, r1, r2, h1, h2, h3, hcA⟩ := pod_at HR.out (Below.refl _ w) hlt
        unfold maxLen at h2 h3
        have hbw : b < w.heap.size := hb
        generalize l[k] = p at *
        have HP := Lib.hid hP
        have HCK := Lib.hid (fun W (hb : Below w.heap.size w W) => Check_any p _ w.heap.size W hb.size (HP.out.below hb))
        clear hP hcA
        have q0 := (hbel.cell (p := ⟨b, off + k * 3, none⟩) hbw).trans r0
        have q1 := (hbel.cell (p := ⟨b, off + k * 3 + 1, none⟩) hbw).trans r1
        have q2 := (hbel.cell (p := ⟨b, off + k * 3 + 2, none⟩) hbw).trans r2
        by_cases hf : podFault p = 0
        · have HGP := Lib.hid (good_of hf)
          rw [hf] at HCK
          clear hf
          go_wp2_with fail
          refine (HCK.out _ hbel).mono ?_
          rintro e w4 ⟨rfl, hb4⟩
          rw [errV_0]
          have hbe4 := hbel.trans (hb4.mono hbel.size)
          have hown4 := own_below hown hb4
          clear q0 q1 q2 hown hb4 hbel HCK
          have q0 := (hbe4.cell (p := ⟨b, off + k * 3, none⟩) hbw).trans r0
          have q1 := (hbe4.cell (p := ⟨b, off + k * 3 + 1, none⟩) hbw).trans r1
          have q2 := (hbe4.cell (p := ⟨b, off + k * 3 + 2, none⟩) hbw).trans r2
          go_wp2_with (at_builtin; refine wpList_app _ podT rfl (.tmp 29) (.tmp 34) rfl w.heap.size hv _ _ rfl (by exact hown4.alloc _) ⟨w4.heap.size, 0, none⟩ 1 1 [.string p.name, .int .i64 p.prio, .slice A2 p.conts.length c2] rfl rfl (news_new w4 _ _) (by simp [Value.oneCell']) (by omega) (by unfold maxLen; omega) (by omega) (by have := hbe4.size; simp; omega) ?_; intro g cap4 w5 hown5 hg5 hat5 hlt5)
          have hbe5 : Below w.heap.size w w5 := (hbe4.alloc hbe4.size _).grown hg5 (Nat.le_trans hbe4.size (by simp)) fun k hk => (hown4.lt k hk).1
          have hown6 : w5.ownsRow w.heap.size 53 3 (.slice (some ⟨g, 0, none⟩) (G.length + 1) cap4) (G ++ [([Value.string p.name, Value.int .i64 p.prio, Value.slice A2 p.conts.length c2], p)]).length ((G ++ [([Value.string p.name, Value.int .i64 p.prio, Value.slice A2 p.conts.length c2], p)]).flatMap Prod.fst) := by
            rw [List.flatMap_append, List.length_append]
            exact hown5
          have hG6 := goods_snoc hG (x := ([Value.string p.name, Value.int .i64 p.prio, Value.slice A2 p.conts.length c2], p)) ⟨rfl, HP.out, HGP.out⟩
          have hGl6 : (G ++ [([Value.string p.name, Value.int .i64 p.prio, Value.slice A2 p.conts.length c2], p)]).length ≤ k + 1 := by rw [List.length_append]; simp; omega
          clear q0 q1 q2 hown5 hg5 hat5 hown4 hbe4 hG
          generalize G ++ [([Value.string p.name, Value.int .i64 p.prio, Value.slice A2 p.conts.length c2], p)] = G6 at *
          go_roundw
          case rel => exact ⟨k + 1, _, G6, by go_num, by omega, rfl, hGl6, hG6, hown6, hbe5⟩
          case measure => simp [intOf]; omega
        · have hev := errV_pos _ hf
          go_wp2_with fail
          refine (HCK.out _ hbel).mono ?_
          rintro e w4 ⟨rfl, hb4⟩
          rw [hev]
          go_wp2_with fail
          go_roundw
          case rel => exact ⟨k + 1, _, G, by go_num, by omega, rfl, by omega, hG, own_below hown hb4, hbel.trans (hb4.mono hbel.size)⟩
          case measure => simp [intOf]; omega
      · obtain rfl : k = l.length := by omega
        clear HR HA
        have hsl := goods_slice hown hG hbel hbel.size
        have hga := goods_all hG
        have hml : (G.map Prod.snd).length ≤ 16 := by rw [List.length_map]; omega
        have HGR := Lib.hid (Groups_any (G.map Prod.snd) hga hml hv wr.heap.size wr (Nat.le_refl _) hsl)
        have HSL := Lib.hid hsl
        have HGA := Lib.hid hga
        clear hsl hga hown hG hGl
        generalize G.map Prod.snd = Gl at *
        go_wp2_with fail
        refine HGR.out.mono ?_
        rintro e w5 ⟨v5, rfl, hown5, hb5⟩
        obtain ⟨A3, A5, c3, c5, hT⟩ := tr_of (pods_grow (pods_below HSL.out hb5) hb5.size) HGA.out hml hown5
        have hbe5 := hbel.trans (hb5.mono hbel.size)
        obtain rfl := hT.v3
        obtain rfl := hT.v5
        have HT := Lib.hid hT
        have hc3 := hT.cap3
        have hc5 := hT.cap5
        unfold maxLen at hc3 hc5
        have hgl : (grs Gl).length ≤ 66 := by
          have := at0_le HGA.out hml Gl.length (Nat.le_refl _)
          rw [at0_full] at this
          exact this
        have H0 := Lib.hid (at0_zero Gl)
        have HNX := Lib.hid (at0_next Gl)
        have HLT := Lib.hid (at0_lt Gl)
        have HFU : Hid (at0 Gl Gl.length = (grs Gl).length) := Lib.hid (at0_full Gl)
        have HUN := Lib.hid (under_at Gl HGA.out)
        clear HGR HSL hown5 hb5 hT hbel
        go_upto_region 14 with fail
        go_loopw [6, 7] (fun a i wi => ∃ k : Nat, i = .int .i64 k ∧ k ≤ Gl.length ∧ a = .int .i64 (at0 Gl k) ∧ Below w5.heap.size w5 wi) (fun _ i _ => Gl.length - (intOf i).toNat)
        case atStart => exact ⟨0, rfl, by omega, by rw [H0.out]; rfl, Below.refl _ _⟩
        case round =>
          obtain ⟨k, rfl, hk, rfl, hbi⟩ := hrel
          by_cases hkl : k < Gl.length
          · obtain ⟨b3, off3, rfl, hb3⟩ := HT.out.at3 k hkl
            obtain ⟨A2, c2, -, -, -, r2, h1, h2, -, -⟩ := pod_at HT.out.rp (Below.refl _ w5) hkl
            unfold maxLen at h2
            have hn3 := (HGA.out k hkl).len
            have hnx := HNX.out k hkl
            have hlt := HLT.out k hkl
            have hg0 := grs_pod Gl k hkl
            have HC : Hid (∀ j, j < Gl[k].conts.length → ∃ c, (grs Gl)[at0 Gl k + 1 + j]? = some c ∧ Under (podG Gl[k]) c) := Lib.hid fun j hj => ⟨_, grs_cont Gl k hkl j hj, under_of (HGA.out k hkl) j hj⟩
            obtain ⟨b5, off5, rfl, hb5, g0, g1, g2, g3⟩ := group_at HT.out.rg hbi hg0
            have HNX2 := Lib.hid hnx
            have HRG := Lib.hid HT.out.rg
            clear hnx hg0 HNX HLT HUN HGA HT H0 HFU
            generalize at0 Gl k = a0 at *
            generalize Gl[k].conts.length = nc at *
            generalize podG Gl[k] = g at *
            obtain ⟨gp, gsh, gqu, gby⟩ := g
            dsimp only at g0 g1 g2 g3
            have hd0 : decide ((grs Gl).length ≤ a0) = false := by rw [decide_eq_false_iff_not]; omega
            go_upto_region 19 with fail
            clear hd0
            have k8 := Blk.new wr 69 #[.string gp, .int .i64 gsh, .int .i64 gqu, .int .i64 gby]
            have hbi2 := hbi.alloc hbi.size (.cells #[.string gp, .int .i64 gsh, .int .i64 gqu, .int .i64 gby] 69)
            generalize wr.alloc (.cells #[.string gp, .int .i64 gsh, .int .i64 gqu, .int .i64 gby] 69) = wa at *
            generalize wr.heap.size = p8 at *
            clear g0 g1 g2 g3
            go_upto_region 21 with fail
            go_loopw [6, 9] (fun a i wx => ∃ j : Nat, i = .int .i64 j ∧ j ≤ nc ∧ a = .int .i64 ((a0 + 1 + j : Nat) : Int) ∧ Below w5.heap.size w5 wx ∧ Blk wx p8 69 #[.string gp, .int .i64 gsh, .int .i64 gqu, .int .i64 gby]) (fun _ i _ => nc - (intOf i).toNat)
            case atStart => exact ⟨0, rfl, by omega, by go_num, hbi2, k8⟩
            case round =>
              clear hbi2 k8
              obtain ⟨j, rfl, hj, rfl, hbx, k8⟩ := hrel
              have q2 := (hbx.cell (p := ⟨b3, off3 + k * 3 + 2, none⟩) hb3).trans r2
              have hb3x : b3 < wr.heap.size := Nat.lt_of_lt_of_le hb3 hbx.size
              by_cases hjl : j < nc
              · obtain ⟨c, hc, hU⟩ := HC.out j hjl
                obtain ⟨b6, off6, e6, hb6, d0, d1, d2, d3⟩ := group_at HRG.out hbx hc
                simp only [Option.some.injEq, Addr.mk.injEq, and_true] at e6
                obtain ⟨rfl, rfl⟩ := e6
                clear hc
                obtain ⟨u1, u2, u3, u4, u5⟩ := hU
                obtain ⟨cp, csh, cqu, cby⟩ := c
                dsimp only at u1 u2 u3 u4 u5 d0 d1 d2 d3
                go_upto_region 26 with fail
                have hwx : Below wr.heap.size wr (wr.alloc (.cells #[.string cp, .int .i64 csh, .int .i64 cqu, .int .i64 cby] 69)) := (Below.refl _ _).alloc (Nat.le_refl _) _
                have k10 := Blk.new wr 69 #[.string cp, .int .i64 csh, .int .i64 cqu, .int .i64 cby]
                have k9 := k8.below hwx k8.lt
                have hby := hbx.trans (hwx.mono hbx.size)
                generalize wr.alloc (.cells #[.string cp, .int .i64 csh, .int .i64 cqu, .int .i64 cby] 69) = wy at *
                generalize wr.heap.size = p10 at *
                clear d0 d1 d2 d3 k8 hbx q2 hb3x hb6 hwx
                have hA : (0 < gby ∧ (cby == 0) = false ∧ cby ≤ gby) ∨ ¬ 0 < gby := by
                  by_cases h : 0 < gby
                  · exact .inl ⟨h, by rw [beq_eq_false_iff_ne]; exact (u4 h).1, (u4 h).2⟩
                  · exact .inr h
                have hB : ¬ 0 < gqu ∨ (0 < gqu ∧ 0 ≤ cqu ∧ cqu ≤ gqu) ∨ (0 < gqu ∧ 0 ≤ cqu ∧ gqu < cqu ∧ cqu ≤ 1000) := by
                  by_cases h : 0 < gqu
                  · have := u5 h
                    omega
                  · exact .inl h
                clear u4 u5
                go_upto_region 27 with fail
                have e9 := k9.cells
                have l9 := k9.lt
                have e10 := k10.cells
                have l10 := k10.lt
                have u1' : ¬ cp.size ≤ gp.size := by omega
                have u3' : ¬ gsh < csh := by omega
                have HBY := Lib.hid hby
                have K9 := Lib.hid k9
                have HAB := Lib.hid (And.intro hA hB)
                have HN3 := Lib.hid hn3
                have hle : (gp.size : Int) ≤ (cp.size : Int) := by omega
                have hle2 : gp.size ≤ cp.size := by omega
                clear HC HRG HNX2 r2 h1 h2 hn3 hlt hbe5 hgl hml hb5 hbi hb3 hby k9 k10 hA hB hl hcap h16 hc5 hk hj u3
                go_quiet (fail)
                obtain ⟨hA, hB⟩ := HAB.out
                have hn3 := HN3.out
                have hq := below_drewN3 HBY.out nq
                have hk9 := K9.out.drewN nq
                clear HAB HBY K9 HN3 u1 u1' u2 u3' hle hle2
                rcases hA with ⟨a1, a2, a3⟩ | a1
                all_goals
                  rcases hB with b1 | ⟨b1, b2, b3⟩ | ⟨b1, b2, b3, b4⟩
                  all_goals
                    go_wp2_with fail
                    go_roundw
                    case rel =>
                      have f1 : j + 1 ≤ nc := hjl
                      have f2 : Value.int .i64 ((j : Int) + 1) = .int .i64 ((j + 1 : Nat) : Int) := by go_num
                      have f3 : Value.int .i64 (((a0 : Int) + 1 + (j : Int)) + 1) = .int .i64 ((a0 + 1 + (j + 1) : Nat) : Int) := by go_num
                      exact ⟨j + 1, f2, f1, f3, hq, hk9⟩
                    case measure => simp [intOf]; omega
              · obtain rfl : j = nc := by omega
                go_wp2_with fail
                go_roundw
                case rel => exact ⟨k + 1, by go_num, by omega, by rw [HNX2.out], hbx⟩
                case measure => simp [intOf]; omega
          · obtain rfl : k = Gl.length := by omega
            rw [HFU.out]
            go_wp2_with fail
            go_ret
            exact ⟨rfl, hbe5.trans (hbi.mono hbe5.size)⟩
end
end Go.Proofs.Yticmfflnenoplab
