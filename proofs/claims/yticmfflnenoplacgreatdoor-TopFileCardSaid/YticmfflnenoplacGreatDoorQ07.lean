/- Texts laid together: SmA, SmB, Read, Light, SmC, TfB, HeldRd, Open. No statement is proved here. -/
import Derived.Laws.StructEq
import Derived.Deep.CutBlock
import Derived.OpenShut
import Derived.ChangeArms
import Derived.ProofKit
import Derived.Test.YticmfflnenoplacGreatDoorQ06
namespace Go.Proofs.YticmfflnenoplacGreatDoor
open Go.RowKit Go.Deep Pop Bi Da Sv Qo
/-- Are two the same? They are, if they are equal. -/
def SameR (eq : Prop) (w : World) (e : Ending) (w' : World) : Prop := ∃ b : Bool, e = .returned (.bool b) ∧ (eq → b = true) ∧ Below w.heap.size w w'
theorem SameR.no {eq : Prop} {w w' : World} (h : ¬ eq) (hb : Below w.heap.size w w') : SameR eq w (.returned (.bool false)) w' := ⟨false, rfl, fun h' => absurd h' h, hb⟩
theorem SameR.yes {eq : Prop} {w w' : World} (hb : Below w.heap.size w w') : SameR eq w (.returned (.bool true)) w' := ⟨true, rfl, fun _ => rfl, hb⟩
theorem ne_len {α : Type} {l m : List α} (h : ¬ l.length = m.length) : ¬ l = m := fun e => h (by rw [e])
theorem ne_at {α : Type} {l m : List α} {k : Nat} {x y : α} (h1 : l[k]? = some x) (h2 : m[k]? = some y) (h : ¬ x = y) : ¬ l = m := by
  rintro rfl
  exact h (Option.some.inj (h1.symm.trans h2))
theorem str_ne {a b : ByteArray} (h : (a.toList == b.toList) = false) : ¬ a = b := by
  rintro rfl
  simp at h
set_option maxRecDepth 100000 in
set_option maxHeartbeats 2000000 in
theorem sameN_any (l m : List Int) (v v2 : Value) (w : World) (h1 : RSlice w w.heap.size 1 RInt [v] l) (h2 : RSlice w w.heap.size 1 RInt [v2] m) :
    Calls Tryz.prog 54 #[v, v2] w (SameR (l = m) w) := by
  obtain ⟨A, cap, e, hl, hcap, hA⟩ := (RS.of h1).form
  obtain rfl : v = _ := by simpa using e
  obtain ⟨A2, cap2, e2, hl2, hcap2, hA2⟩ := (RS.of h2).form
  obtain rfl : v2 = _ := by simpa using e2
  unfold maxLen at hcap hcap2
  have H1 := Lib.hid h1
  have H2 := Lib.hid h2
  have HA := Lib.hid hA
  have HA2 := Lib.hid hA2
  clear h1 h2 hA hA2 e e2
  by_cases hlen : l.length = m.length
  · have HAT : Hid (∀ (k : Nat) (x y : Int), l[k]? = some x → m[k]? = some y → ¬ x = y → ¬ l = m) := Lib.hid (fun k x y h1 h2 h => ne_at h1 h2 h)
    have HLE := Lib.hid hlen
    rw [← hlen] at H2 HA2 hl2 ⊢
    generalize hll : l.length = ll at *
    have HLL := Lib.hid hll
    clear hll hlen
    go_enter Tryz.func54, Tryz.ntmps54
    go_upto_region 4 with fail
    go_loopw [5] (fun i wi => ∃ k : Nat, i = .int .i64 k ∧ k ≤ ll ∧ Below w.heap.size w wi) (fun i _ => ll - (intOf i).toNat)
    case atStart => exact ⟨0, rfl, by omega, Below.refl _ _⟩
    case round =>
      obtain ⟨k, rfl, hk, hbel⟩ := hrel
      by_cases hlt : k < ll
      · obtain ⟨b, off, rfl, hb⟩ := HA.out k hlt
        obtain ⟨b2, off2, rfl, hb2⟩ := HA2.out k hlt
        have hl1 : k < l.length := by rw [HLL.out]; exact hlt
        have hl3 : k < m.length := by rw [← HLE.out]; exact hlt
        obtain ⟨r0, _⟩ := rs_int1 (RS.of (H1.out.below hbel)) hl1
        obtain ⟨s0, _⟩ := rs_int1 (RS.of (H2.out.below hbel)) hl3
        have HN := Lib.hid (HAT.out k _ _ (List.getElem?_eq_getElem hl1) (List.getElem?_eq_getElem hl3))
        have hbs := hbel.size
        generalize l[k] = x at *
        generalize m[k] = y at *
        by_cases hxy : x = y
        · subst hxy
          clear HN
          go_upto_region 6 with fail
          go_quiet (fail)
          go_wp2_with fail
          go_roundw
          case rel => exact ⟨k + 1, by go_num, by omega, ⟨hbel.os, hbel.tape, hbel.output, hbel.size, hbel.block⟩⟩
          case measure => simp [intOf]; omega
        · have HX := Lib.hid (HN.out hxy)
          clear HN
          go_upto_region 6 with fail
          go_quiet (fail)
          go_wp2_with fail
          go_ret
          exact SameR.no HX.out ⟨hbel.os, hbel.tape, hbel.output, hbel.size, hbel.block⟩
      · obtain rfl : k = ll := by omega
        go_wp2_with fail
        go_ret
        exact SameR.yes hbel
  · have HX := Lib.hid (ne_len hlen)
    have hi : ¬ (l.length : Int) = m.length := by omega
    clear hlen
    go_enter Tryz.func54, Tryz.ntmps54
    go_wp2_with fail
    go_ret
    exact SameR.no HX.out (Below.refl _ _)
/-! ### Pods -/
theorem pod_ne {p q : Pod} (h : ¬ p.name = q.name ∨ ¬ p.prio = q.prio ∨ ¬ p.conts = q.conts) : ¬ p = q := by
  rintro rfl
  simp at h
theorem cont_ne {c d : Cont} (h : ¬ c.name = d.name ∨ ¬ c.askM = d.askM ∨ ¬ c.askB = d.askB ∨ ¬ c.capM = d.capM ∨ ¬ c.capB = d.capB ∨ ¬ c.devs = d.devs) : ¬ c = d := by
  rintro rfl
  simp at h
theorem need_ne {c d : Need} (h : ¬ c.kind = d.kind ∨ ¬ c.many = d.many) : ¬ c = d := by
  rintro rfl
  simp at h
set_option maxRecDepth 100000 in
set_option maxHeartbeats 8000000 in
theorem samePod_any (p q : Pod) (cs ds : List Value) (w : World) (h1 : RPod w w.heap.size cs p) (h2 : RPod w w.heap.size ds q) :
    Calls Tryz.prog 53 #[.agg cs.toArray, .agg ds.toArray] w (SameR (p = q) w) := by
  obtain ⟨cv, rfl, hn1, hp1, hc1⟩ := h1
  obtain ⟨dv, rfl, hn2, hp2, hc2⟩ := h2
  obtain ⟨A, cap, e, hl, hcap, hA⟩ := (RS.of hc1).form
  obtain rfl : cv = _ := by simpa using e
  obtain ⟨A2, cap2, e2, hl2, hcap2, hA2⟩ := (RS.of hc2).form
  obtain rfl : dv = _ := by simpa using e2
  unfold maxLen at hcap hcap2 hn1 hn2
  have H1 := Lib.hid hc1
  have H2 := Lib.hid hc2
  have HA := Lib.hid hA
  have HA2 := Lib.hid hA2
  have HNE := Lib.hid (@pod_ne p q)
  have hb0 : Below w.heap.size w ((w.alloc (.cells #[.string p.name, .int .i64 p.prio, .slice A p.conts.length cap] 45)).alloc (.cells #[.string q.name, .int .i64 q.prio, .slice A2 q.conts.length cap2] 45)) := ((Below.refl _ _).alloc (Nat.le_refl _) _).alloc (by simp) _
  have k1 := (Blk.new w 45 #[.string p.name, .int .i64 p.prio, .slice A p.conts.length cap]).alloc (.cells #[.string q.name, .int .i64 q.prio, .slice A2 q.conts.length cap2] 45)
  have k2 := Blk.new (w.alloc (.cells #[.string p.name, .int .i64 p.prio, .slice A p.conts.length cap] 45)) 45 #[.string q.name, .int .i64 q.prio, .slice A2 q.conts.length cap2]
  have hsz : (w.alloc (.cells #[.string p.name, .int .i64 p.prio, .slice A p.conts.length cap] 45)).heap.size = w.heap.size + 1 := by simp
  rw [hsz] at k2
  clear hc1 hc2 hA hA2 e e2 hsz
  obtain ⟨pn, pp, pc⟩ := p
  obtain ⟨qn, qp, qc⟩ := q
  dsimp only at *
  go_enter Tryz.func53, Tryz.ntmps53
  go_upto_region 1 with fail
  generalize (w.alloc (.cells #[.string pn, .int .i64 pp, .slice A pc.length cap] 45)).alloc (.cells #[.string qn, .int .i64 qp, .slice A2 qc.length cap2] 45) = w1 at *
  have HB0 := Lib.hid hb0
  clear hb0
  have K1 := Lib.hid k1
  have K2 := Lib.hid k2
  have e1 := k1.cells
  have e2 := k2.cells
  have z1 := k1.lt
  have z2 := k2.lt
  have hwz := HB0.out.size
  cases hE : (pn.toList == qn.toList)
  · have HX := Lib.hid (HNE.out (.inl (str_ne hE)))
    clear HNE H1 H2
    go_wp2_with fail
    go_ret
    exact SameR.no HX.out HB0.out
  · have hnn : pn = qn := by rw [beq_iff_eq] at hE; exact Go.WideShapes.bytes_inj (by rw [← data_list, ← data_list, hE])
    subst hnn
    by_cases hpq : pp = qp
    · subst hpq
      by_cases hlen : pc.length = qc.length
      · have HAT : Hid (∀ (k : Nat) (x y : Cont), pc[k]? = some x → qc[k]? = some y → ¬ x = y → ¬ (⟨pn, pp, pc⟩ : Pod) = ⟨pn, pp, qc⟩) := Lib.hid (fun k x y h1 h2 h => HNE.out (.inr (.inr (ne_at h1 h2 h))))
        have HLE := Lib.hid hlen
        rw [← hlen] at H2 HA2 hl2 e2 ⊢
        have K2' := K2
        clear K2
        rw [← hlen] at K2'
        have K2 := K2'
        clear K2' k1 k2 HNE hE
        generalize hll : pc.length = ll at *
        have HLL := Lib.hid hll
        clear hll hlen
        go_upto_region 4 with fail
        go_loopw [5] (fun i wi => ∃ k : Nat, i = .int .i64 k ∧ k ≤ ll ∧ Hid (Below w1.heap.size w1 wi)) (fun i _ => ll - (intOf i).toNat)
        case atStart => exact ⟨0, rfl, by omega, Lib.hid (Below.refl _ _)⟩
        case round =>
          clear e1 e2
          obtain ⟨k, rfl, hk, HB⟩ := hrel
          have k1 := K1.out.below HB.out z1
          have k2 := K2.out.below HB.out z2
          have e1 := k1.cells
          have e2 := k2.cells
          have y1 := k1.lt
          have y2 := k2.lt
          by_cases hlt : k < ll
          · obtain ⟨b, off, rfl, hb⟩ := HA.out k hlt
            obtain ⟨b2, off2, rfl, hb2⟩ := HA2.out k hlt
            have hl1 : k < pc.length := by rw [HLL.out]; exact hlt
            have hl3 : k < qc.length := by rw [← HLE.out]; exact hlt
            have hbw : Below w.heap.size w wr := HB0.out.trans (HB.out.mono hwz)
            obtain ⟨_, A3, c3, hd1, _, hcc, g1, g2, g3⟩ := cont_at2 H1.out hbw hl1
            obtain ⟨_, A4, c4, hd2, _, hcd, g4, g5, g6⟩ := cont_at2 H2.out hbw hl3
            have HN := Lib.hid (HAT.out k _ _ (List.getElem?_eq_getElem hl1) (List.getElem?_eq_getElem hl3))
            have HCN := Lib.hid (@cont_ne pc[k] qc[k])
            have c0 := hcc 0 _ rfl
            have c1 := hcc 1 _ rfl
            have c2 := hcc 2 _ rfl
            have c3' := hcc 3 _ rfl
            have c4' := hcc 4 _ rfl
            have c5 := hcc 5 _ rfl
            have d0 := hcd 0 _ rfl
            have d1 := hcd 1 _ rfl
            have d2 := hcd 2 _ rfl
            have d3 := hcd 3 _ rfl
            have d4 := hcd 4 _ rfl
            have d5 := hcd 5 _ rfl
            rw [Nat.add_zero] at c0 d0
            have hbs := hbw.size
            have hb1w : b < wr.heap.size := by omega
            have hb2w : b2 < wr.heap.size := by omega
            have HD1 := Lib.hid hd1
            have HD2 := Lib.hid hd2
            have HG3 := Lib.hid g3
            have HG6 := Lib.hid g6
            unfold maxLen at g2 g5
            clear hcc hcd hd1 hd2 g3 g6
            generalize pc[k] = x at *
            generalize qc[k] = y at *
            obtain ⟨xn, x1, x2, x3, x4, xd⟩ := x
            obtain ⟨yn, y1', y2', y3, y4, yd⟩ := y
            dsimp only at *
            go_upto_region 8 with fail
            have hba : Below wr.heap.size wr ((wr.alloc (.cells #[.string xn, .int .i64 x1, .int .i64 x2, .int .i64 x3, .int .i64 x4, .slice A3 xd.length c3] 73)).alloc (.cells #[.string yn, .int .i64 y1', .int .i64 y2', .int .i64 y3, .int .i64 y4, .slice A4 yd.length c4] 73)) := ((Below.refl _ _).alloc (Nat.le_refl _) _).alloc (by simp) _
            have m1 := (Blk.new wr 73 #[.string xn, .int .i64 x1, .int .i64 x2, .int .i64 x3, .int .i64 x4, .slice A3 xd.length c3]).alloc (.cells #[.string yn, .int .i64 y1', .int .i64 y2', .int .i64 y3, .int .i64 y4, .slice A4 yd.length c4] 73)
            have m2 := Blk.new (wr.alloc (.cells #[.string xn, .int .i64 x1, .int .i64 x2, .int .i64 x3, .int .i64 x4, .slice A3 xd.length c3] 73)) 73 #[.string yn, .int .i64 y1', .int .i64 y2', .int .i64 y3, .int .i64 y4, .slice A4 yd.length c4]
            have hsz : (wr.alloc (.cells #[.string xn, .int .i64 x1, .int .i64 x2, .int .i64 x3, .int .i64 x4, .slice A3 xd.length c3] 73)).heap.size = wr.heap.size + 1 := by simp
            rw [hsz] at m2
            clear c0 c1 c2 c3' c4' c5 d0 d1 d2 d3 d4 d5 hsz e1 e2
            have k1 := k1.below hba y1
            have k2 := k2.below hba y2
            have HBA := Lib.hid hba
            have hws := hba.size
            have HD1w := Lib.hid (HD1.out.below (hba.mono hbs))
            have HD2w := Lib.hid (HD2.out.below (hba.mono hbs))
            clear HD1 HD2
            have HD1 := HD1w
            have HD2 := HD2w
            clear HD1w HD2w
            clear hba
            generalize (wr.alloc (.cells #[.string xn, .int .i64 x1, .int .i64 x2, .int .i64 x3, .int .i64 x4, .slice A3 xd.length c3] 73)).alloc (.cells #[.string yn, .int .i64 y1', .int .i64 y2', .int .i64 y3, .int .i64 y4, .slice A4 yd.length c4] 73) = wa at *
            have HBB := Lib.hid (HB.out.trans (HBA.out.mono HB.out.size))
            have HBW := Lib.hid (hbw.trans (HBA.out.mono hbw.size))
            have e1 := k1.cells
            have e2 := k2.cells
            have f1 := m1.cells
            have f2 := m2.cells
            have y1 := k1.lt
            have y2 := k2.lt
            have v1 := m1.lt
            have v2 := m2.lt
            clear hbw
            generalize wr.heap.size = pr at *
            cases hE : (xn.toList == yn.toList)
            · have HX := Lib.hid (HN.out (HCN.out (.inl (str_ne hE))))
              clear HN HCN HAT
              go_wp2_with fail
              go_ret
              exact SameR.no HX.out HBW.out
            · have hnn : xn = yn := by rw [beq_iff_eq] at hE; exact Go.WideShapes.bytes_inj (by rw [← data_list, ← data_list, hE])
              subst hnn
              clear hE
              by_cases h : x1 = y1'
              · subst h
                by_cases h : x2 = y2'
                · subst h
                  by_cases h : x3 = y3
                  · subst h
                    by_cases h : x4 = y4
                    · subst h
                      by_cases hlen2 : xd.length = yd.length
                      · have HDT : Hid (∀ (j : Nat) (u z : Need), xd[j]? = some u → yd[j]? = some z → ¬ u = z → ¬ (⟨pn, pp, pc⟩ : Pod) = ⟨pn, pp, qc⟩) := Lib.hid (fun j u z h1 h2 h => HN.out (HCN.out (.inr (.inr (.inr (.inr (.inr (ne_at h1 h2 h))))))))
                        have HDE := Lib.hid hlen2
                        rw [← hlen2] at HD2 HG6 g4 f2 m2
                        clear HN HCN
                        rw [← hlen2]
                        generalize hdd : xd.length = dl at *
                        have HDL := Lib.hid hdd
                        clear hdd hlen2
                        have M1 := Lib.hid m1
                        have M2 := Lib.hid m2
                        have K1a := Lib.hid k1
                        have K2a := Lib.hid k2
                        go_upto_region 11 with fail
                        go_loopw [8] (fun i wi => ∃ j : Nat, i = .int .i64 j ∧ j ≤ dl ∧ Hid (Below wa.heap.size wa wi)) (fun i _ => dl - (intOf i).toNat)
                        case atStart => exact ⟨0, rfl, by omega, Lib.hid (Below.refl _ _)⟩
                        case round =>
                          clear e1 e2 f1 f2
                          obtain ⟨j, rfl, hj, HBJ⟩ := hrel
                          have q1 := M1.out.below HBJ.out v1
                          have q2 := M2.out.below HBJ.out v2
                          have f1 := q1.cells
                          have f2 := q2.cells
                          have u1 := q1.lt
                          have u2 := q2.lt
                          have HBV := Lib.hid (HBB.out.trans (HBJ.out.mono HBB.out.size))
                          by_cases hltj : j < dl
                          · obtain ⟨b5, off5, rfl, hb5⟩ := HG3.out j hltj
                            obtain ⟨b6, off6, rfl, hb6⟩ := HG6.out j hltj
                            have hj1 : j < xd.length := by rw [HDL.out]; exact hltj
                            have hj2 : j < yd.length := by rw [← HDE.out]; exact hltj
                            have hbj : Below w.heap.size wa wr := HBJ.out.mono (by omega)
                            obtain ⟨n0, n1, _⟩ := need_at (HD1.out.below hbj) hj1
                            obtain ⟨o0, o1, _⟩ := need_at (HD2.out.below hbj) hj2
                            have HNJ := Lib.hid (HDT.out j _ _ (List.getElem?_eq_getElem hj1) (List.getElem?_eq_getElem hj2))
                            have HNN := Lib.hid (@need_ne xd[j] yd[j])
                            have hbz := hbj.size
                            have h5w : b5 < wr.heap.size := by omega
                            have h6w : b6 < wr.heap.size := by omega
                            have HBF : Hid (Below w.heap.size w wr) := Lib.hid (HBW.out.trans hbj)
                            clear hbj HDT
                            generalize xd[j] = u at *
                            generalize yd[j] = z at *
                            obtain ⟨uk, um⟩ := u
                            obtain ⟨zk, zm⟩ := z
                            dsimp only at *
                            cases hE : (uk.toList == zk.toList)
                            · have HX := Lib.hid (HNJ.out (HNN.out (.inl (str_ne hE))))
                              clear HNJ HNN
                              go_upto_region 13 with fail
                              go_quiet (fail)
                              go_wp2_with fail
                              go_ret
                              exact SameR.no HX.out (below_drewN9 HBF.out _)
                            · have hnn : uk = zk := by rw [beq_iff_eq] at hE; exact Go.WideShapes.bytes_inj (by rw [← data_list, ← data_list, hE])
                              subst hnn
                              clear hE
                              by_cases h : um = zm
                              · subst h
                                clear HNJ HNN
                                go_upto_region 13 with fail
                                go_quiet (fail)
                                go_wp2_with fail
                                go_roundw
                                case rel => exact ⟨j + 1, by first | rfl | go_num, by omega, Lib.hid (below_drewN9 HBJ.out _)⟩
                                case measure => simp [intOf] <;> omega
                              · have HX := Lib.hid (HNJ.out (HNN.out (.inr h)))
                                clear HNJ HNN
                                go_upto_region 13 with fail
                                go_quiet (fail)
                                go_wp2_with fail
                                go_ret
                                exact SameR.no HX.out (below_drewN9 HBF.out _)
                          · obtain rfl : j = dl := by omega
                            go_wp2_with fail
                            go_roundw
                            case rel => exact ⟨k + 1, by first | rfl | go_num, by omega, HBV⟩
                            case measure => simp [intOf] <;> omega
                      · have HX := Lib.hid (HN.out (HCN.out (.inr (.inr (.inr (.inr (.inr (ne_len hlen2))))))))
                        have hi2 : ¬ (xd.length : Int) = yd.length := by omega
                        clear HN HCN HAT hlen2
                        go_wp2_with fail
                        go_ret
                        exact SameR.no HX.out HBW.out
                    · have HX := Lib.hid (HN.out (HCN.out (.inr (.inr (.inr (.inr (.inl h)))))))
                      clear HN HCN HAT
                      go_wp2_with fail
                      go_ret
                      exact SameR.no HX.out HBW.out
                  · have HX := Lib.hid (HN.out (HCN.out (.inr (.inr (.inr (.inl h))))))
                    clear HN HCN HAT
                    go_wp2_with fail
                    go_ret
                    exact SameR.no HX.out HBW.out
                · have HX := Lib.hid (HN.out (HCN.out (.inr (.inr (.inl h)))))
                  clear HN HCN HAT
                  go_wp2_with fail
                  go_ret
                  exact SameR.no HX.out HBW.out
              · have HX := Lib.hid (HN.out (HCN.out (.inr (.inl h))))
                clear HN HCN HAT
                go_wp2_with fail
                go_ret
                exact SameR.no HX.out HBW.out
          · obtain rfl : k = ll := by omega
            go_wp2_with fail
            go_ret
            exact SameR.yes (HB0.out.trans (HB.out.mono hwz))
      · have HX := Lib.hid (HNE.out (.inr (.inr (ne_len hlen))))
        have hi : ¬ (pc.length : Int) = qc.length := by omega
        clear HNE H1 H2 hlen
        go_wp2_with fail
        go_ret
        exact SameR.no HX.out HB0.out
    · have HX := Lib.hid (HNE.out (.inr (.inl hpq)))
      clear HNE H1 H2
      go_wp2_with fail
      go_ret
      exact SameR.no HX.out HB0.out
end Go.Proofs.YticmfflnenoplacGreatDoor
namespace Go.Proofs.YticmfflnenoplacGreatDoor
open Go.RowKit Go.Deep Pop Bi Da Sv Qo
theorem RPod_up {w : World} {B B' : Nat} {cs : List Value} {p : Pod} (h : RPod w B cs p) (hb : B ≤ B') : RPod w B' cs p := by
  obtain ⟨cv, h1, h2, h3, h4⟩ := h
  refine ⟨cv, h1, h2, h3, RS.move h4 (fun _ _ => rfl) (fun b h => Nat.lt_of_lt_of_le h hb) fun _ _ _ h => ?_⟩
  obtain ⟨dv, q1, q2, q3, q4, q5, q6, q7⟩ := h
  exact ⟨dv, q1, q2, q3, q4, q5, q6, RS.move q7 (fun _ _ => rfl) (fun b h => Nat.lt_of_lt_of_le h hb) fun _ _ _ h => h⟩
/-! ### What is held -/
theorem held_ne {x y : Held} (h : ¬ x.pod = y.pod ∨ ¬ x.given = y.given) : ¬ x = y := by
  rintro rfl
  simp at h
theorem given_ne {x y : Given} (h : ¬ x.cpus = y.cpus ∨ ¬ x.devs = y.devs) : ¬ x = y := by
  rintro rfl
  simp at h
set_option maxRecDepth 100000 in
set_option maxHeartbeats 8000000 in
theorem sameH_any (l m : List Held) (v v2 : Value) (w : World) (h1 : RSlice w w.heap.size 4 (RHeld w w.heap.size) [v] l) (h2 : RSlice w w.heap.size 4 (RHeld w w.heap.size) [v2] m) :
    Calls Tryz.prog 18 #[v, v2] w (SameR (l = m) w) := by
  obtain ⟨A, cap, e, hl, hcap, hA⟩ := (RS.of h1).form
  obtain rfl : v = _ := by simpa using e
  obtain ⟨A2, cap2, e2, hl2, hcap2, hA2⟩ := (RS.of h2).form
  obtain rfl : v2 = _ := by simpa using e2
  unfold maxLen at hcap hcap2
  have H1 := Lib.hid h1
  have H2 := Lib.hid h2
  have HA := Lib.hid hA
  have HA2 := Lib.hid hA2
  clear h1 h2 hA hA2 e e2
  by_cases hlen : l.length = m.length
  · have HAT : Hid (∀ (k : Nat) (x y : Held), l[k]? = some x → m[k]? = some y → ¬ x = y → ¬ l = m) := Lib.hid (fun k x y h1 h2 h => ne_at h1 h2 h)
    have HLE := Lib.hid hlen
    rw [← hlen] at H2 HA2 hl2 ⊢
    generalize hll : l.length = ll at *
    have HLL := Lib.hid hll
    clear hll hlen
    go_enter Tryz.func18, Tryz.ntmps18
    go_upto_region 4 with fail
    go_loopw [5] (fun i wi => ∃ k : Nat, i = .int .i64 k ∧ k ≤ ll ∧ Hid (Below w.heap.size w wi)) (fun i _ => ll - (intOf i).toNat)
    case atStart => exact ⟨0, rfl, by omega, Lib.hid (Below.refl _ _)⟩
    case round =>
      obtain ⟨k, rfl, hk, HB⟩ := hrel
      by_cases hlt : k < ll
      · obtain ⟨b, off, rfl, hb⟩ := HA.out k hlt
        obtain ⟨b2, off2, rfl, hb2⟩ := HA2.out k hlt
        have hl1 : k < l.length := by rw [HLL.out]; exact hlt
        have hl3 : k < m.length := by rw [← HLE.out]; exact hlt
        have hR1 := (H1.out.below HB.out).mono fun _ _ h => RHeld.below h HB.out
        have hR2 := (H2.out.below HB.out).mono fun _ _ h => RHeld.below h HB.out
        obtain ⟨A3, c3, A4, c4, r0, r1, r2, r3, hp1, _, i1, i2, j1, j2, _, _, hg1, hgA1⟩ := held_at hR1 hl1
        obtain ⟨A5, c5, A6, c6, s0, s1, s2, s3, hp2, _, i3, i4, j3, j4, _, _, hg2, hgA2⟩ := held_at hR2 hl3
        have HN := Lib.hid (HAT.out k _ _ (List.getElem?_eq_getElem hl1) (List.getElem?_eq_getElem hl3))
        have HHN := Lib.hid (@held_ne l[k] m[k])
        have hbs := HB.out.size
        have hb1w : b < wr.heap.size := by omega
        have hb2w : b2 < wr.heap.size := by omega
        have HP1 := Lib.hid hp1
        have HP2 := Lib.hid hp2
        have HG1 := Lib.hid hg1
        have HG2 := Lib.hid hg2
        have HGA1 := Lib.hid hgA1
        have HGA2 := Lib.hid hgA2
        unfold maxLen at i2 i4 j2 j4
        clear hR1 hR2 hp1 hp2 hg1 hg2 hgA1 hgA2
        generalize l[k] = x at *
        generalize m[k] = y at *
        obtain ⟨⟨xn, xp, xc⟩, xg⟩ := x
        obtain ⟨⟨yn, yp, yc⟩, yg⟩ := y
        dsimp only at *
        go_upto_region 6 with fail
        have hI : Below wr.heap.size wr wr.drew := (Below.refl _ _).drew
        refine Flo.region 10 [(0, true), (1, true), (2, true), (3, true), (4, true), (5, true), (6, true), (7, true), (8, true), (9, true)] (fun v => Below wr.heap.size wr v) (by kernel_rfl) (by kernel_rfl) rfl hI ?_
        simp only [List.drop_succ_cons, List.drop_zero]
        iterate 10 (apply Flo.op rfl (hI := hI); (· intro v hv K hK; obtain ⟨hc, hf⟩ := Flo.bcl hv; go_wp2_with fail; all_goals first | exact Flo.noUndef (by with_reducible assumption) | exact hK); (· rfl))
        have HBD : Hid (Below w.heap.size w wr.drew) := Lib.hid (below_drewN9 HB.out 1)
        have HSP : Hid (Calls Tryz.prog 53 #[.agg #[.string xn, .int .i64 xp, .slice A3 xc.length c3], .agg #[.string yn, .int .i64 yp, .slice A5 yc.length c5]] wr.drew (SameR ((⟨xn, xp, xc⟩ : Pod) = ⟨yn, yp, yc⟩) wr.drew)) := Lib.hid (by
          have hbb : Below wr.heap.size wr wr.drew := (Below.refl _ _).drew
          exact samePod_any ⟨xn, xp, xc⟩ ⟨yn, yp, yc⟩ _ _ wr.drew ((RPod_up HP1.out hbs).below hbb) ((RPod_up HP2.out hbs).below hbb))
        clear HB HP1 HP2 hI
        refine Flo.tail fun K hK => ?_
        go_wp2_with fail
        refine HSP.out.mono ?_
        rintro e w5 ⟨bb, rfl, hbeq, hb5⟩
        have HBQ := Lib.hid hbeq
        have HB5 := Lib.hid (HBD.out.trans (hb5.mono HBD.out.size))
        have hs5 := HB5.out.size
        have hq1 : ∀ o, w5.cell? ⟨b, o, none⟩ = wr.cell? ⟨b, o, none⟩ := fun o => hb5.cell (p := ⟨b, o, none⟩) hb1w
        have hq2 : ∀ o, w5.cell? ⟨b2, o, none⟩ = wr.cell? ⟨b2, o, none⟩ := fun o => hb5.cell (p := ⟨b2, o, none⟩) hb2w
        replace r3 := (hq1 _).trans r3
        replace s3 := (hq2 _).trans s3
        have hd5 : ∀ o b, b < wr.heap.size → w5.cell? ⟨b, o, none⟩ = wr.cell? ⟨b, o, none⟩ := fun o b h => hb5.cell (p := ⟨b, o, none⟩) h
        have hb5w : Below wr.heap.size wr w5 := (Below.refl wr.heap.size wr).drew.trans hb5
        have HGW1 := Lib.hid (HG1.out.below (hb5w.mono hbs) |>.mono fun _ _ h => RGiven.below h (hb5w.mono hbs))
        have HGW2 := Lib.hid (HG2.out.below (hb5w.mono hbs) |>.mono fun _ _ h => RGiven.below h (hb5w.mono hbs))
        clear hq1 hq2 hbeq HSP HBD hb5 hb5w HG1 HG2 r0 r1 r2 s0 s1 s2 hd5
        have hb15 : b < w5.heap.size := by omega
        have hb25 : b2 < w5.heap.size := by omega
        go_upto_region 7 with fail
        have hI : Below w5.heap.size w5 w5.drew := (Below.refl _ _).drew
        cases bb
        · have HX := Lib.hid (HN.out (HHN.out (.inl fun e => by have := HBQ.out e; cases this)))
          clear HN HHN HAT HBQ
          refine Flo.region 17 [(0, true), (1, true), (2, true), (3, true), (4, true), (5, true), (6, true), (7, true), (8, true), (9, true), (10, true), (11, true), (12, true), (13, true), (14, true), (15, true), (16, true)] (fun v => Below w5.heap.size w5 v) (by kernel_rfl) (by kernel_rfl) rfl hI ?_
          simp only [List.drop_succ_cons, List.drop_zero]
          iterate 17 (apply Flo.op rfl (hI := hI); (· intro v hv K hK; obtain ⟨hc, hf⟩ := Flo.bcl hv; go_wp2_with fail; all_goals first | exact Flo.noUndef (by with_reducible assumption) | exact hK); (· rfl))
          refine Flo.tail fun K hK => ?_
          go_wp2_with fail
          go_ret
          exact SameR.no HX.out (below_drewN9 HB5.out 1)
        · clear HBQ
          by_cases hgl : xg.length = yg.length
          · have HGT : Hid (∀ (j : Nat) (u z : Given), xg[j]? = some u → yg[j]? = some z → ¬ u = z → ¬ l = m) := Lib.hid (fun j u z h1 h2 h => HN.out (HHN.out (.inr (ne_at h1 h2 h))))
            have HGE := Lib.hid hgl
            rw [← hgl] at s3 j3 HGW2 HGA2
            generalize hgg : xg.length = gl at *
            have HGG := Lib.hid hgg
            clear hgg hgl HN HHN
            refine Flo.region 17 [(0, true), (1, true), (2, true), (3, true), (4, true), (5, true), (6, true), (7, true), (8, true), (9, true), (10, true), (11, true), (12, true), (13, true), (14, true), (15, true), (16, true)] (fun v => Below w5.heap.size w5 v) (by kernel_rfl) (by kernel_rfl) rfl hI ?_
            simp only [List.drop_succ_cons, List.drop_zero]
            iterate 17 (apply Flo.op rfl (hI := hI); (· intro v hv K hK; obtain ⟨hc, hf⟩ := Flo.bcl hv; go_wp2_with fail; all_goals first | exact Flo.noUndef (by with_reducible assumption) | exact hK); (· rfl))
            refine Flo.tail fun K hK => ?_
            go_upto_region 10 with fail
            go_loopw [7] (fun i wi => ∃ j : Nat, i = .int .i64 j ∧ j ≤ gl ∧ Hid (Below w5.heap.size w5 wi)) (fun i _ => gl - (intOf i).toNat)
            case atStart => exact ⟨0, rfl, by omega, Lib.hid hI⟩
            case round =>
              clear hI
              obtain ⟨j, rfl, hj, HBJ⟩ := hrel
              have t3 := (HBJ.out.cell (p := ⟨b, off + k * 4 + 3, none⟩) hb15).trans r3
              have v3 := (HBJ.out.cell (p := ⟨b2, off2 + k * 4 + 3, none⟩) hb25).trans s3
              have hbz := HBJ.out.size
              have hb1z : b < wr.heap.size := by omega
              have hb2z : b2 < wr.heap.size := by omega
              have HBV : Hid (Below w.heap.size w wr) := Lib.hid (HB5.out.trans (HBJ.out.mono hs5))
              by_cases hltj : j < gl
              · obtain ⟨b4, off4, rfl, hb4⟩ := HGA1.out j hltj
                obtain ⟨b6, off6, rfl, hb6⟩ := HGA2.out j hltj
                have hj1 : j < xg.length := by rw [HGG.out]; exact hltj
                have hj2 : j < yg.length := by rw [← HGE.out]; exact hltj
                have hBw : Below w.heap.size w5 wr := HBJ.out.mono hs5
                obtain ⟨A7, c7, g0, g1, hgc, hg1, hg2, hgd, hgdA⟩ := given_at ((HGW1.out.below hBw).mono fun _ _ h => h.below hBw) hj1
                obtain ⟨A8, c8, o0, o1, hoc, ho1, ho2, hod, hodA⟩ := given_at ((HGW2.out.below hBw).mono fun _ _ h => h.below hBw) hj2
                have HNJ := Lib.hid (HGT.out j _ _ (List.getElem?_eq_getElem hj1) (List.getElem?_eq_getElem hj2))
                have HNN := Lib.hid (@given_ne xg[j] yg[j])
                have hb4z : b4 < wr.heap.size := by omega
                have hb6z : b6 < wr.heap.size := by omega
                have HD1 := Lib.hid hgd
                have HD2 := Lib.hid hod
                unfold maxLen at hg2 ho2
                clear hgd hod hgdA hodA hBw HGT
                generalize xg[j] = u at *
                generalize yg[j] = z at *
                obtain ⟨uc, ud⟩ := u
                obtain ⟨zc, zd⟩ := z
                dsimp only at *
                go_upto_region 14 with fail
                have hba : Below wr.heap.size wr ((wr.alloc (.cells #[.int .u64 (uc : Nat), .slice A7 ud.length c7] 80)).alloc (.cells #[.int .u64 (zc : Nat), .slice A8 zd.length c8] 80)) := ((Below.refl _ _).alloc (Nat.le_refl _) _).alloc (by simp) _
                have m1 := (Blk.new wr 80 #[.int .u64 (uc : Nat), .slice A7 ud.length c7]).alloc (.cells #[.int .u64 (zc : Nat), .slice A8 zd.length c8] 80)
                have m2 := Blk.new (wr.alloc (.cells #[.int .u64 (uc : Nat), .slice A7 ud.length c7] 80)) 80 #[.int .u64 (zc : Nat), .slice A8 zd.length c8]
                have hsz : (wr.alloc (.cells #[.int .u64 (uc : Nat), .slice A7 ud.length c7] 80)).heap.size = wr.heap.size + 1 := by simp
                rw [hsz] at m2
                have HBA := Lib.hid hba
                clear g0 g1 o0 o1 t3 v3 hsz hba
                generalize (wr.alloc (.cells #[.int .u64 (uc : Nat), .slice A7 ud.length c7] 80)).alloc (.cells #[.int .u64 (zc : Nat), .slice A8 zd.length c8] 80) = wa at *
                have HBX := Lib.hid (HBV.out.trans (HBA.out.mono HBV.out.size))
                have HBJ2 := Lib.hid (HBJ.out.trans (HBA.out.mono hbz))
                have HSN := Lib.hid (sameN_any ud zd _ _ wa ((RS.of (HD1.out.below (HBA.out.mono HBV.out.size))).move (fun _ _ => rfl) (fun b h => Nat.lt_of_lt_of_le h HBX.out.size) fun _ _ _ h => h) ((RS.of (HD2.out.below (HBA.out.mono HBV.out.size))).move (fun _ _ => rfl) (fun b h => Nat.lt_of_lt_of_le h HBX.out.size) fun _ _ _ h => h))
                have f1 := m1.cells
                have f2 := m2.cells
                have u1 := m1.lt
                have u2 := m2.lt
                clear HD1 HD2 HBV HBJ
                generalize wr.heap.size = pr at *
                go_wp2_with fail
                refine HSN.out.mono ?_
                rintro e w8 ⟨bb, rfl, hbeq, hb8⟩
                have HQ := Lib.hid hbeq
                have n1 := m1.below hb8 u1
                have n2 := m2.below hb8 u2
                have f1 := n1.cells
                have f2 := n2.cells
                have y1 := n1.lt
                have y2 := n2.lt
                have HBX8 := Lib.hid (HBX.out.trans (hb8.mono HBX.out.size))
                have HBJ8 := Lib.hid (HBJ2.out.trans (hb8.mono HBJ2.out.size))
                clear HSN hbeq hb8 m1 m2 HBX HBJ2 HBA
                by_cases huz : uc = zc
                · subst huz
                  cases bb
                  · have HX := Lib.hid (HNJ.out (HNN.out (.inr fun e => by have := HQ.out e; cases this)))
                    clear HNJ HNN HQ HAT
                    go_wp2_with fail
                    go_ret
                    exact SameR.no HX.out HBX8.out
                  · clear HNJ HNN HQ
                    go_wp2_with fail
                    go_roundw
                    case rel => exact ⟨j + 1, by first | rfl | go_num, by omega, HBJ8⟩
                    case measure => simp [intOf] <;> omega
                · have HX := Lib.hid (HNJ.out (HNN.out (.inl huz)))
                  have hui : ¬ (uc : Int) = zc := by omega
                  clear HNJ HNN HQ HAT huz
                  go_wp2_with fail
                  go_ret
                  exact SameR.no HX.out HBX8.out
              · obtain rfl : j = gl := by omega
                go_wp2_with fail
                go_roundw
                case rel => exact ⟨k + 1, by first | rfl | go_num, by omega, HBV⟩
                case measure => simp [intOf] <;> omega
          · have HX := Lib.hid (HN.out (HHN.out (.inr (ne_len hgl))))
            have hi2 : ¬ (xg.length : Int) = yg.length := by omega
            clear HN HHN HAT hgl
            refine Flo.region 17 [(0, true), (1, true), (2, true), (3, true), (4, true), (5, true), (6, true), (7, true), (8, true), (9, true), (10, true), (11, true), (12, true), (13, true), (14, true), (15, true), (16, true)] (fun v => Below w5.heap.size w5 v) (by kernel_rfl) (by kernel_rfl) rfl hI ?_
            simp only [List.drop_succ_cons, List.drop_zero]
            iterate 17 (apply Flo.op rfl (hI := hI); (· intro v hv K hK; obtain ⟨hc, hf⟩ := Flo.bcl hv; go_wp2_with fail; all_goals first | exact Flo.noUndef (by with_reducible assumption) | exact hK); (· rfl))
            refine Flo.tail fun K hK => ?_
            go_wp2_with fail
            go_ret
            exact SameR.no HX.out (below_drewN9 HB5.out 1)
      · obtain rfl : k = ll := by omega
        go_wp2_with fail
        go_ret
        exact SameR.yes HB.out
  · have HX := Lib.hid (ne_len hlen)
    have hi : ¬ (l.length : Int) = m.length := by omega
    clear hlen H1 H2
    go_enter Tryz.func18, Tryz.ntmps18
    go_wp2_with fail
    go_ret
    exact SameR.no HX.out (Below.refl _ _)
end Go.Proofs.YticmfflnenoplacGreatDoor
namespace Go.Proofs.YticmfflnenoplacGreatDoor
open Go.RowKit Go.Deep Da

section
variable {H : Type} {enc : TypeId × Value → H} {w : World} {spare : Nat → Bool} {held : Bool}
theorem list2 {β : Type} {l : List β} (h : l.length = 2) : ∃ c0 c1, l = [c0, c1] := by
  match l, h with
  | [c0, c1], _ => exact ⟨c0, c1, rfl⟩
theorem list3 {β : Type} {l : List β} (h : l.length = 3) : ∃ c0 c1 c2, l = [c0, c1, c2] := by
  match l, h with
  | [c0, c1, c2], _ => exact ⟨c0, c1, c2, rfl⟩
theorem list4 {β : Type} {l : List β} (h : l.length = 4) : ∃ c0 c1 c2 c3, l = [c0, c1, c2, c3] := by
  match l, h with
  | [c0, c1, c2, c3], _ => exact ⟨c0, c1, c2, c3, rfl⟩
theorem list6 {β : Type} {l : List β} (h : l.length = 6) : ∃ c0 c1 c2 c3 c4 c5, l = [c0, c1, c2, c3, c4, c5] := by
  match l, h with
  | [c0, c1, c2, c3, c4, c5], _ => exact ⟨c0, c1, c2, c3, c4, c5, rfl⟩
theorem list10 {β : Type} {l : List β} (h : l.length = 10) : ∃ c0 c1 c2 c3 c4 c5 c6 c7 c8 c9, l = [c0, c1, c2, c3, c4, c5, c6, c7, c8, c9] := by
  match l, h with
  | [c0, c1, c2, c3, c4, c5, c6, c7, c8, c9], _ => exact ⟨c0, c1, c2, c3, c4, c5, c6, c7, c8, c9, rfl⟩
theorem some_of {β : Type} {xs : List β} {n i : Nat} (h : xs.length = n) (hi : i < n) : ∃ y, xs[i]? = some y := ⟨xs[i], List.getElem?_eq_getElem (by omega)⟩
theorem field_of {P : Program} {fs : Array Field} {n i off sz : Nat} {f : Field} {t : TypeId} {cs : List Value} {xs : List (DataW H × List MemPlace)} {y : DataW H × List MemPlace}
    (hf : ∀ (i : Nat) (f : Field), fs[i]? = some f → DataW.trod enc P w 0 spare held n f.type ((cs.drop f.offset).take (P.cellsOf f.type)) = xs[i]?) (hi : fs[i]? = some f) (ht : f.type = t) (ho : f.offset = off) (hs : P.cellsOf t = sz) (e : xs[i]? = some y) :
    DataW.trod enc P w 0 spare held n t ((cs.drop off).take sz) = some y := by
  have := hf i f hi
  rw [ht, ho, hs, e] at this
  exact this
theorem cells_int : Tryz.prog.cellsOf 3 = 1 := by kernel_rfl
theorem cells_str : Tryz.prog.cellsOf 9 = 1 := by kernel_rfl
theorem cells_mask : Tryz.prog.cellsOf 81 = 1 := by kernel_rfl
theorem cells_need : Tryz.prog.cellsOf 128 = 2 := by kernel_rfl
theorem cells_needs : Tryz.prog.cellsOf 71 = 1 := by kernel_rfl
theorem cells_amount : Tryz.prog.cellsOf 65 = 2 := by kernel_rfl
theorem cells_cont : Tryz.prog.cellsOf 73 = 6 := by kernel_rfl
theorem cells_conts : Tryz.prog.cellsOf 43 = 1 := by kernel_rfl
theorem cells_pod : Tryz.prog.cellsOf 45 = 3 := by kernel_rfl
theorem cells_use : Tryz.prog.cellsOf 95 = 2 := by kernel_rfl
theorem cells_uses : Tryz.prog.cellsOf 92 = 1 := by kernel_rfl
theorem cells_ints : Tryz.prog.cellsOf 78 = 1 := by kernel_rfl
theorem cells_act : Tryz.prog.cellsOf 104 = 10 := by kernel_rfl

theorem need_of (fuel : Nat) (cs : List Value) (x : DataW H × List MemPlace) (h : DataW.trod enc Tryz.prog w 0 spare held fuel 128 cs = some x) : ∃ y, RNeed cs y := by
  obtain ⟨xs, n, _, _, hcl, hxl, hf⟩ := DataW.trod_struct Tryz.underlying128 h
  rw [cells_need] at hcl
  obtain ⟨c0, c1, rfl⟩ := list2 hcl
  obtain ⟨y0, e0⟩ := some_of (i := 0) hxl (by decide)
  obtain ⟨y1, e1⟩ := some_of (i := 1) hxl (by decide)
  have h0 := field_of hf (i := 0) rfl rfl rfl cells_str e0
  have h1 := field_of hf (i := 1) rfl rfl rfl cells_int e1
  obtain ⟨s, hs, _, hl⟩ := DataW.trod_string Tryz.underlying9 h0
  obtain ⟨k, hk, _, hw⟩ := DataW.trod_int Tryz.underlying3 h1
  simp at hs hk
  subst hs hk
  exact ⟨⟨s, k⟩, rfl, hl, i64_bounds hw⟩

theorem use_of (fuel : Nat) (cs : List Value) (x : DataW H × List MemPlace) (h : DataW.trod enc Tryz.prog w 0 spare held fuel 95 cs = some x) : ∃ y, RUse cs y := by
  obtain ⟨xs, n, _, _, hcl, hxl, hf⟩ := DataW.trod_struct Tryz.underlying95 h
  rw [cells_use] at hcl
  obtain ⟨c0, c1, rfl⟩ := list2 hcl
  obtain ⟨y0, e0⟩ := some_of (i := 0) hxl (by decide)
  obtain ⟨y1, e1⟩ := some_of (i := 1) hxl (by decide)
  have h0 := field_of hf (i := 0) rfl rfl rfl cells_str e0
  have h1 := field_of hf (i := 1) rfl rfl rfl cells_int e1
  obtain ⟨s, hs, _, hl⟩ := DataW.trod_string Tryz.underlying9 h0
  obtain ⟨k, hk, _, hw⟩ := DataW.trod_int Tryz.underlying3 h1
  simp at hs hk
  subst hs hk
  exact ⟨⟨s, k⟩, rfl, hl, i64_bounds hw⟩

theorem int_of (fuel : Nat) (cs : List Value) (x : DataW H × List MemPlace) (h : DataW.trod enc Tryz.prog w 0 spare held fuel 3 cs = some x) : ∃ y, RInt cs y := by
  obtain ⟨k, hk, _, hw⟩ := DataW.trod_int Tryz.underlying3 h
  exact ⟨k, hk, i64_bounds hw⟩

theorem amount_of (fuel : Nat) (cs : List Value) (x : DataW H × List MemPlace) (h : DataW.trod enc Tryz.prog w 0 spare held fuel 65 cs = some x) : ∃ a b : Int, cs = [.int .i64 a, .int .i64 b] ∧ (-9223372036854775808 ≤ a ∧ a ≤ 9223372036854775807) ∧ (-9223372036854775808 ≤ b ∧ b ≤ 9223372036854775807) := by
  obtain ⟨xs, n, _, _, hcl, hxl, hf⟩ := DataW.trod_struct Tryz.underlying65 h
  rw [cells_amount] at hcl
  obtain ⟨c0, c1, rfl⟩ := list2 hcl
  obtain ⟨y0, e0⟩ := some_of (i := 0) hxl (by decide)
  obtain ⟨y1, e1⟩ := some_of (i := 1) hxl (by decide)
  have h0 := field_of hf (i := 0) rfl rfl rfl cells_int e0
  have h1 := field_of hf (i := 1) rfl rfl rfl cells_int e1
  obtain ⟨s, hs, _, hl⟩ := DataW.trod_int Tryz.underlying3 h0
  obtain ⟨k, hk, _, hw⟩ := DataW.trod_int Tryz.underlying3 h1
  simp at hs hk
  subst hs hk
  exact ⟨s, k, rfl, i64_bounds hl, i64_bounds hw⟩

theorem cont_of (fuel : Nat) (cs : List Value) (x : DataW H × List MemPlace) (h : DataW.trod enc Tryz.prog w 0 spare held fuel 73 cs = some x) : ∃ y, RCont w w.heap.size cs y := by
  obtain ⟨xs, n, _, _, hcl, hxl, hf⟩ := DataW.trod_struct Tryz.underlying73 h
  rw [cells_cont] at hcl
  obtain ⟨c0, c1, c2, c3, c4, c5, rfl⟩ := list6 hcl
  obtain ⟨y0, e0⟩ := some_of (i := 0) hxl (by decide)
  obtain ⟨y1, e1⟩ := some_of (i := 1) hxl (by decide)
  obtain ⟨y2, e2⟩ := some_of (i := 2) hxl (by decide)
  obtain ⟨y3, e3⟩ := some_of (i := 3) hxl (by decide)
  have h0 := field_of hf (i := 0) rfl rfl rfl cells_str e0
  have h1 := field_of hf (i := 1) rfl rfl rfl cells_amount e1
  have h2 := field_of hf (i := 2) rfl rfl rfl cells_amount e2
  have h3 := field_of hf (i := 3) rfl rfl rfl cells_needs e3
  obtain ⟨s, hs, _, hl⟩ := DataW.trod_string Tryz.underlying9 h0
  obtain ⟨a, b, hab, ha, hb⟩ := amount_of _ _ _ h1
  obtain ⟨c, d, hcd, hc, hd⟩ := amount_of _ _ _ h2
  obtain ⟨l, hdv⟩ := rslice_of Tryz.underlying71 cells_need (by omega) need_of h3
  simp at hs hab hcd
  obtain ⟨rfl, rfl⟩ := hab
  obtain ⟨rfl, rfl⟩ := hcd
  subst hs
  exact ⟨⟨s, a, b, c, d, l⟩, c5, rfl, hl, ha, hb, hc, hd, by simpa using hdv⟩

theorem pod_of (fuel : Nat) (cs : List Value) (x : DataW H × List MemPlace) (h : DataW.trod enc Tryz.prog w 0 spare held fuel 45 cs = some x) : ∃ y, RPod w w.heap.size cs y := by
  obtain ⟨xs, n, _, _, hcl, hxl, hf⟩ := DataW.trod_struct Tryz.underlying45 h
  rw [cells_pod] at hcl
  obtain ⟨c0, c1, c2, rfl⟩ := list3 hcl
  obtain ⟨y0, e0⟩ := some_of (i := 0) hxl (by decide)
  obtain ⟨y1, e1⟩ := some_of (i := 1) hxl (by decide)
  obtain ⟨y2, e2⟩ := some_of (i := 2) hxl (by decide)
  have h0 := field_of hf (i := 0) rfl rfl rfl cells_str e0
  have h1 := field_of hf (i := 1) rfl rfl rfl cells_int e1
  have h2 := field_of hf (i := 2) rfl rfl rfl cells_conts e2
  obtain ⟨s, hs, _, hl⟩ := DataW.trod_string Tryz.underlying9 h0
  obtain ⟨k, hk, _, hw⟩ := DataW.trod_int Tryz.underlying3 h1
  obtain ⟨l, hcv⟩ := rslice_of Tryz.underlying43 cells_cont (by omega) cont_of h2
  simp at hs hk
  subst hs hk
  exact ⟨⟨s, k, l⟩, c2, rfl, hl, i64_bounds hw, by simpa using hcv⟩

theorem act_of (fuel : Nat) (cs : List Value) (x : DataW H × List MemPlace) (h : DataW.trod enc Tryz.prog w 0 spare held fuel 104 cs = some x) : ∃ y, RAct w w.heap.size cs y := by
  obtain ⟨xs, n, _, _, hcl, hxl, hf⟩ := DataW.trod_struct Tryz.underlying104 h
  rw [cells_act] at hcl
  obtain ⟨c0, c1, c2, c3, c4, c5, c6, c7, c8, c9, rfl⟩ := list10 hcl
  obtain ⟨y0, e0⟩ := some_of (i := 0) hxl (by decide)
  obtain ⟨y1, e1⟩ := some_of (i := 1) hxl (by decide)
  obtain ⟨y2, e2⟩ := some_of (i := 2) hxl (by decide)
  obtain ⟨y3, e3⟩ := some_of (i := 3) hxl (by decide)
  obtain ⟨y4, e4⟩ := some_of (i := 4) hxl (by decide)
  obtain ⟨y5, e5⟩ := some_of (i := 5) hxl (by decide)
  obtain ⟨y6, e6⟩ := some_of (i := 6) hxl (by decide)
  obtain ⟨y7, e7⟩ := some_of (i := 7) hxl (by decide)
  have h0 := field_of hf (i := 0) rfl rfl rfl cells_str e0
  have h1 := field_of hf (i := 1) rfl rfl rfl cells_str e1
  have h2 := field_of hf (i := 2) rfl rfl rfl cells_int e2
  have h3 := field_of hf (i := 3) rfl rfl rfl cells_int e3
  have h4 := field_of hf (i := 4) rfl rfl rfl cells_mask e4
  have h5 := field_of hf (i := 5) rfl rfl rfl cells_ints e5
  have h6 := field_of hf (i := 6) rfl rfl rfl cells_pod e6
  have h7 := field_of hf (i := 7) rfl rfl rfl cells_uses e7
  obtain ⟨s0, hs0, _, hl0⟩ := DataW.trod_string Tryz.underlying9 h0
  obtain ⟨s1, hs1, _, hl1⟩ := DataW.trod_string Tryz.underlying9 h1
  obtain ⟨k2, hk2, _, hw2⟩ := DataW.trod_int Tryz.underlying3 h2
  obtain ⟨k3, hk3, _, hw3⟩ := DataW.trod_int Tryz.underlying3 h3
  obtain ⟨k4, hk4, _, hw4⟩ := DataW.trod_int Tryz.underlying81 h4
  obtain ⟨l5, hv5⟩ := rslice_of Tryz.underlying78 cells_int (by omega) int_of h5
  obtain ⟨p6, hv6⟩ := pod_of _ _ _ h6
  obtain ⟨l7, hv7⟩ := rslice_of Tryz.underlying92 cells_use (by omega) use_of h7
  simp at hs0 hs1 hk2 hk3 hk4
  subst hs0 hs1 hk2 hk3 hk4
  exact ⟨⟨s0, s1, k2, k3, k4, l5, p6, l7⟩, c5, c6, c7, c8, c9, rfl, hl0, hl1, i64_bounds hw2, i64_bounds hw3, bounds_u8 hw4, by simpa using hv5, by simpa using hv6, by simpa using hv7⟩
end
end Go.Proofs.YticmfflnenoplacGreatDoor
namespace Go.Proofs.YticmfflnenoplacGreatDoor
open Go.RowKit Go.Deep Da

def lightUse (u : Use) : Bool := decide (u.name.size ≤ 30) && decide (-1125899906842624 ≤ u.bytes) && decide (u.bytes ≤ 1125899906842624)
def lightUses (l : List Use) : Bool := decide (l.length ≤ 20) && l.all lightUse
def lightNeed (n : Need) : Bool := decide (n.kind.size ≤ 30)
def lightCont (c : Cont) : Bool := decide (c.name.size ≤ 30) && decide (c.devs.length ≤ 5) && c.devs.all lightNeed
def lightPod (p : Pod) : Bool := decide (p.name.size ≤ 30) && decide (p.conts.length ≤ 5) && p.conts.all lightCont
def lightAct (a : LAct) : Bool := decide (a.s.size ≤ 7000) && decide (a.l.length ≤ 30) && lightPod a.pod && lightUses a.uses
def lightActs (l : List LAct) (n : Int) : Bool := decide ((l.length : Int) ≤ n) && l.all lightAct

theorem all_take_succ {α : Type} (p : α → Bool) (l : List α) (k : Nat) (hk : k < l.length) (h : (l.take k).all p = true) (hp : p l[k] = true) : (l.take (k + 1)).all p = true := by
  rw [List.take_succ_eq_append_getElem hk, List.all_append, h]
  simp [hp]
theorem all_false {α : Type} (p : α → Bool) (l : List α) (k : Nat) (hk : k < l.length) (hp : p l[k] = false) : l.all p = false := by
  rw [List.all_eq_false]
  exact ⟨l[k], List.getElem_mem _, by simp [hp]⟩
theorem all_full {α : Type} (p : α → Bool) (l : List α) (k : Nat) (hk : l.length ≤ k) (h : (l.take k).all p = true) : l.all p = true := by
  rwa [List.take_of_length_le hk] at h

theorem RetB.mk' {b b' : Bool} {w : World} (h : b = b') : RetB b w (.returned (.bool b')) w := ⟨by rw [h], rfl⟩
theorem RetBB.mk' {b b' : Bool} {w w' : World} (h : b = b') (hb : Below w.heap.size w w') : RetBB b w (.returned (.bool b')) w' := ⟨by rw [h], hb⟩

set_option maxHeartbeats 1000000 in
theorem lightUses_any (v : Value) (l : List Use) (w : World) (B : Nat) (h : RSlice w B 2 RUse [v] l) :
    Calls Tryz.prog 41 #[v] w (RetB (lightUses l) w) := by
  obtain ⟨A, cap, hv, hl, hcap, hA⟩ := h.form
  obtain rfl : v = _ := by simpa using hv
  unfold maxLen at hcap
  by_cases hn : 20 < l.length
  · go_enter Tryz.func41, Tryz.ntmps41
    go_wp2
    go_ret
    exact RetB.mk' (by simp [lightUses]; omega)
  · go_enter Tryz.func41, Tryz.ntmps41
    go_wp2
    go_loop [3] (fun i => ∃ k : Nat, i = .int .i64 k ∧ k ≤ l.length ∧ Hid ((l.take k).all lightUse = true)) (fun i => l.length - (intOf i).toNat)
    case atStart => exact ⟨0, rfl, by omega, rfl⟩
    case round =>
      obtain ⟨k, rfl, hk, ha⟩ := hrel
      by_cases hlt : k < l.length
      · obtain ⟨b, off, rfl⟩ := hA k hlt
        obtain ⟨_, cs', hc1, hc2, hr1, hr2, hr3⟩ := h.at_ hlt
        have g0 := hc2 0 (.string l[k].name) (by rw [hr1]; rfl)
        have g1 := hc2 1 (.int .i64 l[k].bytes) (by rw [hr1]; rfl)
        simp only [Nat.add_zero] at g0
        clear hc2 hr1 hA hc1
        unfold maxLen at hr2
        by_cases h1 : 30 < l[k].name.size
        · have hf := Lib.hid (all_false lightUse l k hlt (by simp [lightUse]; omega))
          go_wp2
          go_ret
          exact RetB.mk' (by simp [lightUses, hf.out])
        · by_cases h2 : l[k].bytes < -1125899906842624
          · have hf := Lib.hid (all_false lightUse l k hlt (by simp [lightUse]; omega))
            go_wp2
            go_ret
            exact RetB.mk' (by simp [lightUses, hf.out])
          · by_cases h3 : 1125899906842624 < l[k].bytes
            · have hf := Lib.hid (all_false lightUse l k hlt (by simp [lightUse]; omega))
              go_wp2
              go_ret
              exact RetB.mk' (by simp [lightUses, hf.out])
            · have hf := Lib.hid (all_take_succ lightUse l k hlt ha.out (by simp [lightUse]; omega))
              go_wp2
              go_round
              case rel => exact ⟨k + 1, by go_num, by omega, hf.out⟩
              case measure => simp [intOf]; omega
      · have hf := Lib.hid (all_full lightUse l k (by omega) ha.out)
        go_wp2
        go_ret
        exact RetB.mk' (by simp [lightUses, hf.out]; omega)

set_option maxHeartbeats 2000000 in
theorem lightPod_any (cs : List Value) (p : Pod) (w : World) (B : Nat) (hB : B ≤ w.heap.size) (h : RPod w B cs p) :
    Calls Tryz.prog 23 #[.agg cs.toArray] w (RetBB (lightPod p) w) := by
  obtain ⟨cv, rfl, hps, hpr, hc⟩ := h
  obtain ⟨A, cap, hv, hl, hcap, hA⟩ := hc.form
  obtain rfl : cv = _ := by simpa using hv
  unfold maxLen at hcap hps
  by_cases hn : 30 < p.name.size
  · go_enter Tryz.func23, Tryz.ntmps23
    go_wp2
    go_ret
    exact RetBB.mk' (by simp [lightPod]; omega) ((Below.refl _ _).alloc (Nat.le_refl _) _)
  by_cases hn2 : 5 < p.conts.length
  · go_enter Tryz.func23, Tryz.ntmps23
    go_wp2
    go_ret
    exact RetBB.mk' (by simp [lightPod]; omega) ((Below.refl _ _).alloc (Nat.le_refl _) _)
  have hlp := Lib.hid (show lightPod p = p.conts.all lightCont by simp [lightPod]; omega)
  go_enter Tryz.func23, Tryz.ntmps23
  go_wp2_with fail
  go_loopw [3] (fun i wr => ∃ k : Nat, i = .int .i64 k ∧ k ≤ p.conts.length ∧ Hid ((p.conts.take k).all lightCont = true) ∧ Below w.heap.size w wr ∧ Blk wr w.heap.size 45 #[.string p.name, .int .i64 p.prio, .slice A p.conts.length cap]) (fun i _ => p.conts.length - (intOf i).toNat)
  case atStart => exact ⟨0, rfl, by omega, rfl, (Below.refl _ _).alloc (Nat.le_refl _) _, Blk.new _ _ _⟩
  case round =>
    obtain ⟨k, rfl, hk, ha, hbw, hbk⟩ := hrel
    have hcell := hbk.cells
    by_cases hlt : k < p.conts.length
    · obtain ⟨b, off, rfl⟩ := hA k hlt
      obtain ⟨hblt, cs', hc1, hc2, dv, hr1, hr2, _, _, _, _, hds⟩ := (hc.below (hbw.mono hB)).at_ hlt
      obtain ⟨A2, cap2, hv2, hl2, hcap2, hA2⟩ := hds.form
      obtain rfl : dv = _ := by simpa using hv2
      have g0 := hc2 0 (.string p.conts[k].name) (by rw [hr1]; rfl)
      have g1 := hc2 1 _ (by rw [hr1]; rfl)
      have g2 := hc2 2 _ (by rw [hr1]; rfl)
      have g3 := hc2 3 _ (by rw [hr1]; rfl)
      have g4 := hc2 4 _ (by rw [hr1]; rfl)
      have g5 := hc2 5 _ (by rw [hr1]; rfl)
      simp only [Nat.add_zero] at g0
      clear hc2 hr1 hA hc1 hv hv2
      unfold maxLen at hr2 hcap2
      by_cases h1 : 30 < p.conts[k].name.size
      · have hf := Lib.hid (all_false lightCont p.conts k hlt (by simp [lightCont]; omega))
        go_wp2_with fail
        go_ret
        exact RetBB.mk' (by rw [hlp.out, hf.out]) (hbw.alloc hbw.size _)
      by_cases h2 : 5 < p.conts[k].devs.length
      · have hf := Lib.hid (all_false lightCont p.conts k hlt (by simp [lightCont]; omega))
        go_wp2_with fail
        go_ret
        exact RetBB.mk' (by rw [hlp.out, hf.out]) (hbw.alloc hbw.size _)
      have hdsr := (hds.below (w' := wr.alloc (.cells #[.string p.conts[k].name, .int .i64 p.conts[k].askM, .int .i64 p.conts[k].askB, .int .i64 p.conts[k].capM, .int .i64 p.conts[k].capB, .slice A2 p.conts[k].devs.length cap2] 73)) ((hbw.mono hB).alloc (Nat.le_trans hB hbw.size) _))
      have hlc := Lib.hid (show lightCont p.conts[k] = p.conts[k].devs.all lightNeed by simp [lightCont]; omega)
      go_wp2_with fail
      go_loop [5] (fun i => ∃ j : Nat, i = .int .i64 j ∧ j ≤ p.conts[k].devs.length ∧ Hid ((p.conts[k].devs.take j).all lightNeed = true)) (fun i => p.conts[k].devs.length - (intOf i).toNat)
      case atStart => exact ⟨0, rfl, by omega, rfl⟩
      case round =>
        obtain ⟨j, rfl, hj, ha2⟩ := hrel
        by_cases hlt2 : j < p.conts[k].devs.length
        · obtain ⟨b2, off2, rfl⟩ := hA2 j hlt2
          obtain ⟨_, cs2, hc1, hc2, hr1, hr2, _⟩ := hdsr.at_ hlt2
          have f0 := hc2 0 (.string p.conts[k].devs[j].kind) (by rw [hr1]; rfl)
          simp only [Nat.add_zero] at f0
          clear hc2 hr1 hc1
          unfold maxLen at hr2
          by_cases h3 : 30 < p.conts[k].devs[j].kind.size
          · have hf := Lib.hid (all_false lightNeed p.conts[k].devs j hlt2 (by simp [lightNeed]; omega))
            have hf2 := Lib.hid (all_false lightCont p.conts k hlt (by rw [hlc.out, hf.out]))
            go_wp2_with fail
            go_ret
            exact RetBB.mk' (by rw [hlp.out, hf2.out]) (hbw.alloc hbw.size _)
          · have hf := Lib.hid (all_take_succ lightNeed p.conts[k].devs j hlt2 ha2.out (by simp [lightNeed]; omega))
            go_wp2_with fail
            go_round
            case rel => exact ⟨j + 1, by go_num, by omega, hf.out⟩
            case measure => simp [intOf]; omega
        · have hf := Lib.hid (all_full lightNeed p.conts[k].devs j (by omega) ha2.out)
          have hf2 := Lib.hid (all_take_succ lightCont p.conts k hlt ha.out (by rw [hlc.out, hf.out]))
          go_wp2_with fail
          go_roundw
          case rel => exact ⟨k + 1, by go_num, by omega, hf2.out, hbw.alloc hbw.size _, hbk.alloc _⟩
          case measure => simp [intOf]; omega
    · have hf := Lib.hid (all_full lightCont p.conts k (by omega) ha.out)
      go_wp2_with fail
      go_ret
      exact RetBB.mk' (by rw [hlp.out, hf.out]) hbw

set_option maxHeartbeats 2000000 in
theorem lightActs_any (v : Value) (l : List LAct) (n : Int) (w : World) (B : Nat) (hB : B ≤ w.heap.size) (h : RSlice w B 10 (RAct w B) [v] l) :
    Calls Tryz.prog 44 #[v, .int .i64 n] w (RetBB (lightActs l n) w) := by
  obtain ⟨A, cap, hv, hl, hcap, hA⟩ := h.form
  obtain rfl : v = _ := by simpa using hv
  unfold maxLen at hcap
  by_cases hn : n < l.length
  · go_enter Tryz.func44, Tryz.ntmps44
    go_wp2
    go_ret
    exact RetBB.mk' (by simp [lightActs]; omega) (Below.refl _ _)
  have hlp := Lib.hid (show lightActs l n = l.all lightAct by simp [lightActs]; omega)
  go_enter Tryz.func44, Tryz.ntmps44
  go_wp2_with fail
  go_loopw [5] (fun i wr => ∃ k : Nat, i = .int .i64 k ∧ k ≤ l.length ∧ Hid ((l.take k).all lightAct = true) ∧ Below w.heap.size w wr) (fun i _ => l.length - (intOf i).toNat)
  case atStart => exact ⟨0, rfl, by omega, rfl, Below.refl _ _⟩
  case round =>
    obtain ⟨k, rfl, hk, ha, hbw⟩ := hrel
    by_cases hlt : k < l.length
    · obtain ⟨b, off, rfl⟩ := hA k hlt
      obtain ⟨hblt, cs', hc1, hc2, lv, p0, p1, p2, uv, hr1, hr2, hr3, _, _, _, hls, hpd, hus⟩ := (h.below (hbw.mono hB)).at_ hlt
      obtain ⟨A2, cap2, hv2, hl2, hcap2, hA2⟩ := hls.form
      obtain rfl : lv = _ := by simpa using hv2
      have g1 := hc2 1 _ (by rw [hr1]; rfl)
      have g5 := hc2 5 _ (by rw [hr1]; rfl)
      have g6 := hc2 6 _ (by rw [hr1]; rfl)
      have g7 := hc2 7 _ (by rw [hr1]; rfl)
      have g8 := hc2 8 _ (by rw [hr1]; rfl)
      have g9 := hc2 9 _ (by rw [hr1]; rfl)
      clear hc2 hr1 hA hc1 hv hv2
      unfold maxLen at hr2 hr3 hcap2
      by_cases h1 : 7000 < l[k].s.size
      · have hf := Lib.hid (all_false lightAct l k hlt (by simp [lightAct]; omega))
        go_wp2_with fail
        go_ret
        exact RetBB.mk' (by rw [hlp.out, hf.out]) hbw
      by_cases h2 : 30 < l[k].l.length
      · have hf := Lib.hid (all_false lightAct l k hlt (by simp [lightAct]; omega))
        go_wp2_with fail
        go_ret
        exact RetBB.mk' (by rw [hlp.out, hf.out]) hbw
      have hP := Lib.hid (lightPod_any [p0, p1, p2] l[k].pod wr B (Nat.le_trans hB hbw.size) (hpd.below (hbw.mono hB)))
      have hla := Lib.hid (show lightAct l[k] = (lightPod l[k].pod && lightUses l[k].uses) by simp [lightAct, show l[k].s.size ≤ 7000 from by omega, show l[k].l.length ≤ 30 from by omega])
      cases hp : lightPod l[k].pod
      · have hf := Lib.hid (all_false lightAct l k hlt (by rw [hla.out, hp]; rfl))
        rw [hp] at hP
        clear hp
        go_wp2_with fail
        refine hP.out.mono ?_
        rintro e w1 ⟨rfl, hb1⟩
        go_wp2_with fail
        go_ret
        exact RetBB.mk' (by rw [hlp.out, hf.out]) (hbw.trans (hb1.mono hbw.size))
      · rw [hp] at hP hla
        have hU := fun (w1 : World) (hb : Below B w w1) => lightUses_any uv l[k].uses w1 B (hus.below hb)
        have HU := Lib.hid hU
        clear hU hp
        cases hu : lightUses l[k].uses
        · have hf := Lib.hid (all_false lightAct l k hlt (by rw [hla.out, hu]; rfl))
          rw [hu] at HU
          clear hu
          go_wp2_with fail
          refine hP.out.mono ?_
          rintro e w1 ⟨rfl, hb1⟩
          have hbw1 := hbw.trans (hb1.mono hbw.size)
          obtain ⟨hc', _⟩ := bcell hb1
          have g9' := (hc' b (off + k * 10 + 9) (by have := hbw.size; omega)).trans g9
          clear hc'
          go_wp2_with fail
          refine (HU.out w1 (hbw1.mono hB)).mono ?_
          rintro e w2 ⟨rfl, rfl⟩
          go_wp2_with fail
          go_ret
          exact RetBB.mk' (by rw [hlp.out, hf.out]) hbw1
        · have hf := Lib.hid (all_take_succ lightAct l k hlt ha.out (by rw [hla.out, hu]; rfl))
          rw [hu] at HU
          clear hu
          go_wp2_with fail
          refine hP.out.mono ?_
          rintro e w1 ⟨rfl, hb1⟩
          have hbw1 := hbw.trans (hb1.mono hbw.size)
          obtain ⟨hc', _⟩ := bcell hb1
          have g9' := (hc' b (off + k * 10 + 9) (by have := hbw.size; omega)).trans g9
          clear hc'
          go_wp2_with fail
          refine (HU.out w1 (hbw1.mono hB)).mono ?_
          rintro e w2 ⟨rfl, rfl⟩
          go_wp2_with fail
          go_roundw
          case rel => exact ⟨k + 1, by go_num, by omega, hf.out, hbw1⟩
          case measure => simp [intOf]; omega
    · have hf := Lib.hid (all_full lightAct l k (by omega) ha.out)
      go_wp2_with fail
      go_ret
      exact RetBB.mk' (by rw [hlp.out, hf.out]) hbw
end Go.Proofs.YticmfflnenoplacGreatDoor
namespace Go.Proofs.YticmfflnenoplacGreatDoor
open Go.RowKit Go.Deep Pop Bi Da Sv Qo
def RetSome (w : World) (e : Ending) (w' : World) : Prop := ∃ b : Bool, e = .returned (.bool b) ∧ Below w.heap.size w w'
set_option maxRecDepth 100000 in
set_option maxHeartbeats 4000000 in
theorem lightHeld_any (l : List Held) (v : Value) (w : World) (h : RSlice w w.heap.size 4 (RHeld w w.heap.size) [v] l) :
    Calls Tryz.prog 15 #[v] w (RetSome w) := by
  obtain ⟨A, cap, e, hl, hcap, hA⟩ := (RS.of h).form
  obtain rfl : v = _ := by simpa using e
  unfold maxLen at hcap
  have H := Lib.hid h
  have HA := Lib.hid hA
  clear h hA e
  generalize hll : l.length = ll at *
  have HLL := Lib.hid hll
  clear hll
  by_cases hm : 16 < ll
  · go_enter Tryz.func15, Tryz.ntmps15
    go_wp2_with fail
    go_ret
    exact ⟨false, rfl, Below.refl _ _⟩
  · go_enter Tryz.func15, Tryz.ntmps15
    go_upto_region 4 with fail
    go_loopw [3] (fun i wi => ∃ k : Nat, i = .int .i64 k ∧ k ≤ ll ∧ Hid (Below w.heap.size w wi)) (fun i _ => ll - (intOf i).toNat)
    case atStart => exact ⟨0, rfl, by omega, Lib.hid (Below.refl _ _)⟩
    case round =>
      obtain ⟨k, rfl, hk, HB⟩ := hrel
      by_cases hlt : k < ll
      · obtain ⟨b, off, rfl, hb⟩ := HA.out k hlt
        have hl1 : k < l.length := by rw [HLL.out]; exact hlt
        obtain ⟨A3, c3, A4, c4, r0, r1, r2, r3, hp1, _, i1, i2, j1, j2, _, _, hg1, hgA1⟩ := held_at ((H.out.below HB.out).mono fun _ _ h => RHeld.below h HB.out) hl1
        have hbs := HB.out.size
        have hb1w : b < wr.heap.size := by omega
        have HP1 := Lib.hid hp1
        have HG1 := Lib.hid hg1
        have HGA1 := Lib.hid hgA1
        unfold maxLen at i2 j2
        clear hp1 hg1 hgA1
        generalize l[k] = x at *
        obtain ⟨⟨xn, xp, xc⟩, xg⟩ := x
        dsimp only at *
        have HLP : Hid (Calls Tryz.prog 23 #[.agg #[.string xn, .int .i64 xp, .slice A3 xc.length c3]] wr (RetBB (lightPod ⟨xn, xp, xc⟩) wr)) := Lib.hid (lightPod_any _ ⟨xn, xp, xc⟩ wr w.heap.size hbs HP1.out)
        generalize lightPod ⟨xn, xp, xc⟩ = bb at *
        clear HP1
        generalize hgg : xg.length = gl at *
        have HGG := Lib.hid hgg
        clear hgg
        go_wp2_with fail
        refine HLP.out.mono ?_
        rintro e w5 ⟨rfl, hb5⟩
        have HB5 := Lib.hid (HB.out.trans (hb5.mono hbs))
        have hs5 := HB5.out.size
        replace r3 := (hb5.cell (p := ⟨b, off + k * 4 + 3, none⟩) hb1w).trans r3
        have HG5 := Lib.hid ((HG1.out.below (hb5.mono hbs)).mono fun _ _ h => RGiven.below h (hb5.mono hbs))
        have hb15 : b < w5.heap.size := by omega
        clear HLP hb5 HG1 r0 r1 r2 HB
        cases bb
        · go_wp2_with fail
          go_ret
          exact ⟨false, rfl, HB5.out⟩
        · by_cases h5 : 5 < gl
          · go_wp2_with fail
            go_ret
            exact ⟨false, rfl, HB5.out⟩
          · go_upto_region 9 with fail
            go_loopw [4] (fun i wi => ∃ j : Nat, i = .int .i64 j ∧ j ≤ gl ∧ wi = w5) (fun i _ => gl - (intOf i).toNat)
            case atStart => exact ⟨0, rfl, by omega, rfl⟩
            case round =>
              obtain ⟨j, rfl, hj, rfl⟩ := hrel
              by_cases hltj : j < gl
              · obtain ⟨b4, off4, rfl, hb4⟩ := HGA1.out j hltj
                have hj1 : j < xg.length := by rw [HGG.out]; exact hltj
                obtain ⟨A7, c7, g0, g1, hgc, hg1, hg2, hgd, hgdA⟩ := given_at HG5.out hj1
                have hb4z : b4 < wr.heap.size := by omega
                unfold maxLen at hg2
                clear hgd hgdA g0
                generalize xg[j].devs.length = dl at *
                by_cases h20 : 20 < dl
                · go_wp2_with fail
                  go_ret
                  exact ⟨false, rfl, HB5.out⟩
                · go_wp2_with fail
                  go_roundw
                  case rel => exact ⟨j + 1, by first | rfl | go_num, by omega, by first | rfl | trivial⟩
                  case measure => simp [intOf] <;> omega
              · obtain rfl : j = gl := by omega
                go_wp2_with fail
                go_roundw
                case rel => exact ⟨k + 1, by first | rfl | go_num, by omega, HB5⟩
                case measure => simp [intOf] <;> omega
      · obtain rfl : k = ll := by omega
        go_wp2_with fail
        go_ret
        exact ⟨true, rfl, HB.out⟩
end Go.Proofs.YticmfflnenoplacGreatDoor
namespace Go.Proofs.YticmfflnenoplacGreatDoor
open Go.RowKit Go.Deep Pop Bi Da Sv Qo Dk
namespace Tf
/-- A disk made within a call. -/
def DOne (w0 w : World) (b : Nat) (s : St) : Prop := ∃ wv, DIs w b wv s ∧ w0.heap.size ≤ b ∧ (∀ g, wv.ownBlock = some g → w0.heap.size ≤ g) ∧ Below w0.heap.size w0 w
theorem DOne.after {w0 w w' : World} {b : Nat} {wv : Value} {s' : St} (h2 : w0.heap.size ≤ b) (h3 : ∀ g, wv.ownBlock = some g → w0.heap.size ≤ g) (h4 : Below w0.heap.size w0 w) (ha : DAfter b wv s' w w') : DOne w0 w' b s' := by
  obtain ⟨wv1, k1, ho, hk⟩ := ha
  refine ⟨wv1, k1, h2, ?_, h4.trans (hk.below h4.size ?_)⟩
  · intro g hg
    rcases ho with ho | ho
    · exact h3 g (ho ▸ hg)
    · exact Nat.le_trans h4.size (ho g hg)
  · rintro k hk' (x | x)
    · omega
    · exact absurd (h3 k x) (by omega)
theorem DOne.below {w0 w w' : World} {b : Nat} {s : St} (h : DOne w0 w b s) (hb : Below w.heap.size w w') : DOne w0 w' b s := by
  obtain ⟨wv, h1, h2, h3, h4⟩ := h
  exact DOne.after h2 h3 h4 (DAfter.below h1 hb)
theorem DOne.call {w0 w : World} {b : Nat} {s s' : St} {f : FuncId} {args : Array Value} {v : Value} (h : DOne w0 w b s)
    (c : ∀ wv, DIs w b wv s → Calls Tryz.prog f args w (fun e w' => e = .returned v ∧ DAfter b wv s' w w')) : Calls Tryz.prog f args w (fun e w' => e = .returned v ∧ DOne w0 w' b s') := by
  obtain ⟨wv, h1, h2, h3, h4⟩ := h
  exact (c wv h1).mono fun e w' ⟨he, ha⟩ => ⟨he, DOne.after h2 h3 h4 ha⟩
theorem helds_up {w w' : World} {B : Nat} {v : Value} {l : List Held} (h : RSlice w B 4 (RHeld w B) [v] l) (hb : Below B w w') (hB : B ≤ w'.heap.size) : RSlice w' w'.heap.size 4 (RHeld w' w'.heap.size) [v] l :=
  RS.move (S' := (· < w'.heap.size)) (RS.of h) (fun b hb' => hb.block b hb') (fun _ h => Nat.lt_of_lt_of_le h hB) fun _ _ _ h =>
    RHeldS.move (w' := w') (SC' := (· < w'.heap.size)) (SG' := (· < w'.heap.size)) (SN' := (· < w'.heap.size)) (SI' := (· < w'.heap.size)) (SC := (· < B)) (SG := (· < B)) (SN := (· < B)) (SI := (· < B)) h
      (fun b hb' => hb.block b hb') (fun _ h => Nat.lt_of_lt_of_le h hB) (fun b hb' => hb.block b hb') (fun _ h => Nat.lt_of_lt_of_le h hB) (fun b hb' => hb.block b hb') (fun _ h => Nat.lt_of_lt_of_le h hB) (fun b hb' => hb.block b hb') (fun _ h => Nat.lt_of_lt_of_le h hB)
theorem DOne.up {w0 w : World} {b : Nat} {s : St} {v : Value} {l : List Held} (h : DOne w0 w b s) (hR : RSlice w0 w0.heap.size 4 (RHeld w0 w0.heap.size) [v] l) : RSlice w w.heap.size 4 (RHeld w w.heap.size) [v] l := by
  obtain ⟨_, _, _, _, h4⟩ := h
  exact helds_up hR h4 h4.size
theorem DOne.save {w0 w : World} {b : Nat} {s : St} {v : Value} {l : List Held} (h : DOne w0 w b s) (hR : RSlice w0 w0.heap.size 4 (RHeld w0 w0.heap.size) [v] l) (hL : LayS w0) (hf : Fine 900 s) :
    Calls Tryz.prog 13 #[.pointer (some ⟨b, 0, none⟩), v] w (fun e w' => e = .returned (errV (saveP s l).1) ∧ DOne w0 w' b (saveP s l).2) := by
  have hR' := h.up hR
  have hL' : LayS w := by
    obtain ⟨_, _, _, _, h4⟩ := h
    exact hL.below h4
  exact h.call fun wv hd => SSave_any l v _ b wv s w (Nat.le_refl _) hR' hL' hd hf
theorem DOne.load {w0 w : World} {b : Nat} {s : St} (h : DOne w0 w b s) (hL : LayS w0) (hs : (readS s).1.size ≤ maxLen) :
    Calls Tryz.prog 14 #[.pointer (some ⟨b, 0, none⟩)] w (fun e w' => ∃ v, e = .returned (.tuple #[v, errV (loadP s).2]) ∧ HeldsT w' v (loadP s).1 ∧ DOne w0 w' b s) := by
  obtain ⟨wv, h1, h2, h3, h4⟩ := h
  exact (SLoad_any b wv s w (hL.below h4) h1 hs).mono fun e w' ⟨v, he, hv, hb⟩ => ⟨v, he, hv, DOne.below ⟨wv, h1, h2, h3, h4⟩ hb⟩
end Tf
set_option maxHeartbeats 400000 in
theorem errNo_any (n : Int) (w : World) : Calls Tryz.prog 17 #[errV n] w fun e w' => e = .returned (.int .i64 n) ∧ w' = w := by
  by_cases h : n = 0
  · subst h
    rw [errV_0]
    go_enter Tryz.func17, Tryz.ntmps17
    go_wp2_with fail
    go_ret
    exact ⟨rfl, rfl⟩
  · rw [errV_pos n h]
    clear h
    have hta := fun w => assertE n w
    go_enter Tryz.func17, Tryz.ntmps17
    go_wp2_with fail
    go_ret
    exact ⟨rfl, rfl⟩
theorem errNo_pos (n : Int) (h : n ≠ 0) (w : World) : Calls Tryz.prog 17 #[.iface 117 (.int .i64 n)] w fun e w' => e = .returned (.int .i64 n) ∧ w' = w := by
  have := errNo_any n w
  rw [errV_pos n h] at this
  exact this
open Tf
section
attribute [local irreducible] textH heldFault stg saveP writeS syncS moveS readS parseF parseL loadP restartS armS kOf
set_option maxRecDepth 100000 in
set_option maxHeartbeats 16000000 in
theorem TopFile_any (l o : List Held) (v v2 : Value) (fuse keep torn : Int) (w : World) (h1 : RSlice w w.heap.size 4 (RHeld w w.heap.size) [v] l) (h2 : RSlice w w.heap.size 4 (RHeld w w.heap.size) [v2] o)
    (hf : -9223372036854775808 ≤ fuse ∧ fuse ≤ 9223372036854775807) (hL : LayS w) :
    Calls Tryz.prog 3 #[v, v2, .int .i64 fuse, .int .i64 keep, .int .i64 torn] w (RetBB true w) := by
  have hxl := Lib.hid (fit_of h1)
  have hxo := Lib.hid (fit_of h2)
  have H1 := Lib.hid h1
  have H2 := Lib.hid h2
  have HL := Lib.hid hL
  have HN := Lib.hid (HeldsT.nil w none 0 (by simp [maxLen])).to
  obtain ⟨s1, es, rs, fs⟩ := save_easy rest_new rfl fault_nil text_nil
  have EL := Lib.hid (load_at rs.down (by rw [rs.now]; rfl) (by rw [rs.now]; rfl) fault_nil fit_nil text_nil)
  have ES := Lib.hid es
  have F1 := Lib.hid (show Fine 4 s1 by have := save_fine Fine.new []; rw [es] at this; exact this)
  have R1 := Lib.hid rs
  clear h1 h2 hL es rs fs
  go_enter Tryz.func3, Tryz.ntmps3
  go_wp2_with fail
  refine (DkP.new_any _).mono ?_
  rintro e w1 ⟨b, rfl, hi, hbe, hb⟩
  have D1 := Lib.hid (show DOne w w1 b Dk.new from ⟨_, hi, by omega, by simp [Value.ownBlock], hb⟩)
  clear hi hbe hb
  go_wp2_with fail
  refine (D1.out.save HN.out HL.out (Fine.new.more (by omega))).mono ?_
  rintro e w2 ⟨rfl, d2⟩
  rw [ES.out] at d2
  have D2 := Lib.hid d2
  rw [ES.out]
  dsimp only
  rw [errV_0]
  clear d2 D1 ES
  go_wp2_with fail
  refine (D2.out.load HL.out (by rw [EL.out.2]; have := text_nil; unfold maxLen; omega)).mono ?_
  rintro e w3 ⟨vn, rfl, hn, d3⟩
  rw [EL.out.1] at hn
  rw [EL.out.1]
  have D3 := Lib.hid d3
  obtain ⟨A, cap, hv, _, _⟩ := hn
  obtain rfl : vn = .slice A 0 cap := by simpa using hv
  dsimp only
  clear hv
  rw [errV_0]
  clear d3 D2 EL
  go_wp2_with fail
  refine (lightHeld_any l v _ (D3.out.up H1.out)).mono ?_
  rintro e w4 ⟨b1, rfl, hb4⟩
  have D4 := Lib.hid (D3.out.below hb4)
  clear hb4 D3
  cases b1 with
  | false =>
    go_wp2_with fail
    go_ret
    obtain ⟨_, _, _, _, h4⟩ := D4.out
    exact ⟨rfl, h4⟩
  | true =>
    go_wp2_with fail
    refine (lightHeld_any o v2 _ (D4.out.up H2.out)).mono ?_
    rintro e w5 ⟨b2, rfl, hb5⟩
    have D5 := Lib.hid (D4.out.below hb5)
    clear hb5 D4
    cases b2 with
    | false =>
      go_wp2_with fail
      go_ret
      obtain ⟨_, _, _, _, h4⟩ := D5.out
      exact ⟨rfl, h4⟩
    | true =>
      go_wp2_with fail
      refine (D5.out.save H1.out HL.out (F1.out.more (by omega))).mono ?_
      rintro e w6 ⟨rfl, d6⟩
      have hr := save_rest R1.out rfl l
      have hf6 := save_fine F1.out l
      generalize saveP s1 l = r at *
      obtain ⟨c, s2⟩ := r
      dsimp only at *
      have D6 := Lib.hid d6
      have F6 := Lib.hid hf6
      have R6 := Lib.hid hr
      clear d6 hf6 hr D5
      by_cases hc : c = 0
      · subst hc
        rw [errV_0]
        obtain ⟨h0, h6, hr2⟩ : heldFault l = 0 ∧ (toB (textH l)).size ≤ 6000 ∧ Tf.Rest s2 (Tf.lone (toB (textH l))) := by
          rcases R6.out with ⟨a, _⟩ | ⟨a, _⟩ | ⟨_, a⟩
          · exact absurd rfl a
          · cases a
          · exact a
        have Hz := Lib.hid h0
        have H6 := Lib.hid h6
        have R2 := Lib.hid hr2
        clear h0 h6 hr2 R6
        have harm : ∀ n : Int, n ≤ 9223372036854775807 → Calls Tryz.prog 16 #[.pointer (some ⟨b, 0, none⟩), .int .i64 n] w6 (fun e w' => e = .returned (.tuple #[]) ∧ DOne w w' b (armS s2 n)) := fun n hn => D6.out.call fun wv h => DkP.arm_any s2 n b wv w6 h
        have HARM := Lib.hid harm
        clear harm
        have hn : -1 ≤ min (max fuse (-1)) 20 ∧ min (max fuse (-1)) 20 ≤ 20 := by omega
        have HW := Lib.hid (whole (rest_arm R2.out (min (max fuse (-1)) 20)) Hz.out hxl.out H6.out hxo.out (kOf keep (saveP (armS s2 (min (max fuse (-1)) 20)) o).2.wait.length) torn)
        have F7 := Lib.hid (F6.out.armS (n := min (max fuse (-1)) 20) (by omega))
        clear hf
        go_wp2_with fail
        refine (HARM.out _ (by omega)).mono ?_
        clear hn
        rintro e w7 ⟨rfl, d7⟩
        generalize armS s2 (min (max fuse (-1)) 20) = s3 at *
        have D7 := Lib.hid d7
        clear d7 D6 HARM
        generalize min (max fuse (-1)) 20 = n at *
        go_wp2_with fail
        refine (D7.out.save H2.out HL.out (F7.out.more (by omega))).mono ?_
        rintro e w8 ⟨rfl, d8⟩
        have f8 := save_fine F7.out o
        generalize saveP s3 o = r at *
        obtain ⟨c, s4⟩ := r
        dsimp only at *
        have D8 := Lib.hid d8
        have F8 := Lib.hid f8
        obtain ⟨hA, hB⟩ := HW.out
        try dsimp only at hA hB
        have HA := Lib.hid hA
        have HB := Lib.hid hB
        clear d8 f8 hA hB HW D7
        by_cases hc0 : c = 0
        · subst hc0
          rw [errV_0]
          obtain ⟨x, hx1, hx2, hx3⟩ := HB.out (.inl rfl)
          obtain rfl : x = o := by
            rcases hx3 with a | ⟨a, _⟩
            · exact a
            · exact absurd rfl a
          have X1 := Lib.hid hx1
          have X2 := Lib.hid hx2
          clear hx1 hx2 hx3 HA HB
          go_wp2_with fail
          refine (D8.out.call fun wv h => DkP.restart_all s4 keep torn b wv w8 (Nat.le_trans F8.out.f3 (by omega)) h F8.out.f4).mono ?_
          rintro e w9 ⟨rfl, d9⟩
          have D9 := Lib.hid d9
          clear d9 D8 F8
          go_wp2_with fail
          refine (D9.out.load HL.out (by unfold maxLen; have := X2.out; omega)).mono ?_
          rintro e w10 ⟨vx, rfl, hx, d10⟩
          rw [X1.out] at hx
          rw [X1.out]
          try dsimp only at hx
          dsimp only
          rw [errV_0]
          have HX := Lib.hid hx.to
          have D10 := Lib.hid d10
          clear hx d10 D9 X1 X2
          go_wp2_with fail
          refine (sameH_any _ _ _ _ _ HX.out (D10.out.up H2.out)).mono ?_
          rintro e w11 ⟨b5, rfl, hb5, hbel⟩
          obtain rfl := hb5 rfl
          obtain ⟨_, _, _, _, hfin⟩ := D10.out.below hbel
          clear hb5 hbel D10 HX
          go_wp2_with fail
          go_ret
          exact ⟨rfl, hfin⟩
        · rw [errV_pos c hc0]
          by_cases h11 : c = 11
          · subst h11
            obtain ⟨x, hx1, hx2, hx3⟩ := HB.out (.inr rfl)
            have X1 := Lib.hid hx1
            have X2 := Lib.hid hx2
            clear hx1 hx2 HA HB
            go_wp2_with fail
            refine (errNo_pos 11 (by omega) _).mono ?_
            rintro e w9 ⟨rfl, rfl⟩
            go_wp2_with fail
            refine (D8.out.call fun wv h => DkP.restart_all s4 keep torn b wv _ (Nat.le_trans F8.out.f3 (by omega)) h F8.out.f4).mono ?_
            rintro e w9 ⟨rfl, d9⟩
            have D9 := Lib.hid d9
            clear d9 D8 F8
            go_wp2_with fail
            refine (D9.out.load HL.out (by unfold maxLen; have := X2.out; omega)).mono ?_
            rintro e w10 ⟨vx, rfl, hx, d10⟩
            rw [X1.out] at hx
            rw [X1.out]
            try dsimp only at hx
            dsimp only
            rw [errV_0]
            have HX := Lib.hid hx.to
            have D10 := Lib.hid d10
            clear hx d10 D9 X1 X2
            rcases hx3 with rfl | ⟨_, rfl⟩
            · go_wp2_with fail
              refine (sameH_any _ _ _ _ _ HX.out (D10.out.up H2.out)).mono ?_
              rintro e w11 ⟨b5, rfl, hb5, hbel⟩
              obtain rfl := hb5 rfl
              obtain ⟨_, _, _, _, hfin⟩ := D10.out.below hbel
              clear hb5 hbel D10 HX
              go_wp2_with fail
              go_ret
              exact ⟨rfl, hfin⟩
            · go_wp2_with fail
              refine (sameH_any _ _ _ _ _ HX.out (D10.out.up H2.out)).mono ?_
              rintro e w11 ⟨b5, rfl, _, hbel⟩
              have D11 := Lib.hid (D10.out.below hbel)
              have HX' := Lib.hid (helds_up HX.out hbel hbel.size)
              clear hbel D10 HX
              cases b5 with
              | true =>
                go_wp2_with fail
                go_ret
                obtain ⟨_, _, _, _, hfin⟩ := D11.out
                exact ⟨rfl, hfin⟩
              | false =>
                go_wp2_with fail
                refine (sameH_any _ _ _ _ _ HX'.out (D11.out.up H1.out)).mono ?_
                rintro e w12 ⟨b6, rfl, hb6, hbel⟩
                obtain rfl := hb6 rfl
                obtain ⟨_, _, _, _, hfin⟩ := D11.out.below hbel
                clear hb6 hbel D11 HX'
                go_wp2_with fail
                go_ret
                exact ⟨rfl, hfin⟩
          · obtain ⟨hx1, hx2⟩ := HA.out ⟨hc0, h11⟩
            have X1 := Lib.hid hx1
            have X2 := Lib.hid hx2
            clear hx1 hx2 HA HB
            go_wp2_with fail
            refine (errNo_pos c hc0 _).mono ?_
            rintro e w9 ⟨rfl, rfl⟩
            go_wp2_with fail
            refine (D8.out.load HL.out (by unfold maxLen; have := X2.out; omega)).mono ?_
            rintro e w10 ⟨vx, rfl, hx, d10⟩
            rw [X1.out] at hx
            rw [X1.out]
            try dsimp only at hx
            dsimp only
            rw [errV_0]
            have HX := Lib.hid hx.to
            have D10 := Lib.hid d10
            clear hx d10 D8 X1 X2
            go_wp2_with fail
            refine (sameH_any _ _ _ _ _ HX.out (D10.out.up H1.out)).mono ?_
            rintro e w11 ⟨b5, rfl, hb5, hbel⟩
            obtain rfl := hb5 rfl
            obtain ⟨_, _, _, _, hfin⟩ := D10.out.below hbel
            clear hb5 hbel D10 HX
            go_wp2_with fail
            go_ret
            exact ⟨rfl, hfin⟩
      · rw [errV_pos c hc]
        go_wp2_with fail
        go_ret
        obtain ⟨_, _, _, _, h4⟩ := D6.out
        exact ⟨rfl, h4⟩
end
end Go.Proofs.YticmfflnenoplacGreatDoor
namespace Go.Proofs.YticmfflnenoplacGreatDoor
open Go.RowKit Go.Deep Da Sv
section
variable {H : Type} {enc : TypeId × Value → H} {w : World} {spare : Nat → Bool} {held : Bool}
theorem cells_set : Tryz.prog.cellsOf 38 = 1 := by kernel_rfl
theorem cells_given : Tryz.prog.cellsOf 80 = 2 := by kernel_rfl
theorem cells_givens : Tryz.prog.cellsOf 67 = 1 := by kernel_rfl
theorem cells_held : Tryz.prog.cellsOf 69 = 4 := by kernel_rfl
theorem given_of (fuel : Nat) (cs : List Value) (x : DataW H × List MemPlace) (h : DataW.trod enc Tryz.prog w 0 spare held fuel 80 cs = some x) : ∃ y, RGiven w w.heap.size cs y := by
  obtain ⟨xs, n, _, _, hcl, hxl, hf⟩ := DataW.trod_struct Tryz.underlying80 h
  rw [cells_given] at hcl
  obtain ⟨c0, c1, rfl⟩ := list2 hcl
  obtain ⟨y0, e0⟩ := some_of (i := 0) hxl (by decide)
  obtain ⟨y1, e1⟩ := some_of (i := 1) hxl (by decide)
  have h0 := field_of hf (i := 0) rfl rfl rfl cells_set e0
  have h1 := field_of hf (i := 1) rfl rfl rfl cells_ints e1
  obtain ⟨k, hk, _, hw⟩ := DataW.trod_int Tryz.underlying38 h0
  obtain ⟨l, hv⟩ := rslice_of Tryz.underlying78 cells_int (by omega) int_of h1
  simp at hk
  subst hk
  have hb := bounds_u64 hw
  obtain ⟨m, rfl⟩ : ∃ m : Nat, k = (m : Int) := ⟨k.toNat, by omega⟩
  exact ⟨⟨m, l⟩, c1, rfl, by show m < 18446744073709551616; omega, by simpa using hv⟩
theorem held_of (fuel : Nat) (cs : List Value) (x : DataW H × List MemPlace) (h : DataW.trod enc Tryz.prog w 0 spare held fuel 69 cs = some x) : ∃ y, RHeld w w.heap.size cs y := by
  obtain ⟨xs, n, _, _, hcl, hxl, hf⟩ := DataW.trod_struct Tryz.underlying69 h
  rw [cells_held] at hcl
  obtain ⟨c0, c1, c2, c3, rfl⟩ := list4 hcl
  obtain ⟨y0, e0⟩ := some_of (i := 0) hxl (by decide)
  obtain ⟨y1, e1⟩ := some_of (i := 1) hxl (by decide)
  have h0 := field_of hf (i := 0) rfl rfl rfl cells_pod e0
  have h1 := field_of hf (i := 1) rfl rfl rfl cells_givens e1
  obtain ⟨p, hp⟩ := pod_of _ _ _ h0
  obtain ⟨l, hv⟩ := rslice_of Tryz.underlying67 cells_given (by omega) given_of h1
  obtain ⟨cv, he, q1, q2, q3⟩ := hp
  simp at he
  obtain ⟨rfl, rfl, rfl⟩ := he
  exact ⟨⟨p, l⟩, c2, c3, rfl, ⟨c2, rfl, q1, q2, q3⟩, by simpa using hv⟩
theorem helds_of {fuel : Nat} {a0 : Option Addr} {len0 cap0 : Nat} {x : DataW H × List MemPlace} (h : DataW.trod enc Tryz.prog w 0 spare held fuel 22 [.slice a0 len0 cap0] = some x) : ∃ l : List Held, RSlice w w.heap.size 4 (RHeld w w.heap.size) [.slice a0 len0 cap0] l :=
  rslice_of Tryz.underlying22 cells_held (by omega) held_of h
end
end Go.Proofs.YticmfflnenoplacGreatDoor
namespace Go.Proofs.YticmfflnenoplacGreatDoor
open Go.RowKit Go.WideShapes

section
variable {H : Type} {enc : TypeId × Value → H} {w : World} {base b0 : Nat} {sp : Nat → Bool} {held : Bool} {r : Reach} {d : DataW H} {ps : List MemPlace} {v : Value}
theorem open_num {P : Program} {t : TypeId} {k : IntKind} (ht : P.underlying t = some (.int k)) (hval : Value.okWide P w r b0 t v) (hd : DataW.Trod enc P w base sp held t v d ps) : ∃ n, v = .int k n ∧ (Lit.int k n).wf = true := by
  obtain ⟨n, rfl⟩ := okWide_int ht hval
  obtain ⟨fuel, hf⟩ := hd
  obtain ⟨m, hm, _, hw⟩ := DataW.trod_int ht hf
  simp [Value.cells] at hm
  subst hm
  exact ⟨n, rfl, hw⟩
theorem open_str {P : Program} {t : TypeId} (ht : P.underlying t = some .string) (hval : Value.okWide P w r b0 t v) (hd : DataW.Trod enc P w base sp held t v d ps) : ∃ s, v = .string s ∧ s.size ≤ maxLen := by
  obtain ⟨s, rfl⟩ := okWide_string ht hval
  obtain ⟨fuel, hf⟩ := hd
  obtain ⟨m, hm, _, hw⟩ := DataW.trod_string ht hf
  simp [Value.cells] at hm
  subst hm
  exact ⟨s, rfl, hw⟩
theorem okWide_array {P : Program} {t e : TypeId} {n : Nat} (ht : P.underlying t = some (.array n e)) (h : Value.okWide P w r b0 t v) : ∃ cs, v = .agg cs ∧ cs.size = P.cellsOf t := by
  simp only [Value.okWide, ht] at h
  obtain ⟨cs, h1, h2, _⟩ := h
  exact ⟨cs, h1, h2⟩
end
end Go.Proofs.YticmfflnenoplacGreatDoor
