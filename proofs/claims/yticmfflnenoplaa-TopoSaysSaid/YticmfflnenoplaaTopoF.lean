/- ostleryref.TopoFault: its walk. -/
import Derived.Test.YticmfflnenoplaaTopoE
import Derived.Test.YticmfflnenoplaaTopoC
namespace Go.Proofs.Yticmfflnenoplaa
open Go.RowKit Tp
theorem clash_zero (l : List Cpu) (c : Cpu) : clash l 0 c = false := by simp [clash]
theorem clash_next (l : List Cpu) (k : Nat) (h : k < l.length) (c : Cpu) : clash l (k + 1) c = (clash l k c || (l[k].core == c.core && l[k] != c)) := by
  unfold clash
  rw [List.take_succ_eq_append_getElem h, List.any_append]
  simp
theorem clash_mono (l : List Cpu) (k n : Nat) (h : k ≤ n) (c : Cpu) (hc : clash l k c = true) : clash l n c = true := by
  obtain ⟨i, h1, h2, h3⟩ := (clash_iff l k c).1 hc
  exact (clash_iff l n c).2 ⟨i, h1, by omega, h3⟩
def FaultPost (n : Int) (w : World) (e : Ending) (w' : World) : Prop := e = .returned (.int .i64 n) ∧ Below w.heap.size w w'
theorem below_drewN {B : Nat} {a w : World} (h : Below B a w) (n : Nat) : Below B a (w.drewN n) := ⟨h.os, h.tape, h.output, h.size, h.block⟩
theorem FaultPost.mk' {n m : Int} {w w' : World} (h : n = m) (hb : Below w.heap.size w w') : FaultPost n w (.returned (.int .i64 m)) w' := ⟨by rw [h], hb⟩
section
attribute [local irreducible] fault clash badB Fault
set_option maxRecDepth 100000 in
set_option maxHeartbeats 4000000 in
theorem TopoFault_any (l : List Cpu) (v : Value) (B : Nat) (w : World) (hB : B ≤ w.heap.size) (hR : RS w (· < B) 3 RCpu [v] l) :
    Calls Try.prog 35 #[v] w (FaultPost (Fault l) w) := by
  obtain ⟨A, c, e, hc1, hc2, hA⟩ := hR.form
  obtain rfl : v = _ := by simpa using e
  unfold maxLen at hc2
  have HA := Lib.hid hA
  have HR := Lib.hid hR
  clear hA hR e
  by_cases h1 : l.length < 1
  · have HF := Lib.hid (show Fault l = 2 by unfold Fault; rw [if_pos (.inl h1)])
    go_enter Try.func35, Try.ntmps35
    go_wp2_with fail
    go_ret
    exact FaultPost.mk' (by rw [HF.out]) (Below.refl _ _)
  by_cases h2 : 64 < l.length
  · have HF := Lib.hid (show Fault l = 2 by unfold Fault; rw [if_pos (.inr h2)])
    go_enter Try.func35, Try.ntmps35
    go_wp2_with fail
    go_ret
    exact FaultPost.mk' (by rw [HF.out]) (Below.refl _ _)
  have HL := Lib.hid (show ¬ (l.length < 1 ∨ 64 < l.length) by omega)
  go_enter Try.func35, Try.ntmps35
  go_upto_region 4 with fail
  go_loopw [3] (fun i wr => ∃ n : Nat, i = .int .i64 n ∧ n ≤ l.length ∧ Hid (fault l n = 0) ∧ Below w.heap.size w wr) (fun i _ => l.length - (intOf i).toNat)
  case atStart => exact ⟨0, rfl, by omega, by unfold Hid; unfold fault; rfl, Below.refl _ _⟩
  case round =>
    obtain ⟨n, rfl, hn, hft, hbel⟩ := hrel
    by_cases hlt : n < l.length
    · obtain ⟨b, off, rfl, hb⟩ := HA.out n hlt
      obtain ⟨_, cs', q1, q2, q3, q4⟩ := HR.out.at_ hlt
      have r0 := (hbel.cell (p := ⟨b, off + n * 3 + 0, none⟩) (by dsimp only; omega)).trans (q2 0 _ (by rw [q3]; rfl))
      have r1 := (hbel.cell (p := ⟨b, off + n * 3 + 1, none⟩) (by dsimp only; omega)).trans (q2 1 _ (by rw [q3]; rfl))
      have r2 := (hbel.cell (p := ⟨b, off + n * 3 + 2, none⟩) (by dsimp only; omega)).trans (q2 2 _ (by rw [q3]; rfl))
      rw [Nat.add_zero] at r0
      have hfb := Lib.hid (fault_bad l n hlt HL.out hft.out)
      have hfc := Lib.hid (fault_clash l n hlt HL.out hft.out)
      have hff := Lib.hid (fault_fine l n hlt hft.out)
      generalize l[n] = x at *
      obtain ⟨x0, x1, x2⟩ := x
      dsimp only at r0 r1 r2
      have hszw := hbel.size
      have hbb := Lib.hid (show badB ⟨x0, x1, x2⟩ = (decide (x0 < 0) || decide (63 < x0) || decide (x1 < 0) || decide (63 < x1) || decide (x2 < 0) || decide (3 < x2)) by unfold badB; rfl)
      have hd : (x0 < 0 ∨ (0 ≤ x0 ∧ 63 < x0) ∨ (0 ≤ x0 ∧ x0 ≤ 63 ∧ x1 < 0) ∨ (0 ≤ x0 ∧ x0 ≤ 63 ∧ 0 ≤ x1 ∧ 63 < x1) ∨ (0 ≤ x0 ∧ x0 ≤ 63 ∧ 0 ≤ x1 ∧ x1 ≤ 63 ∧ x2 < 0) ∨ (0 ≤ x0 ∧ x0 ≤ 63 ∧ 0 ≤ x1 ∧ x1 ≤ 63 ∧ 0 ≤ x2 ∧ 3 < x2)) ∨ (0 ≤ x0 ∧ x0 ≤ 63 ∧ 0 ≤ x1 ∧ x1 ≤ 63 ∧ 0 ≤ x2 ∧ x2 ≤ 3) := by omega
      have hbel2 : Below w.heap.size w (wr.alloc (.cells #[.int .i64 x0, .int .i64 x1, .int .i64 x2] 65)) := hbel.alloc hszw _
      have bk := Blk.new wr 65 #[.int .i64 x0, .int .i64 x1, .int .i64 x2]
      clear q1 q2 q3 q4
      rcases hd with hd | ⟨c0, c1, c2, c3, c4, c5⟩
      · have hbt := Lib.hid (show badB ⟨x0, x1, x2⟩ = true by rw [hbb.out]; simp; omega)
        rcases hd with h | ⟨ha, h⟩ | ⟨ha, hb, h⟩ | ⟨ha, hb, hc, h⟩ | ⟨ha, hb, hc, hd, h⟩ | ⟨ha, hb, hc, hd, he, h⟩
        all_goals
          go_wp2_with fail
          go_ret
          exact FaultPost.mk' (by rw [hfb.out hbt.out]) (hbel2)
      · have hbt := Lib.hid (show badB ⟨x0, x1, x2⟩ = false by rw [hbb.out]; simp; omega)
        have HFF := Lib.hid (hff.out hbt.out)
        have HFC := Lib.hid (hfc.out hbt.out)
        go_upto_region 10 with fail
        generalize wr.alloc (.cells #[.int .i64 x0, .int .i64 x1, .int .i64 x2] 65) = wa at *
        clear r0 r1 r2 hfb hfc hff hbb hbt
        generalize wr.heap.size = pk at *
        go_loopw [5] (fun j wi => ∃ k : Nat, j = .int .i64 k ∧ k ≤ n ∧ Hid (clash l k ⟨x0, x1, x2⟩ = false) ∧ Blk wi pk 65 #[.int .i64 x0, .int .i64 x1, .int .i64 x2] ∧ Below w.heap.size w wi) (fun j _ => n - (intOf j).toNat)
        case atStart => exact ⟨0, rfl, by omega, clash_zero _ _, bk, hbel2⟩
        case round =>
          obtain ⟨k, rfl, hk, hcl, bi, hbi⟩ := hrel
          by_cases hkn : k < n
          · obtain ⟨_, cs', q1, q2, q3, q4⟩ := HR.out.at_ (i := k) (by omega)
            have r0 := (hbi.cell (p := ⟨b, off + k * 3 + 0, none⟩) (by dsimp only; omega)).trans (q2 0 _ (by rw [q3]; rfl))
            have r1 := (hbi.cell (p := ⟨b, off + k * 3 + 1, none⟩) (by dsimp only; omega)).trans (q2 1 _ (by rw [q3]; rfl))
            have r2 := (hbi.cell (p := ⟨b, off + k * 3 + 2, none⟩) (by dsimp only; omega)).trans (q2 2 _ (by rw [q3]; rfl))
            rw [Nat.add_zero] at r0
            have hnx := Lib.hid (clash_next l k (by omega) ⟨x0, x1, x2⟩)
            have hmono := Lib.hid (clash_mono l (k + 1) n (by omega) ⟨x0, x1, x2⟩)
            generalize l[k] = y at *
            obtain ⟨y0, y1, y2⟩ := y
            dsimp only at r0 r1 r2
            have ei := bi.cells
            have el := bi.lt
            have hkl : k < l.length := by omega
            clear q1 q2 q3 q4
            have hd : y0 ≠ x0 ∨ (y0 = x0 ∧ y1 = x1 ∧ y2 = x2) ∨ (y0 = x0 ∧ y1 ≠ x1) ∨ (y0 = x0 ∧ y1 = x1 ∧ y2 ≠ x2) := by omega
            rcases hd with h0 | ⟨rfl, rfl, rfl⟩ | hd
            · have hN := Lib.hid (show clash l (k + 1) ⟨x0, x1, x2⟩ = false by rw [hnx.out, hcl.out]; simp [h0])
              have hb0 : (y0 == x0) = false := by simpa using h0
              clear h0
              go_upto_region 12 with fail
              go_quiet (fail)
              go_wp2_with fail
              go_roundw
              case rel => exact ⟨k + 1, by go_num, by omega, hN.out, bi.drewN _, below_drewN hbi _⟩
              case measure => simp [intOf]; omega
            · have hN := Lib.hid (show clash l (k + 1) ⟨y0, y1, y2⟩ = false by rw [hnx.out, hcl.out]; simp)
              go_upto_region 12 with fail
              go_quiet (fail)
              go_wp2_with fail
              go_roundw
              case rel => exact ⟨k + 1, by go_num, by omega, hN.out, bi.drewN _, below_drewN hbi _⟩
              case measure => simp [intOf]; omega
            · have hY := Lib.hid (show clash l (k + 1) ⟨x0, x1, x2⟩ = true by rw [hnx.out, hcl.out]; simp; omega)
              rcases hd with ⟨rfl, hd⟩ | ⟨rfl, rfl, hd⟩
              all_goals
                go_upto_region 12 with fail
                go_quiet (fail)
                go_wp2_with fail
                go_ret
                exact FaultPost.mk' (by rw [HFC.out (hmono.out hY.out)]) (below_drewN hbi _)
          · obtain rfl : k = n := by omega
            go_wp2_with fail
            go_roundw
            case rel => exact ⟨k + 1, by go_num, by omega, HFF.out hcl.out, hbi⟩
            case measure => simp [intOf]; omega
    · obtain rfl : n = l.length := by omega
      have HFE := Lib.hid (fault_end l HL.out hft.out)
      go_wp2_with fail
      go_ret
      exact FaultPost.mk' (by rw [HFE.out]) (hbel)
end
end Go.Proofs.Yticmfflnenoplaa
