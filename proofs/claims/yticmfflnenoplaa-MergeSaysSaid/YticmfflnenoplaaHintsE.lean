/- The law's own small functions: SameWish at two wishes of the same hints, small. -/
import Derived.Test.YticmfflnenoplaaHintsD
namespace Go.Proofs.Yticmfflnenoplaa
open Go.RowKit Mk

theorem flatH_at (l : List Hint) (i : Nat) (hi : i < l.length) : (flatH l)[i * 2]? = some (.int .u8 (l[i].mask : Int)) ∧ (flatH l)[i * 2 + 1]? = some (.bool l[i].good) := by
  induction l generalizing i with
  | nil => simp at hi
  | cons h l ih =>
    cases i with
    | zero => simp [flatH, Hint.cells]
    | succ i =>
      have := ih i (by simpa using hi)
      simp only [flatH, List.flatMap_cons, Hint.cells, List.cons_append, List.nil_append, List.getElem_cons_succ] at this ⊢
      rw [show (i + 1) * 2 = i * 2 + 1 + 1 by omega]
      simpa using this

section
attribute [local irreducible] flatH
set_option maxHeartbeats 2000000 in
theorem sameWish_any (any : Bool) (l : List Hint) (hl : l.length ≤ 256) (v1 v2 : Value) (b1 b2 : Nat) (w : World) (h1 : w.ownsRow b1 90 2 v1 l.length (flatH l)) (h2 : w.ownsRow b2 90 2 v2 l.length (flatH l)) :
    Calls Try.prog 50 #[.agg #[.bool any, v1], .agg #[.bool any, v2]] w (RetBB true w) := by
  obtain ⟨A1, c1, rfl, hc1, hc1', hg1⟩ := own_form h1
  obtain ⟨A2, c2, rfl, hc2, hc2', hg2⟩ := own_form h2
  unfold maxLen at hc1' hc2'
  have hbel : Below w.heap.size w ((w.alloc (.cells #[.bool any, .slice A1 l.length c1] 83)).alloc (.cells #[.bool any, .slice A2 l.length c2] 83)) := ((Below.refl _ _).alloc (Nat.le_refl _) _).alloc (by simp) _
  have H1 := own_below h1 hbel
  have H2 := own_below h2 hbel
  have k1 := (Blk.new w 83 #[.bool any, .slice A1 l.length c1]).alloc (.cells #[.bool any, .slice A2 l.length c2] 83)
  have k2 := Blk.new (w.alloc (.cells #[.bool any, .slice A1 l.length c1] 83)) 83 #[.bool any, .slice A2 l.length c2]
  simp only [World.size_alloc] at k2
  clear h1 h2
  go_enter Try.func50, Try.ntmps50
  go_upto_region 4 with fail
  go_loopw [5] (fun i wr => ∃ k : Nat, i = .int .i64 k ∧ k ≤ l.length ∧ Below w.heap.size w wr ∧ Blk wr w.heap.size 83 #[.bool any, .slice A1 l.length c1] ∧ Blk wr (w.heap.size + 1) 83 #[.bool any, .slice A2 l.length c2] ∧ wr.ownsRow b1 90 2 (.slice A1 l.length c1) l.length (flatH l) ∧ wr.ownsRow b2 90 2 (.slice A2 l.length c2) l.length (flatH l)) (fun i _ => l.length - (intOf i).toNat)
  case atStart => exact ⟨0, rfl, by omega, hbel, k1, k2, H1, H2⟩
  case round =>
    clear hbel H1 H2 k1 k2
    obtain ⟨k, rfl, hk, hbel, k1, k2, H1, H2⟩ := hrel
    have e1 := k1.cells
    have e2 := k2.cells
    by_cases hlt : k < l.length
    · obtain ⟨g1, rfl, q1, _⟩ := hg1 (by omega)
      obtain ⟨g2, rfl, q2, _⟩ := hg2 (by omega)
      obtain ⟨fa, fb⟩ := flatH_at l k hlt
      have r1 := (H1.cellAt (k * 2) (by omega)).trans fa
      have r2 := (H1.cellAt (k * 2 + 1) (by omega)).trans fb
      have s1 := (H2.cellAt (k * 2) (by omega)).trans fa
      have s2 := (H2.cellAt (k * 2 + 1) (by omega)).trans fb
      clear fa fb
      generalize l[k].mask = m at *
      generalize l[k].good = gd at *
      go_upto_region 6 with fail
      have hI : Below wr.heap.size wr wr.drew := (Below.refl _ _).drew
      have l1 := k1.lt
      have l2 := k2.lt
      have l3 := (H1.lt g1 rfl).2
      have l4 := (H2.lt g2 rfl).2
      refine Flo.region 11 [(0, true), (1, true), (2, true), (3, true), (4, true), (5, true), (6, true), (7, true), (8, true), (9, true), (10, true)] (fun v => Below wr.heap.size wr v) (by kernel_rfl) (by kernel_rfl) rfl hI ?_
      simp only [List.drop_succ_cons, List.drop_zero]
      iterate 11 (apply Flo.op rfl (hI := hI); (· intro v hv K hK; obtain ⟨hc, hf⟩ := Flo.bcl hv; go_wp2_with fail; exact hK); (· rfl))
      refine Flo.tail fun K hK => ?_
      go_wp2_with fail
      go_roundw
      case rel => exact ⟨k + 1, by go_num, by omega, hbel.drew, k1.drew, k2.drew, own_below H1 hI, own_below H2 hI⟩
      case measure => simp [intOf]; omega
    · obtain rfl : k = l.length := by omega
      go_wp2_with fail
      go_ret
      exact ⟨rfl, hbel⟩
end

set_option maxHeartbeats 2000000 in
theorem small_any (l : A4) (w : World) (hl : l.Small) : Calls Try.prog 49 #[l.val] w (RetBB true w) := by
  obtain ⟨a0, a1, a2, a3⟩ := l
  obtain ⟨h0, h1, h2, h3⟩ := hl
  dsimp only at h0 h1 h2 h3
  unfold A4.val
  dsimp only
  go_enter Try.func49, Try.ntmps49
  go_wp2_with fail
  have hblk := (Blk.new w 75 #[.int .i64 a0, .int .i64 a1, .int .i64 a2, .int .i64 a3])
  go_loop [3] (fun i => ∃ k : Nat, i = .int .i64 k ∧ k ≤ 4) (fun i => 4 - (intOf i).toNat)
  case atStart => exact ⟨0, rfl, by omega⟩
  case round =>
    obtain ⟨k, rfl, hk⟩ := hrel
    by_cases hlt : k < 4
    · obtain ⟨x, hx, hx1, hx2⟩ : ∃ x : Int, (w.alloc (.cells #[.int .i64 a0, .int .i64 a1, .int .i64 a2, .int .i64 a3] 75)).cell? ⟨w.heap.size, k, none⟩ = some (.int .i64 x) ∧ -1000000 ≤ x ∧ x ≤ 1000000 := by
        rw [hblk.cell k]
        rcases (show k = 0 ∨ k = 1 ∨ k = 2 ∨ k = 3 by omega) with rfl | rfl | rfl | rfl
        · exact ⟨a0, rfl, h0⟩
        · exact ⟨a1, rfl, h1⟩
        · exact ⟨a2, rfl, h2⟩
        · exact ⟨a3, rfl, h3⟩
      clear hblk h0 h1 h2 h3
      go_wp2_with fail
      go_round
      case rel => exact ⟨k + 1, by go_num, by omega⟩
      case measure => simp [intOf]; omega
    · obtain rfl : k = 4 := by omega
      go_wp2_with fail
      go_ret
      exact ⟨rfl, (Below.refl _ _).alloc (Nat.le_refl _) _⟩
end Go.Proofs.Yticmfflnenoplaa
