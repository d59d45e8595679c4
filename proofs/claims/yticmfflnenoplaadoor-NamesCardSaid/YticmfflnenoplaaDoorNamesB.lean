/- Names: its walk, whole. -/
import Derived.Test.YticmfflnenoplaaDoorNames
namespace Go.Proofs.YticmfflnenoplaaDoor
open Go.RowKit
def errCells : Array Value := #[.iface 23 (.int .i64 1), .iface 23 (.int .i64 2), .iface 23 (.int .i64 3), .iface 23 (.int .i64 4), .iface 23 (.int .i64 5), .iface 23 (.int .i64 6), .iface 23 (.int .i64 7), .iface 23 (.int .i64 8), .iface 23 (.int .i64 9), .iface 23 (.int .i64 10), .iface 23 (.int .i64 11), .iface 23 (.int .i64 12), .iface 23 (.int .i64 13)]
theorem errCells_at (k : Nat) (h : k < 13) : errCells[k]? = some (.iface 23 (.int .i64 ((k + 1 : Nat) : Int))) := by
  rcases (show k = 0 ∨ k = 1 ∨ k = 2 ∨ k = 3 ∨ k = 4 ∨ k = 5 ∨ k = 6 ∨ k = 7 ∨ k = 8 ∨ k = 9 ∨ k = 10 ∨ k = 11 ∨ k = 12 by omega) with rfl | rfl | rfl | rfl | rfl | rfl | rfl | rfl | rfl | rfl | rfl | rfl | rfl <;> rfl
theorem same_k (k : Nat) (W : World) : Calls Tryd.prog 6 #[.iface 23 (.int .i64 ((k + 1 : Nat) : Int)), .int .i64 ((k + 1 : Nat) : Int)] W (RetB true W) := by
  rw [← errV_pos _ (by omega)]
  exact same_yes _ (by omega) W
def L14 : List Value := [.int .i64 64, .int .i64 4, .int .i64 12, .int .i64 3, .int .i64 3, .int .i64 16, .int .i64 8, .int .i64 1000000, .int .i64 1125899906842624, .int .i64 300, .int .i64 1000, .int .i64 6000, .int .i64 80, .int .i64 300]
def L7 : List Value := [.int .i64 0, .int .i64 1, .int .i64 2, .int .i64 3, .int .i64 1, .int .i64 2, .int .i64 3]
theorem numV_eq : L14 ++ L7 = numV nums := rfl
set_option maxRecDepth 100000 in
set_option maxHeartbeats 4000000 in
theorem Names_any (w : World) : Calls Tryd.prog 3 #[] w (RetBB true w) := by
  go_enter Tryd.func3, Tryd.ntmps3
  go_upto_region 3 with fail
  have o1 : ((w.alloc (.cells #[.int .i64 64, .int .i64 4, .int .i64 12, .int .i64 3, .int .i64 3, .int .i64 16, .int .i64 8, .int .i64 1000000, .int .i64 1125899906842624, .int .i64 300, .int .i64 1000, .int .i64 6000, .int .i64 80, .int .i64 300] 3)).alloc (.cells #[.int .i64 64, .int .i64 4, .int .i64 12, .int .i64 3, .int .i64 3, .int .i64 16, .int .i64 8, .int .i64 1000000, .int .i64 1125899906842624, .int .i64 300, .int .i64 1000, .int .i64 6000, .int .i64 80, .int .i64 300] 3)).ownsRow w.heap.size 3 1 (.slice (some ⟨w.heap.size, 0, none⟩) 14 14) 14 L14 :=
    (World.ownsRow_lit (base := w.heap.size) (e := 3) (size := 1) w #[.int .i64 64, .int .i64 4, .int .i64 12, .int .i64 3, .int .i64 3, .int .i64 16, .int .i64 8, .int .i64 1000000, .int .i64 1125899906842624, .int .i64 300, .int .i64 1000, .int .i64 6000, .int .i64 80, .int .i64 300] 14 (Nat.le_refl _) (by simp [maxLen]) rfl).alloc _
  have o2 : ((w.alloc (.cells #[.int .i64 64, .int .i64 4, .int .i64 12, .int .i64 3, .int .i64 3, .int .i64 16, .int .i64 8, .int .i64 1000000, .int .i64 1125899906842624, .int .i64 300, .int .i64 1000, .int .i64 6000, .int .i64 80, .int .i64 300] 3)).alloc (.cells #[.int .i64 64, .int .i64 4, .int .i64 12, .int .i64 3, .int .i64 3, .int .i64 16, .int .i64 8, .int .i64 1000000, .int .i64 1125899906842624, .int .i64 300, .int .i64 1000, .int .i64 6000, .int .i64 80, .int .i64 300] 3)).ownsRow w.heap.size 3 1 (.slice (some ⟨w.heap.size + 1, 0, none⟩) 14 14) 14 L14 := by
    have := World.ownsRow_lit (base := w.heap.size) (e := 3) (size := 1) (w.alloc (.cells #[.int .i64 64, .int .i64 4, .int .i64 12, .int .i64 3, .int .i64 3, .int .i64 16, .int .i64 8, .int .i64 1000000, .int .i64 1125899906842624, .int .i64 300, .int .i64 1000, .int .i64 6000, .int .i64 80, .int .i64 300] 3)) #[.int .i64 64, .int .i64 4, .int .i64 12, .int .i64 3, .int .i64 3, .int .i64 16, .int .i64 8, .int .i64 1000000, .int .i64 1125899906842624, .int .i64 300, .int .i64 1000, .int .i64 6000, .int .i64 80, .int .i64 300] 14 (by simp) (by simp [maxLen]) rfl
    simp only [World.size_alloc] at this
    exact this
  have hb : Below w.heap.size w ((w.alloc (.cells #[.int .i64 64, .int .i64 4, .int .i64 12, .int .i64 3, .int .i64 3, .int .i64 16, .int .i64 8, .int .i64 1000000, .int .i64 1125899906842624, .int .i64 300, .int .i64 1000, .int .i64 6000, .int .i64 80, .int .i64 300] 3)).alloc (.cells #[.int .i64 64, .int .i64 4, .int .i64 12, .int .i64 3, .int .i64 3, .int .i64 16, .int .i64 8, .int .i64 1000000, .int .i64 1125899906842624, .int .i64 300, .int .i64 1000, .int .i64 6000, .int .i64 80, .int .i64 300] 3)) := ((Below.refl _ _).alloc (Nat.le_refl _) _).alloc (by simp) _
  have hz : w.heap.size + 2 ≤ ((w.alloc (.cells #[.int .i64 64, .int .i64 4, .int .i64 12, .int .i64 3, .int .i64 3, .int .i64 16, .int .i64 8, .int .i64 1000000, .int .i64 1125899906842624, .int .i64 300, .int .i64 1000, .int .i64 6000, .int .i64 80, .int .i64 300] 3)).alloc (.cells #[.int .i64 64, .int .i64 4, .int .i64 12, .int .i64 3, .int .i64 3, .int .i64 16, .int .i64 8, .int .i64 1000000, .int .i64 1125899906842624, .int .i64 300, .int .i64 1000, .int .i64 6000, .int .i64 80, .int .i64 300] 3)).heap.size := by simp
  generalize (w.alloc (.cells #[.int .i64 64, .int .i64 4, .int .i64 12, .int .i64 3, .int .i64 3, .int .i64 16, .int .i64 8, .int .i64 1000000, .int .i64 1125899906842624, .int .i64 300, .int .i64 1000, .int .i64 6000, .int .i64 80, .int .i64 300] 3)).alloc (.cells #[.int .i64 64, .int .i64 4, .int .i64 12, .int .i64 3, .int .i64 3, .int .i64 16, .int .i64 8, .int .i64 1000000, .int .i64 1125899906842624, .int .i64 300, .int .i64 1000, .int .i64 6000, .int .i64 80, .int .i64 300] 3) = w2 at *
  go_upto_region 4 with (at_builtin; refine wpList_app _ intT rfl (.tmp 7) (.tmp 8) rfl w.heap.size (.slice (some ⟨w.heap.size, 0, none⟩) 14 14) 14 L14 rfl (by exact o1.alloc _) ⟨w2.heap.size, 0, none⟩ 7 7 L7 rfl rfl (news_new w2 _ _) (by simp [L7, Value.oneCell']) (by omega) (by unfold maxLen; omega) (by omega) (by simp; omega) ?_; intro g1 c1 w3 n1 gr1 at1 lt1)
  have hb3 : Below w.heap.size w w3 := (hb.alloc hb.size _).grown gr1 (by simp; omega) fun k hk => (o1.lt k hk).1
  have o2b : w3.ownsRow w.heap.size 3 1 (.slice (some ⟨w.heap.size + 1, 0, none⟩) 14 14) 14 L14 := (o2.alloc _).kept gr1 (by simp [Value.ownBlock])
  have hg1 : g1 ≠ w.heap.size + 1 := by
    rcases at1 with h | h
    · simp [Value.ownBlock] at h; omega
    · simp at h; omega
  clear hb o1 o2 gr1 at1
  go_upto_region 5 with (at_builtin; refine wpList_app _ intT rfl (.tmp 10) (.tmp 11) rfl w.heap.size (.slice (some ⟨w.heap.size + 1, 0, none⟩) 14 14) 14 L14 rfl (by exact o2b.alloc _) ⟨w3.heap.size, 0, none⟩ 7 7 L7 rfl rfl (news_new w3 _ _) (by simp [L7, Value.oneCell']) (by omega) (by unfold maxLen; omega) (by omega) (by have := hb3.size; simp; omega) ?_; intro g2 c2 w4 n2 gr2 at2 lt2)
  have hb4 : Below w.heap.size w w4 := (hb3.alloc hb3.size _).grown gr2 (Nat.le_trans hb3.size (by simp)) fun k hk => (o2b.lt k hk).1
  have n1b := (n1.alloc (.cells #[.int .i64 0, .int .i64 1, .int .i64 2, .int .i64 3, .int .i64 1, .int .i64 2, .int .i64 3] 3)).kept gr2 (by simp [Value.ownBlock]; omega)
  clear gr2 at2 n1 hb3 o2b hz
  go_upto_region 7 with fail
  have hb5 : Below w.heap.size w (w4.alloc (.cells errCells 27)) := hb4.alloc hb4.size _
  have be := Blk.new w4 27 errCells
  have n1c := n1b.alloc (.cells errCells 27)
  have n2c := n2.alloc (.cells errCells 27)
  unfold errCells at hb5 be n1c n2c
  clear n1b n2 hb4
  generalize w4.alloc (.cells #[.iface 23 (.int .i64 1), .iface 23 (.int .i64 2), .iface 23 (.int .i64 3), .iface 23 (.int .i64 4), .iface 23 (.int .i64 5), .iface 23 (.int .i64 6), .iface 23 (.int .i64 7), .iface 23 (.int .i64 8), .iface 23 (.int .i64 9), .iface 23 (.int .i64 10), .iface 23 (.int .i64 11), .iface 23 (.int .i64 12), .iface 23 (.int .i64 13)] 27) = w5 at *
  have ee := fun (k : Nat) (h : k < 13) => (be.cell k).trans (errCells_at k h)
  have HE := Lib.hid ee
  have HS := Lib.hid same_k
  clear ee
  have H1 := Lib.hid n1c
  have H2 := Lib.hid n2c
  have zz := be.lt
  clear be n1c n2c
  go_loop [4] (fun i => ∃ k : Nat, i = .int .i64 k ∧ k ≤ 13) (fun i => 13 - (intOf i).toNat)
  case atStart => exact ⟨0, rfl, by omega⟩
  case round =>
    obtain ⟨k, rfl, hk⟩ := hrel
    by_cases hlt : k < 13
    · have r0 := HE.out k hlt
      have HSk := Lib.hid (fun W => HS.out k W)
      rw [Int.natCast_add, Int.natCast_one] at HSk r0
      go_wp2_with fail
      refine (HSk.out _).mono ?_
      rintro e wq ⟨rfl, rfl⟩
      go_wp2_with fail
      go_round
      case rel => exact ⟨k + 1, by go_num, by omega⟩
      case measure => simp [intOf]; omega
    · obtain rfl : k = 13 := by omega
      have h1 := num_rs (show w5.ownsRow w.heap.size 3 1 _ 21 (numV nums) from H1.out)
      have h2 := num_rs (show w5.ownsRow w.heap.size 3 1 _ 21 (numV nums) from H2.out)
      have HN := Lib.hid (SameNumbers_any nums _ _ (· < w5.heap.size) w5 (fun _ h => h) h1 h2)
      clear h1 h2
      go_wp2_with fail
      refine HN.out.mono ?_
      rintro e w6 ⟨rfl, hb6⟩
      go_wp2_with fail
      refine (error13 _).mono ?_
      rintro e wq ⟨rfl, rfl⟩
      go_wp2_with fail
      go_ret
      exact ⟨rfl, hb5.trans (hb6.mono hb5.size)⟩
end Go.Proofs.YticmfflnenoplaaDoor
