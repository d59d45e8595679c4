/- TopMerge: its walk. -/
import Derived.Test.YticmfflnenoplabMgC
import Derived.Test.YticmfflnenoplabMergeK
namespace Go.Proofs.Yticmfflnenoplab
open Go.RowKit Mk
def wz : List Wi := [⟨true, []⟩]
theorem mergez : MergeP 2 3 wz = (⟨3, true⟩, true, 0) := by kernel_rfl
theorem merge_z (w : World) : Calls Try.prog 8 #[.int .i64 2, .int .u8 3, .slice (some ⟨w.heap.size, 0, none⟩) 1 1] (w.alloc (.cells #[.bool true, .slice none 0 0] 32)) (RetPlace (⟨3, true⟩, true, 0) (w.alloc (.cells #[.bool true, .slice none 0 0] 32))) := by
  have b0 := Blk.new w 32 #[.bool true, .slice none 0 0]
  have hrs : RS (w.alloc (.cells #[.bool true, .slice none 0 0] 32)) (· < w.heap.size + 1) 2 (RWish (w.alloc (.cells #[.bool true, .slice none 0 0] 32)) (· < w.heap.size + 1)) [.slice (some ⟨w.heap.size, 0, none⟩) 1 1] wz :=
    RS.blk (l := wz) (f := fun _ => [.bool true, .slice none 0 0]) (S := (· < w.heap.size + 1)) b0 rfl (by simp [wz, maxLen]) (fun x _ => rfl) (fun x hx => by
      obtain rfl : x = ⟨true, []⟩ := by simpa [wz] using hx
      exact ⟨.slice none 0 0, rfl, none, 0, rfl, Nat.le_refl _, by unfold maxLen; omega, .inl rfl⟩) (by show w.heap.size < w.heap.size + 1; omega)
  have := Merge_all 2 3 wz (some ⟨w.heap.size, 0, none⟩) 1 (· < w.heap.size + 1) _ (fun b hb => by simpa using hb) hrs (fun x hx => by
    obtain rfl : x = ⟨true, []⟩ := by simpa [wz] using hx
    simp)
  rw [mergez] at this
  exact this
namespace Mk
theorem top_2 (n : Nat) (l : List Wi) (h : ¬ (n = 0 ∨ 16 ≤ n)) (hl : ¬ 4 < l.length) : MergeP 2 n l = (bst 2 n l, (bst 2 n l).good, 0) := by
  rw [top_rest 2 n l (by omega) hl (by omega)]
  show (bst 2 n l, (bst 2 n l).good || false, 0) = _
  rw [Bool.or_false]
theorem top_3 (n : Nat) (l : List Wi) (h : ¬ (n = 0 ∨ 16 ≤ n)) (hl : ¬ 4 < l.length) : MergeP 3 n l = (bst 3 n l, (bst 3 n l).good, 0) := by
  rw [top_rest 3 n l (by omega) hl (by omega)]
  show (bst 3 n l, (bst 3 n l).good || false, 0) = _
  rw [Bool.or_false]
theorem top_1 (n : Nat) (l : List Wi) (h : ¬ (n = 0 ∨ 16 ≤ n)) (hl : ¬ 4 < l.length) : MergeP 1 n l = (bst 1 n l, true, 0) := by
  rw [top_rest 1 n l (by omega) hl (by omega)]
  show (bst 1 n l, (bst 1 n l).good || true, 0) = _
  rw [Bool.or_true]
theorem top_0 (n : Nat) (l : List Wi) (h : ¬ (n = 0 ∨ 16 ≤ n)) (hl : ¬ 4 < l.length) : MergeP 0 n l = (⟨n, true⟩, true, 0) := top_any n l (by omega) hl
end Mk
theorem val_eq (h : Hint) : h.val = .agg #[.int .u8 h.mask, .bool h.good] := rfl
section
attribute [local irreducible] MergeP listP mergeP bst NoBetter
set_option maxRecDepth 100000 in
set_option maxHeartbeats 3000000 in
theorem topMerge_any (n : Nat) (hn : n < 256) (l : List Wi) (A : Option Addr) (c : Nat) (w : World) (hR : RS w (· < w.heap.size) 2 (RWish w (· < w.heap.size)) [.slice A l.length c] l) :
    Calls Try.prog 3 #[.int .u8 n, .slice A l.length c] w (RetBB true w) := by
  have HZ := Lib.hid (merge_z w)
  have hba : Below w.heap.size w (w.alloc (.cells #[.bool true, .slice none 0 0] 32)) := (Below.refl _ _).alloc (Nat.le_refl _) _
  have HR := Lib.hid hR
  obtain ⟨A', c', e1, hc1, hc2, _⟩ := hR.form
  simp only [List.cons.injEq, Value.slice.injEq, and_true, true_and] at e1
  obtain ⟨rfl, rfl⟩ := e1
  unfold maxLen at hc2
  clear hR
  go_enter Try.func3, Try.ntmps3
  go_wp2_with fail
  refine HZ.out.mono ?_
  rintro e w1 ⟨rfl, hb1⟩
  have hbe1 := hba.trans (hb1.mono hba.size)
  clear hb1 hba HZ
  rw [errV_0]
  go_upto_region 4 with fail
  have hbe2 := hbe1.alloc hbe1.size (.cells #[.int .u8 3, .bool true] 25)
  generalize w1.alloc (.cells #[.int .u8 3, .bool true] 25) = w2 at *
  clear hbe1
  have HL := Lib.hid (light_any l A c (· < w.heap.size) w2 (wish_move HR.out hbe2))
  go_wp2_with fail
  refine HL.out.mono ?_
  rintro e w3 ⟨b, rfl, hl, rfl⟩
  clear HL
  cases b
  · go_wp2_with fail
    go_ret
    exact ⟨rfl, hbe2⟩
  · have hl16 := hl rfl
    clear hl
    by_cases hb : n = 0 ∨ 16 ≤ n ∨ 4 < l.length
    · have hb' : n = 0 ∨ (1 ≤ n ∧ 16 ≤ n) ∨ (1 ≤ n ∧ n < 16 ∧ 4 < l.length) := by omega
      clear hb
      rcases hb' with rfl | ⟨h1, h2⟩ | ⟨h1, h2, h3⟩
      all_goals
        go_wp2_with fail
        go_ret
        exact ⟨rfl, hbe2⟩
    · have h1 : 1 ≤ n := by omega
      have h2 : n < 16 := by omega
      have h3 : l.length ≤ 4 := by omega
      have HM := Lib.hid (fun (p : Int) W (hb : Below w.heap.size w W) => Merge_all p n l A c (· < w.heap.size) W (fun b hb' => Nat.lt_of_lt_of_le hb' hb.size) (wish_move HR.out hb) hl16)
      have M2 := Lib.hid (fun W (hb : Below w.heap.size w W) => HM.out 2 W hb)
      have M3 := Lib.hid (fun W (hb : Below w.heap.size w W) => HM.out 3 W hb)
      have M1 := Lib.hid (fun W (hb : Below w.heap.size w W) => HM.out 1 W hb)
      have M0 := Lib.hid (fun W (hb : Below w.heap.size w W) => HM.out 0 W hb)
      rw [top_2 n l (by omega) (by omega)] at M2
      rw [top_3 n l (by omega) (by omega)] at M3
      rw [top_1 n l (by omega) (by omega)] at M1
      rw [top_0 n l (by omega) (by omega)] at M0
      have hC := fun W (hb : Below w.heap.size w W) => combine_any n l (.slice A l.length c) ⟨n, true⟩ (bst 2 n l) W w.heap.size (by dsimp only; omega) (bst_lt 2 n (by omega) l) (by dsimp only; rw [Nat.and_self]) hb.size (wish_move HR.out hb) (none_better n (by omega) l)
      have hsi := single_in n (by omega) l
      have HC := Lib.hid hC
      clear HM HR hl16 hC hb
      generalize bst 2 n l = r2 at *
      generalize bst 3 n l = r3 at *
      generalize bst 1 n l = r1 at *
      obtain ⟨m2, g2⟩ := r2
      obtain ⟨m3, g3⟩ := r3
      obtain ⟨m1, g1⟩ := r1
      rw [val_eq, val_eq] at HC
      dsimp only at hsi HC
      have hsi2 : (g2 = true ∧ g3 = true) ∨ (g2 = true ∧ g3 = false) ∨ (g2 = false ∧ g3 = false) := by
        cases g2
        · cases g3
          · exact .inr (.inr ⟨rfl, rfl⟩)
          · exact absurd (hsi rfl) (by simp)
        · cases g3
          · exact .inr (.inl ⟨rfl, rfl⟩)
          · exact .inl ⟨rfl, rfl⟩
      clear hsi
      go_wp2_with fail
      refine (M2.out _ hbe2).mono ?_
      rintro e w4 ⟨rfl, hb4⟩
      have hbe4 := hbe2.trans (hb4.mono hbe2.size)
      rw [errV_0]
      clear M2 hb4
      go_upto_region 8 with fail
      have k9 := Blk.new w4 25 #[.int .u8 m2, .bool g2]
      have hbe5 := hbe4.alloc hbe4.size (.cells #[.int .u8 m2, .bool g2] 25)
      generalize w4.alloc (.cells #[.int .u8 m2, .bool g2] 25) = w5 at *
      generalize w4.heap.size = p9 at *
      have e9 := k9.cells
      have l9 := k9.lt
      clear hbe4
      rcases hsi2 with ⟨rfl, rfl⟩ | ⟨rfl, rfl⟩ | ⟨rfl, rfl⟩
      all_goals
        go_wp2_with fail
        refine (HC.out _ hbe5).mono ?_
        rintro e w6 ⟨rfl, hb6⟩
        have hbe6 := hbe5.trans (hb6.mono hbe5.size)
        clear hb6
        go_wp2_with fail
        refine (M3.out _ hbe6).mono ?_
        rintro e w7 ⟨rfl, hb7⟩
        have hbe7 := hbe6.trans (hb7.mono hbe6.size)
        have hbe7' := fun (g : Bool) => hbe7.alloc hbe7.size (.cells #[.int .u8 m3, .bool g] 25)
        rw [errV_0]
        clear hb7
        go_wp2_with fail
        refine (M1.out _ (hbe7' _)).mono ?_
        rintro e w8 ⟨rfl, hb8⟩
        have hbe8 := (hbe7' _).trans (hb8.mono (hbe7' _).size)
        have hbe8' := hbe8.alloc hbe8.size (.cells #[.int .u8 m1, .bool g1] 25)
        rw [errV_0]
        clear hb8
        go_wp2_with fail
        refine (M0.out _ hbe8').mono ?_
        rintro e w9 ⟨rfl, hb9⟩
        have hbe9 := hbe8'.trans (hb9.mono hbe8'.size)
        have hbe9' := hbe9.alloc hbe9.size (.cells #[.int .u8 n, .bool true] 25)
        rw [errV_0]
        clear hb9
        go_wp2_with fail
        go_ret
        exact ⟨rfl, hbe9'⟩
end
end Go.Proofs.Yticmfflnenoplab
