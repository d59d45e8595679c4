/- hints.Merge as a whole; the closed fact on wishes. -/
import Derived.Test.YticmfflnenoplaaMergeE
import Derived.Test.YticmfflnenoplaaHintsE
namespace Go.Proofs.Yticmfflnenoplaa
open Go.RowKit Mk

theorem Merge_all (policy : Int) (n : Nat) (l : List Wi) (A : Option Addr) (c : Nat) (S : Nat → Prop) (w : World) (hS : ∀ b, S b → b < w.heap.size) (hR : RS w S 2 (RWish w S) [.slice A l.length c] l) (hl16 : ∀ x, x ∈ l → x.hints.length ≤ 16) :
    Calls Try.prog 56 #[.int .i64 policy, .int .u8 n, .slice A l.length c] w (RetPlace (MergeP policy n l) w) := by
  by_cases h : policy < 0 ∨ 3 < policy ∨ n = 0 ∨ 16 ≤ n
  · exact Merge_bound policy n l A l.length c w h
  · by_cases hl : 4 < l.length
    · exact Merge_many policy n l A c w h hl
    · by_cases hp : policy = 0
      · subst hp
        exact Merge_any0 n l A c w h hl
      · exact Merge_rest policy n l A c S w hS hR hl16 h hl hp

def w0 : List Hint := [⟨2, true⟩, ⟨3, false⟩]
theorem hints0 : hintsOf ⟨1, 2, 0, 0⟩ ⟨2, 2, 0, 0⟩ 3 2 = w0 := by kernel_rfl
theorem merge0 : MergeP 3 3 [⟨false, w0⟩] = (⟨2, true⟩, true, 0) := by kernel_rfl
theorem w0_len : w0.length = 2 := rfl
theorem w0_lt : ∀ x, x ∈ w0 → x.mask < 256 := by
  intro x hx
  simp only [w0, List.mem_cons, List.not_mem_nil, or_false] at hx
  rcases hx with rfl | rfl <;> decide
section
attribute [local irreducible] w0 flatH hintsOf
set_option maxHeartbeats 2000000 in
theorem wishes_any (w : World) : Calls Try.prog 48 #[] w (RetBB true w) := by
  have hf := fun (W : World) => for_some ⟨1, 2, 0, 0⟩ ⟨2, 2, 0, 0⟩ (by unfold A4.Small; decide) (by unfold A4.Small; decide) 3 (by omega) 2 (by omega) W
  rw [hints0] at hf
  unfold A4.val at hf
  dsimp only at hf
  have HF := Lib.hid hf
  have HM := Lib.hid merge0
  have HLT := Lib.hid w0_lt
  have HLEN := Lib.hid w0_len
  clear hf
  go_enter Try.func48, Try.ntmps48
  go_wp2_with fail
  refine (HF.out _).mono ?_
  rintro e w1 ⟨hv, rfl, hown, hb⟩
  obtain ⟨A, c, hve, h1, h2, _⟩ := own_form hown
  subst hve
  go_upto_region 2 with fail
  have hb1 : Below w1.heap.size w1 (w1.alloc (.cells #[.bool false, .slice A w0.length c] 83)) := (Below.refl _ _).alloc (Nat.le_refl _) _
  have hown1 := own_below hown hb1
  have hbel1 := hb.trans (hb1.mono hb.size)
  have k1 := Blk.new w1 83 #[.bool false, .slice A w0.length c]
  generalize w1.alloc (.cells #[.bool false, .slice A w0.length c] 83) = w2 at *
  have e1 := k1.cells
  go_wp2_with fail
  have hb2 : Below w2.heap.size w2 (w2.alloc (.cells #[.bool false, .slice A w0.length c] 83)) := (Below.refl _ _).alloc (Nat.le_refl _) _
  have hbel2 := hbel1.trans (hb2.mono hbel1.size)
  have hm := Merge_all 3 3 [⟨false, w0⟩] (some ⟨w2.heap.size, 0, none⟩) 1 (fun q => q < (w2.alloc (.cells #[.bool false, .slice A w0.length c] 83)).heap.size) (w2.alloc (.cells #[.bool false, .slice A w0.length c] 83)) (fun _ h => h)
    (RS.blk (l := [(⟨false, w0⟩ : Wi)]) (f := fun _ => [.bool false, .slice A w0.length c]) (Blk.new w2 83 #[.bool false, .slice A w0.length c]) rfl (by simp [maxLen]) (fun _ _ => rfl) (fun x hx => by
      simp only [List.mem_singleton] at hx
      subst hx
      exact ⟨_, rfl, RS.own (f := Hint.cells) (by rw [← flatH_def]; exact own_below hown1 hb2) (fun _ _ => rfl) (fun x hx => ⟨rfl, HLT.out x hx⟩) fun g hg => ((own_below hown1 hb2).lt g hg).2⟩) (by simp))
    (fun x hx => by
      simp only [List.mem_singleton] at hx
      subst hx
      dsimp only
      rw [HLEN.out]; omega)
  rw [HM.out] at hm
  refine hm.mono ?_
  rintro e w3 ⟨rfl, hb3⟩
  have hbel3 := hbel2.trans (hb3.mono hbel2.size)
  clear hm hown hown1
  go_wp2_with fail
  have hs := fun (W : World) => same_yes 0 (by omega) W
  rw [errV_0] at hs
  refine (hs _).mono ?_
  rintro e w4 ⟨rfl, rfl⟩
  clear hs
  go_wp2_with fail
  go_ret
  exact ⟨rfl, hbel3.alloc hbel3.size _⟩
end
end Go.Proofs.Yticmfflnenoplaa
