/- topos, TopoSays: their walks. -/
import Derived.Test.YticmfflnenoplaaTopoF
namespace Go.Proofs.Yticmfflnenoplaa
open Go.RowKit Tp
theorem RS.keep {α : Type} {w w' : World} {B C : Nat} {R : List Value → α → Prop} {cs : List Value} {l : List α} (h : RS w (· < B) C R cs l) (hb : Below B w w') : RS w' (· < B) C R cs l :=
  h.move (fun b hb' => hb.block b hb') (fun _ h => h) (fun _ _ _ h => h)
def l0 : List Cpu := [⟨0, 0, 0⟩, ⟨1, 0, 1⟩]
theorem fault0 : Fault l0 = 0 := by decide +kernel
theorem all0 : wh (fun _ => true) l0 l0.length = 3 := by decide +kernel
theorem on0 : wh (fun c => onB 2 c) l0 l0.length = 2 := by decide +kernel
theorem node0 : ∀ c, c ∈ l0 → 0 ≤ c.node ∧ c.node ≤ 3 := by
  intro c hc
  simp [l0] at hc
  rcases hc with rfl | rfl <;> simp
section
attribute [local irreducible] Fault wh TopoAt
set_option maxHeartbeats 2000000 in
theorem topos_any (w : World) : Calls Try.prog 33 #[] w (RetBB true w) := by
  have hba : Below w.heap.size w (w.alloc (.cells #[.int .i64 0, .int .i64 0, .int .i64 0, .int .i64 1, .int .i64 0, .int .i64 1] 65)) := (Below.refl _ _).alloc (Nat.le_refl _) _
  have b0 := Blk.new w 65 #[.int .i64 0, .int .i64 0, .int .i64 0, .int .i64 1, .int .i64 0, .int .i64 1]
  have hrs : RS (w.alloc (.cells #[.int .i64 0, .int .i64 0, .int .i64 0, .int .i64 1, .int .i64 0, .int .i64 1] 65)) (· < w.heap.size + 1) 3 RCpu [.slice (some ⟨w.heap.size, 0, none⟩) 2 2] l0 :=
    RS.blk (l := l0) (f := Cpu.cells) (S := (· < w.heap.size + 1)) b0 rfl (by simp [l0, maxLen]) (fun x _ => rfl) (fun x hx => by
      simp [l0] at hx
      rcases hx with rfl | rfl <;> exact ⟨rfl, by decide, by decide, by decide⟩) (by show w.heap.size < w.heap.size + 1; omega)
  have HN := Lib.hid (New_any l0 _ (w.heap.size + 1) (w.alloc (.cells #[.int .i64 0, .int .i64 0, .int .i64 0, .int .i64 1, .int .i64 0, .int .i64 1] 65)) (by simp) hrs)
  have hs := fun W => same_yes 0 (by omega) W
  have HS := Lib.hid hs
  clear hrs b0 hs
  go_enter Try.func33, Try.ntmps33
  go_wp2_with fail
  refine HN.out.mono ?_
  rintro e w1 ⟨hb1, h1⟩
  rcases h1 with ⟨_, p, rfl, hp, hT⟩ | ⟨hne, _⟩
  · have hbel := hba.trans (hb1.mono (by simp))
    have hpl : p < w1.heap.size := by
      have h := hT
      unfold TopoAt at h
      obtain ⟨_, h, _⟩ := h
      exact h.lt
    have HT := Lib.hid hT
    clear hT
    go_wp2_with fail
    refine (HS.out _).mono ?_
    rintro e w2 ⟨rfl, rfl⟩
    go_wp2_with fail
    refine (All_any l0 (by decide) _ p _ (Nat.le_refl _) HT.out).mono ?_
    rintro e w2 ⟨rfl, hb2⟩
    rw [all0]
    have hT2 := HT.out.below hb2 hpl
    have HT2 := Lib.hid hT2
    have hz2 := hb2.size
    clear hT2
    go_wp2_with fail
    refine (On_any 2 (by omega) l0 (by decide) w1.heap.size p _ hz2 hpl HT2.out node0).mono ?_
    rintro e w3 ⟨rfl, hb3⟩
    rw [on0]
    go_wp2_with fail
    go_ret
    exact ⟨rfl, (hbel.trans (hb2.mono hbel.size)).trans (hb3.mono (by have := hbel.size; omega))⟩
  · exact absurd fault0 hne
end
end Go.Proofs.Yticmfflnenoplaa
