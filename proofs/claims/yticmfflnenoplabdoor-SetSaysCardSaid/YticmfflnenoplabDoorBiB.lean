/- Sets of processors: Of, List, Has, Inside, and the reference's: their walks. No statement is proved here. -/
import Derived.Test.YticmfflnenoplabDoorBiA
import Derived.Test.YticmfflnenoplabDoorPopB
import Derived.Test.YticmfflnenoplabDoorAmD
import Derived.Test.YticmfflnenoplabDoorShelfT
import Derived.Shelf.Spec.TrailingZeros
namespace Go.Proofs.YticmfflnenoplabDoor
open Go.RowKit Go.Deep Pop Bi
/-- What of Go's library is laid. -/
structure LayS (w : World) : Prop where
  lay : Lay w
  tz : TabAt 0 Lib.deBruijn64tab w
  syn : ∃ tp p, w.var? Tryd.prog "strconv.ErrSyntax" = some #[.iface tp p]
  rng : ∃ tp p, w.var? Tryd.prog "strconv.ErrRange" = some #[.iface tp p]
theorem var_below {w w' : World} {s : String} {g : Nat} {v : Array Value} (hg : Tryd.prog.globalNamed s = some g) (h : w.var? Tryd.prog s = some v) (hb : Below w.heap.size w w') : w'.var? Tryd.prog s = some v := by
  unfold World.var? at h ⊢
  rw [hg] at h ⊢
  simp only [Option.bind_some] at h ⊢
  have hlt : g < w.heap.size := by
    rcases Nat.lt_or_ge g w.heap.size with h' | h'
    · exact h'
    · rw [Array.getElem?_eq_none h'] at h; cases h
  rw [hb.block _ hlt]
  exact h
theorem LayS.below {w w' : World} (h : LayS w) (hb : Below w.heap.size w w') : LayS w' := by
  refine ⟨h.lay.below hb, fun j hj => ?_, ?_, ?_⟩
  · have := h.tz j hj
    exact (hb.cell (World.block_lt_of_cell? w _ this)).trans this
  · obtain ⟨tp, p, hp⟩ := h.syn
    exact ⟨tp, p, var_below (g := 3) (by kernel_rfl) hp hb⟩
  · obtain ⟨tp, p, hp⟩ := h.rng
    exact ⟨tp, p, var_below (g := 4) (by kernel_rfl) hp hb⟩
theorem LayS.to {w w' : World} {B : Nat} (h : LayS w) (hb : Below B w w') (hB : w.heap.size ≤ B) : LayS w' := h.below (hb.mono hB)
theorem u64_bitp (m k : Nat) (hm : m < 18446744073709551616) : bits .and .u64 ((m : Int) / 2 ^ k) 1 = ((Pop.bit m k : Nat) : Int) := by
  have h1 : ((m : Int) / 2 ^ k) = ((m / 2 ^ k : Nat) : Int) := by simp
  have h2 : m / 2 ^ k < 18446744073709551616 := Nat.lt_of_le_of_lt (Nat.div_le_self _ _) hm
  rw [h1, show (1 : Int) = ((1 : Nat) : Int) from rfl, u64_and_nat _ _ h2 (by omega), nat_mask1]
  rfl
theorem shl64s (n : Nat) (h : n < 64) : IntKind.u64.wrap ((2 : Int) ^ n) = ((2 ^ n : Nat) : Int) := by
  have h3 := pow_lt h
  have h2 : (2 : Int) ^ n = ((2 ^ n : Nat) : Int) := by simp
  rw [h2, IntKind.wrap_u64]
  generalize 2 ^ n = x at *
  omega
namespace Bi
def hasF (x : Nat) (n : Int) : Bool := decide (0 ≤ n) && decide (n < 64) && inS x n.toNat
theorem hasF_at {x k : Nat} (h : k < 64) : hasF x k = inS x k := by simp [hasF, show (k : Int) < 64 by omega]
theorem hasF_out {x : Nat} {n : Int} (h : n < 0 ∨ 64 ≤ n) : hasF x n = false := by
  unfold hasF
  rcases h with h | h
  · simp [show ¬ 0 ≤ n by omega]
  · simp [show ¬ n < 64 by omega]
end Bi
set_option maxHeartbeats 1000000 in
theorem Has_any (x : Nat) (n : Int) (hx : x < 18446744073709551616) (w : World) : Calls Tryd.prog 20 #[.int .u64 x, .int .i64 n] w (RetB (hasF x n) w) := by
  by_cases h0 : n < 0
  · have HF := Lib.hid (hasF_out (x := x) (.inl h0))
    go_enter Tryd.func20, Tryd.ntmps20
    go_wp2_with fail
    go_ret
    exact ⟨by rw [HF.out]; rfl, rfl⟩
  · by_cases h1 : 64 ≤ n
    · have HF := Lib.hid (hasF_out (x := x) (.inr h1))
      go_enter Tryd.func20, Tryd.ntmps20
      go_wp2_with fail
      go_ret
      exact ⟨by rw [HF.out]; rfl, rfl⟩
    · obtain ⟨k, rfl⟩ : ∃ k : Nat, n = k := ⟨n.toNat, by omega⟩
      have hk : k < 64 := by omega
      have HF := Lib.hid (hasF_at (x := x) hk)
      have hbt := u64_bitp x k hx
      have h01 := Bi.bit_01 x k
      unfold inS at HF
      have hx0 : (0 : Int) ≤ x := by omega
      have hx1 : (x : Int) ≤ 18446744073709551615 := by omega
      have hk64 : (k : Int) < 64 := by omega
      clear h0 h1 hx
      rcases h01 with hb | hb
      · rw [hb] at hbt HF
        clear hb
        go_enter Tryd.func20, Tryd.ntmps20
        go_wp2_with fail
        go_ret
        exact ⟨by rw [HF.out]; rfl, rfl⟩
      · rw [hb] at hbt HF
        clear hb
        go_enter Tryd.func20, Tryd.ntmps20
        go_wp2_with fail
        go_ret
        exact ⟨by rw [HF.out]; rfl, rfl⟩
end Go.Proofs.YticmfflnenoplabDoor
