/- Masks and what lies on their nodes: hints.Nodes, hints.over and the reference's NodesOf, on. -/
import Derived.Test.YticmfflnenoplaaBase
import Derived.Test.YticmfflnenoplaaShelf
import Derived.Laws.BitsAllLaws
namespace Go.Proofs.Yticmfflnenoplaa
open Go.RowKit

namespace Mk
/-- Bit k of m. -/
def bt (m k : Nat) : Nat := m / 2 ^ k % 2
structure A4 where
  a0 : Int
  a1 : Int
  a2 : Int
  a3 : Int
def A4.val (l : A4) : Value := .agg #[.int .i64 l.a0, .int .i64 l.a1, .int .i64 l.a2, .int .i64 l.a3]
def A4.get (l : A4) : Nat → Int
  | 0 => l.a0
  | 1 => l.a1
  | 2 => l.a2
  | _ => l.a3
def psum (m : Nat) (l : A4) : Nat → Int
  | 0 => 0
  | k + 1 => psum m l k + (if bt m k = 1 then l.get k else 0)
/-- How many there are on the nodes of a mask. -/
def over (m : Nat) (l : A4) : Int := psum m l 4
def nsum (m : Nat) : Nat → Nat
  | 0 => 0
  | k + 1 => nsum m k + bt m k
/-- How many nodes a mask has. -/
def nodes (m : Nat) : Nat := nsum m 8
def A4.Small (l : A4) : Prop := (-1000000 ≤ l.a0 ∧ l.a0 ≤ 1000000) ∧ (-1000000 ≤ l.a1 ∧ l.a1 ≤ 1000000) ∧ (-1000000 ≤ l.a2 ∧ l.a2 ≤ 1000000) ∧ (-1000000 ≤ l.a3 ∧ l.a3 ≤ 1000000)
theorem bt_01 (m k : Nat) : bt m k = 0 ∨ bt m k = 1 := by unfold bt; omega
theorem u8_bit (m k : Nat) (hm : m < 256) : bits .and .u8 ((m : Int) / 2 ^ k) 1 = ((bt m k : Nat) : Int) := by
  have h1 : ((m : Int) / 2 ^ k) = ((m / 2 ^ k : Nat) : Int) := by simp
  have h2 : m / 2 ^ k < 256 := Nat.lt_of_le_of_lt (Nat.div_le_self _ _) hm
  rw [h1, show (1 : Int) = ((1 : Nat) : Int) from rfl, u8_and_nat _ _ h2 (by omega), nat_mask1]
  rfl
theorem get_small {l : A4} (h : l.Small) (k : Nat) : -1000000 ≤ l.get k ∧ l.get k ≤ 1000000 := by
  obtain ⟨h0, h1, h2, h3⟩ := h
  unfold A4.get
  split <;> assumption
theorem psum_small {l : A4} (h : l.Small) (m k : Nat) (hk : k ≤ 4) : -(1000000 * (k : Int)) ≤ psum m l k ∧ psum m l k ≤ 1000000 * (k : Int) := by
  induction k with
  | zero => simp [psum]
  | succ k ih =>
    have := ih (by omega)
    have hg := get_small h k
    simp only [psum]
    split <;> omega
theorem nsum_le (m k : Nat) : nsum m k ≤ k := by
  induction k with
  | zero => simp [nsum]
  | succ k ih =>
    have := bt_01 m k
    simp only [nsum]
    omega
theorem ones_nodes : ∀ m : Fin 256, Lib.onesCount m.val = nodes m.val := by decide +kernel
end Mk
open Mk

theorem index4 (l : A4) (k : Nat) (hk : k < 4) (w : World) : (Instr.index 75 l.val (.int .i64 k)).run Try.prog w = .ok (.int .i64 (l.get k)) w := by
  obtain ⟨a, b, c, d⟩ := l
  rcases (show k = 0 ∨ k = 1 ∨ k = 2 ∨ k = 3 by omega) with rfl | rfl | rfl | rfl <;> kernel_rfl

theorem nodes_any (m : Nat) (hm : m < 256) (w : World) : Calls Try.prog 53 #[.int .u8 m] w fun e w' => e = .returned (.int .i64 (nodes m)) ∧ w = w' := by
  go_enter Try.func53, Try.ntmps53
  go_wp2_with fail
  refine (Try.bits_OnesCount8 m _ (by omega) (by omega)).mono ?_
  rintro e w' ⟨rfl, rfl⟩
  have hn := ones_nodes ⟨m, hm⟩
  simp only at hn
  rw [Int.toNat_natCast, hn]
  go_wp2_with fail
  go_ret
  exact ⟨rfl, rfl⟩

set_option maxHeartbeats 1000000 in
theorem over_any (m : Nat) (hm : m < 256) (l : A4) (hl : l.Small) (w : World) :
    Calls Try.prog 119 #[.int .u8 m, l.val] w fun e w' => e = .returned (.int .i64 (over m l)) ∧ Below w.heap.size w w' := by
  have hidx := fun k hk w => index4 l k hk w
  obtain ⟨a0, a1, a2, a3⟩ := l
  unfold A4.val at hidx
  unfold A4.val
  dsimp only at hidx
  dsimp only
  go_enter Try.func119, Try.ntmps119
  go_wp2_with fail
  go_loop [5, 9] (fun s i => ∃ k : Nat, i = .int .i64 k ∧ k ≤ 4 ∧ s = .int .i64 (psum m ⟨a0, a1, a2, a3⟩ k)) (fun _ i => 4 - (intOf i).toNat)
  case atStart => exact ⟨0, rfl, by omega, rfl⟩
  case round =>
    obtain ⟨k, rfl, hk, rfl⟩ := hrel
    by_cases hlt : k < 4
    · have hx := hidx k hlt
      have hb := u8_bit m k hm
      have hp := psum_small hl m k hk
      have hg := get_small hl k
      have hs := psum_small hl m (k + 1) hlt
      have hnx := Lib.hid (show psum m ⟨a0, a1, a2, a3⟩ (k + 1) = psum m ⟨a0, a1, a2, a3⟩ k + (if bt m k = 1 then A4.get ⟨a0, a1, a2, a3⟩ k else 0) from rfl)
      clear hidx
      generalize A4.get ⟨a0, a1, a2, a3⟩ k = g at *
      generalize psum m ⟨a0, a1, a2, a3⟩ k = p at *
      rcases bt_01 m k with hz | hz
      · rw [hz] at hb hnx
        clear hz hs
        go_wp2_with fail
        go_round
        case rel => exact ⟨k + 1, by go_num, by omega, by rw [hnx.out]; simp⟩
        case measure => simp [intOf]; omega
      · rw [hz] at hb hnx
        clear hz hs
        go_wp2_with fail
        go_round
        case rel => exact ⟨k + 1, by go_num, by omega, by rw [hnx.out]; simp⟩
        case measure => simp [intOf]; omega
    · obtain rfl : k = 4 := by omega
      go_wp2_with fail
      go_ret
      exact ⟨rfl, (Below.refl _ _).alloc (Nat.le_refl _) _⟩

set_option maxHeartbeats 1000000 in
theorem on_any (m : Nat) (hm : m < 256) (l : A4) (hl : l.Small) (w : World) :
    Calls Try.prog 120 #[.int .u8 m, l.val] w fun e w' => e = .returned (.int .i64 (over m l)) ∧ Below w.heap.size w w' := by
  obtain ⟨a0, a1, a2, a3⟩ := l
  unfold A4.val
  dsimp only
  go_enter Try.func120, Try.ntmps120
  go_wp2_with fail
  have hblk := (Blk.new w 75 #[.int .i64 a0, .int .i64 a1, .int .i64 a2, .int .i64 a3])
  go_loop [5, 6] (fun s i => ∃ k : Nat, i = .int .i64 k ∧ k ≤ 4 ∧ s = .int .i64 (psum m ⟨a0, a1, a2, a3⟩ k)) (fun _ i => 4 - (intOf i).toNat)
  case atStart => exact ⟨0, rfl, by omega, rfl⟩
  case round =>
    obtain ⟨k, rfl, hk, rfl⟩ := hrel
    by_cases hlt : k < 4
    · have hb := u8_bit m k hm
      have hp := psum_small hl m k hk
      have hg := get_small hl k
      have hcell : (w.alloc (.cells #[.int .i64 a0, .int .i64 a1, .int .i64 a2, .int .i64 a3] 75)).cell? ⟨w.heap.size, k, none⟩ = some (.int .i64 (A4.get ⟨a0, a1, a2, a3⟩ k)) := by
        rw [hblk.cell k]
        rcases (show k = 0 ∨ k = 1 ∨ k = 2 ∨ k = 3 by omega) with rfl | rfl | rfl | rfl <;> rfl
      have hnx := Lib.hid (show psum m ⟨a0, a1, a2, a3⟩ (k + 1) = psum m ⟨a0, a1, a2, a3⟩ k + (if bt m k = 1 then A4.get ⟨a0, a1, a2, a3⟩ k else 0) from rfl)
      clear hblk
      generalize A4.get ⟨a0, a1, a2, a3⟩ k = g at *
      generalize psum m ⟨a0, a1, a2, a3⟩ k = p at *
      rcases bt_01 m k with hz | hz
      · rw [hz] at hb hnx
        clear hz
        go_wp2_with fail
        go_round
        case rel => exact ⟨k + 1, by go_num, by omega, by rw [hnx.out]; simp⟩
        case measure => simp [intOf]; omega
      · rw [hz] at hb hnx
        clear hz
        go_wp2_with fail
        go_round
        case rel => exact ⟨k + 1, by go_num, by omega, by rw [hnx.out]; simp⟩
        case measure => simp [intOf]; omega
    · obtain rfl : k = 4 := by omega
      go_wp2_with fail
      go_ret
      exact ⟨rfl, (Below.refl _ _).alloc (Nat.le_refl _) _⟩

set_option maxHeartbeats 1000000 in
theorem nodesOf_any (m : Nat) (hm : m < 256) (w : World) : Calls Try.prog 54 #[.int .u8 m] w fun e w' => e = .returned (.int .i64 (nodes m)) ∧ w = w' := by
  go_enter Try.func54, Try.ntmps54
  go_wp2_with fail
  go_loop [3, 4] (fun s i => ∃ k : Nat, i = .int .i64 k ∧ k ≤ 8 ∧ s = .int .i64 (nsum m k)) (fun _ i => 8 - (intOf i).toNat)
  case atStart => exact ⟨0, rfl, by omega, rfl⟩
  case round =>
    obtain ⟨k, rfl, hk, rfl⟩ := hrel
    by_cases hlt : k < 8
    · have hb := u8_bit m k hm
      have hn := nsum_le m k
      have hz := bt_01 m k
      have hz2 : bt m k ≤ 1 := by omega
      have hnx := Lib.hid (show nsum m (k + 1) = nsum m k + bt m k from rfl)
      clear hz
      generalize nsum m k = p at *
      generalize bt m k = q at *
      go_wp2_with fail
      go_round
      case rel => exact ⟨k + 1, by go_num, by omega, by rw [hnx.out]; go_num⟩
      case measure => simp [intOf]; omega
    · obtain rfl : k = 8 := by omega
      go_wp2_with fail
      go_ret
      exact ⟨rfl, rfl⟩
end Go.Proofs.Yticmfflnenoplaa
