/- Masks and what lies on their nodes: hints.Nodes, hints.over and the reference's NodesOf, on. -/
import Derived.Test.YticmfflnenoplabBase
import Derived.Test.YticmfflnenoplabShelf
import Derived.Laws.BitsAllLaws
namespace Go.Proofs.Yticmfflnenoplab
open Go.RowKit

namespace Mk
/-- Bit k of m. -/
def bt (m k : Nat) : Nat := m / 2 ^ k % 2
structure A4 where
  a0 : Int
  a1 : Int
  a2 : Int
  a3 : Int
def A4.val (l : A4) : Value := .agg #[.int .i64 l.a0, .int .i64 l.a1, .int .i64 l.a2, .int .i64 l.a3]
def A4.get (l : A4) : Nat → Int
  | 0 => l.a0
  | 1 => l.a1
  | 2 => l.a2
  | _ => l.a3
def psum (m : Nat) (l : A4) : Nat → Int
  | 0 => 0
  | k + 1 => psum m l k + (if bt m k = 1 then l.get k else 0)
/-- How many there are on the nodes of a mask. -/
def over (m : Nat) (l : A4) : Int := psum m l 4
def nsum (m : Nat) : Nat → Nat
  | 0 => 0
  | k + 1 => nsum m k + bt m k
/-- How many nodes a mask has. -/
def nodes (m : Nat) : Nat := nsum m 8
def A4.Small (l : A4) : Prop := (-1000000 ≤ l.a0 ∧ l.a0 ≤ 1000000) ∧ (-1000000 ≤ l.a1 ∧ l.a1 ≤ 1000000) ∧ (-1000000 ≤ l.a2 ∧ l.a2 ≤ 1000000) ∧ (-1000000 ≤ l.a3 ∧ l.a3 ≤ 1000000)
theorem bt_01 (m k : Nat) : bt m k = 0 ∨ bt m k = 1 := by unfold bt; omega
theorem u8_bit (m k : Nat) (hm : m < 256) : bits .and .u8 ((m : Int) / 2 ^ k) 1 = ((bt m k : Nat) : Int) := by
  have h1 : ((m : Int) / 2 ^ k) = ((m / 2 ^ k : Nat) : Int) := by simp
  have h2 : m / 2 ^ k < 256 := Nat.lt_of_le_of_lt (Nat.div_le_self _ _) hm
  rw [h1, show (1 : Int) = ((1 : Nat) : Int) from rfl, u8_and_nat _ _ h2 (by omega), nat_mask1]
  rfl
theorem get_small {l : A4} (h : l.Small) (k : Nat) : -1000000 ≤ l.get k ∧ l.get k ≤ 1000000 := by
  obtain ⟨h0, h1, h2, h3⟩ := h
  unfold A4.get
  split <;> assumption
theorem psum_small {l : A4} (h : l.Small) (m k : Nat) (hk : k ≤ 4) : -(1000000 * (k : Int)) ≤ psum m l k ∧ psum m l k ≤ 1000000 * (k : Int) := by
  induction k with
  | zero => simp [psum]
  | succ k ih =>
    have := ih (by omega)
    have hg := get_small h k
    simp only [psum]
    split <;> omega
theorem nsum_le (m k : Nat) : nsum m k ≤ k := by
  induction k with
  | zero => simp [nsum]
  | succ k ih =>
    have := bt_01 m k
    simp only [nsum]
    omega
theorem ones_nodes : ∀ m : Fin 256, Lib.onesCount m.val = nodes m.val := by decide +kernel
end Mk
open Mk

theorem nodes_any (m : Nat) (hm : m < 256) (w : World) : Calls Try.prog 33 #[.int .u8 m] w fun e w' => e = .returned (.int .i64 (nodes m)) ∧ w = w' := by
  go_enter Try.func33, Try.ntmps33
  go_wp2_with fail
  refine (Try.bits_OnesCount8 m _ (by omega) (by omega)).mono ?_
  rintro e w' ⟨rfl, rfl⟩
  have hn := ones_nodes ⟨m, hm⟩
  simp only at hn
  rw [Int.toNat_natCast, hn]
  go_wp2_with fail
  go_ret
  exact ⟨rfl, rfl⟩

end Go.Proofs.Yticmfflnenoplab
