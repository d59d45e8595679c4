/- ostleryref: Core, Socket, On, Nodes, CountOn: their walks. -/
import Derived.Test.YticmfflnenoplabTopoD
namespace Go.Proofs.Yticmfflnenoplab
open Go.RowKit Tp
def RetW (v : Value) (w : World) (e : Ending) (w' : World) : Prop := e = .returned v ∧ w = w'
section
attribute [local irreducible] wh
end
section
attribute [local irreducible] nods
end
theorem u64_bit (m k : Nat) (hm : m < 18446744073709551616) : bits .and .u64 ((m : Int) / 2 ^ k) 1 = ((Pop.bit m k : Nat) : Int) := by
  have h1 : ((m : Int) / 2 ^ k) = ((m / 2 ^ k : Nat) : Int) := by simp
  have h2 : m / 2 ^ k < 18446744073709551616 := Nat.lt_of_le_of_lt (Nat.div_le_self _ _) hm
  rw [h1, show (1 : Int) = ((1 : Nat) : Int) from rfl, u64_and_nat _ _ h2 (by omega), nat_mask1]
  rfl
/-- The counts on nodes of the first k. -/
def cntA (l : List Cpu) (s k : Nat) : Array Value := #[.int .i64 (cntOn l s 0 k), .int .i64 (cntOn l s 1 k), .int .i64 (cntOn l s 2 k), .int .i64 (cntOn l s 3 k)]
theorem cntA_zero (l : List Cpu) (s : Nat) : cntA l s 0 = #[.int .i64 0, .int .i64 0, .int .i64 0, .int .i64 0] := rfl
theorem cntA_at (l : List Cpu) (s k q : Nat) (hq : q < 4) : (cntA l s k)[q]? = some (.int .i64 (cntOn l s q k)) := by
  rcases (show q = 0 ∨ q = 1 ∨ q = 2 ∨ q = 3 by omega) with rfl | rfl | rfl | rfl <;> rfl
theorem cntA_off (l : List Cpu) (s k : Nat) (h : k < l.length) (hb : Pop.bit s k = 0) : cntA l s (k + 1) = cntA l s k := by
  have h0 : s.testBit k = false := by
    have := bit_of s k
    rw [hb] at this
    cases ht : s.testBit k
    · rfl
    · rw [ht] at this; simp at this
  unfold cntA
  simp only [cntOn_next l s _ k h, h0, Bool.false_and, Bool.false_eq_true, if_false, Nat.add_zero]
theorem cntA_on (l : List Cpu) (s k q : Nat) (h : k < l.length) (hb : Pop.bit s k = 1) (hq : q < 4) (hn : l[k].node = (q : Int)) : (cntA l s k).setIfInBounds q (.int .i64 ((cntOn l s q k : Nat) + 1)) = cntA l s (k + 1) := by
  have h0 : s.testBit k = true := by
    have := bit_of s k
    rw [hb] at this
    cases ht : s.testBit k
    · rw [ht] at this; simp at this
    · rfl
  have hz : ∀ j : Nat, cntOn l s j (k + 1) = cntOn l s j k + if q = j then 1 else 0 := by
    intro j
    rw [cntOn_next l s j k h, h0, hn]
    by_cases he : q = j
    · simp [he]
    · have : ¬ ((q : Int) = (j : Int)) := by omega
      simp [he, this]
  unfold cntA
  rw [hz 0, hz 1, hz 2, hz 3]
  rcases (show q = 0 ∨ q = 1 ∨ q = 2 ∨ q = 3 by omega) with rfl | rfl | rfl | rfl <;> simp
section
attribute [local irreducible] cntOn cntA
end
end Go.Proofs.Yticmfflnenoplab
