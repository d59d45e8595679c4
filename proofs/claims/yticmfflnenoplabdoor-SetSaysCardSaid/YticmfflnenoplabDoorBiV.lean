/- Sets of processors: Inside, the reference's Count. No statement is proved here. -/
import Derived.Test.YticmfflnenoplabDoorBiU
namespace Go.Proofs.YticmfflnenoplabDoor
open Go.RowKit Go.Deep Pop Bi Am
namespace Bi
theorem inside_bits {a b : Nat} (ha : a < 18446744073709551616) (hb : b < 18446744073709551616) : (a &&& (18446744073709551615 - b) = 0) ↔ (a &&& b = a) := by
  have hn : ∀ i, (18446744073709551615 - b).testBit i = (decide (i < 64) && !b.testBit i) := fun i => by
    rw [show 18446744073709551615 - b = 2 ^ 64 - (b + 1) by omega]
    exact Nat.testBit_two_pow_sub_succ (by simpa using hb) i
  have hah : ∀ i, 64 ≤ i → a.testBit i = false := fun i hi => Nat.testBit_lt_two_pow (Nat.lt_of_lt_of_le ha (by
    have : 2 ^ 64 ≤ 2 ^ i := Nat.pow_le_pow_right (by omega) hi
    simpa using this))
  constructor
  · intro h
    apply Nat.eq_of_testBit_eq
    intro i
    have h2 := congrArg (fun x => x.testBit i) h
    simp only [Nat.testBit_and, hn, Nat.zero_testBit] at h2
    rw [Nat.testBit_and]
    cases h3 : a.testBit i
    · rfl
    · rw [h3] at h2
      by_cases h4 : i < 64
      · simpa [h4] using h2
      · rw [hah i (by omega)] at h3; cases h3
  · intro h
    apply Nat.eq_of_testBit_eq
    intro i
    have h2 := congrArg (fun x => x.testBit i) h
    simp only [Nat.testBit_and] at h2
    rw [Nat.testBit_and, hn, Nat.zero_testBit]
    cases h3 : a.testBit i
    · rfl
    · rw [h3] at h2
      have h4 : b.testBit i = true := by simpa using h2
      rw [h4]
      simp
def insF (a b : Nat) : Bool := decide (a &&& b = a)
end Bi
set_option maxRecDepth 100000 in
set_option maxHeartbeats 2000000 in
theorem Inside_any (a b : Nat) (ha : a < 18446744073709551616) (hb : b < 18446744073709551616) (w : World) : Calls Tryd.prog 15 #[.int .u64 a, .int .u64 b] w (RetB (insF a b) w) := by
  have hq := u64_andNot_nat a b ha hb
  have HF : Hid (insF a b = (((a &&& (18446744073709551615 - b) : Nat) : Int) == 0)) := Lib.hid (by
    rw [Bool.eq_iff_iff, beq_iff_eq, insF, decide_eq_true_eq, ← inside_bits ha hb]
    omega)
  generalize (a &&& (18446744073709551615 - b) : Nat) = q at *
  go_enter Tryd.func15, Tryd.ntmps15
  go_wp2_with fail
  go_ret
  exact ⟨by rw [HF.out]; rfl, rfl⟩
set_option maxRecDepth 100000 in
set_option maxHeartbeats 2000000 in
theorem RCount_any (x : Nat) (hx : x < 18446744073709551616) (w : World) : Calls Tryd.prog 14 #[.int .u64 x] w (fun e w' => e = .returned (.int .i64 ((listF x 64).length : Int)) ∧ Below w.heap.size w w') := by
  have HR := Lib.hid (RList_any x hx w)
  go_enter Tryd.func14, Tryd.ntmps14
  go_wp2_with fail
  refine HR.out.mono ?_
  intro e w1 hP
  have hP2 : RetL (listF x 64) w e w1 := hP
  obtain ⟨A, c, rfl, _, hb1⟩ := hP2
  clear hP HR
  obtain ⟨n, hn⟩ : ∃ n, n = (listF x 64).length := ⟨_, rfl⟩
  rw [← hn]
  go_wp2_with fail
  go_ret
  first | exact ⟨rfl, hb1⟩ | exact ⟨by rw [← hn]; rfl, hb1⟩
end Go.Proofs.YticmfflnenoplabDoor
