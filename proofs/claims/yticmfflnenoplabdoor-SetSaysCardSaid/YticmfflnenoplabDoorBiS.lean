/- Sets of processors: the reference's reading: plain, and inInt. No statement is proved here. -/
import Derived.Test.YticmfflnenoplabDoorBiR
import Derived.Test.YticmfflnenoplabDoorAmH
namespace Go.Proofs.YticmfflnenoplabDoor
open Go.RowKit Go.Deep Pop Bi Am
namespace Bi
theorem valD_lt : ∀ (a b : List UInt8) (n m : Nat), a.length = b.length → a.all isD = true → n < m → valD a n < valD b m
  | [], [], n, m, _, _, h => h
  | [], _ :: _, _, _, h, _, _ => by simp at h
  | _ :: _, [], _, _, h, _, _ => by simp at h
  | c :: a, d :: b, n, m, hl, ha, h => by
    simp only [List.all_cons, Bool.and_eq_true] at ha
    have := isD_le ha.1
    exact valD_lt a b _ _ (by simpa using hl) ha.2 (by omega)
theorem less_val : ∀ (a b : List UInt8) (n : Nat), a.length = b.length → a.all isD = true → b.all isD = true → (Op.bytesLess a b = true ↔ valD a n < valD b n)
  | [], [], n, _, _, _ => by simp [Op.bytesLess]
  | [], _ :: _, _, h, _, _ => by simp at h
  | _ :: _, [], _, h, _, _ => by simp at h
  | c :: a, d :: b, n, hl, ha, hb => by
    simp only [List.all_cons, Bool.and_eq_true] at ha hb
    have hl' : a.length = b.length := by simpa using hl
    have h1 := isD_le ha.1
    have h2 := isD_le hb.1
    simp only [Op.bytesLess, valD]
    rcases Nat.lt_trichotomy c.toNat d.toNat with h | h | h
    · have hcd : c < d := h
      have := valD_lt a b (10 * n + (c.toNat - 48)) (10 * n + (d.toNat - 48)) hl' ha.2 (by omega)
      simp [hcd, this]
    · have hcd : c = d := UInt8.toNat_inj.1 h
      subst hcd
      have := less_val a b (10 * n + (c.toNat - 48)) hl' ha.2 hb.2
      simp [this, show ¬ c < c from fun h => Nat.lt_irrefl _ h]
    · have hcd : ¬ c < d := fun h' => by have : c.toNat < d.toNat := h'; omega
      have hne : ¬ c = d := fun e => by subst e; omega
      have := valD_lt b a (10 * n + (d.toNat - 48)) (10 * n + (c.toNat - 48)) hl'.symm hb.2 (by omega)
      have e1 : decide (c < d) = false := decide_eq_false hcd
      have e2 : (c == d) = false := by simp [hne]
      rw [e1, e2, Bool.false_and, Bool.or_false]
      exact ⟨fun h => (Bool.false_ne_true h).elim, fun h => absurd h (by omega)⟩
theorem less_num {a b : List UInt8} (hl : a.length = b.length) (ha : okD a = true) (hb : okD b = true) : Op.bytesLess a b = decide (num a < num b) := by
  rw [Bool.eq_iff_iff, decide_eq_true_eq]
  exact less_val a b 0 hl (okD_all ha) (okD_all hb)
theorem num_below {a : List UInt8} (ha : a.all isD = true) : num a < 10 ^ a.length := by
  have key : ∀ (l : List UInt8) (n : Nat), l.all isD = true → valD l n < (n + 1) * 10 ^ l.length := by
    intro l
    induction l with
    | nil => intro n _; simp [valD]
    | cons c l ih =>
      intro n h
      simp only [List.all_cons, Bool.and_eq_true] at h
      have h1 := isD_le h.1
      have h2 := ih (10 * n + (c.toNat - 48)) h.2
      simp only [valD, List.length_cons]
      refine Nat.lt_of_lt_of_le h2 ?_
      rw [Nat.pow_succ, Nat.mul_comm (10 ^ l.length) 10, ← Nat.mul_assoc]
      exact Nat.mul_le_mul_right _ (by omega)
  have := key a 0 ha
  simpa [num] using this
theorem num_above {a : List UInt8} (ha : okD a = true) (h : 1 < a.length) : 10 ^ (a.length - 1) ≤ num a := by
  have key : ∀ (l : List UInt8) (n : Nat), n * 10 ^ l.length ≤ valD l n := by
    intro l
    induction l with
    | nil => intro n; simp [valD]
    | cons c l ih =>
      intro n
      have h2 := ih (10 * n + (c.toNat - 48))
      simp only [valD, List.length_cons]
      refine Nat.le_trans ?_ h2
      rw [Nat.pow_succ, Nat.mul_comm (10 ^ l.length) 10, ← Nat.mul_assoc]
      exact Nat.mul_le_mul_right _ (by omega)
  obtain ⟨c, r, rfl, hc, hz⟩ := okD_cons ha
  have hr : r ≠ [] := by intro e; subst e; simp at h
  have hc2 := isD_le hc
  have hc3 : c.toNat ≠ 48 := fun e => hz hr (UInt8.toNat_inj.1 e)
  have := key r (10 * 0 + (c.toNat - 48))
  have e : num (c :: r) = valD r (10 * 0 + (c.toNat - 48)) := rfl
  rw [e]
  simp only [List.length_cons, Nat.add_sub_cancel]
  refine Nat.le_trans ?_ this
  have : 1 * 10 ^ r.length ≤ (10 * 0 + (c.toNat - 48)) * 10 ^ r.length := Nat.mul_le_mul_right _ (by omega)
  omega
theorem num_longer {a b : List UInt8} (ha : okD a = true) (hb : okD b = true) (h : a.length < b.length) : num a < num b := by
  have h0 : 0 < a.length := by obtain ⟨c, r, rfl, _⟩ := okD_cons ha; simp
  have h1 := num_below (okD_all ha)
  have h2 := num_above hb (by omega)
  have : 10 ^ a.length ≤ 10 ^ (b.length - 1) := Nat.pow_le_pow_right (by omega) (by omega)
  omega
def big : List UInt8 := [57, 50, 50, 51, 51, 55, 50, 48, 51, 54, 56, 53, 52, 55, 55, 53, 56, 48, 55]
theorem big_ok : okD big = true ∧ num big = 9223372036854775807 ∧ big.length = 19 := by decide
/-- Is a number's text within an int? -/
def intB (a : List UInt8) : Bool := decide (a.length < 19) || (decide (a.length = 19) && (Op.bytesLess a big || a == big))
theorem intB_num {a : List UInt8} (ha : okD a = true) : intB a = numB a := by
  obtain ⟨b1, b2, b3⟩ := big_ok
  rw [Bool.eq_iff_iff]
  simp only [intB, numB, ha, Bool.or_eq_true, Bool.and_eq_true, decide_eq_true_eq, true_and]
  rcases Nat.lt_trichotomy a.length 19 with h | h | h
  · have := num_longer ha b1 (by omega)
    simp [h]
    omega
  · have := less_num (by omega : a.length = big.length) ha b1
    rw [this, b2]
    simp only [h, Nat.lt_irrefl, false_or, true_and, decide_eq_true_eq, beq_iff_eq]
    constructor
    · rintro (h1 | rfl)
      · omega
      · omega
    · intro h1
      by_cases h2 : num a < 9223372036854775807
      · exact .inl h2
      · refine .inr ?_
        rw [← dec_num _ a rfl ha, ← dec_num _ big rfl b1]
        congr 1
        omega
  · have := num_longer b1 ha (by omega)
    constructor
    · rintro (h1 | h1)
      · omega
      · omega
    · intro h1; omega
/-- Does the second number come ahead of the first one? -/
def aheadB (a b : List UInt8) : Bool := decide (b.length < a.length) || (decide (a.length = b.length) && Op.bytesLess b a)
theorem ahead_num {a b : List UInt8} (ha : okD a = true) (hb : okD b = true) : aheadB a b = decide (num b < num a) := by
  rw [Bool.eq_iff_iff]
  simp only [aheadB, Bool.or_eq_true, Bool.and_eq_true, decide_eq_true_eq]
  rcases Nat.lt_trichotomy a.length b.length with h | h | h
  · have := num_longer ha hb h
    omega
  · rw [less_num h.symm hb ha]
    simp [h]
  · have := num_longer hb ha h
    omega
end Bi
set_option maxRecDepth 100000 in
set_option maxHeartbeats 2000000 in
theorem inInt_any (s : ByteArray) (hs : s.size ≤ 1000) (w : World) : Calls Tryd.prog 40 #[.string s] w (fun e w' => e = .returned (.bool (intB s.data.toList)) ∧ w' = w) := by
  have hz : s.data.toList.length = s.size := rfl
  by_cases h : (s.size : Int) < 19
  · have HI : Hid (intB s.data.toList = true) := Lib.hid (by unfold intB; rw [hz, decide_eq_true (by omega)]; rfl)
    go_enter Tryd.func40, Tryd.ntmps40
    go_wp2_with fail
    go_ret
    exact ⟨by rw [HI.out]; rfl, rfl⟩
  by_cases h19 : s.size = 19
  · have HI : Hid (intB s.data.toList = (Op.bytesLess s.toList big || s.toList == big)) := Lib.hid (by unfold intB; rw [hz, decide_eq_false (by omega), decide_eq_true h19, data_list]; simp)
    go_enter Tryd.func40, Tryd.ntmps40
    go_wp2_with fail
    go_ret
    exact ⟨by rw [HI.out]; rfl, rfl⟩
  · have HI : Hid (intB s.data.toList = false) := Lib.hid (by unfold intB; rw [hz, decide_eq_false (by omega), decide_eq_false h19]; rfl)
    go_enter Tryd.func40, Tryd.ntmps40
    go_wp2_with fail
    go_ret
    exact ⟨by rw [HI.out]; rfl, rfl⟩
end Go.Proofs.YticmfflnenoplabDoor
