/- TopAmount: plain laws: what may be read, how it is written. No statement is proved here. -/
import Derived.Test.YticmfflnenoplabDoorAmB
namespace Go.Proofs.YticmfflnenoplabDoor
namespace Am
open Go
/-- What a number may be that was read. -/
def Num (most : Int) (r : Int × Int) : Prop := (r.2 = 0 ∧ 0 ≤ r.1 ∧ r.1 ≤ most) ∨ r.2 = 1 ∨ r.2 = 4
theorem fin_num (n : Int) (ok : Bool) (h : ok = true → 0 ≤ n) : Num 1000000 (fin n ok) := by
  unfold fin Num
  cases ok
  · simp
  · have := h rfl
    by_cases hn : n > 1000000
    · simp [hn]
    · simp [hn]; omega
theorem bad_num (m : Int) : Num m (0, 4) := .inr (.inr rfl)
theorem milli_num (s : List UInt8) : Num 1000000 (milliP s) := by
  by_cases h : s.getLast? = some 109
  · obtain ⟨t, ht⟩ := List.getLast?_eq_some_iff.1 h
    rw [milli_m t ht]
    split
    · exact fin_num _ _ (fun _ => by omega)
    · exact bad_num _
  · by_cases hd : dot s < s.length
    · rw [milli_point h hd]
      split
      · exact fin_num _ _ (fun _ => by omega)
      · exact bad_num _
    · rw [milli_plain h hd]
      split
      · exact fin_num _ _ (fun _ => by omega)
      · exact bad_num _
theorem byteP_num (t : List UInt8) (z : Nat) (hz : 1 ≤ z) : Num 1125899906842624 (byteP t z) := by
  unfold byteP
  split
  · split
    · exact .inr (.inl rfl)
    · next h =>
      refine .inl ⟨rfl, ?_, ?_⟩
      · exact Int.mul_nonneg (by omega) (by omega)
      · have h2 : (digP t 16).1 * z ≤ 1125899906842624 := Nat.le_trans (Nat.mul_le_mul_right z (Nat.le_of_not_gt h)) (Nat.div_mul_le_self _ _)
        have := Int.ofNat_le.2 h2
        rw [Int.natCast_mul] at this
        exact this
  · exact bad_num _
theorem sizeR_pos (s : List UInt8) : 1 ≤ (sizeR s).1 := by
  unfold sizeR
  split
  · simp
  · split
    · simp
    · split
      · simp
      · split <;> simp
theorem bytes_num (s : List UInt8) : Num 1125899906842624 (bytesP s) := by
  rw [bytes_way]
  exact byteP_num _ _ (sizeR_pos s)
def mtx (n : Int) : List UInt8 × Int := if n < 0 ∨ 1000000 < n then ([], 1) else (milliT n, 0)
def btx (n : Int) : List UInt8 × Int := if n < 0 ∨ 1125899906842624 < n then ([], 1) else (bytesT n.toNat, 0)
/-- How a number is written, and read. -/
def Wr (P : List UInt8 → Int × Int) (n : Int) (r : List UInt8 × Int) : Prop := r.2 = 1 ∨ (r.2 = 0 ∧ r.1.length ≤ 20 ∧ P r.1 = (n, 0))
theorem itoa_17 (m : Nat) (h : m ≤ 1125899906842624) : (Lib.itoa (m : Int)).length ≤ 16 := by
  rw [itoa_nat]
  exact dec_len m 16 (by omega) (by omega)
theorem milliT_len (n : Int) (h0 : 0 ≤ n) (h1 : n ≤ 1000000) : (milliT n).length ≤ 20 := by
  obtain ⟨m, rfl⟩ : ∃ m : Nat, n = m := ⟨n.toNat, by omega⟩
  unfold milliT
  split
  · have := itoa_17 (m / 1000) (by omega)
    rw [show ((m : Int) / 1000) = ((m / 1000 : Nat) : Int) by omega]
    omega
  · have := itoa_17 m (by omega)
    simp
    omega
theorem textU_len (n : Nat) (h : n ≤ 1125899906842624) (l : List (List UInt8 × Nat)) (hl : ∀ u, u ∈ l → u.1.length ≤ 2) : (textU n l).length ≤ 20 := by
  induction l with
  | nil => simp [textU]
  | cons u l ih =>
    simp only [textU]
    split
    · have h1 := itoa_17 (n / u.2) (Nat.le_trans (Nat.div_le_self _ _) h)
      have h2 := hl u (by simp)
      rw [List.length_append]
      omega
    · exact ih (fun v hv => hl v (by simp [hv]))
theorem bytesT_len (n : Nat) (h : n ≤ 1125899906842624) : (bytesT n).length ≤ 20 :=
  textU_len n h units (by intro u hu; simp [units] at hu; rcases hu with rfl | rfl | rfl | rfl | rfl <;> simp)
theorem mtx_wr (n : Int) : Wr milliP n (mtx n) := by
  unfold mtx
  split
  · exact .inl rfl
  · exact .inr ⟨rfl, milliT_len n (by omega) (by omega), milli_back n (by omega) (by omega)⟩
theorem btx_wr (n : Int) : Wr bytesP n (btx n) := by
  unfold btx
  split
  · exact .inl rfl
  · refine .inr ⟨rfl, bytesT_len _ (by omega), ?_⟩
    rw [bytes_back _ (by omega)]
    congr 1
    omega
theorem mtx_in {n : Int} (h0 : 0 ≤ n) (h1 : n ≤ 1000000) : (mtx n).2 = 0 := by
  unfold mtx
  rw [if_neg (by omega)]
theorem btx_in {n : Int} (h0 : 0 ≤ n) (h1 : n ≤ 1125899906842624) : (btx n).2 = 0 := by
  unfold btx
  rw [if_neg (by omega)]
theorem mtx_1500 : mtx 1500 = ([49, 53, 48, 48, 109], 0) := by
  unfold mtx milliT
  rw [if_neg (by omega), if_neg (by decide), show (1500 : Int) = ((1500 : Nat) : Int) from rfl, itoa_nat]
  simp [Lib.decDigits]
end Am
end Go.Proofs.YticmfflnenoplabDoor
