/- Amounts: units, Bytes, BytesText: their walks. -/
import Derived.Test.YticmfflnenoplacDoorAmE
import Derived.Test.YticmfflnenoplacDoorFlo
namespace Go.Proofs.YticmfflnenoplacDoor
open Go.RowKit Am
def unitCells : Array Value := #[.string ⟨#[84, 105]⟩, .int .i64 1099511627776, .string ⟨#[71, 105]⟩, .int .i64 1073741824, .string ⟨#[77, 105]⟩, .int .i64 1048576, .string ⟨#[75, 105]⟩, .int .i64 1024, .string ⟨#[]⟩, .int .i64 1]
theorem unit_at (k : Nat) (hk : k < 5) : ∃ (nm : List UInt8) (sz : Nat), unitCells[k * 2]? = some (.string ⟨nm.toArray⟩) ∧ unitCells[k * 2 + 1]? = some (.int .i64 sz) ∧ 1 ≤ sz ∧ sz ≤ 1099511627776 ∧ nm.length ≤ 2 ∧
    (∀ s, bytesU s (units.drop k) = if Lib.hasSuffix s nm then byteP (Lib.trimSuffix s nm) sz else bytesU s (units.drop (k + 1))) ∧ (∀ n, textU n (units.drop k) = if 0 < n ∧ n % sz = 0 then Lib.itoa ((n / sz : Nat) : Int) ++ nm else textU n (units.drop (k + 1))) := by
  rcases (show k = 0 ∨ k = 1 ∨ k = 2 ∨ k = 3 ∨ k = 4 by omega) with rfl | rfl | rfl | rfl | rfl
  · exact ⟨[84, 105], 1099511627776, rfl, rfl, by omega, by omega, by simp, fun _ => rfl, fun _ => rfl⟩
  · exact ⟨[71, 105], 1073741824, rfl, rfl, by omega, by omega, by simp, fun _ => rfl, fun _ => rfl⟩
  · exact ⟨[77, 105], 1048576, rfl, rfl, by omega, by omega, by simp, fun _ => rfl, fun _ => rfl⟩
  · exact ⟨[75, 105], 1024, rfl, rfl, by omega, by omega, by simp, fun _ => rfl, fun _ => rfl⟩
  · exact ⟨[], 1, rfl, rfl, by omega, by omega, by simp, fun _ => rfl, fun _ => rfl⟩
theorem blk_at {w : World} {b : Nat} {T : TypeId} {arr : Array Value} (h : Blk w b T arr) (j : Nat) (v : Value) (hv : arr[j]? = some v) : w.cell? ⟨b, j, none⟩ = some v := by
  rw [← hv]
  exact h.cell j
theorem byteP_no {t : List UInt8} {size : Nat} {n : Nat} (h : digP t 16 = (n, false)) : byteP t size = (0, 4) := by simp [byteP, h]
theorem byteP_big {t : List UInt8} {size : Nat} {n : Nat} (h : digP t 16 = (n, true)) (hb : n > 1125899906842624 / size) : byteP t size = (0, 1) := by simp [byteP, h, hb]
theorem byteP_ok {t : List UInt8} {size : Nat} {n : Nat} (h : digP t 16 = (n, true)) (hb : ¬ n > 1125899906842624 / size) : byteP t size = ((n : Int) * size, 0) := by simp [byteP, h, hb]
theorem quo_max (size : Nat) : (1125899906842624 : Int).tdiv size = ((1125899906842624 / size : Nat) : Int) := by
  rw [Int.tdiv_eq_ediv_of_nonneg (by omega)]
  rfl
section
attribute [local irreducible] digP bytesU textU byteP Lib.trimSuffix Lib.hasSuffix unitCells units
theorem bytesT_at (n : Nat) : bytesT n = textU n (units.drop 0) := by simp [bytesT]
end
end Go.Proofs.YticmfflnenoplacDoor
