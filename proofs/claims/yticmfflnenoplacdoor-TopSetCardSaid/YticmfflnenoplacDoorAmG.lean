/- Amounts: ostleryref.Decimal, digits: their walks. -/
import Derived.Test.YticmfflnenoplacDoorAmB
import Derived.Test.YticmfflnenoplacDoorAmF
import Derived.Test.YticmfflnenoplacDoorFloB
import Derived.Lib.SlBytesRow
namespace Go.Proofs.YticmfflnenoplacDoor
open Go.RowKit Am
def dg8 (k : Nat) : UInt8 := UInt8.ofNat (48 + k)
theorem dec_lo (n : Nat) (h : n < 10) : Lib.decDigits n = [dg8 n] := by rw [Lib.decDigits, dif_pos h]; rfl
theorem dec_hi (n : Nat) (h : ¬ n < 10) : Lib.decDigits n = Lib.decDigits (n / 10) ++ [dg8 (n % 10)] := by rw [Lib.decDigits, dif_neg h]; rfl
theorem ofNat48 (k : Nat) (h : k < 10) : (dg8 k).toNat = 48 + k := by
  unfold dg8
  rw [UInt8.toNat_ofNat']
  omega
theorem conv_byte (v : World) (b k : Nat) (h : k < 10) (hc : v.cell? ⟨b, 0, none⟩ = some (.int .u8 (48 + (k : Int)))) : (convert 46 9 (.slice (some ⟨b, 0, none⟩) 1 1)).run Tryd.prog v = .ok (.string ⟨#[dg8 k]⟩) v := by
  refine Lib.run_convert_whole v 46 5 9 Tryd.underlying46 Tryd.underlying5 Tryd.underlying9 b 0 ⟨#[dg8 k]⟩ ?_ 1
  intro i hi
  obtain rfl : i = 0 := by simp [ByteArray.size] at hi; exact hi
  rw [Nat.add_zero, hc]
  congr 2
  show _ = ((dg8 k).toNat : Int)
  rw [ofNat48 k h]
  omega
section
attribute [local irreducible] dg8
end
end Go.Proofs.YticmfflnenoplacDoor
