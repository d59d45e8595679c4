/- bits.OnesCount64 counts the bits of its argument: its walk. No statement is proved here. -/
import Derived.Test.YticmfflnenoplabDoorPop
import Derived.Test.YticmfflnenoplabDoorSl
import Derived.Laws.BitsAllLaws
import Derived.Laws.ShiftsVarLaws
import Derived.Laws.Bits128
import Derived.Shelf.Abstract
namespace Go.Proofs.YticmfflnenoplabDoor
open Go.RowKit Pop
theorem ones_r1 (x : Nat) (hx : x < 18446744073709551616) (hb : x1 x < 18446744073709551616) :
    IntKind.u64.wrap (bits .and .u64 ((x : Int) / 2) 6148914691236517205 + bits .and .u64 (x : Int) 6148914691236517205) = ((x1 x : Nat) : Int) := by
  rw [show ((x : Int) / 2) = ((x / 2 : Nat) : Int) from by simp, show (6148914691236517205 : Int) = ((6148914691236517205 : Nat) : Int) from rfl, u64_and_nat _ _ (by omega) (by omega), u64_and_nat _ _ hx (by omega), IntKind.wrap_u64]
  unfold x1 at *
  omega
theorem ones_r2 (x : Nat) (hx : x < 18446744073709551616) (hb : x2 x < 18446744073709551616) :
    IntKind.u64.wrap (bits .and .u64 ((x : Int) / 4) 3689348814741910323 + bits .and .u64 (x : Int) 3689348814741910323) = ((x2 x : Nat) : Int) := by
  rw [show ((x : Int) / 4) = ((x / 4 : Nat) : Int) from by simp, show (3689348814741910323 : Int) = ((3689348814741910323 : Nat) : Int) from rfl, u64_and_nat _ _ (by omega) (by omega), u64_and_nat _ _ hx (by omega), IntKind.wrap_u64]
  unfold x2 at *
  omega
theorem ones_r3 (x : Nat) (hb : x / 16 + x < 18446744073709551616) :
    bits .and .u64 (IntKind.u64.wrap ((x : Int) / 16 + (x : Int))) 1085102592571150095 = ((x3 x : Nat) : Int) := by
  rw [IntKind.wrap_u64, show (((x : Int) / 16 + (x : Int)) % 18446744073709551616) = ((x / 16 + x : Nat) : Int) from by omega, show (1085102592571150095 : Int) = ((1085102592571150095 : Nat) : Int) from rfl, u64_and_nat _ _ hb (by omega)]
  rfl
theorem ones_r4 (x k : Nat) : ((x : Int) + (x : Int) / (k : Int)) = ((x + x / k : Nat) : Int) := by simp
theorem ones_r7 (y : Nat) : bits .and .i64 (y : Int) 127 = ((y % 128 : Nat) : Int) := by
  rw [i64_and127]
  simp
def RetI (n : Int) (w : World) (e : Ending) (w' : World) : Prop := e = .returned (.int .i64 n) ∧ w = w'
section
attribute [local irreducible] x1 x2 x3
set_option maxHeartbeats 1000000 in
theorem ones_any (x : Nat) (hx : x < 18446744073709551616) (w : World) :
    Calls Tryd.prog 31 #[.int .u64 x] w (RetI (cnt x 64) w) := by
  obtain ⟨b1, b2, b3, b4, b5, b6, bc, be⟩ := fits x hx _ _ _ _ rfl rfl rfl rfl
  have h0 : (0 : Int) ≤ (x : Int) := by omega
  have h1 : (x : Int) ≤ 18446744073709551615 := by omega
  have E1 := Lib.hid (ones_r1 x hx b1)
  have E2 := Lib.hid (ones_r2 (x1 x) b1 b2)
  have E3 := Lib.hid (ones_r3 (x2 (x1 x)) bc)
  have E4 := Lib.hid (ones_r4 (x3 (x2 (x1 x))) 256)
  have E5 := Lib.hid (ones_r4 (x3 (x2 (x1 x)) + x3 (x2 (x1 x)) / 256) 65536)
  have E6 := Lib.hid (ones_r4 (x3 (x2 (x1 x)) + x3 (x2 (x1 x)) / 256 + (x3 (x2 (x1 x)) + x3 (x2 (x1 x)) / 256) / 65536) 4294967296)
  have BE := Lib.hid be
  have E7 := Lib.hid (ones_r7 (x3 (x2 (x1 x)) + x3 (x2 (x1 x)) / 256 + (x3 (x2 (x1 x)) + x3 (x2 (x1 x)) / 256) / 65536 + (x3 (x2 (x1 x)) + x3 (x2 (x1 x)) / 256 + (x3 (x2 (x1 x)) + x3 (x2 (x1 x)) / 256) / 65536) / 4294967296))
  have B3 : ((x3 (x2 (x1 x)) : Nat) : Int) ≤ 1000000000000000000 := by omega
  have B4 : ((x3 (x2 (x1 x)) + x3 (x2 (x1 x)) / 256 : Nat) : Int) ≤ 2000000000000000000 := by omega
  have B5 := b5
  have B6 := b6
  have B1 : ((x1 x : Nat) : Int) ≤ 18446744073709551615 := by omega
  have B2 : ((x2 (x1 x) : Nat) : Int) ≤ 18446744073709551615 := by omega
  generalize x1 x = y1 at *
  generalize x2 y1 = y2 at *
  generalize x3 y2 = y3 at *
  generalize y3 + y3 / 256 = y4 at *
  generalize y4 + y4 / 65536 = y5 at *
  generalize y5 + y5 / 4294967296 = y6 at *
  clear hx b1 b2 bc be
  go_enter Tryd.func31, Tryd.ntmps31
  go_upto_region 2 with fail
  rw [E1.out]
  go_upto_region 3 with fail
  rw [E2.out]
  go_upto_region 4 with fail
  rw [E3.out]
  go_upto_region 5 with fail
  rw [show (256 : Int) = ((256 : Nat) : Int) from rfl, E4.out]
  go_upto_region 6 with fail
  rw [show (65536 : Int) = ((65536 : Nat) : Int) from rfl, E5.out]
  go_upto_region 7 with fail
  rw [show (4294967296 : Int) = ((4294967296 : Nat) : Int) from rfl, E6.out]
  go_wp2_with fail
  rw [E7.out, BE.out]
  go_ret
  exact ⟨rfl, rfl⟩
end
set_option maxHeartbeats 400000 in
theorem Count_any (x : Nat) (hx : x < 18446744073709551616) (w : World) :
    Calls Tryd.prog 13 #[.int .u64 x] w (RetI (cnt x 64) w) := by
  have H := Lib.hid (ones_any x hx w)
  clear hx
  go_enter Tryd.func13, Tryd.ntmps13
  go_wp2_with fail
  refine H.out.mono ?_
  rintro e w' ⟨rfl, rfl⟩
  go_wp2_with fail
  go_ret
  exact ⟨rfl, rfl⟩
end Go.Proofs.YticmfflnenoplabDoor
