/- Sets of processors: the example 'sets': plain. No statement is proved here. -/
import Derived.Test.YticmfflnenoplacDoorBiV
namespace Go.Proofs.YticmfflnenoplacDoor
open Go.RowKit Go.Deep Pop Bi Am
namespace Bi
def ex : List UInt8 := [48, 45, 50, 44, 55]
theorem ex_words : wordsP ex = [[48, 45, 50], [55]] := by rw [wordsP_is]; decide
theorem ex_parse : parseP ex = (135, 0) := by
  unfold parseP
  rw [if_neg (by decide), if_neg (by decide), ex_words]
  decide
theorem dec1 (n : Nat) (h : n < 10) : Lib.decDigits n = [UInt8.ofNat (48 + n)] := by rw [Lib.decDigits, dif_pos h]
theorem ex_text : textP 135 = ex := by
  have hs : spans 135 0 = [(0, 2), (7, 7)] := by decide
  unfold textP
  rw [hs]
  simp only [List.map_cons, List.map_nil, spanT, Am.itoa_nat]
  rw [dec1 0 (by omega), dec1 2 (by omega), dec1 7 (by omega)]
  decide
end Bi
section
attribute [local irreducible] parseP textP
end
end Go.Proofs.YticmfflnenoplacDoor
