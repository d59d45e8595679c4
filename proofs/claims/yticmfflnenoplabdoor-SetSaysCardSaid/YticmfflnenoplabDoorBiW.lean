/- Sets of processors: the example 'sets': plain. No statement is proved here. -/
import Derived.Test.YticmfflnenoplabDoorBiV
namespace Go.Proofs.YticmfflnenoplabDoor
open Go.RowKit Go.Deep Pop Bi Am
namespace Bi
def ex : List UInt8 := [48, 45, 50, 44, 55]
theorem ex_words : wordsP ex = [[48, 45, 50], [55]] := by rw [wordsP_is]; decide
theorem ex_parse : parseP ex = (135, 0) := by
  unfold parseP
  rw [if_neg (by decide), if_neg (by decide), ex_words]
  decide
theorem dec1 (n : Nat) (h : n < 10) : Lib.decDigits n = [UInt8.ofNat (48 + n)] := by rw [Lib.decDigits, dif_pos h]
theorem ex_text : textP 135 = ex := by
  have hs : spans 135 0 = [(0, 2), (7, 7)] := by decide
  unfold textP
  rw [hs]
  simp only [List.map_cons, List.map_nil, spanT, Am.itoa_nat]
  rw [dec1 0 (by omega), dec1 2 (by omega), dec1 7 (by omega)]
  decide
end Bi
section
attribute [local irreducible] parseP textP
set_option maxRecDepth 100000 in
set_option maxHeartbeats 2000000 in
theorem sets_any (w : World) (hL : LayS w) : Calls Tryd.prog 6 #[] w (fun e w' => e = .returned (.bool true) ∧ Below w.heap.size w w') := by
  have HP : Hid (Calls Tryd.prog 18 #[.string ⟨#[48, 45, 50, 44, 55]⟩] w (RetUEB (135, 0) w)) := Lib.hid (by
    have := Parse_any ⟨#[48, 45, 50, 44, 55]⟩ (by decide) w hL
    rw [show (⟨#[48, 45, 50, 44, 55]⟩ : ByteArray).data.toList = ex from rfl, ex_parse] at this
    exact this)
  have HT := Lib.hid (fun W (hb : Below w.heap.size w W) => Text_any 135 (by omega) W (hL.below hb))
  rw [ex_text] at HT
  have HS := Lib.hid (fun W => same_yes 0 (by omega) W)
  clear hL
  go_enter Tryd.func6, Tryd.ntmps6
  go_wp2_with fail
  refine HP.out.mono ?_
  rintro e w1 ⟨rfl, hb1⟩
  dsimp only
  clear HP
  go_wp2_with fail
  refine (HS.out _).mono ?_
  rintro e w2 ⟨rfl, rfl⟩
  go_wp2_with fail
  refine (HT.out _ hb1).mono ?_
  rintro e w3 ⟨rfl, hb3⟩
  have hb3' := hb1.trans (hb3.mono hb1.size)
  clear hb3 hb1
  go_wp2_with fail
  go_ret
  exact ⟨by first | rfl | decide, hb3'⟩
end
end Go.Proofs.YticmfflnenoplabDoor
