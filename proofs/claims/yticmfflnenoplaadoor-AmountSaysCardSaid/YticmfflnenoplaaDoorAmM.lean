/- AmountSays: its walk. -/
import Derived.Test.YticmfflnenoplaaDoorAmL
namespace Go.Proofs.YticmfflnenoplaaDoor
open Go.RowKit Am
namespace Am
theorem fin_nn (n : Int) (ok : Bool) : 0 ≤ (fin n ok).2 := by
  unfold fin
  split
  · simp
  · split <;> simp
theorem milliP_nn (s : List UInt8) : 0 ≤ (milliP s).2 := by
  unfold milliP
  split
  · exact fin_nn _ _
  · split <;> exact fin_nn _ _
theorem byteP_nn (t : List UInt8) (z : Nat) : 0 ≤ (byteP t z).2 := by
  unfold byteP
  split
  · split <;> simp
  · simp
theorem bytesP_nn (s : List UInt8) : 0 ≤ (bytesP s).2 := by
  rw [bytes_way]
  exact byteP_nn _ _
def mtext (n : Int) : List UInt8 × Int := if n < 0 ∨ 1000000 < n then ([], 1) else (milliT n, 0)
def btext (n : Int) : List UInt8 × Int := if n < 0 ∨ 1125899906842624 < n then ([], 1) else (bytesT n.toNat, 0)
theorem mtext_nn (n : Int) : 0 ≤ (mtext n).2 := by unfold mtext; split <;> simp
theorem btext_nn (n : Int) : 0 ≤ (btext n).2 := by unfold btext; split <;> simp
theorem m15 : milliP [49, 46, 53] = (1500, 0) := by decide +kernel
theorem b2k : bytesP [50, 75, 105] = (2048, 0) := by decide +kernel
end Am
theorem MilliText_all (n : Int) (w : World) (hL : Lay w) : Calls Tryd.prog 19 #[.int .i64 n] w (RetSE (mtext n).1 (mtext n).2 w) := by
  unfold mtext
  split
  · next h => exact MilliText_bad n h w
  · next h => exact MilliText_any n (by omega) (by omega) w hL
theorem MilliTextR_all (n : Int) (w : World) : Calls Tryd.prog 20 #[.int .i64 n] w (RetSI (mtext n).1 (mtext n).2 w) := by
  unfold mtext
  split
  · next h => exact MilliTextR_bad n h w
  · next h => exact MilliTextR_any n (by omega) (by omega) w
theorem BytesText_all (n : Int) (w : World) (hL : Lay w) : Calls Tryd.prog 21 #[.int .i64 n] w (RetSE (btext n).1 (btext n).2 w) := by
  unfold btext
  split
  · next h => exact BytesText_bad n h w
  · next h =>
    have := BytesText_any n.toNat (by omega) w hL
    rwa [show ((n.toNat : Nat) : Int) = n by omega] at this
theorem BytesTextR_all (n : Int) (w : World) : Calls Tryd.prog 22 #[.int .i64 n] w (RetSI (btext n).1 (btext n).2 w) := by
  unfold btext
  split
  · next h => exact BytesTextR_bad n h w
  · next h =>
    have := BytesTextR_any n.toNat (by omega) w
    rwa [show ((n.toNat : Nat) : Int) = n by omega] at this
section
attribute [local irreducible] milliP bytesP mtext btext
theorem same00 (W : World) : Calls Tryd.prog 6 #[.nilIface, .int .i64 0] W (RetB true W) := by
  have := same_yes 0 (by omega) W
  rwa [errV_0] at this
set_option maxRecDepth 100000 in
set_option maxHeartbeats 1000000 in
theorem amounts_any (w : World) (hL : Lay w) : Calls Tryd.prog 14 #[] w (RetBB true w) := by
  have H1 := Lib.hid (Milli_any ⟨#[49, 46, 53]⟩ (by decide) w hL)
  have H2 := Lib.hid (fun W => Bytes_any ⟨#[50, 75, 105]⟩ (by decide) W)
  rw [show (⟨#[49, 46, 53]⟩ : ByteArray).data.toList = [49, 46, 53] from rfl, m15] at H1
  rw [show (⟨#[50, 75, 105]⟩ : ByteArray).data.toList = [50, 75, 105] from rfl, b2k] at H2
  clear hL
  go_enter Tryd.func14, Tryd.ntmps14
  go_wp2_with fail
  refine H1.out.mono ?_
  rintro e w1 ⟨rfl, hb1⟩
  rw [errV_0]
  go_wp2_with fail
  refine (H2.out _).mono ?_
  rintro e w2 ⟨rfl, hb2⟩
  rw [errV_0]
  go_wp2_with fail
  refine (same00 _).mono ?_
  rintro e w3 ⟨rfl, rfl⟩
  go_wp2_with fail
  refine (same00 _).mono ?_
  rintro e w3 ⟨rfl, rfl⟩
  go_wp2_with fail
  go_ret
  exact ⟨rfl, hb1.trans (hb2.mono hb1.size)⟩
set_option maxRecDepth 100000 in
set_option maxHeartbeats 2000000 in
theorem AmountSays_any (n : Int) (s : ByteArray) (hs : s.size ≤ maxLen) (w : World) (hL : Lay w) : Calls Tryd.prog 5 #[.int .i64 n, .string s] w (RetBB true w) := by
  unfold maxLen at hs
  have HA := Lib.hid (amounts_any w hL)
  by_cases h100 : 100 < s.size
  · clear hL
    go_enter Tryd.func5, Tryd.ntmps5
    go_wp2_with fail
    refine HA.out.mono ?_
    rintro e w1 ⟨rfl, hb1⟩
    go_wp2_with fail
    go_ret
    exact ⟨rfl, hb1⟩
  · have HLW := Lib.hid hL
    have H1 := Lib.hid (fun W (hb : Below w.heap.size w W) => Milli_any s (by omega) W (hL.below hb))
    have H2 := Lib.hid (fun W => MilliR_any s (by omega) W)
    have H3 := Lib.hid (fun W => Bytes_any s (by omega) W)
    have H4 := Lib.hid (fun W => BytesR_any s (by omega) W)
    have H5 := Lib.hid (fun W (hb : Below w.heap.size w W) => MilliText_all n W (hL.below hb))
    have H6 := Lib.hid (fun W => MilliTextR_all n W)
    have H7 := Lib.hid (fun W (hb : Below w.heap.size w W) => BytesText_all n W (hL.below hb))
    have H8 := Lib.hid (fun W => BytesTextR_all n W)
    have s1 := milliP_nn s.data.toList
    have s2 := bytesP_nn s.data.toList
    have s3 := mtext_nn n
    have s4 := btext_nn n
    clear hL HLW
    generalize milliP s.data.toList = r1 at *
    generalize bytesP s.data.toList = r2 at *
    generalize mtext n = r3 at *
    generalize btext n = r4 at *
    obtain ⟨a1, b1⟩ := r1
    obtain ⟨a2, b2⟩ := r2
    obtain ⟨a3, b3⟩ := r3
    obtain ⟨a4, b4⟩ := r4
    dsimp only at s1 s2 s3 s4
    have S1 := Lib.hid (fun W => same_yes b1 s1 W)
    have S2 := Lib.hid (fun W => same_yes b2 s2 W)
    have S3 := Lib.hid (fun W => same_yes b3 s3 W)
    have S4 := Lib.hid (fun W => same_yes b4 s4 W)
    go_enter Tryd.func5, Tryd.ntmps5
    go_wp2_with fail
    refine HA.out.mono ?_
    rintro e w1 ⟨rfl, hb1⟩
    go_wp2_with fail
    refine (H1.out _ hb1).mono ?_
    rintro e w2 ⟨rfl, hb2⟩
    have hbe2 := hb1.trans (hb2.mono hb1.size)
    go_wp2_with fail
    refine (H2.out _).mono ?_
    rintro e w3 ⟨rfl, rfl⟩
    go_wp2_with fail
    refine (H3.out _).mono ?_
    rintro e w3 ⟨rfl, hb3⟩
    have hbe3 := hbe2.trans (hb3.mono hbe2.size)
    go_wp2_with fail
    refine (H4.out _).mono ?_
    rintro e w4 ⟨rfl, rfl⟩
    generalize hv1 : errV b1 = v1 at *
    generalize hv2 : errV b2 = v2 at *
    generalize hv3 : errV b3 = v3 at *
    generalize hv4 : errV b4 = v4 at *
    go_wp2_with fail
    refine (S1.out _).mono ?_
    rintro e w4 ⟨rfl, rfl⟩
    go_wp2_with fail
    refine (S2.out _).mono ?_
    rintro e w4 ⟨rfl, rfl⟩
    go_wp2_with fail
    refine (H5.out _ hbe3).mono ?_
    rintro e w5 ⟨rfl, hb5⟩
    have hbe5 := hbe3.trans (hb5.mono hbe3.size)
    go_wp2_with fail
    refine (H6.out _).mono ?_
    rintro e w6 ⟨rfl, hb6⟩
    have hbe6 := hbe5.trans (hb6.mono hbe5.size)
    go_wp2_with fail
    refine (H7.out _ hbe6).mono ?_
    rintro e w7 ⟨rfl, hb7⟩
    have hbe7 := hbe6.trans (hb7.mono hbe6.size)
    go_wp2_with fail
    refine (H8.out _).mono ?_
    rintro e w8 ⟨rfl, hb8⟩
    have hbe8 := hbe7.trans (hb8.mono hbe7.size)
    go_wp2_with fail
    refine (S3.out _).mono ?_
    rintro e w9 ⟨rfl, rfl⟩
    go_wp2_with fail
    refine (S4.out _).mono ?_
    rintro e w9 ⟨rfl, rfl⟩
    go_wp2_with fail
    go_ret
    exact ⟨by simp, hbe8⟩
end
end Go.Proofs.YticmfflnenoplaaDoor
