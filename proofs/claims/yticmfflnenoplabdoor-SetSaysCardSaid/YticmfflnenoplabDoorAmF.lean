/- Amounts: units, Bytes, BytesText: their walks. -/
import Derived.Test.YticmfflnenoplabDoorAmE
import Derived.Test.YticmfflnenoplabDoorFlo
namespace Go.Proofs.YticmfflnenoplabDoor
open Go.RowKit Am
def unitCells : Array Value := #[.string ⟨#[84, 105]⟩, .int .i64 1099511627776, .string ⟨#[71, 105]⟩, .int .i64 1073741824, .string ⟨#[77, 105]⟩, .int .i64 1048576, .string ⟨#[75, 105]⟩, .int .i64 1024, .string ⟨#[]⟩, .int .i64 1]
theorem units_any (w : World) : Calls Tryd.prog 48 #[] w (fun e w' => e = .returned (.slice (some ⟨w.heap.size, 0, none⟩) 5 5) ∧ Blk w' w.heap.size 89 unitCells ∧ Below w.heap.size w w' ∧ w'.heap.size = w.heap.size + 1) := by
  go_enter Tryd.func48, Tryd.ntmps48
  go_wp2_with fail
  go_ret
  exact ⟨rfl, Blk.new w _ _, (Below.refl _ _).alloc (Nat.le_refl _) _, by simp⟩
theorem unit_at (k : Nat) (hk : k < 5) : ∃ (nm : List UInt8) (sz : Nat), unitCells[k * 2]? = some (.string ⟨nm.toArray⟩) ∧ unitCells[k * 2 + 1]? = some (.int .i64 sz) ∧ 1 ≤ sz ∧ sz ≤ 1099511627776 ∧ nm.length ≤ 2 ∧
    (∀ s, bytesU s (units.drop k) = if Lib.hasSuffix s nm then byteP (Lib.trimSuffix s nm) sz else bytesU s (units.drop (k + 1))) ∧ (∀ n, textU n (units.drop k) = if 0 < n ∧ n % sz = 0 then Lib.itoa ((n / sz : Nat) : Int) ++ nm else textU n (units.drop (k + 1))) := by
  rcases (show k = 0 ∨ k = 1 ∨ k = 2 ∨ k = 3 ∨ k = 4 by omega) with rfl | rfl | rfl | rfl | rfl
  · exact ⟨[84, 105], 1099511627776, rfl, rfl, by omega, by omega, by simp, fun _ => rfl, fun _ => rfl⟩
  · exact ⟨[71, 105], 1073741824, rfl, rfl, by omega, by omega, by simp, fun _ => rfl, fun _ => rfl⟩
  · exact ⟨[77, 105], 1048576, rfl, rfl, by omega, by omega, by simp, fun _ => rfl, fun _ => rfl⟩
  · exact ⟨[75, 105], 1024, rfl, rfl, by omega, by omega, by simp, fun _ => rfl, fun _ => rfl⟩
  · exact ⟨[], 1, rfl, rfl, by omega, by omega, by simp, fun _ => rfl, fun _ => rfl⟩
theorem blk_at {w : World} {b : Nat} {T : TypeId} {arr : Array Value} (h : Blk w b T arr) (j : Nat) (v : Value) (hv : arr[j]? = some v) : w.cell? ⟨b, j, none⟩ = some v := by
  rw [← hv]
  exact h.cell j
theorem byteP_no {t : List UInt8} {size : Nat} {n : Nat} (h : digP t 16 = (n, false)) : byteP t size = (0, 4) := by simp [byteP, h]
theorem byteP_big {t : List UInt8} {size : Nat} {n : Nat} (h : digP t 16 = (n, true)) (hb : n > 1125899906842624 / size) : byteP t size = (0, 1) := by simp [byteP, h, hb]
theorem byteP_ok {t : List UInt8} {size : Nat} {n : Nat} (h : digP t 16 = (n, true)) (hb : ¬ n > 1125899906842624 / size) : byteP t size = ((n : Int) * size, 0) := by simp [byteP, h, hb]
theorem quo_max (size : Nat) : (1125899906842624 : Int).tdiv size = ((1125899906842624 / size : Nat) : Int) := by
  rw [Int.tdiv_eq_ediv_of_nonneg (by omega)]
  rfl
section
attribute [local irreducible] digP bytesU textU byteP Lib.trimSuffix Lib.hasSuffix unitCells units
set_option maxHeartbeats 1000000 in
theorem Bytes_any (s : ByteArray) (hs : s.size ≤ 100) (w : World) : Calls Tryd.prog 29 #[.string s] w (RetNE (bytesP s.data.toList) w) := by
  have HS := Lib.hid (fun (p : List UInt8) W => by simpa using Tryd.strings_CutSuffix s ⟨p.toArray⟩ W (by omega))
  have hsl : s.data.toList.length ≤ 100 := hs
  generalize s.data.toList = l at *
  have HT := Lib.hid (fun (p : List UInt8) W => digits_l (Lib.trimSuffix l p) (Nat.le_trans (trim_len l p) (by omega)) 16 (by omega) W)
  have HP := Lib.hid (show bytesP l = bytesU l (units.drop 0) by simp [bytesP])
  have HE := Lib.hid (show bytesU l (units.drop 5) = (0, 4) by unfold units bytesU; rfl)
  clear hsl hs
  go_enter Tryd.func29, Tryd.ntmps29
  go_wp2_with fail
  refine (units_any w).mono ?_
  rintro e w1 ⟨rfl, kb, hb1, hsz⟩
  go_upto_region 2 with fail
  go_loopw [12] (fun i wi => ∃ k : Nat, i = .int .i64 k ∧ k ≤ 5 ∧ Blk wi w.heap.size 89 unitCells ∧ Below w.heap.size w wi ∧ Hid (bytesP l = bytesU l (units.drop k))) (fun i _ => 5 - (intOf i).toNat)
  case atStart => exact ⟨0, rfl, by omega, kb, hb1, HP.out⟩
  case round =>
    clear kb hb1 hsz HP
    obtain ⟨k, rfl, hk, kb, hb, HP⟩ := hrel
    by_cases hlt : k < 5
    · obtain ⟨nm, sz, c0, c1, hz1, hz2, hnl, hbu, _⟩ := unit_at k hlt
      have e0 := blk_at kb _ _ c0
      have e1 := blk_at kb _ _ c1
      have HBU := Lib.hid (hbu l)
      have hkl := kb.lt
      clear c0 c1 hbu
      have hbn := hb.alloc hb.size (.cells #[.string ⟨nm.toArray⟩, .int .i64 sz] 89)
      have kbn := kb.alloc (.cells #[.string ⟨nm.toArray⟩, .int .i64 sz] 89)
      have hxl : nm.length ≤ 2 := hnl
      have HD := Lib.hid (HT.out nm)
      have HC := Lib.hid (HS.out nm)
      clear kb hb hnl
      cases hh : Lib.hasSuffix l nm
      · rw [hh] at HC HBU
        rw [if_neg (by simp)] at HBU
        clear hh HD
        go_wp2_with fail
        refine (HC.out _).mono ?_
        rintro e w2 ⟨rfl, rfl⟩
        go_wp2_with fail
        go_roundw
        case rel => exact ⟨k + 1, by go_num, by omega, kbn, hbn, Lib.hid (by rw [HP.out, HBU.out])⟩
        case measure => simp [intOf]; omega
      · rw [hh] at HC HBU
        rw [if_pos rfl] at HBU
        clear hh
        generalize Lib.trimSuffix l nm = t at *
        have hd := digP_lt t 16
        cases hdp : digP t 16 with
        | mk n ok =>
        rw [hdp] at hd HD
        dsimp only at hd
        have hq := quo_max sz
        cases ok
        · have HF := Lib.hid (byteP_no (size := sz) hdp)
          clear hdp
          go_wp2_with fail
          refine (HC.out _).mono ?_
          rintro e w2 ⟨rfl, rfl⟩
          go_wp2_with fail
          refine (HD.out _).mono ?_
          rintro e w3 ⟨rfl, rfl⟩
          go_wp2_with fail
          go_ret2
          exact RetNE.err (by rw [HP.out, HBU.out, HF.out]) (by omega) hbn
        · by_cases hbig : n > 1125899906842624 / sz
          · have HF := Lib.hid (byteP_big (size := sz) hdp hbig)
            clear hdp
            have hmx : 1125899906842624 / sz ≤ 1125899906842624 := Nat.div_le_self _ _
            generalize 1125899906842624 / sz = mx at *
            have hbi : (n : Int) > (mx : Int) := by omega
            go_wp2_with fail
            refine (HC.out _).mono ?_
            rintro e w2 ⟨rfl, rfl⟩
            go_wp2_with fail
            refine (HD.out _).mono ?_
            rintro e w3 ⟨rfl, rfl⟩
            go_wp2_with fail
            go_ret2
            exact RetNE.err (by rw [HP.out, HBU.out, HF.out]) (by omega) hbn
          · have HF := Lib.hid (byteP_ok (size := sz) hdp hbig)
            clear hdp
            have hmul : n * sz ≤ 1125899906842624 := by
              have := Nat.mul_le_mul_right sz (Nat.le_of_not_gt hbig)
              exact Nat.le_trans this (Nat.div_mul_le_self _ _)
            have hmi : (n : Int) * (sz : Int) ≤ 1125899906842624 := by
              have := Int.ofNat_le.2 hmul
              rw [Int.natCast_mul] at this
              exact this
            have hm0 : 0 ≤ (n : Int) * (sz : Int) := Int.mul_nonneg (by omega) (by omega)
            clear hmul
            have hmx : 1125899906842624 / sz ≤ 1125899906842624 := Nat.div_le_self _ _
            generalize 1125899906842624 / sz = mx at *
            have hbi : ¬ (n : Int) > (mx : Int) := by omega
            go_wp2_with fail
            refine (HC.out _).mono ?_
            rintro e w2 ⟨rfl, rfl⟩
            go_wp2_with fail
            refine (HD.out _).mono ?_
            rintro e w3 ⟨rfl, rfl⟩
            go_wp2_with fail
            go_ret2
            exact RetNE.nil (by rw [HP.out, HBU.out, HF.out]) hbn
    · obtain rfl : k = 5 := by omega
      go_wp2_with fail
      go_ret2
      exact RetNE.err (by rw [HP.out, HE.out]) (by omega) hb
theorem bytesT_at (n : Nat) : bytesT n = textU n (units.drop 0) := by simp [bytesT]
set_option maxHeartbeats 1000000 in
theorem BytesText_any (m : Nat) (h1 : m ≤ 1125899906842624) (w : World) (hL : Lay w) : Calls Tryd.prog 28 #[.int .i64 m] w (RetSE (bytesT m) 0 w) := by
  have HI := Lib.hid (fun (k : Nat) (hk : k ≤ 1125899906842624) W (hb : Below w.heap.size w W) => itoa_any k (by omega) (by omega) W (hL.below hb))
  have HT := Lib.hid (fun (k : Nat) (hk : k ≤ 1125899906842624) => itoa_len k (by omega) (by omega))
  have HP := Lib.hid (bytesT_at m)
  have HE := Lib.hid (show textU m (units.drop 5) = [48] by unfold units textU; rfl)
  clear hL
  go_enter Tryd.func28, Tryd.ntmps28
  go_wp2_with fail
  refine (units_any w).mono ?_
  rintro e w1 ⟨rfl, kb, hb1, hsz⟩
  go_upto_region 4 with fail
  go_loopw [15] (fun i wi => ∃ k : Nat, i = .int .i64 k ∧ k ≤ 5 ∧ Blk wi w.heap.size 89 unitCells ∧ Below w.heap.size w wi ∧ Hid (bytesT m = textU m (units.drop k))) (fun i _ => 5 - (intOf i).toNat)
  case atStart => exact ⟨0, rfl, by omega, kb, hb1, HP.out⟩
  case round =>
    clear kb hb1 hsz HP
    obtain ⟨k, rfl, hk, kb, hb, HP⟩ := hrel
    by_cases hlt : k < 5
    · obtain ⟨nm, sz, c0, c1, hz1, hz2, hnl, _, htu⟩ := unit_at k hlt
      have e0 := blk_at kb _ _ c0
      have e1 := blk_at kb _ _ c1
      have HTU := Lib.hid (htu m)
      have hkl := kb.lt
      clear c0 c1 htu
      have hbn := hb.alloc hb.size (.cells #[.string ⟨nm.toArray⟩, .int .i64 sz] 89)
      have kbn := kb.alloc (.cells #[.string ⟨nm.toArray⟩, .int .i64 sz] 89)
      clear kb hb
      have hrm : (m : Int).tmod sz = ((m % sz : Nat) : Int) := by
        rw [Int.tmod_eq_emod_of_nonneg (by omega)]
        rfl
      by_cases hc : 0 < m ∧ m % sz = 0
      · rw [if_pos hc] at HTU
        obtain ⟨hc1, hc2⟩ := hc
        rw [hc2] at hrm
        have hdl : m / sz ≤ 1125899906842624 := Nat.le_trans (Nat.div_le_self _ _) h1
        have hdv : (m : Int).tdiv sz = ((m / sz : Nat) : Int) := by
          rw [Int.tdiv_eq_ediv_of_nonneg (by omega)]
          rfl
        have hl := HT.out (m / sz) hdl
        have HD := Lib.hid (fun W (hb : Below w.heap.size w W) => HI.out (m / sz) hdl W hb)
        generalize m / sz = d at *
        go_upto_region 7 with fail
        have ku := Blk.new wr 89 #[.string ⟨nm.toArray⟩, .int .i64 sz]
        generalize wr.alloc (.cells #[.string ⟨nm.toArray⟩, .int .i64 sz] 89) = wu at *
        generalize wr.heap.size = pb at *
        have lu := ku.lt
        have u0 := blk_at ku 0 _ rfl
        have u1 := blk_at ku 1 _ rfl
        have hI : Below wu.heap.size wu wu.drew := (Below.refl _ _).drew
        clear e0 e1 kbn
        refine Flo.region 7 [(0, true), (1, true), (2, true), (3, true), (5, true), (6, true), (4, false)] (fun v => Below wu.heap.size wu v) (by kernel_rfl) (by kernel_rfl) rfl hI ?_
        simp only [List.drop_succ_cons, List.drop_zero]
        iterate 6 (apply Flo.op rfl (hI := hI); (· intro v hv K hK; obtain ⟨hc, hf⟩ := Flo.bcl hv; go_wp2_with fail; all_goals first | exact Flo.noUndef (by with_reducible assumption) | exact hK); (· rfl))
        refine Flo.seq rfl fun K hK => ?_
        go_wp2_with fail
        refine (HD.out _ hbn.drew).mono ?_
        rintro e w3 ⟨rfl, hb3⟩
        generalize Lib.itoa (d : Int) = t at *
        go_wp2_with fail
        refine hK _ _ (hI.trans (hb3.mono hI.size)) ?_
        refine Flo.tail fun K hK => ?_
        go_wp2_with fail
        go_ret2
        exact ⟨by rw [HP.out, HTU.out]; rfl, hbn.drew.trans (hb3.mono hbn.drew.size)⟩
      · rw [if_neg hc] at HTU
        by_cases h0 : 0 < m
        · have hr0 : (((m % sz : Nat) : Int) == 0) = false := by rw [beq_eq_false_iff_ne]; omega
          have hrl : m % sz ≤ 1125899906842624 := Nat.le_trans (Nat.mod_le _ _) h1
          generalize m % sz = r at *
          clear hc
          go_wp2_with fail
          go_roundw
          case rel => exact ⟨k + 1, by go_num, by omega, kbn, hbn, Lib.hid (by rw [HP.out, HTU.out])⟩
          case measure => simp [intOf]; omega
        · clear hc
          go_wp2_with fail
          go_roundw
          case rel => exact ⟨k + 1, by go_num, by omega, kbn, hbn, Lib.hid (by rw [HP.out, HTU.out])⟩
          case measure => simp [intOf]; omega
    · obtain rfl : k = 5 := by omega
      go_wp2_with fail
      go_ret2
      exact ⟨by rw [HP.out, HE.out]; rfl, hb⟩
set_option maxHeartbeats 1000000 in
theorem BytesText_bad (n : Int) (h : n < 0 ∨ 1125899906842624 < n) (w : World) : Calls Tryd.prog 28 #[.int .i64 n] w (RetSE [] 1 w) := by
  rcases h with h | h
  · go_enter Tryd.func28, Tryd.ntmps28
    go_wp2_with fail
    go_ret2
    exact ⟨rfl, Below.refl _ _⟩
  · have h2 : ¬ n < 0 := by omega
    go_enter Tryd.func28, Tryd.ntmps28
    go_wp2_with fail
    go_ret2
    exact ⟨rfl, Below.refl _ _⟩
end
end Go.Proofs.YticmfflnenoplabDoor
