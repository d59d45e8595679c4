/- TopAmount: its walk. -/
import Derived.Test.YticmfflnenoplabDoorAmF
import Derived.Test.YticmfflnenoplabDoorTaA
namespace Go.Proofs.YticmfflnenoplabDoor
open Go.RowKit Am
theorem Milli_l (t : List UInt8) (ht : t.length ≤ 100) (w : World) (hL : Lay w) : Calls Tryd.prog 27 #[.string ⟨t.toArray⟩] w (RetNE (milliP t) w) := by
  have := Milli_any ⟨t.toArray⟩ (by simpa [ByteArray.size] using ht) w hL
  simpa using this
theorem Bytes_l (t : List UInt8) (ht : t.length ≤ 100) (w : World) : Calls Tryd.prog 29 #[.string ⟨t.toArray⟩] w (RetNE (bytesP t) w) := by
  have := Bytes_any ⟨t.toArray⟩ (by simpa [ByteArray.size] using ht) w
  simpa using this
theorem MilliText_x (n : Int) (w : World) (hL : Lay w) : Calls Tryd.prog 26 #[.int .i64 n] w (RetSE (mtx n).1 (mtx n).2 w) := by
  unfold mtx
  split
  · next h => exact MilliText_bad n h w
  · next h => exact MilliText_any n (by omega) (by omega) w hL
theorem BytesText_x (n : Int) (w : World) (hL : Lay w) : Calls Tryd.prog 28 #[.int .i64 n] w (RetSE (btx n).1 (btx n).2 w) := by
  unfold btx
  split
  · next h => exact BytesText_bad n h w
  · next h =>
    have := BytesText_any n.toNat (by omega) w hL
    rwa [show ((n.toNat : Nat) : Int) = n by omega] at this
/-- What is written is read: the two calls, by their outcomes. -/
theorem wr_cases {P : List UInt8 → Int × Int} {n : Int} {r : List UInt8 × Int} (h : Wr P n r) : (∃ T, r = (T, 1)) ∨ ∃ T, r = (T, 0) ∧ T.length ≤ 20 ∧ P T = (n, 0) := by
  obtain ⟨T, f⟩ := r
  rcases h with h | ⟨h1, h2, h3⟩
  · exact .inl ⟨T, by simpa using h⟩
  · exact .inr ⟨T, by simpa using h1, h2, h3⟩
theorem num_cases {m : Int} {r : Int × Int} (h : Num m r) : (∃ k, r = (k, 0) ∧ 0 ≤ k ∧ k ≤ m) ∨ ∃ k f, r = (k, f) ∧ f ≠ 0 := by
  obtain ⟨k, f⟩ := r
  rcases h with ⟨h1, h2, h3⟩ | h | h
  · exact .inl ⟨k, by simpa using h1, h2, h3⟩
  · exact .inr ⟨k, f, rfl, by simp at h; omega⟩
  · exact .inr ⟨k, f, rfl, by simp at h; omega⟩
section
attribute [local irreducible] milliP bytesP mtx btx
set_option maxRecDepth 100000 in
set_option maxHeartbeats 2000000 in
theorem TopAmount_any (n : Int) (s : ByteArray) (hs : s.size ≤ maxLen) (w : World) (hL : Lay w) : Calls Tryd.prog 5 #[.int .i64 n, .string s] w (RetBB true w) := by
  unfold maxLen at hs
  have H0 := Lib.hid (MilliText_x 1500 w hL)
  rw [mtx_1500] at H0
  have HMT := Lib.hid (fun (n : Int) W (hb : Below w.heap.size w W) => MilliText_x n W (hL.below hb))
  have HBT := Lib.hid (fun (n : Int) W (hb : Below w.heap.size w W) => BytesText_x n W (hL.below hb))
  have HML := Lib.hid (fun (t : List UInt8) (ht : t.length ≤ 100) W (hb : Below w.heap.size w W) => Milli_l t ht W (hL.below hb))
  have HBL := Lib.hid (fun (t : List UInt8) (ht : t.length ≤ 100) W => Bytes_l t ht W)
  have HMS := Lib.hid (fun (hs : s.size ≤ 100) W (hb : Below w.heap.size w W) => Milli_any s hs W (hL.below hb))
  have HBS := Lib.hid (fun (hs : s.size ≤ 100) W => Bytes_any s hs W)
  have N1 := Lib.hid (milli_num s.data.toList)
  have N2 := Lib.hid (bytes_num s.data.toList)
  generalize milliP s.data.toList = r1 at *
  generalize bytesP s.data.toList = r2 at *
  have WA := wr_cases (mtx_wr n)
  have WB := wr_cases (btx_wr n)
  have WK := Lib.hid (fun (k : Int) => mtx_wr k)
  have WL := Lib.hid (fun (k : Int) => btx_wr k)
  have I1 := Lib.hid (fun (k : Int) (h0 : 0 ≤ k) (h1 : k ≤ 1000000) => mtx_in h0 h1)
  have I2 := Lib.hid (fun (k : Int) (h0 : 0 ≤ k) (h1 : k ≤ 1125899906842624) => btx_in h0 h1)
  clear hL
  rcases WA with ⟨T, hT⟩ | ⟨T, hT, hTl, hTP⟩
  · have C1 := Lib.hid (fun W hb => HMT.out n W hb)
    rw [hT] at C1
    clear hT
    go_enter Tryd.func5, Tryd.ntmps5
    go_wp2_with fail
    refine H0.out.mono ?_
    rintro e w1 ⟨rfl, hb1⟩
    rw [errV_0]
    clear H0
    go_wp2_with fail
    refine (C1.out _ hb1).mono ?_
    rintro e w2 ⟨rfl, hb2⟩
    rw [errV_pos 1 (by omega)]
    have hbe := hb1.trans (hb2.mono hb1.size)
    clear hb1 hb2 C1
    go_upto_region 9 with fail
    rcases WB with ⟨T2, hT2⟩ | ⟨T2, hT2, hTl2, hTP2⟩
    · have C1 := Lib.hid (fun W hb => HBT.out n W hb)
      rw [hT2] at C1
      clear hT2
      go_wp2_with fail
      refine (C1.out _ hbe).mono ?_
      rintro e w4 ⟨rfl, hb4⟩
      rw [errV_pos 1 (by omega)]
      have hbf := hbe.trans (hb4.mono hbe.size)
      clear hbe hb4 C1
      go_upto_region 14 with fail
      by_cases h100 : 100 < s.size
      · go_wp2_with fail
        go_ret
        exact ⟨rfl, hbf⟩
      · have hle : s.size ≤ 100 := by omega
        have C3 := Lib.hid (fun W hb => HMS.out hle W hb)
        have C4 := Lib.hid (fun W => HBS.out hle W)
        go_wp2_with fail
        refine (C3.out _ hbf).mono ?_
        rintro e w6 ⟨rfl, hb6⟩
        have hbg := hbf.trans (hb6.mono hbf.size)
        clear hb6 hbf C3
        rcases num_cases N1.out with ⟨k, rfl, hk0, hk1⟩ | ⟨k, f, rfl, hf⟩
        · rw [errV_0]
          rcases wr_cases (WK.out k) with ⟨T3, hT3⟩ | ⟨T3, hT3, hTl3, hTP3⟩
          · have := I1.out k hk0 hk1
            rw [hT3] at this
            cases this
          · have C1 := Lib.hid (fun W hb => HMT.out k W hb)
            rw [hT3] at C1
            have C2 := Lib.hid (fun W hb => HML.out T3 (by omega) W hb)
            rw [hTP3] at C2
            clear hT3 hTP3
            go_wp2_with fail
            refine (C1.out _ hbg).mono ?_
            rintro e w7 ⟨rfl, hb7⟩
            rw [errV_0]
            have hbe7 := hbg.trans (hb7.mono hbg.size)
            clear hb7 hbg C1
            go_wp2_with fail
            refine (C2.out _ hbe7).mono ?_
            rintro e w8 ⟨rfl, hb8⟩
            rw [errV_0]
            have hbh := hbe7.trans (hb8.mono hbe7.size)
            clear hb8 hbe7 C2
            go_upto_region 22 with fail
            go_wp2_with fail
            refine (C4.out _).mono ?_
            rintro e w9 ⟨rfl, hb9⟩
            have hbi := hbh.trans (hb9.mono hbh.size)
            clear hb9 hbh C4
            rcases num_cases N2.out with ⟨k2, rfl, hq0, hq1⟩ | ⟨k2, f2, rfl, hf2⟩
            · rw [errV_0]
              rcases wr_cases (WL.out k2) with ⟨T4, hT4⟩ | ⟨T4, hT4, hTl4, hTP4⟩
              · have := I2.out k2 hq0 hq1
                rw [hT4] at this
                cases this
              · have C1 := Lib.hid (fun W hb => HBT.out k2 W hb)
                rw [hT4] at C1
                have C2 := Lib.hid (fun W => HBL.out T4 (by omega) W)
                rw [hTP4] at C2
                clear hT4 hTP4
                go_wp2_with fail
                refine (C1.out _ hbi).mono ?_
                rintro e w10 ⟨rfl, hb10⟩
                rw [errV_0]
                have hbj := hbi.trans (hb10.mono hbi.size)
                clear hb10 hbi C1
                go_wp2_with fail
                refine (C2.out _).mono ?_
                rintro e w11 ⟨rfl, hb11⟩
                rw [errV_0]
                have hbk := hbj.trans (hb11.mono hbj.size)
                clear hb11 hbj C2
                go_wp2_with fail
                go_ret
                exact ⟨rfl, hbk⟩
            · rw [errV_pos f2 hf2]
              go_wp2_with fail
              go_ret
              exact ⟨rfl, hbi⟩
        · rw [errV_pos f hf]
          have hbh := hbg
          go_upto_region 22 with fail
          go_wp2_with fail
          refine (C4.out _).mono ?_
          rintro e w9 ⟨rfl, hb9⟩
          have hbi := hbh.trans (hb9.mono hbh.size)
          clear hb9 hbh C4
          rcases num_cases N2.out with ⟨k2, rfl, hq0, hq1⟩ | ⟨k2, f2, rfl, hf2⟩
          · rw [errV_0]
            rcases wr_cases (WL.out k2) with ⟨T4, hT4⟩ | ⟨T4, hT4, hTl4, hTP4⟩
            · have := I2.out k2 hq0 hq1
              rw [hT4] at this
              cases this
            · have C1 := Lib.hid (fun W hb => HBT.out k2 W hb)
              rw [hT4] at C1
              have C2 := Lib.hid (fun W => HBL.out T4 (by omega) W)
              rw [hTP4] at C2
              clear hT4 hTP4
              go_wp2_with fail
              refine (C1.out _ hbi).mono ?_
              rintro e w10 ⟨rfl, hb10⟩
              rw [errV_0]
              have hbj := hbi.trans (hb10.mono hbi.size)
              clear hb10 hbi C1
              go_wp2_with fail
              refine (C2.out _).mono ?_
              rintro e w11 ⟨rfl, hb11⟩
              rw [errV_0]
              have hbk := hbj.trans (hb11.mono hbj.size)
              clear hb11 hbj C2
              go_wp2_with fail
              go_ret
              exact ⟨rfl, hbk⟩
          · rw [errV_pos f2 hf2]
            go_wp2_with fail
            go_ret
            exact ⟨rfl, hbi⟩
    · have C1 := Lib.hid (fun W hb => HBT.out n W hb)
      rw [hT2] at C1
      have C2 := Lib.hid (fun W => HBL.out T2 (by omega) W)
      rw [hTP2] at C2
      clear hT2 hTP2
      go_wp2_with fail
      refine (C1.out _ hbe).mono ?_
      rintro e w4 ⟨rfl, hb4⟩
      rw [errV_0]
      have hbe4 := hbe.trans (hb4.mono hbe.size)
      clear hbe hb4 C1
      go_wp2_with fail
      refine (C2.out _).mono ?_
      rintro e w5 ⟨rfl, hb5⟩
      rw [errV_0]
      have hbf := hbe4.trans (hb5.mono hbe4.size)
      clear hbe4 hb5 C2
      go_upto_region 14 with fail
      by_cases h100 : 100 < s.size
      · go_wp2_with fail
        go_ret
        exact ⟨rfl, hbf⟩
      · have hle : s.size ≤ 100 := by omega
        have C3 := Lib.hid (fun W hb => HMS.out hle W hb)
        have C4 := Lib.hid (fun W => HBS.out hle W)
        go_wp2_with fail
        refine (C3.out _ hbf).mono ?_
        rintro e w6 ⟨rfl, hb6⟩
        have hbg := hbf.trans (hb6.mono hbf.size)
        clear hb6 hbf C3
        rcases num_cases N1.out with ⟨k, rfl, hk0, hk1⟩ | ⟨k, f, rfl, hf⟩
        · rw [errV_0]
          rcases wr_cases (WK.out k) with ⟨T3, hT3⟩ | ⟨T3, hT3, hTl3, hTP3⟩
          · have := I1.out k hk0 hk1
            rw [hT3] at this
            cases this
          · have C1 := Lib.hid (fun W hb => HMT.out k W hb)
            rw [hT3] at C1
            have C2 := Lib.hid (fun W hb => HML.out T3 (by omega) W hb)
            rw [hTP3] at C2
            clear hT3 hTP3
            go_wp2_with fail
            refine (C1.out _ hbg).mono ?_
            rintro e w7 ⟨rfl, hb7⟩
            rw [errV_0]
            have hbe7 := hbg.trans (hb7.mono hbg.size)
            clear hb7 hbg C1
            go_wp2_with fail
            refine (C2.out _ hbe7).mono ?_
            rintro e w8 ⟨rfl, hb8⟩
            rw [errV_0]
            have hbh := hbe7.trans (hb8.mono hbe7.size)
            clear hb8 hbe7 C2
            go_upto_region 22 with fail
            go_wp2_with fail
            refine (C4.out _).mono ?_
            rintro e w9 ⟨rfl, hb9⟩
            have hbi := hbh.trans (hb9.mono hbh.size)
            clear hb9 hbh C4
            rcases num_cases N2.out with ⟨k2, rfl, hq0, hq1⟩ | ⟨k2, f2, rfl, hf2⟩
            · rw [errV_0]
              rcases wr_cases (WL.out k2) with ⟨T4, hT4⟩ | ⟨T4, hT4, hTl4, hTP4⟩
              · have := I2.out k2 hq0 hq1
                rw [hT4] at this
                cases this
              · have C1 := Lib.hid (fun W hb => HBT.out k2 W hb)
                rw [hT4] at C1
                have C2 := Lib.hid (fun W => HBL.out T4 (by omega) W)
                rw [hTP4] at C2
                clear hT4 hTP4
                go_wp2_with fail
                refine (C1.out _ hbi).mono ?_
                rintro e w10 ⟨rfl, hb10⟩
                rw [errV_0]
                have hbj := hbi.trans (hb10.mono hbi.size)
                clear hb10 hbi C1
                go_wp2_with fail
                refine (C2.out _).mono ?_
                rintro e w11 ⟨rfl, hb11⟩
                rw [errV_0]
                have hbk := hbj.trans (hb11.mono hbj.size)
                clear hb11 hbj C2
                go_wp2_with fail
                go_ret
                exact ⟨rfl, hbk⟩
            · rw [errV_pos f2 hf2]
              go_wp2_with fail
              go_ret
              exact ⟨rfl, hbi⟩
        · rw [errV_pos f hf]
          have hbh := hbg
          go_upto_region 22 with fail
          go_wp2_with fail
          refine (C4.out _).mono ?_
          rintro e w9 ⟨rfl, hb9⟩
          have hbi := hbh.trans (hb9.mono hbh.size)
          clear hb9 hbh C4
          rcases num_cases N2.out with ⟨k2, rfl, hq0, hq1⟩ | ⟨k2, f2, rfl, hf2⟩
          · rw [errV_0]
            rcases wr_cases (WL.out k2) with ⟨T4, hT4⟩ | ⟨T4, hT4, hTl4, hTP4⟩
            · have := I2.out k2 hq0 hq1
              rw [hT4] at this
              cases this
            · have C1 := Lib.hid (fun W hb => HBT.out k2 W hb)
              rw [hT4] at C1
              have C2 := Lib.hid (fun W => HBL.out T4 (by omega) W)
              rw [hTP4] at C2
              clear hT4 hTP4
              go_wp2_with fail
              refine (C1.out _ hbi).mono ?_
              rintro e w10 ⟨rfl, hb10⟩
              rw [errV_0]
              have hbj := hbi.trans (hb10.mono hbi.size)
              clear hb10 hbi C1
              go_wp2_with fail
              refine (C2.out _).mono ?_
              rintro e w11 ⟨rfl, hb11⟩
              rw [errV_0]
              have hbk := hbj.trans (hb11.mono hbj.size)
              clear hb11 hbj C2
              go_wp2_with fail
              go_ret
              exact ⟨rfl, hbk⟩
          · rw [errV_pos f2 hf2]
            go_wp2_with fail
            go_ret
            exact ⟨rfl, hbi⟩
  · have C1 := Lib.hid (fun W hb => HMT.out n W hb)
    rw [hT] at C1
    have C2 := Lib.hid (fun W hb => HML.out T (by omega) W hb)
    rw [hTP] at C2
    clear hT hTP
    go_enter Tryd.func5, Tryd.ntmps5
    go_wp2_with fail
    refine H0.out.mono ?_
    rintro e w1 ⟨rfl, hb1⟩
    rw [errV_0]
    clear H0
    go_wp2_with fail
    refine (C1.out _ hb1).mono ?_
    rintro e w2 ⟨rfl, hb2⟩
    rw [errV_0]
    have hbe2 := hb1.trans (hb2.mono hb1.size)
    clear hb1 hb2 C1
    go_wp2_with fail
    refine (C2.out _ hbe2).mono ?_
    rintro e w3 ⟨rfl, hb3⟩
    rw [errV_0]
    have hbe := hbe2.trans (hb3.mono hbe2.size)
    clear hbe2 hb3 C2
    go_upto_region 9 with fail
    rcases WB with ⟨T2, hT2⟩ | ⟨T2, hT2, hTl2, hTP2⟩
    · have C1 := Lib.hid (fun W hb => HBT.out n W hb)
      rw [hT2] at C1
      clear hT2
      go_wp2_with fail
      refine (C1.out _ hbe).mono ?_
      rintro e w4 ⟨rfl, hb4⟩
      rw [errV_pos 1 (by omega)]
      have hbf := hbe.trans (hb4.mono hbe.size)
      clear hbe hb4 C1
      go_upto_region 14 with fail
      by_cases h100 : 100 < s.size
      · go_wp2_with fail
        go_ret
        exact ⟨rfl, hbf⟩
      · have hle : s.size ≤ 100 := by omega
        have C3 := Lib.hid (fun W hb => HMS.out hle W hb)
        have C4 := Lib.hid (fun W => HBS.out hle W)
        go_wp2_with fail
        refine (C3.out _ hbf).mono ?_
        rintro e w6 ⟨rfl, hb6⟩
        have hbg := hbf.trans (hb6.mono hbf.size)
        clear hb6 hbf C3
        rcases num_cases N1.out with ⟨k, rfl, hk0, hk1⟩ | ⟨k, f, rfl, hf⟩
        · rw [errV_0]
          rcases wr_cases (WK.out k) with ⟨T3, hT3⟩ | ⟨T3, hT3, hTl3, hTP3⟩
          · have := I1.out k hk0 hk1
            rw [hT3] at this
            cases this
          · have C1 := Lib.hid (fun W hb => HMT.out k W hb)
            rw [hT3] at C1
            have C2 := Lib.hid (fun W hb => HML.out T3 (by omega) W hb)
            rw [hTP3] at C2
            clear hT3 hTP3
            go_wp2_with fail
            refine (C1.out _ hbg).mono ?_
            rintro e w7 ⟨rfl, hb7⟩
            rw [errV_0]
            have hbe7 := hbg.trans (hb7.mono hbg.size)
            clear hb7 hbg C1
            go_wp2_with fail
            refine (C2.out _ hbe7).mono ?_
            rintro e w8 ⟨rfl, hb8⟩
            rw [errV_0]
            have hbh := hbe7.trans (hb8.mono hbe7.size)
            clear hb8 hbe7 C2
            go_upto_region 22 with fail
            go_wp2_with fail
            refine (C4.out _).mono ?_
            rintro e w9 ⟨rfl, hb9⟩
            have hbi := hbh.trans (hb9.mono hbh.size)
            clear hb9 hbh C4
            rcases num_cases N2.out with ⟨k2, rfl, hq0, hq1⟩ | ⟨k2, f2, rfl, hf2⟩
            · rw [errV_0]
              rcases wr_cases (WL.out k2) with ⟨T4, hT4⟩ | ⟨T4, hT4, hTl4, hTP4⟩
              · have := I2.out k2 hq0 hq1
                rw [hT4] at this
                cases this
              · have C1 := Lib.hid (fun W hb => HBT.out k2 W hb)
                rw [hT4] at C1
                have C2 := Lib.hid (fun W => HBL.out T4 (by omega) W)
                rw [hTP4] at C2
                clear hT4 hTP4
                go_wp2_with fail
                refine (C1.out _ hbi).mono ?_
                rintro e w10 ⟨rfl, hb10⟩
                rw [errV_0]
                have hbj := hbi.trans (hb10.mono hbi.size)
                clear hb10 hbi C1
                go_wp2_with fail
                refine (C2.out _).mono ?_
                rintro e w11 ⟨rfl, hb11⟩
                rw [errV_0]
                have hbk := hbj.trans (hb11.mono hbj.size)
                clear hb11 hbj C2
                go_wp2_with fail
                go_ret
                exact ⟨rfl, hbk⟩
            · rw [errV_pos f2 hf2]
              go_wp2_with fail
              go_ret
              exact ⟨rfl, hbi⟩
        · rw [errV_pos f hf]
          have hbh := hbg
          go_upto_region 22 with fail
          go_wp2_with fail
          refine (C4.out _).mono ?_
          rintro e w9 ⟨rfl, hb9⟩
          have hbi := hbh.trans (hb9.mono hbh.size)
          clear hb9 hbh C4
          rcases num_cases N2.out with ⟨k2, rfl, hq0, hq1⟩ | ⟨k2, f2, rfl, hf2⟩
          · rw [errV_0]
            rcases wr_cases (WL.out k2) with ⟨T4, hT4⟩ | ⟨T4, hT4, hTl4, hTP4⟩
            · have := I2.out k2 hq0 hq1
              rw [hT4] at this
              cases this
            · have C1 := Lib.hid (fun W hb => HBT.out k2 W hb)
              rw [hT4] at C1
              have C2 := Lib.hid (fun W => HBL.out T4 (by omega) W)
              rw [hTP4] at C2
              clear hT4 hTP4
              go_wp2_with fail
              refine (C1.out _ hbi).mono ?_
              rintro e w10 ⟨rfl, hb10⟩
              rw [errV_0]
              have hbj := hbi.trans (hb10.mono hbi.size)
              clear hb10 hbi C1
              go_wp2_with fail
              refine (C2.out _).mono ?_
              rintro e w11 ⟨rfl, hb11⟩
              rw [errV_0]
              have hbk := hbj.trans (hb11.mono hbj.size)
              clear hb11 hbj C2
              go_wp2_with fail
              go_ret
              exact ⟨rfl, hbk⟩
          · rw [errV_pos f2 hf2]
            go_wp2_with fail
            go_ret
            exact ⟨rfl, hbi⟩
    · have C1 := Lib.hid (fun W hb => HBT.out n W hb)
      rw [hT2] at C1
      have C2 := Lib.hid (fun W => HBL.out T2 (by omega) W)
      rw [hTP2] at C2
      clear hT2 hTP2
      go_wp2_with fail
      refine (C1.out _ hbe).mono ?_
      rintro e w4 ⟨rfl, hb4⟩
      rw [errV_0]
      have hbe4 := hbe.trans (hb4.mono hbe.size)
      clear hbe hb4 C1
      go_wp2_with fail
      refine (C2.out _).mono ?_
      rintro e w5 ⟨rfl, hb5⟩
      rw [errV_0]
      have hbf := hbe4.trans (hb5.mono hbe4.size)
      clear hbe4 hb5 C2
      go_upto_region 14 with fail
      by_cases h100 : 100 < s.size
      · go_wp2_with fail
        go_ret
        exact ⟨rfl, hbf⟩
      · have hle : s.size ≤ 100 := by omega
        have C3 := Lib.hid (fun W hb => HMS.out hle W hb)
        have C4 := Lib.hid (fun W => HBS.out hle W)
        go_wp2_with fail
        refine (C3.out _ hbf).mono ?_
        rintro e w6 ⟨rfl, hb6⟩
        have hbg := hbf.trans (hb6.mono hbf.size)
        clear hb6 hbf C3
        rcases num_cases N1.out with ⟨k, rfl, hk0, hk1⟩ | ⟨k, f, rfl, hf⟩
        · rw [errV_0]
          rcases wr_cases (WK.out k) with ⟨T3, hT3⟩ | ⟨T3, hT3, hTl3, hTP3⟩
          · have := I1.out k hk0 hk1
            rw [hT3] at this
            cases this
          · have C1 := Lib.hid (fun W hb => HMT.out k W hb)
            rw [hT3] at C1
            have C2 := Lib.hid (fun W hb => HML.out T3 (by omega) W hb)
            rw [hTP3] at C2
            clear hT3 hTP3
            go_wp2_with fail
            refine (C1.out _ hbg).mono ?_
            rintro e w7 ⟨rfl, hb7⟩
            rw [errV_0]
            have hbe7 := hbg.trans (hb7.mono hbg.size)
            clear hb7 hbg C1
            go_wp2_with fail
            refine (C2.out _ hbe7).mono ?_
            rintro e w8 ⟨rfl, hb8⟩
            rw [errV_0]
            have hbh := hbe7.trans (hb8.mono hbe7.size)
            clear hb8 hbe7 C2
            go_upto_region 22 with fail
            go_wp2_with fail
            refine (C4.out _).mono ?_
            rintro e w9 ⟨rfl, hb9⟩
            have hbi := hbh.trans (hb9.mono hbh.size)
            clear hb9 hbh C4
            rcases num_cases N2.out with ⟨k2, rfl, hq0, hq1⟩ | ⟨k2, f2, rfl, hf2⟩
            · rw [errV_0]
              rcases wr_cases (WL.out k2) with ⟨T4, hT4⟩ | ⟨T4, hT4, hTl4, hTP4⟩
              · have := I2.out k2 hq0 hq1
                rw [hT4] at this
                cases this
              · have C1 := Lib.hid (fun W hb => HBT.out k2 W hb)
                rw [hT4] at C1
                have C2 := Lib.hid (fun W => HBL.out T4 (by omega) W)
                rw [hTP4] at C2
                clear hT4 hTP4
                go_wp2_with fail
                refine (C1.out _ hbi).mono ?_
                rintro e w10 ⟨rfl, hb10⟩
                rw [errV_0]
                have hbj := hbi.trans (hb10.mono hbi.size)
                clear hb10 hbi C1
                go_wp2_with fail
                refine (C2.out _).mono ?_
                rintro e w11 ⟨rfl, hb11⟩
                rw [errV_0]
                have hbk := hbj.trans (hb11.mono hbj.size)
                clear hb11 hbj C2
                go_wp2_with fail
                go_ret
                exact ⟨rfl, hbk⟩
            · rw [errV_pos f2 hf2]
              go_wp2_with fail
              go_ret
              exact ⟨rfl, hbi⟩
        · rw [errV_pos f hf]
          have hbh := hbg
          go_upto_region 22 with fail
          go_wp2_with fail
          refine (C4.out _).mono ?_
          rintro e w9 ⟨rfl, hb9⟩
          have hbi := hbh.trans (hb9.mono hbh.size)
          clear hb9 hbh C4
          rcases num_cases N2.out with ⟨k2, rfl, hq0, hq1⟩ | ⟨k2, f2, rfl, hf2⟩
          · rw [errV_0]
            rcases wr_cases (WL.out k2) with ⟨T4, hT4⟩ | ⟨T4, hT4, hTl4, hTP4⟩
            · have := I2.out k2 hq0 hq1
              rw [hT4] at this
              cases this
            · have C1 := Lib.hid (fun W hb => HBT.out k2 W hb)
              rw [hT4] at C1
              have C2 := Lib.hid (fun W => HBL.out T4 (by omega) W)
              rw [hTP4] at C2
              clear hT4 hTP4
              go_wp2_with fail
              refine (C1.out _ hbi).mono ?_
              rintro e w10 ⟨rfl, hb10⟩
              rw [errV_0]
              have hbj := hbi.trans (hb10.mono hbi.size)
              clear hb10 hbi C1
              go_wp2_with fail
              refine (C2.out _).mono ?_
              rintro e w11 ⟨rfl, hb11⟩
              rw [errV_0]
              have hbk := hbj.trans (hb11.mono hbj.size)
              clear hb11 hbj C2
              go_wp2_with fail
              go_ret
              exact ⟨rfl, hbk⟩
          · rw [errV_pos f2 hf2]
            go_wp2_with fail
            go_ret
            exact ⟨rfl, hbi⟩
end
end Go.Proofs.YticmfflnenoplabDoor
