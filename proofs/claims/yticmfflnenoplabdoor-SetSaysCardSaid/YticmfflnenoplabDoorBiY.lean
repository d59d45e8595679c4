/- Sets of processors: SetSays: its walk. No statement is proved here. -/
import Derived.Test.YticmfflnenoplabDoorSame
namespace Go.Proofs.YticmfflnenoplabDoor
open Go.RowKit Go.Deep Pop Bi Am
theorem any_is (a : Nat) (n : Int) (_ha : a < 18446744073709551616) : (listF a 64).any (fun x : Nat => (x : Int) == n) = hasF a n := by
  rw [Bool.eq_iff_iff, List.any_eq_true]
  simp only [listF, List.mem_filter, List.mem_range, beq_iff_eq, hasF, Bool.and_eq_true, decide_eq_true_eq]
  constructor
  · rintro ⟨x, ⟨h1, h2⟩, rfl⟩
    exact ⟨⟨by omega, by omega⟩, by simpa using h2⟩
  · rintro ⟨⟨h1, h2⟩, h3⟩
    exact ⟨n.toNat, ⟨by omega, h3⟩, by omega⟩
theorem cnt_le (a k : Nat) : cnt a k ≤ k := by
  rw [← listF_cnt]
  exact listF_len a k
section
attribute [local irreducible] parseP textP ofP listF hasF insF cnt
set_option maxRecDepth 100000 in
set_option maxHeartbeats 8000000 in
theorem SetSays_any (a b : Nat) (n : Int) (v : Value) (l : List Int) (s : ByteArray) (ha : a < 18446744073709551616) (hb : b < 18446744073709551616) (hs : s.size ≤ maxLen) (w : World) (hL : LayS w) (h : RS w (· < w.heap.size) 1 RInt [v] l) : Calls Tryd.prog 3 #[.int .u64 a, .int .u64 b, .int .i64 n, v, .string s] w (RetBB true w) := by
  have HRS := Lib.hid (fun W (hW : Below w.heap.size w W) => RS.move (S' := (· < w.heap.size)) (R' := RInt) (w' := W) h (fun q hq => hW.block q hq) (fun q hq => hq) (fun cs x _ hx => hx))
  obtain ⟨A, cap, hv, hl, hcap, hA⟩ := h.form
  obtain rfl : v = _ := by simpa using hv
  have HS := Lib.hid (sets_any w hL)
  have HL := Lib.hid hL
  unfold maxLen at hcap hs
  clear hL h hv hA
  go_enter Tryd.func3, Tryd.ntmps3
  go_wp2_with fail
  refine HS.out.mono ?_
  rintro e w1 ⟨rfl, hb1⟩
  clear HS
  by_cases h1 : 100 < l.length
  · have h1i : (100 : Int) < l.length := by omega
    go_wp2_with fail
    go_ret
    exact ⟨rfl, hb1⟩
  have h1i : (l.length : Int) ≤ 100 := by omega
  by_cases h2 : 400 < s.size
  · have h2i : (400 : Int) < s.size := by omega
    go_wp2_with fail
    go_ret
    exact ⟨rfl, hb1⟩
  have h2i : (s.size : Int) ≤ 400 := by omega
  have HOF := Lib.hid (Of_any _ l _ w1 (HRS.out w1 hb1))
  have HRO := Lib.hid (ROf_any _ l _ w1 (HRS.out w1 hb1))
  obtain ⟨hof, hof2⟩ := ofP_lt l
  have HSM := Lib.hid (fun W => same_yes (ofP l).2 (by omega) W)
  clear HRS
  go_wp2_with fail
  refine HOF.out.mono ?_
  rintro e w2 ⟨rfl, rfl⟩
  go_wp2_with fail
  refine HRO.out.mono ?_
  rintro e w3 ⟨rfl, rfl⟩
  generalize (ofP l).2 = oe at *
  generalize (ofP l).1 = ov at *
  clear HOF HRO
  have HLA := Lib.hid (fun W (hW : Below w.heap.size w W) => List_any a ha W (HL.out.below hW))
  have HRL := Lib.hid (fun W => RList_any a ha W)
  have HIN := Lib.hid (fun W => Inside_any a b ha hb W)
  have HTX := Lib.hid (fun W (hW : Below w.heap.size w W) => Text_any a ha W (HL.out.below hW))
  have HST := Lib.hid (fun W => SetText_any a ha W)
  have HCN := Lib.hid (fun W => Count_any a ha W)
  have HRC := Lib.hid (fun W => RCount_any a ha W)
  have hand := u64_and_nat a b ha hb
  have hins : (((a &&& b : Nat) : Int) == (a : Int)) = insF a b := by
    unfold insF
    rw [Bool.eq_iff_iff, beq_iff_eq, decide_eq_true_eq]
    omega
  generalize (a &&& b : Nat) = ab at *
  have HPA := Lib.hid (fun W (hW : Below w.heap.size w W) => Parse_any s (by omega) W (HL.out.below hW))
  have HRD := Lib.hid (fun W => ReadSet_any s (by omega) W)
  have HHA := Lib.hid (fun W => Has_any a n ha W)
  have HS2 := Lib.hid (fun W => same_yes (parseP s.data.toList).2 (parseP_sure s.data.toList).2 W)
  clear HL
  go_wp2_with fail
  refine (HSM.out _).mono ?_
  rintro e w2 ⟨rfl, rfl⟩
  go_wp2_with fail
  refine (HLA.out _ hb1).mono ?_
  intro e w3 hP
  have hP2 : RetL (listF a 64) w1 e w3 := hP
  obtain ⟨A3, c3, rfl, ho3, hb3⟩ := hP2
  have HO3 := Lib.hid ho3
  have hb3' := hb1.trans (hb3.mono hb1.size)
  clear hP ho3
  go_wp2_with fail
  refine (HRL.out _).mono ?_
  intro e w4 hP
  have hP2 : RetL (listF a 64) w3 e w4 := hP
  obtain ⟨A4, c4, rfl, ho4, hb4⟩ := hP2
  have HO4 := Lib.hid ho4
  have hb4' := hb3'.trans (hb4.mono hb3'.size)
  clear hP ho4
  go_wp2_with fail
  refine (SameNumbers_any _ _ _ _ w4 (fun q hq => hq) (rn_of (own_below HO3.out hb4)) (rn_of HO4.out)).mono ?_
  rintro e w5 ⟨rfl, hb5⟩
  have hb5' := hb4'.trans (hb5.mono hb4'.size)
  clear hb5 hb4 hb4' hb3 hb3' HO3 HO4
  go_wp2_with fail
  refine (HCN.out _).mono ?_
  rintro e w6 ⟨rfl, rfl⟩
  go_wp2_with fail
  refine (HRC.out _).mono ?_
  rintro e w6 ⟨rfl, hb6⟩
  have hb6' := hb5'.trans (hb6.mono hb5'.size)
  clear hb6 hb5'
  rw [listF_cnt]
  go_wp2_with fail
  refine (HIN.out _).mono ?_
  rintro e w7 ⟨rfl, rfl⟩
  go_wp2_with fail
  refine (HTX.out _ hb6').mono ?_
  rintro e w8 ⟨rfl, hb8⟩
  have hb8' := hb6'.trans (hb8.mono hb6'.size)
  go_wp2_with fail
  refine (HST.out _).mono ?_
  rintro e w9 ⟨rfl, hb9⟩
  have hb9' := hb8'.trans (hb9.mono hb8'.size)
  clear hb8 hb8' hb9 hb6' HTX HST HIN HCN HRC HLA
  go_wp2_with fail
  refine (HRL.out _).mono ?_
  intro e w10 hP
  have hP2 : RetL (listF a 64) w9 e w10 := hP
  obtain ⟨A5, c5, rfl, ho5, hb10⟩ := hP2
  have HO5 := Lib.hid ho5
  have hb10' := hb9'.trans (hb10.mono hb9'.size)
  clear hP ho5 hb10 hb9' HRL
  go_wp2_with fail
  have HAN := Lib.hid (any_is a n ha)
  have hl5 : (listF a 64).length ≤ 64 := by rw [listF_cnt]; exact cnt_le a 64
  generalize listF a 64 = L at *
  obtain ⟨A6, c6, e6, hc6, hc62, h6⟩ := own_form HO5.out
  simp only [Value.slice.injEq, true_and] at e6
  obtain ⟨rfl, rfl⟩ := e6
  have H6 := Lib.hid h6
  clear h6
  have HA0 : Hid ((L.take 0).any (fun x : Nat => (x : Int) == n) = false) := Lib.hid rfl
  go_loop [16, 88] (fun o i => ∃ (k : Nat) (bo : Bool), i = .int .i64 k ∧ k ≤ L.length ∧ o = .bool bo ∧ Hid ((L.take k).any (fun x : Nat => (x : Int) == n) = bo)) (fun _ i => L.length - (intOf i).toNat)
  case atStart => exact ⟨0, false, rfl, by omega, rfl, HA0⟩
  case round =>
    clear HA0
    obtain ⟨k, bo, rfl, hk, rfl, HB⟩ := hrel
    by_cases hlt : k < L.length
    · obtain ⟨g, rfl, hg, _⟩ := H6.out (by omega)
      have g0 : w10.cell? ⟨g, k, none⟩ = some (.int .i64 ((L[k] : Nat) : Int)) := by
        have := HO5.out.cellAt k (by omega)
        rw [this]
        simp [natV, hlt]
      have HN : Hid ((L.take (k + 1)).any (fun x : Nat => (x : Int) == n) = (bo || ((L[k] : Int) == n))) := Lib.hid (by
        rw [List.take_succ_eq_append_getElem hlt, List.any_append, HB.out]
        simp)
      generalize L[k] = x at *
      clear HB
      cases bo
      · go_wp2_with fail
        go_round
        case rel => exact ⟨k + 1, (x : Int) == n, by go_num, by omega, by simp, Lib.hid (by rw [HN.out]; rfl)⟩
        case measure => simp [intOf]; omega
      · go_wp2_with fail
        go_round
        case rel => exact ⟨k + 1, true, by go_num, by omega, by simp, Lib.hid (by rw [HN.out]; rfl)⟩
        case measure => simp [intOf]; omega
    · obtain rfl : k = L.length := by omega
      have HF : Hid (bo = hasF a n) := Lib.hid (by rw [← HAN.out, ← HB.out, List.take_length])
      clear HB HAN
      go_wp2_with fail
      refine (HPA.out _ hb10').mono ?_
      rintro e w11 ⟨rfl, hb11⟩
      have hb11' := hb10'.trans (hb11.mono hb10'.size)
      clear hb11 hb10'
      go_wp2_with fail
      refine (HRD.out _).mono ?_
      rintro e w12 ⟨rfl, hb12⟩
      have hb12' := hb11'.trans (hb12.mono hb11'.size)
      clear hb12 hb11' HPA HRD
      generalize (parseP s.data.toList).2 = pe at *
      generalize (parseP s.data.toList).1 = pv at *
      obtain rfl := HF.out
      go_wp2_with fail
      refine (HS2.out _).mono ?_
      rintro e w13 ⟨rfl, rfl⟩
      go_wp2_with fail
      refine (HHA.out _).mono ?_
      rintro e w13 ⟨rfl, rfl⟩
      go_wp2_with fail
      go_ret
      exact ⟨by first | rfl | simp, hb12'⟩
end
end Go.Proofs.YticmfflnenoplabDoor
