/- Amounts: ostleryref.MilliText, BytesText: their walks. -/
import Derived.Test.YticmfflnenoplaaDoorAmG
namespace Go.Proofs.YticmfflnenoplaaDoor
open Go.RowKit Am
def RetSI (s : List UInt8) (f : Int) (w : World) (e : Ending) (w' : World) : Prop := e = .returned (.tuple #[.string ⟨s.toArray⟩, .int .i64 f]) ∧ Below w.heap.size w w'
theorem dec_len16 (m : Nat) (h : m ≤ 1125899906842624) : (Lib.decDigits m).length ≤ 16 := dec_len m 16 (by omega) (by omega)
namespace Am
def nameK (k : Nat) : List UInt8 := match k with | 0 => [] | 1 => [75, 105] | 2 => [77, 105] | 3 => [71, 105] | _ => [84, 105]
theorem bytesT_is (n k n0 : Nat) (hk : k ≤ 4) (hn : n * 1024 ^ k = n0) (h0 : n0 = 0 → k = 0) (hs : n = 0 ∨ k = 4 ∨ n % 1024 ≠ 0) : bytesT n0 = Lib.decDigits n ++ nameK k := by
  unfold bytesT units
  simp only [textU]
  rcases (show k = 0 ∨ k = 1 ∨ k = 2 ∨ k = 3 ∨ k = 4 by omega) with rfl | rfl | rfl | rfl | rfl
  · rw [Nat.pow_zero, Nat.mul_one] at hn
    subst hn
    by_cases hz : n = 0
    · subst hz
      simp only [Nat.lt_irrefl, false_and, if_false]
      decide +kernel
    · rw [if_neg (by omega), if_neg (by omega), if_neg (by omega), if_neg (by omega), if_pos (by omega), itoa_nat, Nat.div_one]
      rfl
  · rw [show 1024 ^ 1 = 1024 by rfl] at hn
    rw [if_neg (by omega), if_neg (by omega), if_neg (by omega), if_pos (by omega), itoa_nat, show n0 / 1024 = n by omega]
    rfl
  · rw [show 1024 ^ 2 = 1048576 by rfl] at hn
    rw [if_neg (by omega), if_neg (by omega), if_pos (by omega), itoa_nat, show n0 / 1048576 = n by omega]
    rfl
  · rw [show 1024 ^ 3 = 1073741824 by rfl] at hn
    rw [if_neg (by omega), if_pos (by omega), itoa_nat, show n0 / 1073741824 = n by omega]
    rfl
  · rw [show 1024 ^ 4 = 1099511627776 by rfl] at hn
    rw [if_pos (by omega), itoa_nat, show n0 / 1099511627776 = n by omega]
    rfl
end Am
def nameCells : Array Value := #[.string ⟨#[]⟩, .string ⟨#[75, 105]⟩, .string ⟨#[77, 105]⟩, .string ⟨#[71, 105]⟩, .string ⟨#[84, 105]⟩]
theorem name_at (k : Nat) (h : k ≤ 4) : nameCells[k]? = some (.string ⟨(nameK k).toArray⟩) ∧ (nameK k).length ≤ 2 := by
  rcases (show k = 0 ∨ k = 1 ∨ k = 2 ∨ k = 3 ∨ k = 4 by omega) with rfl | rfl | rfl | rfl | rfl <;> exact ⟨rfl, by simp [nameK]⟩
section
attribute [local irreducible] nameK nameCells bytesT
set_option maxHeartbeats 1000000 in
theorem MilliTextR_any (n : Int) (h0 : 0 ≤ n) (h1 : n ≤ 1000000) (w : World) : Calls Tryd.prog 20 #[.int .i64 n] w (RetSI (milliT n) 0 w) := by
  obtain ⟨m, rfl⟩ : ∃ m : Nat, n = m := ⟨n.toNat, by omega⟩
  by_cases hm : m % 1000 = 0
  · have HM := Lib.hid (show milliT m = Lib.decDigits (m / 1000) by
      unfold milliT
      rw [if_pos (by omega), ← itoa_nat]
      congr 1)
    have HI := Lib.hid (Decimal_any (m / 1000) (by omega) w)
    have hmi : (m : Int) % 1000 = 0 := by omega
    go_enter Tryd.func20, Tryd.ntmps20
    go_wp2_with fail
    refine HI.out.mono ?_
    rintro e w1 ⟨rfl, hb1⟩
    go_wp2_with fail
    go_ret2
    exact ⟨by rw [HM.out]; rfl, hb1⟩
  · have HM := Lib.hid (show milliT m = Lib.decDigits m ++ [109] by
      unfold milliT
      rw [if_neg (by omega), itoa_nat])
    have HI := Lib.hid (Decimal_any m (by omega) w)
    have hl := dec_len16 m (by omega)
    have hmi : ¬ (m : Int) % 1000 = 0 := by omega
    go_enter Tryd.func20, Tryd.ntmps20
    go_wp2_with fail
    refine HI.out.mono ?_
    rintro e w1 ⟨rfl, hb1⟩
    generalize Lib.decDigits m = l at *
    go_wp2_with fail
    go_ret2
    exact ⟨by rw [HM.out]; rfl, hb1⟩
set_option maxHeartbeats 1000000 in
theorem MilliTextR_bad (n : Int) (h : n < 0 ∨ 1000000 < n) (w : World) : Calls Tryd.prog 20 #[.int .i64 n] w (RetSI [] 1 w) := by
  rcases h with h | h
  · go_enter Tryd.func20, Tryd.ntmps20
    go_wp2_with fail
    go_ret2
    exact ⟨rfl, Below.refl _ _⟩
  · have h2 : ¬ n < 0 := by omega
    go_enter Tryd.func20, Tryd.ntmps20
    go_wp2_with fail
    go_ret2
    exact ⟨rfl, Below.refl _ _⟩
set_option maxHeartbeats 1000000 in
theorem BytesTextR_bad (n : Int) (h : n < 0 ∨ 1125899906842624 < n) (w : World) : Calls Tryd.prog 22 #[.int .i64 n] w (RetSI [] 1 w) := by
  rcases h with h | h
  · go_enter Tryd.func22, Tryd.ntmps22
    go_wp2_with fail
    go_ret2
    exact ⟨rfl, Below.refl _ _⟩
  · have h2 : ¬ n < 0 := by omega
    go_enter Tryd.func22, Tryd.ntmps22
    go_wp2_with fail
    go_ret2
    exact ⟨rfl, Below.refl _ _⟩
set_option maxHeartbeats 1000000 in
theorem BytesTextR_any (m : Nat) (h1 : m ≤ 1125899906842624) (w : World) : Calls Tryd.prog 22 #[.int .i64 m] w (RetSI (bytesT m) 0 w) := by
  have kb := Blk.new w 9 nameCells
  have hb : Below w.heap.size w (w.alloc (.cells nameCells 9)) := (Below.refl _ _).alloc (Nat.le_refl _) _
  go_enter Tryd.func22, Tryd.ntmps22
  go_upto_region 5 with fail
  rw [show #[Value.string ⟨#[]⟩, .string ⟨#[75, 105]⟩, .string ⟨#[77, 105]⟩, .string ⟨#[71, 105]⟩, .string ⟨#[84, 105]⟩] = nameCells by unfold nameCells; rfl]
  have hws : w.heap.size ≤ (w.alloc (.cells nameCells 9)).heap.size := hb.size
  generalize w.alloc (.cells nameCells 9) = wa at *
  go_loopw [0, 5] (fun a i wi => ∃ n k : Nat, i = .int .i64 k ∧ k ≤ 4 ∧ a = .int .i64 n ∧ n ≤ 1125899906842624 ∧ wi = wa ∧ Hid (n * 1024 ^ k = m ∧ (m = 0 → k = 0))) (fun _ i _ => 4 - (intOf i).toNat)
  case atStart => exact ⟨m, 0, rfl, by omega, rfl, h1, rfl, by simp, fun _ => rfl⟩
  case round =>
    obtain ⟨n, k, rfl, hk, rfl, hn, rfl, hI⟩ := hrel
    by_cases hc : 0 < n ∧ k < 4 ∧ n % 1024 = 0
    · have hI2 : Hid (n / 1024 * 1024 ^ (k + 1) = m ∧ (m = 0 → k + 1 = 0)) := Lib.hid (by
        obtain ⟨a, b⟩ := hI.out
        refine ⟨?_, fun hm => ?_⟩
        · rw [Nat.pow_succ, Nat.mul_comm (1024 ^ k), ← Nat.mul_assoc, Nat.div_mul_cancel (Nat.dvd_of_mod_eq_zero hc.2.2)]
          exact a
        · subst hm
          have : 0 < n * 1024 ^ k := Nat.mul_pos hc.1 (Nat.pow_pos (by omega))
          omega)
      obtain ⟨c1, c2, c3⟩ := hc
      have hmi : (n : Int) % 1024 = 0 := by omega
      clear hI
      go_wp2_with fail
      go_roundw
      case rel => exact ⟨n / 1024, k + 1, by go_num, by omega, by go_num, by omega, by first | trivial | rfl, hI2.out⟩
      case measure => simp [intOf]; omega
    · have HT := Lib.hid (bytesT_is n k m hk hI.out.1 hI.out.2 (by omega))
      have ⟨hnm, hnl⟩ := name_at k hk
      have hl := dec_len16 n hn
      have e0 := blk_at kb k _ hnm
      have lk := kb.lt
      have HD := Lib.hid (fun W => Decimal_any n hn W)
      have hc2 : n = 0 ∨ (0 < n ∧ k = 4) ∨ (0 < n ∧ k < 4 ∧ ¬ (n : Int) % 1024 = 0) := by omega
      clear hc hI hnm
      generalize nameK k = nm at *
      rcases hc2 with rfl | ⟨c1, rfl⟩ | ⟨c1, c2, c3⟩
      all_goals
        go_upto_region 8 with fail
        have hI : Below wr.heap.size wr wr.drew := (Below.refl _ _).drew
        refine Flo.region 6 [(0, true), (2, true), (3, true), (4, true), (5, true), (1, false)] (fun v => Below wr.heap.size wr v) (by kernel_rfl) (by kernel_rfl) rfl hI ?_
        simp only [List.drop_succ_cons, List.drop_zero]
        iterate 5 (apply Flo.op rfl (hI := hI); (· intro v hv K hK; obtain ⟨hc, hf⟩ := Flo.bcl hv; go_wp2_with fail; all_goals first | exact Flo.noUndef (by with_reducible assumption) | exact hK); (· rfl))
        refine Flo.seq rfl fun K hK => ?_
        go_wp2_with fail
        refine (HD.out _).mono ?_
        rintro e w3 ⟨rfl, hb3⟩
        go_wp2_with fail
        refine hK _ _ (hI.trans (hb3.mono hI.size)) ?_
        refine Flo.tail fun K hK => ?_
        go_wp2_with fail
        go_ret2
        exact ⟨by rw [HT.out]; rfl, hb.drew.trans (hb3.mono hb.drew.size)⟩
end
end Go.Proofs.YticmfflnenoplaaDoor
