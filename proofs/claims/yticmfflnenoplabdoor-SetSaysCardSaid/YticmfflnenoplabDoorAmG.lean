/- Amounts: ostleryref.Decimal, digits: their walks. -/
import Derived.Test.YticmfflnenoplabDoorAmB
import Derived.Test.YticmfflnenoplabDoorAmF
import Derived.Test.YticmfflnenoplabDoorFloB
import Derived.Lib.SlBytesRow
namespace Go.Proofs.YticmfflnenoplabDoor
open Go.RowKit Am
def dg8 (k : Nat) : UInt8 := UInt8.ofNat (48 + k)
theorem dec_lo (n : Nat) (h : n < 10) : Lib.decDigits n = [dg8 n] := by rw [Lib.decDigits, dif_pos h]; rfl
theorem dec_hi (n : Nat) (h : ¬ n < 10) : Lib.decDigits n = Lib.decDigits (n / 10) ++ [dg8 (n % 10)] := by rw [Lib.decDigits, dif_neg h]; rfl
theorem ofNat48 (k : Nat) (h : k < 10) : (dg8 k).toNat = 48 + k := by
  unfold dg8
  rw [UInt8.toNat_ofNat']
  omega
theorem conv_byte (v : World) (b k : Nat) (h : k < 10) (hc : v.cell? ⟨b, 0, none⟩ = some (.int .u8 (48 + (k : Int)))) : (convert 92 9 (.slice (some ⟨b, 0, none⟩) 1 1)).run Tryd.prog v = .ok (.string ⟨#[dg8 k]⟩) v := by
  refine Lib.run_convert_whole v 92 5 9 Tryd.underlying92 Tryd.underlying5 Tryd.underlying9 b 0 ⟨#[dg8 k]⟩ ?_ 1
  intro i hi
  obtain rfl : i = 0 := by simp [ByteArray.size] at hi; exact hi
  rw [Nat.add_zero, hc]
  congr 2
  show _ = ((dg8 k).toNat : Int)
  rw [ofNat48 k h]
  omega
section
attribute [local irreducible] dg8
set_option maxRecDepth 100000 in
set_option maxHeartbeats 600000 in
theorem Decimal_any (n : Nat) : n ≤ 1125899906842624 → ∀ w, Calls Tryd.prog 34 #[.int .i64 n] w (fun e w' => e = .returned (.string ⟨(Lib.decDigits n).toArray⟩) ∧ Below w.heap.size w w') := by
  induction n using Nat.strongRecOn with
  | _ n ih =>
    intro hn w
    by_cases h : n < 10
    · have HD := Lib.hid (dec_lo n h)
      clear ih
      go_enter Tryd.func34, Tryd.ntmps34
      have kb := Blk.new w 5 #[.int .u8 (48 + (n : Int))]
      have hcv := conv_byte _ w.heap.size n h (blk_at kb 0 _ rfl)
      have hb1 : Below w.heap.size w (w.alloc (.cells #[.int .u8 (48 + (n : Int))] 5)) := (Below.refl _ _).alloc (Nat.le_refl _) _
      go_wp2_with fail
      go_ret
      exact ⟨by rw [HD.out]; rfl, hb1⟩
    · have HD := Lib.hid (dec_hi n h)
      have hi := ih (n / 10) (by omega) (by omega)
      have HI := Lib.hid hi
      have hlen : (Lib.decDigits (n / 10)).length ≤ 16 := dec_len (n / 10) 16 (by omega) (by omega)
      clear ih hi
      go_enter Tryd.func34, Tryd.ntmps34
      go_upto_region 5 with fail
      have hI : Below w.heap.size w w.drew := (Below.refl _ _).drew
      refine Flo.regionBr 9 5 [0, 1, 3, 4, 5, 6] #[true, true, false, true, true, true, true, false, false, false, false] (fun v => Below w.heap.size w v) (by kernel_rfl) (by kernel_rfl) rfl hI ?_
      unfold Flo.wpFs
      simp only [List.map_cons, List.map_nil]
      iterate 6 (apply Flo.op rfl (hI := hI); (· intro v hv K hK; obtain ⟨hc, hf⟩ := Flo.bcl hv; go_wp2_with fail; all_goals first | exact Flo.noUndef (by with_reducible assumption) | exact hK); (· rfl))
      refine Flo.nil ?_
      refine Flo.br2 (i := 2) (j := 7) (by kernel_rfl) rfl rfl (fun K hK => ?_) (fun K hK => ?_)
      · go_wp2_with fail
        refine (HI.out _).mono ?_
        rintro e v1 ⟨rfl, hb1⟩
        go_wp2_with fail
        have hI1 : Below w.heap.size w v1 := hI.trans (hb1.mono hI.size)
        refine hK _ _ (fun _ => hI1) ?_
        clear hK
        refine Flo.br1 (i := 7) (by kernel_rfl) rfl (fun K hK => ?_)
        go_wp2_with fail
        have hI2 : Below w.heap.size w (v1.alloc (.cells #[.int .u8 (48 + (n : Int) % 10)] 5)) := hI1.alloc hI1.size _
        have kb := Blk.new v1 5 #[.int .u8 (48 + (n : Int) % 10)]
        refine hK _ _ (fun _ => hI2) ?_
        clear hK
        have hcv := conv_byte _ v1.heap.size (n % 10) (by omega) (by rw [blk_at kb 0 _ rfl]; simp)
        clear kb
        generalize v1.alloc (.cells #[.int .u8 (48 + (n : Int) % 10)] 5) = v2 at *
        refine Flo.br1 (i := 8) (by kernel_rfl) rfl (fun K hK => ?_)
        go_wp2_with fail
        refine hK _ _ (fun _ => hI2) ?_
        clear hK
        refine Flo.br1 (i := 9) (by kernel_rfl) rfl (fun K hK => ?_)
        go_wp2_with fail
        refine hK _ _ (fun h => absurd h (by omega)) ?_
        refine Flo.br1 (i := 10) (by kernel_rfl) rfl (fun K hK => ?_)
        go_wp2_with fail
        refine hK _ _ (fun h => absurd h (by omega)) ?_
        refine Flo.brEnd (by kernel_rfl) ?_
        go_wp2_with fail
        go_ret
        exact ⟨by rw [HD.out]; rfl, hI2⟩
      · go_wp2_with fail
        have hI2 : Below w.heap.size w (w.alloc (.cells #[.int .u8 (48 + (n : Int) % 10)] 5)).drew := ((Below.refl _ _).alloc (Nat.le_refl _) _).drew
        have kb := (Blk.new w 5 #[.int .u8 (48 + (n : Int) % 10)]).drew
        refine hK _ _ (fun _ => hI2) ?_
        clear hK
        generalize (w.alloc (.cells #[.int .u8 (48 + (n : Int) % 10)] 5)).drew = v2 at *
        refine Flo.br2 (i := 2) (j := 8) (by kernel_rfl) rfl rfl (fun K hK => ?_) (fun K hK => ?_)
        · go_wp2_with fail
          refine (HI.out _).mono ?_
          rintro e v3 ⟨rfl, hb3⟩
          go_wp2_with fail
          have hI3 : Below w.heap.size w v3 := hI2.trans (hb3.mono hI2.size)
          have kb3 := kb.below hb3 kb.lt
          refine hK _ _ (fun _ => hI3) ?_
          clear hK
          have hcv := conv_byte _ w.heap.size (n % 10) (by omega) (by rw [blk_at kb3 0 _ rfl]; simp)
          refine Flo.br1 (i := 8) (by kernel_rfl) rfl (fun K hK => ?_)
          go_wp2_with fail
          refine hK _ _ (fun _ => hI3) ?_
          clear hK
          refine Flo.br1 (i := 9) (by kernel_rfl) rfl (fun K hK => ?_)
          go_wp2_with fail
          refine hK _ _ (fun h => absurd h (by omega)) ?_
          refine Flo.br1 (i := 10) (by kernel_rfl) rfl (fun K hK => ?_)
          go_wp2_with fail
          refine hK _ _ (fun h => absurd h (by omega)) ?_
          refine Flo.brEnd (by kernel_rfl) ?_
          go_wp2_with fail
          go_ret
          exact ⟨by rw [HD.out]; rfl, hI3⟩
        · have hcv := conv_byte _ w.heap.size (n % 10) (by omega) (by rw [blk_at kb 0 _ rfl]; simp)
          go_wp2_with fail
          refine hK _ _ (fun _ => hI2) ?_
          clear hK
          refine Flo.br1 (i := 2) (by kernel_rfl) rfl (fun K hK => ?_)
          go_wp2_with fail
          refine (HI.out _).mono ?_
          rintro e v3 ⟨rfl, hb3⟩
          go_wp2_with fail
          have hI3 : Below w.heap.size w v3 := hI2.trans (hb3.mono hI2.size)
          refine hK _ _ (fun _ => hI3) ?_
          clear hK
          refine Flo.br1 (i := 9) (by kernel_rfl) rfl (fun K hK => ?_)
          go_wp2_with fail
          refine hK _ _ (fun h => absurd h (by omega)) ?_
          refine Flo.br1 (i := 10) (by kernel_rfl) rfl (fun K hK => ?_)
          go_wp2_with fail
          refine hK _ _ (fun h => absurd h (by omega)) ?_
          refine Flo.brEnd (by kernel_rfl) ?_
          go_wp2_with fail
          go_ret
          exact ⟨by rw [HD.out]; rfl, hI3⟩
end
end Go.Proofs.YticmfflnenoplabDoor
