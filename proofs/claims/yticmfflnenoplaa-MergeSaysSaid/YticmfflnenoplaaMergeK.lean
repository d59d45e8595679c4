/- LightWishes, MergeSays: their walks. -/
import Derived.Test.YticmfflnenoplaaMergeJ
import Derived.Test.YticmfflnenoplaaMergeF
namespace Go.Proofs.Yticmfflnenoplaa
open Go.RowKit Mk

def LightW (l : List Wi) (w : World) (e : Ending) (w' : World) : Prop := ∃ b, e = .returned (.bool b) ∧ (b = true → ∀ x, x ∈ l → x.hints.length ≤ 16) ∧ w = w'
def prodW (l : List Wi) : Nat → Nat
  | 0 => 1
  | k + 1 => prodW l k * 16
theorem prodW_eq (l : List Wi) (k : Nat) : prodW l k = 16 ^ k := by
  induction k with
  | zero => rfl
  | succ k ih => rw [prodW, ih, Nat.pow_succ]
theorem pow16 (k : Nat) (h : k ≤ 6) : 16 ^ k ≤ 16777216 := Nat.le_trans (Nat.pow_le_pow_right (by omega) h) (by omega)
theorem mul16 (a x k : Nat) (h : a ≤ 16 ^ k) (hx : x ≤ 16) : a * x ≤ 16 ^ (k + 1) := by
  rw [Nat.pow_succ]
  exact Nat.mul_le_mul h hx
section
set_option maxHeartbeats 2000000 in
theorem light_any (l : List Wi) (A : Option Addr) (c : Nat) (S : Nat → Prop) (w : World) (hR : RS w S 2 (RWish w S) [.slice A l.length c] l) :
    Calls Try.prog 55 #[.slice A l.length c] w (LightW l w) := by
  obtain ⟨A', c', e1, hc1, hc2, hA⟩ := hR.form
  simp only [List.cons.injEq, Value.slice.injEq, and_true, true_and] at e1
  obtain ⟨rfl, rfl⟩ := e1
  unfold maxLen at hc2
  have HA := Lib.hid hA
  have HR := Lib.hid hR
  clear hA hR
  by_cases h6 : l.length ≤ 6
  · go_enter Try.func55, Try.ntmps55
    go_upto_region 5 with fail
    go_loop [3, 4] (fun s i => ∃ k a : Nat, i = .int .i64 k ∧ k ≤ l.length ∧ s = .int .i64 a ∧ Hid (a ≤ 16 ^ k ∧ ∀ j, j < k → ∀ h : j < l.length, l[j].hints.length ≤ 16)) (fun _ i => l.length - (intOf i).toNat)
    case atStart => exact ⟨0, 1, rfl, by omega, rfl, by simp, fun j hj => by omega⟩
    case round =>
      obtain ⟨k, a, rfl, hk, rfl, hrg⟩ := hrel
      have ha := hrg.out.1
      have hpw := pow16 k (by omega)
      have hab : a ≤ 16777216 := Nat.le_trans ha hpw
      clear ha hpw
      by_cases hlt : k < l.length
      · obtain ⟨b, off, rfl, hb⟩ := HA.out k hlt
        obtain ⟨_, cs', e1, e2, hv, e3, e4⟩ := HR.out.at_ hlt
        obtain ⟨Ah, ch, e5, g1, g2, g3⟩ := e4.form
        obtain rfl : hv = _ := by simpa using e5
        have r1 := e2 1 _ (by rw [e3]; rfl)
        have hx : Hid (l[k].hints.length ≤ 16 → ∀ j, j < k + 1 → ∀ h : j < l.length, l[j].hints.length ≤ 16) := fun hle j hj h => by
          by_cases he : j = k
          · subst he; exact hle
          · exact hrg.out.2 j (by omega) h
        clear e1 e2 e3 e4 e5 g3
        generalize l[k].hints.length = m at *
        unfold maxLen at g2
        by_cases hm : m ≤ 16
        · have hmul : a * max 1 m ≤ 16 ^ (k + 1) := mul16 a _ k hrg.out.1 (by omega)
          have hmb : max 1 m ≤ 16 := by omega
          have hm2 : a * max 1 m ≤ 268435456 := Nat.mul_le_mul hab hmb
          have HMUL := Lib.hid hmul
          clear hmul
          obtain ⟨q, hq⟩ : ∃ q, max 1 m = q := ⟨_, rfl⟩
          rw [hq] at hm2 HMUL hmb
          have hq2 : (max 1 (m : Int)) = (q : Int) := by omega
          have hmi : (a : Int) * (q : Int) ≤ 268435456 := by have := Int.ofNat_le.2 hm2; rw [Int.natCast_mul] at this; exact this
          have hmi0 : 0 ≤ (a : Int) * (q : Int) := Int.mul_nonneg (by omega) (by omega)
          clear hq hm2
          go_wp2_with fail
          go_round
          case rel => exact ⟨k + 1, a * q, by go_num, by omega, by rw [Int.natCast_mul], HMUL.out, hx.out hm⟩
          case measure => simp [intOf]; omega
        · go_wp2_with fail
          go_ret
          exact ⟨false, rfl, by simp, rfl⟩
      · obtain rfl : k = l.length := by omega
        go_wp2_with fail
        go_ret
        refine ⟨_, rfl, fun _ x hx => ?_, rfl⟩
        obtain ⟨j, hj, rfl⟩ := List.mem_iff_getElem.1 hx
        exact hrg.out.2 j hj hj
  · go_enter Try.func55, Try.ntmps55
    go_wp2_with fail
    go_ret
    exact ⟨false, rfl, by simp, rfl⟩
end
theorem mergeP_nonneg (policy : Int) (n : Nat) (l : List Wi) : 0 ≤ (MergeP policy n l).2.2 := by
  unfold MergeP
  split
  · simp
  · split
    · simp
    · split <;> simp
section
attribute [local irreducible] MergeP listP mergeP
set_option maxHeartbeats 4000000 in
theorem mergeSays_any (policy : Int) (n : Nat) (l : List Wi) (A : Option Addr) (c : Nat) (w : World) (hR : RS w (· < w.heap.size) 2 (RWish w (· < w.heap.size)) [.slice A l.length c] l) :
    Calls Try.prog 6 #[.int .i64 policy, .int .u8 n, .slice A l.length c] w (RetBB true w) := by
  have hmove := fun (w' : World) (hb : Below w.heap.size w w') => (show RS w' (· < w.heap.size) 2 (RWish w' (· < w.heap.size)) [.slice A l.length c] l from
    RS.move hR (fun b hb' => hb.block b hb') (fun _ h => h) fun cs x _ ⟨hv, h1, h2⟩ => ⟨hv, h1, RS.move h2 (fun b hb' => hb.block b hb') (fun _ h => h) fun _ _ _ h => h⟩)
  have HM := Lib.hid hmove
  have h0 := mergeP_nonneg policy n l
  have hfw := fun (h16 : ∀ x, x ∈ l → x.hints.length ≤ 16) W (hb : Below w.heap.size w W) => Merge_all policy n l A c (· < w.heap.size) W (fun b hb' => Nat.lt_of_lt_of_le hb' hb.size) (hmove W hb) h16
  have hfr := fun (h16 : ∀ x, x ∈ l → x.hints.length ≤ 16) W (hb : Below w.heap.size w W) => rMerge_all policy n l A c (· < w.heap.size) W (fun b hb' => Nat.lt_of_lt_of_le hb' hb.size) (hmove W hb) h16
  have HFW := Lib.hid hfw
  have HFR := Lib.hid hfr
  clear hmove hR hfw hfr
  go_enter Try.func6, Try.ntmps6
  go_wp2_with fail
  refine (wishes_any _).mono ?_
  rintro e w1 ⟨rfl, hb1⟩
  go_wp2_with fail
  refine (light_any l A c _ _ (HM.out _ hb1)).mono ?_
  rintro e w2 ⟨b, rfl, hl, rfl⟩
  cases b
  · go_wp2_with fail
    go_ret
    exact ⟨rfl, hb1⟩
  · have HL := Lib.hid (hl rfl)
    clear hl
    have hf1 := HFW.out HL.out w1 hb1
    have hf2 := HFR.out HL.out
    have HF1 := Lib.hid hf1
    have HF2 := Lib.hid hf2
    clear hf1 hf2 HFW HFR HL HM
    generalize MergeP policy n l = r at *
    obtain ⟨⟨rm, rg⟩, ri, rf⟩ := r
    dsimp only at h0
    go_wp2_with fail
    refine HF1.out.mono ?_
    rintro e w3 ⟨rfl, hb3⟩
    have hb13 := hb1.trans (hb3.mono hb1.size)
    clear hb3
    go_wp2_with fail
    refine (HF2.out _ (hb13.alloc hb13.size _)).mono ?_
    rintro e w4 ⟨rfl, hb4⟩
    have k8 := Blk.new w3 90 #[.int .u8 rm, .bool rg]
    have j8 := k8.below hb4 k8.lt
    have hb14 := (hb13.alloc hb13.size (.cells #[.int .u8 rm, .bool rg] 90)).trans (hb4.mono (by have := hb13.size; simp; omega))
    have e8 := j8.cells
    have l8 := j8.lt
    have hsame := fun W => same_yes rf h0 W
    have HSM := Lib.hid hsame
    clear hsame hb4 k8 HF1 HF2
    go_wp2_with fail
    refine (HSM.out _).mono ?_
    rintro e w5 ⟨rfl, rfl⟩
    go_wp2_with fail
    go_ret
    exact ⟨rfl, hb14.alloc hb14.size _⟩
end
end Go.Proofs.Yticmfflnenoplaa
