/- TopoSays: its walk. -/
import Derived.Test.YticmfflnenoplaaTopoG
namespace Go.Proofs.Yticmfflnenoplaa
open Go.RowKit Tp
theorem Fault_len (l : List Cpu) (h : Fault l = 0) : 1 ≤ l.length ∧ l.length ≤ 64 := by
  unfold Fault at h
  split at h
  · omega
  · omega
theorem Fault_pos (l : List Cpu) : 0 ≤ Fault l := by
  unfold Fault
  split
  · omega
  · have := fault_pos l l.length
    omega
theorem Fault_node (l : List Cpu) (h : Fault l = 0) : ∀ c, c ∈ l → 0 ≤ c.node ∧ c.node ≤ 3 := by
  intro c hc
  obtain ⟨i, hi, rfl⟩ := List.mem_iff_getElem.1 hc
  have hl := Fault_len l h
  unfold Fault at h
  rw [if_neg (by omega)] at h
  have := (fault_ok l l.length h i hi hi).1
  simp [badB] at this
  omega
theorem on15 (l : List Cpu) (h : ∀ c, c ∈ l → 0 ≤ c.node ∧ c.node ≤ 3) (k : Nat) : wh (fun c => onB 15 c) l k = wh (fun _ => true) l k := by
  refine wh_congr _ _ l (fun c hc => ?_) k
  obtain ⟨h1, h2⟩ := h c hc
  unfold onB
  rcases (show c.node.toNat = 0 ∨ c.node.toNat = 1 ∨ c.node.toNat = 2 ∨ c.node.toNat = 3 by omega) with h | h | h | h <;> rw [h] <;> rfl
theorem eqA4 (a b c d : Int) (w : World) : (Op.equalIn 10000 75 (.agg #[.int .i64 a, .int .i64 b, .int .i64 c, .int .i64 d]) (.agg #[.int .i64 a, .int .i64 b, .int .i64 c, .int .i64 d])).run Try.prog w = .ok true w := by
  rw [show (10000 : Nat) = 9998 + 1 + 1 from rfl, Op.equalIn]
  simp only [Sem.run_bind, run_underlying Try.underlying75, Result.andThen_ok]
  simp [go_sem, Try.sizeOf3]
  simp only [show List.range' 0 4 = [0, 1, 2, 3] from rfl, List.forIn_cons, List.forIn_nil]
  simp [go_sem, Try.isAgg3]
section
attribute [local irreducible] Fault wh TopoAt cntOn nods onB
set_option maxRecDepth 100000 in
set_option maxHeartbeats 8000000 in
theorem topoSays_any (l : List Cpu) (v : Value) (n : Int) (m s : Nat) (hm : m < 256) (hs : s < 18446744073709551616) (w : World) (hR : RS w (· < w.heap.size) 3 RCpu [v] l) :
    Calls Try.prog 4 #[v, .int .i64 n, .int .u8 m, .int .u64 s] w (RetBB true w) := by
  obtain ⟨A, c, e, hc1, hc2, hA⟩ := hR.form
  obtain rfl : v = _ := by simpa using e
  unfold maxLen at hc2
  have HA := Lib.hid hA
  have HR := Lib.hid hR
  have HT0 := Lib.hid (fun W => topos_any W)
  have hsm := fun k (hk : (0 : Int) ≤ k) W => same_yes k hk W
  have HS := Lib.hid hsm
  clear hA hR e hsm
  by_cases h70 : 70 < l.length
  · go_enter Try.func4, Try.ntmps4
    go_wp2_with fail
    refine (HT0.out _).mono ?_
    rintro e w1 ⟨rfl, hb1⟩
    go_wp2_with fail
    go_ret
    exact ⟨rfl, hb1⟩
  go_enter Try.func4, Try.ntmps4
  go_wp2_with fail
  refine (HT0.out _).mono ?_
  rintro e w1 ⟨rfl, hb1⟩
  go_wp2_with fail
  refine (New_any l _ w.heap.size w1 hb1.size (HR.out.keep hb1)).mono ?_
  rintro e w2 ⟨hb2, h2⟩
  have hbel2 := hb1.trans (hb2.mono hb1.size)
  rcases h2 with ⟨hF, p, rfl, hp, hT⟩ | ⟨hF, rfl⟩
  · have hpl : p < w2.heap.size := by
      have h := hT
      unfold TopoAt at h
      obtain ⟨_, h, _⟩ := h
      exact h.lt
    have HT := Lib.hid hT
    have HF := Lib.hid hF
    have hlen := Fault_len l hF
    have HD := Lib.hid (Fault_node l hF)
    clear hT hF
    go_wp2_with fail
    refine (TopoFault_any l _ w.heap.size w2 hbel2.size (HR.out.keep hbel2)).mono ?_
    rintro e w3 ⟨rfl, hb3⟩
    rw [HF.out]
    have hbel3 := hbel2.trans (hb3.mono hbel2.size)
    have hT3 := HT.out.below hb3 hpl
    have HT3 := Lib.hid hT3
    have hz3 := hb3.size
    clear hT3
    go_wp2_with fail
    refine (Of_any n l w2.heap.size p w3 hz3 HT3.out).mono ?_
    rintro e w4 ⟨hb4, cc, k, rfl, ho1, ho2⟩
    have hbel4 := hbel3.trans (hb4.mono hbel3.size)
    have hT4 := HT3.out.below (hb4.mono hz3) hpl
    have HT4 := Lib.hid hT4
    have hz4 := hb4.size
    clear hT4
    have hd : (n < 0 ∨ (l.length : Int) ≤ n) ∨ ∃ i : Nat, n = (i : Int) ∧ i < l.length := by
      by_cases h : n < 0 ∨ (l.length : Int) ≤ n
      · exact .inl h
      · exact .inr ⟨n.toNat, by omega, by omega⟩
    rcases hd with hd | ⟨i, rfl, hi⟩
    · obtain ⟨rfl, rfl⟩ := ho1 hd
      clear ho1 ho2
      unfold zeroCpu Cpu.val
      dsimp only
      have hal : Below w.heap.size w (w4.alloc (.cells #[.int .i64 0, .int .i64 0, .int .i64 0] 65)) := hbel4.alloc hbel4.size _
      have hal2 : Below w2.heap.size w4 (w4.alloc (.cells #[.int .i64 0, .int .i64 0, .int .i64 0] 65)) := (Below.refl _ _).alloc (Nat.le_trans hz3 hz4) _
      have HT5 := Lib.hid (HT4.out.below hal2 hpl)
      have hz5 := Nat.le_trans (Nat.le_trans hz3 hz4) hal2.size
      rcases hd with hd | hd
      all_goals
        go_wp2_with fail
        refine (HS.out 1 (by omega) _).mono ?_
        rintro e w5 ⟨rfl, rfl⟩
        go_upto_region 16 with fail
        generalize w4.alloc (.cells #[.int .i64 0, .int .i64 0, .int .i64 0] 65) = w5 at *
        have hbel5 := hal
        clear hb1 hb2 hb3 hb4 hbel2 hbel3 hbel4 HT HT3 HT4 hal2 hd hal
        go_wp2_with fail
        refine (All_any l (by omega) w2.heap.size p w5 hz5 HT5.out).mono ?_
        rintro e w6 ⟨rfl, hb6⟩
        have hbel6 := hbel5.trans (hb6.mono hbel5.size)
        have hz6 := Nat.le_trans hz5 hb6.size
        have HT6 := Lib.hid (HT5.out.below (hb6.mono hz5) hpl)
        clear hb6
        go_wp2_with fail
        refine (ROn_any 15 (by omega) l (by omega) _ w.heap.size w6 (HR.out.keep hbel6) HD.out).mono ?_
        rintro e wq ⟨rfl, rfl⟩
        rw [on15 l HD.out]
        go_wp2_with fail
        refine (Core_any n l (by omega) w2.heap.size p w6 hz6 hpl HT6.out).mono ?_
        rintro e w7 ⟨rfl, hb7⟩
        have hbel7 := hbel6.trans (hb7.mono hbel6.size)
        have hz7 := Nat.le_trans hz6 hb7.size
        have HT7 := Lib.hid (HT6.out.below (hb7.mono hz6) hpl)
        clear hb7
        go_wp2_with fail
        refine (RCore_any n l (by omega) _ w.heap.size w7 (HR.out.keep hbel7)).mono ?_
        rintro e wq ⟨rfl, rfl⟩
        go_wp2_with fail
        refine (Socket_any n l (by omega) w2.heap.size p w7 hz7 hpl HT7.out).mono ?_
        rintro e w8 ⟨rfl, hb8⟩
        have hbel8 := hbel7.trans (hb8.mono hbel7.size)
        have hz8 := Nat.le_trans hz7 hb8.size
        have HT8 := Lib.hid (HT7.out.below (hb8.mono hz7) hpl)
        clear hb8
        go_wp2_with fail
        refine (RSocket_any n l (by omega) _ w.heap.size w8 (HR.out.keep hbel8)).mono ?_
        rintro e wq ⟨rfl, rfl⟩
        go_wp2_with fail
        refine (On_any m hm l (by omega) w2.heap.size p w8 hz8 hpl HT8.out HD.out).mono ?_
        rintro e w9 ⟨rfl, hb9⟩
        have hbel9 := hbel8.trans (hb9.mono hbel8.size)
        have hz9 := Nat.le_trans hz8 hb9.size
        have HT9 := Lib.hid (HT8.out.below (hb9.mono hz8) hpl)
        clear hb9
        go_wp2_with fail
        refine (ROn_any m hm l (by omega) _ w.heap.size w9 (HR.out.keep hbel9) HD.out).mono ?_
        rintro e wq ⟨rfl, rfl⟩
        go_wp2_with fail
        refine (Nodes_any l w2.heap.size p w9 hz9 HT9.out HD.out).mono ?_
        rintro e w10 ⟨rfl, hb10⟩
        have hbel10 := hbel9.trans (hb10.mono hbel9.size)
        have hz10 := Nat.le_trans hz9 hb10.size
        have HT10 := Lib.hid (HT9.out.below (hb10.mono hz9) hpl)
        clear hb10
        go_wp2_with fail
        refine (RNodes_any l _ w.heap.size w10 (HR.out.keep hbel10) HD.out).mono ?_
        rintro e wq ⟨rfl, rfl⟩
        go_wp2_with fail
        refine (CountN_any s hs l (by omega) w2.heap.size p w10 hz10 hpl HT10.out HD.out).mono ?_
        rintro e w11 ⟨rfl, hb11⟩
        have hbel11 := hbel10.trans (hb11.mono hbel10.size)
        have hz11 := Nat.le_trans hz10 hb11.size
        have HT11 := Lib.hid (HT10.out.below (hb11.mono hz10) hpl)
        clear hb11
        unfold cntsV
        go_wp2_with fail
        refine (CountOn_any s hs l (by omega) _ w.heap.size w11 hbel11.size (HR.out.keep hbel11) HD.out).mono ?_
        rintro e w12 ⟨rfl, hb12⟩
        unfold cntsV
        have heq := fun W => eqA4 (cntOn l s 0 l.length) (cntOn l s 1 l.length) (cntOn l s 2 l.length) (cntOn l s 3 l.length) W
        go_wp2_with fail
        go_ret
        exact ⟨rfl, hbel11.trans (hb12.mono hbel11.size)⟩
    · obtain ⟨hcc, rfl⟩ := ho2 i rfl hi
      obtain ⟨b, off, rfl, hb⟩ := HA.out i hi
      obtain ⟨_, cs', q1, q2, q3, q4⟩ := HR.out.at_ hi
      have r0 := (hbel4.cell (p := ⟨b, off + i * 3 + 0, none⟩) hb).trans (q2 0 _ (by rw [q3]; rfl))
      have r1 := (hbel4.cell (p := ⟨b, off + i * 3 + 1, none⟩) hb).trans (q2 1 _ (by rw [q3]; rfl))
      have r2 := (hbel4.cell (p := ⟨b, off + i * 3 + 2, none⟩) hb).trans (q2 2 _ (by rw [q3]; rfl))
      rw [Nat.add_zero] at r0
      rw [← hcc] at r0 r1 r2
      clear ho1 ho2 q1 q2 q3 q4 hcc
      obtain ⟨x0, x1, x2⟩ := cc
      unfold Cpu.val
      rw [errV_0]
      dsimp only at r0 r1 r2 ⊢
      have hal : Below w.heap.size w (w4.alloc (.cells #[.int .i64 x0, .int .i64 x1, .int .i64 x2] 65)) := hbel4.alloc hbel4.size _
      have hal2 : Below w2.heap.size w4 (w4.alloc (.cells #[.int .i64 x0, .int .i64 x1, .int .i64 x2] 65)) := (Below.refl _ _).alloc (Nat.le_trans hz3 hz4) _
      have HT5 := Lib.hid (HT4.out.below hal2 hpl)
      have hz5 := Nat.le_trans (Nat.le_trans hz3 hz4) hal2.size
      have hbw : b < w4.heap.size := Nat.lt_of_lt_of_le hb hbel4.size
      go_upto_region 14 with fail
      go_quiet (fail)
      go_upto_region 16 with fail
      have hbel5 := below_drewN hal nq
      have HT5 := Lib.hid (HT5.out.below (below_drewN (Below.refl w2.heap.size _) nq) hpl)
      have hz5 : w2.heap.size ≤ ((w4.alloc (.cells #[.int .i64 x0, .int .i64 x1, .int .i64 x2] 65)).drewN nq).heap.size := hz5
      clear hal r0 r1 r2
      generalize (w4.alloc (.cells #[.int .i64 x0, .int .i64 x1, .int .i64 x2] 65)).drewN nq = w5 at *
      clear hb1 hb2 hb3 hb4 hbel2 hbel3 hbel4 HT HT3 HT4 hal2
      go_wp2_with fail
      refine (All_any l (by omega) w2.heap.size p w5 hz5 HT5.out).mono ?_
      rintro e w6 ⟨rfl, hb6⟩
      have hbel6 := hbel5.trans (hb6.mono hbel5.size)
      have hz6 := Nat.le_trans hz5 hb6.size
      have HT6 := Lib.hid (HT5.out.below (hb6.mono hz5) hpl)
      clear hb6
      go_wp2_with fail
      refine (ROn_any 15 (by omega) l (by omega) _ w.heap.size w6 (HR.out.keep hbel6) HD.out).mono ?_
      rintro e wq ⟨rfl, rfl⟩
      rw [on15 l HD.out]
      go_wp2_with fail
      refine (Core_any (i : Int) l (by omega) w2.heap.size p w6 hz6 hpl HT6.out).mono ?_
      rintro e w7 ⟨rfl, hb7⟩
      have hbel7 := hbel6.trans (hb7.mono hbel6.size)
      have hz7 := Nat.le_trans hz6 hb7.size
      have HT7 := Lib.hid (HT6.out.below (hb7.mono hz6) hpl)
      clear hb7
      go_wp2_with fail
      refine (RCore_any (i : Int) l (by omega) _ w.heap.size w7 (HR.out.keep hbel7)).mono ?_
      rintro e wq ⟨rfl, rfl⟩
      go_wp2_with fail
      refine (Socket_any (i : Int) l (by omega) w2.heap.size p w7 hz7 hpl HT7.out).mono ?_
      rintro e w8 ⟨rfl, hb8⟩
      have hbel8 := hbel7.trans (hb8.mono hbel7.size)
      have hz8 := Nat.le_trans hz7 hb8.size
      have HT8 := Lib.hid (HT7.out.below (hb8.mono hz7) hpl)
      clear hb8
      go_wp2_with fail
      refine (RSocket_any (i : Int) l (by omega) _ w.heap.size w8 (HR.out.keep hbel8)).mono ?_
      rintro e wq ⟨rfl, rfl⟩
      go_wp2_with fail
      refine (On_any m hm l (by omega) w2.heap.size p w8 hz8 hpl HT8.out HD.out).mono ?_
      rintro e w9 ⟨rfl, hb9⟩
      have hbel9 := hbel8.trans (hb9.mono hbel8.size)
      have hz9 := Nat.le_trans hz8 hb9.size
      have HT9 := Lib.hid (HT8.out.below (hb9.mono hz8) hpl)
      clear hb9
      go_wp2_with fail
      refine (ROn_any m hm l (by omega) _ w.heap.size w9 (HR.out.keep hbel9) HD.out).mono ?_
      rintro e wq ⟨rfl, rfl⟩
      go_wp2_with fail
      refine (Nodes_any l w2.heap.size p w9 hz9 HT9.out HD.out).mono ?_
      rintro e w10 ⟨rfl, hb10⟩
      have hbel10 := hbel9.trans (hb10.mono hbel9.size)
      have hz10 := Nat.le_trans hz9 hb10.size
      have HT10 := Lib.hid (HT9.out.below (hb10.mono hz9) hpl)
      clear hb10
      go_wp2_with fail
      refine (RNodes_any l _ w.heap.size w10 (HR.out.keep hbel10) HD.out).mono ?_
      rintro e wq ⟨rfl, rfl⟩
      go_wp2_with fail
      refine (CountN_any s hs l (by omega) w2.heap.size p w10 hz10 hpl HT10.out HD.out).mono ?_
      rintro e w11 ⟨rfl, hb11⟩
      have hbel11 := hbel10.trans (hb11.mono hbel10.size)
      have hz11 := Nat.le_trans hz10 hb11.size
      have HT11 := Lib.hid (HT10.out.below (hb11.mono hz10) hpl)
      clear hb11
      unfold cntsV
      go_wp2_with fail
      refine (CountOn_any s hs l (by omega) _ w.heap.size w11 hbel11.size (HR.out.keep hbel11) HD.out).mono ?_
      rintro e w12 ⟨rfl, hb12⟩
      unfold cntsV
      have heq := fun W => eqA4 (cntOn l s 0 l.length) (cntOn l s 1 l.length) (cntOn l s 2 l.length) (cntOn l s 3 l.length) W
      go_wp2_with fail
      go_ret
      exact ⟨rfl, hbel11.trans (hb12.mono hbel11.size)⟩
  · have hpos := Fault_pos l
    have HF := Lib.hid hF
    have hgt : 0 < Fault l := by omega
    have HS1 := Lib.hid (HS.out (Fault l) (by omega))
    have hTF := Lib.hid (TopoFault_any l _ w.heap.size w2 hbel2.size (HR.out.keep hbel2))
    clear hpos hF
    generalize Fault l = f at *
    go_wp2_with fail
    refine hTF.out.mono ?_
    rintro e w3 ⟨rfl, hb3⟩
    have hbel3 := hbel2.trans (hb3.mono hbel2.size)
    go_wp2_with fail
    refine (HS1.out _).mono ?_
    rintro e w4 ⟨rfl, rfl⟩
    go_wp2_with fail
    go_ret
    exact ⟨rfl, hbel3⟩
end
end Go.Proofs.Yticmfflnenoplaa
