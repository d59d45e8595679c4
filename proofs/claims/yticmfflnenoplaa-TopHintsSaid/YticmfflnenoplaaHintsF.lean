/- Chapter 4, the law HintsSays: the program's hints and the reference's are alike. -/
import Derived.Test.YticmfflnenoplaaMergeF
namespace Go.Proofs.Yticmfflnenoplaa
open Go.RowKit Mk

def A4.Wf (l : A4) : Prop := ∀ k, k < 4 → -9223372036854775808 ≤ l.get k ∧ l.get k ≤ 9223372036854775807
set_option maxHeartbeats 2000000 in
theorem small_no (l : A4) (w : World) (hw : A4.Wf l) (hl : ¬ l.Small) : Calls Try.prog 49 #[l.val] w (RetBB false w) := by
  have hall : ¬ ∀ k, k < 4 → -1000000 ≤ l.get k ∧ l.get k ≤ 1000000 := fun h => hl ⟨h 0 (by omega), h 1 (by omega), h 2 (by omega), h 3 (by omega)⟩
  have HALL := Lib.hid hall
  have HW := Lib.hid hw
  clear hall hl hw
  obtain ⟨a0, a1, a2, a3⟩ := l
  unfold A4.val
  dsimp only
  go_enter Try.func49, Try.ntmps49
  go_wp2_with fail
  have hblk := (Blk.new w 75 #[.int .i64 a0, .int .i64 a1, .int .i64 a2, .int .i64 a3])
  go_loop [3] (fun i => ∃ k : Nat, i = .int .i64 k ∧ k ≤ 4 ∧ Hid (∀ j, j < k → -1000000 ≤ A4.get ⟨a0, a1, a2, a3⟩ j ∧ A4.get ⟨a0, a1, a2, a3⟩ j ≤ 1000000)) (fun i => 4 - (intOf i).toNat)
  case atStart => exact ⟨0, rfl, by omega, fun j hj => by omega⟩
  case round =>
    obtain ⟨k, rfl, hk, hrg⟩ := hrel
    by_cases hlt : k < 4
    · obtain ⟨x, hx, hx0⟩ : ∃ x : Int, (w.alloc (.cells #[.int .i64 a0, .int .i64 a1, .int .i64 a2, .int .i64 a3] 75)).cell? ⟨w.heap.size, k, none⟩ = some (.int .i64 x) ∧ A4.get ⟨a0, a1, a2, a3⟩ k = x := by
        rw [hblk.cell k]
        rcases (show k = 0 ∨ k = 1 ∨ k = 2 ∨ k = 3 by omega) with rfl | rfl | rfl | rfl <;> exact ⟨_, rfl, rfl⟩
      have hxw := HW.out k hlt
      rw [hx0] at hxw
      have HX := Lib.hid hx0
      clear hblk hx0
      by_cases hlo : x < -1000000
      · go_wp2_with fail
        go_ret
        exact ⟨rfl, (Below.refl _ _).alloc (Nat.le_refl _) _⟩
      · by_cases hhi : 1000000 < x
        · go_wp2_with fail
          go_ret
          exact ⟨rfl, (Below.refl _ _).alloc (Nat.le_refl _) _⟩
        · go_wp2_with fail
          go_round
          case rel =>
            refine ⟨k + 1, by go_num, by omega, fun j hj => ?_⟩
            by_cases he : j = k
            · subst he; rw [HX.out]; omega
            · exact hrg.out j (by omega)
          case measure => simp [intOf]; omega
    · obtain rfl : k = 4 := by omega
      exact (HALL.out hrg.out).elim

theorem for_both (free all : A4) (hf : free.Small) (ha : all.Small) (n : Nat) (hn : n < 16) (many : Int) :
    ∃ any l, List.length l ≤ 256 ∧ (∀ w, Calls Try.prog 51 #[free.val, all.val, .int .u8 n, .int .i64 many] w (RetWish any l w)) ∧ (∀ w, Calls Try.prog 52 #[free.val, all.val, .int .u8 n, .int .i64 many] w (RetWish any l w)) := by
  by_cases hm : many ≤ 0
  · exact ⟨true, [], by simp, fun w => for_none free all n many hm w, fun w => rfor_none free all n many hm w⟩
  · refine ⟨false, hintsOf free all n many, ?_, fun w => for_some free all hf ha n hn many (by omega) w, fun w => rfor_some free all hf ha n hn many (by omega) w⟩
    rw [hintsOf_len free all n hn]
    exact Nat.le_trans (masks_len _ _ _ _) (by omega)

section
attribute [local irreducible] flatH nodes
set_option maxRecDepth 100000 in
set_option maxHeartbeats 4000000 in
theorem hintsSays_yes (free all : A4) (hf : free.Small) (ha : all.Small) (n : Nat) (hn : n < 16) (many : Int) (w : World) :
    Calls Try.prog 5 #[free.val, all.val, .int .u8 n, .int .i64 many] w (RetBB true w) := by
  obtain ⟨any, l, hl, h1, h2⟩ := for_both free all hf ha n hn many
  have hs1 := fun W => small_any free W hf
  have hs2 := fun W => small_any all W ha
  obtain ⟨f0, f1, f2, f3⟩ := free
  obtain ⟨a0, a1, a2, a3⟩ := all
  unfold A4.val at h1 h2 hs1 hs2 ⊢
  dsimp only at h1 h2 hs1 hs2 ⊢
  have H1 := Lib.hid h1
  have H2 := Lib.hid h2
  have HS1 := Lib.hid hs1
  have HS2 := Lib.hid hs2
  have HSW := Lib.hid (fun (v1 v2 : Value) (b1 b2 : Nat) (W : World) => sameWish_any any l hl v1 v2 b1 b2 W)
  have k0 := (Blk.new w 75 #[.int .i64 f0, .int .i64 f1, .int .i64 f2, .int .i64 f3]).alloc (.cells #[.int .i64 a0, .int .i64 a1, .int .i64 a2, .int .i64 a3] 75)
  have k1 := Blk.new (w.alloc (.cells #[.int .i64 f0, .int .i64 f1, .int .i64 f2, .int .i64 f3] 75)) 75 #[.int .i64 a0, .int .i64 a1, .int .i64 a2, .int .i64 a3]
  have hbel : Below w.heap.size w ((w.alloc (.cells #[.int .i64 f0, .int .i64 f1, .int .i64 f2, .int .i64 f3] 75)).alloc (.cells #[.int .i64 a0, .int .i64 a1, .int .i64 a2, .int .i64 a3] 75)) := ((Below.refl _ _).alloc (Nat.le_refl _) _).alloc (by simp) _
  simp only [World.size_alloc] at k1
  clear h1 h2 hs1 hs2
  go_enter Try.func5, Try.ntmps5
  go_upto_region 1 with fail
  generalize (w.alloc (.cells #[.int .i64 f0, .int .i64 f1, .int .i64 f2, .int .i64 f3] 75)).alloc (.cells #[.int .i64 a0, .int .i64 a1, .int .i64 a2, .int .i64 a3] 75) = wa at *
  go_wp2_with fail
  refine (wishes_any _).mono ?_
  rintro e w1 ⟨rfl, hb1⟩
  have j0 := k0.below hb1 k0.lt
  have j1 := k1.below hb1 k1.lt
  have hbel1 := hbel.trans (hb1.mono hbel.size)
  clear k0 k1 hbel hb1
  have e0 := j0.cells
  go_wp2_with fail
  refine (HS1.out _).mono ?_
  rintro e w2 ⟨rfl, hb2⟩
  have k0 := j0.below hb2 j0.lt
  have k1 := j1.below hb2 j1.lt
  have hbel := hbel1.trans (hb2.mono hbel1.size)
  clear j0 j1 hbel1 hb2 e0
  have e1 := k1.cells
  go_wp2_with fail
  refine (HS2.out _).mono ?_
  rintro e w3 ⟨rfl, hb3⟩
  have j0 := k0.below hb3 k0.lt
  have j1 := k1.below hb3 k1.lt
  have hbel1 := hbel.trans (hb3.mono hbel.size)
  clear k0 k1 hbel hb3 e1
  go_upto_region 4 with fail
  have e0 := j0.cells
  have e1 := j1.cells
  have q0 := j0.lt
  have q1 := j1.lt
  have hI : Below w3.heap.size w3 w3.drew := (Below.refl _ _).drew
  refine Flo.region 18 [(0, true), (1, true), (2, true), (3, true), (5, true), (6, true), (7, true), (8, true), (4, false), (9, false), (10, false), (11, true), (12, true), (14, true), (13, false), (15, false), (16, true), (17, true)] (fun v => Below w3.heap.size w3 v) (by kernel_rfl) (by kernel_rfl) rfl hI ?_
  simp only [List.drop_succ_cons, List.drop_zero]
  iterate 8 (apply Flo.op rfl (hI := hI); (· intro v hv K hK; obtain ⟨hc, hf⟩ := Flo.bcl hv; go_wp2_with fail; exact hK); (· rfl))
  clear e0 e1
  refine Flo.seq rfl fun K hK => ?_
  go_wp2_with fail
  refine (H1.out _).mono ?_
  rintro e w4 ⟨v1, rfl, own1, hb4⟩
  go_wp2_with fail
  have hI4 : Below w3.heap.size w3 w4 := hI.trans hb4
  refine hK _ _ hI4 ?_
  refine Flo.seq rfl fun K hK => ?_
  go_wp2_with fail
  refine (H2.out _).mono ?_
  rintro e w5 ⟨v2, rfl, own2, hb5⟩
  go_wp2_with fail
  have hI5 : Below w3.heap.size w3 w5 := hI4.trans (hb5.mono hI4.size)
  refine hK _ _ hI5 ?_
  refine Flo.seq rfl fun K hK => ?_
  go_wp2_with fail
  refine (HSW.out v1 v2 _ _ _ (own_below own1 hb5) own2).mono ?_
  rintro e w6 ⟨rfl, hb6⟩
  go_wp2_with fail
  have hI6 : Below w3.heap.size w3 w6 := hI5.trans (hb6.mono hI5.size)
  refine hK _ _ hI6 ?_
  iterate 3 (apply Flo.op rfl (hI := hI6); (· intro v hv K hK; obtain ⟨hc, hf⟩ := Flo.bcl hv; go_wp2_with fail; exact hK); (· rfl))
  refine Flo.seq rfl fun K hK => ?_
  go_wp2_with fail
  refine (nodes_any n (by omega) _).mono ?_
  rintro e w7 ⟨rfl, rfl⟩
  go_wp2_with fail
  refine hK _ _ hI6 ?_
  refine Flo.seq rfl fun K hK => ?_
  go_wp2_with fail
  refine (nodesOf_any n (by omega) _).mono ?_
  rintro e w7 ⟨rfl, rfl⟩
  go_wp2_with fail
  refine hK _ _ hI6 ?_
  iterate 2 (apply Flo.op rfl (hI := hI6); (· intro v hv K hK; obtain ⟨hc, hf⟩ := Flo.bcl hv; go_wp2_with fail; exact hK); (· rfl))
  refine Flo.tail fun K hK => ?_
  go_wp2_with fail
  go_ret
  exact ⟨rfl, hbel1.trans (hI6.mono hbel1.size)⟩

set_option maxHeartbeats 4000000 in
theorem hintsSays_no (free all : A4) (hf : A4.Wf free) (ha : A4.Wf all) (n : Nat) (hn : n < 256) (many : Int) (w : World) (h : ¬ (free.Small ∧ all.Small ∧ n < 16)) :
    Calls Try.prog 5 #[free.val, all.val, .int .u8 n, .int .i64 many] w (RetBB true w) := by
  have hs1 := fun W => small_any free W
  have hs2 := fun W => small_any all W
  have hn1 := fun W => small_no free W hf
  have hn2 := fun W => small_no all W ha
  have h' : ¬ free.Small ∨ (free.Small ∧ ¬ all.Small) ∨ (free.Small ∧ all.Small ∧ 16 ≤ n) := by
    by_cases h1 : free.Small
    · by_cases h2 : all.Small
      · exact .inr (.inr ⟨h1, h2, by
          rcases Nat.lt_or_ge n 16 with h3 | h3
          · exact absurd ⟨h1, h2, h3⟩ h
          · exact h3⟩)
      · exact .inr (.inl ⟨h1, h2⟩)
    · exact .inl h1
  clear h hf ha
  obtain ⟨f0, f1, f2, f3⟩ := free
  obtain ⟨a0, a1, a2, a3⟩ := all
  unfold A4.val at hs1 hs2 hn1 hn2 ⊢
  dsimp only at hs1 hs2 hn1 hn2 ⊢
  have HS1 := Lib.hid hs1
  have HS2 := Lib.hid hs2
  have HN1 := Lib.hid hn1
  have HN2 := Lib.hid hn2
  have H' := Lib.hid h'
  have k0 := (Blk.new w 75 #[.int .i64 f0, .int .i64 f1, .int .i64 f2, .int .i64 f3]).alloc (.cells #[.int .i64 a0, .int .i64 a1, .int .i64 a2, .int .i64 a3] 75)
  have k1 := Blk.new (w.alloc (.cells #[.int .i64 f0, .int .i64 f1, .int .i64 f2, .int .i64 f3] 75)) 75 #[.int .i64 a0, .int .i64 a1, .int .i64 a2, .int .i64 a3]
  have hbel : Below w.heap.size w ((w.alloc (.cells #[.int .i64 f0, .int .i64 f1, .int .i64 f2, .int .i64 f3] 75)).alloc (.cells #[.int .i64 a0, .int .i64 a1, .int .i64 a2, .int .i64 a3] 75)) := ((Below.refl _ _).alloc (Nat.le_refl _) _).alloc (by simp) _
  simp only [World.size_alloc] at k1
  clear hs1 hs2 hn1 hn2 h'
  go_enter Try.func5, Try.ntmps5
  go_upto_region 1 with fail
  generalize (w.alloc (.cells #[.int .i64 f0, .int .i64 f1, .int .i64 f2, .int .i64 f3] 75)).alloc (.cells #[.int .i64 a0, .int .i64 a1, .int .i64 a2, .int .i64 a3] 75) = wa at *
  go_wp2_with fail
  refine (wishes_any _).mono ?_
  rintro e w1 ⟨rfl, hb1⟩
  have j0 := k0.below hb1 k0.lt
  have j1 := k1.below hb1 k1.lt
  have hbel1 := hbel.trans (hb1.mono hbel.size)
  clear k0 k1 hbel hb1
  have e0 := j0.cells
  rcases H'.out with h | ⟨h, h2⟩ | ⟨h, h2, h3⟩
  · have HH := Lib.hid h
    clear h
    go_wp2_with fail
    refine (HN1.out _ HH.out).mono ?_
    rintro e w2 ⟨rfl, hb2⟩
    go_wp2_with fail
    go_ret
    exact ⟨rfl, hbel1.trans (hb2.mono hbel1.size)⟩
  · have HH := Lib.hid h
    have HH2 := Lib.hid h2
    clear h h2
    go_wp2_with fail
    refine (HS1.out _ HH.out).mono ?_
    rintro e w2 ⟨rfl, hb2⟩
    have k0 := j0.below hb2 j0.lt
    have k1 := j1.below hb2 j1.lt
    have hbel := hbel1.trans (hb2.mono hbel1.size)
    clear j0 j1 hbel1 hb2 e0
    have e1 := k1.cells
    go_wp2_with fail
    refine (HN2.out _ HH2.out).mono ?_
    rintro e w3 ⟨rfl, hb3⟩
    go_wp2_with fail
    go_ret
    exact ⟨rfl, hbel.trans (hb3.mono hbel.size)⟩
  · have HH := Lib.hid h
    have HH2 := Lib.hid h2
    clear h h2
    go_wp2_with fail
    refine (HS1.out _ HH.out).mono ?_
    rintro e w2 ⟨rfl, hb2⟩
    have k0 := j0.below hb2 j0.lt
    have k1 := j1.below hb2 j1.lt
    have hbel := hbel1.trans (hb2.mono hbel1.size)
    clear j0 j1 hbel1 hb2 e0
    have e1 := k1.cells
    go_wp2_with fail
    refine (HS2.out _ HH2.out).mono ?_
    rintro e w3 ⟨rfl, hb3⟩
    go_wp2_with fail
    go_ret
    exact ⟨rfl, hbel.trans (hb3.mono hbel.size)⟩
end
theorem hintsSays_any (free all : A4) (hf : A4.Wf free) (ha : A4.Wf all) (n : Nat) (hn : n < 256) (many : Int) (w : World) :
    Calls Try.prog 5 #[free.val, all.val, .int .u8 n, .int .i64 many] w (RetBB true w) := by
  by_cases h : free.Small ∧ all.Small ∧ n < 16
  · exact hintsSays_yes free all h.1 h.2.1 n h.2.2 many w
  · exact hintsSays_no free all hf ha n hn many w h
end Go.Proofs.Yticmfflnenoplaa
