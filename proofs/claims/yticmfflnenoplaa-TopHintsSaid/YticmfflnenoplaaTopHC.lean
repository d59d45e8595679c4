/- TopHints: where the numbers are none of those of which it speaks. -/
import Derived.Test.YticmfflnenoplaaTopHB
namespace Go.Proofs.Yticmfflnenoplaa
open Go.RowKit Mk
theorem possmall_dec (l : A4) : PosSmall l ∨ ¬ PosSmall l := by
  by_cases h : PosSmall l
  · exact .inl h
  · exact .inr h
section
attribute [local irreducible] flatH Hid PosSmall hintsOf
set_option maxRecDepth 100000 in
set_option maxHeartbeats 4000000 in
theorem topHints_no (free all : A4) (hf : A4.Wf free) (ha : A4.Wf all) (n : Nat) (hn : n < 256) (many : Int) (w : World) (h : ¬ (PosSmall free ∧ PosSmall all ∧ n < 16)) :
    Calls Try.prog 10 #[free.val, all.val, .int .u8 n, .int .i64 many] w (RetBB true w) := by
  have hs1 := fun W => tsmall_yes free W
  have hs2 := fun W => tsmall_yes all W
  have hn1 := fun W => tsmall_no free W hf
  have hn2 := fun W => tsmall_no all W ha
  have h' : ¬ PosSmall free ∨ (PosSmall free ∧ ¬ PosSmall all) ∨ (PosSmall free ∧ PosSmall all ∧ 16 ≤ n) := by
    by_cases h1 : PosSmall free
    · by_cases h2 : PosSmall all
      · exact .inr (.inr ⟨h1, h2, by
          rcases Nat.lt_or_ge n 16 with h3 | h3
          · exact absurd ⟨h1, h2, h3⟩ h
          · exact h3⟩)
      · exact .inr (.inl ⟨h1, h2⟩)
    · exact .inl h1
  clear h hf ha
  have hc := fun (W : World) => for_some ⟨1, 0, 0, 0⟩ ⟨1, 0, 0, 0⟩ (by unfold A4.Small; decide) (by unfold A4.Small; decide) 1 (by omega) 1 (by omega) W
  rw [hints1] at hc
  unfold A4.val at hc
  dsimp only at hc
  obtain ⟨f0, f1, f2, f3⟩ := free
  obtain ⟨a0, a1, a2, a3⟩ := all
  unfold A4.val at hs1 hs2 hn1 hn2 ⊢
  dsimp only at hs1 hs2 hn1 hn2 ⊢
  have HC := Lib.hid hc
  have HS1 := Lib.hid hs1
  have HS2 := Lib.hid hs2
  have HN1 := Lib.hid hn1
  have HN2 := Lib.hid hn2
  have H' := Lib.hid h'
  have k0 := (Blk.new w 75 #[.int .i64 f0, .int .i64 f1, .int .i64 f2, .int .i64 f3]).alloc (.cells #[.int .i64 a0, .int .i64 a1, .int .i64 a2, .int .i64 a3] 75)
  have k1 := Blk.new (w.alloc (.cells #[.int .i64 f0, .int .i64 f1, .int .i64 f2, .int .i64 f3] 75)) 75 #[.int .i64 a0, .int .i64 a1, .int .i64 a2, .int .i64 a3]
  have hbel : Below w.heap.size w ((w.alloc (.cells #[.int .i64 f0, .int .i64 f1, .int .i64 f2, .int .i64 f3] 75)).alloc (.cells #[.int .i64 a0, .int .i64 a1, .int .i64 a2, .int .i64 a3] 75)) := ((Below.refl _ _).alloc (Nat.le_refl _) _).alloc (by simp) _
  simp only [World.size_alloc] at k1
  clear hs1 hs2 hn1 hn2 h' hc
  go_enter Try.func10, Try.ntmps10
  go_upto_region 1 with fail
  generalize (w.alloc (.cells #[.int .i64 f0, .int .i64 f1, .int .i64 f2, .int .i64 f3] 75)).alloc (.cells #[.int .i64 a0, .int .i64 a1, .int .i64 a2, .int .i64 a3] 75) = wa at *
  go_wp2_with fail
  refine (HC.out _).mono ?_
  rintro e w1 ⟨v1, rfl, own1, hb1⟩
  have j0 := k0.below hb1 k0.lt
  have j1 := k1.below hb1 k1.lt
  have hbel1 := hbel.trans (hb1.mono hbel.size)
  clear k0 k1 hbel hb1
  obtain ⟨A1, c1, rfl, _, _, hg1⟩ := own_form own1
  obtain ⟨g1, rfl, _, _⟩ := hg1 (by simp)
  have r1 := (own1.cellAt 1 (by simp)).trans ((flatH_at [⟨1, true⟩] 0 (by simp)).2)
  simp only [List.getElem_cons_zero] at r1
  clear hg1
  go_upto_region 2 with fail
  have hba : Below w1.heap.size w1 (w1.alloc (.cells #[.bool false, .slice (some ⟨g1, 0, none⟩) 1 c1] 83)) := (Below.refl _ _).alloc (Nat.le_refl _) _
  have k0 := j0.below hba j0.lt
  have k1 := j1.below hba j1.lt
  have k9 := Blk.new w1 83 #[.bool false, .slice (some ⟨g1, 0, none⟩) 1 c1]
  have hbel := hbel1.trans (hba.mono hbel1.size)
  have r2 := (hba.cell (p := ⟨g1, 1, none⟩) ((own1.lt g1 rfl).2)).trans r1
  have hp9 : w.heap.size ≤ w1.heap.size := hbel1.size
  generalize hwb : w1.alloc (.cells #[.bool false, .slice (some ⟨g1, 0, none⟩) 1 c1] 83) = wb at *
  generalize w1.heap.size = p9 at *
  clear hwb own1 r1 hba j0 j1 hbel1
  have e0 := k0.cells
  have e1 := k1.cells
  have e9 := k9.cells
  go_upto_region 4 with fail
  go_wp2_with fail
  rcases H'.out with h | ⟨h, h2⟩ | ⟨h, h2, h3⟩
  · have HH := Lib.hid h
    clear h
    refine (HN1.out _ HH.out).mono ?_
    rintro e w2 ⟨rfl, hb2⟩
    go_wp2_with fail
    go_ret
    exact ⟨rfl, hbel.trans (hb2.mono hbel.size)⟩
  · have HH := Lib.hid h
    have HH2 := Lib.hid h2
    clear h h2
    refine (HS1.out _ HH.out).mono ?_
    rintro e w2 ⟨rfl, hb2⟩
    have j1 := k1.below hb2 k1.lt
    have hbel1 := hbel.trans (hb2.mono hbel.size)
    clear k0 k1 k9 hbel hb2 e0 e1 e9 r2
    have e1 := j1.cells
    go_wp2_with fail
    refine (HN2.out _ HH2.out).mono ?_
    rintro e w3 ⟨rfl, hb3⟩
    go_wp2_with fail
    go_ret
    exact ⟨rfl, hbel1.trans (hb3.mono hbel1.size)⟩
  · have HH := Lib.hid h
    have HH2 := Lib.hid h2
    clear h h2
    refine (HS1.out _ HH.out).mono ?_
    rintro e w2 ⟨rfl, hb2⟩
    have j1 := k1.below hb2 k1.lt
    have hbel1 := hbel.trans (hb2.mono hbel.size)
    clear k0 k1 k9 hbel hb2 e0 e1 e9 r2
    have e1 := j1.cells
    go_wp2_with fail
    refine (HS2.out _ HH2.out).mono ?_
    rintro e w3 ⟨rfl, hb3⟩
    go_wp2_with fail
    go_ret
    exact ⟨rfl, hbel1.trans (hb3.mono hbel1.size)⟩
end
theorem topHints_any (free all : A4) (hf : A4.Wf free) (ha : A4.Wf all) (n : Nat) (hn : n < 256) (many : Int) (w : World) :
    Calls Try.prog 10 #[free.val, all.val, .int .u8 n, .int .i64 many] w (RetBB true w) := by
  by_cases h : PosSmall free ∧ PosSmall all ∧ n < 16
  · exact topHints_yes free all h.1 h.2.1 n h.2.2 many w
  · exact topHints_no free all hf ha n hn many w h
end Go.Proofs.Yticmfflnenoplaa
