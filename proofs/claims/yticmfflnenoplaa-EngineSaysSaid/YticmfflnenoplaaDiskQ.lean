/- The program's disk: Restart. -/
import Derived.Test.YticmfflnenoplaaDiskP
namespace Go.Proofs.Yticmfflnenoplaa.DkP
open Go.RowKit Dk

set_option maxRecDepth 100000 in
set_option maxHeartbeats 1600000 in
theorem restart_any (s : St) (keep torn : Int) (kk : Nat) (b : Nat) (wv : Value) (w : World) (hwl : s.wait.length ≤ 1000) (h : Is 160 165 w b wv s)
   (hdl : ∀ c ∈ s.wait, c.data.size ≤ 6000) (hkk : (keep < 0 ∧ kk = 0) ∨ (keep = kk ∧ kk ≤ s.wait.length) ∨ (s.wait.length < keep ∧ kk = s.wait.length)) :
    Calls Try.prog 28 #[.pointer (some ⟨b, 0, none⟩), .int .i64 keep, .int .i64 torn] w (OpPost 160 165 b wv w (.tuple #[]) (restartS s kk torn)) := by
  have hb := h.blk
  have hc := hb.cells
  have hf := hb.frozens
  unfold Dk.cells at hc
  have hr := h.row
  have hkl : kk ≤ s.wait.length := by omega
  have hcap : ∃ A cap, wv = .slice A s.wait.length cap ∧ s.wait.length ≤ cap ∧ cap ≤ maxLen := by
    rcases hr.2 with ⟨hv, h0⟩ | ⟨g, cap, cur, hv, hg, hh, h1, h2, _⟩
    · exact ⟨none, 0, by rw [hv, h0], by omega, by simp [maxLen]⟩
    · exact ⟨_, cap, hv, h1, h2⟩
  obtain ⟨A, cap, rfl, hc1, hc2⟩ := hcap
  unfold maxLen at hc2
  go_enter Try.func28, Try.ntmps28
  go_upto_region 0 with fail
  go_cut [1] (fun s1 wx => s1 = .int .i64 kk ∧ w = wx)
  case first =>
    rcases hkk with ⟨hk, rfl⟩ | ⟨rfl, hk⟩ | ⟨hk, rfl⟩
    all_goals
      go_wp2_with fail
      go_meet
      exact ⟨rfl, rfl⟩
  case rest =>
    obtain ⟨rfl, rfl⟩ := hcut
    clear hkk
    go_wp2_with fail
    go_loopw [25] (fun i wr => ∃ j : Nat, i = .int .i64 j ∧ j ≤ kk ∧ Blk wr b 160 (cells { s with kept := (s.wait.take j).foldl apply s.kept } (.slice A s.wait.length cap)) ∧ Kept (fun x => x = b) w wr) (fun i _ => kk - (intOf i).toNat)
    case atStart => exact ⟨0, rfl, by omega, by simpa using hb, Kept.refl _ _⟩
    case round =>
      obtain ⟨j, rfl, hj, hbr, hkr⟩ := hrel
      have hcr := hbr.cells
      have hfr := hbr.frozens
      unfold Dk.cells at hcr
      dsimp only at hcr
      clear hc hf
      by_cases hlt : j < kk
      · have hA : ∃ g, A = some ⟨g, 0, none⟩ ∧ g ≠ b := by
          obtain ⟨g, cap', hv, _, _⟩ := hr.form (by omega)
          refine ⟨g, by simp at hv; exact hv.1, fun he => own_blk_ne hr hb (by decide) (by rw [hv, he]; rfl)⟩
        obtain ⟨g, rfl, hgb⟩ := hA
        have hrr := own_kept hr hkr (by simp [Value.ownBlock]; exact hgb)
        obtain ⟨f1, f2⟩ := flat_at s.wait j (by omega)
        have g1 := (hrr.cellAt (j * 2) (by omega)).trans f1
        have g2 := (hrr.cellAt (j * 2 + 1) (by omega)).trans f2
        clear f1 f2
        have hltr := hbr.lt
        go_wp2_with fail
        go_region_with (first | (go_at_call 111; refine (apply_x _ _ _ _ _ _ _).mono ?_; rintro e w2 ⟨rfl, hb2⟩; have hb3 : Blk w2 b 160 (cells { s with kept := (s.wait.take j).foldl apply s.kept } (.slice (some ⟨g, 0, none⟩) s.wait.length cap)) := Blk.below (by exact hbr.alloc _) hb2 (by simp; omega); have hc2 := hb3.cells; have hf2 := hb3.frozens; unfold Dk.cells at hc2; dsimp only at hc2))
        all_goals
          go_wp2_with fail
          have hk2 : Kept (fun x => x = b) w w2 := ((hkr.alloc _).drew).thenB hb2
          have hnx : (s.wait.take (j + 1)).foldl apply s.kept = apply ((s.wait.take j).foldl apply s.kept) s.wait[j] := by
            rw [List.take_succ_eq_append_getElem (by omega), List.foldl_append]
            rfl
          go_roundw
          case rel =>
            refine ⟨j + 1, by go_num, by omega, ?_, (((hk2.set1 (i := 0) _).set1 (i := 1) _).set1 (i := 2) _).set1 (i := 3) _⟩
            rw [hnx]
            exact (((hb3.set_ 0 _).set_ 1 _).set_ 2 _).set_ 3 _
          case measure => simp [intOf]; omega
      · obtain rfl : kk = j := by omega
        by_cases hl : kk < s.wait.length
        · have hA : ∃ g, A = some ⟨g, 0, none⟩ ∧ g ≠ b := by
            obtain ⟨g, cap', hv, _, _⟩ := hr.form (by omega)
            refine ⟨g, by simp at hv; exact hv.1, fun he => own_blk_ne hr hb (by decide) (by rw [hv, he]; rfl)⟩
          obtain ⟨g, rfl, hgb⟩ := hA
          have hrr := own_kept hr hkr (by simp [Value.ownBlock]; exact hgb)
          obtain ⟨f1, f2⟩ := flat_at s.wait kk (by omega)
          have g1 := (hrr.cellAt (kk * 2) (by omega)).trans f1
          have g2 := (hrr.cellAt (kk * 2 + 1) (by omega)).trans f2
          have hts := tearS_some (p := (s.wait.take kk).foldl apply s.kept) (torn := torn) hl
          have hfin : restartS s kk torn = ⟨tearS ((s.wait.take kk).foldl apply s.kept) s.wait kk torn, tearS ((s.wait.take kk).foldl apply s.kept) s.wait kk torn, [], -1, false⟩ := rfl
          rw [hts] at hfin
          have HF := Lib.hid hfin
          clear f1 f2 hts hfin
          have hsz := hdl s.wait[kk] (List.getElem_mem _)
          generalize s.wait[kk] = c at *
          obtain ⟨data, mv⟩ := c
          dsimp only at hsz
          cases mv
          · by_cases ht : 0 < torn ∧ 0 < data.size
            · obtain ⟨ht1, ht2⟩ := ht
              obtain ⟨tn, rfl⟩ := Int.eq_ofNat_of_zero_le (Int.le_of_lt ht1)
              have hltr := hbr.lt
              rcases Nat.lt_or_ge data.size tn with hcmp | hcmp
              · have hmin : min tn data.size = data.size := by omega
                have HM := Lib.hid hmin
                clear hmin
                go_wp2_with fail
                go_region_with (first | (go_at_call 111; refine (apply_x _ _ _ _ _ _ _).mono ?_; rintro e w2 ⟨rfl, hb2⟩; have hb3 : Blk w2 b 160 (cells { s with kept := (s.wait.take kk).foldl apply s.kept } (.slice (some ⟨g, 0, none⟩) s.wait.length cap)) := Blk.below (by exact hbr.drew) hb2 (by simp; omega); have hc2 := hb3.cells; have hf2 := hb3.frozens; unfold Dk.cells at hc2; dsimp only at hc2))
                all_goals
                  go_wp2_with fail
                  go_end0
                  have hk2 : Kept (fun x => x = b) w w2 := (hkr.drew).thenB hb2
                  refine ⟨rfl, .slice none 0 0, ⟨?_, World.ownsRow_nil _ _ _ _⟩, .inr (by simp [Value.ownBlock]), ?_⟩
                  · rw [HF.out, if_pos ⟨trivial, ht1, ht2⟩, Int.toNat_natCast, HM.out, extract_all]
                    exact Blk.cast (((((((((((hb3.set_ 0 _).set_ 1 _).set_ 2 _).set_ 3 _).set_ 4 _).set_ 5 _).set_ 6 _).set_ 7 _).set_ 8 _).set_ 10 _).set_ 9 _) (by simp [Dk.cells])
                  · exact (((((((((((hk2.set1 (i := 0) _).set1 (i := 1) _).set1 (i := 2) _).set1 (i := 3) _).set1 (i := 4) _).set1 (i := 5) _).set1 (i := 6) _).set1 (i := 7) _).set1 (i := 8) _).set1 (i := 10) _).set1 (i := 9) _).mono fun k hk => .inl hk
              · have hmin : min tn data.size = tn := by omega
                have HM := Lib.hid hmin
                clear hmin
                go_wp2_with fail
                go_region_with (first | (go_at_call 111; refine (apply_x _ _ _ _ _ _ _).mono ?_; rintro e w2 ⟨rfl, hb2⟩; have hb3 : Blk w2 b 160 (cells { s with kept := (s.wait.take kk).foldl apply s.kept } (.slice (some ⟨g, 0, none⟩) s.wait.length cap)) := Blk.below (by exact hbr.drew) hb2 (by simp; omega); have hc2 := hb3.cells; have hf2 := hb3.frozens; unfold Dk.cells at hc2; dsimp only at hc2))
                all_goals
                  go_wp2_with fail
                  go_end0
                  have hk2 : Kept (fun x => x = b) w w2 := (hkr.drew).thenB hb2
                  refine ⟨rfl, .slice none 0 0, ⟨?_, World.ownsRow_nil _ _ _ _⟩, .inr (by simp [Value.ownBlock]), ?_⟩
                  · rw [HF.out, if_pos ⟨trivial, ht1, ht2⟩, Int.toNat_natCast, HM.out]
                    exact Blk.cast (((((((((((hb3.set_ 0 _).set_ 1 _).set_ 2 _).set_ 3 _).set_ 4 _).set_ 5 _).set_ 6 _).set_ 7 _).set_ 8 _).set_ 10 _).set_ 9 _) (by simp [Dk.cells])
                  · exact (((((((((((hk2.set1 (i := 0) _).set1 (i := 1) _).set1 (i := 2) _).set1 (i := 3) _).set1 (i := 4) _).set1 (i := 5) _).set1 (i := 6) _).set1 (i := 7) _).set1 (i := 8) _).set1 (i := 10) _).set1 (i := 9) _).mono fun k hk => .inl hk
            · rcases Int.lt_trichotomy torn 0 with ht1 | ht1 | ht1
              · go_wp2_with fail
                go_end0
                refine ⟨rfl, .slice none 0 0, ⟨?_, World.ownsRow_nil _ _ _ _⟩, .inr (by simp [Value.ownBlock]), ?_⟩
                · rw [HF.out, if_neg (by simp; omega)]
                  exact Blk.cast (((((((hbr.set_ 4 _).set_ 5 _).set_ 6 _).set_ 7 _).set_ 8 _).set_ 10 _).set_ 9 _) (by simp [Dk.cells])
                · exact (((((((hkr.set1 (i := 4) _).set1 (i := 5) _).set1 (i := 6) _).set1 (i := 7) _).set1 (i := 8) _).set1 (i := 10) _).set1 (i := 9) _).mono fun k hk => .inl hk
              · subst ht1
                go_wp2_with fail
                go_end0
                refine ⟨rfl, .slice none 0 0, ⟨?_, World.ownsRow_nil _ _ _ _⟩, .inr (by simp [Value.ownBlock]), ?_⟩
                · rw [HF.out, if_neg (by simp)]
                  exact Blk.cast (((((((hbr.set_ 4 _).set_ 5 _).set_ 6 _).set_ 7 _).set_ 8 _).set_ 10 _).set_ 9 _) (by simp [Dk.cells])
                · exact (((((((hkr.set1 (i := 4) _).set1 (i := 5) _).set1 (i := 6) _).set1 (i := 7) _).set1 (i := 8) _).set1 (i := 10) _).set1 (i := 9) _).mono fun k hk => .inl hk
              · have hz : data.size = 0 := by omega
                have hzz : data = noText := by
                  apply ByteArray.ext
                  exact Array.eq_empty_of_size_eq_zero hz
                subst hzz
                unfold noText at *
                have hsz2 : (ByteArray.mk #[]).size = 0 := rfl
                go_wp2_with fail
                go_end0
                refine ⟨rfl, .slice none 0 0, ⟨?_, World.ownsRow_nil _ _ _ _⟩, .inr (by simp [Value.ownBlock]), ?_⟩
                · rw [HF.out, if_neg (fun h => absurd h.2.2 (by decide))]
                  exact Blk.cast (((((((hbr.set_ 4 _).set_ 5 _).set_ 6 _).set_ 7 _).set_ 8 _).set_ 10 _).set_ 9 _) (by simp [Dk.cells])
                · exact (((((((hkr.set1 (i := 4) _).set1 (i := 5) _).set1 (i := 6) _).set1 (i := 7) _).set1 (i := 8) _).set1 (i := 10) _).set1 (i := 9) _).mono fun k hk => .inl hk
          · go_wp2_with fail
            go_end0
            refine ⟨rfl, .slice none 0 0, ⟨?_, World.ownsRow_nil _ _ _ _⟩, .inr (by simp [Value.ownBlock]), ?_⟩
            · rw [HF.out, if_neg (by simp)]
              exact Blk.cast (((((((hbr.set_ 4 _).set_ 5 _).set_ 6 _).set_ 7 _).set_ 8 _).set_ 10 _).set_ 9 _) (by simp [Dk.cells])
            · exact (((((((hkr.set1 (i := 4) _).set1 (i := 5) _).set1 (i := 6) _).set1 (i := 7) _).set1 (i := 8) _).set1 (i := 10) _).set1 (i := 9) _).mono fun k hk => .inl hk
        · go_wp2_with fail
          go_end0
          refine ⟨rfl, .slice none 0 0, ⟨?_, World.ownsRow_nil _ _ _ _⟩, .inr (by simp [Value.ownBlock]), ?_⟩
          · have hfin : restartS s kk torn = ⟨(s.wait.take kk).foldl apply s.kept, (s.wait.take kk).foldl apply s.kept, [], -1, false⟩ := by simp only [restartS, lateS, tearS_none (Nat.le_of_not_lt hl)]
            rw [hfin]
            exact Blk.cast (((((((hbr.set_ 4 _).set_ 5 _).set_ 6 _).set_ 7 _).set_ 8 _).set_ 10 _).set_ 9 _) (by simp [Dk.cells])
          · exact (((((((hkr.set1 (i := 4) _).set1 (i := 5) _).set1 (i := 6) _).set1 (i := 7) _).set1 (i := 8) _).set1 (i := 10) _).set1 (i := 9) _).mono fun k hk => .inl hk
end Go.Proofs.Yticmfflnenoplaa.DkP
