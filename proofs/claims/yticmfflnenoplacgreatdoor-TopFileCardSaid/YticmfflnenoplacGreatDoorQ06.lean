/- Texts laid together: DiskQ, DiskX, DiskF, SvP, SvQ, TfA, SmA, SmB, Read, Light, SmC, DiskA. No statement is proved here. -/
import Derived.Laws.StructEq
import Derived.Test.YticmfflnenoplacGreatDoorQ05
namespace Go.Proofs.YticmfflnenoplacGreatDoor.DkP
open Go.RowKit Dk

set_option maxRecDepth 100000 in
set_option maxHeartbeats 1600000 in
theorem restart_any (s : St) (keep torn : Int) (kk : Nat) (b : Nat) (wv : Value) (w : World) (hwl : s.wait.length ≤ 1000) (h : Is 111 123 w b wv s)
   (hdl : ∀ c ∈ s.wait, c.data.size ≤ 6000) (hkk : (keep < 0 ∧ kk = 0) ∨ (keep = kk ∧ kk ≤ s.wait.length) ∨ (s.wait.length < keep ∧ kk = s.wait.length)) :
    Calls Tryz.prog 19 #[.pointer (some ⟨b, 0, none⟩), .int .i64 keep, .int .i64 torn] w (OpPost 111 123 b wv w (.tuple #[]) (restartS s kk torn)) := by
  have hb := h.blk
  have hc := hb.cells
  have hf := hb.frozens
  unfold Dk.cells at hc
  have hr := h.row
  have hkl : kk ≤ s.wait.length := by omega
  have hcap : ∃ A cap, wv = .slice A s.wait.length cap ∧ s.wait.length ≤ cap ∧ cap ≤ maxLen := by
    rcases hr.2 with ⟨hv, h0⟩ | ⟨g, cap, cur, hv, hg, hh, h1, h2, _⟩
    · exact ⟨none, 0, by rw [hv, h0], by omega, by simp [maxLen]⟩
    · exact ⟨_, cap, hv, h1, h2⟩
  obtain ⟨A, cap, rfl, hc1, hc2⟩ := hcap
  unfold maxLen at hc2
  go_enter Tryz.func19, Tryz.ntmps19
  go_upto_region 0 with fail
  go_cut [1] (fun s1 wx => s1 = .int .i64 kk ∧ w = wx)
  case first =>
    rcases hkk with ⟨hk, rfl⟩ | ⟨rfl, hk⟩ | ⟨hk, rfl⟩
    all_goals
      go_wp2_with fail
      go_meet
      exact ⟨rfl, rfl⟩
  case rest =>
    obtain ⟨rfl, rfl⟩ := hcut
    clear hkk
    go_wp2_with fail
    go_loopw [25] (fun i wr => ∃ j : Nat, i = .int .i64 j ∧ j ≤ kk ∧ Blk wr b 111 (cells { s with kept := (s.wait.take j).foldl apply s.kept } (.slice A s.wait.length cap)) ∧ Kept (fun x => x = b) w wr) (fun i _ => kk - (intOf i).toNat)
    case atStart => exact ⟨0, rfl, by omega, by simpa using hb, Kept.refl _ _⟩
    case round =>
      obtain ⟨j, rfl, hj, hbr, hkr⟩ := hrel
      have hcr := hbr.cells
      have hfr := hbr.frozens
      unfold Dk.cells at hcr
      dsimp only at hcr
      clear hc hf
      by_cases hlt : j < kk
      · have hA : ∃ g, A = some ⟨g, 0, none⟩ ∧ g ≠ b := by
          obtain ⟨g, cap', hv, _, _⟩ := hr.form (by omega)
          refine ⟨g, by simp at hv; exact hv.1, fun he => own_blk_ne hr hb (by decide) (by rw [hv, he]; rfl)⟩
        obtain ⟨g, rfl, hgb⟩ := hA
        have hrr := own_kept hr hkr (by simp [Value.ownBlock]; exact hgb)
        obtain ⟨f1, f2⟩ := flat_at s.wait j (by omega)
        have g1 := (hrr.cellAt (j * 2) (by omega)).trans f1
        have g2 := (hrr.cellAt (j * 2 + 1) (by omega)).trans f2
        clear f1 f2
        have hltr := hbr.lt
        go_wp2_with fail
        go_region_with (first | (go_at_call 55; refine (apply_x _ _ _ _ _ _ _).mono ?_; rintro e w2 ⟨rfl, hb2⟩; have hb3 : Blk w2 b 111 (cells { s with kept := (s.wait.take j).foldl apply s.kept } (.slice (some ⟨g, 0, none⟩) s.wait.length cap)) := Blk.below (by exact hbr.alloc _) hb2 (by simp; omega); have hc2 := hb3.cells; have hf2 := hb3.frozens; unfold Dk.cells at hc2; dsimp only at hc2))
        all_goals
          go_wp2_with fail
          have hk2 : Kept (fun x => x = b) w w2 := ((hkr.alloc _).drew).thenB hb2
          have hnx : (s.wait.take (j + 1)).foldl apply s.kept = apply ((s.wait.take j).foldl apply s.kept) s.wait[j] := by
            rw [List.take_succ_eq_append_getElem (by omega), List.foldl_append]
            rfl
          go_roundw
          case rel =>
            refine ⟨j + 1, by go_num, by omega, ?_, (((hk2.set1 (i := 0) _).set1 (i := 1) _).set1 (i := 2) _).set1 (i := 3) _⟩
            rw [hnx]
            exact (((hb3.set_ 0 _).set_ 1 _).set_ 2 _).set_ 3 _
          case measure => simp [intOf]; omega
      · obtain rfl : kk = j := by omega
        by_cases hl : kk < s.wait.length
        · have hA : ∃ g, A = some ⟨g, 0, none⟩ ∧ g ≠ b := by
            obtain ⟨g, cap', hv, _, _⟩ := hr.form (by omega)
            refine ⟨g, by simp at hv; exact hv.1, fun he => own_blk_ne hr hb (by decide) (by rw [hv, he]; rfl)⟩
          obtain ⟨g, rfl, hgb⟩ := hA
          have hrr := own_kept hr hkr (by simp [Value.ownBlock]; exact hgb)
          obtain ⟨f1, f2⟩ := flat_at s.wait kk (by omega)
          have g1 := (hrr.cellAt (kk * 2) (by omega)).trans f1
          have g2 := (hrr.cellAt (kk * 2 + 1) (by omega)).trans f2
          have hts := tearS_some (p := (s.wait.take kk).foldl apply s.kept) (torn := torn) hl
          have hfin : restartS s kk torn = ⟨tearS ((s.wait.take kk).foldl apply s.kept) s.wait kk torn, tearS ((s.wait.take kk).foldl apply s.kept) s.wait kk torn, [], -1, false⟩ := rfl
          rw [hts] at hfin
          have HF := Lib.hid hfin
          clear f1 f2 hts hfin
          have hsz := hdl s.wait[kk] (List.getElem_mem _)
          generalize s.wait[kk] = c at *
          obtain ⟨data, mv⟩ := c
          dsimp only at hsz
          cases mv
          · by_cases ht : 0 < torn ∧ 0 < data.size
            · obtain ⟨ht1, ht2⟩ := ht
              obtain ⟨tn, rfl⟩ := Int.eq_ofNat_of_zero_le (Int.le_of_lt ht1)
              have hltr := hbr.lt
              rcases Nat.lt_or_ge data.size tn with hcmp | hcmp
              · have hmin : min tn data.size = data.size := by omega
                have HM := Lib.hid hmin
                clear hmin
                go_wp2_with fail
                go_region_with (first | (go_at_call 55; refine (apply_x _ _ _ _ _ _ _).mono ?_; rintro e w2 ⟨rfl, hb2⟩; have hb3 : Blk w2 b 111 (cells { s with kept := (s.wait.take kk).foldl apply s.kept } (.slice (some ⟨g, 0, none⟩) s.wait.length cap)) := Blk.below (by exact hbr.drew) hb2 (by simp; omega); have hc2 := hb3.cells; have hf2 := hb3.frozens; unfold Dk.cells at hc2; dsimp only at hc2))
                all_goals
                  go_wp2_with fail
                  go_end0
                  have hk2 : Kept (fun x => x = b) w w2 := (hkr.drew).thenB hb2
                  refine ⟨rfl, .slice none 0 0, ⟨?_, World.ownsRow_nil _ _ _ _⟩, .inr (by simp [Value.ownBlock]), ?_⟩
                  · rw [HF.out, if_pos ⟨trivial, ht1, ht2⟩, Int.toNat_natCast, HM.out, extract_all]
                    exact Blk.cast (((((((((((hb3.set_ 0 _).set_ 1 _).set_ 2 _).set_ 3 _).set_ 4 _).set_ 5 _).set_ 6 _).set_ 7 _).set_ 8 _).set_ 10 _).set_ 9 _) (by simp [Dk.cells])
                  · exact (((((((((((hk2.set1 (i := 0) _).set1 (i := 1) _).set1 (i := 2) _).set1 (i := 3) _).set1 (i := 4) _).set1 (i := 5) _).set1 (i := 6) _).set1 (i := 7) _).set1 (i := 8) _).set1 (i := 10) _).set1 (i := 9) _).mono fun k hk => .inl hk
              · have hmin : min tn data.size = tn := by omega
                have HM := Lib.hid hmin
                clear hmin
                go_wp2_with fail
                go_region_with (first | (go_at_call 55; refine (apply_x _ _ _ _ _ _ _).mono ?_; rintro e w2 ⟨rfl, hb2⟩; have hb3 : Blk w2 b 111 (cells { s with kept := (s.wait.take kk).foldl apply s.kept } (.slice (some ⟨g, 0, none⟩) s.wait.length cap)) := Blk.below (by exact hbr.drew) hb2 (by simp; omega); have hc2 := hb3.cells; have hf2 := hb3.frozens; unfold Dk.cells at hc2; dsimp only at hc2))
                all_goals
                  go_wp2_with fail
                  go_end0
                  have hk2 : Kept (fun x => x = b) w w2 := (hkr.drew).thenB hb2
                  refine ⟨rfl, .slice none 0 0, ⟨?_, World.ownsRow_nil _ _ _ _⟩, .inr (by simp [Value.ownBlock]), ?_⟩
                  · rw [HF.out, if_pos ⟨trivial, ht1, ht2⟩, Int.toNat_natCast, HM.out]
                    exact Blk.cast (((((((((((hb3.set_ 0 _).set_ 1 _).set_ 2 _).set_ 3 _).set_ 4 _).set_ 5 _).set_ 6 _).set_ 7 _).set_ 8 _).set_ 10 _).set_ 9 _) (by simp [Dk.cells])
                  · exact (((((((((((hk2.set1 (i := 0) _).set1 (i := 1) _).set1 (i := 2) _).set1 (i := 3) _).set1 (i := 4) _).set1 (i := 5) _).set1 (i := 6) _).set1 (i := 7) _).set1 (i := 8) _).set1 (i := 10) _).set1 (i := 9) _).mono fun k hk => .inl hk
            · rcases Int.lt_trichotomy torn 0 with ht1 | ht1 | ht1
              · go_wp2_with fail
                go_end0
                refine ⟨rfl, .slice none 0 0, ⟨?_, World.ownsRow_nil _ _ _ _⟩, .inr (by simp [Value.ownBlock]), ?_⟩
                · rw [HF.out, if_neg (by simp; omega)]
                  exact Blk.cast (((((((hbr.set_ 4 _).set_ 5 _).set_ 6 _).set_ 7 _).set_ 8 _).set_ 10 _).set_ 9 _) (by simp [Dk.cells])
                · exact (((((((hkr.set1 (i := 4) _).set1 (i := 5) _).set1 (i := 6) _).set1 (i := 7) _).set1 (i := 8) _).set1 (i := 10) _).set1 (i := 9) _).mono fun k hk => .inl hk
              · subst ht1
                go_wp2_with fail
                go_end0
                refine ⟨rfl, .slice none 0 0, ⟨?_, World.ownsRow_nil _ _ _ _⟩, .inr (by simp [Value.ownBlock]), ?_⟩
                · rw [HF.out, if_neg (by simp)]
                  exact Blk.cast (((((((hbr.set_ 4 _).set_ 5 _).set_ 6 _).set_ 7 _).set_ 8 _).set_ 10 _).set_ 9 _) (by simp [Dk.cells])
                · exact (((((((hkr.set1 (i := 4) _).set1 (i := 5) _).set1 (i := 6) _).set1 (i := 7) _).set1 (i := 8) _).set1 (i := 10) _).set1 (i := 9) _).mono fun k hk => .inl hk
              · have hz : data.size = 0 := by omega
                have hzz : data = noText := by
                  apply ByteArray.ext
                  exact Array.eq_empty_of_size_eq_zero hz
                subst hzz
                unfold noText at *
                have hsz2 : (ByteArray.mk #[]).size = 0 := rfl
                go_wp2_with fail
                go_end0
                refine ⟨rfl, .slice none 0 0, ⟨?_, World.ownsRow_nil _ _ _ _⟩, .inr (by simp [Value.ownBlock]), ?_⟩
                · rw [HF.out, if_neg (fun h => absurd h.2.2 (by decide))]
                  exact Blk.cast (((((((hbr.set_ 4 _).set_ 5 _).set_ 6 _).set_ 7 _).set_ 8 _).set_ 10 _).set_ 9 _) (by simp [Dk.cells])
                · exact (((((((hkr.set1 (i := 4) _).set1 (i := 5) _).set1 (i := 6) _).set1 (i := 7) _).set1 (i := 8) _).set1 (i := 10) _).set1 (i := 9) _).mono fun k hk => .inl hk
          · go_wp2_with fail
            go_end0
            refine ⟨rfl, .slice none 0 0, ⟨?_, World.ownsRow_nil _ _ _ _⟩, .inr (by simp [Value.ownBlock]), ?_⟩
            · rw [HF.out, if_neg (by simp)]
              exact Blk.cast (((((((hbr.set_ 4 _).set_ 5 _).set_ 6 _).set_ 7 _).set_ 8 _).set_ 10 _).set_ 9 _) (by simp [Dk.cells])
            · exact (((((((hkr.set1 (i := 4) _).set1 (i := 5) _).set1 (i := 6) _).set1 (i := 7) _).set1 (i := 8) _).set1 (i := 10) _).set1 (i := 9) _).mono fun k hk => .inl hk
        · go_wp2_with fail
          go_end0
          refine ⟨rfl, .slice none 0 0, ⟨?_, World.ownsRow_nil _ _ _ _⟩, .inr (by simp [Value.ownBlock]), ?_⟩
          · have hfin : restartS s kk torn = ⟨(s.wait.take kk).foldl apply s.kept, (s.wait.take kk).foldl apply s.kept, [], -1, false⟩ := by simp only [restartS, lateS, tearS_none (Nat.le_of_not_lt hl)]
            rw [hfin]
            exact Blk.cast (((((((hbr.set_ 4 _).set_ 5 _).set_ 6 _).set_ 7 _).set_ 8 _).set_ 10 _).set_ 9 _) (by simp [Dk.cells])
          · exact (((((((hkr.set1 (i := 4) _).set1 (i := 5) _).set1 (i := 6) _).set1 (i := 7) _).set1 (i := 8) _).set1 (i := 10) _).set1 (i := 9) _).mono fun k hk => .inl hk
end Go.Proofs.YticmfflnenoplacGreatDoor.DkP
namespace Go.Proofs.YticmfflnenoplacGreatDoor.DkP
open Go.RowKit Dk

theorem OpPost.of_eq {T e : TypeId} {b : Nat} {wv : Value} {w : World} {v v' : Value} {s s' : St} {en : Ending} {w' : World} (h : OpPost T e b wv w v s en w') (hv : v = v') (hs : s = s') : OpPost T e b wv w v' s' en w' := by
  subst hv hs; exact h

theorem write_any (s : St) (t : ByteArray) (b : Nat) (wv : Value) (w : World) (hfu : -1 ≤ s.fuse) (hfu2 : s.fuse ≤ 9223372036854775807) (ht : t.size ≤ 9223372036854775807) (hwl : s.wait.length ≤ 1000) (h : Is 111 123 w b wv s) :
    Calls Tryz.prog 48 #[.pointer (some ⟨b, 0, none⟩), .string t] w (OpPost 111 123 b wv w (V (writeS s t).1) (writeS s t).2) := by
  by_cases hl : 6000 < t.size
  · exact (write_long s t b wv w ht hl h).mono fun _ _ hh => OpPost.of_eq hh (by simp [writeS, hl]; rfl) (by simp [writeS, hl])
  · refine (write_short s t b wv w hfu hfu2 (by omega) hwl h).mono fun _ _ hh => OpPost.of_eq hh ?_ (by simp [writeS, hl])
    cases hd : dead s <;> simp [writeS, hl, doS, hd] <;> rfl

theorem move_any (s : St) (b : Nat) (wv : Value) (w : World) (hfu : -1 ≤ s.fuse) (hfu2 : s.fuse ≤ 9223372036854775807) (hwl : s.wait.length ≤ 1000) (h : Is 111 123 w b wv s) :
    Calls Tryz.prog 50 #[.pointer (some ⟨b, 0, none⟩)] w (OpPost 111 123 b wv w (V (moveS s).1) (moveS s).2) := by
  cases hl : s.now.drafted
  · exact (move_none s b wv w hl h).mono fun _ _ hh => OpPost.of_eq hh (by simp [moveS, hl]; rfl) (by simp [moveS, hl])
  · refine (move_some s b wv w hfu hfu2 hl hwl h).mono fun _ _ hh => OpPost.of_eq hh ?_ (by simp [moveS, hl])
    cases hd : dead s <;> simp [moveS, hl, doS, hd] <;> rfl

theorem sync_any (s : St) (b : Nat) (wv : Value) (w : World) (hfu : -1 ≤ s.fuse) (hfu2 : s.fuse ≤ 9223372036854775807) (h : Is 111 123 w b wv s) :
    Calls Tryz.prog 49 #[.pointer (some ⟨b, 0, none⟩)] w (OpPost 111 123 b wv w (V (syncS s).1) (syncS s).2) := by
  cases hd : dead s
  · exact (sync_ok s b wv w hfu hfu2 h hd).mono fun _ _ hh => OpPost.of_eq hh (by rw [syncS_ok hd]; rfl) (by rw [syncS_ok hd])
  · exact (sync_dead s b wv w h hd).mono fun _ _ hh => OpPost.of_eq hh (by rw [syncS_dead hd]; rfl) (by rw [syncS_dead hd])

theorem step_any (s : St) (b : Nat) (wv : Value) (w : World) (hfu : -1 ≤ s.fuse) (hfu2 : s.fuse ≤ 9223372036854775807) (h : Is 111 123 w b wv s) :
    Calls Tryz.prog 97 #[.pointer (some ⟨b, 0, none⟩)] w (OpPost 111 123 b wv w (V (stepS s).1) (stepS s).2) := by
  cases hd : dead s
  · exact (step_ok s b wv w hfu hfu2 h hd).mono fun _ _ hh => OpPost.of_eq hh (by rw [stepS_ok hd]; rfl) (by rw [stepS_ok hd])
  · exact (step_dead s b wv w h hd).mono fun _ _ hh => OpPost.of_eq hh (by rw [stepS_dead hd]; rfl) (by rw [stepS_dead hd])

theorem restart_all (s : St) (keep torn : Int) (b : Nat) (wv : Value) (w : World) (hwl : s.wait.length ≤ 1000) (h : Is 111 123 w b wv s) (hdl : ∀ c ∈ s.wait, c.data.size ≤ 6000) :
    Calls Tryz.prog 19 #[.pointer (some ⟨b, 0, none⟩), .int .i64 keep, .int .i64 torn] w (OpPost 111 123 b wv w (.tuple #[]) (restartS s (kOf keep s.wait.length) torn)) :=
  restart_any s keep torn _ b wv w hwl h hdl (kOf_spec keep s.wait.length)
end Go.Proofs.YticmfflnenoplacGreatDoor.DkP
namespace Go.Proofs.YticmfflnenoplacGreatDoor
open Go.RowKit Dk
/-- A state in which no number is out of bounds. -/
structure Fine (k : Nat) (s : St) : Prop where
  f1 : -1 ≤ s.fuse
  f2 : s.fuse ≤ 9223372036854775807
  f3 : s.wait.length ≤ k
  f4 : ∀ c ∈ s.wait, c.data.size ≤ 6000
theorem Fine.new : Fine 0 Dk.new := ⟨by simp [Dk.new], by simp [Dk.new], by simp [Dk.new], by simp [Dk.new]⟩
theorem Fine.more {k k' : Nat} {s : St} (h : Fine k s) (hk : k ≤ k') : Fine k' s := ⟨h.f1, h.f2, Nat.le_trans h.f3 hk, h.f4⟩
theorem Fine.stepOk {k : Nat} {s : St} (h : Fine k s) : Fine k (Dk.stepOk s) := by
  refine ⟨?_, ?_, h.f3, h.f4⟩
  all_goals
    have h1 := h.f1
    have h2 := h.f2
    simp only [Dk.stepOk]
    split <;> omega
theorem Fine.stepDead {k : Nat} {s : St} (h : Fine k s) : Fine k (Dk.stepDead s) := by
  refine ⟨?_, ?_, h.f3, h.f4⟩
  all_goals
    have h1 := h.f1
    have h2 := h.f2
    simp only [Dk.stepDead]
    split <;> omega
theorem Fine.doS {k : Nat} {s : St} (h : Fine k s) {c : Change} (hc : c.data.size ≤ 6000) : Fine (k + 1) (Dk.doS s c).2 := by
  unfold Dk.doS
  split
  · exact h.stepDead.more (by omega)
  · have := h.stepOk
    refine ⟨this.f1, this.f2, ?_, ?_⟩
    · have := h.f3
      simp; omega
    · intro x hx
      simp only [List.mem_append, List.mem_singleton] at hx
      rcases hx with hx | rfl
      · exact h.f4 x hx
      · exact hc
theorem Fine.writeS {k : Nat} {s : St} (h : Fine k s) (t : ByteArray) : Fine (k + 1) (Dk.writeS s t).2 := by
  unfold Dk.writeS
  split
  · exact h.more (by omega)
  · exact h.doS (by simp; omega)
theorem Fine.moveS {k : Nat} {s : St} (h : Fine k s) : Fine (k + 1) (Dk.moveS s).2 := by
  unfold Dk.moveS
  split
  · exact h.doS (by decide)
  · exact h.more (by omega)
theorem Fine.syncS {k : Nat} {s : St} (h : Fine k s) : Fine (k + 1) (Dk.syncS s).2 := by
  unfold Dk.syncS
  split
  · exact h.stepDead.more (by omega)
  · have := h.stepOk
    exact ⟨this.f1, this.f2, by simp, by simp⟩
theorem Fine.stepS {k : Nat} {s : St} (h : Fine k s) : Fine (k + 1) (Dk.stepS s).2 := by
  unfold Dk.stepS
  split
  · exact h.stepDead.more (by omega)
  · exact h.stepOk.more (by omega)
theorem Fine.armS {k : Nat} {s : St} (h : Fine k s) {n : Int} (hn : n ≤ 9223372036854775807) : Fine (k + 1) (Dk.armS s n) :=
  ⟨by simp only [Dk.armS]; omega, by simp only [Dk.armS]; omega, Nat.le_trans h.f3 (by omega), h.f4⟩
theorem Fine.spoilS {k : Nat} {s : St} (h : Fine k s) (t : ByteArray) : Fine (k + 1) (Dk.spoilS s t) := by
  unfold Dk.spoilS
  split
  · exact ⟨h.f1, h.f2, Nat.le_trans h.f3 (by omega), h.f4⟩
  · exact h.more (by omega)
theorem Fine.restartS {k : Nat} {s : St} (j : Nat) (torn : Int) : Fine (k + 1) (Dk.restartS s j torn) := ⟨by simp [Dk.restartS], by simp [Dk.restartS], by simp [Dk.restartS], by simp [Dk.restartS]⟩
theorem nums_ok (s : St) (t : ByteArray) : 0 ≤ (Dk.writeS s t).1 ∧ 0 ≤ (Dk.moveS s).1 ∧ 0 ≤ (Dk.syncS s).1 ∧ 0 ≤ (Dk.stepS s).1 ∧ 0 ≤ (Dk.readS s).2 := by
  refine ⟨?_, ?_, ?_, ?_, ?_⟩
  · simp only [Dk.writeS, Dk.doS]; repeat' split
    all_goals simp
  · simp only [Dk.moveS, Dk.doS]; repeat' split
    all_goals simp
  · simp only [Dk.syncS]; repeat' split
    all_goals simp
  · simp only [Dk.stepS]; repeat' split
    all_goals simp
  · simp only [Dk.readS]; repeat' split
    all_goals simp
end Go.Proofs.YticmfflnenoplacGreatDoor
namespace Go.Proofs.YticmfflnenoplacGreatDoor
open Go.RowKit Go.Deep Pop Bi Da Sv Qo Dk
namespace Sv
/-- The disk behind so many steps of saving, and what the last one answered. -/
def stg (s : St) (t : ByteArray) : Nat → Int × St
  | 0 => (0, s)
  | 1 => writeS s t
  | 2 => syncS (writeS s t).2
  | 3 => moveS (syncS (writeS s t).2).2
  | _ => syncS (moveS (syncS (writeS s t).2).2).2
def saveP (s : St) (l : List Held) : Int × St :=
  if heldFault l ≠ 0 then (heldFault l, s) else
  if (stg s (toB (textH l)) 1).1 ≠ 0 then stg s (toB (textH l)) 1 else
  if (stg s (toB (textH l)) 2).1 ≠ 0 then stg s (toB (textH l)) 2 else
  if (stg s (toB (textH l)) 3).1 ≠ 0 then stg s (toB (textH l)) 3 else stg s (toB (textH l)) 4
theorem save_bad {s : St} {l : List Held} (h : heldFault l ≠ 0) : saveP s l = (heldFault l, s) := by simp [saveP, h]
theorem save_stop {s : St} {l : List Held} (h : heldFault l = 0) {k : Nat} (hk : k < 4) (h0 : ∀ j, j ≤ k → (stg s (toB (textH l)) j).1 = 0) (h1 : (stg s (toB (textH l)) (k + 1)).1 ≠ 0) : saveP s l = stg s (toB (textH l)) (k + 1) := by
  unfold saveP
  rw [if_neg (by simp [h])]
  rcases (show k = 0 ∨ k = 1 ∨ k = 2 ∨ k = 3 by omega) with rfl | rfl | rfl | rfl
  · rw [if_pos h1]
  · rw [if_neg (by simp [h0 1]), if_pos h1]
  · rw [if_neg (by simp [h0 1]), if_neg (by simp [h0 2]), if_pos h1]
  · rw [if_neg (by simp [h0 1]), if_neg (by simp [h0 2]), if_neg (by simp [h0 3])]
theorem save_all {s : St} {l : List Held} (h : heldFault l = 0) (h0 : ∀ j, j ≤ 4 → (stg s (toB (textH l)) j).1 = 0) : saveP s l = stg s (toB (textH l)) 4 := by
  unfold saveP
  rw [if_neg (by simp [h]), if_neg (by simp [h0 1]), if_neg (by simp [h0 2]), if_neg (by simp [h0 3])]
noncomputable def loadP (s : St) : List Held × Int :=
  if (readS s).2 = 6 then ([], 0) else if (readS s).2 ≠ 0 then ([], (readS s).2) else (parseL (readS s).1.data.toList, parseF (readS s).1.data.toList)
theorem textH_len {l : List Held} (h : heldFault l = 0) (hf : Fit64 l) : (textH l).length ≤ 48100 := by
  obtain ⟨h12, hfine⟩ := fine_held h
  have h1 := bodyT_len hfine hf h12
  have h2 := itoa_16 (n := (sumP (bodyT l) : Int)) (by omega) (by have := sumP_lt (bodyT l); omega)
  unfold textH summed sumT
  simp only [List.length_append]
  have : wSum.length = 4 := rfl
  unfold bodyT at h2 ⊢
  simp only [List.length_singleton]
  omega
theorem stg_fine {n : Nat} {s : St} (h : Fine n s) (t : ByteArray) : ∀ k, Fine (n + 4) (stg s t k).2
  | 0 => h.more (by omega)
  | 1 => (h.writeS t).more (by omega)
  | 2 => (h.writeS t).syncS.more (by omega)
  | 3 => (h.writeS t).syncS.moveS.more (by omega)
  | _ + 4 => (h.writeS t).syncS.moveS.syncS.more (by omega)
theorem save_fine {n : Nat} {s : St} (h : Fine n s) (l : List Held) : Fine (n + 4) (saveP s l).2 := by
  unfold saveP
  split
  · exact h.more (by omega)
  · split
    · exact stg_fine h _ _
    · split
      · exact stg_fine h _ _
      · split
        · exact stg_fine h _ _
        · exact stg_fine h _ _
end Sv
abbrev DAfter (b : Nat) (wv : Value) (s' : St) (w w' : World) : Prop := Dk.After 111 123 b wv s' w w'
abbrev DIs (w : World) (b : Nat) (wv : Value) (s : St) : Prop := Dk.Is 111 123 w b wv s
/-- A block that is none of the disk's. -/
theorem dk_ne {w : World} {b g : Nat} {wv : Value} {s : St} {t : TypeId} {cs : Array Value} (hd : DIs w b wv s) (h : Blk w g t cs) (h1 : t ≠ 111) (h2 : t ≠ 123) : ¬ Fp b wv g := by
  rintro (hx | hx)
  · exact h.ne_ hd.blk h1 hx
  · exact own_blk_ne hd.row h (Ne.symm h2) hx
theorem dk_dat {w w' : World} {b : Nat} {wv : Value} {s : St} (hd : DIs w b wv s) (hk : Kept (Fp b wv) w w') : Dat w w' :=
  Dat.of_kept hk fun t g ht ⟨cs, hg⟩ => dk_ne hd hg (by rcases ht with rfl | rfl | rfl | rfl | rfl | rfl <;> decide) (by rcases ht with rfl | rfl | rfl | rfl | rfl | rfl <;> decide)
def SaveR (b : Nat) (wv : Value) (r : Int × St) (w : World) (e : Ending) (w' : World) : Prop := e = .returned (errV r.1) ∧ DAfter b wv r.2 w w'
theorem DAfter.below {b : Nat} {wv : Value} {s : St} {w w' : World} (h : DIs w b wv s) (hb : Below w.heap.size w w') : DAfter b wv s w w' :=
  ⟨wv, h.kept (S := fun _ => False) (Kept.of_below hb) (fun h => h) (fun _ _ h => h), .inl rfl, Kept.of_below hb⟩
theorem DAfter.is {b : Nat} {wv : Value} {s : St} {w w' : World} (h : DAfter b wv s w w') : ∃ wv', DIs w' b wv' s := by
  obtain ⟨wv', h1, _⟩ := h
  exact ⟨wv', h1⟩
theorem DAfter.then_ {b : Nat} {wv wv1 : Value} {s' : St} {w w1 w2 : World} (hk : Kept (Fp b wv) w w1) (ho : wv1.ownBlock = wv.ownBlock ∨ ∀ k, wv1.ownBlock = some k → w.heap.size ≤ k) (k : DAfter b wv1 s' w1 w2) : DAfter b wv s' w w2 := Dk.After.trans hk ho k
theorem dkV (n : Int) : DkP.V n = errV n := rfl
set_option maxHeartbeats 1000000 in
theorem saveC_any (bx bs b : Nat) (wv : Value) (T : ByteArray) (s : St) (w : World) (hx : Blk w bx 23 #[.pointer (some ⟨b, 0, none⟩)]) (ht : Blk w bs 9 #[.string T]) (hd : DIs w b wv s) (hf : Fine 1000 s) (hT : T.size ≤ 9223372036854775807) :
    Calls Tryz.prog 47 #[.pointer (some ⟨bx, 0, none⟩), .pointer (some ⟨bs, 0, none⟩)] w (SaveR b wv (writeS s T) w) := by
  have HC := Lib.hid (DkP.write_any s T b wv w hf.f1 hf.f2 hT hf.f3 hd)
  have e1 := hx.cells
  have e2 := ht.cells
  have z1 := hx.lt
  have z2 := ht.lt
  clear hx ht hd hf
  go_enter Tryz.func47, Tryz.ntmps47
  go_wp2_with fail
  refine HC.out.mono ?_
  rintro e w1 ⟨rfl, hA⟩
  rw [dkV]
  go_wp2_with fail
  go_ret
  exact ⟨rfl, hA⟩
section
attribute [local irreducible] textH heldFault stg saveP writeS syncS moveS readS parseF parseL
set_option maxRecDepth 100000 in
set_option maxHeartbeats 8000000 in
theorem SSave_any (l : List Held) (v : Value) (B b : Nat) (wv : Value) (s : St) (w : World) (hB : B ≤ w.heap.size) (hR : RSlice w B 4 (RHeld w B) [v] l) (hL : LayS w) (hd : DIs w b wv s) (hf : Fine 900 s) :
    Calls Tryz.prog 13 #[.pointer (some ⟨b, 0, none⟩), v] w (SaveR b wv (saveP s l) w) := by
  have hb0 : Below w.heap.size w (w.alloc (.cells #[.pointer (some ⟨b, 0, none⟩)] 23)) := (Below.refl _ _).alloc (Nat.le_refl _) _
  have hX0 := Blk.new w 23 #[.pointer (some ⟨b, 0, none⟩)]
  have HTX := Lib.hid (SText_any l v B _ (Nat.le_trans hB hb0.size) ((hR.below (hb0.mono hB)).mono fun _ _ h => h.below (hb0.mono hB)) (hL.below hb0))
  have HFT := Lib.hid (fit_of hR)
  have HD := Lib.hid hd
  have HB0 := Lib.hid hb0
  clear hR hL hd hb0
  have hbz := hX0.lt
  go_enter Tryz.func13, Tryz.ntmps13
  go_upto_region 1 with fail
  generalize w.alloc (.cells #[.pointer (some ⟨b, 0, none⟩)] 23) = w0 at *
  generalize w.heap.size = bx at hX0 hbz ⊢
  go_wp2_with fail
  refine HTX.out.mono ?_
  rintro e w1 ⟨hcase, hb1⟩
  have HW1 := Lib.hid (HB0.out.trans (hb1.mono HB0.out.size))
  have k1 := hX0.below hb1 hbz
  clear HTX hX0 hb1
  rcases hcase with ⟨hf0, rfl⟩ | ⟨hf0, rfl⟩
  · have HF := Lib.hid (save_bad (s := s) hf0)
    have HE := Lib.hid (errV_pos _ hf0)
    rw [HE.out]
    go_wp2_with fail
    go_ret
    have hb2 := HW1.out.alloc HW1.out.size (.cells #[.string ⟨#[]⟩] 9)
    exact ⟨by rw [HF.out, HE.out]; rfl, by rw [HF.out]; exact DAfter.below HD.out hb2⟩
  · obtain ⟨T, hT⟩ : ∃ T : ByteArray, T = toB (textH l) := ⟨_, rfl⟩
    rw [show (⟨(textH l).toArray⟩ : ByteArray) = T from hT.symm]
    have HSTOP := Lib.hid (fun k hk h0 h1 => save_stop (s := s) (k := k) hf0 hk h0 h1)
    have HALL := Lib.hid (save_all (s := s) hf0)
    rw [← hT] at HSTOP HALL
    have hts : Hid (T.size ≤ 9223372036854775807) := Lib.hid (by have := textH_len hf0 HFT.out; rw [hT, toB, size_list]; omega)
    have HFN := Lib.hid (stg_fine hf T)
    clear hT hf0 hf
    go_upto_region 2 with fail
    have k2 := k1.alloc (.cells #[.string T] 9)
    have t2 := Blk.new w1 9 #[.string T]
    have HW2 := Lib.hid (HW1.out.alloc HW1.out.size (.cells #[.string T] 9))
    clear k1 HW1
    generalize w1.alloc (.cells #[.string T] 9) = w2 at *
    generalize w1.heap.size = bs at *
    have e2 := k2.cells
    have z2 := k2.lt
    go_upto_region 5 with fail
    have k3 := k2.alloc (.cells #[.func (.func 47) #[] #[.pointer (some ⟨bx, 0, none⟩), .pointer (some ⟨bs, 0, none⟩)], .func (.func 49) #[.pointer (some ⟨b, 0, none⟩)] #[], .func (.func 50) #[.pointer (some ⟨b, 0, none⟩)] #[], .func (.func 49) #[.pointer (some ⟨b, 0, none⟩)] #[]] 114)
    have t3 := t2.alloc (.cells #[.func (.func 47) #[] #[.pointer (some ⟨bx, 0, none⟩), .pointer (some ⟨bs, 0, none⟩)], .func (.func 49) #[.pointer (some ⟨b, 0, none⟩)] #[], .func (.func 50) #[.pointer (some ⟨b, 0, none⟩)] #[], .func (.func 49) #[.pointer (some ⟨b, 0, none⟩)] #[]] 114)
    have f3 := Blk.new w2 114 #[.func (.func 47) #[] #[.pointer (some ⟨bx, 0, none⟩), .pointer (some ⟨bs, 0, none⟩)], .func (.func 49) #[.pointer (some ⟨b, 0, none⟩)] #[], .func (.func 50) #[.pointer (some ⟨b, 0, none⟩)] #[], .func (.func 49) #[.pointer (some ⟨b, 0, none⟩)] #[]]
    have HW3 := Lib.hid (HW2.out.alloc HW2.out.size (.cells #[.func (.func 47) #[] #[.pointer (some ⟨bx, 0, none⟩), .pointer (some ⟨bs, 0, none⟩)], .func (.func 49) #[.pointer (some ⟨b, 0, none⟩)] #[], .func (.func 50) #[.pointer (some ⟨b, 0, none⟩)] #[], .func (.func 49) #[.pointer (some ⟨b, 0, none⟩)] #[]] 114))
    clear k2 t2 HW2 e2 z2
    generalize w2.alloc (.cells #[.func (.func 47) #[] #[.pointer (some ⟨bx, 0, none⟩), .pointer (some ⟨bs, 0, none⟩)], .func (.func 49) #[.pointer (some ⟨b, 0, none⟩)] #[], .func (.func 50) #[.pointer (some ⟨b, 0, none⟩)] #[], .func (.func 49) #[.pointer (some ⟨b, 0, none⟩)] #[]] 114) = w3 at *
    generalize w2.heap.size = bf at *
    have HD3 : Hid (DAfter b wv (stg s T 0).2 w w3) := Lib.hid (by rw [show (stg s T 0).2 = s from by unfold stg; rfl]; exact DAfter.below HD.out HW3.out)
    have H0 : Hid (∀ j, j ≤ 0 → (stg s T j).1 = 0) := Lib.hid (fun j hj => by
      obtain rfl : j = 0 := (by omega)
      unfold stg
      rfl)
    have K3 := Lib.hid k3
    have T3 := Lib.hid t3
    have F3 := Lib.hid f3
    clear k3 t3 f3 HW3
    go_loopw [26] (fun i wi => ∃ k : Nat, i = .int .i64 k ∧ k ≤ 4 ∧ Hid (∀ j, j ≤ k → (stg s T j).1 = 0) ∧ Hid (DAfter b wv (stg s T k).2 w wi) ∧ Hid (Blk wi bx 23 #[.pointer (some ⟨b, 0, none⟩)]) ∧ Hid (Blk wi bs 9 #[.string T]) ∧ Hid (Blk wi bf 114 #[.func (.func 47) #[] #[.pointer (some ⟨bx, 0, none⟩), .pointer (some ⟨bs, 0, none⟩)], .func (.func 49) #[.pointer (some ⟨b, 0, none⟩)] #[], .func (.func 50) #[.pointer (some ⟨b, 0, none⟩)] #[], .func (.func 49) #[.pointer (some ⟨b, 0, none⟩)] #[]])) (fun i _ => 4 - (intOf i).toNat)
    case atStart => exact ⟨0, rfl, by omega, H0, HD3, K3, T3, F3⟩
    case round =>
      clear H0 HD3 K3 T3 F3
      obtain ⟨k, rfl, hk, HZ, HA, K3, T3, F3⟩ := hrel
      obtain ⟨wv1, hd1, ho1, hk1⟩ := HA.out
      have hfn := HFN.out k
      have hfe := F3.out.cells
      have hfl := F3.out.lt
      have HNE := Lib.hid (fun (g : Nat) (t : TypeId) (cs : Array Value) (h : Blk wr g t cs) (h1 : t ≠ 111) (h2 : t ≠ 123) => dk_ne hd1 h h1 h2)
      have HO1 := Lib.hid ho1
      have HK1 := Lib.hid hk1
      have HD1 := Lib.hid hd1
      clear HA ho1 hk1 hd1
      rcases (show k = 0 ∨ k = 1 ∨ k = 2 ∨ k = 3 ∨ k = 4 by omega) with rfl | rfl | rfl | rfl | rfl
      · have HE : Hid (writeS (stg s T 0).2 T = stg s T 1) := Lib.hid (by unfold stg; rfl)
        have HC : Hid (Calls Tryz.prog _ _ wr (SaveR b wv1 (writeS (stg s T 0).2 T) wr)) := Lib.hid (saveC_any bx bs b wv1 T (stg s T 0).2 wr K3.out T3.out HD1.out (hfn.more (by omega)) hts.out)
        rw [HE.out] at HC
        have HNX : Hid ((stg s T 1).1 = 0 → ∀ j, j ≤ 1 → (stg s T j).1 = 0) := Lib.hid (fun h j hj => by
          rcases Nat.lt_or_ge j 1 with h' | h'
          · exact HZ.out j (by omega)
          · obtain rfl : j = 1 := (by omega)
            exact h)
        have HST := Lib.hid (HSTOP.out 0 (by omega) HZ.out)
        clear hfn HD1 HFN HSTOP HE HZ
        go_wp2_with fail
        refine HC.out.mono ?_
        rintro e w9 ⟨rfl, hA9⟩
        have HA9 := Lib.hid (DAfter.then_ HK1.out HO1.out hA9)
        obtain ⟨wv9, _, _, hk9⟩ := hA9
        have K9 := Lib.hid (K3.out.kept hk9 (HNE.out _ _ _ K3.out (by decide) (by decide)))
        have T9 := Lib.hid (T3.out.kept hk9 (HNE.out _ _ _ T3.out (by decide) (by decide)))
        have F9 := Lib.hid (F3.out.kept hk9 (HNE.out _ _ _ F3.out (by decide) (by decide)))
        clear hk9 HC K3 T3 F3 HNE HK1 HO1
        by_cases h9 : (stg s T 1).1 = 0
        · rw [h9]
          have h9' := h9
          clear h9
          rw [errV_0]
          have HZ9 := Lib.hid (HNX.out h9')
          clear HNX HST h9'
          go_wp2_with fail
          go_roundw
          case rel => exact ⟨1, by first | rfl | go_num, by omega, HZ9, HA9, K9, T9, F9⟩
          case measure => simp [intOf]
        · have HEV := Lib.hid (errV_pos _ h9)
          rw [HEV.out]
          have HR9 := Lib.hid (HST.out h9)
          clear HNX HST
          go_wp2_with fail
          go_ret
          exact ⟨by rw [HR9.out, HEV.out]; rfl, by rw [HR9.out]; exact HA9.out⟩
      · have HE : Hid (syncS (stg s T 1).2 = stg s T 2) := Lib.hid (by unfold stg; rfl)
        have HC : Hid (Calls Tryz.prog _ _ wr (SaveR b wv1 (syncS (stg s T 1).2) wr)) := Lib.hid (DkP.sync_any (stg s T 1).2 b wv1 wr hfn.f1 hfn.f2 HD1.out)
        rw [HE.out] at HC
        have HNX : Hid ((stg s T 2).1 = 0 → ∀ j, j ≤ 2 → (stg s T j).1 = 0) := Lib.hid (fun h j hj => by
          rcases Nat.lt_or_ge j 2 with h' | h'
          · exact HZ.out j (by omega)
          · obtain rfl : j = 2 := (by omega)
            exact h)
        have HST := Lib.hid (HSTOP.out 1 (by omega) HZ.out)
        clear hfn HD1 HFN HSTOP HE HZ
        go_wp2_with fail
        refine HC.out.mono ?_
        rintro e w9 ⟨rfl, hA9⟩
        have HA9 := Lib.hid (DAfter.then_ HK1.out HO1.out hA9)
        obtain ⟨wv9, _, _, hk9⟩ := hA9
        have K9 := Lib.hid (K3.out.kept hk9 (HNE.out _ _ _ K3.out (by decide) (by decide)))
        have T9 := Lib.hid (T3.out.kept hk9 (HNE.out _ _ _ T3.out (by decide) (by decide)))
        have F9 := Lib.hid (F3.out.kept hk9 (HNE.out _ _ _ F3.out (by decide) (by decide)))
        clear hk9 HC K3 T3 F3 HNE HK1 HO1
        by_cases h9 : (stg s T 2).1 = 0
        · rw [h9]
          have h9' := h9
          clear h9
          rw [errV_0]
          have HZ9 := Lib.hid (HNX.out h9')
          clear HNX HST h9'
          go_wp2_with fail
          go_roundw
          case rel => exact ⟨2, by first | rfl | go_num, by omega, HZ9, HA9, K9, T9, F9⟩
          case measure => simp [intOf]
        · have HEV := Lib.hid (errV_pos _ h9)
          rw [HEV.out]
          have HR9 := Lib.hid (HST.out h9)
          clear HNX HST
          go_wp2_with fail
          go_ret
          exact ⟨by rw [HR9.out, HEV.out]; rfl, by rw [HR9.out]; exact HA9.out⟩
      · have HE : Hid (moveS (stg s T 2).2 = stg s T 3) := Lib.hid (by unfold stg; rfl)
        have HC : Hid (Calls Tryz.prog _ _ wr (SaveR b wv1 (moveS (stg s T 2).2) wr)) := Lib.hid (DkP.move_any (stg s T 2).2 b wv1 wr hfn.f1 hfn.f2 (Nat.le_trans hfn.f3 (by omega)) HD1.out)
        rw [HE.out] at HC
        have HNX : Hid ((stg s T 3).1 = 0 → ∀ j, j ≤ 3 → (stg s T j).1 = 0) := Lib.hid (fun h j hj => by
          rcases Nat.lt_or_ge j 3 with h' | h'
          · exact HZ.out j (by omega)
          · obtain rfl : j = 3 := (by omega)
            exact h)
        have HST := Lib.hid (HSTOP.out 2 (by omega) HZ.out)
        clear hfn HD1 HFN HSTOP HE HZ
        go_wp2_with fail
        refine HC.out.mono ?_
        rintro e w9 ⟨rfl, hA9⟩
        have HA9 := Lib.hid (DAfter.then_ HK1.out HO1.out hA9)
        obtain ⟨wv9, _, _, hk9⟩ := hA9
        have K9 := Lib.hid (K3.out.kept hk9 (HNE.out _ _ _ K3.out (by decide) (by decide)))
        have T9 := Lib.hid (T3.out.kept hk9 (HNE.out _ _ _ T3.out (by decide) (by decide)))
        have F9 := Lib.hid (F3.out.kept hk9 (HNE.out _ _ _ F3.out (by decide) (by decide)))
        clear hk9 HC K3 T3 F3 HNE HK1 HO1
        by_cases h9 : (stg s T 3).1 = 0
        · rw [h9]
          have h9' := h9
          clear h9
          rw [errV_0]
          have HZ9 := Lib.hid (HNX.out h9')
          clear HNX HST h9'
          go_wp2_with fail
          go_roundw
          case rel => exact ⟨3, by first | rfl | go_num, by omega, HZ9, HA9, K9, T9, F9⟩
          case measure => simp [intOf]
        · have HEV := Lib.hid (errV_pos _ h9)
          rw [HEV.out]
          have HR9 := Lib.hid (HST.out h9)
          clear HNX HST
          go_wp2_with fail
          go_ret
          exact ⟨by rw [HR9.out, HEV.out]; rfl, by rw [HR9.out]; exact HA9.out⟩
      · have HE : Hid (syncS (stg s T 3).2 = stg s T 4) := Lib.hid (by unfold stg; rfl)
        have HC : Hid (Calls Tryz.prog _ _ wr (SaveR b wv1 (syncS (stg s T 3).2) wr)) := Lib.hid (DkP.sync_any (stg s T 3).2 b wv1 wr hfn.f1 hfn.f2 HD1.out)
        rw [HE.out] at HC
        have HNX : Hid ((stg s T 4).1 = 0 → ∀ j, j ≤ 4 → (stg s T j).1 = 0) := Lib.hid (fun h j hj => by
          rcases Nat.lt_or_ge j 4 with h' | h'
          · exact HZ.out j (by omega)
          · obtain rfl : j = 4 := (by omega)
            exact h)
        have HST := Lib.hid (HSTOP.out 3 (by omega) HZ.out)
        clear hfn HD1 HFN HSTOP HE HZ
        go_wp2_with fail
        refine HC.out.mono ?_
        rintro e w9 ⟨rfl, hA9⟩
        have HA9 := Lib.hid (DAfter.then_ HK1.out HO1.out hA9)
        obtain ⟨wv9, _, _, hk9⟩ := hA9
        have K9 := Lib.hid (K3.out.kept hk9 (HNE.out _ _ _ K3.out (by decide) (by decide)))
        have T9 := Lib.hid (T3.out.kept hk9 (HNE.out _ _ _ T3.out (by decide) (by decide)))
        have F9 := Lib.hid (F3.out.kept hk9 (HNE.out _ _ _ F3.out (by decide) (by decide)))
        clear hk9 HC K3 T3 F3 HNE HK1 HO1
        by_cases h9 : (stg s T 4).1 = 0
        · rw [h9]
          have h9' := h9
          clear h9
          rw [errV_0]
          have HZ9 := Lib.hid (HNX.out h9')
          clear HNX HST h9'
          go_wp2_with fail
          go_roundw
          case rel => exact ⟨4, by first | rfl | go_num, by omega, HZ9, HA9, K9, T9, F9⟩
          case measure => simp [intOf]
        · have HEV := Lib.hid (errV_pos _ h9)
          rw [HEV.out]
          have HR9 := Lib.hid (HST.out h9)
          clear HNX HST
          go_wp2_with fail
          go_ret
          exact ⟨by rw [HR9.out, HEV.out]; rfl, by rw [HR9.out]; exact HA9.out⟩
      · have HR9 := Lib.hid (HALL.out HZ.out)
        have HZ4 := Lib.hid (HZ.out 4 (by omega))
        obtain ⟨wv9, hd9, ho9, hk9⟩ : DAfter b wv1 (stg s T 4).2 wr wr := Dk.After.same HD1.out
        have HA9 : Hid (DAfter b wv (stg s T 4).2 w wr) := Lib.hid ⟨wv1, HD1.out, HO1.out, HK1.out⟩
        clear hd9 ho9 hk9 hfn hfe hfl HFN HSTOP HALL HZ HNE K3 T3 F3
        go_wp2_with fail
        go_ret
        exact ⟨by rw [HR9.out, HZ4.out]; rfl, by rw [HR9.out]; exact HA9.out⟩
end
end Go.Proofs.YticmfflnenoplacGreatDoor
namespace Go.Proofs.YticmfflnenoplacGreatDoor
open Go.RowKit Go.Deep Pop Bi Da Sv Qo Dk
def LoadR (s : St) (w : World) (e : Ending) (w' : World) : Prop := ∃ v, e = .returned (.tuple #[v, errV (loadP s).2]) ∧ HeldsT w' v (loadP s).1 ∧ Below w.heap.size w w'
theorem read_cases (s : St) : (readS s).2 = 0 ∨ (readS s).2 = 6 ∨ (readS s).2 = 11 := by
  unfold readS
  split
  · exact .inr (.inr rfl)
  · split
    · exact .inl rfl
    · exact .inr (.inl rfl)
theorem load_none {s : St} (h : (readS s).2 = 6) : loadP s = ([], 0) := by rw [loadP, if_pos h]
theorem load_down {s : St} (h : (readS s).2 = 11) : loadP s = ([], 11) := by rw [loadP, if_neg (by omega), if_pos (by omega), h]
theorem load_file {s : St} (h : (readS s).2 = 0) : loadP s = (parseL (readS s).1.data.toList, parseF (readS s).1.data.toList) := by rw [loadP, if_neg (by omega), if_neg (by omega)]
theorem eqN (c : Int) (W : World) : (binOp .eql 26 .nilIface (.iface 117 (.int .i64 c))).run Tryz.prog W = .ok (.bool false) W := by
  kernel_rfl
theorem eqE (a c : Int) (W : World) : (binOp .eql 26 (.iface 117 (.int .i64 a)) (.iface 117 (.int .i64 c))).run Tryz.prog W = .ok (.bool (a == c)) W := by
  kernel_rfl
section
attribute [local irreducible] readS parseF parseL loadP
set_option maxRecDepth 100000 in
set_option maxHeartbeats 2000000 in
theorem SLoad_any (b : Nat) (wv : Value) (s : St) (w : World) (hL : LayS w) (hd : DIs w b wv s) (hs : (readS s).1.size ≤ maxLen) : Calls Tryz.prog 14 #[.pointer (some ⟨b, 0, none⟩)] w (LoadR s w) := by
  have HC := Lib.hid (DkP.read_any s b wv w hd)
  have HP := Lib.hid (SParse_any (readS s).1 hs w hL)
  have H6 := Lib.hid (@load_none s)
  have H11 := Lib.hid (@load_down s)
  have H0 := Lib.hid (@load_file s)
  have hcase := read_cases s
  clear hL hd hs
  go_enter Tryz.func14, Tryz.ntmps14
  go_wp2_with fail
  refine HC.out.mono ?_
  rintro e w1 ⟨rfl, rfl⟩
  rw [dkV]
  clear HC
  generalize readS s = rs at *
  obtain ⟨t, f⟩ := rs
  dsimp only at *
  rcases hcase with rfl | rfl | rfl
  · rw [errV_0]
    have hq := fun W => eqN 6 W
    have HE := Lib.hid (H0.out rfl)
    clear H0 H6 H11
    go_wp2_with fail
    refine HP.out.mono ?_
    rintro e w2 ⟨v2, rfl, h2, hb2⟩
    go_wp2_with fail
    go_ret2
    exact ⟨v2, by rw [HE.out]; rfl, by rw [HE.out]; exact h2, hb2⟩
  · rw [errV_pos 6 (by omega)]
    have hq := fun W => eqE 6 6 W
    have HE := Lib.hid (H6.out rfl)
    clear H0 H6 H11
    go_wp2_with fail
    go_ret2
    exact ⟨_, by rw [HE.out]; rfl, by rw [HE.out]; exact HeldsT.nil _ _ _ (by simp [maxLen]), Below.refl _ _⟩
  · rw [errV_pos 11 (by omega)]
    have hq := fun W => eqE 11 6 W
    have HE := Lib.hid (H11.out rfl)
    clear H0 H6 H11
    go_wp2_with fail
    go_ret2
    exact ⟨_, by rw [HE.out]; rfl, by rw [HE.out]; exact HeldsT.nil _ _ _ (by simp [maxLen]), Below.refl _ _⟩
end
end Go.Proofs.YticmfflnenoplacGreatDoor
namespace Go.Proofs.YticmfflnenoplacGreatDoor
open Da Sv Dk
namespace Tf
/-- A disk at rest, its file kept. -/
structure Rest (s : St) (p : Pair) : Prop where
  kept : s.kept = p
  now : s.now = p
  wait : s.wait = []
  down : s.down = false
/-- A file that stands alone. -/
def lone (t : ByteArray) : Pair := ⟨t, noText, true, false⟩
/-- Behind a fall: the file of one, or of the other. -/
def Late (s : St) (f g : ByteArray) (k : Nat) (torn : Int) : Prop := (lateS s k torn).there = true ∧ ((lateS s k torn).file = f ∨ (lateS s k torn).file = g)
theorem apply_write (p : Pair) (t : ByteArray) : apply p ⟨t, false⟩ = ⟨p.file, t, p.there, true⟩ := rfl
theorem apply_move (p : Pair) (t : ByteArray) : apply p ⟨t, true⟩ = ⟨p.draft, noText, true, false⟩ := rfl
theorem tear_file (p : Pair) (l : List Change) (k : Nat) (torn : Int) : (tearS p l k torn).file = p.file ∧ (tearS p l k torn).there = p.there := by
  unfold tearS
  split
  · split
    · exact ⟨rfl, rfl⟩
    · exact ⟨rfl, rfl⟩
  · exact ⟨rfl, rfl⟩
theorem late_nil {s : St} (h : s.wait = []) (k : Nat) (torn : Int) : lateS s k torn = s.kept := by
  unfold lateS tearS
  rw [h]
  simp
theorem late_one {s : St} {c : Change} (h : s.wait = [c]) (k : Nat) (torn : Int) : ((lateS s k torn).file = s.kept.file ∧ (lateS s k torn).there = s.kept.there) ∨ ((lateS s k torn).file = (apply s.kept c).file ∧ (lateS s k torn).there = (apply s.kept c).there) := by
  unfold lateS
  rw [h]
  cases k with
  | zero =>
    left
    exact tear_file _ _ _ _
  | succ k =>
    right
    have : ([c].take (k + 1)).foldl apply s.kept = apply s.kept c := by simp
    rw [this]
    exact tear_file _ _ _ _
theorem dead_no {s : St} (h : dead s = false) : s.down = false := by
  unfold dead at h
  simp only [Bool.or_eq_false_iff] at h
  exact h.1
/-- What saving comes to on a disk at rest: nothing was done; it fell; or it is done. -/
theorem save_rest {s : St} {p : Pair} (h : Rest s p) (ht : p.there = true) (o : List Held) :
    ((saveP s o).1 ≠ 0 ∧ (saveP s o).2 = s) ∨
    ((saveP s o).1 = 11 ∧ heldFault o = 0 ∧ (toB (textH o)).size ≤ 6000 ∧ ∀ k torn, Late (saveP s o).2 p.file (toB (textH o)) k torn) ∨
    ((saveP s o).1 = 0 ∧ heldFault o = 0 ∧ (toB (textH o)).size ≤ 6000 ∧ Rest (saveP s o).2 (lone (toB (textH o)))) := by
  by_cases h0 : heldFault o = 0
  · generalize hT : toB (textH o) = t
    by_cases h6 : 6000 < t.size
    · left
      have e : stg s t 1 = (2, s) := by simp [stg, writeS, h6]
      have : saveP s o = (2, s) := by
        rw [save_stop (k := 0) h0 (by omega) (by intro j hj; obtain rfl : j = 0 := (by omega); rfl) (by rw [hT, e]; simp), hT, e]
      rw [this]
      exact ⟨by simp, rfl⟩
    · obtain ⟨hk, hn, hw, hd⟩ := h
      right
      cases d1 : dead s with
      | true =>
        left
        have e : stg s t 1 = (11, stepDead s) := by simp [stg, writeS, h6, doS, d1]
        have : saveP s o = (11, stepDead s) := by
          rw [save_stop (k := 0) h0 (by omega) (by intro j hj; obtain rfl : j = 0 := (by omega); rfl) (by rw [hT, e]; simp), hT, e]
        rw [this]
        refine ⟨rfl, h0, by omega, fun k torn => ?_⟩
        unfold Late
        rw [late_nil (s := stepDead s) hw, show (stepDead s).kept = p from hk]
        exact ⟨ht, .inl rfl⟩
      | false =>
        have e1 : stg s t 1 = (0, { stepOk s with now := ⟨p.file, t, p.there, true⟩, wait := [⟨t, false⟩] }) := by
          simp only [stg, writeS, if_neg h6, doS, d1, hn, hw, apply_write]
          rfl
        generalize hs1 : ({ stepOk s with now := ⟨p.file, t, p.there, true⟩, wait := [⟨t, false⟩] } : St) = s1 at e1
        have w1 : s1.wait = [⟨t, false⟩] := by rw [← hs1]
        have n1 : s1.now = ⟨p.file, t, p.there, true⟩ := by rw [← hs1]
        have k1 : s1.kept = p := by rw [← hs1]; exact hk
        have e2' : stg s t 2 = syncS s1 := by
          have : stg s t 2 = syncS (stg s t 1).2 := rfl
          rw [this, e1]
        cases d2 : dead s1 with
        | true =>
          left
          have e2 : stg s t 2 = (11, stepDead s1) := by rw [e2']; simp [syncS, d2]
          have : saveP s o = (11, stepDead s1) := by
            rw [save_stop (k := 1) h0 (by omega) (by
              intro j hj
              rcases (show j = 0 ∨ j = 1 by omega) with rfl | rfl
              · rfl
              · rw [hT, e1]) (by rw [hT, e2]; simp), hT, e2]
          rw [this]
          refine ⟨rfl, h0, by omega, fun k torn => ?_⟩
          unfold Late
          rcases late_one (s := stepDead s1) (c := ⟨t, false⟩) w1 k torn with ⟨a, b⟩ | ⟨a, b⟩
          · rw [a, b, show (stepDead s1).kept = p from k1]
            exact ⟨ht, .inl rfl⟩
          · rw [a, b, show (stepDead s1).kept = p from k1]
            exact ⟨ht, .inl rfl⟩
        | false =>
          have e2 : stg s t 2 = (0, { stepOk s1 with kept := ⟨p.file, t, p.there, true⟩, wait := [] }) := by rw [e2']; simp [syncS, d2, n1]
          generalize hs2 : ({ stepOk s1 with kept := ⟨p.file, t, p.there, true⟩, wait := [] } : St) = s2 at e2
          have w2 : s2.wait = [] := by rw [← hs2]
          have n2 : s2.now = ⟨p.file, t, p.there, true⟩ := by rw [← hs2]; exact n1
          have k2 : s2.kept = ⟨p.file, t, p.there, true⟩ := by rw [← hs2]
          have e3' : stg s t 3 = moveS s2 := by
            have : stg s t 3 = moveS (stg s t 2).2 := rfl
            rw [this, e2]
          cases d3 : dead s2 with
          | true =>
            left
            have e3 : stg s t 3 = (11, stepDead s2) := by rw [e3']; simp [moveS, n2, doS, d3]
            have : saveP s o = (11, stepDead s2) := by
              rw [save_stop (k := 2) h0 (by omega) (by
                intro j hj
                rcases (show j = 0 ∨ j = 1 ∨ j = 2 by omega) with rfl | rfl | rfl
                · rfl
                · rw [hT, e1]
                · rw [hT, e2]) (by rw [hT, e3]; simp), hT, e3]
            rw [this]
            refine ⟨rfl, h0, by omega, fun k torn => ?_⟩
            unfold Late
            rw [late_nil (s := stepDead s2) w2, show (stepDead s2).kept = ⟨p.file, t, p.there, true⟩ from k2]
            exact ⟨ht, .inl rfl⟩
          | false =>
            have e3 : stg s t 3 = (0, { stepOk s2 with now := lone t, wait := [⟨noText, true⟩] }) := by
              rw [e3']
              simp [moveS, n2, doS, d3, w2, apply_move, lone]
            generalize hs3 : ({ stepOk s2 with now := lone t, wait := [⟨noText, true⟩] } : St) = s3 at e3
            have w3 : s3.wait = [⟨noText, true⟩] := by rw [← hs3]
            have n3 : s3.now = lone t := by rw [← hs3]
            have k3 : s3.kept = ⟨p.file, t, p.there, true⟩ := by rw [← hs3]; exact k2
            have e4' : stg s t 4 = syncS s3 := by
              have : stg s t 4 = syncS (stg s t 3).2 := rfl
              rw [this, e3]
            cases d4 : dead s3 with
            | true =>
              left
              have e4 : stg s t 4 = (11, stepDead s3) := by rw [e4']; simp [syncS, d4]
              have : saveP s o = (11, stepDead s3) := by
                rw [save_stop (k := 3) h0 (by omega) (by
                  intro j hj
                  rcases (show j = 0 ∨ j = 1 ∨ j = 2 ∨ j = 3 by omega) with rfl | rfl | rfl | rfl
                  · rfl
                  · rw [hT, e1]
                  · rw [hT, e2]
                  · rw [hT, e3]) (by rw [hT, e4]; simp), hT, e4]
              rw [this]
              refine ⟨rfl, h0, by omega, fun k torn => ?_⟩
              unfold Late
              rcases late_one (s := stepDead s3) (c := ⟨noText, true⟩) w3 k torn with ⟨a, b⟩ | ⟨a, b⟩
              · rw [a, b, show (stepDead s3).kept = ⟨p.file, t, p.there, true⟩ from k3]
                exact ⟨ht, .inl rfl⟩
              · rw [a, b, show (stepDead s3).kept = ⟨p.file, t, p.there, true⟩ from k3]
                exact ⟨rfl, .inr rfl⟩
            | false =>
              right
              have e4 : stg s t 4 = (0, { stepOk s3 with kept := lone t, wait := [] }) := by rw [e4']; simp [syncS, d4, n3]
              have : saveP s o = (0, { stepOk s3 with kept := lone t, wait := [] }) := by
                rw [save_all h0 (by
                  intro j hj
                  rcases (show j = 0 ∨ j = 1 ∨ j = 2 ∨ j = 3 ∨ j = 4 by omega) with rfl | rfl | rfl | rfl | rfl
                  · rfl
                  · rw [hT, e1]
                  · rw [hT, e2]
                  · rw [hT, e3]
                  · rw [hT, e4]), hT, e4]
              rw [this]
              exact ⟨rfl, h0, by omega, ⟨rfl, n3, rfl, by show s3.down = false; exact dead_no d4⟩⟩
  · left
    rw [save_bad h0]
    exact ⟨h0, rfl⟩
/-- The file that a disk holds, read. -/
theorem load_at {s : St} (hd : s.down = false) (ht : s.now.there = true) {l : List Held} (hf : s.now.file = toB (textH l)) (h0 : heldFault l = 0) (hx : Fit64 l) (h6 : (toB (textH l)).size ≤ 6000) : loadP s = (l, 0) ∧ (readS s).1 = toB (textH l) := by
  have hr : readS s = (toB (textH l), 0) := by simp [readS, hd, ht, hf]
  have hp := parse_some (t := textH l) (l := l) (by rw [toB, size_list] at h6; omega) ⟨h0, hx, rfl⟩
  refine ⟨?_, by rw [hr]⟩
  rw [load_file (by rw [hr]), hr, toB_list, hp.1, hp.2]
theorem rest_arm {s : St} {p : Pair} (h : Rest s p) (n : Int) : Rest (armS s n) p := ⟨h.kept, h.now, h.wait, h.down⟩
theorem rest_restart {s : St} {p : Pair} (h : Rest s p) (k : Nat) (torn : Int) : Rest (restartS s k torn) p := by
  have : lateS s k torn = p := by rw [late_nil h.wait, h.kept]
  exact ⟨this, this, rfl, rfl⟩
theorem fine_arm {k : Nat} {s : St} (h : Fine k s) {n : Int} (hn : n ≤ 9223372036854775807) : Fine (k + 1) (armS s n) := h.armS hn
/-- THE WHOLE: what is there behind a fall is what was saved, or what was ahead of it. -/
theorem whole {s : St} {l o : List Held} (h : Rest s (lone (toB (textH l)))) (h0 : heldFault l = 0) (hx : Fit64 l) (h6 : (toB (textH l)).size ≤ 6000) (hxo : Fit64 o) (k : Nat) (torn : Int) :
    ((saveP s o).1 ≠ 0 ∧ (saveP s o).1 ≠ 11 → loadP (saveP s o).2 = (l, 0) ∧ (readS (saveP s o).2).1.size ≤ 6000) ∧
    (((saveP s o).1 = 0 ∨ (saveP s o).1 = 11) → ∃ x, loadP (restartS (saveP s o).2 k torn) = (x, 0) ∧ (readS (restartS (saveP s o).2 k torn)).1.size ≤ 6000 ∧ (x = o ∨ ((saveP s o).1 ≠ 0 ∧ x = l))) := by
  have hl : ∀ s', Rest s' (lone (toB (textH l))) → loadP s' = (l, 0) ∧ (readS s').1.size ≤ 6000 := fun s' h' => by
    obtain ⟨a, b⟩ := load_at h'.down (by rw [h'.now]; rfl) (by rw [h'.now]; rfl) h0 hx h6
    exact ⟨a, by rw [b]; exact h6⟩
  rcases save_rest h rfl o with ⟨a, b⟩ | ⟨a, b, c, d⟩ | ⟨a, b, c, d⟩
  · refine ⟨fun _ => by rw [b]; exact hl s h, fun hc => ?_⟩
    rw [b]
    have := hl _ (rest_restart h k torn)
    exact ⟨l, this.1, this.2, .inr ⟨a, rfl⟩⟩
  · refine ⟨fun hc => absurd a hc.2, fun _ => ?_⟩
    obtain ⟨e1, e2⟩ := d k torn
    have hn : (restartS (saveP s o).2 k torn).now = lateS (saveP s o).2 k torn := rfl
    rcases e2 with e2 | e2
    · obtain ⟨q1, q2⟩ := load_at (s := restartS (saveP s o).2 k torn) rfl (by rw [hn]; exact e1) (by rw [hn]; exact e2) h0 hx h6
      exact ⟨l, q1, by rw [q2]; exact h6, .inr ⟨by rw [a]; decide, rfl⟩⟩
    · obtain ⟨q1, q2⟩ := load_at (s := restartS (saveP s o).2 k torn) rfl (by rw [hn]; exact e1) (by rw [hn]; exact e2) b hxo c
      exact ⟨o, q1, by rw [q2]; exact c, .inl rfl⟩
  · refine ⟨fun hc => absurd a hc.1, fun _ => ?_⟩
    have hr := rest_restart d k torn
    obtain ⟨q1, q2⟩ := load_at (s := restartS (saveP s o).2 k torn) hr.down (by rw [hr.now]; rfl) (by rw [hr.now]; rfl) b hxo c
    exact ⟨o, q1, by rw [q2]; exact c, .inl rfl⟩
/-- No fall is laid: what may be saved is saved. -/
theorem save_easy {s : St} {p : Pair} (h : Rest s p) (hf : s.fuse = -1) {o : List Held} (h0 : heldFault o = 0) (h6 : (toB (textH o)).size ≤ 6000) : ∃ s', saveP s o = (0, s') ∧ Rest s' (lone (toB (textH o))) ∧ s'.fuse = -1 := by
  generalize hT : toB (textH o) = t at *
  obtain ⟨hk, hn, hw, hd⟩ := h
  have nd : ∀ x : St, x.down = false → x.fuse = -1 → dead x = false := fun x a b => by simp [dead, a, b]
  have so : ∀ x : St, x.fuse = -1 → (stepOk x).fuse = -1 := fun x a => by simp [stepOk, a]
  have d1 := nd s hd hf
  have e1 : stg s t 1 = (0, { stepOk s with now := ⟨p.file, t, p.there, true⟩, wait := [⟨t, false⟩] }) := by
    simp only [stg, writeS, if_neg (show ¬ 6000 < t.size by omega), doS, d1, hn, hw, apply_write]
    rfl
  generalize hs1 : ({ stepOk s with now := ⟨p.file, t, p.there, true⟩, wait := [⟨t, false⟩] } : St) = s1 at e1
  have n1 : s1.now = ⟨p.file, t, p.there, true⟩ := by rw [← hs1]
  have f1 : s1.fuse = -1 := by rw [← hs1]; exact so s hf
  have g1 : s1.down = false := by rw [← hs1]; exact hd
  have e2 : stg s t 2 = (0, { stepOk s1 with kept := ⟨p.file, t, p.there, true⟩, wait := [] }) := by
    have : stg s t 2 = syncS (stg s t 1).2 := rfl
    rw [this, e1]
    simp [syncS, nd s1 g1 f1, n1]
  generalize hs2 : ({ stepOk s1 with kept := ⟨p.file, t, p.there, true⟩, wait := [] } : St) = s2 at e2
  have n2 : s2.now = ⟨p.file, t, p.there, true⟩ := by rw [← hs2]; exact n1
  have w2 : s2.wait = [] := by rw [← hs2]
  have f2 : s2.fuse = -1 := by rw [← hs2]; exact so s1 f1
  have g2 : s2.down = false := by rw [← hs2]; exact g1
  have e3 : stg s t 3 = (0, { stepOk s2 with now := lone t, wait := [⟨noText, true⟩] }) := by
    have : stg s t 3 = moveS (stg s t 2).2 := rfl
    rw [this, e2]
    simp [moveS, n2, doS, nd s2 g2 f2, w2, apply_move, lone]
  generalize hs3 : ({ stepOk s2 with now := lone t, wait := [⟨noText, true⟩] } : St) = s3 at e3
  have n3 : s3.now = lone t := by rw [← hs3]
  have f3 : s3.fuse = -1 := by rw [← hs3]; exact so s2 f2
  have g3 : s3.down = false := by rw [← hs3]; exact g2
  have e4 : stg s t 4 = (0, { stepOk s3 with kept := lone t, wait := [] }) := by
    have : stg s t 4 = syncS (stg s t 3).2 := rfl
    rw [this, e3]
    simp [syncS, nd s3 g3 f3, n3]
  refine ⟨{ stepOk s3 with kept := lone t, wait := [] }, ?_, ⟨rfl, n3, rfl, g3⟩, so s3 f3⟩
  rw [save_all h0 (by
    intro j hj
    rcases (show j = 0 ∨ j = 1 ∨ j = 2 ∨ j = 3 ∨ j = 4 by omega) with rfl | rfl | rfl | rfl | rfl
    · rfl
    · rw [hT, e1]
    · rw [hT, e2]
    · rw [hT, e3]
    · rw [hT, e4]), hT, e4]
/-! ### The first, empty one -/
theorem fault_nil : heldFault [] = 0 := rfl
theorem text_nil : (toB (textH [])).size ≤ 6000 := by
  have := itoa_16 (n := (sumP (bodyT []) : Int)) (by omega) (by have := sumP_lt (bodyT []); omega)
  have e : (toB (textH [])).size = (bodyT []).length + (4 + (Lib.itoa (sumP (bodyT []) : Int)).length + 1) := by
    rw [toB, size_list]
    unfold textH summed sumT
    simp only [List.length_append]
    rfl
  have e2 : (bodyT []).length = 0 := rfl
  rw [e, e2]
  omega
theorem fit_nil : Fit64 [] := fun x hx => by simp at hx
theorem rest_new : Rest Dk.new noPair := ⟨rfl, rfl, rfl, rfl⟩
end Tf
end Go.Proofs.YticmfflnenoplacGreatDoor
namespace Go.Proofs.YticmfflnenoplacGreatDoor
open Go.RowKit Go.Deep Pop Bi Da Sv Qo
/-- Are two the same? They are, if they are equal. -/
def SameR (eq : Prop) (w : World) (e : Ending) (w' : World) : Prop := ∃ b : Bool, e = .returned (.bool b) ∧ (eq → b = true) ∧ Below w.heap.size w w'
theorem SameR.no {eq : Prop} {w w' : World} (h : ¬ eq) (hb : Below w.heap.size w w') : SameR eq w (.returned (.bool false)) w' := ⟨false, rfl, fun h' => absurd h' h, hb⟩
theorem SameR.yes {eq : Prop} {w w' : World} (hb : Below w.heap.size w w') : SameR eq w (.returned (.bool true)) w' := ⟨true, rfl, fun _ => rfl, hb⟩
theorem ne_len {α : Type} {l m : List α} (h : ¬ l.length = m.length) : ¬ l = m := fun e => h (by rw [e])
theorem ne_at {α : Type} {l m : List α} {k : Nat} {x y : α} (h1 : l[k]? = some x) (h2 : m[k]? = some y) (h : ¬ x = y) : ¬ l = m := by
  rintro rfl
  exact h (Option.some.inj (h1.symm.trans h2))
theorem str_ne {a b : ByteArray} (h : (a.toList == b.toList) = false) : ¬ a = b := by
  rintro rfl
  simp at h
set_option maxRecDepth 100000 in
set_option maxHeartbeats 2000000 in
theorem sameN_any (l m : List Int) (v v2 : Value) (w : World) (h1 : RSlice w w.heap.size 1 RInt [v] l) (h2 : RSlice w w.heap.size 1 RInt [v2] m) :
    Calls Tryz.prog 54 #[v, v2] w (SameR (l = m) w) := by
  obtain ⟨A, cap, e, hl, hcap, hA⟩ := (RS.of h1).form
  obtain rfl : v = _ := by simpa using e
  obtain ⟨A2, cap2, e2, hl2, hcap2, hA2⟩ := (RS.of h2).form
  obtain rfl : v2 = _ := by simpa using e2
  unfold maxLen at hcap hcap2
  have H1 := Lib.hid h1
  have H2 := Lib.hid h2
  have HA := Lib.hid hA
  have HA2 := Lib.hid hA2
  clear h1 h2 hA hA2 e e2
  by_cases hlen : l.length = m.length
  · have HAT : Hid (∀ (k : Nat) (x y : Int), l[k]? = some x → m[k]? = some y → ¬ x = y → ¬ l = m) := Lib.hid (fun k x y h1 h2 h => ne_at h1 h2 h)
    have HLE := Lib.hid hlen
    rw [← hlen] at H2 HA2 hl2 ⊢
    generalize hll : l.length = ll at *
    have HLL := Lib.hid hll
    clear hll hlen
    go_enter Tryz.func54, Tryz.ntmps54
    go_upto_region 4 with fail
    go_loopw [5] (fun i wi => ∃ k : Nat, i = .int .i64 k ∧ k ≤ ll ∧ Below w.heap.size w wi) (fun i _ => ll - (intOf i).toNat)
    case atStart => exact ⟨0, rfl, by omega, Below.refl _ _⟩
    case round =>
      obtain ⟨k, rfl, hk, hbel⟩ := hrel
      by_cases hlt : k < ll
      · obtain ⟨b, off, rfl, hb⟩ := HA.out k hlt
        obtain ⟨b2, off2, rfl, hb2⟩ := HA2.out k hlt
        have hl1 : k < l.length := by rw [HLL.out]; exact hlt
        have hl3 : k < m.length := by rw [← HLE.out]; exact hlt
        obtain ⟨r0, _⟩ := rs_int1 (RS.of (H1.out.below hbel)) hl1
        obtain ⟨s0, _⟩ := rs_int1 (RS.of (H2.out.below hbel)) hl3
        have HN := Lib.hid (HAT.out k _ _ (List.getElem?_eq_getElem hl1) (List.getElem?_eq_getElem hl3))
        have hbs := hbel.size
        generalize l[k] = x at *
        generalize m[k] = y at *
        by_cases hxy : x = y
        · subst hxy
          clear HN
          go_upto_region 6 with fail
          go_quiet (fail)
          go_wp2_with fail
          go_roundw
          case rel => exact ⟨k + 1, by go_num, by omega, ⟨hbel.os, hbel.tape, hbel.output, hbel.size, hbel.block⟩⟩
          case measure => simp [intOf]; omega
        · have HX := Lib.hid (HN.out hxy)
          clear HN
          go_upto_region 6 with fail
          go_quiet (fail)
          go_wp2_with fail
          go_ret
          exact SameR.no HX.out ⟨hbel.os, hbel.tape, hbel.output, hbel.size, hbel.block⟩
      · obtain rfl : k = ll := by omega
        go_wp2_with fail
        go_ret
        exact SameR.yes hbel
  · have HX := Lib.hid (ne_len hlen)
    have hi : ¬ (l.length : Int) = m.length := by omega
    clear hlen
    go_enter Tryz.func54, Tryz.ntmps54
    go_wp2_with fail
    go_ret
    exact SameR.no HX.out (Below.refl _ _)
/-! ### Pods -/
theorem pod_ne {p q : Pod} (h : ¬ p.name = q.name ∨ ¬ p.prio = q.prio ∨ ¬ p.conts = q.conts) : ¬ p = q := by
  rintro rfl
  simp at h
theorem cont_ne {c d : Cont} (h : ¬ c.name = d.name ∨ ¬ c.askM = d.askM ∨ ¬ c.askB = d.askB ∨ ¬ c.capM = d.capM ∨ ¬ c.capB = d.capB ∨ ¬ c.devs = d.devs) : ¬ c = d := by
  rintro rfl
  simp at h
theorem need_ne {c d : Need} (h : ¬ c.kind = d.kind ∨ ¬ c.many = d.many) : ¬ c = d := by
  rintro rfl
  simp at h
set_option maxRecDepth 100000 in
set_option maxHeartbeats 8000000 in
theorem samePod_any (p q : Pod) (cs ds : List Value) (w : World) (h1 : RPod w w.heap.size cs p) (h2 : RPod w w.heap.size ds q) :
    Calls Tryz.prog 53 #[.agg cs.toArray, .agg ds.toArray] w (SameR (p = q) w) := by
  obtain ⟨cv, rfl, hn1, hp1, hc1⟩ := h1
  obtain ⟨dv, rfl, hn2, hp2, hc2⟩ := h2
  obtain ⟨A, cap, e, hl, hcap, hA⟩ := (RS.of hc1).form
  obtain rfl : cv = _ := by simpa using e
  obtain ⟨A2, cap2, e2, hl2, hcap2, hA2⟩ := (RS.of hc2).form
  obtain rfl : dv = _ := by simpa using e2
  unfold maxLen at hcap hcap2 hn1 hn2
  have H1 := Lib.hid hc1
  have H2 := Lib.hid hc2
  have HA := Lib.hid hA
  have HA2 := Lib.hid hA2
  have HNE := Lib.hid (@pod_ne p q)
  have hb0 : Below w.heap.size w ((w.alloc (.cells #[.string p.name, .int .i64 p.prio, .slice A p.conts.length cap] 45)).alloc (.cells #[.string q.name, .int .i64 q.prio, .slice A2 q.conts.length cap2] 45)) := ((Below.refl _ _).alloc (Nat.le_refl _) _).alloc (by simp) _
  have k1 := (Blk.new w 45 #[.string p.name, .int .i64 p.prio, .slice A p.conts.length cap]).alloc (.cells #[.string q.name, .int .i64 q.prio, .slice A2 q.conts.length cap2] 45)
  have k2 := Blk.new (w.alloc (.cells #[.string p.name, .int .i64 p.prio, .slice A p.conts.length cap] 45)) 45 #[.string q.name, .int .i64 q.prio, .slice A2 q.conts.length cap2]
  have hsz : (w.alloc (.cells #[.string p.name, .int .i64 p.prio, .slice A p.conts.length cap] 45)).heap.size = w.heap.size + 1 := by simp
  rw [hsz] at k2
  clear hc1 hc2 hA hA2 e e2 hsz
  obtain ⟨pn, pp, pc⟩ := p
  obtain ⟨qn, qp, qc⟩ := q
  dsimp only at *
  go_enter Tryz.func53, Tryz.ntmps53
  go_upto_region 1 with fail
  generalize (w.alloc (.cells #[.string pn, .int .i64 pp, .slice A pc.length cap] 45)).alloc (.cells #[.string qn, .int .i64 qp, .slice A2 qc.length cap2] 45) = w1 at *
  have HB0 := Lib.hid hb0
  clear hb0
  have K1 := Lib.hid k1
  have K2 := Lib.hid k2
  have e1 := k1.cells
  have e2 := k2.cells
  have z1 := k1.lt
  have z2 := k2.lt
  have hwz := HB0.out.size
  cases hE : (pn.toList == qn.toList)
  · have HX := Lib.hid (HNE.out (.inl (str_ne hE)))
    clear HNE H1 H2
    go_wp2_with fail
    go_ret
    exact SameR.no HX.out HB0.out
  · have hnn : pn = qn := by rw [beq_iff_eq] at hE; exact Go.WideShapes.bytes_inj (by rw [← data_list, ← data_list, hE])
    subst hnn
    by_cases hpq : pp = qp
    · subst hpq
      by_cases hlen : pc.length = qc.length
      · have HAT : Hid (∀ (k : Nat) (x y : Cont), pc[k]? = some x → qc[k]? = some y → ¬ x = y → ¬ (⟨pn, pp, pc⟩ : Pod) = ⟨pn, pp, qc⟩) := Lib.hid (fun k x y h1 h2 h => HNE.out (.inr (.inr (ne_at h1 h2 h))))
        have HLE := Lib.hid hlen
        rw [← hlen] at H2 HA2 hl2 e2 ⊢
        have K2' := K2
        clear K2
        rw [← hlen] at K2'
        have K2 := K2'
        clear K2' k1 k2 HNE hE
        generalize hll : pc.length = ll at *
        have HLL := Lib.hid hll
        clear hll hlen
        go_upto_region 4 with fail
        go_loopw [5] (fun i wi => ∃ k : Nat, i = .int .i64 k ∧ k ≤ ll ∧ Hid (Below w1.heap.size w1 wi)) (fun i _ => ll - (intOf i).toNat)
        case atStart => exact ⟨0, rfl, by omega, Lib.hid (Below.refl _ _)⟩
        case round =>
          clear e1 e2
          obtain ⟨k, rfl, hk, HB⟩ := hrel
          have k1 := K1.out.below HB.out z1
          have k2 := K2.out.below HB.out z2
          have e1 := k1.cells
          have e2 := k2.cells
          have y1 := k1.lt
          have y2 := k2.lt
          by_cases hlt : k < ll
          · obtain ⟨b, off, rfl, hb⟩ := HA.out k hlt
            obtain ⟨b2, off2, rfl, hb2⟩ := HA2.out k hlt
            have hl1 : k < pc.length := by rw [HLL.out]; exact hlt
            have hl3 : k < qc.length := by rw [← HLE.out]; exact hlt
            have hbw : Below w.heap.size w wr := HB0.out.trans (HB.out.mono hwz)
            obtain ⟨_, A3, c3, hd1, _, hcc, g1, g2, g3⟩ := cont_at2 H1.out hbw hl1
            obtain ⟨_, A4, c4, hd2, _, hcd, g4, g5, g6⟩ := cont_at2 H2.out hbw hl3
            have HN := Lib.hid (HAT.out k _ _ (List.getElem?_eq_getElem hl1) (List.getElem?_eq_getElem hl3))
            have HCN := Lib.hid (@cont_ne pc[k] qc[k])
            have c0 := hcc 0 _ rfl
            have c1 := hcc 1 _ rfl
            have c2 := hcc 2 _ rfl
            have c3' := hcc 3 _ rfl
            have c4' := hcc 4 _ rfl
            have c5 := hcc 5 _ rfl
            have d0 := hcd 0 _ rfl
            have d1 := hcd 1 _ rfl
            have d2 := hcd 2 _ rfl
            have d3 := hcd 3 _ rfl
            have d4 := hcd 4 _ rfl
            have d5 := hcd 5 _ rfl
            rw [Nat.add_zero] at c0 d0
            have hbs := hbw.size
            have hb1w : b < wr.heap.size := by omega
            have hb2w : b2 < wr.heap.size := by omega
            have HD1 := Lib.hid hd1
            have HD2 := Lib.hid hd2
            have HG3 := Lib.hid g3
            have HG6 := Lib.hid g6
            unfold maxLen at g2 g5
            clear hcc hcd hd1 hd2 g3 g6
            generalize pc[k] = x at *
            generalize qc[k] = y at *
            obtain ⟨xn, x1, x2, x3, x4, xd⟩ := x
            obtain ⟨yn, y1', y2', y3, y4, yd⟩ := y
            dsimp only at *
            go_upto_region 8 with fail
            have hba : Below wr.heap.size wr ((wr.alloc (.cells #[.string xn, .int .i64 x1, .int .i64 x2, .int .i64 x3, .int .i64 x4, .slice A3 xd.length c3] 73)).alloc (.cells #[.string yn, .int .i64 y1', .int .i64 y2', .int .i64 y3, .int .i64 y4, .slice A4 yd.length c4] 73)) := ((Below.refl _ _).alloc (Nat.le_refl _) _).alloc (by simp) _
            have m1 := (Blk.new wr 73 #[.string xn, .int .i64 x1, .int .i64 x2, .int .i64 x3, .int .i64 x4, .slice A3 xd.length c3]).alloc (.cells #[.string yn, .int .i64 y1', .int .i64 y2', .int .i64 y3, .int .i64 y4, .slice A4 yd.length c4] 73)
            have m2 := Blk.new (wr.alloc (.cells #[.string xn, .int .i64 x1, .int .i64 x2, .int .i64 x3, .int .i64 x4, .slice A3 xd.length c3] 73)) 73 #[.string yn, .int .i64 y1', .int .i64 y2', .int .i64 y3, .int .i64 y4, .slice A4 yd.length c4]
            have hsz : (wr.alloc (.cells #[.string xn, .int .i64 x1, .int .i64 x2, .int .i64 x3, .int .i64 x4, .slice A3 xd.length c3] 73)).heap.size = wr.heap.size + 1 := by simp
            rw [hsz] at m2
            clear c0 c1 c2 c3' c4' c5 d0 d1 d2 d3 d4 d5 hsz e1 e2
            have k1 := k1.below hba y1
            have k2 := k2.below hba y2
            have HBA := Lib.hid hba
            have hws := hba.size
            have HD1w := Lib.hid (HD1.out.below (hba.mono hbs))
            have HD2w := Lib.hid (HD2.out.below (hba.mono hbs))
            clear HD1 HD2
            have HD1 := HD1w
            have HD2 := HD2w
            clear HD1w HD2w
            clear hba
            generalize (wr.alloc (.cells #[.string xn, .int .i64 x1, .int .i64 x2, .int .i64 x3, .int .i64 x4, .slice A3 xd.length c3] 73)).alloc (.cells #[.string yn, .int .i64 y1', .int .i64 y2', .int .i64 y3, .int .i64 y4, .slice A4 yd.length c4] 73) = wa at *
            have HBB := Lib.hid (HB.out.trans (HBA.out.mono HB.out.size))
            have HBW := Lib.hid (hbw.trans (HBA.out.mono hbw.size))
            have e1 := k1.cells
            have e2 := k2.cells
            have f1 := m1.cells
            have f2 := m2.cells
            have y1 := k1.lt
            have y2 := k2.lt
            have v1 := m1.lt
            have v2 := m2.lt
            clear hbw
            generalize wr.heap.size = pr at *
            cases hE : (xn.toList == yn.toList)
            · have HX := Lib.hid (HN.out (HCN.out (.inl (str_ne hE))))
              clear HN HCN HAT
              go_wp2_with fail
              go_ret
              exact SameR.no HX.out HBW.out
            · have hnn : xn = yn := by rw [beq_iff_eq] at hE; exact Go.WideShapes.bytes_inj (by rw [← data_list, ← data_list, hE])
              subst hnn
              clear hE
              by_cases h : x1 = y1'
              · subst h
                by_cases h : x2 = y2'
                · subst h
                  by_cases h : x3 = y3
                  · subst h
                    by_cases h : x4 = y4
                    · subst h
                      by_cases hlen2 : xd.length = yd.length
                      · have HDT : Hid (∀ (j : Nat) (u z : Need), xd[j]? = some u → yd[j]? = some z → ¬ u = z → ¬ (⟨pn, pp, pc⟩ : Pod) = ⟨pn, pp, qc⟩) := Lib.hid (fun j u z h1 h2 h => HN.out (HCN.out (.inr (.inr (.inr (.inr (.inr (ne_at h1 h2 h))))))))
                        have HDE := Lib.hid hlen2
                        rw [← hlen2] at HD2 HG6 g4 f2 m2
                        clear HN HCN
                        rw [← hlen2]
                        generalize hdd : xd.length = dl at *
                        have HDL := Lib.hid hdd
                        clear hdd hlen2
                        have M1 := Lib.hid m1
                        have M2 := Lib.hid m2
                        have K1a := Lib.hid k1
                        have K2a := Lib.hid k2
                        go_upto_region 11 with fail
                        go_loopw [8] (fun i wi => ∃ j : Nat, i = .int .i64 j ∧ j ≤ dl ∧ Hid (Below wa.heap.size wa wi)) (fun i _ => dl - (intOf i).toNat)
                        case atStart => exact ⟨0, rfl, by omega, Lib.hid (Below.refl _ _)⟩
                        case round =>
                          clear e1 e2 f1 f2
                          obtain ⟨j, rfl, hj, HBJ⟩ := hrel
                          have q1 := M1.out.below HBJ.out v1
                          have q2 := M2.out.below HBJ.out v2
                          have f1 := q1.cells
                          have f2 := q2.cells
                          have u1 := q1.lt
                          have u2 := q2.lt
                          have HBV := Lib.hid (HBB.out.trans (HBJ.out.mono HBB.out.size))
                          by_cases hltj : j < dl
                          · obtain ⟨b5, off5, rfl, hb5⟩ := HG3.out j hltj
                            obtain ⟨b6, off6, rfl, hb6⟩ := HG6.out j hltj
                            have hj1 : j < xd.length := by rw [HDL.out]; exact hltj
                            have hj2 : j < yd.length := by rw [← HDE.out]; exact hltj
                            have hbj : Below w.heap.size wa wr := HBJ.out.mono (by omega)
                            obtain ⟨n0, n1, _⟩ := need_at (HD1.out.below hbj) hj1
                            obtain ⟨o0, o1, _⟩ := need_at (HD2.out.below hbj) hj2
                            have HNJ := Lib.hid (HDT.out j _ _ (List.getElem?_eq_getElem hj1) (List.getElem?_eq_getElem hj2))
                            have HNN := Lib.hid (@need_ne xd[j] yd[j])
                            have hbz := hbj.size
                            have h5w : b5 < wr.heap.size := by omega
                            have h6w : b6 < wr.heap.size := by omega
                            have HBF : Hid (Below w.heap.size w wr) := Lib.hid (HBW.out.trans hbj)
                            clear hbj HDT
                            generalize xd[j] = u at *
                            generalize yd[j] = z at *
                            obtain ⟨uk, um⟩ := u
                            obtain ⟨zk, zm⟩ := z
                            dsimp only at *
                            cases hE : (uk.toList == zk.toList)
                            · have HX := Lib.hid (HNJ.out (HNN.out (.inl (str_ne hE))))
                              clear HNJ HNN
                              go_upto_region 13 with fail
                              go_quiet (fail)
                              go_wp2_with fail
                              go_ret
                              exact SameR.no HX.out (below_drewN9 HBF.out _)
                            · have hnn : uk = zk := by rw [beq_iff_eq] at hE; exact Go.WideShapes.bytes_inj (by rw [← data_list, ← data_list, hE])
                              subst hnn
                              clear hE
                              by_cases h : um = zm
                              · subst h
                                clear HNJ HNN
                                go_upto_region 13 with fail
                                go_quiet (fail)
                                go_wp2_with fail
                                go_roundw
                                case rel => exact ⟨j + 1, by first | rfl | go_num, by omega, Lib.hid (below_drewN9 HBJ.out _)⟩
                                case measure => simp [intOf] <;> omega
                              · have HX := Lib.hid (HNJ.out (HNN.out (.inr h)))
                                clear HNJ HNN
                                go_upto_region 13 with fail
                                go_quiet (fail)
                                go_wp2_with fail
                                go_ret
                                exact SameR.no HX.out (below_drewN9 HBF.out _)
                          · obtain rfl : j = dl := by omega
                            go_wp2_with fail
                            go_roundw
                            case rel => exact ⟨k + 1, by first | rfl | go_num, by omega, HBV⟩
                            case measure => simp [intOf] <;> omega
                      · have HX := Lib.hid (HN.out (HCN.out (.inr (.inr (.inr (.inr (.inr (ne_len hlen2))))))))
                        have hi2 : ¬ (xd.length : Int) = yd.length := by omega
                        clear HN HCN HAT hlen2
                        go_wp2_with fail
                        go_ret
                        exact SameR.no HX.out HBW.out
                    · have HX := Lib.hid (HN.out (HCN.out (.inr (.inr (.inr (.inr (.inl h)))))))
                      clear HN HCN HAT
                      go_wp2_with fail
                      go_ret
                      exact SameR.no HX.out HBW.out
                  · have HX := Lib.hid (HN.out (HCN.out (.inr (.inr (.inr (.inl h))))))
                    clear HN HCN HAT
                    go_wp2_with fail
                    go_ret
                    exact SameR.no HX.out HBW.out
                · have HX := Lib.hid (HN.out (HCN.out (.inr (.inr (.inl h)))))
                  clear HN HCN HAT
                  go_wp2_with fail
                  go_ret
                  exact SameR.no HX.out HBW.out
              · have HX := Lib.hid (HN.out (HCN.out (.inr (.inl h))))
                clear HN HCN HAT
                go_wp2_with fail
                go_ret
                exact SameR.no HX.out HBW.out
          · obtain rfl : k = ll := by omega
            go_wp2_with fail
            go_ret
            exact SameR.yes (HB0.out.trans (HB.out.mono hwz))
      · have HX := Lib.hid (HNE.out (.inr (.inr (ne_len hlen))))
        have hi : ¬ (pc.length : Int) = qc.length := by omega
        clear HNE H1 H2 hlen
        go_wp2_with fail
        go_ret
        exact SameR.no HX.out HB0.out
    · have HX := Lib.hid (HNE.out (.inr (.inl hpq)))
      clear HNE H1 H2
      go_wp2_with fail
      go_ret
      exact SameR.no HX.out HB0.out
end Go.Proofs.YticmfflnenoplacGreatDoor
namespace Go.Proofs.YticmfflnenoplacGreatDoor
open Go.RowKit Go.Deep Pop Bi Da Sv Qo
theorem RPod_up {w : World} {B B' : Nat} {cs : List Value} {p : Pod} (h : RPod w B cs p) (hb : B ≤ B') : RPod w B' cs p := by
  obtain ⟨cv, h1, h2, h3, h4⟩ := h
  refine ⟨cv, h1, h2, h3, RS.move h4 (fun _ _ => rfl) (fun b h => Nat.lt_of_lt_of_le h hb) fun _ _ _ h => ?_⟩
  obtain ⟨dv, q1, q2, q3, q4, q5, q6, q7⟩ := h
  exact ⟨dv, q1, q2, q3, q4, q5, q6, RS.move q7 (fun _ _ => rfl) (fun b h => Nat.lt_of_lt_of_le h hb) fun _ _ _ h => h⟩
/-! ### What is held -/
theorem held_ne {x y : Held} (h : ¬ x.pod = y.pod ∨ ¬ x.given = y.given) : ¬ x = y := by
  rintro rfl
  simp at h
theorem given_ne {x y : Given} (h : ¬ x.cpus = y.cpus ∨ ¬ x.devs = y.devs) : ¬ x = y := by
  rintro rfl
  simp at h
set_option maxRecDepth 100000 in
set_option maxHeartbeats 8000000 in
theorem sameH_any (l m : List Held) (v v2 : Value) (w : World) (h1 : RSlice w w.heap.size 4 (RHeld w w.heap.size) [v] l) (h2 : RSlice w w.heap.size 4 (RHeld w w.heap.size) [v2] m) :
    Calls Tryz.prog 18 #[v, v2] w (SameR (l = m) w) := by
  obtain ⟨A, cap, e, hl, hcap, hA⟩ := (RS.of h1).form
  obtain rfl : v = _ := by simpa using e
  obtain ⟨A2, cap2, e2, hl2, hcap2, hA2⟩ := (RS.of h2).form
  obtain rfl : v2 = _ := by simpa using e2
  unfold maxLen at hcap hcap2
  have H1 := Lib.hid h1
  have H2 := Lib.hid h2
  have HA := Lib.hid hA
  have HA2 := Lib.hid hA2
  clear h1 h2 hA hA2 e e2
  by_cases hlen : l.length = m.length
  · have HAT : Hid (∀ (k : Nat) (x y : Held), l[k]? = some x → m[k]? = some y → ¬ x = y → ¬ l = m) := Lib.hid (fun k x y h1 h2 h => ne_at h1 h2 h)
    have HLE := Lib.hid hlen
    rw [← hlen] at H2 HA2 hl2 ⊢
    generalize hll : l.length = ll at *
    have HLL := Lib.hid hll
    clear hll hlen
    go_enter Tryz.func18, Tryz.ntmps18
    go_upto_region 4 with fail
    go_loopw [5] (fun i wi => ∃ k : Nat, i = .int .i64 k ∧ k ≤ ll ∧ Hid (Below w.heap.size w wi)) (fun i _ => ll - (intOf i).toNat)
    case atStart => exact ⟨0, rfl, by omega, Lib.hid (Below.refl _ _)⟩
    case round =>
      obtain ⟨k, rfl, hk, HB⟩ := hrel
      by_cases hlt : k < ll
      · obtain ⟨b, off, rfl, hb⟩ := HA.out k hlt
        obtain ⟨b2, off2, rfl, hb2⟩ := HA2.out k hlt
        have hl1 : k < l.length := by rw [HLL.out]; exact hlt
        have hl3 : k < m.length := by rw [← HLE.out]; exact hlt
        have hR1 := (H1.out.below HB.out).mono fun _ _ h => RHeld.below h HB.out
        have hR2 := (H2.out.below HB.out).mono fun _ _ h => RHeld.below h HB.out
        obtain ⟨A3, c3, A4, c4, r0, r1, r2, r3, hp1, _, i1, i2, j1, j2, _, _, hg1, hgA1⟩ := held_at hR1 hl1
        obtain ⟨A5, c5, A6, c6, s0, s1, s2, s3, hp2, _, i3, i4, j3, j4, _, _, hg2, hgA2⟩ := held_at hR2 hl3
        have HN := Lib.hid (HAT.out k _ _ (List.getElem?_eq_getElem hl1) (List.getElem?_eq_getElem hl3))
        have HHN := Lib.hid (@held_ne l[k] m[k])
        have hbs := HB.out.size
        have hb1w : b < wr.heap.size := by omega
        have hb2w : b2 < wr.heap.size := by omega
        have HP1 := Lib.hid hp1
        have HP2 := Lib.hid hp2
        have HG1 := Lib.hid hg1
        have HG2 := Lib.hid hg2
        have HGA1 := Lib.hid hgA1
        have HGA2 := Lib.hid hgA2
        unfold maxLen at i2 i4 j2 j4
        clear hR1 hR2 hp1 hp2 hg1 hg2 hgA1 hgA2
        generalize l[k] = x at *
        generalize m[k] = y at *
        obtain ⟨⟨xn, xp, xc⟩, xg⟩ := x
        obtain ⟨⟨yn, yp, yc⟩, yg⟩ := y
        dsimp only at *
        go_upto_region 6 with fail
        have hI : Below wr.heap.size wr wr.drew := (Below.refl _ _).drew
        refine Flo.region 10 [(0, true), (1, true), (2, true), (3, true), (4, true), (5, true), (6, true), (7, true), (8, true), (9, true)] (fun v => Below wr.heap.size wr v) (by kernel_rfl) (by kernel_rfl) rfl hI ?_
        simp only [List.drop_succ_cons, List.drop_zero]
        iterate 10 (apply Flo.op rfl (hI := hI); (· intro v hv K hK; obtain ⟨hc, hf⟩ := Flo.bcl hv; go_wp2_with fail; all_goals first | exact Flo.noUndef (by with_reducible assumption) | exact hK); (· rfl))
        have HBD : Hid (Below w.heap.size w wr.drew) := Lib.hid (below_drewN9 HB.out 1)
        have HSP : Hid (Calls Tryz.prog 53 #[.agg #[.string xn, .int .i64 xp, .slice A3 xc.length c3], .agg #[.string yn, .int .i64 yp, .slice A5 yc.length c5]] wr.drew (SameR ((⟨xn, xp, xc⟩ : Pod) = ⟨yn, yp, yc⟩) wr.drew)) := Lib.hid (by
          have hbb : Below wr.heap.size wr wr.drew := (Below.refl _ _).drew
          exact samePod_any ⟨xn, xp, xc⟩ ⟨yn, yp, yc⟩ _ _ wr.drew ((RPod_up HP1.out hbs).below hbb) ((RPod_up HP2.out hbs).below hbb))
        clear HB HP1 HP2 hI
        refine Flo.tail fun K hK => ?_
        go_wp2_with fail
        refine HSP.out.mono ?_
        rintro e w5 ⟨bb, rfl, hbeq, hb5⟩
        have HBQ := Lib.hid hbeq
        have HB5 := Lib.hid (HBD.out.trans (hb5.mono HBD.out.size))
        have hs5 := HB5.out.size
        have hq1 : ∀ o, w5.cell? ⟨b, o, none⟩ = wr.cell? ⟨b, o, none⟩ := fun o => hb5.cell (p := ⟨b, o, none⟩) hb1w
        have hq2 : ∀ o, w5.cell? ⟨b2, o, none⟩ = wr.cell? ⟨b2, o, none⟩ := fun o => hb5.cell (p := ⟨b2, o, none⟩) hb2w
        replace r3 := (hq1 _).trans r3
        replace s3 := (hq2 _).trans s3
        have hd5 : ∀ o b, b < wr.heap.size → w5.cell? ⟨b, o, none⟩ = wr.cell? ⟨b, o, none⟩ := fun o b h => hb5.cell (p := ⟨b, o, none⟩) h
        have hb5w : Below wr.heap.size wr w5 := (Below.refl wr.heap.size wr).drew.trans hb5
        have HGW1 := Lib.hid (HG1.out.below (hb5w.mono hbs) |>.mono fun _ _ h => RGiven.below h (hb5w.mono hbs))
        have HGW2 := Lib.hid (HG2.out.below (hb5w.mono hbs) |>.mono fun _ _ h => RGiven.below h (hb5w.mono hbs))
        clear hq1 hq2 hbeq HSP HBD hb5 hb5w HG1 HG2 r0 r1 r2 s0 s1 s2 hd5
        have hb15 : b < w5.heap.size := by omega
        have hb25 : b2 < w5.heap.size := by omega
        go_upto_region 7 with fail
        have hI : Below w5.heap.size w5 w5.drew := (Below.refl _ _).drew
        cases bb
        · have HX := Lib.hid (HN.out (HHN.out (.inl fun e => by have := HBQ.out e; cases this)))
          clear HN HHN HAT HBQ
          refine Flo.region 17 [(0, true), (1, true), (2, true), (3, true), (4, true), (5, true), (6, true), (7, true), (8, true), (9, true), (10, true), (11, true), (12, true), (13, true), (14, true), (15, true), (16, true)] (fun v => Below w5.heap.size w5 v) (by kernel_rfl) (by kernel_rfl) rfl hI ?_
          simp only [List.drop_succ_cons, List.drop_zero]
          iterate 17 (apply Flo.op rfl (hI := hI); (· intro v hv K hK; obtain ⟨hc, hf⟩ := Flo.bcl hv; go_wp2_with fail; all_goals first | exact Flo.noUndef (by with_reducible assumption) | exact hK); (· rfl))
          refine Flo.tail fun K hK => ?_
          go_wp2_with fail
          go_ret
          exact SameR.no HX.out (below_drewN9 HB5.out 1)
        · clear HBQ
          by_cases hgl : xg.length = yg.length
          · have HGT : Hid (∀ (j : Nat) (u z : Given), xg[j]? = some u → yg[j]? = some z → ¬ u = z → ¬ l = m) := Lib.hid (fun j u z h1 h2 h => HN.out (HHN.out (.inr (ne_at h1 h2 h))))
            have HGE := Lib.hid hgl
            rw [← hgl] at s3 j3 HGW2 HGA2
            generalize hgg : xg.length = gl at *
            have HGG := Lib.hid hgg
            clear hgg hgl HN HHN
            refine Flo.region 17 [(0, true), (1, true), (2, true), (3, true), (4, true), (5, true), (6, true), (7, true), (8, true), (9, true), (10, true), (11, true), (12, true), (13, true), (14, true), (15, true), (16, true)] (fun v => Below w5.heap.size w5 v) (by kernel_rfl) (by kernel_rfl) rfl hI ?_
            simp only [List.drop_succ_cons, List.drop_zero]
            iterate 17 (apply Flo.op rfl (hI := hI); (· intro v hv K hK; obtain ⟨hc, hf⟩ := Flo.bcl hv; go_wp2_with fail; all_goals first | exact Flo.noUndef (by with_reducible assumption) | exact hK); (· rfl))
            refine Flo.tail fun K hK => ?_
            go_upto_region 10 with fail
            go_loopw [7] (fun i wi => ∃ j : Nat, i = .int .i64 j ∧ j ≤ gl ∧ Hid (Below w5.heap.size w5 wi)) (fun i _ => gl - (intOf i).toNat)
            case atStart => exact ⟨0, rfl, by omega, Lib.hid hI⟩
            case round =>
              clear hI
              obtain ⟨j, rfl, hj, HBJ⟩ := hrel
              have t3 := (HBJ.out.cell (p := ⟨b, off + k * 4 + 3, none⟩) hb15).trans r3
              have v3 := (HBJ.out.cell (p := ⟨b2, off2 + k * 4 + 3, none⟩) hb25).trans s3
              have hbz := HBJ.out.size
              have hb1z : b < wr.heap.size := by omega
              have hb2z : b2 < wr.heap.size := by omega
              have HBV : Hid (Below w.heap.size w wr) := Lib.hid (HB5.out.trans (HBJ.out.mono hs5))
              by_cases hltj : j < gl
              · obtain ⟨b4, off4, rfl, hb4⟩ := HGA1.out j hltj
                obtain ⟨b6, off6, rfl, hb6⟩ := HGA2.out j hltj
                have hj1 : j < xg.length := by rw [HGG.out]; exact hltj
                have hj2 : j < yg.length := by rw [← HGE.out]; exact hltj
                have hBw : Below w.heap.size w5 wr := HBJ.out.mono hs5
                obtain ⟨A7, c7, g0, g1, hgc, hg1, hg2, hgd, hgdA⟩ := given_at ((HGW1.out.below hBw).mono fun _ _ h => h.below hBw) hj1
                obtain ⟨A8, c8, o0, o1, hoc, ho1, ho2, hod, hodA⟩ := given_at ((HGW2.out.below hBw).mono fun _ _ h => h.below hBw) hj2
                have HNJ := Lib.hid (HGT.out j _ _ (List.getElem?_eq_getElem hj1) (List.getElem?_eq_getElem hj2))
                have HNN := Lib.hid (@given_ne xg[j] yg[j])
                have hb4z : b4 < wr.heap.size := by omega
                have hb6z : b6 < wr.heap.size := by omega
                have HD1 := Lib.hid hgd
                have HD2 := Lib.hid hod
                unfold maxLen at hg2 ho2
                clear hgd hod hgdA hodA hBw HGT
                generalize xg[j] = u at *
                generalize yg[j] = z at *
                obtain ⟨uc, ud⟩ := u
                obtain ⟨zc, zd⟩ := z
                dsimp only at *
                go_upto_region 14 with fail
                have hba : Below wr.heap.size wr ((wr.alloc (.cells #[.int .u64 (uc : Nat), .slice A7 ud.length c7] 80)).alloc (.cells #[.int .u64 (zc : Nat), .slice A8 zd.length c8] 80)) := ((Below.refl _ _).alloc (Nat.le_refl _) _).alloc (by simp) _
                have m1 := (Blk.new wr 80 #[.int .u64 (uc : Nat), .slice A7 ud.length c7]).alloc (.cells #[.int .u64 (zc : Nat), .slice A8 zd.length c8] 80)
                have m2 := Blk.new (wr.alloc (.cells #[.int .u64 (uc : Nat), .slice A7 ud.length c7] 80)) 80 #[.int .u64 (zc : Nat), .slice A8 zd.length c8]
                have hsz : (wr.alloc (.cells #[.int .u64 (uc : Nat), .slice A7 ud.length c7] 80)).heap.size = wr.heap.size + 1 := by simp
                rw [hsz] at m2
                have HBA := Lib.hid hba
                clear g0 g1 o0 o1 t3 v3 hsz hba
                generalize (wr.alloc (.cells #[.int .u64 (uc : Nat), .slice A7 ud.length c7] 80)).alloc (.cells #[.int .u64 (zc : Nat), .slice A8 zd.length c8] 80) = wa at *
                have HBX := Lib.hid (HBV.out.trans (HBA.out.mono HBV.out.size))
                have HBJ2 := Lib.hid (HBJ.out.trans (HBA.out.mono hbz))
                have HSN := Lib.hid (sameN_any ud zd _ _ wa ((RS.of (HD1.out.below (HBA.out.mono HBV.out.size))).move (fun _ _ => rfl) (fun b h => Nat.lt_of_lt_of_le h HBX.out.size) fun _ _ _ h => h) ((RS.of (HD2.out.below (HBA.out.mono HBV.out.size))).move (fun _ _ => rfl) (fun b h => Nat.lt_of_lt_of_le h HBX.out.size) fun _ _ _ h => h))
                have f1 := m1.cells
                have f2 := m2.cells
                have u1 := m1.lt
                have u2 := m2.lt
                clear HD1 HD2 HBV HBJ
                generalize wr.heap.size = pr at *
                go_wp2_with fail
                refine HSN.out.mono ?_
                rintro e w8 ⟨bb, rfl, hbeq, hb8⟩
                have HQ := Lib.hid hbeq
                have n1 := m1.below hb8 u1
                have n2 := m2.below hb8 u2
                have f1 := n1.cells
                have f2 := n2.cells
                have y1 := n1.lt
                have y2 := n2.lt
                have HBX8 := Lib.hid (HBX.out.trans (hb8.mono HBX.out.size))
                have HBJ8 := Lib.hid (HBJ2.out.trans (hb8.mono HBJ2.out.size))
                clear HSN hbeq hb8 m1 m2 HBX HBJ2 HBA
                by_cases huz : uc = zc
                · subst huz
                  cases bb
                  · have HX := Lib.hid (HNJ.out (HNN.out (.inr fun e => by have := HQ.out e; cases this)))
                    clear HNJ HNN HQ HAT
                    go_wp2_with fail
                    go_ret
                    exact SameR.no HX.out HBX8.out
                  · clear HNJ HNN HQ
                    go_wp2_with fail
                    go_roundw
                    case rel => exact ⟨j + 1, by first | rfl | go_num, by omega, HBJ8⟩
                    case measure => simp [intOf] <;> omega
                · have HX := Lib.hid (HNJ.out (HNN.out (.inl huz)))
                  have hui : ¬ (uc : Int) = zc := by omega
                  clear HNJ HNN HQ HAT huz
                  go_wp2_with fail
                  go_ret
                  exact SameR.no HX.out HBX8.out
              · obtain rfl : j = gl := by omega
                go_wp2_with fail
                go_roundw
                case rel => exact ⟨k + 1, by first | rfl | go_num, by omega, HBV⟩
                case measure => simp [intOf] <;> omega
          · have HX := Lib.hid (HN.out (HHN.out (.inr (ne_len hgl))))
            have hi2 : ¬ (xg.length : Int) = yg.length := by omega
            clear HN HHN HAT hgl
            refine Flo.region 17 [(0, true), (1, true), (2, true), (3, true), (4, true), (5, true), (6, true), (7, true), (8, true), (9, true), (10, true), (11, true), (12, true), (13, true), (14, true), (15, true), (16, true)] (fun v => Below w5.heap.size w5 v) (by kernel_rfl) (by kernel_rfl) rfl hI ?_
            simp only [List.drop_succ_cons, List.drop_zero]
            iterate 17 (apply Flo.op rfl (hI := hI); (· intro v hv K hK; obtain ⟨hc, hf⟩ := Flo.bcl hv; go_wp2_with fail; all_goals first | exact Flo.noUndef (by with_reducible assumption) | exact hK); (· rfl))
            refine Flo.tail fun K hK => ?_
            go_wp2_with fail
            go_ret
            exact SameR.no HX.out (below_drewN9 HB5.out 1)
      · obtain rfl : k = ll := by omega
        go_wp2_with fail
        go_ret
        exact SameR.yes HB.out
  · have HX := Lib.hid (ne_len hlen)
    have hi : ¬ (l.length : Int) = m.length := by omega
    clear hlen H1 H2
    go_enter Tryz.func18, Tryz.ntmps18
    go_wp2_with fail
    go_ret
    exact SameR.no HX.out (Below.refl _ _)
end Go.Proofs.YticmfflnenoplacGreatDoor
namespace Go.Proofs.YticmfflnenoplacGreatDoor
open Go.RowKit Go.Deep Da

section
variable {H : Type} {enc : TypeId × Value → H} {w : World} {spare : Nat → Bool} {held : Bool}
theorem list2 {β : Type} {l : List β} (h : l.length = 2) : ∃ c0 c1, l = [c0, c1] := by
  match l, h with
  | [c0, c1], _ => exact ⟨c0, c1, rfl⟩
theorem list3 {β : Type} {l : List β} (h : l.length = 3) : ∃ c0 c1 c2, l = [c0, c1, c2] := by
  match l, h with
  | [c0, c1, c2], _ => exact ⟨c0, c1, c2, rfl⟩
theorem list4 {β : Type} {l : List β} (h : l.length = 4) : ∃ c0 c1 c2 c3, l = [c0, c1, c2, c3] := by
  match l, h with
  | [c0, c1, c2, c3], _ => exact ⟨c0, c1, c2, c3, rfl⟩
theorem list6 {β : Type} {l : List β} (h : l.length = 6) : ∃ c0 c1 c2 c3 c4 c5, l = [c0, c1, c2, c3, c4, c5] := by
  match l, h with
  | [c0, c1, c2, c3, c4, c5], _ => exact ⟨c0, c1, c2, c3, c4, c5, rfl⟩
theorem list10 {β : Type} {l : List β} (h : l.length = 10) : ∃ c0 c1 c2 c3 c4 c5 c6 c7 c8 c9, l = [c0, c1, c2, c3, c4, c5, c6, c7, c8, c9] := by
  match l, h with
  | [c0, c1, c2, c3, c4, c5, c6, c7, c8, c9], _ => exact ⟨c0, c1, c2, c3, c4, c5, c6, c7, c8, c9, rfl⟩
theorem some_of {β : Type} {xs : List β} {n i : Nat} (h : xs.length = n) (hi : i < n) : ∃ y, xs[i]? = some y := ⟨xs[i], List.getElem?_eq_getElem (by omega)⟩
theorem field_of {P : Program} {fs : Array Field} {n i off sz : Nat} {f : Field} {t : TypeId} {cs : List Value} {xs : List (DataW H × List MemPlace)} {y : DataW H × List MemPlace}
    (hf : ∀ (i : Nat) (f : Field), fs[i]? = some f → DataW.trod enc P w 0 spare held n f.type ((cs.drop f.offset).take (P.cellsOf f.type)) = xs[i]?) (hi : fs[i]? = some f) (ht : f.type = t) (ho : f.offset = off) (hs : P.cellsOf t = sz) (e : xs[i]? = some y) :
    DataW.trod enc P w 0 spare held n t ((cs.drop off).take sz) = some y := by
  have := hf i f hi
  rw [ht, ho, hs, e] at this
  exact this
theorem cells_int : Tryz.prog.cellsOf 3 = 1 := by kernel_rfl
theorem cells_str : Tryz.prog.cellsOf 9 = 1 := by kernel_rfl
theorem cells_mask : Tryz.prog.cellsOf 81 = 1 := by kernel_rfl
theorem cells_need : Tryz.prog.cellsOf 128 = 2 := by kernel_rfl
theorem cells_needs : Tryz.prog.cellsOf 71 = 1 := by kernel_rfl
theorem cells_amount : Tryz.prog.cellsOf 65 = 2 := by kernel_rfl
theorem cells_cont : Tryz.prog.cellsOf 73 = 6 := by kernel_rfl
theorem cells_conts : Tryz.prog.cellsOf 43 = 1 := by kernel_rfl
theorem cells_pod : Tryz.prog.cellsOf 45 = 3 := by kernel_rfl
theorem cells_use : Tryz.prog.cellsOf 95 = 2 := by kernel_rfl
theorem cells_uses : Tryz.prog.cellsOf 92 = 1 := by kernel_rfl
theorem cells_ints : Tryz.prog.cellsOf 78 = 1 := by kernel_rfl
theorem cells_act : Tryz.prog.cellsOf 104 = 10 := by kernel_rfl

theorem need_of (fuel : Nat) (cs : List Value) (x : DataW H × List MemPlace) (h : DataW.trod enc Tryz.prog w 0 spare held fuel 128 cs = some x) : ∃ y, RNeed cs y := by
  obtain ⟨xs, n, _, _, hcl, hxl, hf⟩ := DataW.trod_struct Tryz.underlying128 h
  rw [cells_need] at hcl
  obtain ⟨c0, c1, rfl⟩ := list2 hcl
  obtain ⟨y0, e0⟩ := some_of (i := 0) hxl (by decide)
  obtain ⟨y1, e1⟩ := some_of (i := 1) hxl (by decide)
  have h0 := field_of hf (i := 0) rfl rfl rfl cells_str e0
  have h1 := field_of hf (i := 1) rfl rfl rfl cells_int e1
  obtain ⟨s, hs, _, hl⟩ := DataW.trod_string Tryz.underlying9 h0
  obtain ⟨k, hk, _, hw⟩ := DataW.trod_int Tryz.underlying3 h1
  simp at hs hk
  subst hs hk
  exact ⟨⟨s, k⟩, rfl, hl, i64_bounds hw⟩

theorem use_of (fuel : Nat) (cs : List Value) (x : DataW H × List MemPlace) (h : DataW.trod enc Tryz.prog w 0 spare held fuel 95 cs = some x) : ∃ y, RUse cs y := by
  obtain ⟨xs, n, _, _, hcl, hxl, hf⟩ := DataW.trod_struct Tryz.underlying95 h
  rw [cells_use] at hcl
  obtain ⟨c0, c1, rfl⟩ := list2 hcl
  obtain ⟨y0, e0⟩ := some_of (i := 0) hxl (by decide)
  obtain ⟨y1, e1⟩ := some_of (i := 1) hxl (by decide)
  have h0 := field_of hf (i := 0) rfl rfl rfl cells_str e0
  have h1 := field_of hf (i := 1) rfl rfl rfl cells_int e1
  obtain ⟨s, hs, _, hl⟩ := DataW.trod_string Tryz.underlying9 h0
  obtain ⟨k, hk, _, hw⟩ := DataW.trod_int Tryz.underlying3 h1
  simp at hs hk
  subst hs hk
  exact ⟨⟨s, k⟩, rfl, hl, i64_bounds hw⟩

theorem int_of (fuel : Nat) (cs : List Value) (x : DataW H × List MemPlace) (h : DataW.trod enc Tryz.prog w 0 spare held fuel 3 cs = some x) : ∃ y, RInt cs y := by
  obtain ⟨k, hk, _, hw⟩ := DataW.trod_int Tryz.underlying3 h
  exact ⟨k, hk, i64_bounds hw⟩

theorem amount_of (fuel : Nat) (cs : List Value) (x : DataW H × List MemPlace) (h : DataW.trod enc Tryz.prog w 0 spare held fuel 65 cs = some x) : ∃ a b : Int, cs = [.int .i64 a, .int .i64 b] ∧ (-9223372036854775808 ≤ a ∧ a ≤ 9223372036854775807) ∧ (-9223372036854775808 ≤ b ∧ b ≤ 9223372036854775807) := by
  obtain ⟨xs, n, _, _, hcl, hxl, hf⟩ := DataW.trod_struct Tryz.underlying65 h
  rw [cells_amount] at hcl
  obtain ⟨c0, c1, rfl⟩ := list2 hcl
  obtain ⟨y0, e0⟩ := some_of (i := 0) hxl (by decide)
  obtain ⟨y1, e1⟩ := some_of (i := 1) hxl (by decide)
  have h0 := field_of hf (i := 0) rfl rfl rfl cells_int e0
  have h1 := field_of hf (i := 1) rfl rfl rfl cells_int e1
  obtain ⟨s, hs, _, hl⟩ := DataW.trod_int Tryz.underlying3 h0
  obtain ⟨k, hk, _, hw⟩ := DataW.trod_int Tryz.underlying3 h1
  simp at hs hk
  subst hs hk
  exact ⟨s, k, rfl, i64_bounds hl, i64_bounds hw⟩

theorem cont_of (fuel : Nat) (cs : List Value) (x : DataW H × List MemPlace) (h : DataW.trod enc Tryz.prog w 0 spare held fuel 73 cs = some x) : ∃ y, RCont w w.heap.size cs y := by
  obtain ⟨xs, n, _, _, hcl, hxl, hf⟩ := DataW.trod_struct Tryz.underlying73 h
  rw [cells_cont] at hcl
  obtain ⟨c0, c1, c2, c3, c4, c5, rfl⟩ := list6 hcl
  obtain ⟨y0, e0⟩ := some_of (i := 0) hxl (by decide)
  obtain ⟨y1, e1⟩ := some_of (i := 1) hxl (by decide)
  obtain ⟨y2, e2⟩ := some_of (i := 2) hxl (by decide)
  obtain ⟨y3, e3⟩ := some_of (i := 3) hxl (by decide)
  have h0 := field_of hf (i := 0) rfl rfl rfl cells_str e0
  have h1 := field_of hf (i := 1) rfl rfl rfl cells_amount e1
  have h2 := field_of hf (i := 2) rfl rfl rfl cells_amount e2
  have h3 := field_of hf (i := 3) rfl rfl rfl cells_needs e3
  obtain ⟨s, hs, _, hl⟩ := DataW.trod_string Tryz.underlying9 h0
  obtain ⟨a, b, hab, ha, hb⟩ := amount_of _ _ _ h1
  obtain ⟨c, d, hcd, hc, hd⟩ := amount_of _ _ _ h2
  obtain ⟨l, hdv⟩ := rslice_of Tryz.underlying71 cells_need (by omega) need_of h3
  simp at hs hab hcd
  obtain ⟨rfl, rfl⟩ := hab
  obtain ⟨rfl, rfl⟩ := hcd
  subst hs
  exact ⟨⟨s, a, b, c, d, l⟩, c5, rfl, hl, ha, hb, hc, hd, by simpa using hdv⟩

theorem pod_of (fuel : Nat) (cs : List Value) (x : DataW H × List MemPlace) (h : DataW.trod enc Tryz.prog w 0 spare held fuel 45 cs = some x) : ∃ y, RPod w w.heap.size cs y := by
  obtain ⟨xs, n, _, _, hcl, hxl, hf⟩ := DataW.trod_struct Tryz.underlying45 h
  rw [cells_pod] at hcl
  obtain ⟨c0, c1, c2, rfl⟩ := list3 hcl
  obtain ⟨y0, e0⟩ := some_of (i := 0) hxl (by decide)
  obtain ⟨y1, e1⟩ := some_of (i := 1) hxl (by decide)
  obtain ⟨y2, e2⟩ := some_of (i := 2) hxl (by decide)
  have h0 := field_of hf (i := 0) rfl rfl rfl cells_str e0
  have h1 := field_of hf (i := 1) rfl rfl rfl cells_int e1
  have h2 := field_of hf (i := 2) rfl rfl rfl cells_conts e2
  obtain ⟨s, hs, _, hl⟩ := DataW.trod_string Tryz.underlying9 h0
  obtain ⟨k, hk, _, hw⟩ := DataW.trod_int Tryz.underlying3 h1
  obtain ⟨l, hcv⟩ := rslice_of Tryz.underlying43 cells_cont (by omega) cont_of h2
  simp at hs hk
  subst hs hk
  exact ⟨⟨s, k, l⟩, c2, rfl, hl, i64_bounds hw, by simpa using hcv⟩

theorem act_of (fuel : Nat) (cs : List Value) (x : DataW H × List MemPlace) (h : DataW.trod enc Tryz.prog w 0 spare held fuel 104 cs = some x) : ∃ y, RAct w w.heap.size cs y := by
  obtain ⟨xs, n, _, _, hcl, hxl, hf⟩ := DataW.trod_struct Tryz.underlying104 h
  rw [cells_act] at hcl
  obtain ⟨c0, c1, c2, c3, c4, c5, c6, c7, c8, c9, rfl⟩ := list10 hcl
  obtain ⟨y0, e0⟩ := some_of (i := 0) hxl (by decide)
  obtain ⟨y1, e1⟩ := some_of (i := 1) hxl (by decide)
  obtain ⟨y2, e2⟩ := some_of (i := 2) hxl (by decide)
  obtain ⟨y3, e3⟩ := some_of (i := 3) hxl (by decide)
  obtain ⟨y4, e4⟩ := some_of (i := 4) hxl (by decide)
  obtain ⟨y5, e5⟩ := some_of (i := 5) hxl (by decide)
  obtain ⟨y6, e6⟩ := some_of (i := 6) hxl (by decide)
  obtain ⟨y7, e7⟩ := some_of (i := 7) hxl (by decide)
  have h0 := field_of hf (i := 0) rfl rfl rfl cells_str e0
  have h1 := field_of hf (i := 1) rfl rfl rfl cells_str e1
  have h2 := field_of hf (i := 2) rfl rfl rfl cells_int e2
  have h3 := field_of hf (i := 3) rfl rfl rfl cells_int e3
  have h4 := field_of hf (i := 4) rfl rfl rfl cells_mask e4
  have h5 := field_of hf (i := 5) rfl rfl rfl cells_ints e5
  have h6 := field_of hf (i := 6) rfl rfl rfl cells_pod e6
  have h7 := field_of hf (i := 7) rfl rfl rfl cells_uses e7
  obtain ⟨s0, hs0, _, hl0⟩ := DataW.trod_string Tryz.underlying9 h0
  obtain ⟨s1, hs1, _, hl1⟩ := DataW.trod_string Tryz.underlying9 h1
  obtain ⟨k2, hk2, _, hw2⟩ := DataW.trod_int Tryz.underlying3 h2
  obtain ⟨k3, hk3, _, hw3⟩ := DataW.trod_int Tryz.underlying3 h3
  obtain ⟨k4, hk4, _, hw4⟩ := DataW.trod_int Tryz.underlying81 h4
  obtain ⟨l5, hv5⟩ := rslice_of Tryz.underlying78 cells_int (by omega) int_of h5
  obtain ⟨p6, hv6⟩ := pod_of _ _ _ h6
  obtain ⟨l7, hv7⟩ := rslice_of Tryz.underlying92 cells_use (by omega) use_of h7
  simp at hs0 hs1 hk2 hk3 hk4
  subst hs0 hs1 hk2 hk3 hk4
  exact ⟨⟨s0, s1, k2, k3, k4, l5, p6, l7⟩, c5, c6, c7, c8, c9, rfl, hl0, hl1, i64_bounds hw2, i64_bounds hw3, bounds_u8 hw4, by simpa using hv5, by simpa using hv6, by simpa using hv7⟩
end
end Go.Proofs.YticmfflnenoplacGreatDoor
namespace Go.Proofs.YticmfflnenoplacGreatDoor
open Go.RowKit Go.Deep Da

def lightUse (u : Use) : Bool := decide (u.name.size ≤ 30) && decide (-1125899906842624 ≤ u.bytes) && decide (u.bytes ≤ 1125899906842624)
def lightUses (l : List Use) : Bool := decide (l.length ≤ 20) && l.all lightUse
def lightNeed (n : Need) : Bool := decide (n.kind.size ≤ 30)
def lightCont (c : Cont) : Bool := decide (c.name.size ≤ 30) && decide (c.devs.length ≤ 5) && c.devs.all lightNeed
def lightPod (p : Pod) : Bool := decide (p.name.size ≤ 30) && decide (p.conts.length ≤ 5) && p.conts.all lightCont
def lightAct (a : LAct) : Bool := decide (a.s.size ≤ 7000) && decide (a.l.length ≤ 30) && lightPod a.pod && lightUses a.uses
def lightActs (l : List LAct) (n : Int) : Bool := decide ((l.length : Int) ≤ n) && l.all lightAct

theorem all_take_succ {α : Type} (p : α → Bool) (l : List α) (k : Nat) (hk : k < l.length) (h : (l.take k).all p = true) (hp : p l[k] = true) : (l.take (k + 1)).all p = true := by
  rw [List.take_succ_eq_append_getElem hk, List.all_append, h]
  simp [hp]
theorem all_false {α : Type} (p : α → Bool) (l : List α) (k : Nat) (hk : k < l.length) (hp : p l[k] = false) : l.all p = false := by
  rw [List.all_eq_false]
  exact ⟨l[k], List.getElem_mem _, by simp [hp]⟩
theorem all_full {α : Type} (p : α → Bool) (l : List α) (k : Nat) (hk : l.length ≤ k) (h : (l.take k).all p = true) : l.all p = true := by
  rwa [List.take_of_length_le hk] at h

theorem RetB.mk' {b b' : Bool} {w : World} (h : b = b') : RetB b w (.returned (.bool b')) w := ⟨by rw [h], rfl⟩
theorem RetBB.mk' {b b' : Bool} {w w' : World} (h : b = b') (hb : Below w.heap.size w w') : RetBB b w (.returned (.bool b')) w' := ⟨by rw [h], hb⟩

set_option maxHeartbeats 1000000 in
theorem lightUses_any (v : Value) (l : List Use) (w : World) (B : Nat) (h : RSlice w B 2 RUse [v] l) :
    Calls Tryz.prog 41 #[v] w (RetB (lightUses l) w) := by
  obtain ⟨A, cap, hv, hl, hcap, hA⟩ := h.form
  obtain rfl : v = _ := by simpa using hv
  unfold maxLen at hcap
  by_cases hn : 20 < l.length
  · go_enter Tryz.func41, Tryz.ntmps41
    go_wp2
    go_ret
    exact RetB.mk' (by simp [lightUses]; omega)
  · go_enter Tryz.func41, Tryz.ntmps41
    go_wp2
    go_loop [3] (fun i => ∃ k : Nat, i = .int .i64 k ∧ k ≤ l.length ∧ Hid ((l.take k).all lightUse = true)) (fun i => l.length - (intOf i).toNat)
    case atStart => exact ⟨0, rfl, by omega, rfl⟩
    case round =>
      obtain ⟨k, rfl, hk, ha⟩ := hrel
      by_cases hlt : k < l.length
      · obtain ⟨b, off, rfl⟩ := hA k hlt
        obtain ⟨_, cs', hc1, hc2, hr1, hr2, hr3⟩ := h.at_ hlt
        have g0 := hc2 0 (.string l[k].name) (by rw [hr1]; rfl)
        have g1 := hc2 1 (.int .i64 l[k].bytes) (by rw [hr1]; rfl)
        simp only [Nat.add_zero] at g0
        clear hc2 hr1 hA hc1
        unfold maxLen at hr2
        by_cases h1 : 30 < l[k].name.size
        · have hf := Lib.hid (all_false lightUse l k hlt (by simp [lightUse]; omega))
          go_wp2
          go_ret
          exact RetB.mk' (by simp [lightUses, hf.out])
        · by_cases h2 : l[k].bytes < -1125899906842624
          · have hf := Lib.hid (all_false lightUse l k hlt (by simp [lightUse]; omega))
            go_wp2
            go_ret
            exact RetB.mk' (by simp [lightUses, hf.out])
          · by_cases h3 : 1125899906842624 < l[k].bytes
            · have hf := Lib.hid (all_false lightUse l k hlt (by simp [lightUse]; omega))
              go_wp2
              go_ret
              exact RetB.mk' (by simp [lightUses, hf.out])
            · have hf := Lib.hid (all_take_succ lightUse l k hlt ha.out (by simp [lightUse]; omega))
              go_wp2
              go_round
              case rel => exact ⟨k + 1, by go_num, by omega, hf.out⟩
              case measure => simp [intOf]; omega
      · have hf := Lib.hid (all_full lightUse l k (by omega) ha.out)
        go_wp2
        go_ret
        exact RetB.mk' (by simp [lightUses, hf.out]; omega)

set_option maxHeartbeats 2000000 in
theorem lightPod_any (cs : List Value) (p : Pod) (w : World) (B : Nat) (hB : B ≤ w.heap.size) (h : RPod w B cs p) :
    Calls Tryz.prog 23 #[.agg cs.toArray] w (RetBB (lightPod p) w) := by
  obtain ⟨cv, rfl, hps, hpr, hc⟩ := h
  obtain ⟨A, cap, hv, hl, hcap, hA⟩ := hc.form
  obtain rfl : cv = _ := by simpa using hv
  unfold maxLen at hcap hps
  by_cases hn : 30 < p.name.size
  · go_enter Tryz.func23, Tryz.ntmps23
    go_wp2
    go_ret
    exact RetBB.mk' (by simp [lightPod]; omega) ((Below.refl _ _).alloc (Nat.le_refl _) _)
  by_cases hn2 : 5 < p.conts.length
  · go_enter Tryz.func23, Tryz.ntmps23
    go_wp2
    go_ret
    exact RetBB.mk' (by simp [lightPod]; omega) ((Below.refl _ _).alloc (Nat.le_refl _) _)
  have hlp := Lib.hid (show lightPod p = p.conts.all lightCont by simp [lightPod]; omega)
  go_enter Tryz.func23, Tryz.ntmps23
  go_wp2_with fail
  go_loopw [3] (fun i wr => ∃ k : Nat, i = .int .i64 k ∧ k ≤ p.conts.length ∧ Hid ((p.conts.take k).all lightCont = true) ∧ Below w.heap.size w wr ∧ Blk wr w.heap.size 45 #[.string p.name, .int .i64 p.prio, .slice A p.conts.length cap]) (fun i _ => p.conts.length - (intOf i).toNat)
  case atStart => exact ⟨0, rfl, by omega, rfl, (Below.refl _ _).alloc (Nat.le_refl _) _, Blk.new _ _ _⟩
  case round =>
    obtain ⟨k, rfl, hk, ha, hbw, hbk⟩ := hrel
    have hcell := hbk.cells
    by_cases hlt : k < p.conts.length
    · obtain ⟨b, off, rfl⟩ := hA k hlt
      obtain ⟨hblt, cs', hc1, hc2, dv, hr1, hr2, _, _, _, _, hds⟩ := (hc.below (hbw.mono hB)).at_ hlt
      obtain ⟨A2, cap2, hv2, hl2, hcap2, hA2⟩ := hds.form
      obtain rfl : dv = _ := by simpa using hv2
      have g0 := hc2 0 (.string p.conts[k].name) (by rw [hr1]; rfl)
      have g1 := hc2 1 _ (by rw [hr1]; rfl)
      have g2 := hc2 2 _ (by rw [hr1]; rfl)
      have g3 := hc2 3 _ (by rw [hr1]; rfl)
      have g4 := hc2 4 _ (by rw [hr1]; rfl)
      have g5 := hc2 5 _ (by rw [hr1]; rfl)
      simp only [Nat.add_zero] at g0
      clear hc2 hr1 hA hc1 hv hv2
      unfold maxLen at hr2 hcap2
      by_cases h1 : 30 < p.conts[k].name.size
      · have hf := Lib.hid (all_false lightCont p.conts k hlt (by simp [lightCont]; omega))
        go_wp2_with fail
        go_ret
        exact RetBB.mk' (by rw [hlp.out, hf.out]) (hbw.alloc hbw.size _)
      by_cases h2 : 5 < p.conts[k].devs.length
      · have hf := Lib.hid (all_false lightCont p.conts k hlt (by simp [lightCont]; omega))
        go_wp2_with fail
        go_ret
        exact RetBB.mk' (by rw [hlp.out, hf.out]) (hbw.alloc hbw.size _)
      have hdsr := (hds.below (w' := wr.alloc (.cells #[.string p.conts[k].name, .int .i64 p.conts[k].askM, .int .i64 p.conts[k].askB, .int .i64 p.conts[k].capM, .int .i64 p.conts[k].capB, .slice A2 p.conts[k].devs.length cap2] 73)) ((hbw.mono hB).alloc (Nat.le_trans hB hbw.size) _))
      have hlc := Lib.hid (show lightCont p.conts[k] = p.conts[k].devs.all lightNeed by simp [lightCont]; omega)
      go_wp2_with fail
      go_loop [5] (fun i => ∃ j : Nat, i = .int .i64 j ∧ j ≤ p.conts[k].devs.length ∧ Hid ((p.conts[k].devs.take j).all lightNeed = true)) (fun i => p.conts[k].devs.length - (intOf i).toNat)
      case atStart => exact ⟨0, rfl, by omega, rfl⟩
      case round =>
        obtain ⟨j, rfl, hj, ha2⟩ := hrel
        by_cases hlt2 : j < p.conts[k].devs.length
        · obtain ⟨b2, off2, rfl⟩ := hA2 j hlt2
          obtain ⟨_, cs2, hc1, hc2, hr1, hr2, _⟩ := hdsr.at_ hlt2
          have f0 := hc2 0 (.string p.conts[k].devs[j].kind) (by rw [hr1]; rfl)
          simp only [Nat.add_zero] at f0
          clear hc2 hr1 hc1
          unfold maxLen at hr2
          by_cases h3 : 30 < p.conts[k].devs[j].kind.size
          · have hf := Lib.hid (all_false lightNeed p.conts[k].devs j hlt2 (by simp [lightNeed]; omega))
            have hf2 := Lib.hid (all_false lightCont p.conts k hlt (by rw [hlc.out, hf.out]))
            go_wp2_with fail
            go_ret
            exact RetBB.mk' (by rw [hlp.out, hf2.out]) (hbw.alloc hbw.size _)
          · have hf := Lib.hid (all_take_succ lightNeed p.conts[k].devs j hlt2 ha2.out (by simp [lightNeed]; omega))
            go_wp2_with fail
            go_round
            case rel => exact ⟨j + 1, by go_num, by omega, hf.out⟩
            case measure => simp [intOf]; omega
        · have hf := Lib.hid (all_full lightNeed p.conts[k].devs j (by omega) ha2.out)
          have hf2 := Lib.hid (all_take_succ lightCont p.conts k hlt ha.out (by rw [hlc.out, hf.out]))
          go_wp2_with fail
          go_roundw
          case rel => exact ⟨k + 1, by go_num, by omega, hf2.out, hbw.alloc hbw.size _, hbk.alloc _⟩
          case measure => simp [intOf]; omega
    · have hf := Lib.hid (all_full lightCont p.conts k (by omega) ha.out)
      go_wp2_with fail
      go_ret
      exact RetBB.mk' (by rw [hlp.out, hf.out]) hbw

set_option maxHeartbeats 2000000 in
theorem lightActs_any (v : Value) (l : List LAct) (n : Int) (w : World) (B : Nat) (hB : B ≤ w.heap.size) (h : RSlice w B 10 (RAct w B) [v] l) :
    Calls Tryz.prog 44 #[v, .int .i64 n] w (RetBB (lightActs l n) w) := by
  obtain ⟨A, cap, hv, hl, hcap, hA⟩ := h.form
  obtain rfl : v = _ := by simpa using hv
  unfold maxLen at hcap
  by_cases hn : n < l.length
  · go_enter Tryz.func44, Tryz.ntmps44
    go_wp2
    go_ret
    exact RetBB.mk' (by simp [lightActs]; omega) (Below.refl _ _)
  have hlp := Lib.hid (show lightActs l n = l.all lightAct by simp [lightActs]; omega)
  go_enter Tryz.func44, Tryz.ntmps44
  go_wp2_with fail
  go_loopw [5] (fun i wr => ∃ k : Nat, i = .int .i64 k ∧ k ≤ l.length ∧ Hid ((l.take k).all lightAct = true) ∧ Below w.heap.size w wr) (fun i _ => l.length - (intOf i).toNat)
  case atStart => exact ⟨0, rfl, by omega, rfl, Below.refl _ _⟩
  case round =>
    obtain ⟨k, rfl, hk, ha, hbw⟩ := hrel
    by_cases hlt : k < l.length
    · obtain ⟨b, off, rfl⟩ := hA k hlt
      obtain ⟨hblt, cs', hc1, hc2, lv, p0, p1, p2, uv, hr1, hr2, hr3, _, _, _, hls, hpd, hus⟩ := (h.below (hbw.mono hB)).at_ hlt
      obtain ⟨A2, cap2, hv2, hl2, hcap2, hA2⟩ := hls.form
      obtain rfl : lv = _ := by simpa using hv2
      have g1 := hc2 1 _ (by rw [hr1]; rfl)
      have g5 := hc2 5 _ (by rw [hr1]; rfl)
      have g6 := hc2 6 _ (by rw [hr1]; rfl)
      have g7 := hc2 7 _ (by rw [hr1]; rfl)
      have g8 := hc2 8 _ (by rw [hr1]; rfl)
      have g9 := hc2 9 _ (by rw [hr1]; rfl)
      clear hc2 hr1 hA hc1 hv hv2
      unfold maxLen at hr2 hr3 hcap2
      by_cases h1 : 7000 < l[k].s.size
      · have hf := Lib.hid (all_false lightAct l k hlt (by simp [lightAct]; omega))
        go_wp2_with fail
        go_ret
        exact RetBB.mk' (by rw [hlp.out, hf.out]) hbw
      by_cases h2 : 30 < l[k].l.length
      · have hf := Lib.hid (all_false lightAct l k hlt (by simp [lightAct]; omega))
        go_wp2_with fail
        go_ret
        exact RetBB.mk' (by rw [hlp.out, hf.out]) hbw
      have hP := Lib.hid (lightPod_any [p0, p1, p2] l[k].pod wr B (Nat.le_trans hB hbw.size) (hpd.below (hbw.mono hB)))
      have hla := Lib.hid (show lightAct l[k] = (lightPod l[k].pod && lightUses l[k].uses) by simp [lightAct, show l[k].s.size ≤ 7000 from by omega, show l[k].l.length ≤ 30 from by omega])
      cases hp : lightPod l[k].pod
      · have hf := Lib.hid (all_false lightAct l k hlt (by rw [hla.out, hp]; rfl))
        rw [hp] at hP
        clear hp
        go_wp2_with fail
        refine hP.out.mono ?_
        rintro e w1 ⟨rfl, hb1⟩
        go_wp2_with fail
        go_ret
        exact RetBB.mk' (by rw [hlp.out, hf.out]) (hbw.trans (hb1.mono hbw.size))
      · rw [hp] at hP hla
        have hU := fun (w1 : World) (hb : Below B w w1) => lightUses_any uv l[k].uses w1 B (hus.below hb)
        have HU := Lib.hid hU
        clear hU hp
        cases hu : lightUses l[k].uses
        · have hf := Lib.hid (all_false lightAct l k hlt (by rw [hla.out, hu]; rfl))
          rw [hu] at HU
          clear hu
          go_wp2_with fail
          refine hP.out.mono ?_
          rintro e w1 ⟨rfl, hb1⟩
          have hbw1 := hbw.trans (hb1.mono hbw.size)
          obtain ⟨hc', _⟩ := bcell hb1
          have g9' := (hc' b (off + k * 10 + 9) (by have := hbw.size; omega)).trans g9
          clear hc'
          go_wp2_with fail
          refine (HU.out w1 (hbw1.mono hB)).mono ?_
          rintro e w2 ⟨rfl, rfl⟩
          go_wp2_with fail
          go_ret
          exact RetBB.mk' (by rw [hlp.out, hf.out]) hbw1
        · have hf := Lib.hid (all_take_succ lightAct l k hlt ha.out (by rw [hla.out, hu]; rfl))
          rw [hu] at HU
          clear hu
          go_wp2_with fail
          refine hP.out.mono ?_
          rintro e w1 ⟨rfl, hb1⟩
          have hbw1 := hbw.trans (hb1.mono hbw.size)
          obtain ⟨hc', _⟩ := bcell hb1
          have g9' := (hc' b (off + k * 10 + 9) (by have := hbw.size; omega)).trans g9
          clear hc'
          go_wp2_with fail
          refine (HU.out w1 (hbw1.mono hB)).mono ?_
          rintro e w2 ⟨rfl, rfl⟩
          go_wp2_with fail
          go_roundw
          case rel => exact ⟨k + 1, by go_num, by omega, hf.out, hbw1⟩
          case measure => simp [intOf]; omega
    · have hf := Lib.hid (all_full lightAct l k (by omega) ha.out)
      go_wp2_with fail
      go_ret
      exact RetBB.mk' (by rw [hlp.out, hf.out]) hbw
end Go.Proofs.YticmfflnenoplacGreatDoor
namespace Go.Proofs.YticmfflnenoplacGreatDoor
open Go.RowKit Go.Deep Pop Bi Da Sv Qo
def RetSome (w : World) (e : Ending) (w' : World) : Prop := ∃ b : Bool, e = .returned (.bool b) ∧ Below w.heap.size w w'
set_option maxRecDepth 100000 in
set_option maxHeartbeats 4000000 in
theorem lightHeld_any (l : List Held) (v : Value) (w : World) (h : RSlice w w.heap.size 4 (RHeld w w.heap.size) [v] l) :
    Calls Tryz.prog 15 #[v] w (RetSome w) := by
  obtain ⟨A, cap, e, hl, hcap, hA⟩ := (RS.of h).form
  obtain rfl : v = _ := by simpa using e
  unfold maxLen at hcap
  have H := Lib.hid h
  have HA := Lib.hid hA
  clear h hA e
  generalize hll : l.length = ll at *
  have HLL := Lib.hid hll
  clear hll
  by_cases hm : 16 < ll
  · go_enter Tryz.func15, Tryz.ntmps15
    go_wp2_with fail
    go_ret
    exact ⟨false, rfl, Below.refl _ _⟩
  · go_enter Tryz.func15, Tryz.ntmps15
    go_upto_region 4 with fail
    go_loopw [3] (fun i wi => ∃ k : Nat, i = .int .i64 k ∧ k ≤ ll ∧ Hid (Below w.heap.size w wi)) (fun i _ => ll - (intOf i).toNat)
    case atStart => exact ⟨0, rfl, by omega, Lib.hid (Below.refl _ _)⟩
    case round =>
      obtain ⟨k, rfl, hk, HB⟩ := hrel
      by_cases hlt : k < ll
      · obtain ⟨b, off, rfl, hb⟩ := HA.out k hlt
        have hl1 : k < l.length := by rw [HLL.out]; exact hlt
        obtain ⟨A3, c3, A4, c4, r0, r1, r2, r3, hp1, _, i1, i2, j1, j2, _, _, hg1, hgA1⟩ := held_at ((H.out.below HB.out).mono fun _ _ h => RHeld.below h HB.out) hl1
        have hbs := HB.out.size
        have hb1w : b < wr.heap.size := by omega
        have HP1 := Lib.hid hp1
        have HG1 := Lib.hid hg1
        have HGA1 := Lib.hid hgA1
        unfold maxLen at i2 j2
        clear hp1 hg1 hgA1
        generalize l[k] = x at *
        obtain ⟨⟨xn, xp, xc⟩, xg⟩ := x
        dsimp only at *
        have HLP : Hid (Calls Tryz.prog 23 #[.agg #[.string xn, .int .i64 xp, .slice A3 xc.length c3]] wr (RetBB (lightPod ⟨xn, xp, xc⟩) wr)) := Lib.hid (lightPod_any _ ⟨xn, xp, xc⟩ wr w.heap.size hbs HP1.out)
        generalize lightPod ⟨xn, xp, xc⟩ = bb at *
        clear HP1
        generalize hgg : xg.length = gl at *
        have HGG := Lib.hid hgg
        clear hgg
        go_wp2_with fail
        refine HLP.out.mono ?_
        rintro e w5 ⟨rfl, hb5⟩
        have HB5 := Lib.hid (HB.out.trans (hb5.mono hbs))
        have hs5 := HB5.out.size
        replace r3 := (hb5.cell (p := ⟨b, off + k * 4 + 3, none⟩) hb1w).trans r3
        have HG5 := Lib.hid ((HG1.out.below (hb5.mono hbs)).mono fun _ _ h => RGiven.below h (hb5.mono hbs))
        have hb15 : b < w5.heap.size := by omega
        clear HLP hb5 HG1 r0 r1 r2 HB
        cases bb
        · go_wp2_with fail
          go_ret
          exact ⟨false, rfl, HB5.out⟩
        · by_cases h5 : 5 < gl
          · go_wp2_with fail
            go_ret
            exact ⟨false, rfl, HB5.out⟩
          · go_upto_region 9 with fail
            go_loopw [4] (fun i wi => ∃ j : Nat, i = .int .i64 j ∧ j ≤ gl ∧ wi = w5) (fun i _ => gl - (intOf i).toNat)
            case atStart => exact ⟨0, rfl, by omega, rfl⟩
            case round =>
              obtain ⟨j, rfl, hj, rfl⟩ := hrel
              by_cases hltj : j < gl
              · obtain ⟨b4, off4, rfl, hb4⟩ := HGA1.out j hltj
                have hj1 : j < xg.length := by rw [HGG.out]; exact hltj
                obtain ⟨A7, c7, g0, g1, hgc, hg1, hg2, hgd, hgdA⟩ := given_at HG5.out hj1
                have hb4z : b4 < wr.heap.size := by omega
                unfold maxLen at hg2
                clear hgd hgdA g0
                generalize xg[j].devs.length = dl at *
                by_cases h20 : 20 < dl
                · go_wp2_with fail
                  go_ret
                  exact ⟨false, rfl, HB5.out⟩
                · go_wp2_with fail
                  go_roundw
                  case rel => exact ⟨j + 1, by first | rfl | go_num, by omega, by first | rfl | trivial⟩
                  case measure => simp [intOf] <;> omega
              · obtain rfl : j = gl := by omega
                go_wp2_with fail
                go_roundw
                case rel => exact ⟨k + 1, by first | rfl | go_num, by omega, HB5⟩
                case measure => simp [intOf] <;> omega
      · obtain rfl : k = ll := by omega
        go_wp2_with fail
        go_ret
        exact ⟨true, rfl, HB.out⟩
end Go.Proofs.YticmfflnenoplacGreatDoor
namespace Go.Proofs.YticmfflnenoplacGreatDoor
open Go.RowKit Dk
set_option maxHeartbeats 400000 in
theorem DkP.arm_any (s : St) (n : Int) (b : Nat) (wv : Value) (w : World) (h : Is 111 123 w b wv s) :
    Calls Tryz.prog 16 #[.pointer (some ⟨b, 0, none⟩), .int .i64 n] w (OpPost 111 123 b wv w (.tuple #[]) (armS s n)) := by
  have hb := h.blk
  have hc := hb.cells
  have hf := hb.frozens
  unfold Dk.cells at hc
  by_cases hn : n < -1
  · go_enter Tryz.func16, Tryz.ntmps16
    go_wp2
    go_end0
    refine ⟨rfl, h.step ?_ rfl ((Kept.refl _ _).set1 _) (by decide)⟩
    have := hb.set_ 9 (.int .i64 (-1))
    simpa [Dk.cells, armS, show max n (-1) = -1 from by omega] using this
  · go_enter Tryz.func16, Tryz.ntmps16
    go_wp2
    go_end0
    refine ⟨rfl, h.step ?_ rfl ((Kept.refl _ _).set1 _) (by decide)⟩
    have := hb.set_ 9 (.int .i64 n)
    simpa [Dk.cells, armS, show max n (-1) = n from by omega] using this

end Go.Proofs.YticmfflnenoplacGreatDoor
