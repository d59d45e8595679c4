/- hints.merge: its walk, by induction on the wishes that are left. -/
import Derived.Test.YticmfflnenoplabMergeB
namespace Go.Proofs.Yticmfflnenoplab
open Go.RowKit Mk

def RHints (w : World) (S : Nat → Prop) (cs : List Value) (l : List Hint) : Prop := RS w S 2 RHint cs l
def RetMerge (b : Nat) (h : Hint) (w : World) (e : Ending) (w' : World) : Prop := e = .returned (.tuple #[]) ∧ Blk w' b 25 #[.int .u8 h.mask, .bool h.good] ∧ Kept (fun k => k = b) w w'
theorem kept_blocks {S : Nat → Prop} {b : Nat} {w w' : World} (hS : ∀ k, S k → k ≠ b ∧ k < w.heap.size) (h : Kept (fun k => k = b) w w') : ∀ k, S k → w'.heap[k]? = w.heap[k]? := fun k hk => h.block k (hS k hk).2 (hS k hk).1
theorem RHints.keep {S : Nat → Prop} {b : Nat} {w w' : World} {cs : List Value} {l : List Hint} (hS : ∀ k, S k → k ≠ b ∧ k < w.heap.size) (h : Kept (fun k => k = b) w w') (hr : RHints w S cs l) : RHints w' S cs l :=
  RS.move hr (kept_blocks hS h) (fun _ h => h) fun _ _ _ h => h
theorem rows_keep {S : Nat → Prop} {b : Nat} {w w' : World} {cs : List Value} {l : List (List Hint)} (hS : ∀ k, S k → k ≠ b ∧ k < w.heap.size) (h : Kept (fun k => k = b) w w') (hr : RS w S 1 (RHints w S) cs l) : RS w' S 1 (RHints w' S) cs l :=
  RS.move hr (kept_blocks hS h) (fun _ h => h) fun _ _ _ hh => hh.keep hS h

section
attribute [local irreducible] mergeP mergeAt better
set_option maxHeartbeats 4000000 in
theorem merge_zero (ls : List (List Hint)) (lv : Value) (so best : Hint) (hz : so.mask = 0) (b : Nat) (w : World) (hb : Blk w b 25 #[.int .u8 best.mask, .bool best.good]) :
    Calls Try.prog 32 #[lv, so.val, .pointer (some ⟨b, 0, none⟩)] w (RetMerge b (mergeP ls so best) w) := by
  rw [mergeP_zero _ _ _ hz]
  unfold Hint.val
  rw [hz]
  go_enter Try.func32, Try.ntmps32
  go_wp2_with fail
  go_end0
  exact ⟨rfl, hb.alloc _, (Kept.refl _ _).alloc _⟩

set_option maxHeartbeats 4000000 in
theorem merge_nil (so best : Hint) (hz : so.mask ≠ 0) (h1 : so.mask < 256) (h2 : best.mask < 256) (A : Option Addr) (c : Nat) (b : Nat) (w : World) (hb : Blk w b 25 #[.int .u8 best.mask, .bool best.good]) :
    Calls Try.prog 32 #[.slice A 0 c, so.val, .pointer (some ⟨b, 0, none⟩)] w (RetMerge b (mergeP [] so best) w) := by
  rw [mergeP_nil _ _ hz]
  have hbt := fun W => better_any so best h1 h2 W
  have HB := Lib.hid hbt
  clear hbt
  obtain ⟨sm, sg⟩ := so
  obtain ⟨bm, bg⟩ := best
  unfold Hint.val at HB ⊢
  dsimp only at HB hz h1 h2 hb ⊢
  have hzz : ((sm : Int) == 0) = false := by rw [beq_eq_false_iff_ne]; omega
  have hlt := hb.lt
  have hwb : Below w.heap.size w (w.alloc (.cells #[.int .u8 sm, .bool sg] 25)) := (Below.refl _ _).alloc (Nat.le_refl _) _
  have k1 := Blk.new w 25 #[.int .u8 sm, .bool sg]
  have k2 := hb.below hwb hlt
  generalize hr : better ⟨sm, sg⟩ ⟨bm, bg⟩ = r at *
  clear hr
  cases r
  all_goals
    simp only [if_true, if_false, Bool.false_eq_true]
    go_enter Try.func32, Try.ntmps32
    go_upto_region 3 with fail
    generalize w.alloc (.cells #[.int .u8 sm, .bool sg] 25) = wr at *
    have hI : Below wr.heap.size wr wr.drew := (Below.refl _ _).drew
    have e1 := k1.cells
    have e2 := k2.cells
    have q1 := k1.lt
    have q2 := k2.lt
    refine Flo.region 4 [(0, true), (1, true), (2, true), (3, true)] (fun v => Below wr.heap.size wr v) (by kernel_rfl) (by kernel_rfl) rfl hI ?_
    simp only [List.drop_succ_cons, List.drop_zero]
    iterate 4 (apply Flo.op rfl (hI := hI); (· intro v hv K hK; obtain ⟨hc, hf⟩ := Flo.bcl hv; go_wp2_with fail; all_goals first | exact Flo.noUndef (by with_reducible assumption) | exact hK); (· rfl))
    refine Flo.tail fun K hK => ?_
    go_wp2_with fail
    refine (HB.out _).mono ?_
    rintro e w1 ⟨rfl, hb1⟩
    have kk1 := k1.drew.below hb1 q1
    have kk2 := k2.drew.below hb1 q2
    have hkk : Kept (fun k => k = b) w w1 := ((Kept.of_below hwb).thenB (hI.trans (show Below wr.heap.size wr.drew w1 from hb1)))
    have g1 := kk1.cells
    have g2 := kk2.cells
    have f2 := kk2.frozens
    clear e1 e2
    go_wp2_with fail
    go_end0
  · exact ⟨rfl, kk2, hkk⟩
  · refine ⟨rfl, ?_, ((hkk.setCell (.inl rfl) _).setCell (.inl rfl) _)⟩
    exact (((kk2.set_ 0 (.int .u8 sm)).set_ 1 (.bool sg))).cast (by simp)

set_option maxRecDepth 100000 in
set_option maxHeartbeats 4000000 in
theorem merge_any : ∀ (ls : List (List Hint)) (lv : Value) (so best : Hint) (b : Nat) (S : Nat → Prop) (w : World), so.mask < 256 → best.mask < 256 → (∀ k, S k → k ≠ b ∧ k < w.heap.size) →
    RS w S 1 (RHints w S) [lv] ls → Blk w b 25 #[.int .u8 best.mask, .bool best.good] →
    Calls Try.prog 32 #[lv, so.val, .pointer (some ⟨b, 0, none⟩)] w (RetMerge b (mergeP ls so best) w) := by
  intro ls
  induction ls with
  | nil =>
    intro lv so best b S w h1 h2 hS hR hb
    by_cases hz : so.mask = 0
    · exact merge_zero [] lv so best hz b w hb
    · obtain ⟨A, c, e, _⟩ := hR.form
      obtain rfl : lv = _ := by simpa using e
      exact merge_nil so best hz h1 h2 A c b w hb
  | cons x xs ih =>
    intro lv so best b S w h1 h2 hS hR hb
    by_cases hz : so.mask = 0
    · exact merge_zero (x :: xs) lv so best hz b w hb
    have IH := Lib.hid ih
    clear ih
    have hfu := Lib.hid (mergeAt_full xs so x best hz)
    have hml := Lib.hid (fun i => mergeAt_lt xs so x best i h1 h2)
    have hm0 := Lib.hid (mergeAt_zero xs so x best)
    have hmn := Lib.hid (mergeAt_next xs so x best)
    generalize mergeP (x :: xs) so best = res at *
    obtain ⟨A, c, e, hc1, hc2, h4⟩ := hR.form
    obtain rfl : lv = _ := by simpa using e
    obtain ⟨b0, off, rfl, hb0⟩ := h4 0 (by simp)
    obtain ⟨_, cs', e1, e2, e3⟩ := hR.at_ (i := 0) (by simp)
    simp only [List.getElem_cons_zero] at e3
    obtain ⟨Ax, cx, rfl, hx1, hx2, hx4⟩ := RS.form e3
    have r0 := e2 0 _ rfl
    simp only [Nat.zero_mul, Nat.add_zero] at r0
    clear e1 e2 h4 e
    have HR := Lib.hid hR
    have HX := Lib.hid e3
    have HX4 := Lib.hid hx4
    have HS := Lib.hid hS
    have hlb := hb.lt
    have hlb0 := (hS b0 hb0).2
    have hwb : Below w.heap.size w (w.alloc (.cells #[.int .u8 so.mask, .bool so.good] 25)) := (Below.refl _ _).alloc (Nat.le_refl _) _
    have k1 := Blk.new w 25 #[.int .u8 so.mask, .bool so.good]
    have k2 := hb.below hwb hlb
    clear hR e3 hx4 hS hb
    unfold maxLen at hc2 hx2
    simp only [List.length_cons] at hc1 HR ⊢
    obtain ⟨sm, sg⟩ := so
    unfold Hint.val
    dsimp only at *
    have hzz : ((sm : Int) == 0) = false := by rw [beq_eq_false_iff_ne]; omega
    have hln : (((xs.length : Nat) : Int) + 1 == 0) = false := by rw [beq_eq_false_iff_ne]; omega
    go_enter Try.func32, Try.ntmps32
    go_upto_region 6 with fail
    have hk0 : Kept (fun k => k = b) w (w.alloc (.cells #[.int .u8 sm, .bool sg] 25)) := Kept.of_below hwb
    go_loopw [26] (fun i wr => ∃ k : Nat, i = .int .i64 k ∧ k ≤ x.length ∧ Kept (fun k => k = b) w wr ∧ Blk wr w.heap.size 25 #[.int .u8 sm, .bool sg] ∧ Blk wr b 25 #[.int .u8 (mergeAt xs ⟨sm, sg⟩ x best k).mask, .bool (mergeAt xs ⟨sm, sg⟩ x best k).good]) (fun i _ => x.length - (intOf i).toNat)
    case atStart => exact ⟨0, rfl, by omega, hk0, k1, by rw [hm0.out]; exact k2⟩
    case round =>
      clear hk0 k1 k2 hwb
      obtain ⟨k, rfl, hk, hkp, k1, k2⟩ := hrel
      by_cases hlt : k < x.length
      · obtain ⟨bx, ox, rfl, hbx⟩ := HX4.out k hlt
        obtain ⟨_, cs', e1, e2, e3, e4⟩ := HX.out.at_ hlt
        have hbl := kept_blocks HS.out hkp
        have g0 := (World.cell?_of_block (w := w) (a := ⟨bx, ox + k * 2 + 0, none⟩) (hbl bx hbx)).trans (e2 0 _ (by rw [e3]; rfl))
        have g1 := (World.cell?_of_block (w := w) (a := ⟨bx, ox + k * 2 + 1, none⟩) (hbl bx hbx)).trans (e2 1 _ (by rw [e3]; rfl))
        rw [Nat.add_zero] at g0
        have hnx := Lib.hid (hmn.out k hlt)
        generalize hmn : mergeAt xs ⟨sm, sg⟩ x best (k + 1) = mn at *
        have HMN := Lib.hid hmn
        clear hmn
        generalize hmx : mergeAt xs ⟨sm, sg⟩ x best k = mk at *
        have hmkl := hml.out k
        rw [hmx] at hmkl
        clear hmx
        generalize x[k] = hh at *
        obtain ⟨hm, hg⟩ := hh
        dsimp only at g0 g1 e4
        clear e1 e2 e3 hbl
        have hband := u8_and_nat sm hm h1 e4
        go_upto_region 8 with fail
        have hwb : Below wr.heap.size wr (wr.alloc (.cells #[.int .u8 hm, .bool hg] 25)) := (Below.refl _ _).alloc (Nat.le_refl _) _
        have k3 := Blk.new wr 25 #[.int .u8 hm, .bool hg]
        have kk1 := k1.below hwb k1.lt
        have kk2 := k2.below hwb k2.lt
        have hkp2 : Kept (fun k => k = b) w (wr.alloc (.cells #[.int .u8 hm, .bool hg] 25)) := hkp.thenB hwb
        generalize wr.alloc (.cells #[.int .u8 hm, .bool hg] 25) = wq at *
        have hI : Below wq.heap.size wq wq.drew := (Below.refl _ _).drew
        have q1 := kk1.lt
        have q3 := k3.lt
        have f1 := kk1.cells
        have f3 := k3.cells
        clear k1 k2 g0 g1
        refine Flo.region 15 [(0, true), (1, true), (2, true), (3, true), (4, true), (5, true), (6, true), (7, true), (8, true), (9, true), (10, true), (11, true), (12, true), (13, true), (14, true)] (fun v => Below wq.heap.size wq v) (by kernel_rfl) (by kernel_rfl) rfl hI ?_
        simp only [List.drop_succ_cons, List.drop_zero]
        have hR1 := rows_keep HS.out hkp2.drew HR.out
        have hS2 : ∀ k, S k → k ≠ b ∧ k < wq.drew.heap.size := fun k hk => ⟨(HS.out k hk).1, Nat.lt_of_lt_of_le (HS.out k hk).2 hkp2.size⟩
        have hlen0 : xs.length + 1 ≤ c := hc1
        by_cases hc : c = 1
        · subst hc
          have hR2 : RS wq.drew S 1 (RHints wq.drew S) [.slice (some ⟨b0, off, none⟩) xs.length 0] xs := RS.tail hR1 (some ⟨b0, off, none⟩) (fun h => by omega)
          have HR2 := Lib.hid hR2
          have HS2 := Lib.hid hS2
          clear hR1 hR2 hS2 hlen0 hc1
          cases sg
          all_goals
            iterate 15 (apply Flo.op rfl (hI := hI); (· intro v hv K hK; obtain ⟨hc, hf⟩ := Flo.bcl hv; go_wp2_with fail; all_goals first | exact Flo.noUndef (by with_reducible assumption) | exact hK); (· rfl))
            refine Flo.tail fun K hK => ?_
            go_wp2_with fail
            have hS2 := HS2.out
            have hR2 := HR2.out
          ·
            refine (IH.out (.slice (some ⟨b0, off, none⟩) xs.length 0) ⟨sm &&& hm, false⟩ mk b S _ (and_lt _ _ h1) hmkl hS2 hR2 kk2.drew).mono ?_
            rintro e w2 ⟨rfl, hb2, hk2⟩
            have hm2 : mn = mergeP xs ⟨sm &&& hm, false⟩ mk := hnx.out
            rw [← hm2] at hb2
            have hk3 := hkp2.drew.trans hk2
            have k3' := kk1.drew.kept hk2 (fun h => by omega)
            clear hm2
            go_wp2_with fail
            go_roundw
            case rel => exact ⟨k + 1, by go_num, by omega, hk3, k3', by rw [HMN.out]; exact hb2⟩
            case measure => simp [intOf]; omega
          ·
            refine (IH.out (.slice (some ⟨b0, off, none⟩) xs.length 0) ⟨sm &&& hm, hg⟩ mk b S _ (and_lt _ _ h1) hmkl hS2 hR2 kk2.drew).mono ?_
            rintro e w2 ⟨rfl, hb2, hk2⟩
            have hm2 : mn = mergeP xs ⟨sm &&& hm, hg⟩ mk := hnx.out
            rw [← hm2] at hb2
            have hk3 := hkp2.drew.trans hk2
            have k3' := kk1.drew.kept hk2 (fun h => by omega)
            clear hm2
            go_wp2_with fail
            go_roundw
            case rel => exact ⟨k + 1, by go_num, by omega, hk3, k3', by rw [HMN.out]; exact hb2⟩
            case measure => simp [intOf]; omega
        · have hc' : 1 < c := by omega
          have hR2 : RS wq.drew S 1 (RHints wq.drew S) [.slice (some ⟨b0, off + 1, none⟩) xs.length (c - 1)] xs := RS.tail hR1 (some ⟨b0, off + 1, none⟩) (fun _ => rfl)
          have HR2 := Lib.hid hR2
          have HS2 := Lib.hid hS2
          have HC := Lib.hid hc
          clear hR1 hR2 hS2
          cases sg
          all_goals
            iterate 15 (apply Flo.op rfl (hI := hI); (· intro v hv K hK; obtain ⟨hc, hf⟩ := Flo.bcl hv; go_wp2_with fail; all_goals first | exact Flo.noUndef (by with_reducible assumption) | exact hK); (· rfl))
            refine Flo.tail fun K hK => ?_
            go_wp2_with fail
            have hS2 := HS2.out
            have hR2 := HR2.out
          ·
            refine (IH.out (.slice (some ⟨b0, off + 1, none⟩) xs.length (c - 1)) ⟨sm &&& hm, false⟩ mk b S _ (and_lt _ _ h1) hmkl hS2 hR2 kk2.drew).mono ?_
            rintro e w2 ⟨rfl, hb2, hk2⟩
            have hm2 : mn = mergeP xs ⟨sm &&& hm, false⟩ mk := hnx.out
            rw [← hm2] at hb2
            have hk3 := hkp2.drew.trans hk2
            have k3' := kk1.drew.kept hk2 (fun h => by omega)
            clear hm2
            go_wp2_with fail
            go_roundw
            case rel => exact ⟨k + 1, by go_num, by omega, hk3, k3', by rw [HMN.out]; exact hb2⟩
            case measure => simp [intOf]; omega
          ·
            refine (IH.out (.slice (some ⟨b0, off + 1, none⟩) xs.length (c - 1)) ⟨sm &&& hm, hg⟩ mk b S _ (and_lt _ _ h1) hmkl hS2 hR2 kk2.drew).mono ?_
            rintro e w2 ⟨rfl, hb2, hk2⟩
            have hm2 : mn = mergeP xs ⟨sm &&& hm, hg⟩ mk := hnx.out
            rw [← hm2] at hb2
            have hk3 := hkp2.drew.trans hk2
            have k3' := kk1.drew.kept hk2 (fun h => by omega)
            clear hm2
            go_wp2_with fail
            go_roundw
            case rel => exact ⟨k + 1, by go_num, by omega, hk3, k3', by rw [HMN.out]; exact hb2⟩
            case measure => simp [intOf]; omega
      · have hke : k = x.length := by omega
        rw [hke, hfu.out] at k2
        clear hke
        go_wp2_with fail
        go_end0
        exact ⟨rfl, k2, hkp⟩
end
end Go.Proofs.Yticmfflnenoplab
