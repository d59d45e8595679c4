/- TopMerge: combine: its walk, by induction on the wishes that are left. -/
import Derived.Test.YticmfflnenoplabMgB
import Derived.Laws.Slices
namespace Go.Proofs.Yticmfflnenoplab
open Go.RowKit Mk
theorem tail_wish {w : World} {B b0 off c : Nat} {x : Wi} {xs : List Wi} (h : RS w (· < B) 2 (RWish w (· < B)) [.slice (some ⟨b0, off, none⟩) (xs.length + 1) c] (x :: xs)) (hc : xs.length + 1 ≤ c) :
    RS w (· < B) 2 (RWish w (· < B)) [.slice (if c = 1 then some ⟨b0, off, none⟩ else some ⟨b0, off + 2, none⟩) xs.length (c - 1)] xs := by
  have := RS.tail h (if c = 1 then some ⟨b0, off, none⟩ else some ⟨b0, off + 2, none⟩) (fun hl => by rw [if_neg (by omega)])
  simpa using this
theorem u8_and_m (a b : Nat) (ha : a < 256) (hb : b < 256) : bits .and .u8 (a : Int) (b : Int) = ((a &&& b : Nat) : Int) := u8_and_nat a b ha hb
section
attribute [local irreducible] NoBetter nodes
set_option maxRecDepth 100000 in
set_option maxHeartbeats 12000000 in
theorem combine_any (n : Nat) : ∀ (l : List Wi) (v : Value) (so h : Hint) (w : World) (B : Nat), so.mask < 256 → h.mask < 256 → so.mask &&& n = so.mask → B ≤ w.heap.size →
    RS w (· < B) 2 (RWish w (· < B)) [v] l → NoBetter n l so h → Calls Try.prog 10 #[.int .u8 n, v, so.val, h.val] w (RetBB true w) := by
  intro l
  induction l with
  | nil =>
    intro v so h w B h1 h2 h3 hB hR hN
    by_cases hz : so.mask = 0
    · exact combine_zero n v so h hz w
    · obtain ⟨A, c, e, _⟩ := hR.form
      obtain rfl : v = _ := by simpa using e
      exact combine_nil n A c so h hz h1 h2 (hN.leaf hz h1 h2) w
  | cons x xs ih =>
    intro v so h w B h1 h2 h3 hB hR hN
    by_cases hz : so.mask = 0
    · exact combine_zero n v so h hz w
    have IH := Lib.hid ih
    clear ih
    obtain ⟨A, c, e, hc1, hc2, h4⟩ := hR.form
    obtain rfl : v = _ := by simpa using e
    obtain ⟨b0, off, rfl, hb0⟩ := h4 0 (by simp)
    obtain ⟨_, cs', e1, e2, e3⟩ := hR.at_ (i := 0) (by simp)
    simp only [List.getElem_cons_zero] at e3
    obtain ⟨hv, rfl, e4⟩ := e3
    obtain ⟨Ax, cx, e5, hx1, hx2, hx4⟩ := RS.form e4
    obtain rfl : hv = _ := by simpa using e5
    have r0 := e2 0 _ rfl
    have r1 := e2 1 _ rfl
    simp only [Nat.zero_mul, Nat.add_zero] at r0 r1
    simp only [List.length_cons] at hc1 hR ⊢
    unfold maxLen at hc2 hx2
    have hb0w : b0 < w.heap.size := Nat.lt_of_lt_of_le hb0 hB
    have HN := Lib.hid hN
    have HX4 := Lib.hid hx4
    have HE4 := Lib.hid e4
    have hR2 := tail_wish hR hc1
    have hwb : Below w.heap.size w ((w.alloc (.cells #[.int .u8 so.mask, .bool so.good] 25)).alloc (.cells #[.int .u8 h.mask, .bool h.good] 25)) := ((Below.refl _ _).alloc (Nat.le_refl _) _).alloc (by simp) _
    have k1 := (Blk.new w 25 #[.int .u8 so.mask, .bool so.good]).alloc (.cells #[.int .u8 h.mask, .bool h.good] 25)
    have k2 := Blk.new (w.alloc (.cells #[.int .u8 so.mask, .bool so.good] 25)) 25 #[.int .u8 h.mask, .bool h.good]
    rw [show (w.alloc (.cells #[.int .u8 so.mask, .bool so.good] 25)).heap.size = w.heap.size + 1 by simp] at k2
    have hzz : ((so.mask : Int) == 0) = false := by rw [beq_eq_false_iff_ne]; omega
    have hcs : (∃ sl, xs.length + 1 = 1 ∧ c = 1 ∧ sl = Value.slice (some ⟨b0, off, none⟩) 0 0 ∧ Hid (RS w (· < B) 2 (RWish w (· < B)) [sl] xs)) ∨ (∃ sl, 1 < c ∧ xs.length + 1 ≤ c ∧ (((xs.length : Nat) : Int) + 1 == 0) = false ∧ sl = Value.slice (some ⟨b0, off + 2, none⟩) xs.length (c - 1) ∧ Hid (RS w (· < B) 2 (RWish w (· < B)) [sl] xs)) := by
      by_cases hc : c = 1
      · refine .inl ⟨_, by omega, hc, rfl, ?_⟩
        rw [if_pos hc, show xs.length = 0 by omega, show c - 1 = 0 by omega] at hR2
        exact hR2
      · refine .inr ⟨_, by omega, hc1, by rw [beq_eq_false_iff_ne]; omega, rfl, ?_⟩
        rw [if_neg hc] at hR2
        exact hR2
    clear hR e1 e2 e e5 h4 hx4 e4 hN hR2 hc1
    obtain ⟨sm, sg⟩ := so
    obtain ⟨hm, hg⟩ := h
    unfold Hint.val
    dsimp only at *
    rcases hcs with ⟨sl, hx1', rfl, hsl, HR2⟩ | ⟨sl, hc', hc1, hln, hsl, HR2⟩
    · rw [hx1']
      clear hx1'
      go_enter Try.func10, Try.ntmps10
      go_upto_region 6 with fail
      have q0 := (hwb.cell (p := ⟨b0, off, none⟩) hb0w).trans r0
      have q1 := (hwb.cell (p := ⟨b0, off + 1, none⟩) hb0w).trans r1
      generalize (w.alloc (.cells #[.int .u8 sm, .bool sg] 25)).alloc (.cells #[.int .u8 hm, .bool hg] 25) = wq at *
      clear r0 r1
      have hb0q : b0 < wq.heap.size := Nat.lt_of_lt_of_le hb0w hwb.size
      have e1 := k1.cells
      have e2 := k2.cells
      have l1 := k1.lt
      have l2 := k2.lt
      cases hxa : x.any
      · by_cases hx0 : x.hints.length = 0
        · have HNB := Lib.hid (HN.out.none h3 hxa hx0)
          rw [hxa] at q0
          rw [hx0] at q1
          clear HN HX4 HE4 hx1 hx2
          go_upto_region 7 with fail
          have hI : Below wq.heap.size wq wq.drew := (Below.refl _ _).drew
          have hbq := hwb.drew
          have hR3 := wish_move HR2.out ((hwb.mono hB).drew)
          have hcall := IH.out sl ⟨sm, false⟩ ⟨hm, hg⟩ wq.drew B h1 h2 h3 (Nat.le_trans hB hbq.size) hR3 HNB.out
          rw [hsl] at hcall
          unfold Hint.val at hcall
          have HCALL := Lib.hid hcall
          clear hR3 HR2 hcall IH HNB hsl
          refine Flo.region 15 [(0, true), (1, true), (2, true), (3, true), (4, true), (5, true), (6, true), (7, true), (8, true), (9, true), (10, true), (11, true), (12, true), (13, true), (14, true)] (fun v => Below wq.heap.size wq v) (by kernel_rfl) (by kernel_rfl) rfl hI ?_
          simp only [List.drop_succ_cons, List.drop_zero]
          cases sg
          all_goals
            iterate 15 (apply Flo.op rfl (hI := hI); (· intro v hv K hK; obtain ⟨hc, hf⟩ := Flo.bcl hv; go_wp2_with fail; all_goals first | exact Flo.noUndef (by with_reducible assumption) | exact hK); (· rfl))
            refine Flo.tail fun K hK => ?_
            go_wp2_with fail
            refine HCALL.out.mono ?_
            rintro e w2 ⟨rfl, hb2⟩
            go_wp2_with fail
            go_ret
            exact ⟨rfl, hbq.trans (hb2.mono hbq.size)⟩
        · have HNB := Lib.hid (HN.out.one hxa)
          rw [hxa] at q0
          have hxl : ((x.hints.length : Int) == 0) = false := by rw [beq_eq_false_iff_ne]; omega
          clear HN
          go_upto_region 9 with fail
          go_loopw [10] (fun i wr => ∃ k : Nat, i = .int .i64 k ∧ k ≤ x.hints.length ∧ Below w.heap.size w wr ∧ Blk wr w.heap.size 25 #[.int .u8 sm, .bool sg] ∧ Blk wr (w.heap.size + 1) 25 #[.int .u8 hm, .bool hg]) (fun i _ => x.hints.length - (intOf i).toNat)
          case atStart => exact ⟨0, rfl, by omega, hwb, k1, k2⟩
          case round =>
            have hwq := hwb
            clear hwb k1 k2 e1 e2 l1 l2 hb0q
            obtain ⟨k, rfl, hk, hbr, k1, k2⟩ := hrel
            have q1r := (hbr.cell (p := ⟨b0, off + 1, none⟩) hb0w).trans ((hwq.cell (p := ⟨b0, off + 1, none⟩) hb0w).symm.trans q1)
            by_cases hlt : k < x.hints.length
            · obtain ⟨bx, ox, rfl, hbx⟩ := HX4.out k hlt
              obtain ⟨_, cs', f1, f2, f3, f4⟩ := HE4.out.at_ hlt
              have hbxw : bx < w.heap.size := Nat.lt_of_lt_of_le hbx hB
              have g0 := (hbr.cell (p := ⟨bx, ox + k * 2 + 0, none⟩) hbxw).trans (f2 0 _ (by rw [f3]; rfl))
              have g1 := (hbr.cell (p := ⟨bx, ox + k * 2 + 1, none⟩) hbxw).trans (f2 1 _ (by rw [f3]; rfl))
              rw [Nat.add_zero] at g0
              have hnb := HNB.out k hlt
              have hin := comb_in ⟨sm, sg⟩ x.hints[k] n h3
              clear f1 f2 f3
              generalize x.hints[k] = y at *
              obtain ⟨xm, xg⟩ := y
              unfold comb at hnb hin
              dsimp only at g0 g1 f4 hnb hin
              have hband := u8_and_m sm xm h1 f4
              go_upto_region 12 with fail
              have hwb2 : Below wr.heap.size wr (wr.alloc (.cells #[.int .u8 xm, .bool xg] 25)) := (Below.refl _ _).alloc (Nat.le_refl _) _
              have k3 := Blk.new wr 25 #[.int .u8 xm, .bool xg]
              have kk1 := k1.below hwb2 k1.lt
              have kk2 := k2.below hwb2 k2.lt
              have hbr2 := hbr.trans (hwb2.mono hbr.size)
              generalize wr.alloc (.cells #[.int .u8 xm, .bool xg] 25) = wq2 at *
              generalize wr.heap.size = px at *
              have hI : Below wq2.heap.size wq2 wq2.drew := (Below.refl _ _).drew
              have hbq := hbr2.drew
              have m1 := kk1.lt
              have m2 := kk2.lt
              have m3 := k3.lt
              have e1 := kk1.cells
              have e2 := kk2.cells
              have e3 := k3.cells
              have hR3 := wish_move HR2.out ((hbr2.mono hB).drew)
              clear k1 k2 g0 g1 q1r
              cases sg
              ·
                have hcall := IH.out sl ⟨sm &&& xm, false⟩ ⟨hm, hg⟩ wq2.drew B (and_lt _ _ h1) h2 hin (Nat.le_trans hB hbq.size) hR3 hnb
                rw [hsl] at hcall
                unfold Hint.val at hcall
                have HCALL := Lib.hid hcall
                clear hR3 hcall hnb hin IH HNB HX4 HE4 HR2 hwq q0 q1 hzz hxl hbr hwb2 hb0 hbx hb0w hbxw f4 hxa hx0 hsl
                refine Flo.region 16 [(0, true), (1, true), (2, true), (3, true), (4, true), (5, true), (6, true), (7, true), (8, true), (9, true), (10, true), (11, true), (12, true), (13, true), (14, true), (15, true)] (fun v => Below wq2.heap.size wq2 v) (by kernel_rfl) (by kernel_rfl) rfl hI ?_
                simp only [List.drop_succ_cons, List.drop_zero]
                iterate 16 (apply Flo.op rfl (hI := hI); (· intro v hv K hK; obtain ⟨hc, hf⟩ := Flo.bcl hv; go_wp2_with fail; all_goals first | exact Flo.noUndef (by with_reducible assumption) | exact hK); (· rfl))
                refine Flo.tail fun K hK => ?_
                go_wp2_with fail
                refine HCALL.out.mono ?_
                rintro e w2 ⟨rfl, hb2⟩
                have hbe2 := hbq.trans (hb2.mono hbq.size)
                have j1 := kk1.drew.below hb2 kk1.drew.lt
                have j2 := kk2.drew.below hb2 kk2.drew.lt
                go_wp2_with fail
                go_roundw
                case rel => exact ⟨k + 1, by go_num, by omega, hbe2, j1, j2⟩
                case measure => simp [intOf]; omega
              ·
                have hcall := IH.out sl ⟨sm &&& xm, xg⟩ ⟨hm, hg⟩ wq2.drew B (and_lt _ _ h1) h2 hin (Nat.le_trans hB hbq.size) hR3 hnb
                rw [hsl] at hcall
                unfold Hint.val at hcall
                have HCALL := Lib.hid hcall
                clear hR3 hcall hnb hin IH HNB HX4 HE4 HR2 hwq q0 q1 hzz hxl hbr hwb2 hb0 hbx hb0w hbxw f4 hxa hx0 hsl
                refine Flo.region 16 [(0, true), (1, true), (2, true), (3, true), (4, true), (5, true), (6, true), (7, true), (8, true), (9, true), (10, true), (11, true), (12, true), (13, true), (14, true), (15, true)] (fun v => Below wq2.heap.size wq2 v) (by kernel_rfl) (by kernel_rfl) rfl hI ?_
                simp only [List.drop_succ_cons, List.drop_zero]
                iterate 16 (apply Flo.op rfl (hI := hI); (· intro v hv K hK; obtain ⟨hc, hf⟩ := Flo.bcl hv; go_wp2_with fail; all_goals first | exact Flo.noUndef (by with_reducible assumption) | exact hK); (· rfl))
                refine Flo.tail fun K hK => ?_
                go_wp2_with fail
                refine HCALL.out.mono ?_
                rintro e w2 ⟨rfl, hb2⟩
                have hbe2 := hbq.trans (hb2.mono hbq.size)
                have j1 := kk1.drew.below hb2 kk1.drew.lt
                have j2 := kk2.drew.below hb2 kk2.drew.lt
                go_wp2_with fail
                go_roundw
                case rel => exact ⟨k + 1, by go_num, by omega, hbe2, j1, j2⟩
                case measure => simp [intOf]; omega
            · obtain rfl : k = x.hints.length := by omega
              go_wp2_with fail
              go_ret
              exact ⟨rfl, hbr⟩
      · have HNB := Lib.hid (HN.out.any h3 hxa)
        rw [hxa] at q0
        clear HN HX4 HE4
        go_upto_region 7 with fail
        have hI : Below wq.heap.size wq wq.drew := (Below.refl _ _).drew
        have hbq := hwb.drew
        have hR3 := wish_move HR2.out ((hwb.mono hB).drew)
        have hcall := IH.out sl ⟨sm, sg⟩ ⟨hm, hg⟩ wq.drew B h1 h2 h3 (Nat.le_trans hB hbq.size) hR3 HNB.out
        rw [hsl] at hcall
        unfold Hint.val at hcall
        have HCALL := Lib.hid hcall
        clear hR3 HR2 hcall IH HNB hsl
        refine Flo.region 15 [(0, true), (1, true), (2, true), (3, true), (4, true), (5, true), (6, true), (7, true), (8, true), (9, true), (10, true), (11, true), (12, true), (13, true), (14, true)] (fun v => Below wq.heap.size wq v) (by kernel_rfl) (by kernel_rfl) rfl hI ?_
        simp only [List.drop_succ_cons, List.drop_zero]
        cases sg
        all_goals
          iterate 15 (apply Flo.op rfl (hI := hI); (· intro v hv K hK; obtain ⟨hc, hf⟩ := Flo.bcl hv; go_wp2_with fail; all_goals first | exact Flo.noUndef (by with_reducible assumption) | exact hK); (· rfl))
          refine Flo.tail fun K hK => ?_
          go_wp2_with fail
          refine HCALL.out.mono ?_
          rintro e w2 ⟨rfl, hb2⟩
          go_wp2_with fail
          go_ret
          exact ⟨rfl, hbq.trans (hb2.mono hbq.size)⟩
    ·
      go_enter Try.func10, Try.ntmps10
      go_upto_region 6 with fail
      have q0 := (hwb.cell (p := ⟨b0, off, none⟩) hb0w).trans r0
      have q1 := (hwb.cell (p := ⟨b0, off + 1, none⟩) hb0w).trans r1
      generalize (w.alloc (.cells #[.int .u8 sm, .bool sg] 25)).alloc (.cells #[.int .u8 hm, .bool hg] 25) = wq at *
      clear r0 r1
      have hb0q : b0 < wq.heap.size := Nat.lt_of_lt_of_le hb0w hwb.size
      have e1 := k1.cells
      have e2 := k2.cells
      have l1 := k1.lt
      have l2 := k2.lt
      cases hxa : x.any
      · by_cases hx0 : x.hints.length = 0
        · have HNB := Lib.hid (HN.out.none h3 hxa hx0)
          rw [hxa] at q0
          rw [hx0] at q1
          clear HN HX4 HE4 hx1 hx2
          go_upto_region 7 with fail
          have hI : Below wq.heap.size wq wq.drew := (Below.refl _ _).drew
          have hbq := hwb.drew
          have hR3 := wish_move HR2.out ((hwb.mono hB).drew)
          have hcall := IH.out sl ⟨sm, false⟩ ⟨hm, hg⟩ wq.drew B h1 h2 h3 (Nat.le_trans hB hbq.size) hR3 HNB.out
          rw [hsl] at hcall
          unfold Hint.val at hcall
          have HCALL := Lib.hid hcall
          clear hR3 HR2 hcall IH HNB hsl
          refine Flo.region 15 [(0, true), (1, true), (2, true), (3, true), (4, true), (5, true), (6, true), (7, true), (8, true), (9, true), (10, true), (11, true), (12, true), (13, true), (14, true)] (fun v => Below wq.heap.size wq v) (by kernel_rfl) (by kernel_rfl) rfl hI ?_
          simp only [List.drop_succ_cons, List.drop_zero]
          cases sg
          all_goals
            iterate 15 (apply Flo.op rfl (hI := hI); (· intro v hv K hK; obtain ⟨hc, hf⟩ := Flo.bcl hv; go_wp2_with fail; all_goals first | exact Flo.noUndef (by with_reducible assumption) | exact hK); (· rfl))
            refine Flo.tail fun K hK => ?_
            go_wp2_with fail
            refine HCALL.out.mono ?_
            rintro e w2 ⟨rfl, hb2⟩
            go_wp2_with fail
            go_ret
            exact ⟨rfl, hbq.trans (hb2.mono hbq.size)⟩
        · have HNB := Lib.hid (HN.out.one hxa)
          rw [hxa] at q0
          have hxl : ((x.hints.length : Int) == 0) = false := by rw [beq_eq_false_iff_ne]; omega
          clear HN
          go_upto_region 9 with fail
          go_loopw [10] (fun i wr => ∃ k : Nat, i = .int .i64 k ∧ k ≤ x.hints.length ∧ Below w.heap.size w wr ∧ Blk wr w.heap.size 25 #[.int .u8 sm, .bool sg] ∧ Blk wr (w.heap.size + 1) 25 #[.int .u8 hm, .bool hg]) (fun i _ => x.hints.length - (intOf i).toNat)
          case atStart => exact ⟨0, rfl, by omega, hwb, k1, k2⟩
          case round =>
            have hwq := hwb
            clear hwb k1 k2 e1 e2 l1 l2 hb0q
            obtain ⟨k, rfl, hk, hbr, k1, k2⟩ := hrel
            have q1r := (hbr.cell (p := ⟨b0, off + 1, none⟩) hb0w).trans ((hwq.cell (p := ⟨b0, off + 1, none⟩) hb0w).symm.trans q1)
            by_cases hlt : k < x.hints.length
            · obtain ⟨bx, ox, rfl, hbx⟩ := HX4.out k hlt
              obtain ⟨_, cs', f1, f2, f3, f4⟩ := HE4.out.at_ hlt
              have hbxw : bx < w.heap.size := Nat.lt_of_lt_of_le hbx hB
              have g0 := (hbr.cell (p := ⟨bx, ox + k * 2 + 0, none⟩) hbxw).trans (f2 0 _ (by rw [f3]; rfl))
              have g1 := (hbr.cell (p := ⟨bx, ox + k * 2 + 1, none⟩) hbxw).trans (f2 1 _ (by rw [f3]; rfl))
              rw [Nat.add_zero] at g0
              have hnb := HNB.out k hlt
              have hin := comb_in ⟨sm, sg⟩ x.hints[k] n h3
              clear f1 f2 f3
              generalize x.hints[k] = y at *
              obtain ⟨xm, xg⟩ := y
              unfold comb at hnb hin
              dsimp only at g0 g1 f4 hnb hin
              have hband := u8_and_m sm xm h1 f4
              go_upto_region 12 with fail
              have hwb2 : Below wr.heap.size wr (wr.alloc (.cells #[.int .u8 xm, .bool xg] 25)) := (Below.refl _ _).alloc (Nat.le_refl _) _
              have k3 := Blk.new wr 25 #[.int .u8 xm, .bool xg]
              have kk1 := k1.below hwb2 k1.lt
              have kk2 := k2.below hwb2 k2.lt
              have hbr2 := hbr.trans (hwb2.mono hbr.size)
              generalize wr.alloc (.cells #[.int .u8 xm, .bool xg] 25) = wq2 at *
              generalize wr.heap.size = px at *
              have hI : Below wq2.heap.size wq2 wq2.drew := (Below.refl _ _).drew
              have hbq := hbr2.drew
              have m1 := kk1.lt
              have m2 := kk2.lt
              have m3 := k3.lt
              have e1 := kk1.cells
              have e2 := kk2.cells
              have e3 := k3.cells
              have hR3 := wish_move HR2.out ((hbr2.mono hB).drew)
              clear k1 k2 g0 g1 q1r
              cases sg
              ·
                have hcall := IH.out sl ⟨sm &&& xm, false⟩ ⟨hm, hg⟩ wq2.drew B (and_lt _ _ h1) h2 hin (Nat.le_trans hB hbq.size) hR3 hnb
                rw [hsl] at hcall
                unfold Hint.val at hcall
                have HCALL := Lib.hid hcall
                clear hR3 hcall hnb hin IH HNB HX4 HE4 HR2 hwq q0 q1 hzz hxl hbr hwb2 hb0 hbx hb0w hbxw f4 hxa hx0 hsl
                refine Flo.region 16 [(0, true), (1, true), (2, true), (3, true), (4, true), (5, true), (6, true), (7, true), (8, true), (9, true), (10, true), (11, true), (12, true), (13, true), (14, true), (15, true)] (fun v => Below wq2.heap.size wq2 v) (by kernel_rfl) (by kernel_rfl) rfl hI ?_
                simp only [List.drop_succ_cons, List.drop_zero]
                iterate 16 (apply Flo.op rfl (hI := hI); (· intro v hv K hK; obtain ⟨hc, hf⟩ := Flo.bcl hv; go_wp2_with fail; all_goals first | exact Flo.noUndef (by with_reducible assumption) | exact hK); (· rfl))
                refine Flo.tail fun K hK => ?_
                go_wp2_with fail
                refine HCALL.out.mono ?_
                rintro e w2 ⟨rfl, hb2⟩
                have hbe2 := hbq.trans (hb2.mono hbq.size)
                have j1 := kk1.drew.below hb2 kk1.drew.lt
                have j2 := kk2.drew.below hb2 kk2.drew.lt
                go_wp2_with fail
                go_roundw
                case rel => exact ⟨k + 1, by go_num, by omega, hbe2, j1, j2⟩
                case measure => simp [intOf]; omega
              ·
                have hcall := IH.out sl ⟨sm &&& xm, xg⟩ ⟨hm, hg⟩ wq2.drew B (and_lt _ _ h1) h2 hin (Nat.le_trans hB hbq.size) hR3 hnb
                rw [hsl] at hcall
                unfold Hint.val at hcall
                have HCALL := Lib.hid hcall
                clear hR3 hcall hnb hin IH HNB HX4 HE4 HR2 hwq q0 q1 hzz hxl hbr hwb2 hb0 hbx hb0w hbxw f4 hxa hx0 hsl
                refine Flo.region 16 [(0, true), (1, true), (2, true), (3, true), (4, true), (5, true), (6, true), (7, true), (8, true), (9, true), (10, true), (11, true), (12, true), (13, true), (14, true), (15, true)] (fun v => Below wq2.heap.size wq2 v) (by kernel_rfl) (by kernel_rfl) rfl hI ?_
                simp only [List.drop_succ_cons, List.drop_zero]
                iterate 16 (apply Flo.op rfl (hI := hI); (· intro v hv K hK; obtain ⟨hc, hf⟩ := Flo.bcl hv; go_wp2_with fail; all_goals first | exact Flo.noUndef (by with_reducible assumption) | exact hK); (· rfl))
                refine Flo.tail fun K hK => ?_
                go_wp2_with fail
                refine HCALL.out.mono ?_
                rintro e w2 ⟨rfl, hb2⟩
                have hbe2 := hbq.trans (hb2.mono hbq.size)
                have j1 := kk1.drew.below hb2 kk1.drew.lt
                have j2 := kk2.drew.below hb2 kk2.drew.lt
                go_wp2_with fail
                go_roundw
                case rel => exact ⟨k + 1, by go_num, by omega, hbe2, j1, j2⟩
                case measure => simp [intOf]; omega
            · obtain rfl : k = x.hints.length := by omega
              go_wp2_with fail
              go_ret
              exact ⟨rfl, hbr⟩
      · have HNB := Lib.hid (HN.out.any h3 hxa)
        rw [hxa] at q0
        clear HN HX4 HE4
        go_upto_region 7 with fail
        have hI : Below wq.heap.size wq wq.drew := (Below.refl _ _).drew
        have hbq := hwb.drew
        have hR3 := wish_move HR2.out ((hwb.mono hB).drew)
        have hcall := IH.out sl ⟨sm, sg⟩ ⟨hm, hg⟩ wq.drew B h1 h2 h3 (Nat.le_trans hB hbq.size) hR3 HNB.out
        rw [hsl] at hcall
        unfold Hint.val at hcall
        have HCALL := Lib.hid hcall
        clear hR3 HR2 hcall IH HNB hsl
        refine Flo.region 15 [(0, true), (1, true), (2, true), (3, true), (4, true), (5, true), (6, true), (7, true), (8, true), (9, true), (10, true), (11, true), (12, true), (13, true), (14, true)] (fun v => Below wq.heap.size wq v) (by kernel_rfl) (by kernel_rfl) rfl hI ?_
        simp only [List.drop_succ_cons, List.drop_zero]
        cases sg
        all_goals
          iterate 15 (apply Flo.op rfl (hI := hI); (· intro v hv K hK; obtain ⟨hc, hf⟩ := Flo.bcl hv; go_wp2_with fail; all_goals first | exact Flo.noUndef (by with_reducible assumption) | exact hK); (· rfl))
          refine Flo.tail fun K hK => ?_
          go_wp2_with fail
          refine HCALL.out.mono ?_
          rintro e w2 ⟨rfl, hb2⟩
          go_wp2_with fail
          go_ret
          exact ⟨rfl, hbq.trans (hb2.mono hbq.size)⟩
end
end Go.Proofs.Yticmfflnenoplab
