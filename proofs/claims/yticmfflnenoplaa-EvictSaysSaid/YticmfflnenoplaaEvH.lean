/- Who goes first: the reference's Rank: its walk. No statement is proved here. -/
import Derived.Test.YticmfflnenoplaaEvF
import Derived.Test.YticmfflnenoplaaEvG
import Derived.Laws.MakeOwn
namespace Go.Proofs.Yticmfflnenoplaa
open Go.RowKit Go.Deep Da Qo Ev
theorem boolT : ElemT Try.prog 212 4 (.bool false) 1 1 := ⟨Try.underlying212, by kernel_rfl, rfl, by omega⟩
theorem make_bools (n : Nat) (hn : n ≤ 1000) (w : World) : (Instr.makeSlice 212 (.int .i64 (n : Int)) (.int .i64 (n : Int))).run Try.prog w = .ok (.slice (some ⟨w.heap.size, 0, none⟩) n n) (w.alloc (.cells (boolsV (List.replicate n false)).toArray 4)) := by
  obtain ⟨i0, hi0, hz0, hz1, hz2⟩ := info_parts boolT.hi
  have h := run_make (P := Try.prog) w 212 4 i0 _ boolT.ht hi0 hz0 .i64 .i64 (n : Int) (n : Int) (by omega) (Int.le_refl _) (by rw [hz2]; omega) (by omega)
  rw [hz1] at h
  simp only [Int.toNat_natCast, Nat.mul_one] at h
  have hm : madeCells (Value.bool false).cells n = (boolsV (List.replicate n false)).toArray := by
    apply Array.ext'
    rw [show (Value.bool false).cells = #[.bool false] from rfl, toList_madeCells_one]
    simp [boolsV]
  rw [hm] at h
  exact h
theorem own_drewN {w : World} {base : Nat} {e : TypeId} {size n : Nat} {v : Value} {xs : List Value} (h : w.ownsRow base e size v n xs) (k : Nat) : (w.drewN k).ownsRow base e size v n xs := h
section
attribute [local irreducible] usedF rowOf rowsV rankL namesV askedB askedM sortR RPod RCont ltB doneB doneL boolsV Best
set_option maxRecDepth 100000 in
set_option maxHeartbeats 8000000 in
theorem RRank_any (v v2 : Value) (l : List Pod) (us : List Use) (B : Nat) (w : World) (hB : B ≤ w.heap.size) (h : RSlice w B 3 (RPod w B) [v] l) (h2 : RSlice w B 2 RUse [v2] us) (ha : Apart us l) (hn : l.length ≤ 1000) :
    Calls Try.prog 86 #[v, v2] w (RankP us l w) := by
  obtain ⟨A, cap, hv, hl, hcap, hA⟩ := h.form
  obtain rfl : v = _ := by simpa using hv
  unfold maxLen at hcap
  have HA := Lib.hid hA
  have HR := Lib.hid h
  have HU := Lib.hid h2
  have HAp := Lib.hid ha
  have HRL := Lib.hid (rankL_len us l)
  have hmk := fun W => make_bools l.length hn W
  have HD0 := Lib.hid (doneL_zero (rankL us l) l)
  clear h h2 hv hA ha
  go_enter Try.func86, Try.ntmps86
  go_wp2_with fail
  have hb0 : Below w.heap.size w (w.alloc (.cells (boolsV (List.replicate l.length false)).toArray 4)) := (Below.refl _ _).alloc (Nat.le_refl _) _
  have HB0 : Hid ((w.alloc (.cells (boolsV (List.replicate l.length false)).toArray 4)).ownsRow w.heap.size 4 1 (.slice (some ⟨w.heap.size, 0, none⟩) l.length l.length) l.length (boolsV (doneL (rankL us l) 0 l))) := Lib.hid (by
    rw [HD0.out]
    exact World.ownsRow_lit (base := w.heap.size) (e := 4) (size := 1) w _ l.length (Nat.le_refl _) (by unfold maxLen; omega) (by unfold boolsV; simp))
  generalize w.alloc (.cells (boolsV (List.replicate l.length false)).toArray 4) = w1 at *
  clear hmk HD0
  go_loopw [5, 14] (fun v5 i wi => ∃ (k : Nat) (A5 : Option Addr) (c5 : Nat), i = .int .i64 k ∧ k ≤ l.length ∧ v5 = .slice A5 k c5 ∧ Hid (wi.ownsRow w.heap.size 9 1 (.slice A5 k c5) k (namesV ((rankL us l).take k))) ∧ Hid (wi.ownsRow w.heap.size 4 1 (.slice (some ⟨w.heap.size, 0, none⟩) l.length l.length) l.length (boolsV (doneL (rankL us l) k l))) ∧ Below w.heap.size w wi) (fun _ i _ => l.length - (intOf i).toNat)
  case atStart => exact ⟨0, none, 0, rfl, by omega, rfl, Lib.hid (by rw [List.take_zero, namesV_nil]; exact World.ownsRow_nil _ _ _ _), HB0, hb0⟩
  case round =>
    clear HB0 hb0
    obtain ⟨k, A5, c5, rfl, hk, rfl, HO, HD, hb⟩ := hrel
    by_cases hlt : k < l.length
    · have hkr : k < (rankL us l).length := by have := HRL.out; omega
      go_wp2_with fail
      go_loopw [7, 8] (fun b i wi => ∃ (i0 : Nat) (b0 : Int), i = .int .i64 i0 ∧ i0 ≤ l.length ∧ b = .int .i64 b0 ∧ Hid (Best us l k i0 b0) ∧ Hid (wi.ownsRow w.heap.size 9 1 (.slice A5 k c5) k (namesV ((rankL us l).take k))) ∧ Hid (wi.ownsRow w.heap.size 4 1 (.slice (some ⟨w.heap.size, 0, none⟩) l.length l.length) l.length (boolsV (doneL (rankL us l) k l))) ∧ Below w.heap.size w wi) (fun _ i _ => l.length - (intOf i).toNat)
      case atStart => exact ⟨0, -1, rfl, by omega, rfl, Lib.hid best_zero, HO, HD, hb⟩
      case round =>
        clear HO HD hb
        obtain ⟨i, b, rfl, hi, rfl, HBe, HO, HD, hb⟩ := hrel
        by_cases hil : i < l.length
        · have hdl : (doneL (rankL us l) k l).length = l.length := by unfold doneL; simp
          have cu := (HD.out.cellAt i (by omega)).trans (boolsV_at _ i (by omega))
          have hde : (doneL (rankL us l) k l)[i]'(by omega) = doneB (rankL us l) k l[i] := by unfold doneL; simp
          rw [hde] at cu
          have lgd := (HD.out.lt w.heap.size rfl).2
          have HDL := Lib.hid hdl
          clear hde hdl
          obtain ⟨bA, off, rfl⟩ := HA.out i hil
          have hbA : bA < B := (HR.out.at_ hil).1
          have hbW : bA < wr.heap.size := by have := hb.size; omega
          cases hd : doneB (rankL us l) k l[i]
          · rw [hd] at cu
            have HDI := Lib.hid hd
            clear hd
            rcases best_cases HBe.out with ⟨hm1, hall⟩ | ⟨j, hj, hbj, hji, hdj, hmin⟩
            · have HB2 := Lib.hid (best_first hall hil HDI.out)
              obtain rfl := hm1
              clear hall HBe
              as_aux_lemma =>
                go_upto_region 9 with fail
                have hI : Below wr.heap.size wr wr.drew := (Below.refl _ _).drew
                refine Flo.region 18 [(0, true), (1, true), (2, true), (3, true), (4, true), (5, true), (6, true), (7, true), (8, true), (9, true), (10, true), (11, true), (12, true), (13, true), (14, true), (15, true), (16, true), (17, true)] (fun v => Below wr.heap.size wr v) (by as_aux_lemma => kernel_rfl) (by as_aux_lemma => kernel_rfl) rfl hI ?_
                simp only [List.drop_succ_cons, List.drop_zero]
                iterate 18 (apply Flo.op rfl (hI := hI); (· intro v hv K hK; obtain ⟨hc, hf⟩ := Flo.bcl hv; go_wp2_with fail; all_goals first | exact Flo.noUndef (by with_reducible assumption) | exact hK); (· rfl))
                refine Flo.tail fun K hK => ?_
                go_wp2_with fail
                go_roundw
                case rel => exact ⟨i + 1, (i : Int), by go_num, by omega, rfl, HB2, Lib.hid (own_drewN HO.out 1), Lib.hid (own_drewN HD.out 1), hb.drew⟩
                case measure => simp [intOf]; omega
            · obtain rfl := hbj
              have HMIN := Lib.hid hmin
              have HDJ := Lib.hid hdj
              clear hmin hdj HBe
              obtain ⟨_, cs1, hc11, hc12, hp1⟩ := (HR.out.below (hb.mono hB)).at_ hil
              obtain ⟨_, cs2, hc21, hc22, hp2⟩ := (HR.out.below (hb.mono hB)).at_ hj
              obtain ⟨A8, n8, c8, hcs1⟩ := rpod_open hp1
              obtain ⟨A9, n9, c9, hcs2⟩ := rpod_open hp2
              have g0 := hc12 0 _ (by rw [hcs1]; rfl)
              have g1 := hc12 1 _ (by rw [hcs1]; rfl)
              have g2 := hc12 2 _ (by rw [hcs1]; rfl)
              have d0 := hc22 0 _ (by rw [hcs2]; rfl)
              have d1 := hc22 1 _ (by rw [hcs2]; rfl)
              have d2 := hc22 2 _ (by rw [hcs2]; rfl)
              simp only [Nat.add_zero] at g0 d0
              have HFI := Lib.hid (fun W (hW : Below w.heap.size w W) => first_any v2 us l[i] l[j] cs1 cs2 B W (by have := hW.size; omega) (hp1.below (hW.mono hB)) (hp2.below (hW.mono hB)) (HU.out.below (hW.mono hB)) (HAp.out.fit _ (List.getElem_mem hil)) (HAp.out.fit _ (List.getElem_mem hj)))
              rw [hcs1, hcs2] at HFI
              have HNEW := Lib.hid (best_new hj HMIN.out hil HDI.out)
              have HOLD := Lib.hid (best_old hj hji HDJ.out HMIN.out hil)
              have hj0 : decide ((j : Int) < 0) = false := by simp
              generalize ltB (rowOf us l[i]) (rowOf us l[j]) = r at *
              clear hc12 hc22 hc11 hc21 hcs1 hcs2 hp1 hp2 HMIN HDJ
              as_aux_lemma =>
                go_upto_region 9 with fail
                have hI : Below wr.heap.size wr wr.drew := (Below.refl _ _).drew
                refine Flo.region 18 [(0, true), (1, true), (2, true), (3, true), (4, true), (5, true), (6, true), (7, true), (8, true), (9, true), (10, true), (11, true), (12, true), (13, true), (14, true), (15, true), (16, true), (17, true)] (fun v => Below wr.heap.size wr v) (by as_aux_lemma => kernel_rfl) (by as_aux_lemma => kernel_rfl) rfl hI ?_
                simp only [List.drop_succ_cons, List.drop_zero]
                iterate 18 (apply Flo.op rfl (hI := hI); (· intro v hv K hK; obtain ⟨hc, hf⟩ := Flo.bcl hv; go_wp2_with fail; all_goals first | exact Flo.noUndef (by with_reducible assumption) | exact hK); (· rfl))
                refine Flo.tail fun K hK => ?_
                go_wp2_with fail
                refine (HFI.out _ hb.drew).mono ?_
                rintro e w5 ⟨rfl, hb5⟩
                have hb5' := hb.drew.trans (hb5.mono hb.size)
                have HO5 := Lib.hid (own_below (own_drewN HO.out 1) hb5)
                have HD5 := Lib.hid (own_below (own_drewN HD.out 1) hb5)
                clear hb5 HFI
                cases r
                · have HX := Lib.hid (HOLD.out rfl)
                  clear HOLD HNEW
                  go_wp2_with fail
                  go_roundw
                  case rel => exact ⟨i + 1, j, by go_num, by omega, rfl, HX, HO5, HD5, hb5'⟩
                  case measure => simp [intOf]; omega
                · have HX := Lib.hid (HNEW.out rfl)
                  clear HOLD HNEW
                  go_wp2_with fail
                  go_roundw
                  case rel => exact ⟨i + 1, i, by go_num, by omega, rfl, HX, HO5, HD5, hb5'⟩
                  case measure => simp [intOf]; omega
          · rw [hd] at cu
            have HB2 := Lib.hid (best_done HBe.out hil hd)
            clear hd HBe
            as_aux_lemma =>
              go_upto_region 9 with fail
              have hI : Below wr.heap.size wr wr.drew := (Below.refl _ _).drew
              refine Flo.region 18 [(0, true), (1, true), (2, true), (3, true), (4, true), (5, true), (6, true), (7, true), (8, true), (9, true), (10, true), (11, true), (12, true), (13, true), (14, true), (15, true), (16, true), (17, true)] (fun v => Below wr.heap.size wr v) (by as_aux_lemma => kernel_rfl) (by as_aux_lemma => kernel_rfl) rfl hI ?_
              simp only [List.drop_succ_cons, List.drop_zero]
              iterate 18 (apply Flo.op rfl (hI := hI); (· intro v hv K hK; obtain ⟨hc, hf⟩ := Flo.bcl hv; go_wp2_with fail; all_goals first | exact Flo.noUndef (by with_reducible assumption) | exact hK); (· rfl))
              refine Flo.tail fun K hK => ?_
              go_wp2_with fail
              go_roundw
              case rel => exact ⟨i + 1, b, by go_num, by omega, rfl, HB2, Lib.hid (own_drewN HO.out 1), Lib.hid (own_drewN HD.out 1), hb.drew⟩
              case measure => simp [intOf]; omega
        · obtain rfl : i = l.length := by omega
          obtain ⟨j, hj, hbj, hrow⟩ := best_end HAp.out hkr HBe.out
          obtain rfl := hbj
          have HROW := Lib.hid hrow
          have HDN := Lib.hid (done_next HAp.out hkr hj hrow)
          have hdl : (doneL (rankL us l) k l).length = l.length := by unfold doneL; simp
          have cu := (HD.out.cellAt j (by omega)).trans (boolsV_at _ j (by omega))
          have fu := HD.out.frozenAt
          have lgd := (HD.out.lt w.heap.size rfl).2
          generalize (doneL (rankL us l) k l)[j]'(by omega) = bj at *
          obtain ⟨bA, off, rfl⟩ := HA.out j hj
          obtain ⟨hbA, cs1, hc11, hc12, hp1⟩ := (HR.out.below (hb.mono hB)).at_ hj
          obtain ⟨A8, n8, c8, hcs1⟩ := rpod_open hp1
          have g0 := hc12 0 _ (by rw [hcs1]; rfl)
          simp only [Nat.add_zero] at g0
          have hnm : l[j].name = ((rankL us l)[k]).name := by rw [← hrow, (HAp.out.fit _ (List.getElem_mem hj)).name]
          have HSn : Hid (namesV ((rankL us l).take (k + 1)) = namesV ((rankL us l).take k) ++ [.string l[j].name]) := Lib.hid (by rw [List.take_succ_eq_append_getElem hkr, namesV_snoc, hnm])
          generalize l[j].name = rn at *
          have hne : bA ≠ w.heap.size := by omega
          have HK : Hid (Kept (fun q => q = w.heap.size) wr (wr.setCell ⟨w.heap.size, j, none⟩ (.bool true))) := Lib.hid ((Kept.refl _ _).set1 _)
          have HD2 : Hid ((wr.setCell ⟨w.heap.size, j, none⟩ (.bool true)).ownsRow w.heap.size 4 1 (.slice (some ⟨w.heap.size, 0, none⟩) l.length l.length) l.length (boolsV (doneL (rankL us l) (k + 1) l))) := Lib.hid (by
            have := (HD.out.stored j (.bool true)).1
            rw [boolsV_set, ← HDN.out] at this
            exact this)
          have HO2 := Lib.hid (own_kept HO.out HK.out (fun q hq hh => by subst hh; exact ev_own_ne HO.out HD.out (by decide) hq rfl))
          have hb2 : Below w.heap.size w (wr.setCell ⟨w.heap.size, j, none⟩ (.bool true)) := hb.setCell (Nat.le_refl _) _
          clear hc12 hc11 hcs1 hp1 hnm hrow HO HD HBe hdl HDN
          go_upto_region 12 with fail
          have g0' : (wr.setCell ⟨w.heap.size, j, none⟩ (.bool true)).cell? ⟨bA, off + j * 3, none⟩ = some (.string rn) := (((Below.refl w.heap.size wr).setCell (p := ⟨w.heap.size, j, none⟩) (Nat.le_refl _) (.bool true)).cell (p := ⟨bA, off + j * 3, none⟩) (show bA < w.heap.size by omega)).trans g0
          clear g0 cu fu
          generalize wr.setCell ⟨w.heap.size, j, none⟩ (.bool true) = w4 at *
          have HNE := Lib.hid (fun q hq => ev_own_ne HO2.out HD2.out (by decide) (g := q) hq)
          go_wp2_with (at_builtin; refine wpList_app _ strT rfl (.tmp 47) (.tmp 53) rfl w.heap.size (.slice A5 k c5) k (namesV ((rankL us l).take k)) rfl (by exact HO2.out.alloc _) ⟨w4.heap.size, 0, none⟩ 1 1 [.string rn] rfl rfl (news_new w4 _ _) (by simp [Value.oneCell']) (by omega) (by unfold maxLen; omega) (by omega) (by have := hb2.size; simp; omega) ?_; intro g8 c8 w8 hown8 hgr8 hat8 hlt8)
          rw [← HSn.out] at hown8
          have HO8 := Lib.hid hown8
          have hba := hb2.alloc hb2.size (.cells #[.string rn] 9)
          have hb8 : Below w.heap.size w w8 := hba.grown hgr8 hba.size (fun q hq => (HO2.out.lt q hq).1)
          have HD8 := Lib.hid (own_kept (HD2.out.alloc (.cells #[.string rn] 9)) (S := fun q => (Value.slice A5 k c5).ownBlock = some q) ((Kept.refl _ _).grown hgr8 (fun q hq => .inl hq)) (fun q hq hh => HNE.out q hh hq))
          clear hown8 hgr8 hat8 hba HO2 HD2 HNE HK
          go_wp2_with fail
          go_roundw
          case rel => exact ⟨k + 1, _, c8, by go_num, by omega, rfl, HO8, HD8, hb8⟩
          case measure => simp [intOf]; omega
    · obtain rfl : k = l.length := by omega
      have e2 : (rankL us l).take l.length = rankL us l := by rw [← HRL.out, List.take_length]
      rw [e2] at HO
      clear e2
      go_wp2_with fail
      go_ret
      exact ⟨A5, c5, rfl, HO.out, hb⟩
end
end Go.Proofs.Yticmfflnenoplaa
