/- The reference's For: the walk: it returns the hints of the plain law. -/
import Derived.Test.YticmfflnenoplaaHintsC
namespace Go.Proofs.Yticmfflnenoplaa
open Go.RowKit Mk

/-- The hints told up to k. -/
def rowR (free all : A4) (n : Nat) (many : Int) (k : Nat) : List Value := flatH ((masks free n many k).map fun x => ⟨x, goodR all n many x⟩)
theorem rowR_one (free all : A4) (n : Nat) (many : Int) (hm : 0 < many) : rowR free all n many 1 = [] := by simp [rowR, masks_one free n many hm, flatH]
theorem rowR_keep (free all : A4) (n : Nat) (many : Int) (k : Nat) (h : condA free n many k = false) : rowR free all n many (k + 1) = rowR free all n many k ∧ masks free n many (k + 1) = masks free n many k := by simp [rowR, masks, h]
theorem rowR_more (free all : A4) (n : Nat) (many : Int) (k : Nat) (h : condA free n many k = true) : rowR free all n many (k + 1) = rowR free all n many k ++ [.int .u8 k, .bool (goodR all n many k)] ∧ (masks free n many (k + 1)).length = (masks free n many k).length + 1 := by
  simp [rowR, masks, h, flatH, Hint.cells]
theorem rowR_full (free all : A4) (n : Nat) (many : Int) : rowR free all n many 256 = flatH (hintsOf free all n many) ∧ (masks free n many 256).length = (hintsOf free all n many).length := by simp [rowR, hintsOf]
theorem gscan_one (all : A4) (n : Nat) (many : Int) (hm : 0 < many) (k : Nat) : gscan all n many k 1 = true := by
  have : over 0 all = 0 := by simp [over, psum, bt]
  have h : ¬ many ≤ 0 := by omega
  simp [gscan, condA, this, h]
theorem gscan_next (all : A4) (n : Nat) (many : Int) (k j : Nat) : gscan all n many k (j + 1) = (gscan all n many k j && !((sub j n && decide (many ≤ over j all)) && decide (nodes j < nodes k))) := rfl
theorem condA_def (l : A4) (n : Nat) (many : Int) (k : Nat) : condA l n many k = (sub k n && decide (many ≤ over k l)) := rfl
theorem goodR_def (all : A4) (n : Nat) (many : Int) (k : Nat) : goodR all n many k = (gscan all n many k 256 && decide (many ≤ over k all)) := rfl
theorem sub_and : ∀ n : Fin 16, ∀ k : Fin 256, (k.val &&& n.val == k.val) = sub k.val n.val := by decide +kernel

set_option maxRecDepth 100000 in
set_option maxHeartbeats 2000000 in
theorem rfor_none (free all : A4) (n : Nat) (many : Int) (hm : many ≤ 0) (w : World) :
    Calls Try.prog 52 #[free.val, all.val, .int .u8 n, .int .i64 many] w (RetWish true [] w) := by
  obtain ⟨f0, f1, f2, f3⟩ := free
  obtain ⟨a0, a1, a2, a3⟩ := all
  unfold A4.val
  dsimp only
  go_enter Try.func52, Try.ntmps52
  go_wp2
  refine bodyPost_ret (v := .agg #[.bool true, .slice none 0 0]) (by simp [results, Try.results52, go_sem]) rfl ⟨_, rfl, World.ownsRow_nil _ _ _ _, ?_⟩
  exact (((Below.refl _ _).alloc (Nat.le_refl _) _).alloc (by simp) _).alloc (by simp; omega) _

section
attribute [local irreducible] masks over nodes goodR hintsOf flatH sub rowR gscan condA
set_option maxRecDepth 100000 in
set_option maxHeartbeats 4000000 in
theorem rfor_some (free all : A4) (hf : free.Small) (ha : all.Small) (n : Nat) (hn : n < 16) (many : Int) (hm : 0 < many) (w : World) :
    Calls Try.prog 52 #[free.val, all.val, .int .u8 n, .int .i64 many] w (RetWish false (hintsOf free all n many) w) := by
  have hover := fun (k : Nat) (hk : k < 256) (W : World) => on_any k hk free hf W
  have hovera := fun (k : Nat) (hk : k < 256) (W : World) => on_any k hk all ha W
  have HO := Lib.hid hover
  have HA := Lib.hid hovera
  clear hover hovera
  have hst := ForW.start w free all
  have hr1 := rowR_one free all n many hm
  have hm1 := masks_one free n many hm
  obtain ⟨f0, f1, f2, f3⟩ := free
  obtain ⟨a0, a1, a2, a3⟩ := all
  unfold A4.val at HO HA
  unfold A4.val
  dsimp only at HO HA hst
  dsimp only
  have hmd : decide (many ≤ 0) = false := by simp; omega
  have HR1 := Lib.hid hr1
  have HM1 := Lib.hid hm1
  clear hr1 hm1
  go_enter Try.func52, Try.ntmps52
  go_wp2_with fail
  go_loopw [10] (fun i wr => ∃ k : Nat, i = .int .i64 k ∧ 1 ≤ k ∧ k ≤ 256 ∧ ∃ hv, ForW w wr ⟨f0, f1, f2, f3⟩ ⟨a0, a1, a2, a3⟩ hv (masks ⟨f0, f1, f2, f3⟩ n many k).length (rowR ⟨f0, f1, f2, f3⟩ ⟨a0, a1, a2, a3⟩ n many k)) (fun i _ => 256 - (intOf i).toNat)
  case atStart => exact ⟨1, rfl, by omega, by omega, .slice none 0 0, by rw [HR1.out, HM1.out]; exact hst⟩
  case round =>
    clear hst HR1 HM1
    obtain ⟨k, rfl, hk1, hk2, hv, hW⟩ := hrel
    by_cases hlt : k < 256
    · have hcv := u8_conv k hlt
      have hq := u8_and_nat k n hlt (by omega)
      have hsp := sub_and ⟨n, hn⟩ ⟨k, hlt⟩
      simp only at hsp
      cases hs : sub k n
      · have hne : (bits BinOp.and IntKind.u8 ↑k ↑n != ↑k) = true := by
          rw [hs, beq_eq_false_iff_ne] at hsp
          rw [hq, bne_iff_ne]
          omega
        have hkp := Lib.hid (rowR_keep ⟨f0, f1, f2, f3⟩ ⟨a0, a1, a2, a3⟩ n many k (by rw [condA_def, hs]; rfl))
        clear hq hsp hs
        go_wp2_with fail
        go_roundw
        case rel => exact ⟨k + 1, by go_num, by omega, by omega, hv, by rw [hkp.out.1, hkp.out.2]; exact hW⟩
        case measure => simp [intOf]; omega
      · have hne : bits BinOp.and IntKind.u8 ↑k ↑n = ↑k := by
          rw [hs, beq_iff_eq] at hsp
          rw [hq, hsp]
        have HS := Lib.hid hs
        clear hq hsp hs
        have c0 := hW.b0.cells
        go_wp2_with fail
        refine (HO.out k (by omega) _).mono ?_
        rintro e w1 ⟨rfl, hb1⟩
        have hW1 := hW.later hb1
        clear hW c0 hb1
        by_cases hF : many ≤ over k ⟨f0, f1, f2, f3⟩
        · have hkp := Lib.hid (rowR_more ⟨f0, f1, f2, f3⟩ ⟨a0, a1, a2, a3⟩ n many k (by rw [condA_def, HS.out]; simpa using hF))
          have hgd := Lib.hid (goodR_def ⟨a0, a1, a2, a3⟩ n many k)
          generalize over k ⟨f0, f1, f2, f3⟩ = of at *
          go_wp2_with fail
          go_loopw [12, 13] (fun gd jv wi => ∃ j : Nat, jv = .int .i64 j ∧ 1 ≤ j ∧ j ≤ 256 ∧ gd = .bool (gscan ⟨a0, a1, a2, a3⟩ n many k j) ∧ ForW w wi ⟨f0, f1, f2, f3⟩ ⟨a0, a1, a2, a3⟩ hv (masks ⟨f0, f1, f2, f3⟩ n many k).length (rowR ⟨f0, f1, f2, f3⟩ ⟨a0, a1, a2, a3⟩ n many k)) (fun _ jv _ => 256 - (intOf jv).toNat)
          case atStart => exact ⟨1, rfl, by omega, by omega, by rw [gscan_one _ _ _ hm], hW1⟩
          case round =>
            clear hW1
            obtain ⟨j, rfl, hj1, hj2, rfl, hW1⟩ := hrel
            by_cases hjl : j < 256
            · have hcj := u8_conv j hjl
              have hqj := u8_and_nat j n hjl (by omega)
              have hsj := sub_and ⟨n, hn⟩ ⟨j, hjl⟩
              simp only at hsj
              cases hs : sub j n
              · have hnj : (bits BinOp.and IntKind.u8 ↑j ↑n == ↑j) = false := by
                  rw [hs, beq_eq_false_iff_ne] at hsj
                  rw [hqj, beq_eq_false_iff_ne]
                  omega
                have hgn := Lib.hid (gscan_next ⟨a0, a1, a2, a3⟩ n many k j)
                have HSJ := Lib.hid hs
                clear hqj hsj hs
                go_wp2_with fail
                go_roundw
                case rel => exact ⟨j + 1, by go_num, by omega, by omega, by rw [hgn.out, HSJ.out]; simp, hW1⟩
                case measure => simp [intOf]; omega
              · have hnj : bits BinOp.and IntKind.u8 ↑j ↑n = ↑j := by
                  rw [hs, beq_iff_eq] at hsj
                  rw [hqj, hsj]
                have hgn := Lib.hid (gscan_next ⟨a0, a1, a2, a3⟩ n many k j)
                have HSJ := Lib.hid hs
                clear hqj hsj hs
                have c1 := hW1.b1.cells
                go_wp2_with fail
                refine (HA.out j (by omega) _).mono ?_
                rintro e w2 ⟨rfl, hb2⟩
                have hW2 := hW1.later hb2
                clear hW1 c1 hb2
                generalize over j ⟨a0, a1, a2, a3⟩ = oa at *
                by_cases hA : many ≤ oa
                · go_wp2_with fail
                  refine (nodesOf_any j (by omega) _).mono ?_
                  rintro e w3 ⟨rfl, rfl⟩
                  go_wp2_with fail
                  refine (nodesOf_any k (by omega) _).mono ?_
                  rintro e w3 ⟨rfl, rfl⟩
                  generalize nodes j = nj at *
                  generalize nodes k = nk at *
                  by_cases hnd : nj < nk
                  · go_wp2_with fail
                    go_roundw
                    case rel => exact ⟨j + 1, by go_num, by omega, by omega, by rw [hgn.out, HSJ.out]; simp [hA, hnd], hW2⟩
                    case measure => simp [intOf]; omega
                  · go_wp2_with fail
                    go_roundw
                    case rel => exact ⟨j + 1, by go_num, by omega, by omega, by rw [hgn.out, HSJ.out]; simp [hnd], hW2⟩
                    case measure => simp [intOf]; omega
                · go_wp2_with fail
                  go_roundw
                  case rel => exact ⟨j + 1, by go_num, by omega, by omega, by rw [hgn.out, HSJ.out]; simp [hA], hW2⟩
                  case measure => simp [intOf]; omega
            · obtain rfl : j = 256 := by omega
              have c1 := hW1.b1.cells
              go_wp2_with fail
              refine (HA.out k (by omega) _).mono ?_
              rintro e w2 ⟨rfl, hb2⟩
              have hW2 := hW1.later hb2
              clear hW1 c1 hb2
              generalize over k ⟨a0, a1, a2, a3⟩ = oa at *
              generalize goodR ⟨a0, a1, a2, a3⟩ n many k = gr at *
              generalize gscan ⟨a0, a1, a2, a3⟩ n many k 256 = gs at *
              go_upto_if 65 with fail
              go_cut [12] (fun gd wx => gd = .bool gr ∧ ForW w wx ⟨f0, f1, f2, f3⟩ ⟨a0, a1, a2, a3⟩ hv (masks ⟨f0, f1, f2, f3⟩ n many k).length (rowR ⟨f0, f1, f2, f3⟩ ⟨a0, a1, a2, a3⟩ n many k))
              case first =>
                by_cases hA : many ≤ oa
                · go_wp2_with fail
                  go_meet
                  exact ⟨by rw [hgd.out]; simp [hA], hW2⟩
                · go_wp2_with fail
                  go_meet
                  exact ⟨by rw [hgd.out]; simp [hA], hW2⟩
              case rest =>
                obtain ⟨rfl, hW3⟩ := hcut
                clear hW2 hgd
                have hlen := masks_len ⟨f0, f1, f2, f3⟩ n many k
                have c3 := hW3.b3.cells
                have d3 := hW3.b3.frozens
                have hne3 : some (w.heap.size + 1 + 1 + 1) ≠ hv.ownBlock := fun he => own_blk_ne hW3.row hW3.b3 (by decide) he.symm
                go_wp2_with (at_builtin; refine wpList_app _ hintT rfl (.tmp 67) (.tmp 71) rfl w.heap.size hv _ _ rfl (by exact hW3.row.alloc _) ⟨wc.heap.size, 0, none⟩ 1 1 [.int .u8 k, .bool gr] rfl rfl (news_new wc _ _) (by simp [Value.oneCell']) (by omega) (by unfold maxLen; omega) (by omega) (by have := hW3.below.size; simp; omega) ?_; intro g cap w4 hown4 hg4 hat4 hlt4; have hb4 := Blk.grown (hW3.b3.alloc _) hg4 hne3; have hc4 := hb4.cells; have hf4 := hb4.frozens)
                go_roundw
                case rel =>
                  refine ⟨k + 1, by go_num, by omega, by omega, .slice (some ⟨g, 0, none⟩) ((masks ⟨f0, f1, f2, f3⟩ n many k).length + 1) cap, ?_⟩
                  rw [hkp.out.1, hkp.out.2]
                  exact hW3.app hown4 hg4
                case measure => simp [intOf]; omega
        · have hkp := Lib.hid (rowR_keep ⟨f0, f1, f2, f3⟩ ⟨a0, a1, a2, a3⟩ n many k (by rw [condA_def, HS.out]; simpa using hF))
          generalize over k ⟨f0, f1, f2, f3⟩ = of at *
          go_wp2_with fail
          go_roundw
          case rel => exact ⟨k + 1, by go_num, by omega, by omega, hv, by rw [hkp.out.1, hkp.out.2]; exact hW1⟩
          case measure => simp [intOf]; omega
    · have hke : k = 256 := by omega
      subst hke
      have hfu := rowR_full ⟨f0, f1, f2, f3⟩ ⟨a0, a1, a2, a3⟩ n many
      rw [hfu.1, hfu.2] at hW
      clear hfu
      obtain ⟨A, cap, rfl⟩ : ∃ A cap, hv = .slice A (hintsOf ⟨f0, f1, f2, f3⟩ ⟨a0, a1, a2, a3⟩ n many).length cap := by
        rcases hW.row.2 with ⟨h1, h0⟩ | ⟨g, cap, cur, h1, _⟩
        · exact ⟨none, 0, by rw [h1, h0]⟩
        · exact ⟨_, cap, h1⟩
      have c2 := hW.b2.cells
      have fz2 := hW.b2.frozens
      have c3 := hW.b3.cells
      have hB := ((hW.b2.set_ 0 (.bool false)).set_ 1 (.slice A (hintsOf ⟨f0, f1, f2, f3⟩ ⟨a0, a1, a2, a3⟩ n many).length cap)).cells
      have hne := own_blk_ne hW.row hW.b2 (by decide)
      go_wp2_with fail
      refine bodyPost_ret (v := .agg #[.bool false, .slice A (hintsOf ⟨f0, f1, f2, f3⟩ ⟨a0, a1, a2, a3⟩ n many).length cap]) (by simp [results, Try.results52, go_sem, hB]) rfl ⟨_, rfl, ?_, ?_⟩
      · refine own_kept (S := fun k => k = w.heap.size + 1 + 1) hW.row ?_ fun k hk he => hne (by rw [← he, hk])
        exact ((Kept.refl _ _).set1 _).trans ((Kept.refl _ _).set1 _)
      · exact (hW.below.setCell (by simp; omega) _).setCell (by simp; omega) _
end
end Go.Proofs.Yticmfflnenoplaa
