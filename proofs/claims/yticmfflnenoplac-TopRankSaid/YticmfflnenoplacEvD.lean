/- Who goes first: Rank: its walk. No statement is proved here. -/
import Derived.Test.YticmfflnenoplacEvC
import Derived.Test.YticmfflnenoplacQosH
import Derived.Test.YticmfflnenoplacFloB
namespace Go.Proofs.Yticmfflnenoplac
open Go.RowKit Go.Deep Da Qo Ev
theorem rowT : ElemT Try.prog 40 45 (.agg #[.int .i64 0, .int .i64 0, .int .i64 0, .string ⟨#[]⟩]) 4 40 := ⟨Try.underlying40, by kernel_rfl, rfl, by omega⟩
theorem strT : ElemT Try.prog 24 9 (.string ⟨#[]⟩) 1 16 := ⟨Try.underlying24, by kernel_rfl, rfl, by omega⟩
theorem ev_own_ne {w : World} {base base' : Nat} {e e' : TypeId} {size size' n n' : Nat} {v v' : Value} {xs xs' : List Value} (h : w.ownsRow base e size v n xs) (h' : w.ownsRow base' e' size' v' n' xs') (hne : e ≠ e') {g : Nat} (hg : v.ownBlock = some g) : v'.ownBlock ≠ some g := by
  rcases h.2 with ⟨rfl, _⟩ | ⟨g', cap, cur, rfl, _, hh, _⟩
  · simp [Value.ownBlock] at hg
  · have : g' = g := by simpa [Value.ownBlock] using hg
    subst this
    exact own_blk_ne h' hh (Ne.symm hne)
namespace Ev
theorem Fit.row {us : List Use} {p : Pod} (h : Fit us p) : rowOf us p = ⟨if 0 < usedF p.name us - askedB p then 0 else 1, p.prio, usedF p.name us - askedB p, p.name, by
    have h1 := h.prio
    have h2 := h.used
    have h3 := (h.good.sums p.conts.length (Nat.le_refl _)).2.1
    have h4 := h.good.nm
    unfold askedB
    exact ⟨⟨by split <;> omega, h1⟩, by omega, by omega⟩⟩ := by
  have h1 := h.prio
  have h2 := h.used
  have h3 := (h.good.sums p.conts.length (Nat.le_refl _)).2.1
  have h4 := h.good.nm
  unfold rowOf
  rw [dif_pos (by unfold askedB; exact ⟨h1, by omega, by omega⟩)]
def rowsV (us : List Use) (l : List Pod) : List Value := l.flatMap fun p => (rowOf us p).cells
theorem rowsV_nil (us : List Use) : rowsV us [] = [] := rfl
theorem rowsV_snoc (us : List Use) (l : List Pod) (p : Pod) : rowsV us (l ++ [p]) = rowsV us l ++ (rowOf us p).cells := by simp [rowsV]
theorem rowsV_map (us : List Use) (l : List Pod) : rowsV us l = (l.map (rowOf us)).flatMap Row.cells := by simp [rowsV, List.flatMap_map]
def rankL (us : List Use) (l : List Pod) : List Row := sortR (l.map (rowOf us))
theorem rankL_len (us : List Use) (l : List Pod) : (rankL us l).length = l.length := by
  unfold rankL
  rw [(sortR_perm _).length_eq, List.length_map]
def namesV (l : List Row) : List Value := l.map fun r => .string r.name
theorem namesV_nil : namesV [] = [] := rfl
theorem namesV_snoc (l : List Row) (r : Row) : namesV (l ++ [r]) = namesV l ++ [.string r.name] := by simp [namesV]
theorem cellsR_at (l : List Row) (i : Nat) (hi : i < l.length) (j : Nat) (hj : j < 4) : (l.flatMap Row.cells)[i * 4 + j]? = (Row.cells l[i])[j]? :=
  flatMap_at (C := 4) l (fun _ _ => rfl) i hi j hj
end Ev
theorem rpod_open {w : World} {B : Nat} {cs : List Value} {p : Pod} (h : RPod w B cs p) : ∃ A n c, cs = [.string p.name, .int .i64 p.prio, .slice A n c] := by
  obtain ⟨cv, he, _, _, hs⟩ := h
  obtain ⟨A, c, e, _⟩ := hs.form
  obtain rfl : cv = _ := by simpa using e
  exact ⟨A, _, c, he⟩
theorem ev_field1 (a b : Int) (w : World) : (Instr.field 42 (.agg #[.int .i64 a, .int .i64 b]) 1).run Try.prog w = .ok (.int .i64 b) w := by kernel_rfl
def RankP (us : List Use) (l : List Pod) (w : World) (e : Ending) (w' : World) : Prop :=
  ∃ A c, e = .returned (.slice A l.length c) ∧ w'.ownsRow w.heap.size 9 1 (.slice A l.length c) l.length (namesV (rankL us l)) ∧ Below w.heap.size w w'
section
attribute [local irreducible] usedF rowOf rowsV rankL namesV askedB askedM sortR RPod RCont
set_option maxRecDepth 100000 in
set_option maxHeartbeats 4000000 in
theorem Rank_any (v v2 : Value) (l : List Pod) (us : List Use) (B : Nat) (w : World) (hB : B ≤ w.heap.size) (h : RSlice w B 3 (RPod w B) [v] l) (h2 : RSlice w B 2 RUse [v2] us) (hf : ∀ p ∈ l, Fit us p) (hn : l.length ≤ 1000) :
    Calls Try.prog 5 #[v, v2] w (RankP us l w) := by
  obtain ⟨A, cap, hv, hl, hcap, hA⟩ := h.form
  obtain rfl : v = _ := by simpa using hv
  unfold maxLen at hcap
  have HA := Lib.hid hA
  have HR := Lib.hid h
  have HU := Lib.hid h2
  have HF := Lib.hid hf
  clear h h2 hv hA hf
  go_enter Try.func5, Try.ntmps5
  go_wp2_with fail
  go_loopw [5, 15] (fun v5 i wi => ∃ (k : Nat) (A5 : Option Addr) (c5 : Nat), i = .int .i64 k ∧ k ≤ l.length ∧ v5 = .slice A5 k c5 ∧ Hid (wi.ownsRow w.heap.size 45 4 (.slice A5 k c5) k (rowsV us (l.take k))) ∧ Below w.heap.size w wi) (fun _ i _ => l.length - (intOf i).toNat)
  case atStart => exact ⟨0, none, 0, rfl, by omega, rfl, Lib.hid (by rw [List.take_zero, rowsV_nil]; exact World.ownsRow_nil _ _ _ _), Below.refl _ _⟩
  case round =>
    obtain ⟨k, A5, c5, rfl, hk, rfl, HO, hb⟩ := hrel
    by_cases hlt : k < l.length
    · obtain ⟨b, off, rfl⟩ := HA.out k hlt
      obtain ⟨hblt, cs', hc1, hc2, hp0⟩ := (HR.out.below (hb.mono hB)).at_ hlt
      have HFit := Lib.hid (HF.out l[k] (List.getElem_mem hlt))
      have HSn : Hid (rowsV us (l.take (k + 1)) = rowsV us (l.take k) ++ (rowOf us l[k]).cells) := Lib.hid (by rw [List.take_succ_eq_append_getElem hlt, rowsV_snoc])
      generalize l[k] = p at *
      have HP := Lib.hid hp0
      obtain ⟨A8, n8, c8, hcs⟩ := rpod_open hp0
      have g0 := hc2 0 _ (by rw [hcs]; rfl)
      have g1 := hc2 1 _ (by rw [hcs]; rfl)
      have g2 := hc2 2 _ (by rw [hcs]; rfl)
      simp only [Nat.add_zero] at g0
      rw [hcs] at HP
      have HUS := Lib.hid (fun W (hW : Below w.heap.size w W) => used_any v2 us p.name B W (by have := hW.size; omega) (HU.out.below (hW.mono hB)))
      have HSU := Lib.hid (fun W (hW : Below w.heap.size w W) => Sum_any p HFit.out.good [.string p.name, .int .i64 p.prio, .slice A8 n8 c8] B W (by have := hW.size; omega) (HP.out.below (hW.mono hB)))
      clear hc2 hcs hc1 hp0 HP
      have ka := Blk.new wr 28 #[.string p.name, .int .i64 p.prio, .slice A8 n8 c8]
      have hba := hb.alloc hb.size (.cells #[.string p.name, .int .i64 p.prio, .slice A8 n8 c8] 28)
      go_wp2_with fail
      refine (HUS.out _ hba).mono ?_
      rintro e w5 ⟨rfl, hb5⟩
      have ka5 := ka.below hb5 ka.lt
      have hb5' := hba.trans (hb5.mono hba.size)
      have hbx : Below wr.heap.size wr w5 := ((Below.refl _ _).alloc (Nat.le_refl _) _).trans (hb5.mono (by simp))
      have HO5 := Lib.hid (own_below HO.out hbx)
      have HRow : Hid ((rowOf us p).cells = [.int .i64 (if 0 < usedF p.name us - askedB p then 0 else 1), .int .i64 p.prio, .int .i64 (usedF p.name us - askedB p), .string p.name]) := Lib.hid (by rw [HFit.out.row]; rfl)
      have hu := HFit.out.used
      have hp1 := HFit.out.prio
      have hab := (HFit.out.good.sums p.conts.length (Nat.le_refl _)).2.1
      have hab2 : 0 ≤ askedB p ∧ askedB p ≤ 3377699720527872 := by unfold askedB; exact hab
      generalize wr.heap.size = pa at *
      clear HUS HFit
      generalize usedF p.name us = un at *
      have e5 := ka5.cells
      have l5 := ka5.lt
      clear hab g0 g1 g2 ka hbx hb5 hba HO
      go_upto_region 6 with fail
      go_cut [9] (fun s9 wx => ∃ g9, s9 = .pointer (some ⟨g9, 0, none⟩) ∧ Blk wx g9 45 #[.int .i64 1, .int .i64 p.prio, .int .i64 (un - askedB p), .string p.name] ∧ Below w5.heap.size w5 wx ∧ w5.heap.size ≤ g9)
      case first =>
        rename_i J0 K0 hJ0 hK0
        have hI : Below w5.heap.size w5 w5.drew := (Below.refl _ _).drew
        clear HO5 HRow HSn
        have hfd := fun W => ev_field1 (askedM p) (askedB p) W
        refine Flo.regionBr 11 6 [0, 1, 2, 3, 7, 8] #[true, true, true, true, false, false, false, true, true, false, false, false] (fun v => Below w5.heap.size w5 v) (by kernel_rfl) (by kernel_rfl) rfl hI ?_
        unfold Flo.wpFs
        simp only [List.map_cons, List.map_nil]
        iterate 6 (apply Flo.op rfl (hI := hI); (· intro v hv K hK; obtain ⟨hc, hf⟩ := Flo.bcl hv; go_wp2_with fail; all_goals first | exact Flo.noUndef (by with_reducible assumption) | exact hK); (· rfl))
        refine Flo.nil ?_
        clear e5
        generalize w5.drew = v0 at *
        -- TREE
        refine Flo.br2 (i := 4) (j := 10) (by kernel_rfl) rfl rfl (fun K hK => ?_) (fun K hK => ?_)
        · go_wp2_with fail
          refine (HSU.out _ (hb5'.trans (hI.mono hb5'.size))).mono ?_
          rintro e v1 ⟨rfl, hb1⟩
          go_wp2_with fail
          have hI' : Below w5.heap.size w5 v1 := hI.trans (hb1.mono hI.size)
          refine hK _ _ (fun _ => hI') ?_
          clear hb1 hK hI
          have hI := hI'
          clear hI'
          refine Flo.br2 (i := 5) (j := 10) (by kernel_rfl) rfl rfl (fun K hK => ?_) (fun K hK => ?_)
          · go_wp2_with fail
            refine hK _ _ (fun _ => hI) ?_
            clear hK
            refine Flo.br2 (i := 6) (j := 10) (by kernel_rfl) rfl rfl (fun K hK => ?_) (fun K hK => ?_)
            · go_wp2_with fail
              refine hK _ _ (fun _ => hI) ?_
              clear hK
              refine Flo.br2 (i := 9) (j := 10) (by kernel_rfl) rfl rfl (fun K hK => ?_) (fun K hK => ?_)
              · go_wp2_with fail
                refine hK _ _ (fun _ => hI) ?_
                clear hK
                refine Flo.br1 (i := 10) (by kernel_rfl) rfl (fun K hK => ?_)
                go_wp2_with fail
                have hI' : Below w5.heap.size w5 (v1.alloc (.cells #[.int .i64 0, .int .i64 0, .int .i64 0, .string ⟨#[]⟩] 45)) := hI.alloc hI.size _
                have k9 := Blk.new v1 45 #[.int .i64 0, .int .i64 0, .int .i64 0, .string ⟨#[]⟩]
                have hg9 : w5.heap.size ≤ v1.heap.size := hI.size
                refine hK _ _ (fun _ => hI') ?_
                generalize v1.alloc (.cells #[.int .i64 0, .int .i64 0, .int .i64 0, .string ⟨#[]⟩] 45) = v2 at *
                clear hK hI
                have hI := hI'
                clear hI'
                have e9 := k9.cells
                have f9 := k9.frozens
                have l9 := k9.lt
                refine Flo.br1 (i := 11) (by kernel_rfl) rfl (fun K hK => ?_)
                go_wp2_with fail
                refine hK _ _ (fun h => absurd h (by omega)) ?_
                refine Flo.brEnd (by kernel_rfl) ?_
                refine hK0 _ _ ?_
                go_meet
                exact ⟨v1.heap.size, rfl, (((((k9.set_ 0 _).set_ 1 _).set_ 2 _).set_ 3 _).cast (by simp)), (((hI.setCell (by simpa using hg9) _).setCell (by simpa using hg9) _).setCell (by simpa using hg9) _).setCell (by simpa using hg9) _, hg9⟩
              · go_wp2_with fail
                have hI' : Below w5.heap.size w5 (v1.alloc (.cells #[.int .i64 0, .int .i64 0, .int .i64 0, .string ⟨#[]⟩] 45)) := hI.alloc hI.size _
                have k9 := Blk.new v1 45 #[.int .i64 0, .int .i64 0, .int .i64 0, .string ⟨#[]⟩]
                have hg9 : w5.heap.size ≤ v1.heap.size := hI.size
                refine hK _ _ (fun _ => hI') ?_
                generalize v1.alloc (.cells #[.int .i64 0, .int .i64 0, .int .i64 0, .string ⟨#[]⟩] 45) = v2 at *
                clear hK hI
                have hI := hI'
                clear hI'
                refine Flo.br1 (i := 9) (by kernel_rfl) rfl (fun K hK => ?_)
                go_wp2_with fail
                refine hK _ _ (fun _ => hI) ?_
                clear hK
                have e9 := k9.cells
                have f9 := k9.frozens
                have l9 := k9.lt
                refine Flo.br1 (i := 11) (by kernel_rfl) rfl (fun K hK => ?_)
                go_wp2_with fail
                refine hK _ _ (fun h => absurd h (by omega)) ?_
                refine Flo.brEnd (by kernel_rfl) ?_
                refine hK0 _ _ ?_
                go_meet
                exact ⟨v1.heap.size, rfl, (((((k9.set_ 0 _).set_ 1 _).set_ 2 _).set_ 3 _).cast (by simp)), (((hI.setCell (by simpa using hg9) _).setCell (by simpa using hg9) _).setCell (by simpa using hg9) _).setCell (by simpa using hg9) _, hg9⟩
            · go_wp2_with fail
              have hI' : Below w5.heap.size w5 (v1.alloc (.cells #[.int .i64 0, .int .i64 0, .int .i64 0, .string ⟨#[]⟩] 45)) := hI.alloc hI.size _
              have k9 := Blk.new v1 45 #[.int .i64 0, .int .i64 0, .int .i64 0, .string ⟨#[]⟩]
              have hg9 : w5.heap.size ≤ v1.heap.size := hI.size
              refine hK _ _ (fun _ => hI') ?_
              generalize v1.alloc (.cells #[.int .i64 0, .int .i64 0, .int .i64 0, .string ⟨#[]⟩] 45) = v2 at *
              clear hK hI
              have hI := hI'
              clear hI'
              refine Flo.br1 (i := 6) (by kernel_rfl) rfl (fun K hK => ?_)
              go_wp2_with fail
              refine hK _ _ (fun _ => hI) ?_
              clear hK
              refine Flo.br1 (i := 9) (by kernel_rfl) rfl (fun K hK => ?_)
              go_wp2_with fail
              refine hK _ _ (fun _ => hI) ?_
              clear hK
              have e9 := k9.cells
              have f9 := k9.frozens
              have l9 := k9.lt
              refine Flo.br1 (i := 11) (by kernel_rfl) rfl (fun K hK => ?_)
              go_wp2_with fail
              refine hK _ _ (fun h => absurd h (by omega)) ?_
              refine Flo.brEnd (by kernel_rfl) ?_
              refine hK0 _ _ ?_
              go_meet
              exact ⟨v1.heap.size, rfl, (((((k9.set_ 0 _).set_ 1 _).set_ 2 _).set_ 3 _).cast (by simp)), (((hI.setCell (by simpa using hg9) _).setCell (by simpa using hg9) _).setCell (by simpa using hg9) _).setCell (by simpa using hg9) _, hg9⟩
          · go_wp2_with fail
            have hI' : Below w5.heap.size w5 (v1.alloc (.cells #[.int .i64 0, .int .i64 0, .int .i64 0, .string ⟨#[]⟩] 45)) := hI.alloc hI.size _
            have k9 := Blk.new v1 45 #[.int .i64 0, .int .i64 0, .int .i64 0, .string ⟨#[]⟩]
            have hg9 : w5.heap.size ≤ v1.heap.size := hI.size
            refine hK _ _ (fun _ => hI') ?_
            generalize v1.alloc (.cells #[.int .i64 0, .int .i64 0, .int .i64 0, .string ⟨#[]⟩] 45) = v2 at *
            clear hK hI
            have hI := hI'
            clear hI'
            refine Flo.br1 (i := 5) (by kernel_rfl) rfl (fun K hK => ?_)
            go_wp2_with fail
            refine hK _ _ (fun _ => hI) ?_
            clear hK
            refine Flo.br1 (i := 6) (by kernel_rfl) rfl (fun K hK => ?_)
            go_wp2_with fail
            refine hK _ _ (fun _ => hI) ?_
            clear hK
            refine Flo.br1 (i := 9) (by kernel_rfl) rfl (fun K hK => ?_)
            go_wp2_with fail
            refine hK _ _ (fun _ => hI) ?_
            clear hK
            have e9 := k9.cells
            have f9 := k9.frozens
            have l9 := k9.lt
            refine Flo.br1 (i := 11) (by kernel_rfl) rfl (fun K hK => ?_)
            go_wp2_with fail
            refine hK _ _ (fun h => absurd h (by omega)) ?_
            refine Flo.brEnd (by kernel_rfl) ?_
            refine hK0 _ _ ?_
            go_meet
            exact ⟨v1.heap.size, rfl, (((((k9.set_ 0 _).set_ 1 _).set_ 2 _).set_ 3 _).cast (by simp)), (((hI.setCell (by simpa using hg9) _).setCell (by simpa using hg9) _).setCell (by simpa using hg9) _).setCell (by simpa using hg9) _, hg9⟩
        · go_wp2_with fail
          have hI' : Below w5.heap.size w5 (v0.alloc (.cells #[.int .i64 0, .int .i64 0, .int .i64 0, .string ⟨#[]⟩] 45)) := hI.alloc hI.size _
          have k9 := Blk.new v0 45 #[.int .i64 0, .int .i64 0, .int .i64 0, .string ⟨#[]⟩]
          have hg9 : w5.heap.size ≤ v0.heap.size := hI.size
          refine hK _ _ (fun _ => hI') ?_
          generalize v0.alloc (.cells #[.int .i64 0, .int .i64 0, .int .i64 0, .string ⟨#[]⟩] 45) = v1 at *
          clear hK hI
          have hI := hI'
          clear hI'
          refine Flo.br1 (i := 4) (by kernel_rfl) rfl (fun K hK => ?_)
          go_wp2_with fail
          refine (HSU.out _ (hb5'.trans (hI.mono hb5'.size))).mono ?_
          rintro e v2 ⟨rfl, hb2⟩
          go_wp2_with fail
          have hI' : Below w5.heap.size w5 v2 := hI.trans (hb2.mono hI.size)
          have k9' := k9.below hb2 k9.lt
          refine hK _ _ (fun _ => hI') ?_
          clear hb2 hK hI
          have hI := hI'
          clear hI'
          clear k9
          have k9 := k9'
          clear k9'
          refine Flo.br1 (i := 5) (by kernel_rfl) rfl (fun K hK => ?_)
          go_wp2_with fail
          refine hK _ _ (fun _ => hI) ?_
          clear hK
          refine Flo.br1 (i := 6) (by kernel_rfl) rfl (fun K hK => ?_)
          go_wp2_with fail
          refine hK _ _ (fun _ => hI) ?_
          clear hK
          refine Flo.br1 (i := 9) (by kernel_rfl) rfl (fun K hK => ?_)
          go_wp2_with fail
          refine hK _ _ (fun _ => hI) ?_
          clear hK
          have e9 := k9.cells
          have f9 := k9.frozens
          have l9 := k9.lt
          refine Flo.br1 (i := 11) (by kernel_rfl) rfl (fun K hK => ?_)
          go_wp2_with fail
          refine hK _ _ (fun h => absurd h (by omega)) ?_
          refine Flo.brEnd (by kernel_rfl) ?_
          refine hK0 _ _ ?_
          go_meet
          exact ⟨v0.heap.size, rfl, (((((k9.set_ 0 _).set_ 1 _).set_ 2 _).set_ 3 _).cast (by simp)), (((hI.setCell (by simpa using hg9) _).setCell (by simpa using hg9) _).setCell (by simpa using hg9) _).setCell (by simpa using hg9) _, hg9⟩
        -- EERT
      case rest =>
        obtain ⟨g9, rfl, k9, hb7, hg9⟩ := hcut
        have e9 := k9.cells
        have f9 := k9.frozens
        have l9 := k9.lt
        by_cases hm : 0 < un - askedB p
        · have HR2 : Hid ((rowOf us p).cells = [.int .i64 0, .int .i64 p.prio, .int .i64 (un - askedB p), .string p.name]) := Lib.hid (HRow.out.trans (by rw [if_pos hm]))
          have hb9 := hb7.setCell (p := ⟨g9, 0, none⟩) hg9 (.int .i64 0)
          go_upto_region 9 with fail
          have k9' : Blk (wc.setCell ⟨g9, 0, none⟩ (.int .i64 0)) g9 45 #[.int .i64 0, .int .i64 p.prio, .int .i64 (un - askedB p), .string p.name] := (k9.set_ 0 _).cast (by simp)
          clear e9 f9 l9 k9
          have k9 := k9'
          clear k9'
          generalize wc.setCell ⟨g9, 0, none⟩ (.int .i64 0) = y1 at *
          have hbz := hb5'.trans (hb9.mono hb5'.size)
          have HO9 := Lib.hid (own_below HO5.out hb9)
          have e9 := k9.cells
          have l9 := k9.lt
          clear hb7 hb9 HO5 HRow hm
          go_wp2_with (at_builtin; refine wpList_app _ rowT rfl (.tmp 37) (.tmp 39) rfl w.heap.size (.slice A5 k c5) k (rowsV us (l.take k)) rfl (by exact HO9.out.alloc _) ⟨y1.heap.size, 0, none⟩ 1 1 [.int .i64 0, .int .i64 p.prio, .int .i64 (un - askedB p), .string p.name] rfl rfl (news_new y1 _ _) (by simp [Value.oneCell']) (by omega) (by unfold maxLen; omega) (by omega) (by have := hbz.size; simp; omega) ?_; intro g8 c8 w8 hown8 hgr8 hat8 hlt8)
          rw [← HR2.out, ← HSn.out] at hown8
          have HO8 := Lib.hid hown8
          have hb8 : Below w.heap.size w w8 := (hbz.alloc hbz.size _).grown hgr8 (Nat.le_trans hbz.size (by simp)) (fun q hq => (HO9.out.lt q hq).1)
          clear hown8 hgr8 hat8 hbz
          go_wp2_with fail
          go_roundw
          case rel => exact ⟨k + 1, _, c8, by go_num, by omega, rfl, HO8, hb8⟩
          case measure => simp [intOf]; omega
        · have HR2 : Hid ((rowOf us p).cells = [.int .i64 1, .int .i64 p.prio, .int .i64 (un - askedB p), .string p.name]) := Lib.hid (HRow.out.trans (by rw [if_neg hm]))
          go_upto_region 9 with fail
          clear e9 f9 l9
          have hb9 := hb7
          generalize wc = y1 at *
          have hbz := hb5'.trans (hb9.mono hb5'.size)
          have HO9 := Lib.hid (own_below HO5.out hb9)
          have e9 := k9.cells
          have l9 := k9.lt
          clear hb7 hb9 HO5 HRow hm
          go_wp2_with (at_builtin; refine wpList_app _ rowT rfl (.tmp 37) (.tmp 39) rfl w.heap.size (.slice A5 k c5) k (rowsV us (l.take k)) rfl (by exact HO9.out.alloc _) ⟨y1.heap.size, 0, none⟩ 1 1 [.int .i64 1, .int .i64 p.prio, .int .i64 (un - askedB p), .string p.name] rfl rfl (news_new y1 _ _) (by simp [Value.oneCell']) (by omega) (by unfold maxLen; omega) (by omega) (by have := hbz.size; simp; omega) ?_; intro g8 c8 w8 hown8 hgr8 hat8 hlt8)
          rw [← HR2.out, ← HSn.out] at hown8
          have HO8 := Lib.hid hown8
          have hb8 : Below w.heap.size w w8 := (hbz.alloc hbz.size _).grown hgr8 (Nat.le_trans hbz.size (by simp)) (fun q hq => (HO9.out.lt q hq).1)
          clear hown8 hgr8 hat8 hbz
          go_wp2_with fail
          go_roundw
          case rel => exact ⟨k + 1, _, c8, by go_num, by omega, rfl, HO8, hb8⟩
          case measure => simp [intOf]; omega
    · obtain rfl : k = l.length := by omega
      have hsz := hb.size
      have e1 : rowsV us (l.take l.length) = (l.map (rowOf us)).flatMap Row.cells := by rw [List.take_length, rowsV_map]
      have HOx := HO.out
      rw [e1] at HOx
      have HSO := Lib.hid (sortRows_any (.slice A5 l.length c5) w.heap.size (l.map (rowOf us)) wr (by rw [List.length_map]; exact HOx) (by rw [List.length_map]; omega))
      rw [List.length_map] at HSO
      have HRK : Hid (sortR (l.map (rowOf us)) = rankL us l) := Lib.hid (by unfold rankL; rfl)
      rw [HRK.out] at HSO
      have HRL := Lib.hid (rankL_len us l)
      have HLT := Lib.hid (fun q hq => (HO.out.lt q hq).1)
      clear HO HOx e1 HR HA HU HF
      obtain ⟨rs, hrs⟩ : ∃ rs, rs = rankL us l := ⟨_, rfl⟩
      rw [← hrs] at HSO HRK HRL
      have HRS := Lib.hid hrs
      clear hrs
      go_wp2_with fail
      refine HSO.out.mono ?_
      rintro e w2 ⟨rfl, hown2, hgr2⟩
      have hb2 : Below w.heap.size w w2 := hb.grown hgr2 hb.size HLT.out
      have HO2 := Lib.hid hown2
      clear hown2 hgr2 hb HSO
      go_wp2_with fail
      go_loopw [10, 46] (fun v10 i wi => ∃ (k : Nat) (A6 : Option Addr) (c6 : Nat), i = .int .i64 k ∧ k ≤ l.length ∧ v10 = .slice A6 k c6 ∧ Hid (wi.ownsRow w.heap.size 9 1 (.slice A6 k c6) k (namesV (rs.take k))) ∧ Hid (wi.ownsRow w.heap.size 45 4 (.slice A5 l.length c5) l.length (rs.flatMap Row.cells)) ∧ Below w.heap.size w wi) (fun _ i _ => l.length - (intOf i).toNat)
      case atStart => exact ⟨0, none, 0, rfl, by omega, rfl, Lib.hid (by rw [List.take_zero, namesV_nil]; exact World.ownsRow_nil _ _ _ _), HO2, hb2⟩
      case round =>
        clear HO2 hb2
        obtain ⟨k, A6, c6, rfl, hk, rfl, HO, HO2, hb⟩ := hrel
        by_cases hlt : k < l.length
        · obtain ⟨A', c', he, _, _, h3⟩ := own_form HO2.out
          simp only [Value.slice.injEq, true_and] at he
          obtain ⟨rfl, rfl⟩ := he
          obtain ⟨g, rfl, hg, hbg⟩ := h3 (by omega)
          have hkr : k < rs.length := by have := HRL.out; omega
          have g0 := (HO2.out.cellAt (k * 4 + 0) (by omega)).trans (cellsR_at rs k hkr 0 (by omega))
          have g1 := (HO2.out.cellAt (k * 4 + 1) (by omega)).trans (cellsR_at rs k hkr 1 (by omega))
          have g2 := (HO2.out.cellAt (k * 4 + 2) (by omega)).trans (cellsR_at rs k hkr 2 (by omega))
          have g3 := (HO2.out.cellAt (k * 4 + 3) (by omega)).trans (cellsR_at rs k hkr 3 (by omega))
          have HSn : Hid (namesV (rs.take (k + 1)) = namesV (rs.take k) ++ [.string rs[k].name]) := Lib.hid (by rw [List.take_succ_eq_append_getElem hkr, namesV_snoc])
          generalize rs[k] = r at *
          obtain ⟨ro, rp, rm, rn, rh⟩ := r
          change _ = some (Value.int .i64 ro) at g0
          change _ = some (Value.int .i64 rp) at g1
          change _ = some (Value.int .i64 rm) at g2
          change _ = some (Value.string rn) at g3
          simp only [Nat.add_zero] at g0
          dsimp only at HSn
          have hba : Below wr.heap.size wr ((wr.alloc (.cells #[.int .i64 ro, .int .i64 rp, .int .i64 rm, .string rn] 45)).alloc (.cells #[.string rn] 9)) := ((Below.refl _ _).alloc (Nat.le_refl _) _).alloc (by simp) _
          have hbw := hb.trans (hba.mono hb.size)
          have HO3 := Lib.hid (own_below HO.out hba)
          have HO4 := Lib.hid (own_below HO2.out hba)
          have HNE := Lib.hid (fun q hq => ev_own_ne HO3.out HO4.out (by decide) (g := q) hq)
          have HNW := Lib.hid (news_new (wr.alloc (.cells #[.int .i64 ro, .int .i64 rp, .int .i64 rm, .string rn] 45)) [.string rn] 9)
          clear hba rh HO
          go_wp2_with (at_builtin; refine wpList_app _ strT rfl (.tmp 50) (.tmp 53) rfl w.heap.size (.slice A6 k c6) k (namesV (rs.take k)) rfl (by exact HO3.out) ⟨wr.heap.size + 1, 0, none⟩ 1 1 [.string rn] rfl rfl (by have := HNW.out; rw [World.size_alloc] at this; exact this) (by simp [Value.oneCell']) (by omega) (by unfold maxLen; omega) (by omega) (by have := hb.size; simp; omega) ?_; intro g8 c8 w8 hown8 hgr8 hat8 hlt8)
          rw [← HSn.out] at hown8
          have HO8 := Lib.hid hown8
          have hb8 : Below w.heap.size w w8 := hbw.grown hgr8 hbw.size (fun q hq => (HO3.out.lt q hq).1)
          have HO9 := Lib.hid (own_kept HO4.out (S := fun q => (Value.slice A6 k c6).ownBlock = some q) ((Kept.refl _ _).grown hgr8 (fun q hq => .inl hq)) (fun q hq hh => HNE.out q hh hq))
          clear hown8 hgr8 hat8 hbw HO3 HO4 g0 g1 g2 g3
          go_wp2_with fail
          go_roundw
          case rel => exact ⟨k + 1, _, c8, by go_num, by omega, rfl, HO8, HO9, hb8⟩
          case measure => simp [intOf]; omega
        · obtain rfl : k = l.length := by omega
          have e2 : rs.take l.length = rs := by rw [← HRL.out, List.take_length]
          rw [e2] at HO
          clear e2
          go_wp2_with fail
          go_ret
          exact ⟨A6, c6, rfl, by have := HO.out; rw [HRS.out] at this; exact this, hb⟩
end
end Go.Proofs.Yticmfflnenoplac
