/- qos.Groups: its walk. -/
import Derived.Test.YticmfflnenoplabQosJ
namespace Go.Proofs.Yticmfflnenoplab
open Go.RowKit Qo Da
theorem podC {w : World} {B : Nat} {s : ByteArray} {n : Int} {A : Option Addr} {m c : Nat} {p : Pod} (h : RPod w B [.string s, .int .i64 n, .slice A m c] p) : RSlice w B 6 (RCont w B) [.slice A m c] p.conts := by
  obtain ⟨cv, e, _, _, hC⟩ := h
  simp only [List.cons.injEq, and_true] at e
  rw [e.2.2]
  exact hC
theorem field0 (x y : Int) (w : World) : (Instr.field 55 (.agg #[.int .i64 x, .int .i64 y]) 0).run Try.prog w = .ok (.int .i64 x) w := by kernel_rfl
section
attribute [local irreducible] RCont RSlice RPod cls sumF askedM askedB hasK capF pathP mid grK podK grs shares quota flatG contG podG
set_option maxRecDepth 100000 in
set_option maxHeartbeats 16000000 in
theorem Groups_any (l : List Pod) (hg : ∀ k (hk : k < l.length), GoodP l[k]) (h16 : l.length ≤ 16) (v : Value) (B : Nat) (w : World) (hB : B ≤ w.heap.size) (hR : RSlice w B 3 (RPod w B) [v] l) :
    Calls Try.prog 23 #[v] w (RetGs (grs l) w) := by
  obtain ⟨A, cap, e, hl, hcap, hA⟩ := RS.form (RS.of hR)
  obtain rfl : v = _ := by simpa using e
  unfold maxLen at hcap
  have HR := Lib.hid hR
  have HA := Lib.hid hA
  have HG := Lib.hid hg
  have HM := Lib.hid (mid_le l hg)
  have HL := Lib.hid (grK_len l hg)
  have hm0 := Lib.hid (show mid l 0 = 0 by unfold mid; rfl)
  clear hR hA hg e
  go_enter Try.func23, Try.ntmps23
  go_upto_region 3 with fail
  go_loopw [3, 15] (fun s i wi => ∃ k : Nat, i = .int .i64 k ∧ k ≤ l.length ∧ s = .int .i64 (mid l k) ∧ Below w.heap.size w wi) (fun s i _ => l.length - (intOf i).toNat)
  case atStart => exact ⟨0, rfl, by omega, by rw [hm0.out], Below.refl _ _⟩
  case round =>
    obtain ⟨k, rfl, hk, rfl, hbel⟩ := hrel
    have hmk := HM.out k hk
    by_cases hlt : k < l.length
    · obtain ⟨b, off, rfl, hb⟩ := HA.out k hlt
      obtain ⟨A2, c2, hP, r0, r1, r2, h1, h2, h3, _⟩ := pod_at HR.out (hbel.mono hB) hlt
      have hgp := HG.out k hlt
      have hak := asked_le hgp
      have hcl := cls_any l[k]
      have hy := Lib.hid (mid_yes l k hlt)
      have hn := Lib.hid (mid_no l k hlt)
      unfold maxLen at h2 h3
      generalize l[k] = p at *
      go_upto_region 5 with fail
      have hba : Below w.heap.size w (wr.alloc (.cells #[.string p.name, .int .i64 p.prio, .slice A2 p.conts.length c2] 53)) := hbel.alloc hbel.size _
      have hwa : Below wr.heap.size wr (wr.alloc (.cells #[.string p.name, .int .i64 p.prio, .slice A2 p.conts.length c2] 53)) := (Below.refl _ _).alloc (Nat.le_refl _) _
      have b9 := Blk.new wr 53 #[.string p.name, .int .i64 p.prio, .slice A2 p.conts.length c2]
      have HP := Lib.hid (hP.below (hwa.mono (Nat.le_trans hB hbel.size)))
      clear r0 r1 r2 hbel hP hwa
      generalize wr.alloc (.cells #[.string p.name, .int .i64 p.prio, .slice A2 p.conts.length c2] 53) = wa at *
      generalize wr.heap.size = pk at *
      have e9 := b9.cells
      have z9 := b9.lt
      by_cases hq : cls p = 2
      · have hN := Lib.hid (hy.out hq)
        have HQ := Lib.hid hq
        clear hcl hq
        go_wp2_with fail
        refine (Class_any p hgp _ B wa (Nat.le_trans hB hba.size) HP.out).mono ?_
        rintro e w2 ⟨rfl, hb2⟩
        rw [HQ.out]
        have e9' := (b9.below hb2 z9).cells
        have hbe := hba.trans (hb2.mono hba.size)
        clear e9
        go_wp2_with fail
        refine (Sum_any p hgp _ B w2 (Nat.le_trans hB hbe.size) (HP.out.below (hb2.mono (Nat.le_trans hB hba.size)))).mono ?_
        rintro e w3 ⟨rfl, hb3⟩
        have hfl := fun W => field0 (askedM p) (askedB p) W
        go_wp2_with fail
        go_roundw
        case rel => exact ⟨k + 1, by go_num, by omega, by rw [hN.out], hbe.trans (hb3.mono hbe.size)⟩
        case measure => simp [intOf]; omega
      · have hN := Lib.hid (hn.out hq)
        rcases (show cls p = 1 ∨ cls p = 3 by omega) with hq | hq
        all_goals
          have HQ := Lib.hid hq
          clear hcl hq
          go_wp2_with fail
          refine (Class_any p hgp _ B wa (Nat.le_trans hB hba.size) HP.out).mono ?_
          rintro e w2 ⟨rfl, hb2⟩
          rw [HQ.out]
          go_wp2_with fail
          go_roundw
          case rel => exact ⟨k + 1, by go_num, by omega, by rw [hN.out], hba.trans (hb2.mono hba.size)⟩
          case measure => simp [intOf]; omega
    · obtain rfl : k = l.length := by omega
      have hz := Lib.hid (grK_zero l)
      go_wp2_with fail
      refine (Shares_any (mid l l.length) (by omega) (by omega) _).mono ?_
      rintro e w2 ⟨rfl, rfl⟩
      go_upto_region 10 with fail
      have hown := World.ownsRow_lit (base := w.heap.size) (e := 69) (size := 4) wr #[.string ⟨#[47, 109, 105, 100]⟩, .int .i64 (shares (mid l l.length)), .int .i64 (-1), .int .i64 0, .string ⟨#[47, 108, 111, 119]⟩, .int .i64 2, .int .i64 (-1), .int .i64 0] 2 hbel.size (by simp [maxLen]) rfl
      have hbe := hbel.alloc hbel.size (.cells #[.string ⟨#[47, 109, 105, 100]⟩, .int .i64 (shares (mid l l.length)), .int .i64 (-1), .int .i64 0, .string ⟨#[47, 108, 111, 119]⟩, .int .i64 2, .int .i64 (-1), .int .i64 0] 69)
      have hown0 : (wr.alloc (.cells #[.string ⟨#[47, 109, 105, 100]⟩, .int .i64 (shares (mid l l.length)), .int .i64 (-1), .int .i64 0, .string ⟨#[47, 108, 111, 119]⟩, .int .i64 2, .int .i64 (-1), .int .i64 0] 69)).ownsRow w.heap.size 69 4 (.slice (some ⟨wr.heap.size, 0, none⟩) 2 2) (grK l 0).length (flatG (grK l 0)) := by
        rw [hz.out]
        unfold flatG
        exact hown
      clear hown hmk hz
      generalize wr.alloc (.cells #[.string ⟨#[47, 109, 105, 100]⟩, .int .i64 (shares (mid l l.length)), .int .i64 (-1), .int .i64 0, .string ⟨#[47, 108, 111, 119]⟩, .int .i64 2, .int .i64 (-1), .int .i64 0] 69) = w1 at *
      go_loopw [6, 35] (fun s i wi => ∃ (k : Nat) (hv : Value), i = .int .i64 k ∧ k ≤ l.length ∧ hv = s ∧ wi.ownsRow w.heap.size 69 4 hv (grK l k).length (flatG (grK l k)) ∧ Below w.heap.size w wi) (fun s i _ => l.length - (intOf i).toNat)
      case atStart => exact ⟨0, _, rfl, by omega, rfl, hown0, hbe⟩
      case round =>
        clear hown0 hbe hbel
        obtain ⟨k, hv, rfl, hk, hs, hown, hbel⟩ := hrel
        subst hs
        by_cases hlt : k < l.length
        · obtain ⟨b, off, rfl, hb⟩ := HA.out k hlt
          obtain ⟨A2, c2, hP, r0, r1, r2, h1, h2, h3, hcA⟩ := pod_at HR.out (Below.refl B w) hlt
          have hgp := HG.out k hlt
          have hak := asked_le hgp
          have hck := capF_le hgp
          have hnm := hgp.nm
          have hc3 := hgp.len
          have hGN := Lib.hid (grK_next l k hlt)
          have hlen := HL.out k hk
          unfold maxLen at h2 h3
          have hpl := pathP_len l[k]
          generalize l[k] = p at *
          have HP0 := Lib.hid hP
          have HCA := Lib.hid hcA
          clear hP hcA
          have hbw : b < w.heap.size := by omega
          have q0 := (hbel.cell (p := ⟨b, off + k * 3, none⟩) hbw).trans r0
          have q1 := (hbel.cell (p := ⟨b, off + k * 3 + 1, none⟩) hbw).trans r1
          have q2 := (hbel.cell (p := ⟨b, off + k * 3 + 2, none⟩) hbw).trans r2
          clear r0 r1 r2
          go_upto_region 12 with fail
          have hba : Below w.heap.size w (wr.alloc (.cells #[.string p.name, .int .i64 p.prio, .slice A2 p.conts.length c2] 53)) := hbel.alloc hbel.size _
          have hown2 := hown.alloc (.cells #[.string p.name, .int .i64 p.prio, .slice A2 p.conts.length c2] 53)
          have b8 := Blk.new wr 53 #[.string p.name, .int .i64 p.prio, .slice A2 p.conts.length c2]
          clear q0 q1 q2 hbel hown
          generalize wr.alloc (.cells #[.string p.name, .int .i64 p.prio, .slice A2 p.conts.length c2] 53) = wa at *
          generalize wr.heap.size = pk at *
          have hBa : B ≤ wa.heap.size := Nat.le_trans hB hba.size
          have HP := Lib.hid (HP0.out.below (hba.mono hB))
          have zpk : pk < wa.heap.size := b8.lt
          go_cut [9, 10] (fun s9 s10 wx => ∃ g9 g10, s9 = .pointer (some ⟨g9, 0, none⟩) ∧ s10 = .pointer (some ⟨g10, 0, none⟩) ∧ g9 ≠ g10 ∧ Blk wx g9 55 #[.int .i64 (askedM p), .int .i64 (askedB p)] ∧ Blk wx g10 55 #[.int .i64 (capF Cont.capM p.conts), .int .i64 (capF Cont.capB p.conts)] ∧ Blk wx pk 53 #[.string p.name, .int .i64 p.prio, .slice A2 p.conts.length c2] ∧ Below wa.heap.size wa wx)
          case first =>
            rename_i J0 K0 hJ0 hK0
            clear HL HM HG HA HR hGN HCA HP0 hown2 hba
            have e8 := b8.cells
            have hI : Below wa.heap.size wa wa.drew := (Below.refl _ _).drew
            refine Flo.regionBr 6 6 [0, 2] #[true, false, true, false, false, false, false, false] (fun v => Below wa.heap.size wa v) (by kernel_rfl) (by kernel_rfl) rfl hI ?_
            unfold Flo.wpFs
            simp only [List.map_cons, List.map_nil]
            iterate 2 (apply Flo.op rfl (hI := hI); (· intro v hv K hK; obtain ⟨hc, hf⟩ := Flo.bcl hv; go_wp2_with fail; all_goals first | exact Flo.noUndef (by with_reducible assumption) | exact hK); (· rfl))
            refine Flo.nil ?_
            have b8' := b8.drew
            clear e8 b8
            have b8 := b8'
            clear b8'
            generalize wa.drew = v0 at *
            refine Flo.br3 (i := 1) (j := 4) (m := 5) (by kernel_rfl) rfl rfl rfl (fun K hK => ?_) (fun K hK => ?_) (fun K hK => ?_)
            · go_wp2_with fail
              refine (Sum_any p hgp _ B _ (Nat.le_trans hBa hI.size) (HP.out.below (hI.mono hBa))).mono ?_
              rintro e v1 ⟨rfl, hb1⟩
              go_wp2_with fail
              have hI' : Below wa.heap.size wa v1 := hI.trans (hb1.mono hI.size)
              have b8' := b8.below hb1 b8.lt
              refine hK _ _ (fun _ => hI') ?_
              clear hb1 hK
              clear hI b8
              have hI := hI'
              have b8 := b8'
              clear hI' b8'
              refine Flo.br3 (i := 3) (j := 4) (m := 5) (by kernel_rfl) rfl rfl rfl (fun K hK => ?_) (fun K hK => ?_) (fun K hK => ?_)
              · go_wp2_with fail
                refine (caps_any p hgp _ B _ (Nat.le_trans hBa hI.size) (HP.out.below (hI.mono hBa))).mono ?_
                rintro e v2 ⟨rfl, hb2⟩
                go_wp2_with fail
                have hI' : Below wa.heap.size wa v2 := hI.trans (hb2.mono hI.size)
                have b8' := b8.below hb2 b8.lt
                refine hK _ _ (fun _ => hI') ?_
                clear hb2 hK
                clear hI b8
                have hI := hI'
                have b8 := b8'
                clear hI' b8'
                refine Flo.br2 (i := 4) (j := 5) (by kernel_rfl) rfl rfl (fun K hK => ?_) (fun K hK => ?_)
                · go_wp2_with fail
                  have hI' : Below wa.heap.size wa (v2.alloc (.cells #[.int .i64 0, .int .i64 0] 55)) := hI.alloc hI.size _
                  have b8' := b8.alloc (.cells #[.int .i64 0, .int .i64 0] 55)
                  have k9' := Blk.new v2 55 #[.int .i64 0, .int .i64 0]
                  have hg9 : wa.heap.size ≤ v2.heap.size := hI.size
                  refine hK _ _ (fun _ => hI') ?_
                  clear hK
                  generalize v2.alloc (.cells #[.int .i64 0, .int .i64 0] 55) = v3 at *
                  clear hI b8
                  have hI := hI'
                  have b8 := b8'
                  have k9 := k9'
                  clear hI' b8' k9'
                  refine Flo.br1 (i := 5) (by kernel_rfl) rfl (fun K hK => ?_)
                  go_wp2_with fail
                  have hI' : Below wa.heap.size wa (v3.alloc (.cells #[.int .i64 0, .int .i64 0] 55)) := hI.alloc hI.size _
                  have b8' := b8.alloc (.cells #[.int .i64 0, .int .i64 0] 55)
                  have k10' := Blk.new v3 55 #[.int .i64 0, .int .i64 0]
                  have hg10 : wa.heap.size ≤ v3.heap.size := hI.size
                  have k9' := k9.alloc (.cells #[.int .i64 0, .int .i64 0] 55)
                  have hne : v2.heap.size ≠ v3.heap.size := by have := k9.lt; omega
                  refine hK _ _ (fun _ => hI') ?_
                  clear hK
                  generalize v3.alloc (.cells #[.int .i64 0, .int .i64 0] 55) = v4 at *
                  clear hI b8 k9
                  have hI := hI'
                  have b8 := b8'
                  have k9 := k9'
                  have k10 := k10'
                  clear hI' b8' k9' k10'
                  have e9 := k9.cells
                  have f9 := k9.frozens
                  have e10 := k10.cells
                  have f10 := k10.frozens
                  refine Flo.br1 (i := 6) (by kernel_rfl) rfl (fun K hK => ?_)
                  go_wp2_with fail
                  refine hK _ _ (fun h => absurd h (by omega)) ?_
                  refine Flo.br1 (i := 7) (by kernel_rfl) rfl (fun K hK => ?_)
                  go_wp2_with fail
                  refine hK _ _ (fun h => absurd h (by omega)) ?_
                  refine Flo.brEnd (by kernel_rfl) ?_
                  refine hK0 _ _ ?_
                  go_meet
                  refine ⟨v2.heap.size, v3.heap.size, rfl, rfl, hne, (((k9.set_ 0 _).set_ 1 _).far (by simpa using hne) _).far (by simpa using hne) _ |>.cast (by simp), ((((k10.far (by simpa using hne.symm) _).far (by simpa using hne.symm) _).set_ 0 _).set_ 1 _).cast (by simp), (((b8.far (by simp; omega) _).far (by simp; omega) _).far (by simp; omega) _).far (by simp; omega) _, (((hI.setCell (by simp; omega) _).setCell (by simp; omega) _).setCell (by simp; omega) _).setCell (by simp; omega) _⟩
                · go_wp2_with fail
                  have hI' : Below wa.heap.size wa (v2.alloc (.cells #[.int .i64 0, .int .i64 0] 55)) := hI.alloc hI.size _
                  have b8' := b8.alloc (.cells #[.int .i64 0, .int .i64 0] 55)
                  have k10' := Blk.new v2 55 #[.int .i64 0, .int .i64 0]
                  have hg10 : wa.heap.size ≤ v2.heap.size := hI.size
                  refine hK _ _ (fun _ => hI') ?_
                  clear hK
                  generalize v2.alloc (.cells #[.int .i64 0, .int .i64 0] 55) = v3 at *
                  clear hI b8
                  have hI := hI'
                  have b8 := b8'
                  have k10 := k10'
                  clear hI' b8' k10'
                  refine Flo.br1 (i := 4) (by kernel_rfl) rfl (fun K hK => ?_)
                  go_wp2_with fail
                  have hI' : Below wa.heap.size wa (v3.alloc (.cells #[.int .i64 0, .int .i64 0] 55)) := hI.alloc hI.size _
                  have b8' := b8.alloc (.cells #[.int .i64 0, .int .i64 0] 55)
                  have k9' := Blk.new v3 55 #[.int .i64 0, .int .i64 0]
                  have hg9 : wa.heap.size ≤ v3.heap.size := hI.size
                  have k10' := k10.alloc (.cells #[.int .i64 0, .int .i64 0] 55)
                  have hne : v3.heap.size ≠ v2.heap.size := by have := k10.lt; omega
                  refine hK _ _ (fun _ => hI') ?_
                  clear hK
                  generalize v3.alloc (.cells #[.int .i64 0, .int .i64 0] 55) = v4 at *
                  clear hI b8 k10
                  have hI := hI'
                  have b8 := b8'
                  have k9 := k9'
                  have k10 := k10'
                  clear hI' b8' k9' k10'
                  have e9 := k9.cells
                  have f9 := k9.frozens
                  have e10 := k10.cells
                  have f10 := k10.frozens
                  refine Flo.br1 (i := 6) (by kernel_rfl) rfl (fun K hK => ?_)
                  go_wp2_with fail
                  refine hK _ _ (fun h => absurd h (by omega)) ?_
                  refine Flo.br1 (i := 7) (by kernel_rfl) rfl (fun K hK => ?_)
                  go_wp2_with fail
                  refine hK _ _ (fun h => absurd h (by omega)) ?_
                  refine Flo.brEnd (by kernel_rfl) ?_
                  refine hK0 _ _ ?_
                  go_meet
                  refine ⟨v3.heap.size, v2.heap.size, rfl, rfl, hne, (((k9.set_ 0 _).set_ 1 _).far (by simpa using hne) _).far (by simpa using hne) _ |>.cast (by simp), ((((k10.far (by simpa using hne.symm) _).far (by simpa using hne.symm) _).set_ 0 _).set_ 1 _).cast (by simp), (((b8.far (by simp; omega) _).far (by simp; omega) _).far (by simp; omega) _).far (by simp; omega) _, (((hI.setCell (by simp; omega) _).setCell (by simp; omega) _).setCell (by simp; omega) _).setCell (by simp; omega) _⟩
              · go_wp2_with fail
                have hI' : Below wa.heap.size wa (v1.alloc (.cells #[.int .i64 0, .int .i64 0] 55)) := hI.alloc hI.size _
                have b8' := b8.alloc (.cells #[.int .i64 0, .int .i64 0] 55)
                have k9' := Blk.new v1 55 #[.int .i64 0, .int .i64 0]
                have hg9 : wa.heap.size ≤ v1.heap.size := hI.size
                refine hK _ _ (fun _ => hI') ?_
                clear hK
                generalize v1.alloc (.cells #[.int .i64 0, .int .i64 0] 55) = v2 at *
                clear hI b8
                have hI := hI'
                have b8 := b8'
                have k9 := k9'
                clear hI' b8' k9'
                refine Flo.br2 (i := 3) (j := 5) (by kernel_rfl) rfl rfl (fun K hK => ?_) (fun K hK => ?_)
                · go_wp2_with fail
                  refine (caps_any p hgp _ B _ (Nat.le_trans hBa hI.size) (HP.out.below (hI.mono hBa))).mono ?_
                  rintro e v3 ⟨rfl, hb3⟩
                  go_wp2_with fail
                  have hI' : Below wa.heap.size wa v3 := hI.trans (hb3.mono hI.size)
                  have b8' := b8.below hb3 b8.lt
                  have k9' := k9.below hb3 k9.lt
                  refine hK _ _ (fun _ => hI') ?_
                  clear hb3 hK
                  clear hI b8 k9
                  have hI := hI'
                  have b8 := b8'
                  have k9 := k9'
                  clear hI' b8' k9'
                  refine Flo.br1 (i := 5) (by kernel_rfl) rfl (fun K hK => ?_)
                  go_wp2_with fail
                  have hI' : Below wa.heap.size wa (v3.alloc (.cells #[.int .i64 0, .int .i64 0] 55)) := hI.alloc hI.size _
                  have b8' := b8.alloc (.cells #[.int .i64 0, .int .i64 0] 55)
                  have k10' := Blk.new v3 55 #[.int .i64 0, .int .i64 0]
                  have hg10 : wa.heap.size ≤ v3.heap.size := hI.size
                  have k9' := k9.alloc (.cells #[.int .i64 0, .int .i64 0] 55)
                  have hne : v1.heap.size ≠ v3.heap.size := by have := k9.lt; omega
                  refine hK _ _ (fun _ => hI') ?_
                  clear hK
                  generalize v3.alloc (.cells #[.int .i64 0, .int .i64 0] 55) = v4 at *
                  clear hI b8 k9
                  have hI := hI'
                  have b8 := b8'
                  have k9 := k9'
                  have k10 := k10'
                  clear hI' b8' k9' k10'
                  have e9 := k9.cells
                  have f9 := k9.frozens
                  have e10 := k10.cells
                  have f10 := k10.frozens
                  refine Flo.br1 (i := 6) (by kernel_rfl) rfl (fun K hK => ?_)
                  go_wp2_with fail
                  refine hK _ _ (fun h => absurd h (by omega)) ?_
                  refine Flo.br1 (i := 7) (by kernel_rfl) rfl (fun K hK => ?_)
                  go_wp2_with fail
                  refine hK _ _ (fun h => absurd h (by omega)) ?_
                  refine Flo.brEnd (by kernel_rfl) ?_
                  refine hK0 _ _ ?_
                  go_meet
                  refine ⟨v1.heap.size, v3.heap.size, rfl, rfl, hne, (((k9.set_ 0 _).set_ 1 _).far (by simpa using hne) _).far (by simpa using hne) _ |>.cast (by simp), ((((k10.far (by simpa using hne.symm) _).far (by simpa using hne.symm) _).set_ 0 _).set_ 1 _).cast (by simp), (((b8.far (by simp; omega) _).far (by simp; omega) _).far (by simp; omega) _).far (by simp; omega) _, (((hI.setCell (by simp; omega) _).setCell (by simp; omega) _).setCell (by simp; omega) _).setCell (by simp; omega) _⟩
                · go_wp2_with fail
                  have hI' : Below wa.heap.size wa (v2.alloc (.cells #[.int .i64 0, .int .i64 0] 55)) := hI.alloc hI.size _
                  have b8' := b8.alloc (.cells #[.int .i64 0, .int .i64 0] 55)
                  have k10' := Blk.new v2 55 #[.int .i64 0, .int .i64 0]
                  have hg10 : wa.heap.size ≤ v2.heap.size := hI.size
                  have k9' := k9.alloc (.cells #[.int .i64 0, .int .i64 0] 55)
                  have hne : v1.heap.size ≠ v2.heap.size := by have := k9.lt; omega
                  refine hK _ _ (fun _ => hI') ?_
                  clear hK
                  generalize v2.alloc (.cells #[.int .i64 0, .int .i64 0] 55) = v3 at *
                  clear hI b8 k9
                  have hI := hI'
                  have b8 := b8'
                  have k9 := k9'
                  have k10 := k10'
                  clear hI' b8' k9' k10'
                  refine Flo.br1 (i := 3) (by kernel_rfl) rfl (fun K hK => ?_)
                  go_wp2_with fail
                  refine (caps_any p hgp _ B _ (Nat.le_trans hBa hI.size) (HP.out.below (hI.mono hBa))).mono ?_
                  rintro e v4 ⟨rfl, hb4⟩
                  go_wp2_with fail
                  have hI' : Below wa.heap.size wa v4 := hI.trans (hb4.mono hI.size)
                  have b8' := b8.below hb4 b8.lt
                  have k9' := k9.below hb4 k9.lt
                  have k10' := k10.below hb4 k10.lt
                  refine hK _ _ (fun _ => hI') ?_
                  clear hb4 hK
                  clear hI b8 k9 k10
                  have hI := hI'
                  have b8 := b8'
                  have k9 := k9'
                  have k10 := k10'
                  clear hI' b8' k9' k10'
                  have e9 := k9.cells
                  have f9 := k9.frozens
                  have e10 := k10.cells
                  have f10 := k10.frozens
                  refine Flo.br1 (i := 6) (by kernel_rfl) rfl (fun K hK => ?_)
                  go_wp2_with fail
                  refine hK _ _ (fun h => absurd h (by omega)) ?_
                  refine Flo.br1 (i := 7) (by kernel_rfl) rfl (fun K hK => ?_)
                  go_wp2_with fail
                  refine hK _ _ (fun h => absurd h (by omega)) ?_
                  refine Flo.brEnd (by kernel_rfl) ?_
                  refine hK0 _ _ ?_
                  go_meet
                  refine ⟨v1.heap.size, v2.heap.size, rfl, rfl, hne, (((k9.set_ 0 _).set_ 1 _).far (by simpa using hne) _).far (by simpa using hne) _ |>.cast (by simp), ((((k10.far (by simpa using hne.symm) _).far (by simpa using hne.symm) _).set_ 0 _).set_ 1 _).cast (by simp), (((b8.far (by simp; omega) _).far (by simp; omega) _).far (by simp; omega) _).far (by simp; omega) _, (((hI.setCell (by simp; omega) _).setCell (by simp; omega) _).setCell (by simp; omega) _).setCell (by simp; omega) _⟩
              · go_wp2_with fail
                have hI' : Below wa.heap.size wa (v1.alloc (.cells #[.int .i64 0, .int .i64 0] 55)) := hI.alloc hI.size _
                have b8' := b8.alloc (.cells #[.int .i64 0, .int .i64 0] 55)
                have k10' := Blk.new v1 55 #[.int .i64 0, .int .i64 0]
                have hg10 : wa.heap.size ≤ v1.heap.size := hI.size
                refine hK _ _ (fun _ => hI') ?_
                clear hK
                generalize v1.alloc (.cells #[.int .i64 0, .int .i64 0] 55) = v2 at *
                clear hI b8
                have hI := hI'
                have b8 := b8'
                have k10 := k10'
                clear hI' b8' k10'
                refine Flo.br2 (i := 3) (j := 4) (by kernel_rfl) rfl rfl (fun K hK => ?_) (fun K hK => ?_)
                · go_wp2_with fail
                  refine (caps_any p hgp _ B _ (Nat.le_trans hBa hI.size) (HP.out.below (hI.mono hBa))).mono ?_
                  rintro e v3 ⟨rfl, hb3⟩
                  go_wp2_with fail
                  have hI' : Below wa.heap.size wa v3 := hI.trans (hb3.mono hI.size)
                  have b8' := b8.below hb3 b8.lt
                  have k10' := k10.below hb3 k10.lt
                  refine hK _ _ (fun _ => hI') ?_
                  clear hb3 hK
                  clear hI b8 k10
                  have hI := hI'
                  have b8 := b8'
                  have k10 := k10'
                  clear hI' b8' k10'
                  refine Flo.br1 (i := 4) (by kernel_rfl) rfl (fun K hK => ?_)
                  go_wp2_with fail
                  have hI' : Below wa.heap.size wa (v3.alloc (.cells #[.int .i64 0, .int .i64 0] 55)) := hI.alloc hI.size _
                  have b8' := b8.alloc (.cells #[.int .i64 0, .int .i64 0] 55)
                  have k9' := Blk.new v3 55 #[.int .i64 0, .int .i64 0]
                  have hg9 : wa.heap.size ≤ v3.heap.size := hI.size
                  have k10' := k10.alloc (.cells #[.int .i64 0, .int .i64 0] 55)
                  have hne : v3.heap.size ≠ v1.heap.size := by have := k10.lt; omega
                  refine hK _ _ (fun _ => hI') ?_
                  clear hK
                  generalize v3.alloc (.cells #[.int .i64 0, .int .i64 0] 55) = v4 at *
                  clear hI b8 k10
                  have hI := hI'
                  have b8 := b8'
                  have k9 := k9'
                  have k10 := k10'
                  clear hI' b8' k9' k10'
                  have e9 := k9.cells
                  have f9 := k9.frozens
                  have e10 := k10.cells
                  have f10 := k10.frozens
                  refine Flo.br1 (i := 6) (by kernel_rfl) rfl (fun K hK => ?_)
                  go_wp2_with fail
                  refine hK _ _ (fun h => absurd h (by omega)) ?_
                  refine Flo.br1 (i := 7) (by kernel_rfl) rfl (fun K hK => ?_)
                  go_wp2_with fail
                  refine hK _ _ (fun h => absurd h (by omega)) ?_
                  refine Flo.brEnd (by kernel_rfl) ?_
                  refine hK0 _ _ ?_
                  go_meet
                  refine ⟨v3.heap.size, v1.heap.size, rfl, rfl, hne, (((k9.set_ 0 _).set_ 1 _).far (by simpa using hne) _).far (by simpa using hne) _ |>.cast (by simp), ((((k10.far (by simpa using hne.symm) _).far (by simpa using hne.symm) _).set_ 0 _).set_ 1 _).cast (by simp), (((b8.far (by simp; omega) _).far (by simp; omega) _).far (by simp; omega) _).far (by simp; omega) _, (((hI.setCell (by simp; omega) _).setCell (by simp; omega) _).setCell (by simp; omega) _).setCell (by simp; omega) _⟩
                · go_wp2_with fail
                  have hI' : Below wa.heap.size wa (v2.alloc (.cells #[.int .i64 0, .int .i64 0] 55)) := hI.alloc hI.size _
                  have b8' := b8.alloc (.cells #[.int .i64 0, .int .i64 0] 55)
                  have k9' := Blk.new v2 55 #[.int .i64 0, .int .i64 0]
                  have hg9 : wa.heap.size ≤ v2.heap.size := hI.size
                  have k10' := k10.alloc (.cells #[.int .i64 0, .int .i64 0] 55)
                  have hne : v2.heap.size ≠ v1.heap.size := by have := k10.lt; omega
                  refine hK _ _ (fun _ => hI') ?_
                  clear hK
                  generalize v2.alloc (.cells #[.int .i64 0, .int .i64 0] 55) = v3 at *
                  clear hI b8 k10
                  have hI := hI'
                  have b8 := b8'
                  have k9 := k9'
                  have k10 := k10'
                  clear hI' b8' k9' k10'
                  refine Flo.br1 (i := 3) (by kernel_rfl) rfl (fun K hK => ?_)
                  go_wp2_with fail
                  refine (caps_any p hgp _ B _ (Nat.le_trans hBa hI.size) (HP.out.below (hI.mono hBa))).mono ?_
                  rintro e v4 ⟨rfl, hb4⟩
                  go_wp2_with fail
                  have hI' : Below wa.heap.size wa v4 := hI.trans (hb4.mono hI.size)
                  have b8' := b8.below hb4 b8.lt
                  have k9' := k9.below hb4 k9.lt
                  have k10' := k10.below hb4 k10.lt
                  refine hK _ _ (fun _ => hI') ?_
                  clear hb4 hK
                  clear hI b8 k9 k10
                  have hI := hI'
                  have b8 := b8'
                  have k9 := k9'
                  have k10 := k10'
                  clear hI' b8' k9' k10'
                  have e9 := k9.cells
                  have f9 := k9.frozens
                  have e10 := k10.cells
                  have f10 := k10.frozens
                  refine Flo.br1 (i := 6) (by kernel_rfl) rfl (fun K hK => ?_)
                  go_wp2_with fail
                  refine hK _ _ (fun h => absurd h (by omega)) ?_
                  refine Flo.br1 (i := 7) (by kernel_rfl) rfl (fun K hK => ?_)
                  go_wp2_with fail
                  refine hK _ _ (fun h => absurd h (by omega)) ?_
                  refine Flo.brEnd (by kernel_rfl) ?_
                  refine hK0 _ _ ?_
                  go_meet
                  refine ⟨v2.heap.size, v1.heap.size, rfl, rfl, hne, (((k9.set_ 0 _).set_ 1 _).far (by simpa using hne) _).far (by simpa using hne) _ |>.cast (by simp), ((((k10.far (by simpa using hne.symm) _).far (by simpa using hne.symm) _).set_ 0 _).set_ 1 _).cast (by simp), (((b8.far (by simp; omega) _).far (by simp; omega) _).far (by simp; omega) _).far (by simp; omega) _, (((hI.setCell (by simp; omega) _).setCell (by simp; omega) _).setCell (by simp; omega) _).setCell (by simp; omega) _⟩
            · go_wp2_with fail
              have hI' : Below wa.heap.size wa (v0.alloc (.cells #[.int .i64 0, .int .i64 0] 55)) := hI.alloc hI.size _
              have b8' := b8.alloc (.cells #[.int .i64 0, .int .i64 0] 55)
              have k9' := Blk.new v0 55 #[.int .i64 0, .int .i64 0]
              have hg9 : wa.heap.size ≤ v0.heap.size := hI.size
              refine hK _ _ (fun _ => hI') ?_
              clear hK
              generalize v0.alloc (.cells #[.int .i64 0, .int .i64 0] 55) = v1 at *
              clear hI b8
              have hI := hI'
              have b8 := b8'
              have k9 := k9'
              clear hI' b8' k9'
              refine Flo.br2 (i := 1) (j := 5) (by kernel_rfl) rfl rfl (fun K hK => ?_) (fun K hK => ?_)
              · go_wp2_with fail
                refine (Sum_any p hgp _ B _ (Nat.le_trans hBa hI.size) (HP.out.below (hI.mono hBa))).mono ?_
                rintro e v2 ⟨rfl, hb2⟩
                go_wp2_with fail
                have hI' : Below wa.heap.size wa v2 := hI.trans (hb2.mono hI.size)
                have b8' := b8.below hb2 b8.lt
                have k9' := k9.below hb2 k9.lt
                refine hK _ _ (fun _ => hI') ?_
                clear hb2 hK
                clear hI b8 k9
                have hI := hI'
                have b8 := b8'
                have k9 := k9'
                clear hI' b8' k9'
                refine Flo.br2 (i := 3) (j := 5) (by kernel_rfl) rfl rfl (fun K hK => ?_) (fun K hK => ?_)
                · go_wp2_with fail
                  refine (caps_any p hgp _ B _ (Nat.le_trans hBa hI.size) (HP.out.below (hI.mono hBa))).mono ?_
                  rintro e v3 ⟨rfl, hb3⟩
                  go_wp2_with fail
                  have hI' : Below wa.heap.size wa v3 := hI.trans (hb3.mono hI.size)
                  have b8' := b8.below hb3 b8.lt
                  have k9' := k9.below hb3 k9.lt
                  refine hK _ _ (fun _ => hI') ?_
                  clear hb3 hK
                  clear hI b8 k9
                  have hI := hI'
                  have b8 := b8'
                  have k9 := k9'
                  clear hI' b8' k9'
                  refine Flo.br1 (i := 5) (by kernel_rfl) rfl (fun K hK => ?_)
                  go_wp2_with fail
                  have hI' : Below wa.heap.size wa (v3.alloc (.cells #[.int .i64 0, .int .i64 0] 55)) := hI.alloc hI.size _
                  have b8' := b8.alloc (.cells #[.int .i64 0, .int .i64 0] 55)
                  have k10' := Blk.new v3 55 #[.int .i64 0, .int .i64 0]
                  have hg10 : wa.heap.size ≤ v3.heap.size := hI.size
                  have k9' := k9.alloc (.cells #[.int .i64 0, .int .i64 0] 55)
                  have hne : v0.heap.size ≠ v3.heap.size := by have := k9.lt; omega
                  refine hK _ _ (fun _ => hI') ?_
                  clear hK
                  generalize v3.alloc (.cells #[.int .i64 0, .int .i64 0] 55) = v4 at *
                  clear hI b8 k9
                  have hI := hI'
                  have b8 := b8'
                  have k9 := k9'
                  have k10 := k10'
                  clear hI' b8' k9' k10'
                  have e9 := k9.cells
                  have f9 := k9.frozens
                  have e10 := k10.cells
                  have f10 := k10.frozens
                  refine Flo.br1 (i := 6) (by kernel_rfl) rfl (fun K hK => ?_)
                  go_wp2_with fail
                  refine hK _ _ (fun h => absurd h (by omega)) ?_
                  refine Flo.br1 (i := 7) (by kernel_rfl) rfl (fun K hK => ?_)
                  go_wp2_with fail
                  refine hK _ _ (fun h => absurd h (by omega)) ?_
                  refine Flo.brEnd (by kernel_rfl) ?_
                  refine hK0 _ _ ?_
                  go_meet
                  refine ⟨v0.heap.size, v3.heap.size, rfl, rfl, hne, (((k9.set_ 0 _).set_ 1 _).far (by simpa using hne) _).far (by simpa using hne) _ |>.cast (by simp), ((((k10.far (by simpa using hne.symm) _).far (by simpa using hne.symm) _).set_ 0 _).set_ 1 _).cast (by simp), (((b8.far (by simp; omega) _).far (by simp; omega) _).far (by simp; omega) _).far (by simp; omega) _, (((hI.setCell (by simp; omega) _).setCell (by simp; omega) _).setCell (by simp; omega) _).setCell (by simp; omega) _⟩
                · go_wp2_with fail
                  have hI' : Below wa.heap.size wa (v2.alloc (.cells #[.int .i64 0, .int .i64 0] 55)) := hI.alloc hI.size _
                  have b8' := b8.alloc (.cells #[.int .i64 0, .int .i64 0] 55)
                  have k10' := Blk.new v2 55 #[.int .i64 0, .int .i64 0]
                  have hg10 : wa.heap.size ≤ v2.heap.size := hI.size
                  have k9' := k9.alloc (.cells #[.int .i64 0, .int .i64 0] 55)
                  have hne : v0.heap.size ≠ v2.heap.size := by have := k9.lt; omega
                  refine hK _ _ (fun _ => hI') ?_
                  clear hK
                  generalize v2.alloc (.cells #[.int .i64 0, .int .i64 0] 55) = v3 at *
                  clear hI b8 k9
                  have hI := hI'
                  have b8 := b8'
                  have k9 := k9'
                  have k10 := k10'
                  clear hI' b8' k9' k10'
                  refine Flo.br1 (i := 3) (by kernel_rfl) rfl (fun K hK => ?_)
                  go_wp2_with fail
                  refine (caps_any p hgp _ B _ (Nat.le_trans hBa hI.size) (HP.out.below (hI.mono hBa))).mono ?_
                  rintro e v4 ⟨rfl, hb4⟩
                  go_wp2_with fail
                  have hI' : Below wa.heap.size wa v4 := hI.trans (hb4.mono hI.size)
                  have b8' := b8.below hb4 b8.lt
                  have k9' := k9.below hb4 k9.lt
                  have k10' := k10.below hb4 k10.lt
                  refine hK _ _ (fun _ => hI') ?_
                  clear hb4 hK
                  clear hI b8 k9 k10
                  have hI := hI'
                  have b8 := b8'
                  have k9 := k9'
                  have k10 := k10'
                  clear hI' b8' k9' k10'
                  have e9 := k9.cells
                  have f9 := k9.frozens
                  have e10 := k10.cells
                  have f10 := k10.frozens
                  refine Flo.br1 (i := 6) (by kernel_rfl) rfl (fun K hK => ?_)
                  go_wp2_with fail
                  refine hK _ _ (fun h => absurd h (by omega)) ?_
                  refine Flo.br1 (i := 7) (by kernel_rfl) rfl (fun K hK => ?_)
                  go_wp2_with fail
                  refine hK _ _ (fun h => absurd h (by omega)) ?_
                  refine Flo.brEnd (by kernel_rfl) ?_
                  refine hK0 _ _ ?_
                  go_meet
                  refine ⟨v0.heap.size, v2.heap.size, rfl, rfl, hne, (((k9.set_ 0 _).set_ 1 _).far (by simpa using hne) _).far (by simpa using hne) _ |>.cast (by simp), ((((k10.far (by simpa using hne.symm) _).far (by simpa using hne.symm) _).set_ 0 _).set_ 1 _).cast (by simp), (((b8.far (by simp; omega) _).far (by simp; omega) _).far (by simp; omega) _).far (by simp; omega) _, (((hI.setCell (by simp; omega) _).setCell (by simp; omega) _).setCell (by simp; omega) _).setCell (by simp; omega) _⟩
              · go_wp2_with fail
                have hI' : Below wa.heap.size wa (v1.alloc (.cells #[.int .i64 0, .int .i64 0] 55)) := hI.alloc hI.size _
                have b8' := b8.alloc (.cells #[.int .i64 0, .int .i64 0] 55)
                have k10' := Blk.new v1 55 #[.int .i64 0, .int .i64 0]
                have hg10 : wa.heap.size ≤ v1.heap.size := hI.size
                have k9' := k9.alloc (.cells #[.int .i64 0, .int .i64 0] 55)
                have hne : v0.heap.size ≠ v1.heap.size := by have := k9.lt; omega
                refine hK _ _ (fun _ => hI') ?_
                clear hK
                generalize v1.alloc (.cells #[.int .i64 0, .int .i64 0] 55) = v2 at *
                clear hI b8 k9
                have hI := hI'
                have b8 := b8'
                have k9 := k9'
                have k10 := k10'
                clear hI' b8' k9' k10'
                refine Flo.br1 (i := 1) (by kernel_rfl) rfl (fun K hK => ?_)
                go_wp2_with fail
                refine (Sum_any p hgp _ B _ (Nat.le_trans hBa hI.size) (HP.out.below (hI.mono hBa))).mono ?_
                rintro e v3 ⟨rfl, hb3⟩
                go_wp2_with fail
                have hI' : Below wa.heap.size wa v3 := hI.trans (hb3.mono hI.size)
                have b8' := b8.below hb3 b8.lt
                have k9' := k9.below hb3 k9.lt
                have k10' := k10.below hb3 k10.lt
                refine hK _ _ (fun _ => hI') ?_
                clear hb3 hK
                clear hI b8 k9 k10
                have hI := hI'
                have b8 := b8'
                have k9 := k9'
                have k10 := k10'
                clear hI' b8' k9' k10'
                refine Flo.br1 (i := 3) (by kernel_rfl) rfl (fun K hK => ?_)
                go_wp2_with fail
                refine (caps_any p hgp _ B _ (Nat.le_trans hBa hI.size) (HP.out.below (hI.mono hBa))).mono ?_
                rintro e v4 ⟨rfl, hb4⟩
                go_wp2_with fail
                have hI' : Below wa.heap.size wa v4 := hI.trans (hb4.mono hI.size)
                have b8' := b8.below hb4 b8.lt
                have k9' := k9.below hb4 k9.lt
                have k10' := k10.below hb4 k10.lt
                refine hK _ _ (fun _ => hI') ?_
                clear hb4 hK
                clear hI b8 k9 k10
                have hI := hI'
                have b8 := b8'
                have k9 := k9'
                have k10 := k10'
                clear hI' b8' k9' k10'
                have e9 := k9.cells
                have f9 := k9.frozens
                have e10 := k10.cells
                have f10 := k10.frozens
                refine Flo.br1 (i := 6) (by kernel_rfl) rfl (fun K hK => ?_)
                go_wp2_with fail
                refine hK _ _ (fun h => absurd h (by omega)) ?_
                refine Flo.br1 (i := 7) (by kernel_rfl) rfl (fun K hK => ?_)
                go_wp2_with fail
                refine hK _ _ (fun h => absurd h (by omega)) ?_
                refine Flo.brEnd (by kernel_rfl) ?_
                refine hK0 _ _ ?_
                go_meet
                refine ⟨v0.heap.size, v1.heap.size, rfl, rfl, hne, (((k9.set_ 0 _).set_ 1 _).far (by simpa using hne) _).far (by simpa using hne) _ |>.cast (by simp), ((((k10.far (by simpa using hne.symm) _).far (by simpa using hne.symm) _).set_ 0 _).set_ 1 _).cast (by simp), (((b8.far (by simp; omega) _).far (by simp; omega) _).far (by simp; omega) _).far (by simp; omega) _, (((hI.setCell (by simp; omega) _).setCell (by simp; omega) _).setCell (by simp; omega) _).setCell (by simp; omega) _⟩
            · go_wp2_with fail
              have hI' : Below wa.heap.size wa (v0.alloc (.cells #[.int .i64 0, .int .i64 0] 55)) := hI.alloc hI.size _
              have b8' := b8.alloc (.cells #[.int .i64 0, .int .i64 0] 55)
              have k10' := Blk.new v0 55 #[.int .i64 0, .int .i64 0]
              have hg10 : wa.heap.size ≤ v0.heap.size := hI.size
              refine hK _ _ (fun _ => hI') ?_
              clear hK
              generalize v0.alloc (.cells #[.int .i64 0, .int .i64 0] 55) = v1 at *
              clear hI b8
              have hI := hI'
              have b8 := b8'
              have k10 := k10'
              clear hI' b8' k10'
              refine Flo.br2 (i := 1) (j := 4) (by kernel_rfl) rfl rfl (fun K hK => ?_) (fun K hK => ?_)
              · go_wp2_with fail
                refine (Sum_any p hgp _ B _ (Nat.le_trans hBa hI.size) (HP.out.below (hI.mono hBa))).mono ?_
                rintro e v2 ⟨rfl, hb2⟩
                go_wp2_with fail
                have hI' : Below wa.heap.size wa v2 := hI.trans (hb2.mono hI.size)
                have b8' := b8.below hb2 b8.lt
                have k10' := k10.below hb2 k10.lt
                refine hK _ _ (fun _ => hI') ?_
                clear hb2 hK
                clear hI b8 k10
                have hI := hI'
                have b8 := b8'
                have k10 := k10'
                clear hI' b8' k10'
                refine Flo.br2 (i := 3) (j := 4) (by kernel_rfl) rfl rfl (fun K hK => ?_) (fun K hK => ?_)
                · go_wp2_with fail
                  refine (caps_any p hgp _ B _ (Nat.le_trans hBa hI.size) (HP.out.below (hI.mono hBa))).mono ?_
                  rintro e v3 ⟨rfl, hb3⟩
                  go_wp2_with fail
                  have hI' : Below wa.heap.size wa v3 := hI.trans (hb3.mono hI.size)
                  have b8' := b8.below hb3 b8.lt
                  have k10' := k10.below hb3 k10.lt
                  refine hK _ _ (fun _ => hI') ?_
                  clear hb3 hK
                  clear hI b8 k10
                  have hI := hI'
                  have b8 := b8'
                  have k10 := k10'
                  clear hI' b8' k10'
                  refine Flo.br1 (i := 4) (by kernel_rfl) rfl (fun K hK => ?_)
                  go_wp2_with fail
                  have hI' : Below wa.heap.size wa (v3.alloc (.cells #[.int .i64 0, .int .i64 0] 55)) := hI.alloc hI.size _
                  have b8' := b8.alloc (.cells #[.int .i64 0, .int .i64 0] 55)
                  have k9' := Blk.new v3 55 #[.int .i64 0, .int .i64 0]
                  have hg9 : wa.heap.size ≤ v3.heap.size := hI.size
                  have k10' := k10.alloc (.cells #[.int .i64 0, .int .i64 0] 55)
                  have hne : v3.heap.size ≠ v0.heap.size := by have := k10.lt; omega
                  refine hK _ _ (fun _ => hI') ?_
                  clear hK
                  generalize v3.alloc (.cells #[.int .i64 0, .int .i64 0] 55) = v4 at *
                  clear hI b8 k10
                  have hI := hI'
                  have b8 := b8'
                  have k9 := k9'
                  have k10 := k10'
                  clear hI' b8' k9' k10'
                  have e9 := k9.cells
                  have f9 := k9.frozens
                  have e10 := k10.cells
                  have f10 := k10.frozens
                  refine Flo.br1 (i := 6) (by kernel_rfl) rfl (fun K hK => ?_)
                  go_wp2_with fail
                  refine hK _ _ (fun h => absurd h (by omega)) ?_
                  refine Flo.br1 (i := 7) (by kernel_rfl) rfl (fun K hK => ?_)
                  go_wp2_with fail
                  refine hK _ _ (fun h => absurd h (by omega)) ?_
                  refine Flo.brEnd (by kernel_rfl) ?_
                  refine hK0 _ _ ?_
                  go_meet
                  refine ⟨v3.heap.size, v0.heap.size, rfl, rfl, hne, (((k9.set_ 0 _).set_ 1 _).far (by simpa using hne) _).far (by simpa using hne) _ |>.cast (by simp), ((((k10.far (by simpa using hne.symm) _).far (by simpa using hne.symm) _).set_ 0 _).set_ 1 _).cast (by simp), (((b8.far (by simp; omega) _).far (by simp; omega) _).far (by simp; omega) _).far (by simp; omega) _, (((hI.setCell (by simp; omega) _).setCell (by simp; omega) _).setCell (by simp; omega) _).setCell (by simp; omega) _⟩
                · go_wp2_with fail
                  have hI' : Below wa.heap.size wa (v2.alloc (.cells #[.int .i64 0, .int .i64 0] 55)) := hI.alloc hI.size _
                  have b8' := b8.alloc (.cells #[.int .i64 0, .int .i64 0] 55)
                  have k9' := Blk.new v2 55 #[.int .i64 0, .int .i64 0]
                  have hg9 : wa.heap.size ≤ v2.heap.size := hI.size
                  have k10' := k10.alloc (.cells #[.int .i64 0, .int .i64 0] 55)
                  have hne : v2.heap.size ≠ v0.heap.size := by have := k10.lt; omega
                  refine hK _ _ (fun _ => hI') ?_
                  clear hK
                  generalize v2.alloc (.cells #[.int .i64 0, .int .i64 0] 55) = v3 at *
                  clear hI b8 k10
                  have hI := hI'
                  have b8 := b8'
                  have k9 := k9'
                  have k10 := k10'
                  clear hI' b8' k9' k10'
                  refine Flo.br1 (i := 3) (by kernel_rfl) rfl (fun K hK => ?_)
                  go_wp2_with fail
                  refine (caps_any p hgp _ B _ (Nat.le_trans hBa hI.size) (HP.out.below (hI.mono hBa))).mono ?_
                  rintro e v4 ⟨rfl, hb4⟩
                  go_wp2_with fail
                  have hI' : Below wa.heap.size wa v4 := hI.trans (hb4.mono hI.size)
                  have b8' := b8.below hb4 b8.lt
                  have k9' := k9.below hb4 k9.lt
                  have k10' := k10.below hb4 k10.lt
                  refine hK _ _ (fun _ => hI') ?_
                  clear hb4 hK
                  clear hI b8 k9 k10
                  have hI := hI'
                  have b8 := b8'
                  have k9 := k9'
                  have k10 := k10'
                  clear hI' b8' k9' k10'
                  have e9 := k9.cells
                  have f9 := k9.frozens
                  have e10 := k10.cells
                  have f10 := k10.frozens
                  refine Flo.br1 (i := 6) (by kernel_rfl) rfl (fun K hK => ?_)
                  go_wp2_with fail
                  refine hK _ _ (fun h => absurd h (by omega)) ?_
                  refine Flo.br1 (i := 7) (by kernel_rfl) rfl (fun K hK => ?_)
                  go_wp2_with fail
                  refine hK _ _ (fun h => absurd h (by omega)) ?_
                  refine Flo.brEnd (by kernel_rfl) ?_
                  refine hK0 _ _ ?_
                  go_meet
                  refine ⟨v2.heap.size, v0.heap.size, rfl, rfl, hne, (((k9.set_ 0 _).set_ 1 _).far (by simpa using hne) _).far (by simpa using hne) _ |>.cast (by simp), ((((k10.far (by simpa using hne.symm) _).far (by simpa using hne.symm) _).set_ 0 _).set_ 1 _).cast (by simp), (((b8.far (by simp; omega) _).far (by simp; omega) _).far (by simp; omega) _).far (by simp; omega) _, (((hI.setCell (by simp; omega) _).setCell (by simp; omega) _).setCell (by simp; omega) _).setCell (by simp; omega) _⟩
              · go_wp2_with fail
                have hI' : Below wa.heap.size wa (v1.alloc (.cells #[.int .i64 0, .int .i64 0] 55)) := hI.alloc hI.size _
                have b8' := b8.alloc (.cells #[.int .i64 0, .int .i64 0] 55)
                have k9' := Blk.new v1 55 #[.int .i64 0, .int .i64 0]
                have hg9 : wa.heap.size ≤ v1.heap.size := hI.size
                have k10' := k10.alloc (.cells #[.int .i64 0, .int .i64 0] 55)
                have hne : v1.heap.size ≠ v0.heap.size := by have := k10.lt; omega
                refine hK _ _ (fun _ => hI') ?_
                clear hK
                generalize v1.alloc (.cells #[.int .i64 0, .int .i64 0] 55) = v2 at *
                clear hI b8 k10
                have hI := hI'
                have b8 := b8'
                have k9 := k9'
                have k10 := k10'
                clear hI' b8' k9' k10'
                refine Flo.br1 (i := 1) (by kernel_rfl) rfl (fun K hK => ?_)
                go_wp2_with fail
                refine (Sum_any p hgp _ B _ (Nat.le_trans hBa hI.size) (HP.out.below (hI.mono hBa))).mono ?_
                rintro e v3 ⟨rfl, hb3⟩
                go_wp2_with fail
                have hI' : Below wa.heap.size wa v3 := hI.trans (hb3.mono hI.size)
                have b8' := b8.below hb3 b8.lt
                have k9' := k9.below hb3 k9.lt
                have k10' := k10.below hb3 k10.lt
                refine hK _ _ (fun _ => hI') ?_
                clear hb3 hK
                clear hI b8 k9 k10
                have hI := hI'
                have b8 := b8'
                have k9 := k9'
                have k10 := k10'
                clear hI' b8' k9' k10'
                refine Flo.br1 (i := 3) (by kernel_rfl) rfl (fun K hK => ?_)
                go_wp2_with fail
                refine (caps_any p hgp _ B _ (Nat.le_trans hBa hI.size) (HP.out.below (hI.mono hBa))).mono ?_
                rintro e v4 ⟨rfl, hb4⟩
                go_wp2_with fail
                have hI' : Below wa.heap.size wa v4 := hI.trans (hb4.mono hI.size)
                have b8' := b8.below hb4 b8.lt
                have k9' := k9.below hb4 k9.lt
                have k10' := k10.below hb4 k10.lt
                refine hK _ _ (fun _ => hI') ?_
                clear hb4 hK
                clear hI b8 k9 k10
                have hI := hI'
                have b8 := b8'
                have k9 := k9'
                have k10 := k10'
                clear hI' b8' k9' k10'
                have e9 := k9.cells
                have f9 := k9.frozens
                have e10 := k10.cells
                have f10 := k10.frozens
                refine Flo.br1 (i := 6) (by kernel_rfl) rfl (fun K hK => ?_)
                go_wp2_with fail
                refine hK _ _ (fun h => absurd h (by omega)) ?_
                refine Flo.br1 (i := 7) (by kernel_rfl) rfl (fun K hK => ?_)
                go_wp2_with fail
                refine hK _ _ (fun h => absurd h (by omega)) ?_
                refine Flo.brEnd (by kernel_rfl) ?_
                refine hK0 _ _ ?_
                go_meet
                refine ⟨v1.heap.size, v0.heap.size, rfl, rfl, hne, (((k9.set_ 0 _).set_ 1 _).far (by simpa using hne) _).far (by simpa using hne) _ |>.cast (by simp), ((((k10.far (by simpa using hne.symm) _).far (by simpa using hne.symm) _).set_ 0 _).set_ 1 _).cast (by simp), (((b8.far (by simp; omega) _).far (by simp; omega) _).far (by simp; omega) _).far (by simp; omega) _, (((hI.setCell (by simp; omega) _).setCell (by simp; omega) _).setCell (by simp; omega) _).setCell (by simp; omega) _⟩
          case rest =>
            obtain ⟨g9, g10, rfl, rfl, hne, k9, k10, b8x, hbx⟩ := hcut
            have hown3 := own_below hown2 hbx
            have hba3 := hba.trans (hbx.mono hba.size)
            have HPX := Lib.hid (HP.out.below (hbx.mono hBa))
            have hBx : B ≤ wc.heap.size := Nat.le_trans hB hba3.size
            clear b8 hown2 hbx hba
            go_upto_region 13 with fail
            have e8 := b8x.cells
            have e9 := k9.cells
            have e10 := k10.cells
            have z8 := b8x.lt
            have z9 := k9.lt
            have z10 := k10.lt
            have hpz := Lib.hid (podK_zero p)
            have hpG := Lib.hid (show podG p = ⟨pathP p, shares (askedM p), quota (capF Cont.capM p.conts), capF Cont.capB p.conts⟩ by unfold podG; rfl)
            have hI : Below wc.heap.size wc wc.drew := (Below.refl _ _).drew
            refine Flo.region 13 [(0, true), (1, true), (3, true), (4, true), (6, true), (7, true), (9, true), (10, true), (2, false), (5, false), (8, false), (11, true), (12, false)] (fun v => Below wc.heap.size wc v) (by kernel_rfl) (by kernel_rfl) rfl hI ?_
            simp only [List.drop_succ_cons, List.drop_zero]
            iterate 8 (apply Flo.op rfl (hI := hI); (· intro v hv K hK; obtain ⟨hc, hf⟩ := Flo.bcl hv; go_wp2_with fail; all_goals first | exact Flo.noUndef (by with_reducible assumption) | exact hK); (· rfl))
            refine Flo.seq rfl fun K hK => ?_
            go_wp2_with fail
            refine (path_any p hgp _ B _ (Nat.le_trans hBx hI.size) (HPX.out.below (hI.mono hBx))).mono ?_
            rintro e y1 ⟨rfl, hb1⟩
            go_wp2_with fail
            have hJ : Below wc.heap.size wc y1 := hI.trans (hb1.mono hI.size)
            refine hK _ _ hJ ?_
            clear hb1 hK
            refine Flo.seq rfl fun K hK => ?_
            go_wp2_with fail
            refine (Shares_any (askedM p) (by omega) (by omega) _).mono ?_
            rintro e yq ⟨rfl, rfl⟩
            go_wp2_with fail
            refine hK _ _ hJ ?_
            clear hK
            refine Flo.seq rfl fun K hK => ?_
            go_wp2_with fail
            refine (Quota_any (capF Cont.capM p.conts) (by omega) (by omega) _).mono ?_
            rintro e yq ⟨rfl, rfl⟩
            go_wp2_with fail
            refine hK _ _ hJ ?_
            clear hK
            iterate 1 (apply Flo.op rfl (hI := hJ); (· intro v hv K hK; obtain ⟨hc, hf⟩ := Flo.bcl hv; go_wp2_with fail; all_goals first | exact Flo.noUndef (by with_reducible assumption) | exact hK); (· rfl))
            refine Flo.seq rfl fun K hK => ?_
            go_wp2_with fail
            refine hK _ _ (hJ.alloc hJ.size _) ?_
            clear hK
            refine Flo.tail fun K hK => ?_
            have hown4 := own_below hown3 hJ
            have b8y := b8x.below hJ z8
            have hba4 := hba3.trans (hJ.mono hba3.size)
            clear hown3 b8x hI hJ e8 e9 e10 z8 z9 z10 k9 k10 hba3 HP
            have hn8 : some pk ≠ hv.ownBlock := fun he => own_blk_ne hown4 b8y (by decide) he.symm
            go_upto_region 15 with (at_builtin; refine wpList_app _ groupT rfl (.tmp 43) (.tmp 55) rfl w.heap.size hv _ _ rfl (by exact hown4.alloc _) ⟨y1.heap.size, 0, none⟩ 1 1 [.string (pathP p), .int .i64 (shares (askedM p)), .int .i64 (quota (capF Cont.capM p.conts)), .int .i64 (capF Cont.capB p.conts)] rfl rfl (news_new y1 _ _) (by simp [Value.oneCell']) (by omega) (by unfold maxLen; omega) (by omega) (by have := hba4.size; simp; omega) ?_; intro g cap4 w5 hown5 hg5 hat5 hlt5; have b8z := Blk.grown (b8y.alloc _) hg5 hn8; have e8 := b8z.cells)
            have hba5 : Below w.heap.size w w5 := (hba4.alloc hba4.size _).grown hg5 (Nat.le_trans hba4.size (by simp)) fun k hk => (hown4.lt k hk).1
            have hown6 : w5.ownsRow w.heap.size 69 4 (.slice (some ⟨g, 0, none⟩) ((grK l k).length + 1) cap4) (grK l k ++ podK p 0).length (flatG (grK l k ++ podK p 0)) := by
              rw [hpz.out, flatG_snoc, hpG.out, List.length_append]
              exact hown5
            clear hown4 hown5 hg5 hat5 b8y hba4 hn8 hpz hpG e8 HPX
            have hPL := Lib.hid (podK_len p)
            have hPN := Lib.hid (podK_next p)
            have HGC := Lib.hid hgp.all
            go_loopw [6, 60] (fun s i wi => ∃ (j : Nat) (hv : Value), i = .int .i64 j ∧ j ≤ p.conts.length ∧ hv = s ∧ wi.ownsRow w.heap.size 69 4 hv (grK l k ++ podK p j).length (flatG (grK l k ++ podK p j)) ∧ Blk wi pk 53 #[.string p.name, .int .i64 p.prio, .slice A2 p.conts.length c2] ∧ Below w.heap.size w wi) (fun s i _ => p.conts.length - (intOf i).toNat)
            case atStart => exact ⟨0, _, rfl, by omega, rfl, hown6, b8z, hba5⟩
            case round =>
              clear hown6 b8z hba5
              obtain ⟨j, hv, rfl, hj, hs, hown, b8, hbel⟩ := hrel
              subst hs
              have hlj := hPL.out j hj
              by_cases hjl : j < p.conts.length
              · obtain ⟨b2, off2, rfl, hb2⟩ := HCA.out j hjl
                obtain ⟨A3, c3, hd1, hd2, hks, _, r0, r1, r2, r3, r4, r5⟩ := cont_in (podC HP0.out) (hbel.mono hB) hjl
                obtain ⟨hcn, g1, g2, g3, g4⟩ := HGC.out j hjl
                have hPJ := Lib.hid (hPN.out j hjl)
                unfold maxLen at hks hd2
                generalize p.conts[j] = c at *
                have hcG := Lib.hid (show contG p c = ⟨(pathP p ++ ⟨#[47]⟩) ++ c.name, shares c.askM, quota c.capM, c.capB⟩ by unfold contG; rfl)
                have hle : (grK l k ++ podK p j).length ≤ 100 := by rw [List.length_append]; omega
                go_upto_region 17 with fail
                have hba : Below w.heap.size w (wr.alloc (.cells #[.string c.name, .int .i64 c.askM, .int .i64 c.askB, .int .i64 c.capM, .int .i64 c.capB, .slice A3 c.devs.length c3] 58)) := hbel.alloc hbel.size _
                have hown2 := hown.alloc (.cells #[.string c.name, .int .i64 c.askM, .int .i64 c.askB, .int .i64 c.capM, .int .i64 c.capB, .slice A3 c.devs.length c3] 58)
                have b8a := b8.alloc (.cells #[.string c.name, .int .i64 c.askM, .int .i64 c.askB, .int .i64 c.capM, .int .i64 c.capB, .slice A3 c.devs.length c3] 58)
                have b12 := Blk.new wr 58 #[.string c.name, .int .i64 c.askM, .int .i64 c.askB, .int .i64 c.capM, .int .i64 c.capB, .slice A3 c.devs.length c3]
                clear r0 r1 r2 r3 r4 r5 hbel hown b8
                generalize wr.alloc (.cells #[.string c.name, .int .i64 c.askM, .int .i64 c.askB, .int .i64 c.capM, .int .i64 c.capB, .slice A3 c.devs.length c3] 58) = wc at *
                generalize wr.heap.size = pc at *
                have hBx : B ≤ wc.heap.size := Nat.le_trans hB hba.size
                have HPX := Lib.hid (HP0.out.below (hba.mono hB))
                have e8 := b8a.cells
                have e12 := b12.cells
                have z8 := b8a.lt
                have z12 := b12.lt
                have hI : Below wc.heap.size wc wc.drew := (Below.refl _ _).drew
                refine Flo.region 20 [(0, true), (1, true), (4, true), (5, true), (7, true), (8, true), (9, true), (11, true), (12, true), (13, true), (15, true), (16, true), (17, true), (2, false), (3, true), (6, true), (10, false), (14, false), (18, true), (19, false)] (fun v => Below wc.heap.size wc v) (by kernel_rfl) (by kernel_rfl) rfl hI ?_
                simp only [List.drop_succ_cons, List.drop_zero]
                iterate 13 (apply Flo.op rfl (hI := hI); (· intro v hv K hK; obtain ⟨hc, hf⟩ := Flo.bcl hv; go_wp2_with fail; all_goals first | exact Flo.noUndef (by with_reducible assumption) | exact hK); (· rfl))
                refine Flo.seq rfl fun K hK => ?_
                go_wp2_with fail
                refine (path_any p hgp _ B _ (Nat.le_trans hBx hI.size) (HPX.out.below (hI.mono hBx))).mono ?_
                rintro e y1 ⟨rfl, hb1⟩
                go_wp2_with fail
                have hJ : Below wc.heap.size wc y1 := hI.trans (hb1.mono hI.size)
                refine hK _ _ hJ ?_
                clear hb1 hK
                iterate 2 (apply Flo.op rfl (hI := hJ); (· intro v hv K hK; obtain ⟨hc, hf⟩ := Flo.bcl hv; go_wp2_with fail; all_goals first | exact Flo.noUndef (by with_reducible assumption) | exact hK); (· rfl))
                refine Flo.seq rfl fun K hK => ?_
                go_wp2_with fail
                refine (Shares_any c.askM (by omega) (by omega) _).mono ?_
                rintro e yq ⟨rfl, rfl⟩
                go_wp2_with fail
                refine hK _ _ hJ ?_
                clear hK
                refine Flo.seq rfl fun K hK => ?_
                go_wp2_with fail
                refine (Quota_any c.capM (by omega) (by omega) _).mono ?_
                rintro e yq ⟨rfl, rfl⟩
                go_wp2_with fail
                refine hK _ _ hJ ?_
                clear hK
                iterate 1 (apply Flo.op rfl (hI := hJ); (· intro v hv K hK; obtain ⟨hc, hf⟩ := Flo.bcl hv; go_wp2_with fail; all_goals first | exact Flo.noUndef (by with_reducible assumption) | exact hK); (· rfl))
                refine Flo.seq rfl fun K hK => ?_
                go_wp2_with fail
                refine hK _ _ (hJ.alloc hJ.size _) ?_
                clear hK
                refine Flo.tail fun K hK => ?_
                have hown4 := own_below hown2 hJ
                have b8y := b8a.below hJ z8
                have hba4 := hba.trans (hJ.mono hba.size)
                clear hown2 b8a hI hJ e8 e12 z8 z12 b12 hba HPX
                have hn8 : some pk ≠ hv.ownBlock := fun he => own_blk_ne hown4 b8y (by decide) he.symm
                generalize hn4' : (grK l k ++ podK p j).length = n4 at *
                have hn4 := Lib.hid hn4'
                clear hn4'
                go_wp2_with (at_builtin; refine wpList_app _ groupT rfl (.tmp 64) (.tmp 83) rfl w.heap.size hv _ _ rfl (by exact hown4.alloc _) ⟨y1.heap.size, 0, none⟩ 1 1 [.string ((pathP p ++ ⟨#[47]⟩) ++ c.name), .int .i64 (shares c.askM), .int .i64 (quota c.capM), .int .i64 c.capB] rfl rfl (news_new y1 _ _) (by simp [Value.oneCell']) (by omega) (by unfold maxLen; omega) (by omega) (by have := hba4.size; simp; omega) ?_; intro g cap4 w5 hown5 hg5 hat5 hlt5; have b8z := Blk.grown (b8y.alloc _) hg5 hn8; have e8 := b8z.cells)
                have hba5 : Below w.heap.size w w5 := (hba4.alloc hba4.size _).grown hg5 (Nat.le_trans hba4.size (by simp)) fun k hk => (hown4.lt k hk).1
                go_roundw
                case rel => exact ⟨j + 1, _, by go_num, by omega, rfl, by rw [hPJ.out, ← List.append_assoc, flatG_snoc, hcG.out, List.length_append, hn4.out]; exact hown5, b8z, hba5⟩
                case measure => simp [intOf]; omega
              · obtain rfl : j = p.conts.length := by omega
                go_wp2_with fail
                go_roundw
                case rel => exact ⟨k + 1, hv, by go_num, by omega, rfl, by rw [hGN.out]; exact hown, hbel⟩
                case measure => simp [intOf]; omega

        · obtain rfl : k = l.length := by omega
          go_wp2_with fail
          go_ret
          exact ⟨_, rfl, by unfold grs; exact hown, hbel⟩
end
end Go.Proofs.Yticmfflnenoplab
