/- Devices: the reference's Count: its walk. No statement is proved here. -/
import Derived.Test.YticmfflnenoplaaDvD
namespace Go.Proofs.Yticmfflnenoplaa
open Go.RowKit Dv Mk
section
attribute [local irreducible] all_ free_ hit bump
set_option maxRecDepth 100000 in
set_option maxHeartbeats 4000000 in
theorem RCount_any (base bp : Nat) (vl : Value) (l : List Dev) (u : List Bool) (k : ByteArray) (w : World) (h : RIs w base bp vl l u) : Calls Try.prog 103 #[.pointer (some ⟨bp, 0, none⟩), .string k] w (CountP (cFree k l u) (cAll k l) w) := by
  have hc := h.c0
  have hbl := h.blk.lt
  obtain ⟨A, c, rfl, q1, q2⟩ := h.rl.form
  have hn := h.rl.many
  have HU := Lib.hid h.len
  have HIS := Lib.hid h
  have HZ := Lib.hid (all_zero k l)
  have HZ2 := Lib.hid (free_zero k l u)
  unfold maxLen at q2
  clear h
  go_enter Try.func103, Try.ntmps103
  go_wp2_with fail
  clear hc
  go_loopw [8] (fun i wi => ∃ m : Nat, i = .int .i64 m ∧ m ≤ l.length ∧ Below w.heap.size w wi ∧ Hid (Blk wi (w.heap.size + 2) 75 (A4.arr (free_ k l u m))) ∧ Hid (Blk wi (w.heap.size + 3) 75 (A4.arr (all_ k l m))) ∧ Hid (Blk wi w.heap.size 75 (A4.arr ⟨0, 0, 0, 0⟩)) ∧ Hid (Blk wi (w.heap.size + 1) 75 (A4.arr ⟨0, 0, 0, 0⟩))) (fun i _ => l.length - (intOf i).toNat)
  case atStart =>
    refine ⟨0, rfl, by omega, ((((Below.refl _ _).alloc (Nat.le_refl _) _).alloc (by simp) _).alloc (by simp; omega) _).alloc (by simp; omega) _, Lib.hid ?_, Lib.hid ?_, Lib.hid ?_, Lib.hid ?_⟩
    · rw [HZ2.out]
      have := (Blk.new1 (w.alloc (.cells (A4.arr ⟨0, 0, 0, 0⟩) 75)) (.cells (A4.arr ⟨0, 0, 0, 0⟩) 75) 75 (A4.arr ⟨0, 0, 0, 0⟩)).alloc (.cells (A4.arr ⟨0, 0, 0, 0⟩) 75)
      simp only [World.size_alloc] at this
      exact this
    · rw [HZ.out]
      have := Blk.new1 ((w.alloc (.cells (A4.arr ⟨0, 0, 0, 0⟩) 75)).alloc (.cells (A4.arr ⟨0, 0, 0, 0⟩) 75)) (.cells (A4.arr ⟨0, 0, 0, 0⟩) 75) 75 (A4.arr ⟨0, 0, 0, 0⟩)
      simp only [World.size_alloc] at this
      exact this
    · exact (((Blk.new w _ _).alloc _).alloc _).alloc _
    · exact ((Blk.new1 w _ _ _).alloc _).alloc _
  case round =>
    obtain ⟨m, rfl, hm, hb, HF, HA, HR0, HR1⟩ := hrel
    have his := HIS.out.below hb
    by_cases hlt : m < l.length
    · obtain ⟨g, rfl, hg, c0, c1, c2'⟩ := his.rl.cell hlt
      have hfin := his.rl.fine l[m] (List.getElem_mem hlt)
      obtain ⟨n, hn0⟩ : ∃ n : Nat, l[m].node = (n : Int) := ⟨l[m].node.toNat, by have := hfin.2.1; omega⟩
      have hn4 : n < 4 := by have := hfin.2.2; omega
      have cu := his.used hlt
      have hp0 := his.c0
      have hg' : g < w.heap.size := (HIS.out.rl.row.lt g rfl).2
      have hb1 := HF.out.lt
      have hb2 := HA.out.lt
      have hxa := (all_in k l m (by omega)).get n
      have hxf := (free_in k l u HU.out m (by omega)).get n
      have ca := (HA.out.cells n).trans (arr_get _ n hn4)
      have cf := (HF.out.cells n).trans (arr_get _ n hn4)
      have za := HA.out.frozens
      have zf := HF.out.frozens
      have hbp := his.blk.lt
      have BA := Lib.hid (bump_arr (all_ k l m) n hn4)
      have BF := Lib.hid (bump_arr (free_ k l u m) n hn4)
      have hnt : l[m].node.toNat = n := by omega
      have HA1 := Lib.hid (all_hit k l m hlt)
      have HA0 := Lib.hid (all_miss k l m hlt)
      have HF1 := Lib.hid (free_hit k l u HU.out m hlt)
      have HF0 := Lib.hid (free_miss k l u HU.out m hlt)
      rw [hnt] at HA1 HF1
      generalize (all_ k l m).get n = xa at *
      generalize (free_ k l u m).get n = xf at *
      generalize u[m]'(by have := HU.out; omega) = b at *
      generalize l[m] = d at *
      obtain ⟨dk, dn, ds⟩ := d
      dsimp only at *
      subst hn0
      clear hnt hfin his
      have hbn := hb.alloc hb.size (.cells #[.string dk, .int .i64 n, .bool ds] 131)
      cases h1 : (dk.toList == k.toList)
      · have e1 := Lib.hid (HA0.out (hit_kind h1))
        have e2 := Lib.hid (HF0.out (.inl (hit_kind h1)))
        clear HA1 HA0 HF1 HF0
        go_wp2_with fail
        go_roundw
        case rel => exact ⟨m + 1, by go_num, by omega, hbn, Lib.hid (by rw [e2.out]; exact HF.out.alloc _), Lib.hid (by rw [e1.out]; exact HA.out.alloc _), Lib.hid (HR0.out.alloc _), Lib.hid (HR1.out.alloc _)⟩
        case measure => simp [intOf]; omega
      · cases ds
        · have e1 := Lib.hid (HA1.out (hit_yes h1 rfl))
          cases b
          · have e2 := Lib.hid (HF1.out (hit_yes h1 rfl) rfl)
            clear HA1 HA0 HF1 HF0
            go_wp2_with fail
            go_roundw
            case rel =>
              have q1 := hb.setCell (p := ⟨w.heap.size + 3, n, none⟩) (by simp) (.int .i64 (xa + 1))
              have q2 := q1.setCell (p := ⟨w.heap.size + 2, n, none⟩) (by simp) (.int .i64 (xf + 1))
              refine ⟨m + 1, by go_num, by omega, q2.alloc q2.size _, Lib.hid ?_, Lib.hid ?_, Lib.hid ?_, Lib.hid ?_⟩
              · rw [e2.out, ← BF.out]
                exact ((HF.out.far (p := ⟨w.heap.size + 3, n, none⟩) (by simp) _).set_ n _).alloc _
              · rw [e1.out, ← BA.out]
                exact ((HA.out.set_ n _).far (p := ⟨w.heap.size + 2, n, none⟩) (by simp) _).alloc _
              · exact ((HR0.out.far (p := ⟨w.heap.size + 3, n, none⟩) (by simp) _).far (p := ⟨w.heap.size + 2, n, none⟩) (by simp) _).alloc _
              · exact ((HR1.out.far (p := ⟨w.heap.size + 3, n, none⟩) (by simp) _).far (p := ⟨w.heap.size + 2, n, none⟩) (by simp) _).alloc _
            case measure => simp [intOf]; omega
          · have e2 := Lib.hid (HF0.out (.inr rfl))
            clear HA1 HA0 HF1 HF0
            go_wp2_with fail
            go_roundw
            case rel =>
              have q1 := hb.setCell (p := ⟨w.heap.size + 3, n, none⟩) (by simp) (.int .i64 (xa + 1))
              refine ⟨m + 1, by go_num, by omega, q1.alloc q1.size _, Lib.hid ?_, Lib.hid ?_, Lib.hid ?_, Lib.hid ?_⟩
              · rw [e2.out]
                exact (HF.out.far (p := ⟨w.heap.size + 3, n, none⟩) (by simp) _).alloc _
              · rw [e1.out, ← BA.out]
                exact (HA.out.set_ n _).alloc _
              · exact (HR0.out.far (p := ⟨w.heap.size + 3, n, none⟩) (by simp) _).alloc _
              · exact (HR1.out.far (p := ⟨w.heap.size + 3, n, none⟩) (by simp) _).alloc _
            case measure => simp [intOf]; omega
        · have e1 := Lib.hid (HA0.out (hit_sick rfl))
          have e2 := Lib.hid (HF0.out (.inl (hit_sick rfl)))
          clear HA1 HA0 HF1 HF0
          go_wp2_with fail
          go_roundw
          case rel => exact ⟨m + 1, by go_num, by omega, hbn, Lib.hid (by rw [e2.out]; exact HF.out.alloc _), Lib.hid (by rw [e1.out]; exact HA.out.alloc _), Lib.hid (HR0.out.alloc _), Lib.hid (HR1.out.alloc _)⟩
          case measure => simp [intOf]; omega
    · obtain rfl : m = l.length := by omega
      have e1 := Lib.hid (all_full k l)
      have e2 := Lib.hid (free_full k l u HU.out)
      rw [e1.out] at HA
      rw [e2.out] at HF
      have ca := HA.out.cells
      have cf := HF.out.cells
      have za := HA.out.frozens
      have zf := HF.out.frozens
      clear e1 e2 HIS
      obtain ⟨⟨a0, a1, a2, a3⟩, hca⟩ : ∃ a, cAll k l = a := ⟨_, rfl⟩
      obtain ⟨⟨f0, f1, f2, f3⟩, hcf⟩ : ∃ a, cFree k l u = a := ⟨_, rfl⟩
      rw [hca] at ca HA
      rw [hcf] at cf HF
      have HB := Lib.hid hb
      have hz := HA.out.lt
      have z0 := HR0.out.frozens
      have z1 := HR1.out.frozens
      have d0 := HR0.out.cells
      have d1 := HR1.out.cells
      have hp0 := his.c0
      clear hb
      have HCA := Lib.hid hca
      have HCF := Lib.hid hcf
      clear hca hcf his
      unfold A4.arr at ca cf d0 d1
      dsimp only at ca cf d0 d1
      go_wp2_with fail
      go_region_with (fail)
      all_goals
        go_wp2_with fail
        have kF := ((((four_set HR0.out f0 f1 f2 f3).far (p := ⟨w.heap.size + 1, 0, none⟩) (by simp) (.int .i64 a0)).far (p := ⟨w.heap.size + 1, 1, none⟩) (by simp) (.int .i64 a1)).far (p := ⟨w.heap.size + 1, 2, none⟩) (by simp) (.int .i64 a2)).far (p := ⟨w.heap.size + 1, 3, none⟩) (by simp) (.int .i64 a3)
        have kA := four_set ((((HR1.out.far (p := ⟨w.heap.size, 0, none⟩) (by simp) (.int .i64 f0)).far (p := ⟨w.heap.size, 1, none⟩) (by simp) (.int .i64 f1)).far (p := ⟨w.heap.size, 2, none⟩) (by simp) (.int .i64 f2)).far (p := ⟨w.heap.size, 3, none⟩) (by simp) (.int .i64 f3)) a0 a1 a2 a3
        have eF := kF.drew.cells
        have eA := kA.drew.cells
        refine bodyPost_ret (v := .tuple #[.agg #[.int .i64 f0, .int .i64 f1, .int .i64 f2, .int .i64 f3], .agg #[.int .i64 a0, .int .i64 a1, .int .i64 a2, .int .i64 a3]]) (by simp [results, Try.results103, go_sem, eF, eA, A4.arr]) rfl ⟨by rw [HCF.out, HCA.out]; rfl, ?_⟩
        refine Below.drew ?_
        iterate 4 (refine Below.setCell ?_ (by simp) _)
        iterate 4 (refine Below.setCell ?_ (by simp) _)
        exact HB.out
end
end Go.Proofs.Yticmfflnenoplaa
