/- The engine: Stop, List, New: their walks. No statement is proved here. -/
import Derived.Test.YticmfflnenoplaaEnC
namespace Go.Proofs.Yticmfflnenoplaa
open Go.RowKit Dk
set_option maxRecDepth 100000 in
set_option maxHeartbeats 2000000 in
theorem Stop_any (base be bd : Nat) (wv v : Value) (s : St) (l : List En.Run) (p c : ByteArray) (w : World) (hd : Dk.Is 160 165 w bd wv s) (hfu : -1 ≤ s.fuse) (hfu2 : s.fuse ≤ 9223372036854775807) (h : En.Is w base be bd v l) :
    Calls Try.prog 78 #[.pointer (some ⟨be, 0, none⟩), .string p, .string c] w (EnP base be bd wv v (En.stopP s (l.map En.Run.pr) p c) w) := by
  have HST := Lib.hid (DkP.step_any s bd wv _ hfu hfu2 hd)
  have HD0 := Lib.hid hd
  have e0 := h.blk.cells
  clear hd
  go_enter Try.func78, Try.ntmps78
  go_wp2_with fail
  refine HST.out.mono ?_
  rintro e w1 ⟨rfl, wv1, hd1, ho1, hk1⟩
  have h1 := h.step HD0.out hk1
  have HD1 := Lib.hid hd1
  have HK1 := Lib.hid hk1
  have HO1 := Lib.hid ho1
  rw [V_err]
  clear hd1 hk1 ho1 HD0 HST e0 h
  cases hdd : dead s
  · have HS1 := Lib.hid (stepS_ok hdd)
    rw [HS1.out] at HD1 ⊢
    have HDD := Lib.hid hdd
    clear hdd
    dsimp only at HD1 ⊢
    rw [errV_0]
    have HAT := Lib.hid (at_any base be bd v l p c w1 h1)
    have HAL := Lib.hid (En.atK_le p c l)
    have HPR := Lib.hid (En.atK_pr p c l)
    go_wp2_with fail
    refine HAT.out.mono ?_
    rintro e w2 ⟨rfl, hb2⟩
    have h2 := h1.below hb2
    have hd2 := HD1.out.kept (S := fun _ => False) (Kept.of_below hb2) (fun h => h) (fun _ _ h => h)
    have hk2 : Kept (Fp bd wv) w w2 := HK1.out.thenB hb2
    have HD2 := Lib.hid hd2
    have HK2 := Lib.hid hk2
    have HE2 := Lib.hid h2
    have hw2 : w.heap.size ≤ w2.heap.size := hk2.size
    clear hd2 hk2 h1 hb2 HAT HD1 HK1 HS1
    obtain ⟨hi1, hi2⟩ := HAL.out
    obtain ⟨⟨i, is⟩, hi⟩ : ∃ x, En.atK p c l = x := ⟨_, rfl⟩
    rw [hi] at HPR hi1 hi2 ⊢
    have HPR2 := Lib.hid HPR.out.symm
    clear hi HAL HPR
    dsimp only at hi1 hi2
    cases is
    · clear h2
      go_wp2_with fail
      go_ret
      exact EnP.same (f := 6) HD2.out HO1.out HE2.out HK2.out (by rw [En.stopP_none HDD.out (by rw [HPR2.out])]) (by rw [errV_pos 6 (by omega)]; rfl)
    · have hil := hi2 rfl
      obtain ⟨m, hm⟩ : ∃ m, l.length = i + 1 + m := ⟨l.length - (i + 1), by omega⟩
      have hsp : En.stopP s (l.map En.Run.pr) p c = (0, stepOk s, (l.map En.Run.pr).take i ++ (l.map En.Run.pr).drop (i + 1)) := by
        rw [En.stopP_is HDD.out (by rw [HPR2.out]), HPR2.out]
      have HSP := Lib.hid hsp
      have hlen := h2.len
      have hrow := h2.row
      rw [hm] at hrow
      have HDE := Lib.hid (Delete_own base i m v (En.flatR l) w2 hrow (En.flatR_one l) (by omega))
      have HM := Lib.hid hm
      have kb := h2.blk
      have c2 := kb.cells
      have z2 := kb.frozens
      clear hsp hi2 hm hrow h2
      go_wp2_with fail
      refine HDE.out.mono ?_
      rintro e w5 ⟨g, cap, rfl, hown5, hgr, hat, hlt5⟩
      have kb5 := kb.grown hgr (Ne.symm (own_blk_ne HE2.out.row kb (by decide)))
      have e5 := kb5.cells
      have z5 := kb5.frozens
      have HG := Lib.hid hgr
      have HO5 := Lib.hid hown5
      have HKB := Lib.hid kb5
      clear HDE hgr hown5 kb5 kb c2 z2
      go_wp2_with fail
      go_ret
      rw [HSP.out]
      have hgr := HG.out
      have h2 := HE2.out
      have hm := HM.out
      have hk2 : Kept (fun k => k = be ∨ v.ownBlock = some k) w2 (w5.setCell ⟨be, 1, none⟩ (.slice (some ⟨g, 0, none⟩) (i + m) cap)) :=
        ((Kept.refl _ _).grown hgr (fun k hk => .inl (.inr hk))).setCell (.inl (.inl rfl)) _
      have hgv : g ≠ be := by
        rintro rfl
        exact own_blk_ne HO5.out HKB.out (by decide) rfl
      refine ⟨wv1, .slice (some ⟨g, 0, none⟩) (i + m) cap, l.take i ++ l.drop (i + 1), rfl, ?_, HO1.out, ?_, by simp, ?_, ?_⟩
      · refine HD2.out.kept hk2 ?_ ?_
        · rintro (hx | hx)
          · exact Blk.ne_ HD2.out.blk h2.blk (by decide) hx
          · exact own_blk_ne h2.row HD2.out.blk (by decide) hx
        · rintro q hq (hx | hx)
          · exact own_blk_ne HD2.out.row h2.blk (by decide) (by rw [hq, hx])
          · exact own_own_ne9 HD2.out.row h2.row (by decide) hq hx
      · have hlen2 : (l.take i ++ l.drop (i + 1)).length = i + m := by simp; omega
        refine ⟨HKB.out.set_ 1 _, ?_, ?_, by omega⟩
        · rw [hlen2]
          have := own_kept (S := fun k => k = be) HO5.out ((Kept.refl _ _).set1 (i := 1) (.slice (some ⟨g, 0, none⟩) (i + m) cap)) (fun q hq he => by
            have : g = q := by simpa [Value.ownBlock] using hq
            omega)
          rw [← En.flatR_del l i hil]
          exact this
        · intro r hr
          have hrl : r ∈ l := by
            rcases List.mem_append.1 hr with hr | hr
            · exact List.mem_of_mem_take hr
            · exact List.mem_of_mem_drop hr
          exact own_kept (h2.devs r hrl) hk2 (fun q hq hx => by
            rcases hx with hx | hx
            · exact own_blk_ne (h2.devs r hrl) h2.blk (by decide) (by rw [hq, hx])
            · exact own_own_ne9 (h2.devs r hrl) h2.row (by decide) hq hx)
      · rcases hat with hat | hat
        · exact .inl (by rw [hat]; rfl)
        · refine .inr fun k hk => ?_
          have : g = k := by simpa [Value.ownBlock] using hk
          omega
      · exact (HK2.out.mono fun k h => .inl h).then_ hk2 (fun k _ h => by
          rcases h with h | h
          · exact .inr (.inl h)
          · exact .inr (.inr h))
  · have HS1 := Lib.hid (stepS_dead hdd)
    rw [HS1.out] at HD1 ⊢
    dsimp only at HD1 ⊢
    rw [errV_pos 11 (by omega)]
    go_wp2_with fail
    go_ret
    exact EnP.same (f := 11) HD1.out HO1.out h1 HK1.out (by rw [En.stopP_dead hdd]) (by rw [errV_pos 11 (by omega)]; rfl)
theorem EnNew_any (base bd : Nat) (w : World) :
    Calls Try.prog 76 #[.pointer (some ⟨bd, 0, none⟩)] w (fun e w' => e = .returned (.pointer (some ⟨w.heap.size, 0, none⟩)) ∧ En.Is w' base w.heap.size bd (.slice none 0 0) [] ∧ Below w.heap.size w w') := by
  go_enter Try.func76, Try.ntmps76
  go_wp2
  go_ret
  exact ⟨rfl, ⟨Blk.new _ _ _, World.ownsRow_nil _ _ _ _, by simp, by simp⟩, (Below.refl _ _).alloc (Nat.le_refl _) _⟩
/-- What List tells: copies. -/
def ListP (l : List En.PR) (w : World) (e : Ending) (w' : World) : Prop :=
  ∃ A c l', e = .returned (.slice A l'.length c) ∧ l'.map En.Run.pr = l ∧ w'.ownsRow w.heap.size 117 4 (.slice A l'.length c) l'.length (En.flatR l') ∧ (∀ r ∈ l', w'.ownsRow w.heap.size 3 1 (.slice r.dA r.devs.length r.dc) r.devs.length (En.intsV r.devs)) ∧ Below w.heap.size w w'
set_option maxRecDepth 100000 in
set_option maxHeartbeats 2000000 in
theorem List_any (base be bd : Nat) (v : Value) (l : List En.Run) (w : World) (h : En.Is w base be bd v l) (hdl : ∀ r ∈ l, r.devs.length ≤ 1000000) :
    Calls Try.prog 80 #[.pointer (some ⟨be, 0, none⟩)] w (ListP (l.map En.Run.pr) w) := by
  have hc := h.blk.cells
  have hlen := h.len
  obtain ⟨A, cap, rfl, q1, q2, q3⟩ := own_form h.row
  unfold maxLen at q2
  have HR := Lib.hid h.row
  have HQ := Lib.hid q3
  have HD := Lib.hid h.devs
  have HL := Lib.hid hdl
  clear h q3 hdl
  go_enter Try.func80, Try.ntmps80
  go_wp2_with fail
  clear hc
  go_loopw [3, 11] (fun v3 i wi => ∃ (A3 : Option Addr) (c3 : Nat) (l3 : List En.Run), i = .int .i64 l3.length ∧ l3.length ≤ l.length ∧ v3 = .slice A3 l3.length c3 ∧ Hid (l3.map En.Run.pr = (l.map En.Run.pr).take l3.length) ∧ wi.ownsRow w.heap.size 117 4 (.slice A3 l3.length c3) l3.length (En.flatR l3) ∧ Hid (∀ r ∈ l3, wi.ownsRow w.heap.size 3 1 (.slice r.dA r.devs.length r.dc) r.devs.length (En.intsV r.devs)) ∧ Below w.heap.size w wi) (fun _ i _ => l.length - (intOf i).toNat)
  case atStart => exact ⟨none, 0, [], rfl, by simp, rfl, Lib.hid (by simp), World.ownsRow_nil _ _ _ _, Lib.hid (by simp), Below.refl _ _⟩
  case round =>
    obtain ⟨A3, c3, l3, rfl, hk, rfl, HM, hown, HV, hbi⟩ := hrel
    by_cases hlt : l3.length < l.length
    · obtain ⟨g, rfl, hg, _⟩ := HQ.out (by omega)
      have r0 := (hbi.cell (p := ⟨g, l3.length * 4, none⟩) hg).trans ((HR.out.cellAt (l3.length * 4 + 0) (by omega)).trans (En.flatR_at l l3.length hlt 0 (by omega)))
      have r1 := (hbi.cell (p := ⟨g, l3.length * 4 + 1, none⟩) hg).trans ((HR.out.cellAt (l3.length * 4 + 1) (by omega)).trans (En.flatR_at l l3.length hlt 1 (by omega)))
      have r2 := (hbi.cell (p := ⟨g, l3.length * 4 + 2, none⟩) hg).trans ((HR.out.cellAt (l3.length * 4 + 2) (by omega)).trans (En.flatR_at l l3.length hlt 2 (by omega)))
      have r3 := (hbi.cell (p := ⟨g, l3.length * 4 + 3, none⟩) hg).trans ((HR.out.cellAt (l3.length * 4 + 3) (by omega)).trans (En.flatR_at l l3.length hlt 3 (by omega)))
      have hdv := HD.out l[l3.length] (List.getElem_mem hlt)
      have hdl := HL.out l[l3.length] (List.getElem_mem hlt)
      have hnx : (l.map En.Run.pr).take (l3.length + 1) = (l.map En.Run.pr).take l3.length ++ [En.Run.pr l[l3.length]] := by
        rw [List.take_succ_eq_append_getElem (by simpa using hlt)]
        simp
      have HNX := Lib.hid hnx
      have hrd : RdI wr (fun _ => True) l[l3.length].dA l[l3.length].devs := RdI.below (RdI.own hdv) hbi
      generalize l[l3.length] = r at *
      obtain ⟨rp, rc, rx, rd, rA, rdc⟩ := r
      simp only [En.Run.cells] at r0 r1 r2 r3
      dsimp only at hdl hrd
      have HRD := Lib.hid hrd
      have HB := Lib.hid hbi
      have HOW := Lib.hid hown
      clear hnx hdv hrd hown
      go_upto_region 5 with fail
      have hba : Below wr.heap.size wr (wr.alloc (.cells #[.string rp, .string rc, .int .u64 rx, .slice rA rd.length rdc] 117)) := (Below.refl _ _).alloc (Nat.le_refl _) _
      have kb := Blk.new wr 117 #[.string rp, .string rc, .int .u64 rx, .slice rA rd.length rdc]
      have HRD1 := Lib.hid (HRD.out.below hba)
      have HBA := Lib.hid hba
      generalize wr.alloc (.cells #[.string rp, .string rc, .int .u64 rx, .slice rA rd.length rdc] 117) = wa at *
      have c1 := kb.cells
      clear r0 r1 r2 r3 hba HRD
      go_wp2_with fail
      refine (copied_any rp rc rx rA rdc rd (fun _ => True) wa hdl HRD1.out).mono ?_
      rintro e w3 ⟨A', c', rfl, hown3, hb3⟩
      have hab := HBA.out.trans (hb3.mono HBA.out.size)
      have ho3 := own_below HOW.out hab
      have hz3 : w.heap.size ≤ w3.heap.size := Nat.le_trans HB.out.size hab.size
      have HAB := Lib.hid hab
      have HO3 := Lib.hid hown3
      have HZ := Lib.hid (show wr.heap.size ≤ wa.heap.size from HBA.out.size)
      clear c1 kb hown3 hb3 hab HRD1 HBA
      go_wp2_with (at_builtin; refine wpList_app _ runT rfl (.tmp 15) (.tmp 18) rfl w.heap.size (.slice A3 l3.length c3) l3.length (En.flatR l3) rfl (by exact ho3.alloc _) ⟨w3.heap.size, 0, none⟩ 1 1 [.string rp, .string rc, .int .u64 rx, .slice A' rd.length c'] rfl rfl (news_new w3 _ _) (by simp [Value.oneCell']) (by omega) (by unfold maxLen; omega) (by omega) (by simp; omega) ?_; intro g5 c5 w5 hown5 hgr5 hat5 hlt5)
      have hg5 := Lib.hid hgr5
      have ho5 := Lib.hid hown5
      have HO3b := Lib.hid ho3
      clear hgr5 hown5 hat5 ho3
      go_wp2_with fail
      go_roundw
      case rel =>
        refine ⟨some ⟨g5, 0, none⟩, c5, l3 ++ [⟨rp, rc, rx, rd, A', c'⟩], by rw [List.length_append]; go_num, by simp; omega, by simp, ?_, ?_, ?_, ?_⟩
        · refine Lib.hid ?_
          rw [List.length_append]
          refine Eq.trans ?_ HNX.out.symm
          rw [← HM.out]
          simp [En.Run.pr]
        · have := ho5.out
          rw [List.length_append]
          simpa [En.flatR, En.Run.cells] using this
        · refine Lib.hid fun r hr => ?_
          have hk5 : Kept (fun k => (Value.slice A3 l3.length c3).ownBlock = some k) w3 w5 := ((Kept.refl _ _).alloc _).grown hg5.out (fun k hk => .inl hk)
          rcases List.mem_append.1 hr with hr | hr
          · have h3 := own_below (HV.out r hr) HAB.out
            exact own_kept h3 hk5 (fun q hq hx => own_own_ne9 h3 HO3b.out (by decide) hq hx)
          · obtain rfl : r = _ := by simpa using hr
            refine own_kept (own_base HO3.out (by have := HB.out.size; have := HZ.out; omega)) hk5 (fun q hq hx => own_own_ne9 HO3.out HO3b.out (by decide) hq hx)
        · have h1 := HB.out.trans (HAB.out.mono HB.out.size)
          exact (h1.alloc h1.size _).grown hg5.out (Nat.le_trans h1.size (by simp)) fun q hq => (HO3b.out.lt q hq).1
      case measure => simp [intOf]; omega
    · have hm : l3.map En.Run.pr = l.map En.Run.pr := by rw [HM.out, List.take_of_length_le (by simp; omega)]
      have HMM := Lib.hid hm
      have HOW := Lib.hid hown
      clear hm hown HM
      go_wp2_with fail
      go_ret
      exact ⟨A3, c3, l3, rfl, HMM.out, HOW.out, HV.out, hbi⟩
end Go.Proofs.Yticmfflnenoplaa
