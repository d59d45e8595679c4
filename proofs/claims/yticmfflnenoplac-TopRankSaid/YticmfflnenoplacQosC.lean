/- qos.amount, ostleryref.amountFault, qos.cont: their walks. -/
import Derived.Test.YticmfflnenoplacQosB
import Derived.Test.YticmfflnenoplacSl
import Derived.Test.YticmfflnenoplacFlo
namespace Go.Proofs.Yticmfflnenoplac
open Go.RowKit Qo Da
def RetEB (n : Int) (w : World) (e : Ending) (w' : World) : Prop := e = .returned (errV n) ∧ Below w.heap.size w w'
def RetIB (n : Int) (w : World) (e : Ending) (w' : World) : Prop := e = .returned (.int .i64 n) ∧ Below w.heap.size w w'
theorem RetEB.nil {n : Int} {w w' : World} (h : n = 0) (hb : Below w.heap.size w w') : RetEB n w (.returned .nilIface) w' := ⟨by rw [h]; rfl, hb⟩
theorem RetEB.err {n m : Int} {w w' : World} (h : n = m) (hm : m ≠ 0) (hb : Below w.heap.size w w') : RetEB n w (.returned (.iface 53 (.int .i64 m))) w' := ⟨by rw [h, errV_pos m hm], hb⟩
theorem RetEB.thru {n m : Int} {w w' : World} (h : n = m) (hb : Below w.heap.size w w') : RetEB n w (.returned (errV m)) w' := ⟨by rw [h], hb⟩
theorem RetIB.of {n m : Int} {w w' : World} (h : n = m) (hb : Below w.heap.size w w') : RetIB n w (.returned (.int .i64 m)) w' := ⟨by rw [h], hb⟩
theorem amt_cases (m b : Int) : (amtBad m b = true ∧ (m < 0 ∨ (0 ≤ m ∧ 1000000 < m) ∨ (0 ≤ m ∧ m ≤ 1000000 ∧ b < 0) ∨ (0 ≤ m ∧ m ≤ 1000000 ∧ 0 ≤ b ∧ 1125899906842624 < b))) ∨ (amtBad m b = false ∧ 0 ≤ m ∧ m ≤ 1000000 ∧ 0 ≤ b ∧ b ≤ 1125899906842624) := by
  unfold amtBad
  simp only [Bool.or_eq_true, decide_eq_true_eq, Bool.or_eq_false_iff, decide_eq_false_iff_not]
  omega
set_option maxHeartbeats 1000000 in
theorem amount_any (m b : Int) (w : World) : Calls Try.prog 26 #[.agg #[.int .i64 m, .int .i64 b]] w (RetEB (amtF m b) w) := by
  rcases amt_cases m b with ⟨h, hd⟩ | ⟨h, h1, h2, h3, h4⟩
  · have HF := Lib.hid h
    clear h
    rcases hd with hd | ⟨h1, hd⟩ | ⟨h1, h2, hd⟩ | ⟨h1, h2, h3, hd⟩
    all_goals
      go_enter Try.func26, Try.ntmps26
      go_wp2_with fail
      go_ret
      exact RetEB.err (amtF_yes HF.out) (by omega) ((Below.refl _ _).alloc (Nat.le_refl _) _)
  · have HF := Lib.hid h
    clear h
    go_enter Try.func26, Try.ntmps26
    go_wp2_with fail
    go_ret
    exact RetEB.nil (amtF_no HF.out) ((Below.refl _ _).alloc (Nat.le_refl _) _)
/-- The block of a container, boxed. -/
theorem cont_cells {w : World} {B : Nat} {cs : List Value} {c : Cont} (h : RCont w B cs c) : ∃ A cap, cs = [.string c.name, .int .i64 c.askM, .int .i64 c.askB, .int .i64 c.capM, .int .i64 c.capB, .slice A c.devs.length cap] ∧ c.name.size ≤ maxLen ∧ c.devs.length ≤ cap ∧ cap ≤ maxLen ∧ RSlice w B 2 RNeed [.slice A c.devs.length cap] c.devs ∧ (∀ k, k < c.devs.length → ∃ b off, A = some ⟨b, off, none⟩ ∧ b < B) := by
  obtain ⟨dv, h1, h2, _, _, _, _, h3⟩ := h
  obtain ⟨A, cap, e, e1, e2, e3⟩ := RS.form (RS.of h3)
  obtain rfl : dv = _ := by simpa using e
  exact ⟨A, cap, h1, h2, e1, e2, h3, e3⟩
theorem cont_bounds {w : World} {B : Nat} {cs : List Value} {c : Cont} (h : RCont w B cs c) : (-9223372036854775808 ≤ c.askM ∧ c.askM ≤ 9223372036854775807) ∧ (-9223372036854775808 ≤ c.askB ∧ c.askB ≤ 9223372036854775807) ∧ (-9223372036854775808 ≤ c.capM ∧ c.capM ≤ 9223372036854775807) ∧ (-9223372036854775808 ≤ c.capB ∧ c.capB ≤ 9223372036854775807) := by
  obtain ⟨dv, h1, h2, a, b, c, d, h3⟩ := h
  exact ⟨a, b, c, d⟩
theorem need_at {w : World} {B : Nat} {b off n cap : Nat} {l : List Need} (h : RSlice w B 2 RNeed [.slice (some ⟨b, off, none⟩) n cap] l) {k : Nat} (hk : k < l.length) :
    w.cell? ⟨b, off + k * 2, none⟩ = some (.string l[k].kind) ∧ w.cell? ⟨b, off + k * 2 + 1, none⟩ = some (.int .i64 l[k].many) ∧ l[k].kind.size ≤ maxLen ∧ -9223372036854775808 ≤ l[k].many ∧ l[k].many ≤ 9223372036854775807 := by
  obtain ⟨_, cs', q1, q2, q3, q4, q5⟩ := h.at_ hk
  have r0 := q2 0 _ (by rw [q3]; rfl)
  have r1 := q2 1 _ (by rw [q3]; rfl)
  rw [Nat.add_zero] at r0
  exact ⟨r0, r1, q4, q5⟩
theorem cont_amt1 {c : Cont} (h : amtBad c.askM c.askB = true) : contFault c = 1 := by simp [contFault, h]
theorem cont_amt2 {c : Cont} (h : amtBad c.askM c.askB = false) (h2 : amtBad c.capM c.capB = true) : contFault c = 1 := by simp [contFault, h, h2]
theorem cont_shape {c : Cont} (h : amtBad c.askM c.askB = false) (h2 : amtBad c.capM c.capB = false) (h3 : shapeBad c = true) : contFault c = 3 := by simp [contFault, h, h2, h3]
theorem cont_many {c : Cont} (h : amtBad c.askM c.askB = false) (h2 : amtBad c.capM c.capB = false) (h3 : shapeBad c = false) (h4 : 3 < c.devs.length) : contFault c = 2 := by simp [contFault, h, h2, h3, h4]
theorem cont_devs {c : Cont} (h : amtBad c.askM c.askB = false) (h2 : amtBad c.capM c.capB = false) (h3 : shapeBad c = false) (h4 : ¬ 3 < c.devs.length) : contFault c = firstF (needFault c.devs) c.devs.length := by
  unfold contFault
  rw [h, h2, h3]
  simp only [Bool.or_self, Bool.false_eq_true, if_false]
  rw [if_neg h4]
theorem shape_cases (c : Cont) : (shapeBad c = true ∧ ((0 < c.capM ∧ c.capM < c.askM) ∨ (c.capM ≤ 0 ∧ 0 < c.capB ∧ c.capB < c.askB) ∨ (0 < c.capM ∧ c.askM ≤ c.capM ∧ 0 < c.capB ∧ c.capB < c.askB))) ∨
    (shapeBad c = false ∧ ((c.capM ≤ 0 ∧ c.capB ≤ 0) ∨ (c.capM ≤ 0 ∧ 0 < c.capB ∧ c.askB ≤ c.capB) ∨ (0 < c.capM ∧ c.askM ≤ c.capM ∧ c.capB ≤ 0) ∨ (0 < c.capM ∧ c.askM ≤ c.capM ∧ 0 < c.capB ∧ c.askB ≤ c.capB))) := by
  unfold shapeBad
  simp only [Bool.or_eq_true, Bool.and_eq_true, decide_eq_true_eq, Bool.or_eq_false_iff, Bool.and_eq_false_iff, decide_eq_false_iff_not]
  omega
theorem all_succ {P : Nat → Prop} {k : Nat} (h : ∀ j, j < k → P j) (hk : P k) : ∀ j, j < k + 1 → P j := by
  intro j hj
  by_cases he : j = k
  · rw [he]; exact hk
  · exact h j (by omega)
section
attribute [local irreducible] amtBad amtF needBad needFault shapeBad contFault nameMay firstF lessS
set_option maxRecDepth 100000 in
set_option maxHeartbeats 16000000 in
theorem cont_any (c : Cont) (cs : List Value) (B : Nat) (w : World) (hB : B ≤ w.heap.size) (hR : RCont w B cs c) :
    Calls Try.prog 21 #[.agg cs.toArray] w (RetEB (contFault c) w) := by
  obtain ⟨A, cap, rfl, hn, hl, hcap, hD, hA⟩ := cont_cells hR
  unfold maxLen at hn hcap
  have HD := Lib.hid hD
  have HA := Lib.hid hA
  clear hD hA hR
  have k0 := Blk.new w 56 #[.string c.name, .int .i64 c.askM, .int .i64 c.askB, .int .i64 c.capM, .int .i64 c.capB, .slice A c.devs.length cap]
  have hbel : Below w.heap.size w (w.alloc (.cells #[.string c.name, .int .i64 c.askM, .int .i64 c.askB, .int .i64 c.capM, .int .i64 c.capB, .slice A c.devs.length cap] 56)) := (Below.refl _ _).alloc (Nat.le_refl _) _
  go_enter Try.func21, Try.ntmps21
  go_upto_region 2 with fail
  have k1 := Blk.new (w.alloc (.cells #[.string c.name, .int .i64 c.askM, .int .i64 c.askB, .int .i64 c.capM, .int .i64 c.capB, .slice A c.devs.length cap] 56)) 42 #[.int .i64 c.askM, .int .i64 c.askB, .int .i64 c.capM, .int .i64 c.capB]
  have k0' := k0.alloc (.cells #[.int .i64 c.askM, .int .i64 c.askB, .int .i64 c.capM, .int .i64 c.capB] 42)
  have hbel1 : Below w.heap.size w ((w.alloc (.cells #[.string c.name, .int .i64 c.askM, .int .i64 c.askB, .int .i64 c.capM, .int .i64 c.capB, .slice A c.devs.length cap] 56)).alloc (.cells #[.int .i64 c.askM, .int .i64 c.askB, .int .i64 c.capM, .int .i64 c.capB] 42)) := hbel.alloc (by simp) _
  simp only [World.size_alloc] at k1
  generalize (w.alloc (.cells #[.string c.name, .int .i64 c.askM, .int .i64 c.askB, .int .i64 c.capM, .int .i64 c.capB, .slice A c.devs.length cap] 56)).alloc (.cells #[.int .i64 c.askM, .int .i64 c.askB, .int .i64 c.capM, .int .i64 c.capB] 42) = w1 at *
  clear k0 hbel
  go_loopw [14] (fun i wr => ∃ n : Nat, i = .int .i64 n ∧ n ≤ 2 ∧ Hid ((0 < n → amtBad c.askM c.askB = false) ∧ (1 < n → amtBad c.capM c.capB = false)) ∧ Blk wr w.heap.size 56 #[.string c.name, .int .i64 c.askM, .int .i64 c.askB, .int .i64 c.capM, .int .i64 c.capB, .slice A c.devs.length cap] ∧ Blk wr (w.heap.size + 1) 42 #[.int .i64 c.askM, .int .i64 c.askB, .int .i64 c.capM, .int .i64 c.capB] ∧ Below w.heap.size w wr) (fun i _ => 2 - (intOf i).toNat)
  case atStart => exact ⟨0, rfl, by omega, ⟨fun h => by omega, fun h => by omega⟩, k0', k1, hbel1⟩
  case round =>
    obtain ⟨n, rfl, hn, hal, b0, b1, hbel⟩ := hrel
    clear k0' k1 hbel1
    have e1 := b1.cells
    have z1 := b1.lt
    rcases (show n = 0 ∨ n = 1 ∨ n = 2 by omega) with rfl | rfl | rfl
    · cases ha : amtBad c.askM c.askB
      · have HA1 := Lib.hid ha
        have hc := fun W => amount_any c.askM c.askB W
        rw [amtF_no ha] at hc
        have HC := Lib.hid hc
        clear ha hc
        go_wp2_with fail
        refine (HC.out _).mono ?_
        rintro e w2 ⟨rfl, hb2⟩
        rw [errV_0]
        have hal2 : Below wr.heap.size wr (wr.alloc (.cells #[.int .i64 c.askM, .int .i64 c.askB] 42)) := (Below.refl _ _).alloc (Nat.le_refl _) _
        have hb3 := hal2.trans (hb2.mono hal2.size)
        have b0' := b0.below hb3 b0.lt
        have b1' := b1.below hb3 b1.lt
        have hbel' := hbel.trans (hb3.mono hbel.size)
        clear b0 b1 e1 hb2 hal2
        go_wp2_with fail
        go_roundw
        case rel => exact ⟨1, rfl, by omega, by unfold Hid; exact ⟨fun _ => by first | exact HA1.out | trivial, fun h => by omega⟩, b0', b1', hbel'⟩
        case measure => simp [intOf]
      · have HF := Lib.hid (cont_amt1 ha)
        have hc := fun W => amount_any c.askM c.askB W
        rw [amtF_yes ha] at hc
        have HC := Lib.hid hc
        clear ha hc
        go_wp2_with fail
        refine (HC.out _).mono ?_
        rintro e w2 ⟨rfl, hb2⟩
        rw [errV_pos 1 (by omega)]
        go_wp2_with fail
        go_ret
        exact RetEB.err HF.out (by omega) ((hbel.alloc hbel.size _).trans (hb2.mono (by have := hbel.size; simp; omega)))
    · have ha := hal.out.1 (by omega)
      cases hb : amtBad c.capM c.capB
      · have HA1 := Lib.hid hb
        have HA0 := Lib.hid ha
        have hc := fun W => amount_any c.capM c.capB W
        rw [amtF_no hb] at hc
        have HC := Lib.hid hc
        clear ha hc hb
        go_wp2_with fail
        refine (HC.out _).mono ?_
        rintro e w2 ⟨rfl, hb2⟩
        rw [errV_0]
        have hal2 : Below wr.heap.size wr (wr.alloc (.cells #[.int .i64 c.capM, .int .i64 c.capB] 42)) := (Below.refl _ _).alloc (Nat.le_refl _) _
        have hb3 := hal2.trans (hb2.mono hal2.size)
        have b0' := b0.below hb3 b0.lt
        have b1' := b1.below hb3 b1.lt
        have hbel' := hbel.trans (hb3.mono hbel.size)
        clear b0 b1 e1 hb2 hal2
        go_wp2_with fail
        go_roundw
        case rel => exact ⟨2, rfl, by omega, by unfold Hid; exact ⟨fun _ => by first | exact HA0.out | trivial, fun _ => by first | exact HA1.out | trivial⟩, b0', b1', hbel'⟩
        case measure => simp [intOf]
      · have HF := Lib.hid (cont_amt2 ha hb)
        have hc := fun W => amount_any c.capM c.capB W
        rw [amtF_yes hb] at hc
        have HC := Lib.hid hc
        clear ha hc hb
        go_wp2_with fail
        refine (HC.out _).mono ?_
        rintro e w2 ⟨rfl, hb2⟩
        rw [errV_pos 1 (by omega)]
        go_wp2_with fail
        go_ret
        exact RetEB.err HF.out (by omega) ((hbel.alloc hbel.size _).trans (hb2.mono (by have := hbel.size; simp; omega)))
    · rw [show ((2 : Nat) : Int) = 2 from rfl]
      have HA1 := Lib.hid (hal.out.1 (by omega))
      have HA2 := Lib.hid (hal.out.2 (by omega))
      have e0 := b0.cells
      have z0 := b0.lt
      clear e1 b1 z1 hal
      rcases shape_cases c with ⟨hs, hd⟩ | ⟨hs, hd⟩
      · have HF := Lib.hid (cont_shape HA1.out HA2.out hs)
        clear hs
        rcases hd with hd | hd | hd
        all_goals
          go_wp2_with fail
          go_ret
          exact RetEB.err HF.out (by omega) hbel
      · by_cases h3 : 3 < c.devs.length
        · have HF := Lib.hid (cont_many HA1.out HA2.out hs h3)
          clear hs
          rcases hd with hd | hd | hd | hd
          all_goals
            go_wp2_with fail
            go_ret
            exact RetEB.err HF.out (by omega) hbel
        · have HF := Lib.hid (cont_devs HA1.out HA2.out hs h3)
          clear hs
          go_upto_region 8 with fail
          go_cut [51] (fun s wx => s = .bool false ∧ wr = wx)
          case first =>
            rcases hd with hd | hd | hd | hd
            all_goals
              go_wp2_with fail
              go_meet
              exact ⟨by simp <;> omega, rfl⟩
          case rest =>
            obtain ⟨rfl, rfl⟩ := hcut
            clear hd
            go_upto_region 13 with fail
            go_loopw [61] (fun i wi => ∃ k : Nat, i = .int .i64 k ∧ k ≤ c.devs.length ∧ Hid (∀ j, j < k → needFault c.devs j = 0) ∧ Blk wi w.heap.size 56 #[.string c.name, .int .i64 c.askM, .int .i64 c.askB, .int .i64 c.capM, .int .i64 c.capB, .slice A c.devs.length cap] ∧ Below w.heap.size w wi) (fun i _ => c.devs.length - (intOf i).toNat)
            case atStart => exact ⟨0, rfl, by omega, fun j hj => by omega, b0, hbel⟩
            case round =>
              clear b0 e0 z0 hbel
              obtain ⟨k, rfl, hk, hall, b0, hbel⟩ := hrel
              by_cases hlt : k < c.devs.length
              · obtain ⟨b, off, rfl, hb⟩ := HA.out k hlt
                obtain ⟨r0, r1, hks, hm1, hm2⟩ := need_at (HD.out.below (hbel.mono hB)) hlt
                have hat3 := Lib.hid (needFault_bad c.devs k hlt)
                have hat1 := Lib.hid (needFault_out c.devs k hlt)
                have hat0 := Lib.hid (needFault_ok c.devs k hlt)
                have hstop := Lib.hid (firstF_stop hall.out hlt)
                have hz0 := b0.lt
                have e0 := b0.cells
                have hbw : b < wr.heap.size := by have := hbel.size; omega
                unfold maxLen at hks
                have hprev : 0 < k → ∃ s, wr.cell? ⟨b, off + (k - 1) * 2, none⟩ = some (.string s) ∧ needBad c.devs k c.devs[k] = (!nameMay c.devs[k].kind || !lessS s c.devs[k].kind) := by
                  intro hk0
                  obtain ⟨r0', _⟩ := need_at (HD.out.below (hbel.mono hB)) (k := k - 1) (by omega)
                  have := needBad_succ c.devs (k - 1) (by omega) c.devs[k]
                  rw [show k - 1 + 1 = k by omega] at this
                  exact ⟨_, r0', this⟩
                have hz : k = 0 → needBad c.devs k c.devs[k] = !nameMay c.devs[k].kind := by
                  intro h
                  subst h
                  exact needBad_zero _ _
                have HPREV := Lib.hid hprev
                have HZ := Lib.hid hz
                have hNM := fun W => Name_any c.devs[k].kind (by unfold maxLen; omega) W
                clear hprev hz
                generalize hx : c.devs[k] = x at *
                have HX := Lib.hid hx
                clear hx
                obtain ⟨kind, many⟩ := x
                dsimp only at r0 r1 hm1 hm2 hks hNM
                go_upto_region 15 with fail
                have hba : Below w.heap.size w (wr.alloc (.cells #[.string kind, .int .i64 many] 64)) := hbel.alloc hbel.size _
                have b0a := b0.alloc (.cells #[.string kind, .int .i64 many] 64)
                have b9 := Blk.new wr 64 #[.string kind, .int .i64 many]
                have hbwa : b < (wr.alloc (.cells #[.string kind, .int .i64 many] 64)).heap.size := by simp; omega
                have hcl := bcell ((Below.refl wr.heap.size wr).alloc (Nat.le_refl _) (.cells #[.string kind, .int .i64 many] 64))
                have HNM := Lib.hid hNM
                clear r0 r1 e0 b0 hNM
                generalize wr.alloc (.cells #[.string kind, .int .i64 many] 64) = wa at *
                generalize wr.heap.size = pn at *
                have e0 := b0a.cells
                have z0 := b0a.lt
                have e9 := b9.cells
                have z9 := b9.lt
                have hI : Below wa.heap.size wa wa.drew := (Below.refl _ _).drew
                rcases Nat.eq_zero_or_pos k with hk0 | hk0
                · subst hk0
                  have HZ1 := Lib.hid (HZ.out rfl)
                  clear hcl HPREV HZ
                  cases hnm : nameMay kind
                  · rw [hnm] at HNM
                    have HB := Lib.hid (HZ1.out.trans (show (!nameMay kind) = true by rw [hnm]; rfl))
                    clear hnm HZ1
                    refine Flo.region 20 [(0, true), (1, true), (2, false), (3, true), (4, true), (5, true), (6, true), (7, true), (8, true), (9, true), (10, true), (11, true), (12, true), (13, true), (14, true), (15, true), (16, true), (17, true), (18, true), (19, true)] (fun v => Below wa.heap.size wa v) (by kernel_rfl) (by kernel_rfl) rfl hI ?_
                    simp only [List.drop_succ_cons, List.drop_zero]
                    iterate 2 (apply Flo.op rfl (hI := hI); (· intro v hv K hK; obtain ⟨hc, hf⟩ := Flo.bcl hv; go_wp2_with fail; all_goals first | exact Flo.noUndef (by with_reducible assumption) | exact hK); (· rfl))
                    refine Flo.seq rfl fun K hK => ?_
                    go_wp2_with fail
                    refine (HNM.out _).mono ?_
                    rintro e w5 ⟨rfl, rfl⟩
                    go_wp2_with fail
                    refine hK _ _ hI ?_
                    iterate 17 (apply Flo.op rfl (hI := hI); (· intro v hv K hK; obtain ⟨hc, hf⟩ := Flo.bcl hv; go_wp2_with fail; all_goals first | exact Flo.noUndef (by with_reducible assumption) | exact hK); (· rfl))
                    refine Flo.tail fun K hK => ?_
                    go_wp2_with fail
                    go_ret
                    exact RetEB.err (HF.out.trans ((hstop.out (by rw [hat3.out HB.out]; decide)).trans (hat3.out HB.out))) (by omega) (hba.trans (hI.mono hba.size))
                  · rw [hnm] at HNM
                    have HB := Lib.hid (HZ1.out.trans (show (!nameMay kind) = false by rw [hnm]; rfl))
                    clear hnm HZ1
                    refine Flo.region 20 [(0, true), (1, true), (2, false), (3, true), (4, true), (5, true), (6, true), (7, true), (8, true), (9, true), (10, true), (11, true), (12, true), (13, true), (14, true), (15, true), (16, true), (17, true), (18, true), (19, true)] (fun v => Below wa.heap.size wa v) (by kernel_rfl) (by kernel_rfl) rfl hI ?_
                    simp only [List.drop_succ_cons, List.drop_zero]
                    iterate 2 (apply Flo.op rfl (hI := hI); (· intro v hv K hK; obtain ⟨hc, hf⟩ := Flo.bcl hv; go_wp2_with fail; all_goals first | exact Flo.noUndef (by with_reducible assumption) | exact hK); (· rfl))
                    refine Flo.seq rfl fun K hK => ?_
                    go_wp2_with fail
                    refine (HNM.out _).mono ?_
                    rintro e w5 ⟨rfl, rfl⟩
                    go_wp2_with fail
                    refine hK _ _ hI ?_
                    iterate 17 (apply Flo.op rfl (hI := hI); (· intro v hv K hK; obtain ⟨hc, hf⟩ := Flo.bcl hv; go_wp2_with fail; all_goals first | exact Flo.noUndef (by with_reducible assumption) | exact hK); (· rfl))
                    refine Flo.tail fun K hK => ?_
                    rcases (show many < 1 ∨ (1 ≤ many ∧ 16 < many) ∨ (1 ≤ many ∧ many ≤ 16) by omega) with hm | ⟨hm, hm'⟩ | ⟨hm, hm'⟩
                    · have HM := Lib.hid (hat1.out HB.out (.inl hm))
                      go_wp2_with fail
                      go_ret
                      exact RetEB.err (HF.out.trans ((hstop.out (by rw [HM.out]; decide)).trans HM.out)) (by omega) (hba.trans (hI.mono hba.size))
                    · have HM := Lib.hid (hat1.out HB.out (.inr hm'))
                      go_wp2_with fail
                      go_ret
                      exact RetEB.err (HF.out.trans ((hstop.out (by rw [HM.out]; decide)).trans HM.out)) (by omega) (hba.trans (hI.mono hba.size))
                    · have HM := Lib.hid (hat0.out HB.out ⟨hm, hm'⟩)
                      go_wp2_with fail
                      go_roundw
                      case rel => exact ⟨0 + 1, by first | rfl | go_num, by omega, all_succ hall.out HM.out, b0a.drew, hba.trans (hI.mono hba.size)⟩
                      case measure => simp [intOf] <;> omega
                · obtain ⟨s, r0', hnb⟩ := HPREV.out hk0
                  have r0a := (hcl.1 b (off + (k - 1) * 2) hbw).trans r0'
                  have HZ1 := Lib.hid hnb
                  clear hcl HPREV HZ r0' hnb
                  cases hnm : nameMay kind
                  · rw [hnm] at HNM
                    have HB := Lib.hid (HZ1.out.trans (show (!nameMay kind || !lessS s kind) = true by rw [hnm]; rfl))
                    clear hnm HZ1
                    refine Flo.region 20 [(0, true), (1, true), (2, false), (3, true), (4, true), (5, true), (6, true), (7, true), (8, true), (9, true), (10, true), (11, true), (12, true), (13, true), (14, true), (15, true), (16, true), (17, true), (18, true), (19, true)] (fun v => Below wa.heap.size wa v) (by kernel_rfl) (by kernel_rfl) rfl hI ?_
                    simp only [List.drop_succ_cons, List.drop_zero]
                    iterate 2 (apply Flo.op rfl (hI := hI); (· intro v hv K hK; obtain ⟨hc, hf⟩ := Flo.bcl hv; go_wp2_with fail; all_goals first | exact Flo.noUndef (by with_reducible assumption) | exact hK); (· rfl))
                    refine Flo.seq rfl fun K hK => ?_
                    go_wp2_with fail
                    refine (HNM.out _).mono ?_
                    rintro e w5 ⟨rfl, rfl⟩
                    go_wp2_with fail
                    refine hK _ _ hI ?_
                    iterate 17 (apply Flo.op rfl (hI := hI); (· intro v hv K hK; obtain ⟨hc, hf⟩ := Flo.bcl hv; go_wp2_with fail; all_goals first | exact Flo.noUndef (by with_reducible assumption) | exact hK); (· rfl))
                    refine Flo.tail fun K hK => ?_
                    go_wp2_with fail
                    go_ret
                    exact RetEB.err (HF.out.trans ((hstop.out (by rw [hat3.out HB.out]; decide)).trans (hat3.out HB.out))) (by omega) (hba.trans (hI.mono hba.size))
                  · cases hls : Op.bytesLess s.toList kind.toList
                    · rw [hnm] at HNM
                      have HB := Lib.hid (HZ1.out.trans (show (!nameMay kind || !lessS s kind) = true by rw [hnm, lessS_eq, hls]; rfl))
                      clear hnm HZ1
                      refine Flo.region 20 [(0, true), (1, true), (2, false), (3, true), (4, true), (5, true), (6, true), (7, true), (8, true), (9, true), (10, true), (11, true), (12, true), (13, true), (14, true), (15, true), (16, true), (17, true), (18, true), (19, true)] (fun v => Below wa.heap.size wa v) (by kernel_rfl) (by kernel_rfl) rfl hI ?_
                      simp only [List.drop_succ_cons, List.drop_zero]
                      iterate 2 (apply Flo.op rfl (hI := hI); (· intro v hv K hK; obtain ⟨hc, hf⟩ := Flo.bcl hv; go_wp2_with fail; all_goals first | exact Flo.noUndef (by with_reducible assumption) | exact hK); (· rfl))
                      refine Flo.seq rfl fun K hK => ?_
                      go_wp2_with fail
                      refine (HNM.out _).mono ?_
                      rintro e w5 ⟨rfl, rfl⟩
                      go_wp2_with fail
                      refine hK _ _ hI ?_
                      iterate 17 (apply Flo.op rfl (hI := hI); (· intro v hv K hK; obtain ⟨hc, hf⟩ := Flo.bcl hv; go_wp2_with fail; all_goals first | exact Flo.noUndef (by with_reducible assumption) | exact hK); (· rfl))
                      refine Flo.tail fun K hK => ?_
                      go_wp2_with fail
                      go_ret
                      exact RetEB.err (HF.out.trans ((hstop.out (by rw [hat3.out HB.out]; decide)).trans (hat3.out HB.out))) (by omega) (hba.trans (hI.mono hba.size))
                    · rw [hnm] at HNM
                      have HB := Lib.hid (HZ1.out.trans (show (!nameMay kind || !lessS s kind) = false by rw [hnm, lessS_eq, hls]; rfl))
                      clear hnm HZ1
                      refine Flo.region 20 [(0, true), (1, true), (2, false), (3, true), (4, true), (5, true), (6, true), (7, true), (8, true), (9, true), (10, true), (11, true), (12, true), (13, true), (14, true), (15, true), (16, true), (17, true), (18, true), (19, true)] (fun v => Below wa.heap.size wa v) (by kernel_rfl) (by kernel_rfl) rfl hI ?_
                      simp only [List.drop_succ_cons, List.drop_zero]
                      iterate 2 (apply Flo.op rfl (hI := hI); (· intro v hv K hK; obtain ⟨hc, hf⟩ := Flo.bcl hv; go_wp2_with fail; all_goals first | exact Flo.noUndef (by with_reducible assumption) | exact hK); (· rfl))
                      refine Flo.seq rfl fun K hK => ?_
                      go_wp2_with fail
                      refine (HNM.out _).mono ?_
                      rintro e w5 ⟨rfl, rfl⟩
                      go_wp2_with fail
                      refine hK _ _ hI ?_
                      iterate 17 (apply Flo.op rfl (hI := hI); (· intro v hv K hK; obtain ⟨hc, hf⟩ := Flo.bcl hv; go_wp2_with fail; all_goals first | exact Flo.noUndef (by with_reducible assumption) | exact hK); (· rfl))
                      refine Flo.tail fun K hK => ?_
                      rcases (show many < 1 ∨ (1 ≤ many ∧ 16 < many) ∨ (1 ≤ many ∧ many ≤ 16) by omega) with hm | ⟨hm, hm'⟩ | ⟨hm, hm'⟩
                      · have HM := Lib.hid (hat1.out HB.out (.inl hm))
                        go_wp2_with fail
                        go_ret
                        exact RetEB.err (HF.out.trans ((hstop.out (by rw [HM.out]; decide)).trans HM.out)) (by omega) (hba.trans (hI.mono hba.size))
                      · have HM := Lib.hid (hat1.out HB.out (.inr hm'))
                        go_wp2_with fail
                        go_ret
                        exact RetEB.err (HF.out.trans ((hstop.out (by rw [HM.out]; decide)).trans HM.out)) (by omega) (hba.trans (hI.mono hba.size))
                      · have HM := Lib.hid (hat0.out HB.out ⟨hm, hm'⟩)
                        go_wp2_with fail
                        go_roundw
                        case rel => exact ⟨k + 1, by first | rfl | go_num, by omega, all_succ hall.out HM.out, b0a.drew, hba.trans (hI.mono hba.size)⟩
                        case measure => simp [intOf] <;> omega
              · obtain rfl : k = c.devs.length := by omega
                have HZ := Lib.hid (firstF_zero hall.out)
                go_wp2_with fail
                go_ret
                exact RetEB.nil (HF.out.trans HZ.out) hbel
end
end Go.Proofs.Yticmfflnenoplac
